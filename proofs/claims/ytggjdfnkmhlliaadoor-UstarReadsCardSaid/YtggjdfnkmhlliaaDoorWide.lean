/- Contract of num.wide. -/
import Derived.Test.YtggjdfnkmhlliaaDoorTxt
namespace Go.Proofs.YtggjdfnkmhlliaaDoor.Walks
open Go Go.RowKit Go.Proofs.YtggjdfnkmhlliaaDoor.Aid Go.Proofs.YtggjdfnkmhlliaaDoor.Own Go.Proofs.YtggjdfnkmhlliaaDoorW.PrintWords

/-- A number to the base b, the highest digit first. -/
def numB (b z : Nat) (l : Str) : Nat := l.foldl (fun a d => a * b + (d.toNat - z)) 0
theorem numB_from (b z : Nat) (l : Str) (a : Nat) : l.foldl (fun a d => a * b + (d.toNat - z)) a = a * b ^ l.length + numB b z l := by
  unfold numB
  induction l generalizing a with
  | nil => simp
  | cons x r ih =>
    rw [List.foldl_cons, List.foldl_cons, ih, ih (0 * b + (x.toNat - z)), List.length_cons, Nat.pow_succ]
    rw [Nat.zero_mul, Nat.zero_add, Nat.add_mul, Nat.mul_assoc, Nat.mul_comm b (b ^ r.length), Nat.add_assoc]
theorem numB_append (b z : Nat) (p q : Str) : numB b z (p ++ q) = numB b z p * b ^ q.length + numB b z q := by
  unfold numB
  rw [List.foldl_append, numB_from]
  rfl
theorem numB_snoc (b z : Nat) (p : Str) (x : UInt8) : numB b z (p ++ [x]) = numB b z p * b + (x.toNat - z) := by
  rw [numB_append]; simp [numB]
theorem numB_part {b z : Nat} (hb : 0 < b) (l : Str) (i : Nat) (hi : i < l.length) : numB b z (l.take i) * b ≤ numB b z l := by
  conv => rhs; rw [← List.take_append_drop i l, numB_append]
  have h1 : (l.drop i).length = (l.length - i - 1) + 1 := by rw [List.length_drop]; omega
  rw [h1, Nat.pow_succ]
  have h2 : 1 ≤ b ^ (l.length - i - 1) := Nat.one_le_iff_ne_zero.mpr (Nat.pos_iff_ne_zero.mp (Nat.pow_pos hb))
  have h3 : numB b z (l.take i) * b ≤ numB b z (l.take i) * (b ^ (l.length - i - 1) * b) := Nat.mul_le_mul_left _ (Nat.le_mul_of_pos_left _ (by omega))
  omega
theorem numB_le {b z : Nat} (hb : 0 < b) (l : Str) (i : Nat) : numB b z (l.take i) ≤ numB b z l := by
  conv => rhs; rw [← List.take_append_drop i l, numB_append]
  have h2 : 1 ≤ b ^ (l.drop i).length := Nat.one_le_iff_ne_zero.mpr (Nat.pos_iff_ne_zero.mp (Nat.pow_pos hb))
  have h3 : numB b z (l.take i) ≤ numB b z (l.take i) * b ^ (l.drop i).length := Nat.le_mul_of_pos_right _ (by omega)
  omega
def MOST : Nat := 4611686018427387904
def ranged (n : Nat) : Int × Int := if n ≤ MOST then ((n : Int), 0) else (0, 7)
def wideL : Str → Int × Int
  | [] => (0, 2)
  | c :: r => if c = 128 then ranged (numB 256 0 r) else (0, 2)
theorem or_u64 (s : Nat) {v x : Int} (h0 : 0 ≤ v) (h1 : v * 2 ^ s < 2 ^ 64) (hx : 0 ≤ x) (hx2 : x < 2 ^ s) (hx3 : x < 2 ^ 64) : Go.bits .or .u64 (v * 2 ^ s) x = v * 2 ^ s + x := by
  have hp : (0 : Int) < 2 ^ s := Int.pow_pos (by decide)
  exact bits_join .u64 64 (by decide) stays_u64.2 s (v * 2 ^ s) x (Int.mul_nonneg h0 (Int.le_of_lt hp)) (Int.mul_emod_left _ _) h1 hx hx2 hx3
set_option maxRecDepth 100000 in
set_option maxHeartbeats 4000000 in
theorem wide_any (S : ByteArray) (w : World) (hs : S.size ≤ 1000000) (h0 : S.data.toList ≠ []) : Calls Tryd.prog 32 #[.string S] w fun e w' => e = .returned (.tuple #[.int .i64 (wideL S.data.toList).1, .int .i64 (wideL S.data.toList).2]) ∧ w' = w := by
  cases hl : S.data.toList with
  | nil => exact absurd hl h0
  | cons c r =>
    have hsz : S.size = r.length + 1 := by
      have : S.data.toList.length = S.size := rfl
      rw [hl] at this; simpa using this.symm
    have hx := index_at (S := S) (i := 0) (by omega)
    rw [hl, List.getD_cons_zero] at hx
    have hpos : 0 < S.size := by omega
    by_cases hc : c = 128
    · have e1 : ((c.toNat : Int) != 128) = false := by rw [hc]; rfl
      have HW := Lib.hid (show wideL (c :: r) = ranged (numB 256 0 r) by show (if c = 128 then _ else _) = _; rw [if_pos hc])
      have HS := Lib.hid hs
      have HZ := Lib.hid hsz
      have HL := Lib.hid hl
      have b0 : (S.size : Int) ≤ 1000000 := by omega
      clear hc hl h0 hs
      go_enter Tryd.func32, Tryd.ntmps32
      go_wp2_with fail
      clear hx
      go_loopw [4, 5] (fun v4 v5 u => ∃ (i : Nat) (v : Nat), v4 = .int .u64 (v : Int) ∧ v5 = .int .i64 (i : Int) ∧ 1 ≤ i ∧ i ≤ S.size ∧ Hid (v = numB 256 0 (r.take (i - 1))) ∧ v ≤ 4611686018427387904 + 255 ∧ u = w) (fun _ i _ => S.size - (intOf i).toNat)
      case atStart => exact ⟨1, 0, rfl, rfl, by decide, by omega, Lib.hid rfl, by omega, rfl⟩
      case round =>
        obtain ⟨i, v, rfl, rfl, hi1, hi2, HV, hv, rfl⟩ := hrel
        by_cases c1 : i < S.size
        · have d1 : decide ((i : Int) < (S.size : Int)) = true := decide_eq_true (by omega)
          have d1' : decide (i < S.size) = true := decide_eq_true c1
          have d2 : (i : Int) < (S.size : Int) := by omega
          by_cases c2 : v > 18014398509481984
          · have d3 : decide ((v : Int) > 18014398509481984) = true := decide_eq_true (by omega)
            have d3' : decide (v > 18014398509481984) = true := decide_eq_true c2
            have HR := Lib.hid (show ranged (numB 256 0 r) = (0, 7) by
              unfold ranged MOST
              have := numB_part (b := 256) (z := 0) (by decide) r (i - 1) (by have := HZ.out; omega)
              rw [← HV.out] at this
              rw [if_neg (by omega)])
            clear c2
            go_wp2_with fail
            go_ret2
            exact ⟨by rw [HW.out, HR.out]; rfl, rfl⟩
          · have d3 : decide ((v : Int) > 18014398509481984) = false := decide_eq_false (by omega)
            have d3' : decide (v > 18014398509481984) = false := decide_eq_false c2
            have hxi := index_at c1
            rw [HL.out] at hxi
            obtain ⟨x, hxx⟩ : ∃ x, (c :: r).getD i 0 = x := ⟨_, rfl⟩
            rw [hxx] at hxi
            have hx2 : (x.toNat : Int) < 256 := by have := x.toNat_lt; omega
            have HO := Lib.hid (or_u64 8 (v := (v : Int)) (x := (x.toNat : Int)) (by omega) (by omega) (by omega) (by omega) (by omega))
            have HV2 := Lib.hid (show v * 256 + x.toNat = numB 256 0 (r.take (i + 1 - 1)) by
              have hr : r.getD (i - 1) 0 = x := by
                rw [← hxx]
                obtain ⟨j, rfl⟩ : ∃ j, i = j + 1 := ⟨i - 1, by omega⟩
                rfl
              rw [show i + 1 - 1 = (i - 1) + 1 by omega, take_snoc (by have := HZ.out; omega) hr, numB_snoc, ← HV.out]; rfl)
            have w1 : IntKind.u64.wrap ((v : Int) * 256) = (v : Int) * 256 := u64_in (by omega) (by omega)
            have w2 : IntKind.u64.wrap (x.toNat : Int) = (x.toNat : Int) := u64_in (by omega) (by omega)
            have b1 : (i : Int) ≤ 1000000 := by omega
            clear hxx
            go_wp2_with fail
            exact ⟨⟨i + 1, v * 256 + x.toNat, by rw [show ((v : Int) * 256) = (v : Int) * 2 ^ 8 from rfl, HO.out]; rfl, by simp, by omega, by omega, HV2, by omega, by trivial⟩, by simp [intOf]; omega⟩
        · have d1 : decide ((i : Int) < (S.size : Int)) = false := decide_eq_false (by omega)
          have d1' : decide (i < S.size) = false := decide_eq_false c1
          obtain rfl : i = S.size := by omega
          have HV2 := Lib.hid (show v = numB 256 0 r by rw [HV.out, HZ.out, Nat.add_sub_cancel, List.take_length])
          by_cases c2 : v > 4611686018427387904
          · have d3 : decide ((v : Int) > 4611686018427387904) = true := decide_eq_true (by omega)
            have d3' : decide (v > 4611686018427387904) = true := decide_eq_true c2
            have HR := Lib.hid (show ranged (numB 256 0 r) = (0, 7) by unfold ranged MOST; rw [← HV2.out, if_neg (by omega)])
            clear c2
            go_wp2_with fail
            go_ret2
            exact ⟨by rw [HW.out, HR.out]; rfl, rfl⟩
          · have d3 : decide ((v : Int) > 4611686018427387904) = false := decide_eq_false (by omega)
            have d3' : decide (v > 4611686018427387904) = false := decide_eq_false c2
            have HR := Lib.hid (show ranged (numB 256 0 r) = ((v : Int), 0) by unfold ranged MOST; rw [← HV2.out, if_pos (by omega)])
            have w1 : IntKind.i64.wrap (v : Int) = (v : Int) := by rw [IntKind.wrap_i64]; omega
            have w2 : wrap64 (v : Int) = (v : Int) := wrap64_in (by omega) (by omega)
            clear c2
            go_wp2_with fail
            go_ret2
            exact ⟨by rw [HW.out, HR.out]; rfl, rfl⟩
    · have e1 : ((c.toNat : Int) != 128) = true := bne_iff_ne.mpr (fun e => hc (UInt8.toNat.inj (by exact_mod_cast e)))
      have HW := Lib.hid (show wideL (c :: r) = (0, 2) by show (if c = 128 then _ else _) = _; rw [if_neg hc])
      clear hc hl h0 hs hsz
      go_enter Tryd.func32, Tryd.ntmps32
      go_wp2_with fail
      go_ret2
      exact ⟨by rw [HW.out]; rfl, rfl⟩
end Go.Proofs.YtggjdfnkmhlliaaDoor.Walks
