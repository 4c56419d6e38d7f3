/- Contract of the reference's PutOctal. -/
import Derived.Test.YtggjdfnkmhlliaaDoorROct
namespace Go.Proofs.YtggjdfnkmhlliaaDoor.Walks
open Go Go.RowKit Go.Proofs.YtggjdfnkmhlliaaDoor.Aid Go.Proofs.YtggjdfnkmhlliaaDoor.Own Go.Proofs.YtggjdfnkmhlliaaDoorW.PrintWords

theorem and7_i64 (x : Int) : Go.bits .and .i64 x 7 = x % 8 := mask_any stays_i64 (i := 3) (by decide) x
theorem one_str (u : World) (d : UInt8) (y : Int) (hy : y = (d.toNat : Int)) : (convert 22 9 (.slice (some ⟨u.heap.size, 0, none⟩) 1 1)).run Tryd.prog (u.alloc (.cells #[.int .u8 y] 5)) = .ok (.string (B [d])) (u.alloc (.cells #[.int .u8 y] 5)) := by
  subst hy
  refine str_u 1 (RdU.of_cells fun j hj => ?_) rfl
  obtain rfl : j = 0 := by simp at hj; omega
  show (u.alloc _).cell? ⟨u.heap.size, 0, none⟩ = _
  rw [World.cell?]
  simp only [alloc_new]
  rfl
set_option maxRecDepth 100000 in
set_option maxHeartbeats 8000000 in
theorem rputOctal_any (v n : Int) (hv1 : -9223372036854775808 ≤ v) (hv2 : v ≤ 9223372036854775807) (hn1 : -9223372036854775808 ≤ n) (hn2 : n ≤ 9223372036854775807) (w : World) : Calls Tryd.prog 22 #[.int .i64 v, .int .i64 n] w (PutOctPost v n w) := by
  by_cases c1 : n < 2
  · have d1 : decide (n < 2) = true := decide_eq_true c1
    have HR := Lib.hid (show putOct v n = ([], 1) by unfold putOct; rw [if_pos (Or.inl c1)])
    clear c1
    go_enter Tryd.func22, Tryd.ntmps22
    go_wp2_with fail
    go_ret2
    exact ⟨by rw [HR.out]; rfl, Only.refl _ _⟩
  have d1 : decide (n < 2) = false := decide_eq_false c1
  by_cases c2 : n > 32
  · have d2 : decide (n > 32) = true := decide_eq_true c2
    have HR := Lib.hid (show putOct v n = ([], 1) by unfold putOct; rw [if_pos (Or.inr c2)])
    clear c1 c2
    go_enter Tryd.func22, Tryd.ntmps22
    go_wp2_with fail
    go_ret2
    exact ⟨by rw [HR.out]; rfl, Only.refl _ _⟩
  have d2 : decide (n > 32) = false := decide_eq_false c2
  by_cases c3 : v < 0
  · have d3 : decide (v < 0) = true := decide_eq_true c3
    have HR := Lib.hid (show putOct v n = ([], 7) by unfold putOct; rw [if_neg (by omega), if_pos (Or.inl c3)])
    clear c1 c2 c3
    go_enter Tryd.func22, Tryd.ntmps22
    go_wp2_with fail
    go_ret2
    exact ⟨by rw [HR.out]; rfl, Only.refl _ _⟩
  have d3 : decide (v < 0) = false := decide_eq_false c3
  by_cases c4 : v > 4611686018427387904
  · have d4 : decide (v > 4611686018427387904) = true := decide_eq_true c4
    have HR := Lib.hid (show putOct v n = ([], 7) by unfold putOct; rw [if_neg (by omega), if_pos (Or.inr c4)])
    clear c1 c2 c3 c4
    go_enter Tryd.func22, Tryd.ntmps22
    go_wp2_with fail
    go_ret2
    exact ⟨by rw [HR.out]; rfl, Only.refl _ _⟩
  have d4 : decide (v > 4611686018427387904) = false := decide_eq_false c4
  obtain ⟨x, rfl⟩ : ∃ x : Nat, v = x := ⟨v.toNat, by omega⟩
  obtain ⟨m, rfl⟩ : ∃ m : Nat, n = (m + 2 : Nat) := ⟨n.toNat - 2, by omega⟩
  have HR := Lib.hid (show putOct x (m + 2 : Nat) = if x / 8 ^ (m + 1) = 0 then (low 8 48 (m + 1) x ++ [0], 0) else if x / 256 ^ (m + 1) = 0 then (128 :: low 256 0 (m + 1) x, 0) else ([], 7) by
    unfold putOct; rw [if_neg (by omega), if_neg (by omega)]; rfl)
  have b1 : (x : Int) ≤ 4611686018427387904 := by omega
  have b2 : m ≤ 30 := by omega
  clear c1 c2 c3 c4 hv1 hv2 hn1 hn2
  go_enter Tryd.func22, Tryd.ntmps22
  go_wp2_with fail
  go_loopw [6, 7, 8] (fun v6 v7 v8 u => ∃ (k q : Nat), v6 = .string (B (low 8 48 k x ++ [0])) ∧ v7 = .int .i64 (q : Int) ∧ v8 = .int .i64 (k : Int) ∧ k ≤ m + 1 ∧ q ≤ x ∧ Hid (q = x / 8 ^ k) ∧ Hid (Only (fun _ => False) w u)) (fun _ _ i _ => m + 1 - (intOf i).toNat)
  case atStart => exact ⟨0, x, rfl, rfl, rfl, by omega, Nat.le_refl _, Lib.hid (by simp), Lib.hid (Only.refl _ _)⟩
  case round =>
    obtain ⟨k, q, rfl, rfl, rfl, hk, hq, HQ, HO⟩ := hrel
    by_cases c5 : k < m + 1
    · have d5 : decide ((k : Int) < (m : Int) + 1) = true := decide_eq_true (by omega)
      have t1 := and7_i64 (q : Int)
      have t2 : IntKind.u8.wrap ((q : Int) % 8) = (q : Int) % 8 := by rw [IntKind.wrap_u8]; omega
      obtain ⟨s, hs⟩ : ∃ s, low 8 48 k x ++ [0] = s := ⟨_, rfl⟩
      have hlen : s.length = k + 1 := by rw [← hs, List.length_append, low_len]; rfl
      rw [hs]
      have hcv := one_str wr (UInt8.ofNat (48 + q % 8)) (48 + (q : Int) % 8) (by rw [toNat_of (by omega)]; simp)
      have hsz : ¬ ((B [UInt8.ofNat (48 + q % 8)]).size + (B s).size > 9223372036854775807) := by rw [B_size, B_size]; simp; omega
      have HS := Lib.hid (show B [UInt8.ofNat (48 + q % 8)] ++ B s = B (low 8 48 (k + 1) x ++ [0]) by
        rw [concat_B, B_data, B_data, ← hs, low, ← HQ.out]; rfl)
      have HQ2 := Lib.hid (show q / 8 = x / 8 ^ (k + 1) by rw [HQ.out, Nat.div_div_eq_div_mul, ← Nat.pow_succ])
      clear hs hlen
      obtain ⟨D, hD⟩ : ∃ D, B [UInt8.ofNat (48 + q % 8)] = D := ⟨_, rfl⟩
      rw [hD] at hcv hsz HS
      clear hD
      go_wp2_with fail
      exact ⟨⟨k + 1, q / 8, by rw [HS.out], by simp, by simp, by omega, Nat.le_trans (Nat.div_le_self _ _) hq, HQ2, Lib.hid (HO.out.alloc _)⟩, by simp [intOf]; omega⟩
    · have d5 : decide ((k : Int) < (m : Int) + 1) = false := decide_eq_false (by omega)
      obtain rfl : k = m + 1 := by omega
      by_cases c6 : q = 0
      · have d6 : ((q : Int) == 0) = true := by rw [c6]; rfl
        have HR2 := Lib.hid (HR.out.trans (if_pos (HQ.out.symm.trans c6)))
        clear c5 c6
        go_wp2_with fail
        go_ret2
        exact ⟨by rw [HR2.out]; rfl, HO.out⟩
      · have d6 : ((q : Int) == 0) = false := beq_eq_false_iff_ne.mpr (by omega)
        have HR2 := Lib.hid (HR.out.trans (if_neg (fun h => c6 (HQ.out.trans h))))
        clear c5 c6 HQ
        go_wp2_with (first
          | (with_reducible refine gate 44 rfl ?_
             refine own_make (base := wr.heap.size) (w0 := wr) rfl rfl (.tmp 43) rfl (m + 2) rfl (Below.refl _ _) (Nat.le_refl _) (by omega) ?_
             intro v1 w1 hV1 hB1
             obtain ⟨g, cap, rfl, hg⟩ := hV1.form (by rw [List.length_replicate]; omega)
             rw [List.length_replicate] at hV1
             replace hV1 := Lib.hid hV1
             replace hB1 := Lib.hid hB1
             replace hg := Lib.hid hg))
        go_loopw [7, 10] (fun v7 v10 u => ∃ (k q : Nat) (P : List Int), v7 = .int .i64 (q : Int) ∧ v10 = .int .i64 (k : Int) ∧ k ≤ m + 1 ∧ q ≤ x ∧ P.length = k + 1 ∧ Hid (q = x / 256 ^ (m + 1 - k)) ∧ Hid (Own wr.heap.size u (.slice (some ⟨g, 0, none⟩) (m + 2) cap) (P ++ ints (low 256 0 (m + 1 - k) x))) ∧ Hid (Below wr.heap.size wr u)) (fun _ i _ => (intOf i).toNat)
        case atStart =>
          refine ⟨m + 1, x, List.replicate (m + 2) 0, rfl, congrArg (Value.int .i64) (by omega), Nat.le_refl _, Nat.le_refl _, by rw [List.length_replicate], Lib.hid (by simp), Lib.hid ?_, hB1⟩
          have := hV1.out
          rw [Nat.sub_self, show ints (low 256 0 0 x) = [] from rfl, List.append_nil]; exact this
        case round =>
          clear hV1 hB1
          obtain ⟨k, q, P, rfl, rfl, hk, hq, hP, HQ, HOw, HB⟩ := hrel
          cases k with
          | succ k =>
            have d5 : decide ((k : Int) + 1 > 0) = true := decide_eq_true (by omega)
            have c0 := HOw.out.cell (j := k + 1) (by simp; omega)
            have f0 := HOw.out.frozen (j := k + 1) (by omega)
            obtain ⟨y, hy⟩ : ∃ y, (P ++ ints (low 256 0 (m + 1 - (k + 1)) x)).getD (k + 1) 0 = y := ⟨_, rfl⟩
            rw [hy] at c0
            have HP := Lib.hid hP
            clear hy hP
            go_wp2_with fail
            refine ⟨⟨k, q / 256, P.take (k + 1), by simp, by simp, by omega, Nat.le_trans (Nat.div_le_self _ _) hq, by rw [List.length_take]; have := HP.out; omega, Lib.hid ?_, Lib.hid ?_, Lib.hid (HB.out.setCell hg.out _)⟩, by simp [intOf]⟩
            · rw [HQ.out, Nat.div_div_eq_div_mul, ← Nat.pow_succ, show m + 1 - k = m + 1 - (k + 1) + 1 by omega]
            · have h9 := Own.putn HOw.out (k + 1) ((q : Int) % 256)
              rw [set_back HP.out] at h9
              rw [show m + 1 - k = m + 1 - (k + 1) + 1 by omega]
              have e : ints (low 256 0 (m + 1 - (k + 1) + 1) x) = ((q : Int) % 256) :: ints (low 256 0 (m + 1 - (k + 1)) x) := by
                rw [low, ints_cons, ← HQ.out, toNat_of (by omega)]; simp
              rw [e]; exact h9
          | zero =>
            have d7 : decide ((0 : Int) > 0) = false := rfl
            have HQ := Lib.hid (show q = x / 256 ^ (m + 1) from HQ.out)
            have c0 := HOw.out.cell (j := 0) (by simp; omega)
            have f0 := HOw.out.frozen (j := 0) (by omega)
            obtain ⟨y, hy⟩ : ∃ y, (P ++ ints (low 256 0 (m + 1 - 0) x)).getD 0 0 = y := ⟨_, rfl⟩
            rw [hy] at c0
            have h9 := Own.putn HOw.out 0 128
            rw [set_back hP] at h9
            have hS := own_str (show Own _ (wr.setCell ⟨g, 0, none⟩ (.int .u8 128)) (.slice (some ⟨g, 0, none⟩) (m + 2) cap) (ints (128 :: low 256 0 (m + 1) x)) from h9)
            have HON := Lib.hid (HO.out.trans' (Only.of_below (HB.out.setCell (p := ⟨g, 0, none⟩) hg.out (.int .u8 128)) (fun _ => False)))
            have HON2 := Lib.hid (HO.out.trans' (Only.of_below HB.out (fun _ => False)))
            clear hy h9
            by_cases c5 : q = 0
            · have d6 : ((q : Int) != 0) = false := by rw [c5]; rfl
              have HR3 := Lib.hid (HR2.out.trans (if_pos (HQ.out.symm.trans c5)))
              clear c5
              go_wp2_with fail
              go_ret2
              exact ⟨by rw [HR3.out]; rfl, HON.out⟩
            · have d6 : ((q : Int) != 0) = true := bne_iff_ne.mpr (by omega)
              have HR3 := Lib.hid (HR2.out.trans (if_neg (fun h => c5 (HQ.out.trans h))))
              clear c5
              go_wp2_with fail
              go_ret2
              exact ⟨by rw [HR3.out]; rfl, HON2.out⟩
end Go.Proofs.YtggjdfnkmhlliaaDoor.Walks
