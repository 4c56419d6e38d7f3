/- Contracts of Sum, Zero and the reference's. -/
import Derived.Test.YtggjdfnkmhlliaaDoorRText
import Derived.Test.YtggjdfnkmhlliaaDoorTrm
namespace Go.Proofs.YtggjdfnkmhlliaaDoor.Walks
open Go Go.RowKit Go.Proofs.YtggjdfnkmhlliaaDoor.Aid Go.Proofs.YtggjdfnkmhlliaaDoor.Own Go.Proofs.YtggjdfnkmhlliaaDoorW.PrintWords

/-- A byte as the sum takes it. -/
def sumAt (l : Str) (j : Nat) : Nat := if 148 ≤ j ∧ j < 156 then 32 else (l.getD j 0).toNat
def sumTo (l : Str) : Nat → Nat
  | 0 => 0
  | k + 1 => sumTo l k + sumAt l k
def sumOf (l : Str) : Int := if l.length = 512 then (sumTo l 512 : Int) else -1
theorem sumAt_le (l : Str) (j : Nat) : sumAt l j ≤ 255 := by
  unfold sumAt
  have := (l.getD j 0).toNat_lt
  split <;> omega
theorem sumTo_le (l : Str) (k : Nat) : sumTo l k ≤ 255 * k := by
  induction k with
  | zero => exact Nat.le_refl _
  | succ k ih => rw [sumTo]; have := sumAt_le l k; omega
def IntPost (v : Int) (w : World) (x : Ending) (w' : World) : Prop := x = .returned (.int .i64 v) ∧ w' = w
set_option maxHeartbeats 8000000 in
theorem sum_any {w : World} {A : Option Addr} {l : Str} {n c : Nat} (hn : l.length = n) (hR : RdU w A l) : Calls Tryd.prog 13 #[.slice A n c] w (IntPost (sumOf l) w) := by
  by_cases c0 : n = 512
  · subst c0
    obtain ⟨ad, rfl, hcell⟩ := hR.cells (by omega)
    have HC := Lib.hid hcell
    have HS := Lib.hid (show sumOf l = (sumTo l 512 : Int) from if_pos hn)
    clear hR hcell
    go_enter Tryd.func13, Tryd.ntmps13
    go_wp2_with fail
    go_loopw [3, 4, 5, 11] (fun v3 _ _ v11 u => ∃ i s : Nat, v3 = .int .i64 (s : Int) ∧ v11 = .int .i64 (i : Int) ∧ i ≤ 512 ∧ s ≤ 255 * i ∧ Hid (s = sumTo l i) ∧ w = u) (fun _ _ _ i _ => 512 - (intOf i).toNat)
    case atStart => exact ⟨0, 0, rfl, rfl, by omega, by omega, Lib.hid rfl, rfl⟩
    case round =>
      obtain ⟨i, s, rfl, rfl, hi, hs, HT, rfl⟩ := hrel
      by_cases c1 : i < 512
      · have d1 : decide ((i : Int) < 512) = true := decide_eq_true (by omega)
        have c0 := HC.out i (by omega)
        obtain ⟨x, hx⟩ : ∃ x, l.getD i 0 = x := ⟨_, rfl⟩
        rw [hx] at c0
        have b1 := x.toNat_lt
        by_cases c2 : 148 ≤ i
        · have d2 : decide ((i : Int) ≥ 148) = true := decide_eq_true (by omega)
          have d2' : decide (148 ≤ i) = true := decide_eq_true c2
          by_cases c3 : i < 156
          · have d3 : decide ((i : Int) < 156) = true := decide_eq_true (by omega)
            have d3' : decide (i < 156) = true := decide_eq_true c3
            have HT2 := Lib.hid (show s + 32 = sumTo l (i + 1) by rw [sumTo, ← HT.out, sumAt, if_pos ⟨c2, c3⟩])
            clear c2 c3 hx
            go_wp2_with fail
            exact ⟨⟨i + 1, s + 32, by simp, by simp, by omega, by omega, HT2, by trivial⟩, by simp [intOf]; omega⟩
          · have d3 : decide ((i : Int) < 156) = false := decide_eq_false (by omega)
            have d3' : decide (i < 156) = false := decide_eq_false c3
            have HT2 := Lib.hid (show s + x.toNat = sumTo l (i + 1) by rw [sumTo, ← HT.out, sumAt, if_neg (fun h => c3 h.2), hx])
            clear c2 c3 hx
            go_wp2_with fail
            exact ⟨⟨i + 1, s + x.toNat, by simp, by simp, by omega, by omega, HT2, by trivial⟩, by simp [intOf]; omega⟩
        · have d2 : decide ((i : Int) ≥ 148) = false := decide_eq_false (by omega)
          have d2' : decide (148 ≤ i) = false := decide_eq_false c2
          have HT2 := Lib.hid (show s + x.toNat = sumTo l (i + 1) by rw [sumTo, ← HT.out, sumAt, if_neg (fun h => c2 h.1), hx])
          clear c2 hx
          go_wp2_with fail
          exact ⟨⟨i + 1, s + x.toNat, by simp, by simp, by omega, by omega, HT2, by trivial⟩, by simp [intOf]; omega⟩
      · have d1 : decide ((i : Int) < 512) = false := decide_eq_false (by omega)
        obtain rfl : i = 512 := by omega
        go_wp2_with fail
        go_ret
        exact ⟨by rw [HS.out, ← HT.out]; rfl, rfl⟩
  · have d1 : ((n : Int) != 512) = true := bne_iff_ne.mpr (by omega)
    have HS := Lib.hid (show sumOf l = -1 from if_neg (by omega))
    clear hR
    go_enter Tryd.func13, Tryd.ntmps13
    go_wp2_with fail
    go_ret
    exact ⟨by rw [HS.out]; rfl, rfl⟩
set_option maxHeartbeats 8000000 in
theorem rsum_any {w : World} {A : Option Addr} {l : Str} {n c : Nat} (hn : l.length = n) (hR : RdU w A l) : Calls Tryd.prog 10 #[.slice A n c] w (IntPost (sumOf l) w) := by
  by_cases c0 : n = 512
  · subst c0
    obtain ⟨ad, rfl, hcell⟩ := hR.cells (by omega)
    have HC := Lib.hid hcell
    have HS := Lib.hid (show sumOf l = (sumTo l 512 : Int) from if_pos hn)
    clear hR hcell
    go_enter Tryd.func10, Tryd.ntmps10
    go_wp2_with fail
    go_loopw [3, 4] (fun v3 v4 u => ∃ i s : Nat, v3 = .int .i64 (s : Int) ∧ v4 = .int .i64 (i : Int) ∧ i ≤ 512 ∧ s ≤ 255 * i ∧ Hid (s = sumTo l i) ∧ w = u) (fun _ i _ => 512 - (intOf i).toNat)
    case atStart => exact ⟨0, 0, rfl, rfl, by omega, by omega, Lib.hid rfl, rfl⟩
    case round =>
      obtain ⟨i, s, rfl, rfl, hi, hs, HT, rfl⟩ := hrel
      by_cases c1 : i < 512
      · have d1 : decide ((i : Int) < 512) = true := decide_eq_true (by omega)
        have c0 := HC.out i (by omega)
        obtain ⟨x, hx⟩ : ∃ x, l.getD i 0 = x := ⟨_, rfl⟩
        rw [hx] at c0
        have b1 := x.toNat_lt
        by_cases c2 : 148 ≤ i
        · have d2 : decide ((i : Int) ≥ 148) = true := decide_eq_true (by omega)
          have d2' : decide (148 ≤ i) = true := decide_eq_true c2
          by_cases c3 : i < 156
          · have d3 : decide ((i : Int) < 156) = true := decide_eq_true (by omega)
            have d3' : decide (i < 156) = true := decide_eq_true c3
            have HT2 := Lib.hid (show s + 32 = sumTo l (i + 1) by rw [sumTo, ← HT.out, sumAt, if_pos ⟨c2, c3⟩])
            clear c2 c3 hx
            go_wp2_with fail
            exact ⟨⟨i + 1, s + 32, by simp, by simp, by omega, by omega, HT2, by trivial⟩, by simp [intOf]; omega⟩
          · have d3 : decide ((i : Int) < 156) = false := decide_eq_false (by omega)
            have d3' : decide (i < 156) = false := decide_eq_false c3
            have HT2 := Lib.hid (show s + x.toNat = sumTo l (i + 1) by rw [sumTo, ← HT.out, sumAt, if_neg (fun h => c3 h.2), hx])
            clear c2 c3 hx
            go_wp2_with fail
            exact ⟨⟨i + 1, s + x.toNat, by simp, by simp, by omega, by omega, HT2, by trivial⟩, by simp [intOf]; omega⟩
        · have d2 : decide ((i : Int) ≥ 148) = false := decide_eq_false (by omega)
          have d2' : decide (148 ≤ i) = false := decide_eq_false c2
          have HT2 := Lib.hid (show s + x.toNat = sumTo l (i + 1) by rw [sumTo, ← HT.out, sumAt, if_neg (fun h => c2 h.1), hx])
          clear c2 hx
          go_wp2_with fail
          exact ⟨⟨i + 1, s + x.toNat, by simp, by simp, by omega, by omega, HT2, by trivial⟩, by simp [intOf]; omega⟩
      · have d1 : decide ((i : Int) < 512) = false := decide_eq_false (by omega)
        obtain rfl : i = 512 := by omega
        go_wp2_with fail
        go_ret
        exact ⟨by rw [HS.out, ← HT.out]; rfl, rfl⟩
  · have d1 : ((n : Int) != 512) = true := bne_iff_ne.mpr (by omega)
    have HS := Lib.hid (show sumOf l = -1 from if_neg (by omega))
    clear hR
    go_enter Tryd.func10, Tryd.ntmps10
    go_wp2_with fail
    go_ret
    exact ⟨by rw [HS.out]; rfl, rfl⟩
def zeroOf (l : Str) : Bool := decide (l.length = 512) && noughts (ints l)
set_option maxHeartbeats 8000000 in
theorem zero_any {w : World} {A : Option Addr} {l : Str} {n c : Nat} (hn : l.length = n) (hc : n ≤ c) (hl : n ≤ 1000000) (hR : RdU w A l) : Calls Tryd.prog 14 #[.slice A n c] w (BoolPost (zeroOf l) w) := by
  by_cases c0 : n = 512
  · subst c0
    have HR := Lib.hid hR
    have HC := Lib.hid hc
    have HN := Lib.hid hn
    have HZ := Lib.hid (show zeroOf l = noughts (ints l) by unfold zeroOf; rw [decide_eq_true hn, Bool.true_and])
    clear hR hn hc
    go_enter Tryd.func14, Tryd.ntmps14
    go_wp2_with (first
      | (go_at_call 29
         have ht := trim_any (w := w) (A := A) (l := ints l) (c := c) ⟨#[0]⟩ rfl (by rw [ints_len]; have := HN.out; omega) (by rw [ints_len]; have := HN.out; have := HC.out; omega) (by rw [ints_len]; have := HN.out; omega) HR.out
         rw [ints_len, HN.out] at ht
         refine ht.mono ?_
         rintro x w1 ⟨B, k, d, rfl, hk, m, rfl⟩))
    go_ret
    exact ⟨by rw [HZ.out, ← hk]; rfl, (Only.refl _ w).drewN m⟩
  · have d1 : ((n : Int) == 512) = false := beq_eq_false_iff_ne.mpr (by omega)
    have HZ := Lib.hid (show zeroOf l = false by unfold zeroOf; rw [decide_eq_false (by omega), Bool.false_and])
    clear hR
    go_enter Tryd.func14, Tryd.ntmps14
    go_wp2_with fail
    go_ret
    exact ⟨by rw [HZ.out]; rfl, Only.refl _ w⟩
theorem noughts_no {l : Str} {i : Nat} (hi : i < l.length) (h : l.getD i 0 ≠ 0) : noughts (ints l) = false := by
  refine decide_eq_false fun hall => h ?_
  have := hall i (by rw [ints_len]; exact hi)
  rw [ints_get hi] at this
  exact UInt8.toNat.inj (by exact_mod_cast this)
theorem noughts_yes {l : Str} (h : ∀ j, j < l.length → l.getD j 0 = 0) : noughts (ints l) = true := by
  refine decide_eq_true fun j hj => ?_
  rw [ints_len] at hj
  rw [ints_get hj, h j hj]; rfl
set_option maxHeartbeats 8000000 in
theorem rzero_any {w : World} {A : Option Addr} {l : Str} {n c : Nat} (hn : l.length = n) (hl : n ≤ 1000000) (hR : RdU w A l) : Calls Tryd.prog 15 #[.slice A n c] w (BoolPost (zeroOf l) w) := by
  have HR := Lib.hid hR
  have HN := Lib.hid hn
  have b0 : (n : Int) ≤ 1000000 := by omega
  clear hR hn
  go_enter Tryd.func15, Tryd.ntmps15
  go_wp2_with fail
  go_loopw [3] (fun v3 u => ∃ i : Nat, v3 = .int .i64 (i : Int) ∧ i ≤ n ∧ Hid (∀ j, j < i → l.getD j 0 = 0) ∧ w = u) (fun i _ => n - (intOf i).toNat)
  case atStart => exact ⟨0, rfl, by omega, Lib.hid (fun j h => absurd h (by omega)), rfl⟩
  case round =>
    obtain ⟨i, rfl, hi, HI, rfl⟩ := hrel
    by_cases c1 : i < n
    · have d1 : decide ((i : Int) < (n : Int)) = true := decide_eq_true (by omega)
      have d1' : decide (i < n) = true := decide_eq_true c1
      have d3 : (i : Int) < (n : Int) := by omega
      obtain ⟨ad, rfl, hcell⟩ := HR.out.cells (by have := HN.out; omega)
      have c0 := hcell i (by have := HN.out; omega)
      obtain ⟨x, hx⟩ : ∃ x, l.getD i 0 = x := ⟨_, rfl⟩
      rw [hx] at c0
      have t1 : ((x.toNat : Int) != 0) = !decide (x = 0) := by show (!((x.toNat : Int) == 0)) = _; rw [byte_eq (x := x) (y := 0) 0 rfl]
      clear hcell
      by_cases c2 : x = 0
      · rw [decide_eq_true c2] at t1
        have HI2 := Lib.hid (show ∀ j, j < i + 1 → l.getD j 0 = 0 from fun j hj => by
          by_cases e : j = i
          · subst e; rw [hx]; exact c2
          · exact HI.out j (by omega))
        clear c2 hx
        go_wp2_with fail
        exact ⟨⟨i + 1, by simp, by omega, HI2, by trivial⟩, by simp [intOf]; omega⟩
      · rw [decide_eq_false c2] at t1
        have HZ := Lib.hid (show zeroOf l = false by unfold zeroOf; rw [noughts_no (i := i) (by have := HN.out; omega) (by rw [hx]; exact c2), Bool.and_false])
        clear c2 hx
        go_wp2_with fail
        go_ret
        exact ⟨by rw [HZ.out]; rfl, Only.refl _ w⟩
    · have d1 : decide ((i : Int) < (n : Int)) = false := decide_eq_false (by omega)
      have d1' : decide (i < n) = false := decide_eq_false c1
      obtain rfl : i = n := by omega
      have HZ := Lib.hid (show zeroOf l = decide (l.length = 512) by unfold zeroOf; rw [noughts_yes (fun j hj => HI.out j (by have := HN.out; omega)), Bool.and_true])
      have HE := Lib.hid (show ((i : Int) == 512) = decide (l.length = 512) by
        rw [HN.out]
        by_cases h : i = 512
        · rw [decide_eq_true h, h]; rfl
        · rw [decide_eq_false h]; exact beq_eq_false_iff_ne.mpr (by omega))
      go_wp2_with fail
      go_ret
      exact ⟨by rw [HZ.out, ← HE.out]; rfl, Only.refl _ w⟩
end Go.Proofs.YtggjdfnkmhlliaaDoor.Walks
