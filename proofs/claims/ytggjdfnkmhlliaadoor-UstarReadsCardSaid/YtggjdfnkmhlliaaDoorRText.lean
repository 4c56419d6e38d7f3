/- Contract of the reference's text. -/
import Derived.Test.YtggjdfnkmhlliaaDoorFld
namespace Go.Proofs.YtggjdfnkmhlliaaDoor.Walks
open Go Go.RowKit Go.Proofs.YtggjdfnkmhlliaaDoor.Aid Go.Proofs.YtggjdfnkmhlliaaDoor.Own Go.Proofs.YtggjdfnkmhlliaaDoorW.PrintWords

theorem upTo0_at {l : Str} {i : Nat} (h : i < l.length) (hx : l.getD i 0 = 0) (hp : ∀ j, j < i → l.getD j 0 ≠ 0) : upTo0 l = l.take i := by
  induction i generalizing l with
  | zero =>
    cases l with
    | nil => rfl
    | cons x r => rw [show x = 0 from hx]; rfl
  | succ i ih =>
    cases l with
    | nil => rfl
    | cons x r =>
      have h0 : x ≠ 0 := hp 0 (by omega)
      have e : upTo0 (x :: r) = x :: upTo0 r := List.takeWhile_cons_of_pos (decide_eq_true h0)
      rw [e, ih (by simpa using h) hx (fun j hj => hp (j + 1) (by omega)), List.take_succ_cons]
theorem upTo0_all {l : Str} (hp : ∀ j, j < l.length → l.getD j 0 ≠ 0) : upTo0 l = l := by
  induction l with
  | nil => rfl
  | cons x r ih =>
    have h0 : x ≠ 0 := hp 0 (by simp)
    have e : upTo0 (x :: r) = x :: upTo0 r := List.takeWhile_cons_of_pos (decide_eq_true h0)
    rw [e, ih (fun j hj => hp (j + 1) (by simpa using hj))]
theorem sub_get {l : Str} {a n j : Nat} (h : j < n) : (sub l a n).getD j 0 = l.getD (a + j) 0 := by
  unfold sub
  rw [List.getD_eq_getElem?_getD, List.getD_eq_getElem?_getD, List.getElem?_take, if_pos h, List.getElem?_drop]
theorem sub_take {l : Str} {a n k : Nat} (h : k ≤ n) : (sub l a n).take k = sub l a k := by
  unfold sub
  rw [List.take_take, Nat.min_eq_left h]
set_option maxHeartbeats 4000000 in
theorem rtext_any {w : World} {ad : Addr} {l : Str} {L c : Nat} (a n : Nat) (hL : l.length = L) (hc : L ≤ c) (h : a + n ≤ L) (h2 : L ≤ 1000000) (h3 : 0 < n) (hR : RdU w (some ad) l) : Calls Tryd.prog 28 #[.slice (some ad) L c, .int .i64 (a : Int), .int .i64 (n : Int)] w fun x w' => x = .returned (.string (B (upTo0 (sub l a n)))) ∧ w' = w := by
  have hS := str_u (c - a) (hR.sub a n) (sub_len (by omega))
  have HR := Lib.hid hR
  have HL := Lib.hid hL
  have b0 : a + n ≤ L := h
  have b1 : (a : Int) + n ≤ 1000000 := by omega
  have b2 : (a : Int) + n ≤ (c : Int) := by omega
  have b3 : (a : Int) ≤ (a : Int) + n := by omega
  clear hR hL h
  go_enter Tryd.func28, Tryd.ntmps28
  go_wp2_with fail
  go_loopw [7] (fun v7 u => ∃ i : Nat, v7 = .int .i64 (i : Int) ∧ i ≤ n ∧ Hid (∀ j, j < i → l.getD (a + j) 0 ≠ 0) ∧ w = u) (fun i _ => n - (intOf i).toNat)
  case atStart => exact ⟨0, rfl, by omega, Lib.hid (fun j h => absurd h (by omega)), rfl⟩
  case round =>
    obtain ⟨i, rfl, hi, HI, rfl⟩ := hrel
    by_cases c1 : i < n
    · have d1 : decide ((i : Int) < (n : Int)) = true := decide_eq_true (by omega)
      have b4 : (a : Int) + i < (L : Int) := by omega
      obtain ⟨ad', e, hcell⟩ := HR.out.cells (by have := HL.out; omega)
      injection e with e
      subst e
      have c0 := hcell (a + i) (by have := HL.out; omega)
      obtain ⟨x, hx⟩ : ∃ x, l.getD (a + i) 0 = x := ⟨_, rfl⟩
      rw [hx] at c0
      have t1 := byte_eq (x := x) (y := 0) 0 rfl
      clear hcell
      by_cases c2 : x = 0
      · rw [decide_eq_true c2] at t1
        have hS2 := str_u (c - a) (HR.out.sub a i) (sub_len (by have := HL.out; omega))
        have HU := Lib.hid (show upTo0 (sub l a n) = sub l a i by
          rw [upTo0_at (i := i) (by rw [sub_len (by have := HL.out; omega)]; exact c1) (by rw [sub_get c1, hx, c2]) (fun j hj => by rw [sub_get (by omega)]; exact HI.out j hj), sub_take (by omega)])
        have b5 : (a : Int) + i ≤ (c : Int) := by omega
        have b6 : (a : Int) ≤ (a : Int) + i := by omega
        clear c2 hx
        go_wp2_with fail
        go_ret
        exact ⟨by rw [HU.out]; rfl, rfl⟩
      · rw [decide_eq_false c2] at t1
        have HI2 := Lib.hid (show ∀ j, j < i + 1 → l.getD (a + j) 0 ≠ 0 from fun j hj => by
          by_cases e : j = i
          · subst e; rw [hx]; exact c2
          · exact HI.out j (by omega))
        clear c2 hx
        go_wp2_with fail
        exact ⟨⟨i + 1, by simp, by omega, HI2, by trivial⟩, by simp [intOf]; omega⟩
    · have d1 : decide ((i : Int) < (n : Int)) = false := decide_eq_false (by omega)
      obtain rfl : i = n := by omega
      have HU := Lib.hid (show upTo0 (sub l a i) = sub l a i from upTo0_all (fun j hj => by
        rw [sub_len (by have := HL.out; omega)] at hj
        rw [sub_get hj]; exact HI.out j hj))
      go_wp2_with fail
      go_ret
      exact ⟨by rw [HU.out]; rfl, rfl⟩
end Go.Proofs.YtggjdfnkmhlliaaDoor.Walks
