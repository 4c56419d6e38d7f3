/- Contracts of bytes.trimRightByte, trimLeftByte, and of Trim at one byte 0: nothing is left just where all bytes are 0. -/
import Derived.Test.YtggjdfnkmhlliaaDoorFld
import Derived.Deep.RegionHeld3
namespace Go.Proofs.YtggjdfnkmhlliaaDoor.Walks
open Go Go.RowKit Go.Proofs.YtggjdfnkmhlliaaDoor.Aid Go.Proofs.YtggjdfnkmhlliaaDoor.Own

theorem RdK.take {w : World} {A : Option Addr} {l : List Int} (h : RdK .u8 w A l) (n : Nat) : RdK .u8 w A (l.take n) := fun h0 => by
  rw [List.length_take] at h0
  obtain ⟨ad, e, hc⟩ := h (by omega)
  refine ⟨ad, e, fun j hj => ?_⟩
  rw [List.length_take] at hj
  rw [hc j (by omega), List.getD_eq_getElem?_getD, List.getD_eq_getElem?_getD, List.getElem?_take, if_pos (by omega)]
def TrimR (A : Option Addr) (l : List Int) (c : Nat) (w : World) (x : Ending) (w' : World) : Prop :=
  ∃ n, x = .returned (.slice A n c) ∧ n ≤ l.length ∧ (∀ j, n ≤ j → j < l.length → l.getD j 0 = 0) ∧ (0 < n → l.getD (n - 1) 0 ≠ 0) ∧ w' = w
set_option maxHeartbeats 2000000 in
theorem trimr_any {w : World} {A : Option Addr} {l : List Int} {c : Nat} (hc : l.length ≤ c) (hl : l.length ≤ 1000000) (hA : RdK .u8 w A l) : Calls Tryd.prog 35 #[.slice A l.length c, .int .u8 0] w (TrimR A l c w) := by
  have HA := Lib.hid hA
  clear hA
  have HC := Lib.hid hc
  have HL := Lib.hid hl
  clear hc hl
  go_enter Tryd.func35, Tryd.ntmps35
  go_wp2_with fail
  go_loopw [0] (fun v0 u => ∃ n : Nat, v0 = .slice A n c ∧ n ≤ l.length ∧ Hid (∀ j, n ≤ j → j < l.length → l.getD j 0 = 0) ∧ u = w) (fun v _ => match v with | .slice _ n _ => n | _ => 0)
  case atStart => exact ⟨l.length, rfl, Nat.le_refl _, Lib.hid (fun j h1 h2 => absurd h1 (by omega)), rfl⟩
  case round =>
    obtain ⟨n, rfl, hn, hz, rfl⟩ := hrel
    have n0 : (n : Int) ≤ (c : Int) := by have := HC.out; omega
    have n1 : (n : Int) ≤ 1000000 := by have := HL.out; omega
    by_cases d : 0 < n
    · have d1 : decide (0 < n) = true := decide_eq_true d
      obtain ⟨ad, rfl, hcs⟩ := HA.out (by omega)
      obtain ⟨m, hm⟩ : ∃ m, n = m + 1 := ⟨n - 1, by omega⟩
      subst hm
      have h1 := hcs m (by omega)
      generalize hx : l.getD m 0 = x at *
      have Hx := Lib.hid hx
      clear hx hcs
      by_cases e : x = 0
      · have e1 : (x == 0) = true := beq_iff_eq.mpr e
        have Hz := Lib.hid (show ∀ j, m ≤ j → j < l.length → l.getD j 0 = 0 from fun j h1 h2 => by
          by_cases ej : j = m
          · subst ej; rw [Hx.out]; exact e
          · exact hz.out j (by omega) h2)
        go_wp2_with fail
        exact ⟨⟨m, rfl, by omega, Hz, by trivial⟩, Nat.lt_succ_self m⟩
      · have e1 : (x == 0) = false := beq_eq_false_iff_ne.mpr e
        go_wp2_with fail
        go_ret
        exact ⟨m + 1, rfl, hn, hz.out, fun _ => by rw [Nat.add_sub_cancel, Hx.out]; exact e, rfl⟩
    · have d1 : decide (0 < n) = false := decide_eq_false d
      go_wp2_with fail
      go_ret
      exact ⟨n, rfl, hn, hz.out, fun h => absurd h d, rfl⟩
def TrimL (n : Nat) (w : World) (x : Ending) (w' : World) : Prop := ∃ B k d, x = .returned (.slice B k d) ∧ (k = 0 ↔ n = 0) ∧ w' = w
theorem triml_none {w : World} {A : Option Addr} {c : Nat} : Calls Tryd.prog 34 #[.slice A 0 c, .int .u8 0] w (TrimL 0 w) := by
  go_enter Tryd.func34, Tryd.ntmps34
  go_wp2_with fail
  go_loopw [0] (fun v0 u => v0 = .slice A 0 c ∧ u = w) (fun _ _ => 0)
  case atStart => exact ⟨rfl, rfl⟩
  case round =>
    obtain ⟨rfl, rfl⟩ := hrel
    go_wp2_with fail
    go_ret
    exact ⟨none, 0, 0, rfl, Iff.rfl, rfl⟩
set_option maxHeartbeats 2000000 in
theorem triml_some {w : World} {A : Option Addr} {l : List Int} {c : Nat} (h0 : 0 < l.length) (hc : l.length ≤ c) (hl : l.length ≤ 1000000) (hA : RdK .u8 w A l) (hz : l.getD (l.length - 1) 0 ≠ 0) : Calls Tryd.prog 34 #[.slice A l.length c, .int .u8 0] w (TrimL l.length w) := by
  have HA := Lib.hid hA
  have HC := Lib.hid hc
  have HL := Lib.hid hl
  have H0 := Lib.hid h0
  have HZ := Lib.hid hz
  clear hA hc hl h0 hz
  go_enter Tryd.func34, Tryd.ntmps34
  go_wp2_with fail
  go_loopw [0] (fun v0 u => ∃ (B : Option Addr) (m : List Int) (d : Nat), v0 = .slice B m.length d ∧ 0 < m.length ∧ m.length ≤ d ∧ m.length ≤ 1000000 ∧ Hid (RdK .u8 w B m) ∧ Hid (m.getD (m.length - 1) 0 ≠ 0) ∧ u = w) (fun v _ => match v with | .slice _ n _ => n | _ => 0)
  case atStart => exact ⟨A, l, c, rfl, H0.out, HC.out, HL.out, HA, HZ, rfl⟩
  case round =>
    obtain ⟨B, m, d, rfl, m0, md, ml, hB, hz, rfl⟩ := hrel
    have d1 : decide (0 < m.length) = true := decide_eq_true m0
    obtain ⟨ad, rfl, hcs⟩ := hB.out m0
    have h1 := hcs 0 m0
    rw [show ad.add 0 = ad from rfl] at h1
    have hd0 : ¬ m.length = 0 := by omega
    cases hm : m with
    | nil => subst hm; simp at m0
    | cons x r =>
      subst hm
      clear hcs
      by_cases e : x = 0
      · subst e
        have hr : 0 < r.length := by
          cases r with
          | nil => exact absurd rfl hz.out
          | cons _ _ => simp
        have Hz2 := Lib.hid (show r.getD (r.length - 1) 0 ≠ 0 by
          have := hz.out
          rw [List.length_cons, Nat.add_sub_cancel] at this
          obtain ⟨q, hq⟩ : ∃ q, r.length = q + 1 := ⟨r.length - 1, by omega⟩
          rw [hq] at this ⊢
          rw [List.getD_cons_succ] at this
          exact this)
        have hR2 := Lib.hid (show RdK .u8 wr (some (ad.add 1)) r from fun _ => ⟨_, rfl, fun j hj => by
          obtain ⟨ad', e', hc'⟩ := hB.out (by simp)
          injection e' with e'
          subst e'
          have := hc' (j + 1) (by simp; omega)
          rw [List.getD_cons_succ] at this
          rw [← this]
          congr 1
          unfold Addr.add
          by_cases hj0 : j = 0
          · simp [hj0]
          · simp [hj0]; omega⟩)
        have q1 : ¬ d = 1 := by simp at md; omega
        have q2 : (1 : Int) ≤ (d : Int) := by simp at md; omega
        have q3 : (1 : Int) ≤ ((r.length + 1 : Nat) : Int) := by omega
        go_wp2_with fail
        exact ⟨⟨some (ad.add 1), r, d - 1, rfl, hr, by simp at md; omega, by simp at ml; omega, hR2, Hz2, by trivial⟩, Nat.lt_succ_self r.length⟩
      · have e1 : (x == 0) = false := beq_eq_false_iff_ne.mpr e
        go_wp2_with fail
        go_ret
        exact ⟨some ad, (x :: r).length, d, rfl, ⟨fun h => absurd h hd0, fun h => absurd h (by have := H0.out; omega)⟩, rfl⟩
/-- All bytes are 0. -/
def noughts (l : List Int) : Bool := decide (∀ j, j < l.length → l.getD j 0 = 0)
theorem noughts_of {l : List Int} {n k : Nat} (hn : n ≤ l.length) (hz : ∀ j, n ≤ j → j < l.length → l.getD j 0 = 0) (hnz : 0 < n → l.getD (n - 1) 0 ≠ 0) (hk : k = 0 ↔ n = 0) : ((k : Int) == 0) = noughts l := by
  unfold noughts
  by_cases h : n = 0
  · rw [decide_eq_true (fun j hj => hz j (by omega) hj)]
    exact beq_iff_eq.mpr (by have := hk.2 h; omega)
  · rw [decide_eq_false (fun hall => hnz (by omega) (hall (n - 1) (by omega)))]
    exact beq_eq_false_iff_ne.mpr (fun e => h (hk.1 (by omega)))
def TrimP (l : List Int) (w : World) (x : Ending) (w' : World) : Prop := ∃ B k d, x = .returned (.slice B k d) ∧ ((k : Int) == 0) = noughts l ∧ ∃ m, w' = w.drewN m
theorem trimr_x {w : World} {A : Option Addr} {l : List Int} {c : Nat} (x : Int) (hx : x = 0) (hc : l.length ≤ c) (hl : l.length ≤ 1000000) (hA : RdK .u8 w A l) : Calls Tryd.prog 35 #[.slice A l.length c, .int .u8 x] w (TrimR A l c w) := by
  subst hx; exact trimr_any hc hl hA
theorem triml_x {w : World} {A : Option Addr} {l : List Int} {n c : Nat} (x : Int) (hx : x = 0) (hn : n ≤ l.length) (hz : 0 < n → l.getD (n - 1) 0 ≠ 0) (hc : l.length ≤ c) (hl : l.length ≤ 1000000) (hA : RdK .u8 w A l) :
    Calls Tryd.prog 34 #[.slice A n c, .int .u8 x] w (TrimL n w) := by
  subst hx
  by_cases h : 0 < n
  · have e : (l.take n).length = n := by rw [List.length_take]; omega
    have := triml_some (l := l.take n) (c := c) (by omega) (by omega) (by omega) (RdK.take hA n) (by
      rw [e, List.getD_eq_getElem?_getD, List.getElem?_take, if_pos (by omega), ← List.getD_eq_getElem?_getD]
      exact hz h)
    rwa [e] at this
  · obtain rfl : n = 0 := by omega
    exact triml_none
set_option maxRecDepth 100000 in
set_option maxHeartbeats 4000000 in
theorem trim_any {w : World} {A : Option Addr} {l : List Int} {c : Nat} (S : ByteArray) (hS : S = ⟨#[0]⟩) (h0 : 0 < l.length) (hc : l.length ≤ c) (hl : l.length ≤ 1000000) (hA : RdK .u8 w A l) : Calls Tryd.prog 29 #[.slice A l.length c, .string S] w (TrimP l w) := by
  have hs1 : S.size = 1 := by rw [hS]; rfl
  have hi : ∀ h : 0 < S.size, ((S[0]'h).toNat : Int) = 0 := by subst hS; intro _; rfl
  have hne : S.toList.isEmpty = false := by rw [Lib.toList_data, hS]; rfl
  have HI := Lib.hid hi
  have HA := Lib.hid hA
  have HC := Lib.hid hc
  have HL := Lib.hid hl
  have H0 := Lib.hid h0
  have q0 : ((l.length : Int) == 0) = false := beq_eq_false_iff_ne.mpr (by omega)
  clear hA hc hl h0 hS
  go_enter Tryd.func29, Tryd.ntmps29
  go_upto_region 6 with (fail)
  have HD : Hid (RdK .u8 w.drew A l) := Lib.hid (rd_only HA.out ((Only.refl (fun _ => False) w).drew))
  go_region_held3 (fun _ => True) (exact trivial) (first
    | (fail)
    | (go_at_call 35; refine (trimr_any HC.out HL.out HD.out).mono ?_; rintro x w2 ⟨n, rfl, hn, hz, hnz, rfl⟩)
    | (go_at_call 34; refine (triml_x 0 rfl hn hnz HC.out HL.out HD.out).mono ?_; rintro x w3 ⟨B, k, d, rfl, hk, rfl⟩))
  all_goals (
    have HK := Lib.hid (noughts_of hn hz hnz hk)
    clear hz hnz hk hn
    go_wp2_with fail
    go_ret
    exact ⟨B, k, d, rfl, HK.out, 1, rfl⟩)
end Go.Proofs.YtggjdfnkmhlliaaDoor.Walks
