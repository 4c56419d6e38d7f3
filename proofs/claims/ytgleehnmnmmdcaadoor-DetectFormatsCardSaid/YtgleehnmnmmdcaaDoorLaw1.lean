/- The plain laws: what is told while it is not the end stays told; what stands behind 512 bytes does not matter. -/
import Derived.Test.YtgleehnmnmmdcaaDoorTold
namespace Go.Proofs.YtgleehnmnmmdcaaDoor.Walks
open Go Go.RowKit Go.Proofs.YtgleehnmnmmdcaaDoor.Aid Go.Proofs.YtgleehnmnmmdcaaDoor.Own

theorem pre_take {p l : List Int} {n : Nat} (h : p.length ≤ n) : pre p (l.take n) = pre p l := by
  unfold pre
  apply decide_eq_decide.mpr
  rw [List.length_take, List.take_take, Nat.min_eq_left h]
  constructor
  · rintro ⟨a, b⟩; exact ⟨by omega, b⟩
  · rintro ⟨a, b⟩; exact ⟨by omega, b⟩
theorem pre_mono {p l : List Int} {n : Nat} (h : pre p (l.take n) = true) : pre p l = true := by
  unfold pre at h ⊢
  have h := of_decide_eq_true h
  have hp : p.length ≤ n ∧ p.length ≤ l.length := by have := h.1; rw [List.length_take] at this; omega
  have h2 := h.2
  rw [List.take_take, Nat.min_eq_left hp.1] at h2
  exact decide_eq_true ⟨hp.2, h2⟩
theorem pre_first {a b : Int} {p q l : List Int} (hab : a ≠ b) (h : pre (a :: p) l = true) : pre (b :: q) l = false := by
  unfold pre at h ⊢
  have h := of_decide_eq_true h
  apply decide_eq_false
  rintro ⟨_, h2⟩
  cases l with
  | nil => simp at h
  | cons x l =>
    have e1 := h.2
    simp only [List.length_cons, List.take_succ_cons, List.cons.injEq] at e1 h2
    exact hab (e1.1.symm.trans h2.1)
theorem ustar_take {l : List Int} {n : Nat} (h : 263 ≤ n) : ustar (l.take n) = ustar l := by
  unfold ustar
  rw [List.length_take, List.drop_take, List.take_take, Nat.min_eq_left (show 6 ≤ n - 257 by omega)]
  congr 1
  exact decide_eq_decide.mpr (by omega)
theorem zeros_take {l : List Int} {n : Nat} (h : 512 ≤ n) : (decide (512 ≤ (l.take n).length) && noughts ((l.take n).take 512)) = (decide (512 ≤ l.length) && noughts (l.take 512)) := by
  rw [List.length_take, List.take_take, Nat.min_eq_left h]
  congr 1
  exact decide_eq_decide.mpr (by omega)
theorem getD_take {l : List Int} {n j : Nat} (h : j < n) : (l.take n).getD j 0 = l.getD j 0 := by
  rw [List.getD_eq_getElem?_getD, List.getD_eq_getElem?_getD, List.getElem?_take, if_pos h]
theorem two_take {l : List Int} {n : Nat} (h : 2 ≤ n) : two (l.take n) 2 = two l 2 := by
  show (l.take n).getD 0 0 * 256 + (l.take n).getD 1 0 = l.getD 0 0 * 256 + l.getD 1 0
  rw [getD_take (by omega), getD_take (by omega)]
theorem zlib_take {l : List Int} {n : Nat} (h : 2 ≤ n) : zlibOf (l.take n) = zlibOf l := by
  unfold zlibOf
  rw [two_take h, List.length_take, show decide (2 ≤ min n l.length) = decide (2 ≤ l.length) from decide_eq_decide.mpr (by omega)]
theorem probe_take {l : List Int} {n i : Nat} (h : 512 ≤ n) (hi : i < 4) : probeOf (l.take n) i = probeOf l i := by
  rcases (show i = 0 ∨ i = 1 ∨ i = 2 ∨ i = 3 by omega) with rfl | rfl | rfl | rfl
  · show (pre _ _ || pre _ _) = (pre _ _ || pre _ _)
    rw [pre_take (by simp; omega), pre_take (by simp; omega)]
  · exact pre_take (by simp; omega)
  · exact pre_take (by simp; omega)
  · show tarOf _ = tarOf _
    unfold tarOf
    rw [ustar_take (by omega), zeros_take h]
/-- The format out of the five answers. -/
def pick (p0 p1 p2 p3 s z : Bool) : Int × Int := if p0 then (1, 0) else if p1 then (4, 0) else if p2 then (3, 0) else if p3 then (2, 0) else if s then (0, 5) else if z then (5, 0) else (0, 2)
theorem fmt_pick (l : List Int) (e : Bool) : fmtOf l e = pick (probeOf l 0) (probeOf l 1) (probeOf l 2) (probeOf l 3) (!e && decide (l.length < 512)) (zlibOf l) := rfl
/-- What stands behind the first 512 bytes does not matter. -/
theorem blind {l : List Int} {e e' : Bool} (h : 512 ≤ l.length) : fmtOf (l.take 512) e = fmtOf l e' := by
  rw [fmt_pick, fmt_pick, probe_take (Nat.le_refl _) (by decide), probe_take (Nat.le_refl _) (by decide), probe_take (Nat.le_refl _) (by decide), probe_take (Nat.le_refl _) (by decide), zlib_take (by decide)]
  rw [List.length_take, decide_eq_false (show ¬ min 512 l.length < 512 by omega), decide_eq_false (show ¬ l.length < 512 by omega), Bool.and_false, Bool.and_false]
theorem pick_range (p0 p1 p2 p3 s z : Bool) : 0 ≤ (pick p0 p1 p2 p3 s z).1 ∧ (pick p0 p1 p2 p3 s z).1 ≤ 5 := by
  cases p0 <;> cases p1 <;> cases p2 <;> cases p3 <;> cases s <;> cases z <;> decide
theorem stay_pick {a0 a1 a2 a3 s z b0 b1 b2 b3 t y : Bool} (h0 : a0 = true → b0 = true) (h1 : a1 = true → b1 = true ∧ b0 = false) (h2 : a2 = true → b2 = true ∧ b0 = false ∧ b1 = false)
    (h3 : a3 = true → b3 = true ∧ b0 = a0 ∧ b1 = a1 ∧ b2 = a2) (h4 : s = false → b0 = a0 ∧ b1 = a1 ∧ b2 = a2 ∧ b3 = a3 ∧ t = false ∧ y = z) (h : (pick a0 a1 a2 a3 s z).2 ≠ 5) : pick b0 b1 b2 b3 t y = pick a0 a1 a2 a3 s z := by
  cases a0 <;> cases a1 <;> cases a2 <;> cases a3 <;> cases s <;> simp_all [pick]
theorem pick_short {p0 p1 p2 p3 s z : Bool} (h : (pick p0 p1 p2 p3 s z).2 = 5) : s = true ∧ (pick p0 p1 p2 p3 s z).1 = 0 := by
  cases p0 <;> cases p1 <;> cases p2 <;> cases p3 <;> cases s <;> cases z <;> simp_all [pick]
theorem zip_gzip {l : List Int} (h : probeOf l 1 = true) : probeOf l 0 = false := by
  show (pre _ _ || pre _ _) = false
  rw [pre_first (a := 31) (by decide) h, pre_first (a := 31) (by decide) h]; rfl
theorem zip_cpio {l : List Int} (h : probeOf l 2 = true) : probeOf l 0 = false := by
  show (pre _ _ || pre _ _) = false
  rw [pre_first (a := 48) (by decide) h, pre_first (a := 48) (by decide) h]; rfl
theorem gzip_cpio {l : List Int} (h : probeOf l 2 = true) : probeOf l 1 = false := pre_first (a := 48) (by decide) h
theorem stays {l : List Int} {n : Nat} (e : Bool) (h : (fmtOf (l.take n) false).2 ≠ 5) : fmtOf l e = fmtOf (l.take n) false := by
  rw [fmt_pick] at h
  rw [fmt_pick, fmt_pick]
  refine stay_pick ?_ ?_ ?_ ?_ ?_ h
  · intro h0
    show (pre _ _ || pre _ _) = true
    rcases Bool.or_eq_true_iff.mp h0 with h0 | h0
    · rw [pre_mono h0]; rfl
    · rw [pre_mono h0, Bool.or_true]
  · intro h1
    have h1' : probeOf l 1 = true := pre_mono h1
    exact ⟨h1', zip_gzip h1'⟩
  · intro h2
    have h2' : probeOf l 2 = true := pre_mono h2
    exact ⟨h2', zip_cpio h2', gzip_cpio h2'⟩
  · intro h3
    have h3 : tarOf (l.take n) = true := h3
    have hn : 263 ≤ n := by
      unfold tarOf ustar at h3
      rcases Bool.or_eq_true_iff.mp h3 with h3 | h3
      · have := of_decide_eq_true (Bool.and_eq_true_iff.mp h3).1
        rw [List.length_take] at this; omega
      · have := of_decide_eq_true (Bool.and_eq_true_iff.mp h3).1
        rw [List.length_take] at this; omega
    refine ⟨?_, ?_, (pre_take (by simp; omega)).symm, (pre_take (by simp; omega)).symm⟩
    · show tarOf l = true
      unfold tarOf at h3 ⊢
      rcases Bool.or_eq_true_iff.mp h3 with h3 | h3
      · rw [← ustar_take hn, h3]; rfl
      · have hn2 : 512 ≤ n := by
          have := of_decide_eq_true (Bool.and_eq_true_iff.mp h3).1
          rw [List.length_take] at this; omega
        rw [zeros_take hn2] at h3
        rw [h3, Bool.or_true]
    · show (pre _ _ || pre _ _) = (pre _ _ || pre _ _)
      rw [pre_take (by simp; omega), pre_take (by simp; omega)]
  · intro h4
    have h4 : 512 ≤ (l.take n).length := by
      by_cases c : (l.take n).length < 512
      · rw [decide_eq_true c] at h4; cases h4
      · omega
    rw [List.length_take] at h4
    refine ⟨(probe_take (by omega) (by decide)).symm, (probe_take (by omega) (by decide)).symm, (probe_take (by omega) (by decide)).symm, (probe_take (by omega) (by decide)).symm, ?_, (zlib_take (by omega)).symm⟩
    rw [decide_eq_false (by omega), Bool.and_false]
theorem stays_short {l : List Int} (h : (fmtOf l false).2 = 5) : l.length < 512 ∧ (fmtOf l false).1 = 0 := by
  rw [fmt_pick] at h ⊢
  have := pick_short h
  refine ⟨?_, this.2⟩
  by_cases c : l.length < 512
  · exact c
  · rw [decide_eq_false c] at this; cases this.1
end Go.Proofs.YtgleehnmnmmdcaaDoor.Walks
