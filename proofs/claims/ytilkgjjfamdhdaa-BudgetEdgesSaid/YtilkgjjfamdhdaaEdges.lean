/- The ratio's edges, over floats alone: what the program answers as a comparison of whole numbers, and that it is monotone. -/
import Derived.Test.YtilkgjjfamdhdaaFloat
import Derived.Test.YtilkgjjfamdhdaaFlo
namespace Go.Proofs.Ytilkgjjfamdhdaa.Walks
open Go Go.Proofs.Ytilkgjjfamdhdaa.Aid

/-- A whole number's rung. -/
def rn (n : Int) : Nat := rung n.natAbs 0
theorem ofI_eq {n : Int} (h : 0 ≤ n) : ofI n = Ieee.double.word false (rn n) := by
  have e : ofI n = Ieee.double.nearest (decide (n < 0)) n.natAbs 0 := rfl
  have d : decide (n < 0) = false := by simp; omega
  rw [e, d, nearest_eq]
  rfl
theorem rn_mono {n m : Int} (h0 : 0 ≤ n) (h : n ≤ m) : rn n ≤ rn m := rung_mono 0 (by omega)
theorem rn_one : 0 < rn 1 ∧ rn 1 ≤ INF := by
  have : rn 1 = 4607182418800017408 := by kernel_rfl
  rw [this]; unfold INF; omega
theorem rn_top : rn 1073741826 < INF := by
  have : rn 1073741826 = 4742290407629520896 := by kernel_rfl
  rw [this]; unfold INF; omega
theorem gtMul_eq {n m : Int} {r : Nat} (hn0 : 0 ≤ n) (hn : n ≤ 1073741826) (hm0 : 1 ≤ m) (hm : m ≤ 1073741826) (hr : rg r ≤ INF) :
    gtMul n m r = decide (sv (Ieee.double.word (sg r) (prung (rg r) (rn m))) < (val (rn n) : Int)) := by
  have h1 := rn_one
  have h2 := rn_top
  have h3 := rn_mono (by omega) hm0
  have h4 := rn_mono (by omega) hm
  have h5 := rn_mono hn0 hn
  obtain ⟨wm1, wm2⟩ := word_sg false (r := rn m) (by omega)
  obtain ⟨wn1, wn2⟩ := word_sg false (r := rn n) (by omega)
  have hp := prung_le (rg r) (rn m)
  obtain ⟨wq1, wq2⟩ := word_sg (sg r) hp
  unfold gtMul
  have e : floatBits .mul .f64 r (ofI m) = some (Ieee.double.word (sg r) (prung (rg r) (rn m))) := by
    show Ieee.double.mul r (ofI m) = _
    rw [ofI_eq (by omega), mul_eq hr (by rw [wm2]; omega) wm1 (by rw [wm2]; omega), wm2]
  rw [e]
  show (Ieee.double.order (ofI n) (Ieee.double.word (sg r) (prung (rg r) (rn m))) == some .gt) = _
  rw [ofI_eq hn0, order_eq (by rw [wn2]; omega) (by rw [wq2]; exact hp), sv_word false (r := rn n) (by omega)]
  simp only [Bool.false_eq_true, if_false]
  generalize sv (Ieee.double.word (sg r) (prung (rg r) (rn m))) = x
  generalize (val (rn n) : Int) = y
  by_cases hlt : x < y
  · rw [cmp_gt hlt]; simp [hlt]
  · by_cases he : x = y
    · rw [cmp_eq he.symm]; simp [he]
    · rw [cmp_lt (by omega)]; simp [hlt]
theorem gtMul_nan {n m : Int} {r : Nat} (hr : INF < rg r) : gtMul n m r = false := by
  unfold gtMul
  have e : floatBits .mul .f64 r (ofI m) = none := mul_nan hr
  rw [e]

theorem overC_eq {n m : Int} {r : Nat} (hn : 0 ≤ n) (hm : 0 ≤ m) : overC n m r = gtMul n m r := by
  unfold overC cut0; rw [if_neg (by omega), if_neg (by omega)]
section
set_option linter.unusedSectionVars false
variable {x y : Int} (hx1 : 1 ≤ x) (hx : x ≤ 1073741825) (hy1 : 1 ≤ y) (hy : y ≤ 1073741825)
include hx1 hx hy1 hy
theorem edge_nan {r : Nat} (h : INF < rg r) : overC x y r = false := by rw [overC_eq (by omega) (by omega)]; exact gtMul_nan h
theorem valx_pos : (0 : Int) < (val (rn x) : Int) := by
  have h1 := rn_one.1
  have h2 := rn_mono (by omega) hx1
  have := val_lt (r := 0) (s := rn x) (by omega)
  rw [val_zero] at this; omega
theorem edge_neg {r : Nat} (hr : rg r ≤ INF) (hs : sg r = true) : overC x y r = true := by
  rw [overC_eq (by omega) (by omega), gtMul_eq (by omega) (by omega) hy1 (by omega) hr, sv_word _ (prung_le _ _), hs]
  have := valx_pos hx1 hx hy1 hy
  simp only [if_true, decide_eq_true_eq]
  omega
theorem edge_zero {r : Nat} (hr : rg r = 0) : overC x y r = true := by
  have hi := bb_inf
  rw [overC_eq (by omega) (by omega), gtMul_eq (by omega) (by omega) hy1 (by omega) (by omega), sv_word _ (prung_le _ _), hr, prung_zero, val_zero]
  have := valx_pos hx1 hx hy1 hy
  simp only [decide_eq_true_eq]
  split <;> omega
theorem edge_inf {r : Nat} (hr : rg r = INF) (hs : sg r = false) : overC x y r = false := by
  rw [overC_eq (by omega) (by omega), gtMul_eq (by omega) (by omega) hy1 (by omega) (by omega), sv_word _ (prung_le _ _), hs, hr]
  have e : prung INF (rn y) = INF := by unfold prung; rw [if_neg (by omega)]
  have h2 := rn_top
  have h3 := rn_mono (n := x) (m := 1073741826) (by omega) (by omega)
  have := val_le (r := rn x) (s := INF) (by omega)
  rw [e]
  simp only [Bool.false_eq_true, if_false, decide_eq_false_iff_not]
  omega
theorem edge_none {r : Nat} (hr : rg r = 0) : overC 0 y r = false := by
  have hi := bb_inf
  rw [overC_eq (by omega) (by omega), gtMul_eq (by omega) (by omega) hy1 (by omega) (by omega), sv_word _ (prung_le _ _), hr, prung_zero, val_zero]
  have e : rn 0 = 0 := rung_zero 0
  rw [e, val_zero]
  simp
theorem edge_more {r : Nat} (h : overC x y r = true) : overC (x + 1) y r = true := by
  by_cases hr : rg r ≤ INF
  · rw [overC_eq (by omega) (by omega), gtMul_eq (by omega) (by omega) hy1 (by omega) hr] at h ⊢
    have := val_le (rn_mono (n := x) (m := x + 1) (by omega) (by omega))
    simp only [decide_eq_true_eq] at h ⊢
    omega
  · rw [edge_nan hx1 hx hy1 hy (by omega)] at h; cases h
theorem edge_packed {r : Nat} (h : overC x (y + 1) r = true) (hq : (FloatKind.f64.format.order r 0 == some .gt || FloatKind.f64.format.order r 0 == some .eq) = true) : overC x y r = true := by
  by_cases hr : rg r ≤ INF
  · have h0 : rg 0 = 0 := rfl
    have hi := bb_inf
    have ho : FloatKind.f64.format.order r 0 = some (compare (sv r) (sv 0)) := order_eq hr (by omega)
    rw [ho] at hq
    have hs0 : sv 0 = 0 := rfl
    rw [hs0] at hq
    have hge : 0 ≤ sv r := by
      by_cases hlt : sv r < 0
      · rw [cmp_lt hlt] at hq; cases hq
      · omega
    rw [overC_eq (by omega) (by omega), gtMul_eq (by omega) (by omega) (by omega) (by omega) hr, sv_word _ (prung_le _ _)] at h ⊢
    simp only [decide_eq_true_eq] at h ⊢
    unfold sv at hge
    have hm := val_le (prung_mono (ra := rg r) (rb := rg r) (Nat.le_refl _) (rn_mono (n := y) (m := y + 1) (by omega) (by omega)))
    cases hsr : sg r <;> rw [hsr] at h hge <;> simp only [Bool.false_eq_true, if_true, if_false] at h hge ⊢
    · omega
    · have := valx_pos hx1 hx hy1 hy; omega
  · have : overC x (y + 1) r = false := by rw [overC_eq (by omega) (by omega)]; exact gtMul_nan (by omega)
    rw [this] at h; cases h
theorem edge_ratio {a b : Nat} (hl : (FloatKind.f64.format.order a b == some .lt || FloatKind.f64.format.order a b == some .eq) = true) (h : overC x y b = true) : overC x y a = true := by
  by_cases hb : rg b ≤ INF
  · by_cases ha : rg a ≤ INF
    · have ho : FloatKind.f64.format.order a b = some (compare (sv a) (sv b)) := order_eq ha hb
      rw [ho] at hl
      have hle : sv a ≤ sv b := by
        by_cases hgt : sv b < sv a
        · rw [cmp_gt hgt] at hl; cases hl
        · omega
      rw [overC_eq (by omega) (by omega), gtMul_eq (by omega) (by omega) hy1 (by omega) hb] at h
      rw [overC_eq (by omega) (by omega), gtMul_eq (by omega) (by omega) hy1 (by omega) ha]
      have := prod_mono (rm := rn y) hle
      simp only [decide_eq_true_eq] at h ⊢
      omega
    · have ho : FloatKind.f64.format.order a b = none := order_nan_l (by omega)
      rw [ho] at hl; cases hl
  · rw [edge_nan hx1 hx hy1 hy (by omega)] at h; cases h
end
end Go.Proofs.Ytilkgjjfamdhdaa.Walks
