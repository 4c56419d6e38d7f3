/- Projected times against times: plain. -/
import Derived.Test.YtdkfemmjoabbcaaDoorPSam
namespace Go.Proofs.YtdkfemmjoabbcaaDoor.Walks
open Go Go.RowKit Go.Proofs.YtdkfemmjoabbcaaDoor.Aid Go.Proofs.YtdkfemmjoabbcaaDoor.Pth Go.Proofs.YtdkfemmjoabbcaaDoor.Own Go.Proofs.YtdkfemmjoabbcaaDoorW.PrintWords Ieee

/-- A time from 1980 on, of 32 bits. -/
structure TIn (t : Nat) : Prop where
  nan : isN t = false
  lo : 315532800 * (UN : Int) ≤ sv t
  hi : sv t < 4294967295 * (UN : Int)
theorem TIn.fnt {t : Nat} (h : TIn t) : Fnt t := by
  have := h.lo; have := h.hi; have := UNi
  exact fnt_between (v := 4294967295 * UN) (isN_f h.nan) (exact_UN (by decide)) (by omega) (by omega)
theorem TIn.flb {t : Nat} (h : TIn t) : 315532800 ≤ flr t ∧ flr t < 4294967295 := ⟨le_flr h.lo, flr_lt h.hi⟩
theorem TIn.dos {t : Nat} (h : TIn t) : dosS t = flr t := by
  have := h.lo; have := h.hi; have := UNi
  unfold dosS; rw [if_neg (by omega), if_neg (by omega)]
theorem TIn.zip {t : Nat} (h : TIn t) : zipF t = floatOfInt .f64 (flr t - flr t % 2) := by
  unfold zipF; rw [h.nan, if_neg Bool.false_ne_true, h.dos]
theorem TIn.unix {t : Nat} (h : TIn t) : unixF t = flr t := by
  have := h.lo; have := h.hi; have := UNi
  rw [unixF_eq]; unfold unixS
  rw [h.nan, if_neg (by intro h; rcases h with h | h; cases h; omega), if_neg (by omega)]
theorem TIn.nn {t : Nat} (h : TIn t) : 0 ≤ sv t := Int.le_trans (Int.mul_nonneg (by decide) (Int.le_of_lt UNi)) h.lo
theorem TIn.parts {t : Nat} (h : TIn t) : partsS t = sv t * 512 / (UN : Int) := by
  have h1 : ¬ sv t < -8589934592 * (UN : Int) := by
    have a : -8589934592 * (UN : Int) ≤ 0 := by
      rw [Int.neg_mul]
      exact Int.neg_nonpos_of_nonneg (Int.mul_nonneg (by decide) (Int.le_of_lt UNi))
    exact Int.not_lt.2 (Int.le_trans a h.nn)
  have h2 : ¬ 8589934592 * (UN : Int) < sv t := by
    have a : 4294967295 * (UN : Int) ≤ 8589934592 * (UN : Int) := Int.mul_le_mul_of_nonneg_right (by decide) (Int.le_of_lt UNi)
    exact Int.not_lt.2 (Int.le_of_lt (Int.lt_of_lt_of_le h.hi a))
  unfold partsS
  rw [h.nan, if_neg Bool.false_ne_true, if_neg h1, if_neg h2]
/-- What a format makes of a time. -/
def timeF (f : Int) (t : Nat) : Nat := if f = 1 then zipF t else if f = 2 then fineF t else floatOfInt .f64 (unixF t)
theorem timeF1 (t : Nat) : timeF 1 t = zipF t := by unfold timeF; rw [if_pos rfl]
theorem timeF2 (t : Nat) : timeF 2 t = fineF t := by unfold timeF; rw [if_neg (by decide), if_pos rfl]
theorem timeF3 (t : Nat) : timeF 3 t = floatOfInt .f64 (unixF t) := by unfold timeF; rw [if_neg (by decide), if_neg (by decide)]
theorem oneT_time {E : Ent} {f : Int} (hf : f = 1 ∨ f = 2 ∨ f = 3) : (oneT E f).time = timeF f E.time := by
  rcases hf with rfl | rfl | rfl
  · rw [timeF1, oneT1]
  · rw [timeF2, oneT2]
  · rw [timeF3, oneT3]
theorem TIn.zip_in {t : Nat} (h : TIn t) : TIn (zipF t) ∧ sv (zipF t) = (flr t - flr t % 2) * (UN : Int) := by
  have hf := h.flb
  have hU := UNi
  rw [h.zip]
  have hs := ofInt_sv (n := flr t - flr t % 2) (by omega)
  refine ⟨⟨isN_ofInt (by omega), ?_, ?_⟩, hs⟩
  · rw [hs]; exact Int.mul_le_mul_of_nonneg_right (by omega) (by omega)
  · rw [hs]; exact Int.mul_lt_mul_of_pos_right (by omega) hU
theorem TIn.unix_in {t : Nat} (h : TIn t) : TIn (floatOfInt .f64 (unixF t)) ∧ sv (floatOfInt .f64 (unixF t)) = flr t * (UN : Int) := by
  have hf := h.flb
  have hU := UNi
  rw [h.unix]
  have hs := ofInt_sv (n := flr t) (by omega)
  refine ⟨⟨isN_ofInt (by omega), ?_, ?_⟩, hs⟩
  · rw [hs]; exact Int.mul_le_mul_of_nonneg_right (by omega) (by omega)
  · rw [hs]; exact Int.mul_lt_mul_of_pos_right (by omega) hU
theorem UN_UH : (UN : Int) = (UH : Int) * 512 := by have := UH_UN; omega
theorem lo_UH : (315532800 : Int) * (UN : Int) = 161552793600 * (UH : Int) := by rw [UN_UH, Int.mul_comm (UH : Int) 512, ← Int.mul_assoc]; rfl
theorem arith_fine {s N U : Int} (e1 : N * U * 512 ≤ s * 512) (e2 : s * 512 < N * U * 512 + U * 512) : N * U ≤ s ∧ s < N * U + U := by
  generalize N * U = x at e1 e2 ⊢
  omega
theorem TIn.fine_in {t : Nat} (h : TIn t) : TIn (fineF t) ∧ sv (fineF t) = (sv t * 512 / (UN : Int)) * (UH : Int) ∧ sv (fineF t) ≤ sv t ∧ sv t < sv (fineF t) + (UH : Int) := by
  have hU := UNi
  have hH : (0 : Int) ≤ (UH : Int) := Int.natCast_nonneg _
  have hp := partsS_b t
  have hpb : (partsS t).natAbs < 2 ^ 53 := Nat.lt_of_le_of_lt hp (by decide)
  have hs := fw_sv (N := partsS t) hpb
  have hfn := fw_fnt (N := partsS t) hpb
  rw [fineF_eq]
  rw [h.parts] at hs hfn
  rw [h.parts]
  obtain ⟨N, hN⟩ : ∃ N, sv t * 512 / (UN : Int) = N := ⟨_, rfl⟩
  rw [hN] at hs hfn ⊢
  have e1 : N * (UN : Int) ≤ sv t * 512 := by rw [← hN]; exact Int.ediv_mul_le _ (Int.ne_of_gt hU)
  have e2 : sv t * 512 < (N + 1) * (UN : Int) := by rw [← hN]; exact Int.lt_ediv_add_one_mul_self _ hU
  have lo : 161552793600 ≤ N := by
    rw [← hN]
    refine Int.le_ediv_of_mul_le hU ?_
    have := Int.mul_le_mul_of_nonneg_right h.lo (show (0 : Int) ≤ 512 by decide)
    rw [Int.mul_right_comm] at this
    exact this
  rw [UN_UH, ← Int.mul_assoc] at e1 e2
  rw [Int.add_mul, Int.one_mul, Int.add_mul] at e2
  obtain ⟨hi, hlt⟩ := arith_fine e1 e2
  have hlo := Int.mul_le_mul_of_nonneg_right lo hH
  refine ⟨⟨isN_of (fnt_le hfn), ?_, ?_⟩, hs, by rw [hs]; exact hi, by rw [hs]; exact hlt⟩
  · rw [hs, lo_UH]; exact hlo
  · rw [hs]; exact Int.lt_of_le_of_lt hi h.hi
theorem TIn.time_in {t : Nat} (h : TIn t) {f : Int} (hf : f = 1 ∨ f = 2 ∨ f = 3) : TIn (timeF f t) ∧ sv (timeF f t) ≤ sv t := by
  have hU := UNi
  have hfl := flr_le t
  have hf0 := h.flb
  rcases hf with rfl | rfl | rfl
  · obtain ⟨a, b⟩ := h.zip_in
    rw [timeF1]
    refine ⟨a, ?_⟩
    rw [b]
    exact Int.le_trans (Int.mul_le_mul_of_nonneg_right (by omega) (by omega)) hfl
  · rw [timeF2]; exact ⟨h.fine_in.1, h.fine_in.2.2.1⟩
  · obtain ⟨a, b⟩ := h.unix_in
    rw [timeF3]
    exact ⟨a, by rw [b]; exact hfl⟩
theorem flr_mono {a b : Nat} (h : sv a ≤ sv b) : flr a ≤ flr b := Int.ediv_le_ediv UNi h
/-- Not later, projected. -/
theorem TIn.mono {a b : Nat} (ha : TIn a) (hb : TIn b) (h : sv a ≤ sv b) {f : Int} (hf : f = 1 ∨ f = 2 ∨ f = 3) : sv (timeF f a) ≤ sv (timeF f b) := by
  have hU := UNi
  have hH := UH_pos
  have hm := flr_mono h
  rcases hf with rfl | rfl | rfl
  · rw [timeF1, timeF1, ha.zip_in.2, hb.zip_in.2]
    exact Int.mul_le_mul_of_nonneg_right (by omega) (by omega)
  · rw [timeF2, timeF2, ha.fine_in.2.1, hb.fine_in.2.1]
    exact Int.mul_le_mul_of_nonneg_right (Int.ediv_le_ediv hU (by omega)) (by omega)
  · rw [timeF3, timeF3, ha.unix_in.2, hb.unix_in.2]
    exact Int.mul_le_mul_of_nonneg_right hm (by omega)
theorem ord_le {t c : Nat} (h : Fnt t) (hc : Fnt c) : (FloatKind.f64.format.order t c == some .lt || FloatKind.f64.format.order t c == some .eq) = decide (sv t ≤ sv c) := by
  rw [ord_lt (fnt_le h) hc, ord_eq (fnt_le h) hc, ← Bool.decide_or]
  exact decide_eq_decide.2 (by omega)
theorem tin_of {t : Nat} (h1 : (FloatKind.f64.format.order t 4734073370679705600 == some .gt || FloatKind.f64.format.order t 4734073370679705600 == some .eq) = true) (h2 : (FloatKind.f64.format.order t 4751297606873776128 == some .lt) = true) : TIn t := by
  have hF := sv_c c_first (by decide)
  have hA := sv_c c_max32 (by decide)
  have hn : isN t = false := by
    cases hn : isN t
    · rfl
    · have e : (FloatKind.f64.format.order t 4751297606873776128 == some .lt) = false := by
        show (Ieee.double.order t _ == _) = _
        rw [order_nan_l (isN_t hn)]; rfl
      rw [e] at h2; cases h2
  rw [ord_gt (isN_f hn) hF.2, ord_eq (isN_f hn) hF.2, hF.1, Bool.or_eq_true, decide_eq_true_eq, decide_eq_true_eq] at h1
  rw [ord_lt (isN_f hn) hA.2, hA.1, decide_eq_true_eq] at h2
  exact ⟨hn, by omega, h2⟩
end Go.Proofs.YtdkfemmjoabbcaaDoor.Walks
