/- What is projected, plain: times that are well, projected twice, what can be held. -/
import Derived.Test.YtdkfemmjoabbcaaDoorROne
import Derived.Test.YtdkfemmjoabbcaaDoorSafe
namespace Go.Proofs.YtdkfemmjoabbcaaDoor.Walks
open Go Go.RowKit Go.Proofs.YtdkfemmjoabbcaaDoor.Aid Go.Proofs.YtdkfemmjoabbcaaDoor.Pth Go.Proofs.YtdkfemmjoabbcaaDoor.Own Go.Proofs.YtdkfemmjoabbcaaDoorW.PrintWords Ieee

theorem sv_zero : sv 0 = 0 := by have := sv_c c_zero (by decide); rw [this.1]; exact Int.zero_mul _
/-- None, or a number, -0 never. -/
def WellT (t : Nat) : Prop := isN t = true ∨ (Fnt t ∧ (sv t = 0 → t = 0))
theorem well_ofInt {n : Int} (h0 : 0 ≤ n) (h1 : n ≤ 4354819199) : WellT (floatOfInt .f64 n) := by
  refine Or.inr ⟨ofInt_fnt (by omega), fun h => ?_⟩
  rw [ofInt_sv (by omega)] at h
  have hU := UNi
  have : n = 0 := by
    rcases Int.mul_eq_zero.1 h with h | h
    · exact h
    · omega
  rw [this]; exact c_zero.symm
theorem well_fw {N : Int} (h : N.natAbs ≤ 4398046511104) : WellT (fw N) := by
  refine Or.inr ⟨fw_fnt (by omega), fun hz => ?_⟩
  rw [fw_sv (by omega)] at hz
  have hU := UH_pos
  have : N = 0 := by
    rcases Int.mul_eq_zero.1 hz with h | h
    · exact h
    · omega
  rw [this, fw_zero]
theorem well_nan : WellT nanW := Or.inl isN_nanW
theorem well_zip (t : Nat) : WellT (zipF t) := by
  unfold zipF
  cases hn : isN t
  · rw [if_neg Bool.false_ne_true]
    have := dosS_b hn
    exact well_ofInt (by omega) (by omega)
  · rw [if_pos rfl]; exact well_nan
theorem well_unix (t : Nat) : WellT (floatOfInt .f64 (unixF t)) := by
  rw [unixF_eq]
  have := unixS_b t
  exact well_ofInt (by omega) (by omega)
theorem well_fromUnix (v : Int) : WellT (fromUnixF v) := by
  unfold fromUnixF
  by_cases c : v < 1 ∨ 4294967295 < v
  · rw [if_pos c]; exact well_nan
  · rw [if_neg c]; exact well_ofInt (by omega) (by omega)
theorem well_fine (t : Nat) : WellT (fineF t) := by rw [fineF_eq]; exact well_fw (partsS_b t)
/-! ### Projected twice -/
theorem fine_twice (t : Nat) : fineF (fineF t) = fineF t := by rw [fineF_eq (fineF t), fineF_eq t, parts_fw (partsS_b t)]
theorem isN_ofInt {n : Int} (h : n.natAbs < 2 ^ 53) : isN (floatOfInt .f64 n) = false := isN_of (fnt_le (ofInt_fnt h))
theorem unix_ofInt {n : Int} (h0 : 0 ≤ n) (h1 : n ≤ 4294967295) : unixS (floatOfInt .f64 n) = n := by
  have hU := UNi
  have hs := ofInt_sv (n := n) (by omega)
  have hn0 : 0 ≤ n * (UN : Int) := Int.mul_nonneg h0 (by omega)
  unfold unixS
  rw [isN_ofInt (by omega), if_neg (by rw [hs]; intro h; rcases h with h | h; cases h; omega), hs]
  by_cases c : 4294967295 * (UN : Int) ≤ n * (UN : Int)
  · rw [if_pos c]
    have := Int.le_of_mul_le_mul_right c hU
    omega
  · rw [if_neg c, flr_int hs]
theorem unix_twice (t : Nat) : unixF (floatOfInt .f64 (unixF t)) = unixF t := by
  rw [unixF_eq (floatOfInt .f64 (unixF t)), unixF_eq t]
  have := unixS_b t
  exact unix_ofInt (by omega) (by omega)
theorem zip_ofInt {n : Int} (h0 : 315532800 ≤ n) (h1 : n ≤ 4354819199) : zipF (floatOfInt .f64 n) = floatOfInt .f64 (n - n % 2) := by
  have hU := UNi
  have hs := ofInt_sv (n := n) (by omega)
  have hlo : 315532800 * (UN : Int) ≤ n * (UN : Int) := Int.mul_le_mul_of_nonneg_right h0 (by omega)
  have hhi : n * (UN : Int) < 4354819200 * (UN : Int) := Int.mul_lt_mul_of_pos_right (by omega) hU
  have hd : dosS (floatOfInt .f64 n) = n := by unfold dosS; rw [hs, if_neg (by omega), if_neg (by omega), flr_int hs]
  unfold zipF
  rw [isN_ofInt (by omega), if_neg Bool.false_ne_true, hd]
theorem zip_twice (t : Nat) : zipF (zipF t) = zipF t := by
  unfold zipF
  cases hn : isN t
  · rw [if_neg Bool.false_ne_true]
    have hb := dosS_b hn
    have := zip_ofInt (n := dosS t - dosS t % 2) (by omega) (by omega)
    unfold zipF at this
    rw [this]
    congr 1
    omega
  · rw [if_pos rfl, isN_nanW, if_pos rfl]
theorem unix_nan : unixF nanW = 0 := by rw [unixF_eq]; unfold unixS; rw [if_pos (Or.inl isN_nanW)]
theorem fromUnix_twice (t : Nat) : fromUnixF (unixF (fromUnixF (unixF t))) = fromUnixF (unixF t) := by
  have hb := unixS_b t
  rw [← unixF_eq] at hb
  obtain ⟨v, hv⟩ : ∃ v, unixF t = v := ⟨_, rfl⟩
  rw [hv] at hb ⊢
  by_cases c : v < 1 ∨ 4294967295 < v
  · have e : fromUnixF v = nanW := by unfold fromUnixF; rw [if_pos c]
    rw [e, unix_nan]
    unfold fromUnixF
    rw [if_pos (by omega)]
  · have e : fromUnixF v = floatOfInt .f64 v := by unfold fromUnixF; rw [if_neg c]
    rw [e, unixF_eq, unix_ofInt (by omega) (by omega), e]
end Go.Proofs.YtdkfemmjoabbcaaDoor.Walks
