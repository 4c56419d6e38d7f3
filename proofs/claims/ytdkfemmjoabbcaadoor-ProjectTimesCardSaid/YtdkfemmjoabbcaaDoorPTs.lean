/- The times of ProjectTimes: plain. -/
import Derived.Test.YtdkfemmjoabbcaaDoorPTm
namespace Go.Proofs.YtdkfemmjoabbcaaDoor.Walks
open Go Go.RowKit Go.Proofs.YtdkfemmjoabbcaaDoor.Aid Go.Proofs.YtdkfemmjoabbcaaDoor.Pth Go.Proofs.YtdkfemmjoabbcaaDoor.Own Go.Proofs.YtdkfemmjoabbcaaDoorW.PrintWords Ieee

/-- 1/1024, in units of 2^-1074. -/
def UK : Nat := 2 ^ (KU - 10)
theorem UK_eq : UK = 2 ^ (KU - 10) := rfl
attribute [irreducible] UK
theorem UN_UK : UN = UK * 1024 := by
  rw [UN_eq, UK_eq, show (1024 : Nat) = 2 ^ 10 from rfl, ← Nat.pow_add]
  congr 1
  have := KU_eq; omega
theorem UH_UK : UH = UK * 2 := by
  rw [UH_eq, UK_eq, show (2 : Nat) ^ (KU - 10) * 2 = 2 ^ (KU - 10 + 1) from (Nat.pow_succ ..).symm]
  congr 1
  have := KU_eq; omega
theorem UK_pos : 0 < UK := by rw [UK_eq]; exact Nat.two_pow_pos _
theorem exact_UK {n : Nat} (h : n < 2 ^ 53) : Exact (n * UK) := by rw [UK_eq]; exact exact_mk h (by have := KU_eq; omega)
theorem read_1024 : Ieee.double.read 4652218415073722368 = .number false (2 ^ 52) (((10 : Nat) : Int) - 52) := by kernel_rfl
theorem div_1024 {p : Int} (h0 : 0 ≤ p) (h1 : p < 1024) : floatBits .quo .f64 (floatOfInt .f64 p) 4652218415073722368 = some (wd false (p.toNat * UK)) := by
  have hf := ofInt_fnt (n := p) (by omega)
  have hv : val (rg (floatOfInt .f64 p)) = p.natAbs * UN := by rw [← sv_val, ofInt_sv (by omega), Int.natAbs_mul, Int.natAbs_natCast]
  have hd := div_pow2 10 hf read_1024 (by decide) (by
    rw [hv]
    by_cases c : p.natAbs = 0
    · left; rw [c, Nat.zero_mul]
    · right; exact Nat.le_mul_of_pos_left _ (Nat.pos_of_ne_zero c))
  have hs : sg (floatOfInt .f64 p) = decide (p < 0) := by rw [ofInt_wd]; exact wd_sg _ _
  have hn : p.natAbs = p.toNat := by omega
  rw [hv, hs, decide_eq_false (by omega), UN_UK, show (2 : Nat) ^ 10 = 1024 from rfl, ← Nat.mul_assoc, Nat.mul_div_cancel _ (by decide), hn] at hd
  exact hd
/-- a and p/1024. -/
def tmW (a p : Int) : Nat := wd false ((a * 1024 + p).toNat * UK)
theorem tm_exact {a p : Int} (a1 : a < 4294967295) (p1 : p < 1024) : Exact ((a * 1024 + p).toNat * UK) := exact_UK (by omega)
theorem tm_sv {a p : Int} (a0 : 0 ≤ a) (a1 : a < 4294967295) (p0 : 0 ≤ p) (p1 : p < 1024) : sv (tmW a p) = (a * 1024 + p) * (UK : Int) := by
  unfold tmW
  rw [wd_sv (tm_exact a1 p1), if_neg Bool.false_ne_true, Int.natCast_mul, Int.toNat_of_nonneg (by omega)]
theorem tm_fnt {a p : Int} (a1 : a < 4294967295) (p1 : p < 1024) : Fnt (tmW a p) := wd_fnt (tm_exact a1 p1)
theorem sv_wd0 {n : Nat} (h : n < 2 ^ 53) : sv (wd false (n * UK)) = (n : Int) * (UK : Int) := by rw [wd_sv (exact_UK h), if_neg Bool.false_ne_true, Int.natCast_mul]
theorem UN_UKi : (UN : Int) = 1024 * (UK : Int) := by have := UN_UK; omega
theorem add_tm {a p : Int} (a0 : 315532800 ≤ a) (a1 : a < 4294967295) (p0 : 0 ≤ p) (p1 : p < 1024) : floatBits .add .f64 (floatOfInt .f64 a) (wd false (p.toNat * UK)) = some (tmW a p) := by
  have hU : (0 : Int) < (UK : Int) := by have := UK_pos; omega
  have ha := ofInt_fnt (n := a) (by omega)
  have hx := exact_UK (n := p.toNat) (by omega)
  have hp := wd_fnt (s := false) hx
  have hadd := add_fnt ha hp
  have hs : sv (floatOfInt .f64 a) + sv (wd false (p.toNat * UK)) = (a * 1024 + p) * (UK : Int) := by
    rw [ofInt_sv (by omega), sv_wd0 (by omega), UN_UKi, Int.toNat_of_nonneg p0, ← Int.mul_assoc, ← Int.add_mul]
  have hpos : 0 < (a * 1024 + p) * (UK : Int) := Int.mul_pos (by omega) hU
  rw [hs, if_neg (by omega), decide_eq_false (by omega), Int.natAbs_mul, Int.natAbs_natCast] at hadd
  have hn : (a * 1024 + p).natAbs = (a * 1024 + p).toNat := by omega
  rw [hn] at hadd
  exact hadd
theorem mul_le_r {a b c : Int} (h : a ≤ b) (hc : 0 ≤ c) : a * c ≤ b * c := Int.mul_le_mul_of_nonneg_right h hc
theorem tm_in {a p : Int} (a0 : 315532800 ≤ a) (a1 : a < 4294967295) (p0 : 0 ≤ p) (p1 : p < 1024) : TIn (tmW a p) ∧ flr (tmW a p) = a := by
  have hU : (0 : Int) < (UK : Int) := by have := UK_pos; omega
  have hs := tm_sv (by omega) a1 p0 p1
  refine ⟨⟨isN_of (fnt_le (tm_fnt a1 p1)), ?_, ?_⟩, ?_⟩
  · rw [hs, UN_UKi, ← Int.mul_assoc]; exact mul_le_r (by omega) (by omega)
  · rw [hs, UN_UKi, ← Int.mul_assoc]; exact Int.mul_lt_mul_of_pos_right (by omega) hU
  · unfold flr
    rw [hs, UN_UKi, Int.mul_comm 1024, Int.mul_comm (a * 1024 + p), Int.mul_ediv_mul_of_pos _ _ hU]
    omega
/-- Less than a step behind. -/
theorem step_lt {t x : Nat} {s : Nat} {D : Int} {c : Nat} (ht : Fnt t) (hx : Fnt x) (hD : sv t - sv x = D * (UK : Int)) (h0 : 0 ≤ D) (h1 : D < (c : Int)) (hc : c < 2 ^ 53) (hs : sv s = (c : Int) * (UK : Int)) (hf : Fnt s) :
    ∃ r, floatBits .sub .f64 t x = some r ∧ (FloatKind.f64.format.order r s == some .lt) = true := by
  have hU : (0 : Int) < (UK : Int) := by have := UK_pos; omega
  have hsub := sub_fnt ht hx
  have hn : (D * (UK : Int)).natAbs = D.toNat * UK := by rw [Int.natAbs_mul, Int.natAbs_natCast]; congr 1; omega
  rw [hD, hn] at hsub
  have hx' := exact_UK (n := D.toNat) (by omega)
  have hz : 0 ≤ D * (UK : Int) := Int.mul_nonneg h0 (by omega)
  refine ⟨_, hsub, ?_⟩
  have hsv : sv (wd (if D * (UK : Int) = 0 then sg t && !sg x else decide (D * (UK : Int) < 0)) (D.toNat * UK)) = D * (UK : Int) := by
    rw [wd_sv hx']
    by_cases e : D * (UK : Int) = 0
    · have : ((D.toNat * UK : Nat) : Int) = 0 := by rw [Int.natCast_mul, Int.toNat_of_nonneg h0]; exact e
      rw [this, e]; simp
    · rw [if_neg e, decide_eq_false (by omega), if_neg Bool.false_ne_true, Int.natCast_mul, Int.toNat_of_nonneg h0]
  rw [ord_lt (fnt_le (wd_fnt hx')) hf, hsv, hs]
  exact decide_eq_true (Int.mul_lt_mul_of_pos_right h1 hU)
theorem c_two : (4611686018427387904 : Nat) = floatOfInt .f64 2 := by kernel_rfl
theorem c_one : (4607182418800017408 : Nat) = floatOfInt .f64 1 := by kernel_rfl
theorem c_part : (4566650022153682944 : Nat) = fw 1 := by
  have h : floatBits .quo .f64 (floatOfInt .f64 1) 4647714815446351872 = some 4566650022153682944 := by kernel_rfl
  have h2 := div_fw (N := 1) (by decide)
  rw [h] at h2
  exact Option.some.inj h2
/-- Each format's step, and how a projected time stands to the time. -/
def stepW (f : Int) : Nat := if f = 1 then 4611686018427387904 else if f = 2 then 4566650022153682944 else 4607182418800017408
theorem step_sv {f : Int} (hf : f = 1 ∨ f = 2 ∨ f = 3 ∨ f = 4) : Fnt (stepW f) ∧ sv (stepW f) = ((if f = 1 then 2048 else if f = 2 then 2 else 1024 : Nat) : Int) * (UK : Int) := by
  have hUN := UN_UKi
  have hUH := UH_UK
  have h2 := sv_c c_two (by decide)
  have h1 := sv_c c_one (by decide)
  unfold stepW
  rcases hf with rfl | rfl | rfl | rfl
  · rw [if_pos rfl, if_pos rfl]
    exact ⟨h2.2, by rw [h2.1]; omega⟩
  · rw [if_neg (by decide), if_pos rfl, if_neg (by decide), if_pos rfl, c_part]
    exact ⟨fw_fnt (by decide), by rw [fw_sv (by decide)]; omega⟩
  · rw [if_neg (by decide), if_neg (by decide), if_neg (by decide), if_neg (by decide)]
    exact ⟨h1.2, by rw [h1.1]; omega⟩
  · rw [if_neg (by decide), if_neg (by decide), if_neg (by decide), if_neg (by decide)]
    exact ⟨h1.2, by rw [h1.1]; omega⟩
theorem time4 {E : Ent} {t : Nat} (h : TIn t) (hE : E.time = t) : (oneT E 4).time = floatOfInt .f64 (unixF t) := by
  have hb := h.flb
  rw [oneT4]
  dsimp only
  rw [hE, h.unix]
  unfold fromUnixF
  rw [if_neg (by omega)]
/-- A projected time: not later, and less than a step ahead. -/
theorem times_ok {E : Ent} {a p : Int} (a0 : 315532800 ≤ a) (a1 : a < 4294967295) (p0 : 0 ≤ p) (p1 : p < 1024) (hE : E.time = tmW a p) {f : Int} (hf : f = 1 ∨ f = 2 ∨ f = 3 ∨ f = 4) :
    (FloatKind.f64.format.order (oneT E f).time (tmW a p) == some .lt || FloatKind.f64.format.order (oneT E f).time (tmW a p) == some .eq) = true ∧
    ∃ r, floatBits .sub .f64 (tmW a p) (oneT E f).time = some r ∧ (FloatKind.f64.format.order r (stepW f) == some .lt) = true := by
  obtain ⟨hin, hfl⟩ := tm_in a0 a1 p0 p1
  have hs := tm_sv (a := a) (p := p) (by omega) a1 p0 p1
  have hUH := UH_UK
  have hUN := UN_UKi
  obtain ⟨hsf, hss⟩ := step_sv hf
  have key : Fnt (oneT E f).time ∧ sv (oneT E f).time ≤ sv (tmW a p) ∧ ∃ D : Int, sv (tmW a p) - sv (oneT E f).time = D * (UK : Int) ∧ 0 ≤ D ∧ D < ((if f = 1 then 2048 else if f = 2 then 2 else 1024 : Nat) : Int) := by
    rcases hf with rfl | rfl | rfl | rfl
    · rw [oneT1]
      dsimp only
      rw [hE]
      obtain ⟨h1, h2⟩ := hin.zip_in
      refine ⟨h1.fnt, ?_, a * 1024 + p - (a - a % 2) * 1024, ?_, by omega, by rw [if_pos rfl]; omega⟩
      · have := (hin.time_in (f := 1) (Or.inl rfl)).2; rw [timeF1] at this; exact this
      · rw [hs, h2, hfl, hUN, ← Int.mul_assoc, ← Int.sub_mul]
    · rw [oneT2]
      dsimp only
      rw [hE]
      obtain ⟨h1, h2, h3, h4⟩ := hin.fine_in
      have hq : sv (tmW a p) * 512 / (UN : Int) = (a * 1024 + p) / 2 := by
        have hK : (0 : Int) < (UK : Int) * 512 := by have := UK_pos; omega
        rw [hs, hUN, show (1024 : Int) * (UK : Int) = 2 * ((UK : Int) * 512) by omega, Int.mul_assoc, Int.mul_ediv_mul_of_pos_left _ _ hK]
      refine ⟨h1.fnt, h3, a * 1024 + p - (a * 1024 + p) / 2 * 2, ?_, by omega, by rw [if_neg (by decide), if_pos rfl]; omega⟩
      rw [h2, hq, hs, hUH, Int.natCast_mul, Int.mul_comm (UK : Int), ← Int.mul_assoc, ← Int.sub_mul]
      rfl
    · rw [oneT3]
      dsimp only
      rw [hE]
      obtain ⟨h1, h2⟩ := hin.unix_in
      refine ⟨h1.fnt, ?_, a * 1024 + p - a * 1024, ?_, by omega, by rw [if_neg (by decide), if_neg (by decide)]; omega⟩
      · rw [h2]; exact flr_le _
      · rw [hs, h2, hfl, hUN, ← Int.mul_assoc, ← Int.sub_mul]
    · rw [time4 hin hE]
      obtain ⟨h1, h2⟩ := hin.unix_in
      refine ⟨h1.fnt, ?_, a * 1024 + p - a * 1024, ?_, by omega, by rw [if_neg (by decide), if_neg (by decide)]; omega⟩
      · rw [h2]; exact flr_le _
      · rw [hs, h2, hfl, hUN, ← Int.mul_assoc, ← Int.sub_mul]
  obtain ⟨k1, k2, D, k3, k4, k5⟩ := key
  refine ⟨by rw [ord_le k1 hin.fnt]; exact decide_eq_true k2, step_lt hin.fnt k1 k3 k4 k5 (by split <;> (try split) <;> decide) hss hsf⟩
end Go.Proofs.YtdkfemmjoabbcaaDoor.Walks
