/- clock.Fine, told by a whole number of parts; what DOS keeps: plain, and the contract of clock.Dos. Contract of clock.Dos; what clock.FromDos makes of it. -/
import Derived.Test.YtdkfemmjoabbcaaDoorFls
import Derived.Test.YtdkfemmjoabbcaaDoorCalC
namespace Go.Proofs.YtdkfemmjoabbcaaDoor.Walks
open Go Go.RowKit Go.Proofs.YtdkfemmjoabbcaaDoor.Aid Go.Proofs.YtdkfemmjoabbcaaDoor.Pth Go.Proofs.YtdkfemmjoabbcaaDoor.Own Go.Proofs.YtdkfemmjoabbcaaDoorW.PrintWords Ieee

/-- 1/512, in units of 2^-1074. -/
def UH : Nat := 2 ^ (KU - 9)
theorem UH_eq : UH = 2 ^ (KU - 9) := rfl
attribute [irreducible] UH
theorem UH_UN : UN = UH * 512 := by
  rw [UN_eq, UH_eq, show (512 : Nat) = 2 ^ 9 from rfl, ← Nat.pow_add]
  congr 1
  have := KU_eq; omega
theorem UH_pos : 0 < UH := by rw [UH_eq]; exact Nat.two_pow_pos _
theorem exact_UH {n : Nat} (h : n < 2 ^ 53) : Exact (n * UH) := by rw [UH_eq]; exact exact_mk h (by have := KU_eq; omega)
/-- The word of a number of parts. -/
def fw (N : Int) : Nat := wd (decide (N < 0)) (N.natAbs * UH)
theorem fw_sv {N : Int} (h : N.natAbs < 2 ^ 53) : sv (fw N) = N * (UH : Int) := by
  unfold fw
  rw [wd_sv (exact_UH h)]
  by_cases d : N < 0
  · rw [decide_eq_true d, if_pos rfl]
    push_cast
    rw [← Int.neg_mul]; congr 1; omega
  · rw [decide_eq_false d, if_neg Bool.false_ne_true]
    push_cast
    congr 1; omega
theorem fw_fnt {N : Int} (h : N.natAbs < 2 ^ 53) : Fnt (fw N) := wd_fnt (exact_UH h)
theorem fw_zero : fw 0 = 0 := by
  unfold fw
  rw [show (0 : Int).natAbs * UH = 0 from Nat.zero_mul _]
  exact wd_zero
theorem fw_sg (N : Int) : sg (fw N) = decide (N < 0) := wd_sg _ _
def w512 : Nat := 4647714815446351872
theorem c_512 : w512 = floatOfInt .f64 512 := by kernel_rfl
theorem read_512 : Ieee.double.read w512 = .number false (2 ^ 52) (((9 : Nat) : Int) - 52) := by kernel_rfl
theorem val_512 : Fnt w512 ∧ sg w512 = false ∧ val (rg w512) = 2 ^ 9 * UN := by
  have h := sv_c c_512 (by decide)
  have hs : sg w512 = false := by kernel_rfl
  refine ⟨h.2, hs, ?_⟩
  have h1 := h.1
  unfold sv at h1
  rw [hs, if_neg Bool.false_ne_true] at h1
  rw [show (2 : Nat) ^ 9 = 512 from rfl]
  omega
/-- How many parts of 1/512 a time has. -/
def partsS (t : Nat) : Int := if isN t = true then 0 else if sv t < -8589934592 * (UN : Int) then -4398046511104 else if 8589934592 * (UN : Int) < sv t then 4398046511104 else sv t * 512 / (UN : Int)
theorem exact_scaled {t : Nat} (hf : Fnt t) (hb : val (rg t) ≤ 8589934592 * UN) : Exact (val (rg t) * 2 ^ 9) := by
  obtain ⟨m, p, _, hp, hv, hm⟩ := read_mp hf
  rw [hv]
  by_cases c : m = 0
  · subst c; rw [Nat.zero_mul, Nat.zero_mul]; exact exact_small (by rw [bb_pow]; exact Nat.two_pow_pos _)
  · obtain ⟨k, hk⟩ : ∃ k, (p + 1074).toNat = k := ⟨_, rfl⟩
    rw [hk] at hv ⊢
    have h1 : 2 ^ k ≤ 2 ^ (33 + KU) := by
      have e : 8589934592 * UN = 2 ^ (33 + KU) := by rw [UN_eq, Nat.pow_add]
      rw [← e]
      refine Nat.le_trans ?_ hb
      rw [hv]
      exact Nat.le_mul_of_pos_left _ (Nat.pos_of_ne_zero c)
    have h2 : k ≤ 33 + KU := (Nat.pow_le_pow_iff_right (by decide)).1 h1
    rw [Nat.mul_assoc, ← Nat.pow_add]
    exact exact_mk hm (by have := KU_eq; omega)
theorem sv_val {t : Nat} : (sv t).natAbs = val (rg t) := by unfold sv; split <;> omega
theorem fine_mid {t : Nat} (hn : isN t = false) (h0 : ¬ sv t < -8589934592 * (UN : Int)) (h1 : ¬ 8589934592 * (UN : Int) < sv t) :
    ∃ p, floatBits .mul .f64 t w512 = some p ∧ isN p = false ∧ floatBits .quo .f64 (flB p) w512 = some (wd (sg t) ((sv t * 512 / (UN : Int)).natAbs * UH)) ∧ (sv t * 512 / (UN : Int)).natAbs ≤ 4398046511104 := by
  have hU := UNi
  have hf : Fnt t := fnt_between (v := 8589934592 * UN) (isN_f hn) (exact_UN (by decide)) (by omega) (by omega)
  have hvb : val (rg t) ≤ 8589934592 * UN := by rw [← sv_val]; omega
  obtain ⟨k1, k2, k3⟩ := val_512
  have hm : Ieee.double.mul t w512 = some (wd (sg t) (val (rg t) * 2 ^ 9)) := mul_pow2 9 hf k1 k2 k3
  have hx := exact_scaled hf hvb
  have hps : sv (wd (sg t) (val (rg t) * 2 ^ 9)) = sv t * 512 := by
    rw [wd_sv hx]
    unfold sv
    rw [show (2 : Nat) ^ 9 = 512 from rfl]
    split <;> omega
  have hpf := wd_fnt (s := sg t) hx
  have hpg := wd_sg (sg t) (val (rg t) * 2 ^ 9)
  obtain ⟨p, hp⟩ : ∃ p, wd (sg t) (val (rg t) * 2 ^ 9) = p := ⟨_, rfl⟩
  rw [hp] at hm hps hpf hpg
  have hfl : flr p = sv t * 512 / (UN : Int) := by unfold flr; rw [hps]
  have hN : (flr p).natAbs ≤ 4398046511104 := by
    have a : -4398046511104 ≤ flr p := le_flr (by rw [hps]; omega)
    have b : flr p < 4398046511105 := flr_lt (by rw [hps]; omega)
    omega
  obtain ⟨q1, q2, q3⟩ := flB_sv hpf (by omega)
  have hqv : val (rg (flB p)) = (flr p).natAbs * UN := by
    rw [← sv_val, q1, Int.natAbs_mul, Int.natAbs_natCast]
  have hd := div_pow2 9 q2 read_512 (by decide) (by
    rw [hqv]
    by_cases c : (flr p).natAbs = 0
    · left; rw [c, Nat.zero_mul]
    · right; exact Nat.le_mul_of_pos_left _ (Nat.pos_of_ne_zero c))
  rw [q3, hpg, hqv, UH_UN, show (2 : Nat) ^ 9 = 512 from rfl, ← Nat.mul_assoc, Nat.mul_div_cancel _ (by decide), hfl] at hd
  rw [hfl] at hN
  exact ⟨p, hm, isN_of (fnt_le hpf), hd, hN⟩
theorem partsS_b (t : Nat) : (partsS t).natAbs ≤ 4398046511104 := by
  unfold partsS
  by_cases a : isN t = true
  · rw [if_pos a]; decide
  · rw [if_neg a]
    have a' : isN t = false := by cases h : isN t; rfl; exact absurd h a
    by_cases b : sv t < -8589934592 * (UN : Int)
    · rw [if_pos b]; decide
    · rw [if_neg b]
      by_cases c : 8589934592 * (UN : Int) < sv t
      · rw [if_pos c]; decide
      · rw [if_neg c]
        obtain ⟨_, _, _, _, h⟩ := fine_mid a' b c
        exact h
theorem fine_ok (t : Nat) : FineOk t := fun hn h0 h1 => by
  have h2 := sv_c c_mfar (by decide)
  have h3 := sv_c c_far (by decide)
  rw [ord_lt (isN_f hn) h2.2, decide_eq_false_iff_not, h2.1] at h0
  rw [ord_gt (isN_f hn) h3.2, decide_eq_false_iff_not, h3.1] at h1
  obtain ⟨p, a, b, c, _⟩ := fine_mid hn h0 h1
  exact ⟨p, _, a, b, c⟩
theorem fine_bits {t : Nat} {N : Int} (hN : sv t * 512 / (UN : Int) = N) (hb : N.natAbs < 2 ^ 53) : (if (FloatKind.f64.format.order (wd (sg t) (N.natAbs * UH)) 0 != some .eq) = true then wd (sg t) (N.natAbs * UH) else 0) = fw N := by
  have hz := sv_c c_zero (by decide)
  have hf := wd_fnt (s := sg t) (exact_UH hb)
  rw [bne, ord_eq (fnt_le hf) hz.2, hz.1, Int.zero_mul, wd_sv (exact_UH hb)]
  have hU := UH_pos
  by_cases c : N = 0
  · rw [c, fw_zero]
    rw [if_neg]
    rw [show (0 : Int).natAbs * UH = 0 from Nat.zero_mul _]
    cases sg t <;> simp
  · have hs : sg t = decide (N < 0) := by
      have hUN := UNi
      cases hs : sg t
      · have h1 := sv_nonneg hs
        have : 0 ≤ N := by rw [← hN]; exact Int.ediv_nonneg (by omega) (by omega)
        rw [decide_eq_false (by omega)]
      · have h1 := sv_neg hs
        have : N ≤ 0 := by
          rw [← hN]
          have := Int.ediv_le_ediv (c := (UN : Int)) hUN (show sv t * 512 ≤ 0 by omega)
          rwa [Int.zero_ediv] at this
        rw [decide_eq_true (by omega)]
    have hpos : 0 < N.natAbs * UH := Nat.mul_pos (by omega) hU
    rw [if_pos]
    · unfold fw; rw [hs]
    · rw [Bool.not_eq_true', decide_eq_false_iff_not]
      split <;> omega
theorem fineF_eq (t : Nat) : fineF t = fw (partsS t) := by
  have h2 := sv_c c_mfar (by decide)
  have h3 := sv_c c_far (by decide)
  unfold fineF partsS
  cases hn : isN t
  · rw [if_neg Bool.false_ne_true, if_neg Bool.false_ne_true, ord_lt (isN_f hn) h2.2, ord_gt (isN_f hn) h3.2, h2.1, h3.1]
    by_cases b : sv t < -8589934592 * (UN : Int)
    · rw [if_pos b, if_pos (decide_eq_true b)]
      have e1 : (-8589934592 : Int).natAbs * UN = (-4398046511104 : Int).natAbs * UH := by
        rw [show (-8589934592 : Int).natAbs = 8589934592 from rfl, show (-4398046511104 : Int).natAbs = 4398046511104 from rfl, UH_UN, Nat.mul_comm UH 512, ← Nat.mul_assoc]
      rw [c_mfar, ofInt_wd, e1]
      unfold fw
      rw [decide_eq_true (show (-8589934592 : Int) < 0 by decide), decide_eq_true (show (-4398046511104 : Int) < 0 by decide)]
    · rw [if_neg b, if_neg (by rw [decide_eq_false b]; exact Bool.false_ne_true)]
      by_cases c : 8589934592 * (UN : Int) < sv t
      · rw [if_pos c, if_pos (decide_eq_true c)]
        have e1 : (8589934592 : Int).natAbs * UN = (4398046511104 : Int).natAbs * UH := by
          rw [show (8589934592 : Int).natAbs = 8589934592 from rfl, show (4398046511104 : Int).natAbs = 4398046511104 from rfl, UH_UN, Nat.mul_comm UH 512, ← Nat.mul_assoc]
        rw [c_far, ofInt_wd, e1]
        unfold fw
        rw [decide_eq_false (show ¬ (8589934592 : Int) < 0 by decide), decide_eq_false (show ¬ (4398046511104 : Int) < 0 by decide)]
      · rw [if_neg c, if_neg (by rw [decide_eq_false c]; exact Bool.false_ne_true)]
        obtain ⟨p, e1, e2, e3, e4⟩ := fine_mid hn b c
        rw [show (4647714815446351872 : Nat) = w512 from rfl, e1]
        dsimp only
        rw [e3]
        exact fine_bits rfl (by omega)
  · rw [if_pos rfl, if_pos rfl, fw_zero]
theorem parts_fw {N : Int} (h : N.natAbs ≤ 4398046511104) : partsS (fw N) = N := by
  have hs := fw_sv (N := N) (by omega)
  have hf := fw_fnt (N := N) (by omega)
  have hU := UH_pos
  have hUN := UNi
  have e : (UN : Int) = (UH : Int) * 512 := by have := UH_UN; omega
  unfold partsS
  have a1 : N * (UH : Int) ≤ 4398046511104 * (UH : Int) := Int.mul_le_mul_of_nonneg_right (by omega) (by omega)
  have a2 : (-4398046511104) * (UH : Int) ≤ N * (UH : Int) := Int.mul_le_mul_of_nonneg_right (by omega) (by omega)
  rw [isN_of (fnt_le hf), if_neg Bool.false_ne_true, hs, if_neg (by rw [e]; omega), if_neg (by rw [e]; omega), e, Int.mul_assoc, Int.mul_ediv_cancel _ (by omega)]
/-- DOS's word for a moment. -/
def dosV (s : Int) : Int := packL (cY (s / 86400)) (cM (s / 86400)) (cD (s / 86400)) (s % 86400 / 3600) (s % 86400 / 60 % 60) (s % 86400 % 60 / 2)
def dosF (t : Nat) : Int := if isN t = true then 0 else dosV (dosS t)
theorem dos_dok {s : Int} (h0 : 315532800 ≤ s) (h1 : s ≤ 4354819199) : DOk (cY (s / 86400)) (cM (s / 86400)) (cD (s / 86400)) (s % 86400 / 3600) (s % 86400 / 60 % 60) (s % 86400 % 60 / 2 * 2) := by
  have h := day_ok (s / 86400) (by omega) (by omega)
  exact ⟨h.y, h.m, h.d, by omega, by omega, by omega, h.e⟩
theorem dos_sec {s : Int} (h0 : 315532800 ≤ s) (h1 : s ≤ 4354819199) : secL (cY (s / 86400)) (cM (s / 86400)) (cD (s / 86400)) (s % 86400 / 3600) (s % 86400 / 60 % 60) (s % 86400 % 60 / 2 * 2) = s - s % 2 := by
  have h := day_ok (s / 86400) (by omega) (by omega)
  unfold secL
  rw [h.n]
  omega
/-- The time that zip keeps. -/
def zipF (t : Nat) : Nat := if isN t = true then nanW else floatOfInt .f64 (dosS t - dosS t % 2)
end Go.Proofs.YtdkfemmjoabbcaaDoor.Walks
namespace Go.Proofs.YtdkfemmjoabbcaaDoor.Walks
open Go Go.RowKit Go.Proofs.YtdkfemmjoabbcaaDoor.Aid Go.Proofs.YtdkfemmjoabbcaaDoor.Pth Go.Proofs.YtdkfemmjoabbcaaDoor.Own Go.Proofs.YtdkfemmjoabbcaaDoorW.PrintWords Ieee

theorem or_i64 (k : Nat) {x y : Int} (hk : k ≤ 62) (hx₀ : 0 ≤ x) (hx : x % 2 ^ k = 0) (hx₁ : x < 4611686018427387904) (h₀ : 0 ≤ y) (h₁ : y < 2 ^ k) : Go.bits .or .i64 x y = x + y := by
  have e : (2 : Int) ^ k ≤ 2 ^ 62 := by exact_mod_cast Nat.pow_le_pow_right (by decide) hk
  exact bits_join .i64 63 (by decide) stays_i64.2 k x y hx₀ hx (Int.lt_trans hx₁ (by decide)) h₀ h₁ (Int.lt_trans (Int.lt_of_lt_of_le h₁ e) (by decide))
/-- The pieces of a DOS word. -/
theorem pack_or {y m d h i t : Int} (hy : 1980 ≤ y ∧ y ≤ 2107) (hm : 1 ≤ m ∧ m ≤ 12) (hd : 1 ≤ d ∧ d ≤ 31) (hh : 0 ≤ h ∧ h ≤ 23) (hi : 0 ≤ i ∧ i ≤ 59) (ht : 0 ≤ t ∧ t ≤ 29) :
    Go.bits .or .i64 ((y - 1980) * 512) (m * 32) = (y - 1980) * 512 + m * 32 ∧ Go.bits .or .i64 ((y - 1980) * 512 + m * 32) d = (y - 1980) * 512 + m * 32 + d ∧
    Go.bits .or .i64 (((y - 1980) * 512 + m * 32 + d) * 65536) (h * 2048) = ((y - 1980) * 512 + m * 32 + d) * 65536 + h * 2048 ∧
    Go.bits .or .i64 (((y - 1980) * 512 + m * 32 + d) * 65536 + h * 2048) (i * 32) = ((y - 1980) * 512 + m * 32 + d) * 65536 + h * 2048 + i * 32 ∧
    Go.bits .or .i64 (((y - 1980) * 512 + m * 32 + d) * 65536 + h * 2048 + i * 32) t = packL y m d h i t := by
  refine ⟨or_i64 9 (by decide) ?_ ?_ ?_ ?_ ?_, or_i64 5 (by decide) ?_ ?_ ?_ ?_ ?_, or_i64 16 (by decide) ?_ ?_ ?_ ?_ ?_, or_i64 11 (by decide) ?_ ?_ ?_ ?_ ?_, or_i64 5 (by decide) ?_ ?_ ?_ ?_ ?_⟩
  all_goals omega
theorem fld6 (y m d h i s : Int) (j : Nat) (v : Int) (hv : (drow y m d h i s)[j]? = some (.int .i64 v)) {w : World} {g : Nat} (hb : w.heap[g]? = some (.cells (drow y m d h i s) 53 (0, 0))) : w.cell? ⟨g, j, none⟩ = some (.int .i64 v) := by
  rw [Joins.cell_of_block hb j, hv]
set_option maxRecDepth 100000 in
set_option maxHeartbeats 4000000 in
theorem dos_rest (s : Int) (h0 : 315532800 ≤ s) (h1 : s ≤ 4354819199) (u : World) : Calls Tryd.prog 42 #[.int .i64 s] u (fun x w' => x = .returned (secD (s / 86400) (s % 86400)) ∧ Only (fun _ => False) u w') :=
  date_any s u (by omega) (by omega) (day_ok (s / 86400) (by omega) (by omega)).i
set_option maxRecDepth 100000 in
set_option maxHeartbeats 4000000 in
theorem dos_any (t : Nat) (w : World) : Calls Tryd.prog 23 #[.float .f64 t] w (fun x w' => x = .returned (.int .i64 (dosF t)) ∧ Only (fun _ => False) w w') := by
  cases hn : isN t
  · have hF := sv_c c_first (by decide)
    have hA := sv_c c_after (by decide)
    have g0 : (FloatKind.f64.format.order t t != some .eq) = false := hn
    have g1 : (FloatKind.f64.format.order t 4734073370679705600 == some .lt) = decide (sv t < 315532800 * (UN : Int)) := by rw [ord_lt (isN_f hn) hF.2, hF.1]
    have g2 : ((FloatKind.f64.format.order t 4751360366145961984 == some .gt) || (FloatKind.f64.format.order t 4751360366145961984 == some .eq)) = decide (4354819200 * (UN : Int) ≤ sv t) := by
      rw [ord_gt (isN_f hn) hA.2, ord_eq (isN_f hn) hA.2, hA.1, ← Bool.decide_or]
      exact decide_eq_decide.2 (by omega)
    have hb := dosS_b hn
    have hD : dosF t = dosV (dosS t) := by unfold dosF; rw [hn, if_neg Bool.false_ne_true]
    have hS : dosS t = if sv t < 315532800 * (UN : Int) then 315532800 else if 4354819200 * (UN : Int) ≤ sv t then 4354819198 else flr t := rfl
    have HFl := Lib.hid (fun u => floor_any u t hn)
    have HMid := Lib.hid (fun a b => (dos_mid hn a b).2.2.2)
    have hk := dos_dok hb.1 hb.2
    have HDt := Lib.hid (fun u => dos_rest (dosS t) hb.1 hb.2 u)
    have HV := Lib.hid (show dosV (dosS t) = packL (cY (dosS t / 86400)) (cM (dosS t / 86400)) (cD (dosS t / 86400)) (dosS t % 86400 / 3600) (dosS t % 86400 / 60 % 60) (dosS t % 86400 % 60 / 2) from rfl)
    have hr : 0 ≤ dosS t % 86400 ∧ dosS t % 86400 < 86400 := by omega
    rw [hD]
    unfold secD at HDt
    obtain ⟨s, hs⟩ : ∃ s, dosS t = s := ⟨_, rfl⟩
    rw [hs] at hk HV HDt hr hS ⊢
    obtain ⟨r, hr'⟩ : ∃ r, s % 86400 = r := ⟨_, rfl⟩
    rw [hr'] at hk HV HDt hr
    obtain ⟨Y, hY⟩ : ∃ Y, cY (s / 86400) = Y := ⟨_, rfl⟩
    obtain ⟨M, hM⟩ : ∃ M, cM (s / 86400) = M := ⟨_, rfl⟩
    obtain ⟨D, hDD⟩ : ∃ D, cD (s / 86400) = D := ⟨_, rfl⟩
    rw [hY, hM, hDD] at hk HV HDt
    obtain ⟨h, hh⟩ : ∃ h, r / 3600 = h := ⟨_, rfl⟩
    obtain ⟨i, hi⟩ : ∃ i, r / 60 % 60 = i := ⟨_, rfl⟩
    obtain ⟨q, hq⟩ : ∃ q, r % 60 = q := ⟨_, rfl⟩
    have hq2 : 0 ≤ q ∧ q < 60 := by omega
    rw [hh, hi, hq] at hk HV HDt
    obtain ⟨p1, p2, p3, p4, p5⟩ := pack_or hk.hy hk.hm ⟨hk.hd.1, hk.he⟩ hk.hh hk.hi (show 0 ≤ q / 2 ∧ q / 2 ≤ 29 by omega)
    rw [← HV.out] at p5
    have HV2 := Lib.hid (show dosV s = dosV s from rfl)
    obtain ⟨V, hV⟩ : ∃ V, dosV s = V := ⟨_, rfl⟩
    rw [hV] at p5 ⊢
    obtain ⟨y0, y1⟩ := hk.hy
    obtain ⟨m0, m1⟩ := hk.hm
    obtain ⟨h0, h1⟩ := hk.hh
    obtain ⟨i0, i1⟩ := hk.hi
    obtain ⟨q0, q1⟩ := hq2
    have d0 := hk.hd.1
    have d1 := hk.he
    obtain ⟨b1, hb1⟩ : ∃ b : Bool, decide (sv t < 315532800 * (UN : Int)) = b := ⟨_, rfl⟩
    obtain ⟨b2, hb2⟩ : ∃ b : Bool, decide (4354819200 * (UN : Int) ≤ sv t) = b := ⟨_, rfl⟩
    rw [hb1] at g1
    rw [hb2] at g2
    have HS := Lib.hid hS
    have HB1 := Lib.hid hb1
    have HB2 := Lib.hid hb2
    clear hn hF hA hD hS hk hs hr' hY hM hDD hh hi hq hV hr hb HV HV2 hb1 hb2
    rcases wayT b1 (ways b2) with rfl | ⟨rfl, rfl | rfl⟩
    · have e : s = 315532800 := by rw [HS.out, if_pos (of_decide_eq_true HB1.out)]
      subst e
      clear HMid HS
      go_enter Tryd.func23, Tryd.ntmps23
      go_upto_region 10 with (first
        | (go_at_call 40; refine (HFl.out _).mono ?_; rintro x w0 ⟨rfl, rfl⟩)
        | (go_at_call 42; refine (HDt.out _).mono ?_; rintro x w1 ⟨rfl, ho1⟩; have H1 := Lib.hid ho1; clear ho1)
        | ((with_reducible refine gate_store 53 rfl ?_); refine store_newD rfl rfl Y M D h i q _ _ rfl rfl rfl ?_; intro w3 hb3 ho3))
      have x0 := fld6 Y M D h i q 0 Y rfl hb3
      have x1 := fld6 Y M D h i q 1 M rfl hb3
      have x2 := fld6 Y M D h i q 2 D rfl hb3
      have x3 := fld6 Y M D h i q 3 h rfl hb3
      have x4 := fld6 Y M D h i q 4 i rfl hb3
      have x5 := fld6 Y M D h i q 5 q rfl hb3
      replace H1 := Lib.hid (H1.out.trans' ho3)
      clear hb3 ho3
      go_wp2_with fail
      go_ret
      exact ⟨rfl, H1.out⟩
    · have e : s = flr t := by rw [HS.out, if_neg (of_decide_eq_false HB1.out), if_neg (of_decide_eq_false HB2.out)]
      have hv := run_convert_float_int (P := Tryd.prog) w 22 3 .f64 .i64 (flB t) s (by kernel_rfl) (by kernel_rfl) (by rw [e]; exact HMid.out (of_decide_eq_false HB1.out) (of_decide_eq_false HB2.out))
      clear HMid HS e
      go_enter Tryd.func23, Tryd.ntmps23
      go_upto_region 10 with (first
        | (go_at_call 40; refine (HFl.out _).mono ?_; rintro x w0 ⟨rfl, rfl⟩)
        | (go_at_call 42; refine (HDt.out _).mono ?_; rintro x w1 ⟨rfl, ho1⟩; have H1 := Lib.hid ho1; clear ho1)
        | ((with_reducible refine gate_store 53 rfl ?_); refine store_newD rfl rfl Y M D h i q _ _ rfl rfl rfl ?_; intro w3 hb3 ho3))
      have x0 := fld6 Y M D h i q 0 Y rfl hb3
      have x1 := fld6 Y M D h i q 1 M rfl hb3
      have x2 := fld6 Y M D h i q 2 D rfl hb3
      have x3 := fld6 Y M D h i q 3 h rfl hb3
      have x4 := fld6 Y M D h i q 4 i rfl hb3
      have x5 := fld6 Y M D h i q 5 q rfl hb3
      replace H1 := Lib.hid (H1.out.trans' ho3)
      clear hb3 ho3
      go_wp2_with fail
      go_ret
      exact ⟨rfl, H1.out⟩
    · have e : s = 4354819198 := by rw [HS.out, if_neg (of_decide_eq_false HB1.out), if_pos (of_decide_eq_true HB2.out)]
      subst e
      clear HMid HS
      go_enter Tryd.func23, Tryd.ntmps23
      go_upto_region 10 with (first
        | (go_at_call 40; refine (HFl.out _).mono ?_; rintro x w0 ⟨rfl, rfl⟩)
        | (go_at_call 42; refine (HDt.out _).mono ?_; rintro x w1 ⟨rfl, ho1⟩; have H1 := Lib.hid ho1; clear ho1)
        | ((with_reducible refine gate_store 53 rfl ?_); refine store_newD rfl rfl Y M D h i q _ _ rfl rfl rfl ?_; intro w3 hb3 ho3))
      have x0 := fld6 Y M D h i q 0 Y rfl hb3
      have x1 := fld6 Y M D h i q 1 M rfl hb3
      have x2 := fld6 Y M D h i q 2 D rfl hb3
      have x3 := fld6 Y M D h i q 3 h rfl hb3
      have x4 := fld6 Y M D h i q 4 i rfl hb3
      have x5 := fld6 Y M D h i q 5 q rfl hb3
      replace H1 := Lib.hid (H1.out.trans' ho3)
      clear hb3 ho3
      go_wp2_with fail
      go_ret
      exact ⟨rfl, H1.out⟩
  · have g0 : (FloatKind.f64.format.order t t != some .eq) = true := hn
    have HR := Lib.hid (show dosF t = 0 by unfold dosF; rw [hn, if_pos rfl])
    clear hn
    go_enter Tryd.func23, Tryd.ntmps23
    go_wp2_with fail
    go_ret
    exact ⟨by rw [HR.out]; rfl, Only.refl _ _⟩
/-- What clock.FromDos makes of what clock.Dos gives. -/
theorem dos_back (t : Nat) (w : World) : Calls Tryd.prog 22 #[.int .i64 (dosF t)] w (fun x w' => x = .returned (.float .f64 (zipF t)) ∧ Only (fun _ => False) w w') := by
  unfold dosF zipF
  cases hn : isN t
  · rw [if_neg Bool.false_ne_true, if_neg Bool.false_ne_true]
    have hb := dosS_b hn
    have := fromDos_ok _ _ _ _ _ _ w (dos_dok hb.1 hb.2)
    rw [dos_sec hb.1 hb.2] at this
    exact this
  · rw [if_pos rfl, if_pos rfl]
    exact fromDos_none w
end Go.Proofs.YtdkfemmjoabbcaaDoor.Walks
