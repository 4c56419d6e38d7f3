/- The reference's clock: None, whole, Unix, FromUnix, Parts, Fine. The reference's clock: Parts, Fine, Seconds, Dos, FromDos. The reference's clock: Seconds of no date, Dos, FromDos. -/
import Derived.Test.YtdkfemmjoabbcaaDoorFns
import Derived.Test.YtdkfemmjoabbcaaDoorCalR
namespace Go.Proofs.YtdkfemmjoabbcaaDoor.Walks
open Go Go.RowKit Go.Proofs.YtdkfemmjoabbcaaDoor.Aid Go.Proofs.YtdkfemmjoabbcaaDoor.Pth Go.Proofs.YtdkfemmjoabbcaaDoor.Own Go.Proofs.YtdkfemmjoabbcaaDoorW.PrintWords Ieee

theorem order_nan (a b : Nat) (h : (Ieee.double.read b).isNaN = true) : FloatKind.f64.format.order a b = none := by
  show Ieee.Datum.order (Ieee.double.read a) (Ieee.double.read b) = none
  cases hb : Ieee.double.read b with
  | nan s f => cases Ieee.double.read a <;> rfl
  | number _ _ _ => rw [hb] at h; simp [Ieee.Datum.isNaN] at h
  | infinity _ => rw [hb] at h; simp [Ieee.Datum.isNaN] at h
def nanB (x y t : Nat) : Nat := Question.cut (.nanBits .f64 x y) t
theorem read_nan (x y t : Nat) : (Ieee.double.read (nanB x y t)).isNaN = true := by
  have e : nanB x y t = (t % 2) * 9223372036854775808 + 9218868437227405312 + 1 + (t / 2) % 4503599627370495 := rfl
  rw [e]
  have hm : (t % 2 * 9223372036854775808 + 9218868437227405312 + 1 + t / 2 % 4503599627370495) % 9223372036854775808 = 9218868437227405312 + 1 + t / 2 % 4503599627370495 := by omega
  generalize t / 2 % 4503599627370495 = q at hm ⊢
  unfold Ieee.Format.read
  have s : Ieee.double.signWeight = 9223372036854775808 := rfl
  have b : Ieee.double.binade = 4503599627370496 := rfl
  have i : Ieee.double.infRung = 9218868437227405312 := rfl
  simp only [s, b, i, hm]
  rw [if_neg (by omega), if_neg (by omega), if_neg (by omega)]
  rfl
theorem quo_none (P : Program) (w : World) (t : TypeId) (x y : Nat) (h : floatBits .quo .f64 x y = none) :
    ∃ b, (binOp .quo t (.float .f64 x) (.float .f64 y)).run P w = .ok (.float .f64 b) w.drew ∧ isN b = true := by
  have h' : FloatKind.f64.format.div x y = none := h
  refine ⟨nanB x y (w.tape w.drawn (.nanBits .f64 x y)), ?_, by unfold isN; rw [order_nan _ _ (read_nan _ _ _)]; rfl⟩
  have e : binOp .quo t (.float .f64 x) (.float .f64 y) = Op.floatArith .quo .f64 x y := by simp [binOp]
  rw [e]
  unfold Op.floatArith
  simp only [h']
  rfl
/-- A time that is none is handed back. -/
def NanPost (w : World) (x : Ending) (w' : World) : Prop := ∃ b, x = .returned (.float .f64 b) ∧ isN b = true ∧ Only (fun _ => False) w w'
set_option maxRecDepth 100000 in
set_option maxHeartbeats 4000000 in
theorem rnone_any (w : World) : Calls Tryd.prog 39 #[] w (NanPost w) := by
  obtain ⟨b, hr, hb⟩ := quo_none Tryd.prog w 22 0 0 (by kernel_rfl)
  have HB := Lib.hid hb
  clear hb
  go_enter Tryd.func39, Tryd.ntmps39
  go_wp2_with fail
  go_ret
  exact ⟨b, rfl, HB.out, (Only.refl _ w).drew⟩
theorem trunc_flr (t : Nat) : flr t = if sv t < (sv t).tdiv (UN : Int) * (UN : Int) then (sv t).tdiv (UN : Int) - 1 else (sv t).tdiv (UN : Int) := by
  have hU := UNi
  have h1 := Int.mul_tdiv_add_tmod (sv t) (UN : Int)
  have h2 : (sv t).tdiv (UN : Int) * (UN : Int) + (sv t).tmod (UN : Int) = sv t := by rw [Int.mul_comm]; exact h1
  obtain ⟨q, hq⟩ : ∃ q, (sv t).tdiv (UN : Int) = q := ⟨_, rfl⟩
  obtain ⟨r, hr⟩ : ∃ r, (sv t).tmod (UN : Int) = r := ⟨_, rfl⟩
  rw [hq, hr] at h2
  rw [hq]
  have hb : -(UN : Int) < r ∧ r < (UN : Int) := by
    rw [← hr]
    exact ⟨Int.lt_tmod_of_pos _ hU, Int.tmod_lt_of_pos _ hU⟩
  by_cases c : sv t < q * (UN : Int)
  · rw [if_pos c]
    unfold flr
    rw [← h2]
    have e : q * (UN : Int) + r = (r + (UN : Int)) + (UN : Int) * (q - 1) := by rw [Int.mul_sub, Int.mul_comm q]; omega
    rw [e, Int.add_mul_ediv_left _ _ (by omega), Int.ediv_eq_zero_of_lt (by omega) (by omega)]; omega
  · rw [if_neg c]
    unfold flr
    rw [← h2]
    have e : q * (UN : Int) + r = r + (UN : Int) * q := by rw [Int.mul_comm q]; omega
    rw [e, Int.add_mul_ediv_left _ _ (by omega), Int.ediv_eq_zero_of_lt (by omega) (by omega)]; omega
set_option maxRecDepth 100000 in
set_option maxHeartbeats 4000000 in
theorem rwhole_any (t : Nat) (w : World) (hf : Fnt t) (hb : (flr t).natAbs < 2 ^ 52) : Calls Tryd.prog 50 #[.float .f64 t] w (fun x w' => x = .returned (.int .i64 (flr t)) ∧ w' = w) := by
  have hF := trunc_flr t
  have hq : ((sv t).tdiv (UN : Int)).natAbs ≤ 2 ^ 52 := by
    rw [hF] at hb
    split at hb <;> omega
  have htv := trunc_val hf (by omega) (by omega)
  have hv := run_convert_float_int (P := Tryd.prog) w 22 3 .f64 .i64 t _ (by kernel_rfl) (by kernel_rfl) htv
  have hc : (FloatKind.f64.format.order (floatOfInt .f64 ((sv t).tdiv (UN : Int))) t == some .gt) = decide (sv t < (sv t).tdiv (UN : Int) * (UN : Int)) := by
    rw [ord_gt (fnt_le (ofInt_fnt (by omega))) hf, ofInt_sv (by omega)]
  obtain ⟨q, hqq⟩ : ∃ q, (sv t).tdiv (UN : Int) = q := ⟨_, rfl⟩
  rw [hqq] at hF hv hc hq
  have q0 : -4503599627370496 ≤ q := by omega
  have q1 : q ≤ 4503599627370496 := by omega
  obtain ⟨b, hbb⟩ : ∃ b : Bool, decide (sv t < q * (UN : Int)) = b := ⟨_, rfl⟩
  rw [hbb] at hc
  have HF := Lib.hid (show flr t = if b = true then q - 1 else q by rw [hF, ← hbb]; simp only [decide_eq_true_eq])
  clear hF hqq hbb hb htv hf hq
  cases b
  all_goals
    go_enter Tryd.func50, Tryd.ntmps50
    go_wp2_with fail
    go_ret
    exact ⟨by rw [HF.out]; rfl, rfl⟩
set_option maxRecDepth 100000 in
set_option maxHeartbeats 4000000 in
theorem runix_any (t : Nat) (w : World) : Calls Tryd.prog 34 #[.float .f64 t] w (fun x w' => x = .returned (.int .i64 (unixF t)) ∧ w' = w) := by
  rw [unixF_eq]
  have hz := sv_c c_zero (by decide)
  have hm := sv_c c_max32 (by decide)
  have hS : unixS t = if isN t = true ∨ sv t < 0 then 0 else if 4294967295 * (UN : Int) ≤ sv t then 4294967295 else flr t := rfl
  cases hn : isN t
  · have g1 : (FloatKind.f64.format.order t 0 == some .gt || FloatKind.f64.format.order t 0 == some .eq) = decide (0 ≤ sv t) := by
      rw [ord_gt (isN_f hn) hz.2, ord_eq (isN_f hn) hz.2, hz.1, Int.zero_mul, ← Bool.decide_or]
      exact decide_eq_decide.2 (by omega)
    have g2 : (FloatKind.f64.format.order t 4751297606873776128 == some .gt || FloatKind.f64.format.order t 4751297606873776128 == some .eq) = decide (4294967295 * (UN : Int) ≤ sv t) := by
      rw [ord_gt (isN_f hn) hm.2, ord_eq (isN_f hn) hm.2, hm.1, ← Bool.decide_or]
      exact decide_eq_decide.2 (by omega)
    by_cases a : 0 ≤ sv t
    · rw [decide_eq_true a] at g1
      by_cases b : 4294967295 * (UN : Int) ≤ sv t
      · rw [decide_eq_true b] at g2
        have HR := Lib.hid (show unixS t = 4294967295 by rw [hS, if_neg (by rw [hn]; intro h; rcases h with h | h; cases h; omega), if_pos b])
        clear a b hS hz hm hn
        go_enter Tryd.func34, Tryd.ntmps34
        go_wp2_with fail
        go_ret
        exact ⟨by rw [HR.out]; rfl, rfl⟩
      · rw [decide_eq_false b] at g2
        have hmid := unix_mid hn (by omega) b
        have HW := Lib.hid (fun u => rwhole_any t u hmid.1 (by have := hmid.2.1; have := hmid.2.2.1; omega))
        have HR := Lib.hid (show unixS t = flr t by rw [hS, if_neg (by rw [hn]; intro h; rcases h with h | h; cases h; omega), if_neg b])
        clear a b hS hz hm hn hmid
        go_enter Tryd.func34, Tryd.ntmps34
        go_wp2_with (go_at_call 50; (with_reducible refine (HW.out _).mono ?_); rintro x w1 ⟨rfl, hw⟩; obtain rfl := hw.symm)
        go_ret
        exact ⟨by rw [HR.out]; rfl, rfl⟩
    · rw [decide_eq_false a] at g1
      have HR := Lib.hid (show unixS t = 0 by rw [hS, if_pos (Or.inr (by omega))])
      clear a hS hz hm hn g2
      go_enter Tryd.func34, Tryd.ntmps34
      go_wp2_with fail
      go_ret
      exact ⟨by rw [HR.out]; rfl, rfl⟩
  · have g1 : (FloatKind.f64.format.order t 0 == some .gt || FloatKind.f64.format.order t 0 == some .eq) = false := by
      show (Ieee.double.order t 0 == _ || Ieee.double.order t 0 == _) = _
      rw [order_nan_l (isN_t hn)]; rfl
    have HR := Lib.hid (show unixS t = 0 by rw [hS, if_pos (Or.inl hn)])
    clear hS hz hm hn
    go_enter Tryd.func34, Tryd.ntmps34
    go_wp2_with fail
    go_ret
    exact ⟨by rw [HR.out]; rfl, rfl⟩
/-- A number's time, or none. -/
def UPost (v : Int) (w : World) (x : Ending) (w' : World) : Prop := ∃ b, x = .returned (.float .f64 b) ∧ (if v < 1 ∨ 4294967295 < v then isN b = true else b = floatOfInt .f64 v) ∧ Only (fun _ => False) w w'
set_option maxRecDepth 100000 in
set_option maxHeartbeats 4000000 in
theorem rfromUnix_any (w : World) (v : Int) : Calls Tryd.prog 38 #[.int .i64 v] w (UPost v w) := by
  have HN := Lib.hid (rnone_any w)
  by_cases c1 : v < 1
  · have d1 : decide (v < 1) = true := decide_eq_true c1
    have HP := Lib.hid (fun b (h : isN b = true) => show (if v < 1 ∨ 4294967295 < v then isN b = true else b = floatOfInt .f64 v) by rw [if_pos (Or.inl c1)]; exact h)
    clear c1
    go_enter Tryd.func38, Tryd.ntmps38
    go_wp2_with (go_at_call 39; (with_reducible refine HN.out.mono ?_); rintro x w1 ⟨b, rfl, h1, h2⟩; have H1 := Lib.hid h1; have H2 := Lib.hid h2; clear h1 h2)
    go_ret
    exact ⟨b, rfl, HP.out b H1.out, H2.out⟩
  · have d1 : decide (v < 1) = false := decide_eq_false c1
    by_cases c2 : 4294967295 < v
    · have d2 : decide (4294967295 < v) = true := decide_eq_true c2
      have HP := Lib.hid (fun b (h : isN b = true) => show (if v < 1 ∨ 4294967295 < v then isN b = true else b = floatOfInt .f64 v) by rw [if_pos (Or.inr c2)]; exact h)
      clear c1 c2
      go_enter Tryd.func38, Tryd.ntmps38
      go_wp2_with (go_at_call 39; (with_reducible refine HN.out.mono ?_); rintro x w1 ⟨b, rfl, h1, h2⟩; have H1 := Lib.hid h1; have H2 := Lib.hid h2; clear h1 h2)
      go_ret
      exact ⟨b, rfl, HP.out b H1.out, H2.out⟩
    · have d2 : decide (4294967295 < v) = false := decide_eq_false c2
      have HP := Lib.hid (show ∀ b, b = floatOfInt .f64 v → (if v < 1 ∨ 4294967295 < v then isN b = true else b = floatOfInt .f64 v) from fun b hb => by rw [if_neg (by omega)]; exact hb)
      clear c1 c2
      go_enter Tryd.func38, Tryd.ntmps38
      go_wp2_with fail
      go_ret
      exact ⟨_, rfl, HP.out _ rfl, Only.refl _ _⟩
end Go.Proofs.YtdkfemmjoabbcaaDoor.Walks
namespace Go.Proofs.YtdkfemmjoabbcaaDoor.Walks
open Go Go.RowKit Go.Proofs.YtdkfemmjoabbcaaDoor.Aid Go.Proofs.YtdkfemmjoabbcaaDoor.Pth Go.Proofs.YtdkfemmjoabbcaaDoor.Own Go.Proofs.YtdkfemmjoabbcaaDoorW.PrintWords Ieee

theorem rparts_mid {t : Nat} (hn : isN t = false) (h0 : ¬ sv t < -8589934592 * (UN : Int)) (h1 : ¬ 8589934592 * (UN : Int) < sv t) :
    ∃ p, floatBits .mul .f64 t w512 = some p ∧ Fnt p ∧ flr p = sv t * 512 / (UN : Int) ∧ (flr p).natAbs < 2 ^ 52 := by
  have hU := UNi
  have hf : Fnt t := fnt_between (v := 8589934592 * UN) (isN_f hn) (exact_UN (by decide)) (by omega) (by omega)
  have hvb : val (rg t) ≤ 8589934592 * UN := by rw [← sv_val]; omega
  obtain ⟨k1, k2, k3⟩ := val_512
  have hm : Ieee.double.mul t w512 = some (wd (sg t) (val (rg t) * 2 ^ 9)) := mul_pow2 9 hf k1 k2 k3
  have hx := exact_scaled hf hvb
  have hps : sv (wd (sg t) (val (rg t) * 2 ^ 9)) = sv t * 512 := by
    rw [wd_sv hx]
    unfold sv
    rw [show (2 : Nat) ^ 9 = 512 from rfl]
    split <;> omega
  have hfl : flr (wd (sg t) (val (rg t) * 2 ^ 9)) = sv t * 512 / (UN : Int) := by unfold flr; rw [hps]
  refine ⟨_, hm, wd_fnt hx, hfl, ?_⟩
  rw [hfl]
  obtain ⟨_, _, _, _, h⟩ := fine_mid hn h0 h1
  omega
set_option maxRecDepth 100000 in
set_option maxHeartbeats 4000000 in
theorem rpartsf_any (t : Nat) (w : World) : Calls Tryd.prog 49 #[.float .f64 t] w (fun x w' => x = .returned (.int .i64 (partsS t)) ∧ w' = w) := by
  have h2 := sv_c c_mfar (by decide)
  have h3 := sv_c c_far (by decide)
  have hS : partsS t = if isN t = true then 0 else if sv t < -8589934592 * (UN : Int) then -4398046511104 else if 8589934592 * (UN : Int) < sv t then 4398046511104 else sv t * 512 / (UN : Int) := rfl
  have hU := UNi
  cases hn : isN t
  · have g0 : (FloatKind.f64.format.order t t != some .eq) = false := hn
    have g1 : (FloatKind.f64.format.order t 13979173243358019584 == some .lt || FloatKind.f64.format.order t 13979173243358019584 == some .eq) = decide (sv t ≤ -8589934592 * (UN : Int)) := by
      rw [ord_lt (isN_f hn) h2.2, ord_eq (isN_f hn) h2.2, h2.1, ← Bool.decide_or]
      exact decide_eq_decide.2 (by omega)
    have g2 : (FloatKind.f64.format.order t 4755801206503243776 == some .gt || FloatKind.f64.format.order t 4755801206503243776 == some .eq) = decide (8589934592 * (UN : Int) ≤ sv t) := by
      rw [ord_gt (isN_f hn) h3.2, ord_eq (isN_f hn) h3.2, h3.1, ← Bool.decide_or]
      exact decide_eq_decide.2 (by omega)
    rw [if_neg (by rw [hn]; exact Bool.false_ne_true)] at hS
    by_cases a : sv t ≤ -8589934592 * (UN : Int)
    · rw [decide_eq_true a] at g1
      have HR := Lib.hid (show partsS t = -4398046511104 by
        rw [hS]
        by_cases e : sv t = -8589934592 * (UN : Int)
        · rw [if_neg (by omega), if_neg (by omega), e, show -8589934592 * (UN : Int) * 512 = -4398046511104 * (UN : Int) by omega, Int.mul_ediv_cancel _ (by omega)]
        · rw [if_pos (by omega)])
      clear a hS h2 h3 hn hU
      go_enter Tryd.func49, Tryd.ntmps49
      go_wp2_with fail
      go_ret
      exact ⟨by rw [HR.out]; rfl, rfl⟩
    · rw [decide_eq_false a] at g1
      by_cases b : 8589934592 * (UN : Int) ≤ sv t
      · rw [decide_eq_true b] at g2
        have HR := Lib.hid (show partsS t = 4398046511104 by
          rw [hS]
          by_cases e : sv t = 8589934592 * (UN : Int)
          · rw [if_neg (by omega), if_neg (by omega), e, show 8589934592 * (UN : Int) * 512 = 4398046511104 * (UN : Int) by omega, Int.mul_ediv_cancel _ (by omega)]
          · rw [if_neg (by omega), if_pos (by omega)])
        clear a b hS h2 h3 hn hU
        go_enter Tryd.func49, Tryd.ntmps49
        go_wp2_with fail
        go_ret
        exact ⟨by rw [HR.out]; rfl, rfl⟩
      · rw [decide_eq_false b] at g2
        obtain ⟨p, hp1, hp2, hp3, hp4⟩ := rparts_mid hn (show ¬ sv t < -8589934592 * (UN : Int) by omega) (show ¬ 8589934592 * (UN : Int) < sv t by omega)
        have HR := Lib.hid (show partsS t = flr p by rw [hS, if_neg (by omega), if_neg (by omega), hp3])
        have HW := Lib.hid (fun u => rwhole_any p u hp2 hp4)
        have hv := run_float_arith (P := Tryd.prog) w .mul 22 .f64 t 4647714815446351872 p hp1
        clear a b hS h2 h3 hn hU hp1 hp2 hp3 hp4
        go_enter Tryd.func49, Tryd.ntmps49
        go_wp2_with (go_at_call 50; (with_reducible refine (HW.out _).mono ?_); rintro x w1 ⟨rfl, hw⟩; obtain rfl := hw.symm)
        go_ret
        exact ⟨by rw [HR.out]; rfl, rfl⟩
  · have g0 : (FloatKind.f64.format.order t t != some .eq) = true := hn
    have HR := Lib.hid (show partsS t = 0 by rw [hS, if_pos hn])
    clear hS h2 h3 hn hU
    go_enter Tryd.func49, Tryd.ntmps49
    go_wp2_with fail
    go_ret
    exact ⟨by rw [HR.out]; rfl, rfl⟩
theorem div_fw {N : Int} (h : N.natAbs ≤ 4398046511104) : floatBits .quo .f64 (floatOfInt .f64 N) 4647714815446351872 = some (fw N) := by
  have hf := ofInt_fnt (n := N) (by omega)
  have hv : val (rg (floatOfInt .f64 N)) = N.natAbs * UN := by rw [← sv_val, ofInt_sv (by omega), Int.natAbs_mul, Int.natAbs_natCast]
  have hd := div_pow2 9 hf read_512 (by decide) (by
    rw [hv]
    by_cases c : N.natAbs = 0
    · left; rw [c, Nat.zero_mul]
    · right; exact Nat.le_mul_of_pos_left _ (Nat.pos_of_ne_zero c))
  rw [hv] at hd
  have hs : sg (floatOfInt .f64 N) = decide (N < 0) := by rw [ofInt_wd]; exact wd_sg _ _
  rw [hs, UH_UN, show (2 : Nat) ^ 9 = 512 from rfl, ← Nat.mul_assoc, Nat.mul_div_cancel _ (by decide)] at hd
  exact hd
set_option maxRecDepth 100000 in
set_option maxHeartbeats 4000000 in
theorem rfine_any (t : Nat) (w : World) : Calls Tryd.prog 33 #[.float .f64 t] w (fun x w' => x = .returned (.float .f64 (fineF t)) ∧ w' = w) := by
  have HP := Lib.hid (fun u => rpartsf_any t u)
  have hd := div_fw (partsS_b t)
  have HR := Lib.hid (fineF_eq t)
  obtain ⟨N, hN⟩ : ∃ N, partsS t = N := ⟨_, rfl⟩
  rw [hN] at HP hd HR
  have hv := run_float_arith (P := Tryd.prog) w .quo 22 .f64 (floatOfInt .f64 N) 4647714815446351872 (fw N) hd
  clear hN hd
  go_enter Tryd.func33, Tryd.ntmps33
  go_wp2_with (go_at_call 49; (with_reducible refine (HP.out _).mono ?_); rintro x w1 ⟨rfl, hw⟩; obtain rfl := hw.symm)
  go_ret
  exact ⟨by rw [HR.out]; rfl, rfl⟩
set_option maxRecDepth 100000 in
set_option maxHeartbeats 4000000 in
theorem rseconds_ok (y d h i s : Int) (k : Nat) (w : World) (hk : DOk y ((k : Int) + 1) d h i s) (hk12 : k < 12) :
    Calls Tryd.prog 51 #[dval y ((k : Int) + 1) d h i s] w (fun x w' => x = .returned (.tuple #[.int .i64 (secL y ((k : Int) + 1) d h i s), .bool true]) ∧ Only (fun _ => False) w w') := by
  have hO1 := (Only.refl (fun _ => False) w).alloc (.cells (drow y ((k : Int) + 1) d h i s) 53)
  have hB1 := alloc_new w (.cells (drow y ((k : Int) + 1) d h i s) 53)
  obtain ⟨g0, hg0⟩ : ∃ g0, w.heap.size = g0 := ⟨_, rfl⟩
  obtain ⟨W, hW⟩ : ∃ W, w.alloc (.cells (drow y ((k : Int) + 1) d h i s) 53) = W := ⟨_, rfl⟩
  have HGW := Lib.hid (And.intro hg0 hW)
  rw [hg0, hW] at hB1
  rw [hW] at hO1
  have HO := Lib.hid hO1
  have HB := Lib.hid hB1
  have hcal := cal_ok hk.hy hk12
  have hdd := hk.hd
  rw [← hcal.mon] at hdd
  have HL := Lib.hid (fun u => rmonth_any y k u (by have := hk.hy; omega) (by have := hk.hy; omega) hk12)
  have HD := Lib.hid (fun u => rdays_any y d k u hk.hy hk12 ⟨hdd.1, hk.he⟩)
  have HT := Lib.hid (show secL y ((k : Int) + 1) d h i s = daysL y ((k : Int) + 1) d * 86400 + h * 3600 + i * 60 + s from rfl)
  have hb := days_bound y ((k : Int) + 1) d ⟨by have := hk.hy; omega, by have := hk.hy; omega⟩ (by omega) ⟨by omega, hk.he⟩
  obtain ⟨⟨y0, y1⟩, ⟨m0, m1⟩, _, ⟨h0, h1⟩, ⟨i0, i1⟩, ⟨s0, s1⟩, d2⟩ := hk
  obtain ⟨d0, d1⟩ := hdd
  obtain ⟨L, hL⟩ : ∃ L, monthL y k = L := ⟨_, rfl⟩
  obtain ⟨D, hD⟩ : ∃ D, daysL y ((k : Int) + 1) d = D := ⟨_, rfl⟩
  rw [hL] at HL d1
  rw [hD] at HD HT hb
  obtain ⟨m, hm⟩ : ∃ m, (k : Int) + 1 = m := ⟨_, rfl⟩
  rw [hm] at HL HD m0 m1 HB HGW HT ⊢
  obtain ⟨hb0, hb1⟩ := hb
  have q0 : decide (y < 1) = false := decide_eq_false (by omega)
  have q1 : decide (y > 9999) = false := decide_eq_false (by omega)
  have q2 : decide (m < 1) = false := decide_eq_false (by omega)
  have q3 : decide (m > 12) = false := decide_eq_false (by omega)
  have q4 : decide (d < 1) = false := decide_eq_false (by omega)
  have q5 : decide (d > L) = false := decide_eq_false (by omega)
  have q6 : decide (h < 0) = false := decide_eq_false (by omega)
  have q7 : decide (h > 23) = false := decide_eq_false (by omega)
  have q8 : decide (i < 0) = false := decide_eq_false (by omega)
  have q9 : decide (i > 59) = false := decide_eq_false (by omega)
  have qa : decide (s < 0) = false := decide_eq_false (by omega)
  have qb : decide (s > 59) = false := decide_eq_false (by omega)
  have x0 : ∀ x : Later W, x.w.cell? ⟨g0, 0, none⟩ = some (.int .i64 y) := fun x => x.h.cell (Joins.cell_of_block HB.out 0) id
  have x1 : ∀ x : Later W, x.w.cell? ⟨g0, 1, none⟩ = some (.int .i64 m) := fun x => x.h.cell (Joins.cell_of_block HB.out 1) id
  have x2 : ∀ x : Later W, x.w.cell? ⟨g0, 2, none⟩ = some (.int .i64 d) := fun x => x.h.cell (Joins.cell_of_block HB.out 2) id
  have x3 : ∀ x : Later W, x.w.cell? ⟨g0, 3, none⟩ = some (.int .i64 h) := fun x => x.h.cell (Joins.cell_of_block HB.out 3) id
  have x4 : ∀ x : Later W, x.w.cell? ⟨g0, 4, none⟩ = some (.int .i64 i) := fun x => x.h.cell (Joins.cell_of_block HB.out 4) id
  have x5 : ∀ x : Later W, x.w.cell? ⟨g0, 5, none⟩ = some (.int .i64 s) := fun x => x.h.cell (Joins.cell_of_block HB.out 5) id
  clear hL hD hg0 hW hO1 hB1 d1 y0 y1 m0 m1 d0 d2 hcal hk12 hm
  go_enter Tryd.func51, Tryd.ntmps51
  go_upto_region 1 with (fail)
  change Code.wp Tryd.prog _ _ _ (w.alloc (.cells (drow y m d h i s) 53))
  rw [HGW.out.2, HGW.out.1]
  refine wp_region_later (by kernel_rfl) (by kernel_rfl) ?_
  repeat (go_big_quiet_step ((go_at_call 65; exact Calls.later (HL.out _))))
  refine wpQuiet_nil ?_
  rintro u ⟨x, hx⟩
  have hu := x.h
  rw [← hx] at hu
  clear hx
  have hb := hu.keeps HB.out id
  have HU := Lib.hid (HO.out.trans' hu)
  clear x0 x1 x2 x3 x4 x5 hu HO
  go_upto_region 3 with (fail)
  have z0 : ∀ x : Later u, x.w.cell? ⟨g0, 0, none⟩ = some (.int .i64 y) := fun x => x.h.cell (Joins.cell_of_block hb 0) id
  have z1 : ∀ x : Later u, x.w.cell? ⟨g0, 1, none⟩ = some (.int .i64 m) := fun x => x.h.cell (Joins.cell_of_block hb 1) id
  have z2 : ∀ x : Later u, x.w.cell? ⟨g0, 2, none⟩ = some (.int .i64 d) := fun x => x.h.cell (Joins.cell_of_block hb 2) id
  have z3 : ∀ x : Later u, x.w.cell? ⟨g0, 3, none⟩ = some (.int .i64 h) := fun x => x.h.cell (Joins.cell_of_block hb 3) id
  have z4 : ∀ x : Later u, x.w.cell? ⟨g0, 4, none⟩ = some (.int .i64 i) := fun x => x.h.cell (Joins.cell_of_block hb 4) id
  have z5 : ∀ x : Later u, x.w.cell? ⟨g0, 5, none⟩ = some (.int .i64 s) := fun x => x.h.cell (Joins.cell_of_block hb 5) id
  refine wp_region_later (by kernel_rfl) (by kernel_rfl) ?_
  repeat (go_big_quiet_step ((go_at_call 66; exact Calls.later (HD.out _))))
  refine wpQuiet_nil ?_
  rintro v ⟨x, hx⟩
  have hv := x.h
  rw [← hx] at hv
  clear hx
  go_wp2_with fail
  go_ret2
  exact ⟨by rw [HT.out]; rfl, HU.out.trans' hv⟩
end Go.Proofs.YtdkfemmjoabbcaaDoor.Walks
namespace Go.Proofs.YtdkfemmjoabbcaaDoor.Walks
open Go Go.RowKit Go.Proofs.YtdkfemmjoabbcaaDoor.Aid Go.Proofs.YtdkfemmjoabbcaaDoor.Pth Go.Proofs.YtdkfemmjoabbcaaDoor.Own Go.Proofs.YtdkfemmjoabbcaaDoorW.PrintWords Ieee

set_option maxRecDepth 100000 in
set_option maxHeartbeats 4000000 in
theorem rseconds_bad (w : World) :
    Calls Tryd.prog 51 #[dval 1980 0 0 0 0 0] w (fun x w' => x = .returned (.tuple #[.int .i64 0, .bool false]) ∧ Only (fun _ => False) w w') := by
  have hO1 := (Only.refl (fun _ => False) w).alloc (.cells (drow 1980 0 0 0 0 0) 53)
  have hB1 := alloc_new w (.cells (drow 1980 0 0 0 0 0) 53)
  obtain ⟨g0, hg0⟩ : ∃ g0, w.heap.size = g0 := ⟨_, rfl⟩
  obtain ⟨W, hW⟩ : ∃ W, w.alloc (.cells (drow 1980 0 0 0 0 0) 53) = W := ⟨_, rfl⟩
  have HGW := Lib.hid (And.intro hg0 hW)
  rw [hg0, hW] at hB1
  rw [hW] at hO1
  have HO := Lib.hid hO1
  have HB := Lib.hid hB1
  have x0 : ∀ x : Later W, x.w.cell? ⟨g0, 0, none⟩ = some (.int .i64 1980) := fun x => x.h.cell (Joins.cell_of_block HB.out 0) id
  have x1 : ∀ x : Later W, x.w.cell? ⟨g0, 1, none⟩ = some (.int .i64 0) := fun x => x.h.cell (Joins.cell_of_block HB.out 1) id
  clear hg0 hW hO1 hB1
  go_enter Tryd.func51, Tryd.ntmps51
  go_upto_region 1 with (fail)
  change Code.wp Tryd.prog _ _ _ (w.alloc (.cells (drow 1980 0 0 0 0 0) 53))
  rw [HGW.out.2, HGW.out.1]
  refine wp_region_later (by kernel_rfl) (by kernel_rfl) ?_
  repeat (go_big_quiet_step (fail))
  refine wpQuiet_nil ?_
  rintro u ⟨x, hx⟩
  have hu := x.h
  rw [← hx] at hu
  clear hx x0 x1
  go_wp2_with fail
  go_ret2
  exact ⟨rfl, HO.out.trans' hu⟩
theorem andFFFF_i64 (x : Int) : Go.bits .and .i64 x 65535 = x % 65536 := mask_any stays_i64 (i := 16) (by decide) x
set_option maxRecDepth 100000 in
set_option maxHeartbeats 4000000 in
theorem rfromDos_ok (y d h i t : Int) (k : Nat) (w : World) (hk : DOk y ((k : Int) + 1) d h i (t * 2)) (hk12 : k < 12) :
    Calls Tryd.prog 35 #[.int .i64 (packL y ((k : Int) + 1) d h i t)] w (fun x w' => x = .returned (.float .f64 (floatOfInt .f64 (secL y ((k : Int) + 1) d h i (t * 2)))) ∧ Only (fun _ => False) w w') := by
  have HS := Lib.hid (fun u => rseconds_ok y d h i (t * 2) k u hk hk12)
  obtain ⟨⟨y0, y1⟩, ⟨m0, m1⟩, ⟨d0, d1⟩, ⟨h0, h1⟩, ⟨i0, i1⟩, ⟨s0, s1⟩, d2⟩ := hk
  obtain ⟨m, hm⟩ : ∃ m, (k : Int) + 1 = m := ⟨_, rfl⟩
  rw [hm] at HS m0 m1 d1 ⊢
  clear hm hk12
  have v0 : 0 ≤ packL y m d h i t := by unfold packL; omega
  have v1 : packL y m d h i t ≤ 4294967295 := by unfold packL; omega
  have e0 : packL y m d h i t / 65536 / 512 + 1980 = y := by unfold packL; omega
  have e1 : Go.bits .and .i64 (packL y m d h i t / 65536 / 32) 15 = m := by rw [and15_i64]; unfold packL; omega
  have e2 : Go.bits .and .i64 (packL y m d h i t / 65536) 31 = d := by rw [and31_i64]; unfold packL; omega
  have f0 : Go.bits .and .i64 (packL y m d h i t) 65535 = h * 2048 + i * 32 + t := by rw [andFFFF_i64]; unfold packL; omega
  have e3 : (h * 2048 + i * 32 + t) / 2048 = h := by omega
  have e4 : Go.bits .and .i64 ((h * 2048 + i * 32 + t) / 32) 63 = i := by rw [and63_i64]; omega
  have e5 : Go.bits .and .i64 (h * 2048 + i * 32 + t) 31 = t := by rw [and31_i64]; omega
  obtain ⟨v, hv⟩ : ∃ v, packL y m d h i t = v := ⟨_, rfl⟩
  rw [hv] at v0 v1 e0 e1 e2 f0 ⊢
  have q0 : decide (v < 0) = false := decide_eq_false (by omega)
  have q1 : decide (v > 4294967295) = false := decide_eq_false (by omega)
  have z0 : 0 ≤ h * 2048 + i * 32 + t := by omega
  have z1 : h * 2048 + i * 32 + t ≤ 100000 := by omega
  obtain ⟨z, hz⟩ : ∃ z, h * 2048 + i * 32 + t = z := ⟨_, rfl⟩
  rw [hz] at f0 e3 e4 e5 z0 z1
  obtain ⟨s, hs⟩ : ∃ s, secL y m d h i (t * 2) = s := ⟨_, rfl⟩
  rw [hs] at HS ⊢
  have t0 : 0 ≤ t := by omega
  have t1 : t ≤ 31 := by omega
  clear hs hv hz y0 y1 m0 m1 d0 d1 h0 h1 i0 i1 s0 s1 d2
  go_enter Tryd.func35, Tryd.ntmps35
  go_wp2_with (first
    | ((with_reducible refine gate_store 53 rfl ?_); refine store_newD rfl rfl y m d h i (t * 2) _ _ rfl rfl rfl ?_; intro w3 hb3 ho3; have HB3 := Lib.hid hb3; have HO3 := Lib.hid ho3; clear hb3 ho3)
    | ((with_reducible refine gate 37 rfl ?_); refine load_date rfl _ rfl rfl HB3.out ?_)
    | (go_at_call 51; refine (HS.out _).mono ?_; rintro x w1 ⟨rfl, h1⟩; have H1 := Lib.hid (HO3.out.trans' h1); clear h1))
  go_ret
  exact ⟨rfl, H1.out⟩
set_option maxRecDepth 100000 in
set_option maxHeartbeats 4000000 in
theorem rfromDos_none (w : World) : Calls Tryd.prog 35 #[.int .i64 0] w (NanPost w) := by
  have HS := Lib.hid (fun u => rseconds_bad u)
  have HNa := Lib.hid (fun u => rnone_any u)
  obtain ⟨v, hv⟩ : ∃ v : Int, v = 0 := ⟨_, rfl⟩
  rw [← hv]
  have e0 : v / 65536 / 512 + 1980 = 1980 := by omega
  have e1 : Go.bits .and .i64 (v / 65536 / 32) 15 = 0 := by rw [and15_i64]; omega
  have e2 : Go.bits .and .i64 (v / 65536) 31 = 0 := by rw [and31_i64]; omega
  have f0 : Go.bits .and .i64 v 65535 = v := by rw [andFFFF_i64]; omega
  have e3 : v / 2048 = 0 := by omega
  have e4 : Go.bits .and .i64 (v / 32) 63 = 0 := by rw [and63_i64]; omega
  have e5 : Go.bits .and .i64 v 31 = 0 := by rw [and31_i64]; omega
  have v0 : 0 ≤ v := by omega
  have v1 : v ≤ 100 := by omega
  have q0 : decide (v < 0) = false := decide_eq_false (by omega)
  have q1 : decide (v > 4294967295) = false := decide_eq_false (by omega)
  clear hv
  go_enter Tryd.func35, Tryd.ntmps35
  go_wp2_with (first
    | ((with_reducible refine gate_store 53 rfl ?_); refine store_newD rfl rfl 1980 0 0 0 0 0 _ _ rfl rfl rfl ?_; intro w3 hb3 ho3; have HB3 := Lib.hid hb3; have HO3 := Lib.hid ho3; clear hb3 ho3)
    | ((with_reducible refine gate 37 rfl ?_); refine load_date rfl _ rfl rfl HB3.out ?_)
    | (go_at_call 51; refine (HS.out _).mono ?_; rintro x w1 ⟨rfl, h1⟩; have H1 := Lib.hid (HO3.out.trans' h1); clear h1)
    | (go_at_call 39; (with_reducible refine (HNa.out _).mono ?_); rintro x w2 ⟨b, rfl, hb, h2⟩; have HB := Lib.hid hb; have H2 := Lib.hid (H1.out.trans' h2); clear hb h2))
  go_ret
  exact ⟨b, rfl, HB.out, H2.out⟩
set_option maxRecDepth 100000 in
set_option maxHeartbeats 4000000 in
theorem rdos_any (t : Nat) (w : World) : Calls Tryd.prog 36 #[.float .f64 t] w (fun x w' => x = .returned (.int .i64 (dosF t)) ∧ Only (fun _ => False) w w') := by
  cases hn : isN t
  · have hF := sv_c c_first (by decide)
    have hA := sv_c c_after (by decide)
    have g0 : (FloatKind.f64.format.order t t != some .eq) = false := hn
    have g1 : ((FloatKind.f64.format.order t 4734073370679705600 == some .gt) || (FloatKind.f64.format.order t 4734073370679705600 == some .eq)) = decide (315532800 * (UN : Int) ≤ sv t) := by
      rw [ord_gt (isN_f hn) hF.2, ord_eq (isN_f hn) hF.2, hF.1, ← Bool.decide_or]
      exact decide_eq_decide.2 (by omega)
    have g2 : ((FloatKind.f64.format.order t 4751360366145961984 == some .gt) || (FloatKind.f64.format.order t 4751360366145961984 == some .eq)) = decide (4354819200 * (UN : Int) ≤ sv t) := by
      rw [ord_gt (isN_f hn) hA.2, ord_eq (isN_f hn) hA.2, hA.1, ← Bool.decide_or]
      exact decide_eq_decide.2 (by omega)
    have hb := dosS_b hn
    have hD : dosF t = dosV (dosS t) := by unfold dosF; rw [hn, if_neg Bool.false_ne_true]
    have hS : dosS t = if sv t < 315532800 * (UN : Int) then 315532800 else if 4354819200 * (UN : Int) ≤ sv t then 4354819198 else flr t := rfl
    have HMid := Lib.hid (fun a b => dos_mid hn a b)
    have hk := dos_dok hb.1 hb.2
    have HDt := Lib.hid (fun u => rdate_any (dosS t) u hb.1 hb.2)
    have HV := Lib.hid (show dosV (dosS t) = packL (cY (dosS t / 86400)) (cM (dosS t / 86400)) (cD (dosS t / 86400)) (dosS t % 86400 / 3600) (dosS t % 86400 / 60 % 60) (dosS t % 86400 % 60 / 2) from rfl)
    have hr : 0 ≤ dosS t % 86400 ∧ dosS t % 86400 < 86400 := by omega
    have hU := UNi
    have hlt : 315532800 * (UN : Int) ≤ 4354819200 * (UN : Int) := by omega
    rw [hD]
    unfold secD at HDt
    obtain ⟨s, hs⟩ : ∃ s, dosS t = s := ⟨_, rfl⟩
    rw [hs] at hk HV HDt hr hS ⊢
    obtain ⟨r, hr'⟩ : ∃ r, s % 86400 = r := ⟨_, rfl⟩
    rw [hr'] at hk HV HDt hr
    obtain ⟨Y, hY⟩ : ∃ Y, cY (s / 86400) = Y := ⟨_, rfl⟩
    obtain ⟨M, hM⟩ : ∃ M, cM (s / 86400) = M := ⟨_, rfl⟩
    obtain ⟨D, hDD⟩ : ∃ D, cD (s / 86400) = D := ⟨_, rfl⟩
    rw [hY, hM, hDD] at hk HV HDt
    obtain ⟨h, hh⟩ : ∃ h, r / 3600 = h := ⟨_, rfl⟩
    obtain ⟨i, hi⟩ : ∃ i, r / 60 % 60 = i := ⟨_, rfl⟩
    obtain ⟨q, hq⟩ : ∃ q, r % 60 = q := ⟨_, rfl⟩
    have hq2 : 0 ≤ q ∧ q < 60 := by omega
    rw [hh, hi, hq] at hk HV HDt
    obtain ⟨p1, p2, p3, p4, p5⟩ := pack_or hk.hy hk.hm ⟨hk.hd.1, hk.he⟩ hk.hh hk.hi (show 0 ≤ q / 2 ∧ q / 2 ≤ 29 by omega)
    rw [← HV.out] at p5
    obtain ⟨V, hV⟩ : ∃ V, dosV s = V := ⟨_, rfl⟩
    rw [hV] at p5 ⊢
    obtain ⟨y0, y1⟩ := hk.hy
    obtain ⟨m0, m1⟩ := hk.hm
    obtain ⟨h0, h1⟩ := hk.hh
    obtain ⟨i0, i1⟩ := hk.hi
    obtain ⟨q0, q1⟩ := hq2
    have d0 := hk.hd.1
    have d1 := hk.he
    obtain ⟨b1, hb1⟩ : ∃ b : Bool, decide (315532800 * (UN : Int) ≤ sv t) = b := ⟨_, rfl⟩
    obtain ⟨b2, hb2⟩ : ∃ b : Bool, decide (4354819200 * (UN : Int) ≤ sv t) = b := ⟨_, rfl⟩
    rw [hb1] at g1
    rw [hb2] at g2
    have HS := Lib.hid hS
    have HB1 := Lib.hid hb1
    have HB2 := Lib.hid hb2
    have HLt := Lib.hid hlt
    clear hn hF hA hD hS hk hs hr' hY hM hDD hh hi hq hV hr hb HV hb1 hb2 hlt hU
    rcases wayT b2 (ways b1) with rfl | ⟨rfl, rfl | rfl⟩
    · have e : s = 4354819198 := by rw [HS.out, if_neg (by have := of_decide_eq_true HB2.out; have := HLt.out; omega), if_pos (of_decide_eq_true HB2.out)]
      subst e
      clear HMid HS
      go_enter Tryd.func36, Tryd.ntmps36
      go_upto_region 9 with (first
        | (go_at_call 52; refine (HDt.out _).mono ?_; rintro x w1 ⟨rfl, ho1⟩; have H1 := Lib.hid ho1; clear ho1)
        | ((with_reducible refine gate_store 53 rfl ?_); refine store_newD rfl rfl Y M D h i q _ _ rfl rfl rfl ?_; intro w3 hb3 ho3))
      have x0 := fld6 Y M D h i q 0 Y rfl hb3
      have x1 := fld6 Y M D h i q 1 M rfl hb3
      have x2 := fld6 Y M D h i q 2 D rfl hb3
      have x3 := fld6 Y M D h i q 3 h rfl hb3
      have x4 := fld6 Y M D h i q 4 i rfl hb3
      have x5 := fld6 Y M D h i q 5 q rfl hb3
      replace H1 := Lib.hid (H1.out.trans' ho3)
      clear hb3 ho3
      go_wp2_with fail
      go_ret
      exact ⟨rfl, H1.out⟩
    · have e : s = 315532800 := by rw [HS.out, if_pos (by have := of_decide_eq_false HB1.out; omega)]
      subst e
      clear HMid HS
      go_enter Tryd.func36, Tryd.ntmps36
      go_upto_region 9 with (first
        | (go_at_call 52; refine (HDt.out _).mono ?_; rintro x w1 ⟨rfl, ho1⟩; have H1 := Lib.hid ho1; clear ho1)
        | ((with_reducible refine gate_store 53 rfl ?_); refine store_newD rfl rfl Y M D h i q _ _ rfl rfl rfl ?_; intro w3 hb3 ho3))
      have x0 := fld6 Y M D h i q 0 Y rfl hb3
      have x1 := fld6 Y M D h i q 1 M rfl hb3
      have x2 := fld6 Y M D h i q 2 D rfl hb3
      have x3 := fld6 Y M D h i q 3 h rfl hb3
      have x4 := fld6 Y M D h i q 4 i rfl hb3
      have x5 := fld6 Y M D h i q 5 q rfl hb3
      replace H1 := Lib.hid (H1.out.trans' ho3)
      clear hb3 ho3
      go_wp2_with fail
      go_ret
      exact ⟨rfl, H1.out⟩
    · have hm := HMid.out (by have := of_decide_eq_true HB1.out; omega) (of_decide_eq_false HB2.out)
      have e : s = flr t := by rw [HS.out, if_neg (by have := of_decide_eq_true HB1.out; omega), if_neg (of_decide_eq_false HB2.out)]
      have HW := Lib.hid (fun u => rwhole_any t u hm.1 (by have := hm.2.1; have := hm.2.2.1; omega))
      rw [← e] at HW
      clear HMid HS e hm
      go_enter Tryd.func36, Tryd.ntmps36
      go_upto_region 8 with (go_at_call 50; refine (HW.out _).mono ?_; rintro x w0 ⟨rfl, hw⟩; obtain rfl := hw.symm)
      go_upto_region 9 with (first
        | (go_at_call 52; refine (HDt.out _).mono ?_; rintro x w1 ⟨rfl, ho1⟩; have H1 := Lib.hid ho1; clear ho1)
        | ((with_reducible refine gate_store 53 rfl ?_); refine store_newD rfl rfl Y M D h i q _ _ rfl rfl rfl ?_; intro w3 hb3 ho3))
      have x0 := fld6 Y M D h i q 0 Y rfl hb3
      have x1 := fld6 Y M D h i q 1 M rfl hb3
      have x2 := fld6 Y M D h i q 2 D rfl hb3
      have x3 := fld6 Y M D h i q 3 h rfl hb3
      have x4 := fld6 Y M D h i q 4 i rfl hb3
      have x5 := fld6 Y M D h i q 5 q rfl hb3
      replace H1 := Lib.hid (H1.out.trans' ho3)
      clear hb3 ho3
      go_wp2_with fail
      go_ret
      exact ⟨rfl, H1.out⟩
  · have g0 : (FloatKind.f64.format.order t t != some .eq) = true := hn
    have HR := Lib.hid (show dosF t = 0 by unfold dosF; rw [hn, if_pos rfl])
    clear hn
    go_enter Tryd.func36, Tryd.ntmps36
    go_wp2_with fail
    go_ret
    exact ⟨by rw [HR.out]; rfl, Only.refl _ _⟩
/-- A time that zip keeps, by the reference. -/
def ZPost (t : Nat) (w : World) (x : Ending) (w' : World) : Prop := ∃ b, x = .returned (.float .f64 b) ∧ (if isN t = true then isN b = true else b = zipF t) ∧ Only (fun _ => False) w w'
theorem rdos_back (t : Nat) (w : World) : Calls Tryd.prog 35 #[.int .i64 (dosF t)] w (ZPost t w) := by
  unfold dosF
  cases hn : isN t
  · rw [if_neg Bool.false_ne_true]
    have hb := dosS_b hn
    have hk := dos_dok hb.1 hb.2
    have hm := hk.hm
    obtain ⟨k, hkk⟩ : ∃ k : Nat, cM (dosS t / 86400) = (k : Int) + 1 := ⟨(cM (dosS t / 86400) - 1).toNat, by omega⟩
    have hsec := dos_sec hb.1 hb.2
    unfold dosV
    rw [hkk] at hk hsec hm ⊢
    have := rfromDos_ok _ _ _ _ _ k w hk (by omega)
    rw [hsec] at this
    refine this.mono ?_
    rintro x w' ⟨rfl, ho⟩
    exact ⟨_, rfl, by rw [hn, if_neg Bool.false_ne_true]; unfold zipF; rw [hn, if_neg Bool.false_ne_true], ho⟩
  · rw [if_pos rfl]
    refine (rfromDos_none w).mono ?_
    rintro x w' ⟨b, rfl, hb, ho⟩
    exact ⟨b, rfl, by rw [hn, if_pos rfl]; exact hb, ho⟩
end Go.Proofs.YtdkfemmjoabbcaaDoor.Walks
