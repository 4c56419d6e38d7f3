/- What the model's floats come to at times: floors, whole parts, orders, as whole numbers: plain. -/
import Derived.Test.YtdkfemmjoabbcaaDoorFlr
import Derived.Test.YtdkfemmjoabbcaaDoorDya
namespace Go.Proofs.YtdkfemmjoabbcaaDoor.Walks
open Go Go.RowKit Go.Proofs.YtdkfemmjoabbcaaDoor.Aid Ieee

theorem cmpB_lt (a b : Int) : (some (compare a b) == some Ordering.lt) = decide (a < b) := by
  rcases Int.lt_trichotomy a b with h | h | h
  · rw [cmp_lt h, decide_eq_true h]; rfl
  · rw [cmp_eq h, decide_eq_false (by omega)]; rfl
  · rw [cmp_gt h, decide_eq_false (by omega)]; rfl
theorem cmpB_gt (a b : Int) : (some (compare a b) == some Ordering.gt) = decide (b < a) := by
  rcases Int.lt_trichotomy a b with h | h | h
  · rw [cmp_lt h, decide_eq_false (by omega)]; rfl
  · rw [cmp_eq h, decide_eq_false (by omega)]; rfl
  · rw [cmp_gt h, decide_eq_true h]; rfl
theorem cmpB_eq (a b : Int) : (some (compare a b) == some Ordering.eq) = decide (a = b) := by
  rcases Int.lt_trichotomy a b with h | h | h
  · rw [cmp_lt h, decide_eq_false (by omega)]; rfl
  · rw [cmp_eq h, decide_eq_true h]; rfl
  · rw [cmp_gt h, decide_eq_false (by omega)]; rfl
theorem isN_iff (t : Nat) : isN t = decide (INF < rg t) := by
  unfold isN
  show (Ieee.double.order t t != some .eq) = _
  by_cases h : INF < rg t
  · rw [order_nan_l h, decide_eq_true h]; rfl
  · rw [order_eq (by omega) (by omega), decide_eq_false h, bne, cmpB_eq, decide_eq_true rfl]; rfl
theorem isN_f {t : Nat} (h : isN t = false) : rg t ≤ INF := by rw [isN_iff, decide_eq_false_iff_not] at h; omega
theorem isN_t {t : Nat} (h : isN t = true) : INF < rg t := by rw [isN_iff, decide_eq_true_eq] at h; exact h
theorem isN_of {t : Nat} (h : rg t ≤ INF) : isN t = false := by rw [isN_iff, decide_eq_false (by omega)]
/-- A word of a value between two that doubles have is finite. -/
theorem fnt_between {t v : Nat} (h : rg t ≤ INF) (hv : Exact v) (h1 : -(v : Int) ≤ sv t) (h2 : sv t ≤ v) : Fnt t := by
  unfold Fnt
  rcases Nat.lt_or_ge (rg t) INF with c | c
  · exact c
  · exfalso
    have e : rg t = INF := by omega
    have hl : v < val INF := by rw [← hv.2]; exact val_lt hv.1
    unfold sv at h1 h2
    rw [e] at h1 h2
    cases hs : sg t
    · rw [hs, if_neg Bool.false_ne_true] at h2; omega
    · rw [hs, if_pos rfl] at h1; omega
theorem ord_lt {t c : Nat} (h : rg t ≤ INF) (hc : Fnt c) : (FloatKind.f64.format.order t c == some .lt) = decide (sv t < sv c) := by
  show (Ieee.double.order t c == _) = _
  rw [order_eq h (Nat.le_of_lt hc), cmpB_lt]
theorem ord_gt {t c : Nat} (h : rg t ≤ INF) (hc : Fnt c) : (FloatKind.f64.format.order t c == some .gt) = decide (sv c < sv t) := by
  show (Ieee.double.order t c == _) = _
  rw [order_eq h (Nat.le_of_lt hc), cmpB_gt]
theorem ord_eq {t c : Nat} (h : rg t ≤ INF) (hc : Fnt c) : (FloatKind.f64.format.order t c == some .eq) = decide (sv t = sv c) := by
  show (Ieee.double.order t c == _) = _
  rw [order_eq h (Nat.le_of_lt hc), cmpB_eq]
theorem fnt_le {t : Nat} (h : Fnt t) : rg t ≤ INF := Nat.le_of_lt h
theorem c_zero : (0 : Nat) = floatOfInt .f64 0 := by kernel_rfl
theorem c_max32 : (4751297606873776128 : Nat) = floatOfInt .f64 4294967295 := by kernel_rfl
theorem c_first : (4734073370679705600 : Nat) = floatOfInt .f64 315532800 := by kernel_rfl
theorem c_after : (4751360366145961984 : Nat) = floatOfInt .f64 4354819200 := by kernel_rfl
theorem c_far : (4755801206503243776 : Nat) = floatOfInt .f64 8589934592 := by kernel_rfl
theorem c_mfar : (13979173243358019584 : Nat) = floatOfInt .f64 (-8589934592) := by kernel_rfl
theorem sv_c {c : Nat} {n : Int} (h : c = floatOfInt .f64 n) (hn : n.natAbs < 2 ^ 53) : sv c = n * (UN : Int) ∧ Fnt c := by
  rw [h]; exact ⟨ofInt_sv hn, ofInt_fnt hn⟩
theorem UNi : (0 : Int) < (UN : Int) := by have := UN_pos; omega
theorem flr_le (t : Nat) : flr t * (UN : Int) ≤ sv t := Int.ediv_mul_le _ (by have := UNi; omega)
theorem lt_flr (t : Nat) : sv t < (flr t + 1) * (UN : Int) := Int.lt_ediv_add_one_mul_self _ UNi
theorem flr_lt {t : Nat} {n : Int} (h : sv t < n * (UN : Int)) : flr t < n := Int.ediv_lt_of_lt_mul UNi h
theorem le_flr {t : Nat} {n : Int} (h : n * (UN : Int) ≤ sv t) : n ≤ flr t := Int.le_ediv_of_mul_le UNi h
theorem flr_int {t : Nat} {n : Int} (h : sv t = n * (UN : Int)) : flr t = n := by unfold flr; rw [h, Int.mul_ediv_cancel _ (by have := UNi; omega)]
/-- A floor's word. -/
theorem flB_word {t : Nat} (h : Fnt t) : flB t = wd (sg t) ((flr t).natAbs * UN) := floor_word h
theorem flB_sv {t : Nat} (h : Fnt t) (hb : (flr t).natAbs < 2 ^ 53) : sv (flB t) = flr t * (UN : Int) ∧ Fnt (flB t) ∧ sg (flB t) = sg t := by
  rw [flB_word h]
  refine ⟨?_, wd_fnt (exact_UN hb), wd_sg _ _⟩
  rw [wd_sv (exact_UN hb)]
  by_cases c : flr t = 0
  · rw [c]
    simp
  · rw [flr_sign c]
    by_cases d : flr t < 0
    · rw [decide_eq_true d, if_pos rfl]
      push_cast
      rw [← Int.neg_mul]; congr 1; omega
    · rw [decide_eq_false d, if_neg Bool.false_ne_true]
      push_cast
      congr 1; omega
theorem floor_int {t : Nat} (h : Fnt t) (hb : (flr t).natAbs < 2 ^ 53) : floatToIntVal .f64 (flB t) .i64 = some (flr t) := by
  obtain ⟨h1, h2, _⟩ := flB_sv h hb
  have e : (sv (flB t)).tdiv (UN : Int) = flr t := by rw [h1, Int.mul_tdiv_cancel _ (by have := UNi; omega)]
  have := trunc_val h2 (by rw [e]; omega) (by rw [e]; omega)
  rw [this, e]
/-- A time of Unix: below, above, or its floor. -/
theorem unix_mid {t : Nat} (hn : isN t = false) (h0 : ¬ sv t < 0) (h1 : ¬ 4294967295 * (UN : Int) ≤ sv t) : Fnt t ∧ 0 ≤ flr t ∧ flr t < 4294967295 ∧ floatToIntVal .f64 (flB t) .i64 = some (flr t) := by
  have hU := UNi
  have hf : Fnt t := fnt_between (v := 4294967295 * UN) (isN_f hn) (exact_UN (by decide)) (by omega) (by omega)
  have a : 0 ≤ flr t := le_flr (by omega)
  have b : flr t < 4294967295 := flr_lt (by omega)
  exact ⟨hf, a, b, floor_int hf (by omega)⟩
theorem unix_ok (t : Nat) : UnixOk t := fun hn h0 h1 h2 => by
  have hz := sv_c c_zero (by decide)
  have hm := sv_c c_max32 (by decide)
  rw [ord_lt (isN_f hn) hz.2, decide_eq_false_iff_not] at h0
  rw [ord_gt (isN_f hn) hm.2, decide_eq_false_iff_not] at h1
  rw [ord_eq (isN_f hn) hm.2, decide_eq_false_iff_not] at h2
  obtain ⟨_, _, _, h⟩ := unix_mid hn (by omega) (by omega)
  exact ⟨_, h⟩
def unixS (t : Nat) : Int := if isN t = true ∨ sv t < 0 then 0 else if 4294967295 * (UN : Int) ≤ sv t then 4294967295 else flr t
theorem unixF_eq (t : Nat) : unixF t = unixS t := by
  unfold unixF unixS
  have hz := sv_c c_zero (by decide)
  have hm := sv_c c_max32 (by decide)
  cases hn : isN t
  · rw [ord_lt (isN_f hn) hz.2, ord_gt (isN_f hn) hm.2, ord_eq (isN_f hn) hm.2, hz.1, hm.1, Int.zero_mul, Bool.false_or]
    by_cases a : sv t < 0
    · rw [decide_eq_true a, if_pos rfl, if_pos (Or.inr a)]
    · have a' : ¬(false = true ∨ sv t < 0) := fun h => h.elim (fun h => Bool.false_ne_true h) a
      rw [decide_eq_false a, if_neg Bool.false_ne_true]
      by_cases b : 4294967295 * (UN : Int) ≤ sv t
      · have b' : (decide (4294967295 * (UN : Int) < sv t) || decide (sv t = 4294967295 * (UN : Int))) = true := by rw [Bool.or_eq_true, decide_eq_true_eq, decide_eq_true_eq]; omega
        rw [if_pos b', if_neg a', if_pos b]
      · have b' : ¬(decide (4294967295 * (UN : Int) < sv t) || decide (sv t = 4294967295 * (UN : Int))) = true := by rw [Bool.or_eq_true, decide_eq_true_eq, decide_eq_true_eq]; omega
        rw [if_neg b', if_neg a', if_neg b, (unix_mid hn a b).2.2.2]; rfl
  · rw [Bool.true_or, if_pos rfl, if_pos (Or.inl rfl)]
theorem unixS_b (t : Nat) : 0 ≤ unixS t ∧ unixS t ≤ 4294967295 := by
  unfold unixS
  by_cases a : isN t = true ∨ sv t < 0
  · rw [if_pos a]; omega
  · rw [if_neg a]
    by_cases b : 4294967295 * (UN : Int) ≤ sv t
    · rw [if_pos b]; omega
    · rw [if_neg b]
      have := unix_mid (t := t) (by cases h : isN t; rfl; exact absurd (Or.inl h) a) (fun h => a (Or.inr h)) b
      omega
/-- The moment that DOS keeps. -/
def dosS (t : Nat) : Int := if sv t < 315532800 * (UN : Int) then 315532800 else if 4354819200 * (UN : Int) ≤ sv t then 4354819198 else flr t
theorem dos_mid {t : Nat} (hn : isN t = false) (h0 : ¬ sv t < 315532800 * (UN : Int)) (h1 : ¬ 4354819200 * (UN : Int) ≤ sv t) : Fnt t ∧ 315532800 ≤ flr t ∧ flr t < 4354819200 ∧ floatToIntVal .f64 (flB t) .i64 = some (flr t) := by
  have hU := UNi
  have hf : Fnt t := fnt_between (v := 4354819200 * UN) (isN_f hn) (exact_UN (by decide)) (by omega) (by omega)
  have a : 315532800 ≤ flr t := le_flr (by omega)
  have b : flr t < 4354819200 := flr_lt (by omega)
  exact ⟨hf, a, b, floor_int hf (by omega)⟩
theorem dosS_b {t : Nat} (hn : isN t = false) : 315532800 ≤ dosS t ∧ dosS t ≤ 4354819199 := by
  unfold dosS
  by_cases a : sv t < 315532800 * (UN : Int)
  · rw [if_pos a]; omega
  · rw [if_neg a]
    by_cases b : 4354819200 * (UN : Int) ≤ sv t
    · rw [if_pos b]; omega
    · rw [if_neg b]
      have := dos_mid hn a b
      omega
end Go.Proofs.YtdkfemmjoabbcaaDoor.Walks
