/- Contracts of the two functions that hold a ratio: both return overC, whatever the numbers. -/
import Derived.Test.YtilkgjjfamdhdaaWalks
import Derived.Laws.FloatArith
namespace Go.Proofs.Ytilkgjjfamdhdaa.Walks
open Go Go.RowKit Go.Proofs.Ytilkgjjfamdhdaa.Aid

theorem order_nan (a b : Nat) (h : (Ieee.double.read b).isNaN = true) : FloatKind.f64.format.order a b = none := by
  show Ieee.Datum.order (Ieee.double.read a) (Ieee.double.read b) = none
  cases hb : Ieee.double.read b with
  | nan s f => cases Ieee.double.read a <;> rfl
  | number _ _ _ => rw [hb] at h; simp [Ieee.Datum.isNaN] at h
  | infinity _ => rw [hb] at h; simp [Ieee.Datum.isNaN] at h
def nanB (x y t : Nat) : Nat := Question.cut (.nanBits .f64 x y) t
theorem read_nan (x y t : Nat) : (Ieee.double.read (nanB x y t)).isNaN = true := by
  have e : nanB x y t = (t % 2) * 9223372036854775808 + 9218868437227405312 + 1 + (t / 2) % 4503599627370495 := rfl
  rw [e]
  have hm : (t % 2 * 9223372036854775808 + 9218868437227405312 + 1 + t / 2 % 4503599627370495) % 9223372036854775808 = 9218868437227405312 + 1 + t / 2 % 4503599627370495 := by omega
  generalize t / 2 % 4503599627370495 = q at hm ⊢
  unfold Ieee.Format.read
  have s : Ieee.double.signWeight = 9223372036854775808 := rfl
  have b : Ieee.double.binade = 4503599627370496 := rfl
  have i : Ieee.double.infRung = 9218868437227405312 := rfl
  simp only [s, b, i, hm]
  rw [if_neg (by omega), if_neg (by omega), if_neg (by omega)]
  rfl
theorem mul_none (P : Program) (w : World) (t : TypeId) (x y : Nat) (h : floatBits .mul .f64 x y = none) :
    ∃ b, (binOp .mul t (.float .f64 x) (.float .f64 y)).run P w = .ok (.float .f64 b) w.drew ∧ ∀ a, FloatKind.f64.format.order a b = none := by
  have h' : FloatKind.f64.format.mul x y = none := h
  refine ⟨nanB x y (w.tape w.drawn (.nanBits .f64 x y)), ?_, fun a => order_nan a _ (read_nan _ _ _)⟩
  have e : binOp .mul t (.float .f64 x) (.float .f64 y) = Op.floatArith .mul .f64 x y := by simp [binOp]
  rw [e]
  unfold Op.floatArith
  simp only [h']
  rfl

def ofI (n : Int) : Nat := floatOfInt .f64 n
def cut0 (n : Int) : Int := if n < 0 then 0 else n
/-- Is the float n over r times the float m? -/
def gtMul (n m : Int) (r : Nat) : Bool := match floatBits .mul .f64 r (ofI m) with
  | some q => FloatKind.f64.format.order (ofI n) q == some .gt
  | none => false
def overC (n m : Int) (r : Nat) : Bool := gtMul (cut0 n) (cut0 m) r
def OverPost (b : Bool) (w : World) (x : Ending) (w' : World) : Prop := x = .returned (.bool b) ∧ ∃ k, w' = w.drewN k
theorem mul_any (P : Program) (w : World) (t : TypeId) (n m : Int) (r : Nat) : ∃ b w', (binOp .mul t (.float .f64 r) (.float .f64 (floatOfInt .f64 m))).run P w = .ok (.float .f64 b) w' ∧ (FloatKind.f64.format.order (floatOfInt .f64 n) b == some .gt) = gtMul n m r ∧ ∃ k, w' = w.drewN k := by
  unfold gtMul
  cases h : floatBits .mul .f64 r (ofI m) with
  | some q => exact ⟨q, w, run_float_arith w .mul t .f64 _ _ q h, rfl, 0, rfl⟩
  | none =>
    obtain ⟨b, hr, ho⟩ := mul_none P w t r (ofI m) h
    exact ⟨b, _, hr, by rw [ho]; rfl, 1, rfl⟩
theorem over_any (n m : Int) (r : Nat) (w : World) : Calls Try.prog 9 #[.int .i64 n, .int .i64 m, .float .f64 r] w (OverPost (overC n m r) w) := by
  by_cases c1 : n < 0
  all_goals
    by_cases c2 : m < 0
    all_goals
      obtain ⟨b, w1, hr, hg, k, rfl⟩ := mul_any Try.prog w 22 (cut0 n) (cut0 m) r
      have HG := Lib.hid hg
      clear hg
      simp only [cut0, c2, if_true, if_false] at hr
      go_enter Try.func9, Try.ntmps9
      go_wp2_with fail
      go_ret
      unfold OverPost overC
      refine ⟨?_, k, rfl⟩
      rw [← HG.out]
      first
        | (rw [cut0, if_pos (by assumption)]; rfl)
        | (rw [cut0, if_neg (by omega)]; rfl)
theorem over17_any (n m : Int) (r : Nat) (w : World) : Calls Try.prog 23 #[.int .i64 n, .int .i64 m, .float .f64 r] w (OverPost (overC n m r) w) := by
  by_cases c1 : n < 0
  all_goals
    by_cases c2 : m < 0
    all_goals
      obtain ⟨b, w1, hr, hg, k, rfl⟩ := mul_any Try.prog w 22 (cut0 n) (cut0 m) r
      have HG := Lib.hid hg
      clear hg
      simp only [cut0, c2, if_true, if_false] at hr
      go_enter Try.func23, Try.ntmps23
      go_wp2_with fail
      go_ret
      unfold OverPost overC
      refine ⟨?_, k, rfl⟩
      rw [← HG.out]
      first
        | (rw [cut0, if_pos (by assumption)]; rfl)
        | (rw [cut0, if_neg (by omega)]; rfl)
theorem over19_any (n m : Int) (r : Nat) (w : World) : Calls Try.prog 10 #[.int .i64 n, .int .i64 m, .float .f64 r] w (OverPost (overC n m r) w) := by
  go_enter Try.func10, Try.ntmps10
  go_wp2_with fail
  go_at_call 23
  refine (over17_any n m r _).mono ?_
  rintro x w' ⟨rfl, k, rfl⟩
  go_wp2_with fail
  go_ret
  exact ⟨rfl, k, rfl⟩
end Go.Proofs.Ytilkgjjfamdhdaa.Walks
