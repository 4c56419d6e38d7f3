/- The reference's None: a time that is none. -/
import Derived.Test.YtihcdecdkpbpmaaDoorTim
namespace Go.Proofs.YtihcdecdkpbpmaaDoor.Walks
open Go Go.RowKit Go.Proofs.YtihcdecdkpbpmaaDoor.Aid Go.Proofs.YtihcdecdkpbpmaaDoor.Pth Go.Proofs.YtihcdecdkpbpmaaDoor.Own Go.Proofs.YtihcdecdkpbpmaaDoorW.PrintWords Ieee

theorem order_nan (a b : Nat) (h : (Ieee.double.read b).isNaN = true) : FloatKind.f64.format.order a b = none := by
  show Ieee.Datum.order (Ieee.double.read a) (Ieee.double.read b) = none
  cases hb : Ieee.double.read b with
  | nan s f => cases Ieee.double.read a <;> rfl
  | number _ _ _ => rw [hb] at h; simp [Ieee.Datum.isNaN] at h
  | infinity _ => rw [hb] at h; simp [Ieee.Datum.isNaN] at h
def nanB (x y t : Nat) : Nat := Question.cut (.nanBits .f64 x y) t
theorem read_nan (x y t : Nat) : (Ieee.double.read (nanB x y t)).isNaN = true := by
  have e : nanB x y t = (t % 2) * 9223372036854775808 + 9218868437227405312 + 1 + (t / 2) % 4503599627370495 := rfl
  rw [e]
  have hm : (t % 2 * 9223372036854775808 + 9218868437227405312 + 1 + t / 2 % 4503599627370495) % 9223372036854775808 = 9218868437227405312 + 1 + t / 2 % 4503599627370495 := by omega
  generalize t / 2 % 4503599627370495 = q at hm ⊢
  unfold Ieee.Format.read
  have s : Ieee.double.signWeight = 9223372036854775808 := rfl
  have b : Ieee.double.binade = 4503599627370496 := rfl
  have i : Ieee.double.infRung = 9218868437227405312 := rfl
  simp only [s, b, i, hm]
  rw [if_neg (by omega), if_neg (by omega), if_neg (by omega)]
  rfl
theorem quo_none (P : Program) (w : World) (t : TypeId) (x y : Nat) (h : floatBits .quo .f64 x y = none) :
    ∃ b, (binOp .quo t (.float .f64 x) (.float .f64 y)).run P w = .ok (.float .f64 b) w.drew ∧ isN b = true := by
  have h' : FloatKind.f64.format.div x y = none := h
  refine ⟨nanB x y (w.tape w.drawn (.nanBits .f64 x y)), ?_, by unfold isN; rw [order_nan _ _ (read_nan _ _ _)]; rfl⟩
  have e : binOp .quo t (.float .f64 x) (.float .f64 y) = Op.floatArith .quo .f64 x y := by simp [binOp]
  rw [e]
  unfold Op.floatArith
  simp only [h']
  rfl
/-- A time that is none is handed back. -/
def NanPost (w : World) (x : Ending) (w' : World) : Prop := ∃ b, x = .returned (.float .f64 b) ∧ isN b = true ∧ Only (fun _ => False) w w'
set_option maxRecDepth 100000 in
set_option maxHeartbeats 4000000 in
theorem rnone_any (w : World) : Calls Tryd.prog 26 #[] w (NanPost w) := by
  obtain ⟨b, hr, hb⟩ := quo_none Tryd.prog w 29 0 0 (by kernel_rfl)
  have HB := Lib.hid hb
  clear hb
  go_enter Tryd.func26, Tryd.ntmps26
  go_wp2_with fail
  go_ret
  exact ⟨b, rfl, HB.out, (Only.refl _ w).drew⟩
end Go.Proofs.YtihcdecdkpbpmaaDoor.Walks
