/- Contract of told. -/
import Derived.Test.YtkfcflnhffmmmaaDoorRLess
namespace Go.Proofs.YtkfcflnhffmmmaaDoor.Walks
open Go Go.RowKit Go.Proofs.YtkfcflnhffmmmaaDoor.Aid Go.Proofs.YtkfcflnhffmmmaaDoor.Pth Go.Proofs.YtkfcflnhffmmmaaDoor.OwnS Go.Proofs.YtkfcflnhffmmmaaDoorW.PrintWords

theorem t1 : cleanS ⟨#[46, 47, 97, 47, 47, 98, 47]⟩ = ⟨#[97, 47, 98]⟩ ∧ cleanB ⟨#[46, 47, 97, 47, 47, 98, 47]⟩ = true := by decide +kernel
theorem t2 : cleanS ⟨#[97, 47, 46, 46, 47, 98]⟩ = ⟨#[]⟩ ∧ cleanB ⟨#[97, 47, 46, 46, 47, 98]⟩ = false := by decide +kernel
theorem t3 : rightL [97, 47, 98] = true := by decide +kernel
theorem t4 : lastL [97, 47, 98] = [98] := by decide +kernel
theorem t5 : splitL [97, 47, 98] = [[97], [98]] := by decide +kernel
theorem t6 : lessL [97] [97, 47, 98] = true := by decide +kernel
set_option maxHeartbeats 4000000 in
theorem told_any (w : World) (hm : MaxLen w) : Calls Tryd.prog 8 #[] w (BoolPost true w) := by
  have HM := Lib.hid hm
  clear hm
  go_enter Tryd.func8, Tryd.ntmps8
  go_wp2_with fail
  refine (clean_any _ w (by decide) HM.out).mono ?_
  rintro x w1 ⟨rfl, h1⟩
  rw [t1.1, t1.2]
  have H1 := Lib.hid h1
  clear h1
  go_wp2_with fail
  refine (clean_any _ w1 (by decide) (HM.out.only H1.out)).mono ?_
  rintro x w2 ⟨rfl, h2⟩
  rw [t2.1, t2.2]
  have H2 := Lib.hid (H1.out.trans' h2)
  clear h2 H1
  go_wp2_with fail
  refine (right_any _ w2 (by decide) (HM.out.only H2.out)).mono ?_
  rintro x w3 ⟨rfl, h3⟩
  rw [show rightL (⟨#[97, 47, 98]⟩ : ByteArray).data.toList = true from t3]
  have H3 := Lib.hid (H2.out.trans' h3)
  clear h3 H2
  go_wp2_with fail
  refine (last_any _ w3 (by decide) (HM.out.only H3.out)).mono ?_
  rintro x w4 ⟨rfl, h4⟩
  rw [show lastL (⟨#[97, 47, 98]⟩ : ByteArray).data.toList = [98] from t4, show B [98] = ⟨#[98]⟩ from rfl]
  have H4 := Lib.hid (H3.out.trans' h4)
  clear h4 H3
  go_wp2_with fail
  refine (split_right _ w4 (by decide) (HM.out.only H4.out)).mono ?_
  rintro x w5 ⟨A, c, rfl, _, _, h5⟩
  rw [show (splitL (⟨#[97, 47, 98]⟩ : ByteArray).data.toList).length = 2 by rw [show splitL (⟨#[97, 47, 98]⟩ : ByteArray).data.toList = [[97], [98]] from t5]; rfl]
  have H5 := Lib.hid (H4.out.trans' h5)
  clear h5 H4
  go_wp2_with fail
  refine (less_any _ _ w5 (by decide) (by decide) (HM.out.only H5.out)).mono ?_
  rintro x w6 ⟨rfl, h6⟩
  rw [show lessL (⟨#[97]⟩ : ByteArray).data.toList (⟨#[97, 47, 98]⟩ : ByteArray).data.toList = true from t6]
  have H6 := Lib.hid (H5.out.trans' h6)
  clear h6 H5
  go_wp2_with fail
  go_ret
  exact ⟨rfl, H6.out⟩
end Go.Proofs.YtkfcflnhffmmmaaDoor.Walks
