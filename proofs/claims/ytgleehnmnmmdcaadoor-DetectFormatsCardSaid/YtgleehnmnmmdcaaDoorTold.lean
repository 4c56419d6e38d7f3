/- Contract of told. -/
import Derived.Test.YtgleehnmnmmdcaaDoorFmt
import Derived.Deep.RegionHeld3
namespace Go.Proofs.YtgleehnmnmmdcaaDoor.Walks
open Go Go.RowKit Go.Proofs.YtgleehnmnmmdcaaDoor.Aid Go.Proofs.YtgleehnmnmmdcaaDoor.Own

theorem format_nil (w : World) (e : Bool) : Calls Tryd.prog 8 #[.slice none 0 0, .bool e] w (FmtPost [] e w) :=
  format_any (l := []) (c := 0) e (Nat.le_refl _) (by decide) (fun h => absurd h (by decide)) (fun x hx => by simp at hx)
theorem format_two {w : World} {g : Nat} {c : Nat} (hc : 2 ≤ c) (h0 : w.cell? ⟨g, 0, none⟩ = some (.int .u8 31)) (h1 : w.cell? ⟨g, 1, none⟩ = some (.int .u8 139)) : Calls Tryd.prog 8 #[.slice (some ⟨g, 0, none⟩) 2 c, .bool false] w (FmtPost [31, 139] false w) :=
  format_any (l := [31, 139]) (c := c) false hc (by decide) (fun _ => ⟨_, rfl, fun j hj => by
    rcases (show j = 0 ∨ j = 1 by simp at hj; omega) with rfl | rfl
    · exact h0
    · exact h1⟩) (by unfold Bytes; decide)
theorem f1 : fmtOf [31, 139] false = (4, 0) := by decide
theorem f2 : fmtOf [] true = (0, 2) := by decide
theorem f3 : fmtOf [] false = (0, 5) := by decide
set_option maxHeartbeats 4000000 in
theorem told_any (w : World) : Calls Tryd.prog 7 #[] w (ProbePost true w) := by
  go_enter Tryd.func7, Tryd.ntmps7
  go_wp2_with fail
  refine (format_two (by decide) (by simp [go_sem]) (by simp [go_sem])).mono ?_
  rintro x w1 ⟨rfl, h1⟩
  rw [f1]
  have H1 := Lib.hid (((Only.refl (fun _ => False) w).alloc _).trans' h1)
  clear h1
  go_wp2_with fail
  refine (format_nil w1 true).mono ?_
  rintro x w2 ⟨rfl, h2⟩
  rw [f2]
  have H2 := Lib.hid (H1.out.trans' h2)
  clear h2 H1
  go_wp2_with fail
  refine (format_nil w2 false).mono ?_
  rintro x w3 ⟨rfl, h3⟩
  rw [f3]
  have H3 := Lib.hid (H2.out.trans' h3)
  clear h3 H2
  go_wp2_with fail
  refine (parse_any _ w3).mono ?_
  rintro x w4 ⟨rfl, rfl⟩
  rw [show parseOf ⟨#[99, 112, 105, 111]⟩ = 3 by decide]
  go_wp2_with fail
  refine (name_any 1 w4).mono ?_
  rintro x w5 ⟨rfl, rfl⟩
  rw [show nameOf 1 = ⟨#[122, 105, 112]⟩ from rfl]
  go_wp2_with fail
  go_ret
  exact ⟨rfl, H3.out⟩
end Go.Proofs.YtgleehnmnmmdcaaDoor.Walks
