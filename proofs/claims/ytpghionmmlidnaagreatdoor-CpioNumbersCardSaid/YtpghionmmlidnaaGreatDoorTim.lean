/- Times: NaN or not, one or not. Contracts of the two functions Same of times. -/
import Derived.Test.YtpghionmmlidnaaGreatDoorEnt
import Derived.Laws.FloatArith
namespace Go.Proofs.YtpghionmmlidnaaGreatDoor.Walks
open Go Go.RowKit Go.Proofs.YtpghionmmlidnaaGreatDoor.Aid Go.Proofs.YtpghionmmlidnaaGreatDoor.Pth Go.Proofs.YtpghionmmlidnaaGreatDoor.Own Go.Proofs.YtpghionmmlidnaaGreatDoorW.PrintWords

/-- The ways through a chain of tests. -/
theorem way (a : Bool) {P : Prop} (h : P) : a = false ∨ (a = true ∧ P) := by cases a; exact Or.inl rfl; exact Or.inr ⟨rfl, h⟩
theorem ways (a : Bool) : a = false ∨ a = true := by cases a; exact Or.inl rfl; exact Or.inr rfl
theorem wayT (a : Bool) {P : Prop} (h : P) : a = true ∨ (a = false ∧ P) := by cases a; exact Or.inr ⟨rfl, h⟩; exact Or.inl rfl
def isN (x : Nat) : Bool := FloatKind.f64.format.order x x != some .eq
def tSame (a b : Nat) : Bool := (FloatKind.f64.format.order a b == some .eq) || (isN a && isN b)
set_option maxRecDepth 100000 in
set_option maxHeartbeats 4000000 in
theorem rtsame_any (a b : Nat) (w : World) : Calls Tryz.prog 29 #[.float .f64 a, .float .f64 b] w (fun x w' => x = .returned (.bool (tSame a b)) ∧ w' = w) := by
  have HT := Lib.hid (show tSame a b = ((FloatKind.f64.format.order a b == some .eq) || (isN a && isN b)) from rfl)
  obtain ⟨b1, h1⟩ : ∃ b1 : Bool, (FloatKind.f64.format.order a b == some .eq) = b1 := ⟨_, rfl⟩
  obtain ⟨b2, h2⟩ : ∃ b2 : Bool, isN a = b2 := ⟨_, rfl⟩
  obtain ⟨b3, h3⟩ : ∃ b3 : Bool, isN b = b3 := ⟨_, rfl⟩
  rw [h1, h2, h3] at HT
  have g2 : (FloatKind.f64.format.order a a != some .eq) = b2 := h2
  have g3 : (FloatKind.f64.format.order b b != some .eq) = b3 := h3
  clear h2 h3
  rcases wayT b1 (way b2 (ways b3)) with rfl | ⟨rfl, rfl | ⟨rfl, rfl | rfl⟩⟩
  all_goals
    go_enter Tryz.func29, Tryz.ntmps29
    go_wp2_with fail
    go_ret
    exact ⟨by rw [HT.out]; rfl, rfl⟩
end Go.Proofs.YtpghionmmlidnaaGreatDoor.Walks
