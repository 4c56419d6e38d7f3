/- A region that draws its order and whose operations read, call what may make memory and turns none: one walk in the text's order serves (the library's theorem on a class of worlds, at the class 'what stood stands'). No condition. -/
import Derived.Test.YtpghionmmlidnaaGreatDoorOnly
import Derived.BigQuiet
namespace Go.Proofs.YtpghionmmlidnaaGreatDoor.Aid
open Go Go.RowKit

/-- A world in which all that stood in w stands. -/
structure Later (w0 : World) where
  w : World
  h : Only (fun _ => False) w0 w
instance later_some (w : World) : Nonempty (Later w) := ⟨⟨w, Only.refl _ _⟩⟩
theorem wp_region_later {P : Program} {id : Nat} {Q : Exit → Act → World → Prop} {a : Act} {w : World} {l : List Oper} (hm : P.follows .mixedOrders = true) (hB : Region.lexB .any l.toArray = true)
    (h : wpQuiet P l.toArray (fun w' => ∃ x : Later w, w' = x.w) (fun a' => ∀ w', (∃ x : Later w, w' = x.w) → Q .normal a' w') l a) : (Code.region id l.toArray true).wp P Q a w :=
  wp_region_quiet (C := fun w' => ∃ x : Later w, w' = x.w) hm hB ⟨⟨_, (Only.refl (fun _ => False) w).drew⟩, rfl⟩ (by simpa using h)
theorem Calls.later {P : Program} {f : FuncId} {args : Array Value} {w : World} {x : Later w} {v : Value} (h : Calls P f args x.w (fun e w' => e = .returned v ∧ Only (fun _ => False) x.w w')) :
    Calls P f args x.w (fun e w'' => e = .returned v ∧ ∃ y : Later w, w'' = y.w) := h.mono fun _ _ ⟨he, ho⟩ => ⟨he, ⟨_, x.h.trans' ho⟩, rfl⟩
theorem Calls.laterSame {P : Program} {f : FuncId} {args : Array Value} {w : World} {x : Later w} {v : Value} (h : Calls P f args x.w (fun e w' => e = .returned v ∧ w' = x.w)) :
    Calls P f args x.w (fun e w'' => e = .returned v ∧ ∃ y : Later w, w'' = y.w) := h.mono fun _ _ ⟨he, ho⟩ => ⟨he, x, ho⟩
end Go.Proofs.YtpghionmmlidnaaGreatDoor.Aid
