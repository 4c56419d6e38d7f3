/- What told comes to. -/
import Derived.Test.YtoiagpebfkignaaSlc
import Derived.Lib.SlBytesConst
namespace Go.Proofs.Ytoiagpebfkignaa.Walks
open Go Go.RowKit Go.Proofs.Ytoiagpebfkignaa.Aid Go.Proofs.Ytoiagpebfkignaa.Plain

def nine : List Int := [49, 50, 51, 52, 53, 54, 55, 56, 57]
theorem nine_sum : nu (upd 0#32 nine) = 3421780262 := by kernel_rfl
theorem none_sum : nu (upd 0#32 []) = 0 := by decide
theorem lit_nine (w : World) (C : Array Value) (t : TypeId) (fr : Nat × Nat) (hC : C = (nine.map (Value.int .u8)).toArray) : RdK .u8 (w.alloc (.cells C t fr)) (some ⟨w.heap.size, 0, none⟩) nine := fun _ => ⟨_, rfl, fun j hj => by
  have : (⟨w.heap.size, 0, none⟩ : Addr).add j = ⟨w.heap.size, 0 + j, none⟩ := by unfold Addr.add; split <;> simp_all
  rw [this, Nat.zero_add, World.cell?]
  simp only [alloc_new, hC]
  simp [List.getD_eq_getElem?_getD, hj]⟩
theorem nine_bytes : Bytes nine := by unfold Bytes nine; decide
def ToldPost (w : World) (e : Ending) (w' : World) : Prop := e = .returned (.bool true) ∧ Only (fun _ => False) w w'
set_option maxHeartbeats 8000000 in
set_option maxRecDepth 100000 in
theorem told_any (w : World) : Calls Try.prog 9 #[] w (ToldPost w) := by
  have kc := fun (w : World) (C : Array Value) (n c : Nat) => Lib.run_convert_bytes_const (P := Try.prog) w 23 5 C n c Try.underlying23 Try.underlying5
  go_enter Try.func9, Try.ntmps9
  go_wp2_with fail
  go_at_call 12
  refine (sum_any (l := nine) (cap := 9) (lit_nine _ _ _ _ rfl) nine_bytes (by decide)).mono ?_
  rintro e w1 ⟨rfl, hO1⟩
  rw [nine_sum]
  go_wp2_with fail
  go_at_call 12
  refine (sum_any (l := []) (cap := 0) (fun h => absurd h (by decide)) (fun _ h => by cases h) (by decide)).mono ?_
  rintro e w2 ⟨rfl, hO2⟩
  rw [none_sum]
  go_wp2_with fail
  go_at_call 13
  refine (slices_any (l := nine) (cap := 9) (lit_nine _ _ _ _ rfl) nine_bytes (by decide)).mono ?_
  rintro e w3 ⟨rfl, hO3⟩
  rw [nine_sum]
  go_wp2_with fail
  go_ret
  exact ⟨rfl, (((((Only.refl _ w).alloc _).trans' (hO1.mono (fun _ _ h => h))).trans hO2 (fun _ h => h.elim)).alloc _).trans hO3 (fun _ h => h.elim)⟩
end Go.Proofs.Ytoiagpebfkignaa.Walks
