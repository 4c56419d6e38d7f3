/- Contract of num.Big of two bytes. -/
import Derived.Test.YtgleehnmnmmdcaaDoorRec
namespace Go.Proofs.YtgleehnmnmmdcaaDoor.Walks
open Go Go.RowKit Go.Proofs.YtgleehnmnmmdcaaDoor.Aid Go.Proofs.YtgleehnmnmmdcaaDoor.Own

set_option maxHeartbeats 2000000 in
theorem read_short {w : World} {A : Option Addr} {n c : Nat} (h : n < 2) : Calls Tryd.prog 30 #[.slice A n c, .int .i64 0, .int .i64 2, .func (.func 31) #[] #[]] w fun e w' => e = .returned (.tuple #[.int .u64 0, .int .i64 5]) ∧ Only (fun _ => False) w w' := by
  have hmf : ∀ (fn : Fn) (first cap : Array Value) (w : World), (Instr.makeFunc fn first cap).run Tryd.prog w = .ok (.func fn first cap) w := fun _ _ _ _ => rfl
  have q0 : (n : Int) ≤ 1 := by omega
  have q1 : (0 : Int) ≤ (n : Int) := by omega
  clear h
  go_enter_defers Tryd.func30, Tryd.ntmps30
  go_wp2_with fail
  go_at_call 39
  refine (at_out (A := A) (n := n) (c := c) 1 q0).mono ?_
  rintro e w1 ⟨rfl, rfl⟩
  go_wp2_with fail
  refine leaves_cons (f := 37) (args := #[.pointer (some ⟨w.heap.size, 0, none⟩), .pointer (some ⟨w.heap.size + 1, 0, none⟩)]) (by simp) (by simp [go_sem]) ?_
  refine (catch_panicking w.heap.size (w.heap.size + 1) 0 0 5 [] _ (by omega) ?_ ?_ ?_ ?_).mono ?_
  · simp [go_sem]
  · simp [go_sem]
  · simp [go_sem]
  · simp [go_sem]
  rintro e u' w'' ⟨rfl, rfl, rfl⟩
  simp [Leaves, settle, results, Tryd.results30, go_sem]
  exact ((((Only.refl (fun _ => False) w).alloc _).alloc _).alloc _).drew
theorem place_any (i : Int) (w : World) : Calls Tryd.prog 31 #[.int .i64 i] w fun e w' => e = .returned (.int .i64 i) ∧ w' = w := by
  go_enter Tryd.func31, Tryd.ntmps31
  go_wp2_with fail
  go_ret
  exact ⟨rfl, rfl⟩
/-- What stands in the result's cell behind i bytes. -/
def two (l : List Int) : Nat → Int
  | 0 => 0
  | 1 => l.getD 0 0
  | _ => l.getD 0 0 * 256 + l.getD 1 0
end Go.Proofs.YtgleehnmnmmdcaaDoor.Walks
