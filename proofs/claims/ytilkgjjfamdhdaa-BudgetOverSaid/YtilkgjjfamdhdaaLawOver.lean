/- The law on ratios answers true, whatever the two numbers and the ratio. -/
import Derived.Test.YtilkgjjfamdhdaaTold
import Derived.OpenShut
import Derived.SizedLaws
namespace Go.Proofs.Ytilkgjjfamdhdaa.Walks
open Go Go.RowKit Go.Proofs.Ytilkgjjfamdhdaa.Aid Go.ChangeShapes Go.WideShapes

theorem over19_at (n m : Int) (r : Nat) (w : World) : Calls Try.prog 10 #[.int .i64 n, .int .i64 m, .float .f64 r] w (OverPost (overC n m r) w) := over19_any n m r w
theorem lawOver_any (n m : Int) (r : Nat) (w : World) : Calls Try.prog 3 #[.int .i64 n, .int .i64 m, .float .f64 r] w fun e w' => e = .returned (.bool true) ∧ Below w.heap.size w w' := by
  go_enter Try.func3, Try.ntmps3
  go_wp2_with fail
  go_at_call 8
  refine (told_any w).mono ?_
  rintro x w1 ⟨rfl, hb⟩
  go_wp2_with fail
  go_at_call 9
  refine (over_any n m r w1).mono ?_
  rintro x w2 ⟨rfl, k1, rfl⟩
  go_wp2_with fail
  go_at_call 10
  refine (over19_any n m r _).mono ?_
  rintro x w2 ⟨rfl, k2, rfl⟩
  go_wp2_with fail
  go_ret
  refine ⟨?_, ?_⟩
  · show Ending.returned (.bool _) = _
    simp
  · exact ⟨hb.os, hb.tape, hb.output, hb.size, hb.block⟩
theorem lawOver {H : Type} {enc : TypeId × Value → H} {W : World} {base : Nat} {v0 v1 v2 : Value} {d0 d1 d2 : DataW H} {p0 p1 p2 : List MemPlace} {ts : List TypeId} {ds : List (DataW H)}
    (ov0 : Value.okWide Try.prog W .any base 3 v0) (k0 : DataW.Trod enc Try.prog W 0 (fun _ => true) true 3 v0 d0 p0)
    (ov1 : Value.okWide Try.prog W .any base 3 v1) (k1 : DataW.Trod enc Try.prog W 0 (fun _ => true) true 3 v1 d1 p1)
    (ov2 : Value.okWide Try.prog W .any base 22 v2) (k2 : DataW.Trod enc Try.prog W 0 (fun _ => true) true 22 v2 d2 p2)
    (_ : (DataW.weightsEach Try.prog ts ds).all (· ≤ reachBytes) = true) :
    Calls Try.prog 3 #[v0, v1, v2] W fun e w' => e = .returned (.bool true) ∧ Below W.heap.size W w' := by
  obtain ⟨n, rfl, _, _, _⟩ := open_int Try.underlying3 ov0 k0
  obtain ⟨m, rfl, _, _, _⟩ := open_int Try.underlying3 ov1 k1
  obtain ⟨r, rfl, _, _, _⟩ := open_float Try.underlying22 ov2 k2
  exact lawOver_any n m r W
end Go.Proofs.Ytilkgjjfamdhdaa.Walks
