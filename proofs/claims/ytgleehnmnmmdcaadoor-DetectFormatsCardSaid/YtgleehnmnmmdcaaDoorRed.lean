/- Contracts of num's fail, at. -/
import Derived.Test.YtgleehnmnmmdcaaDoorTar
import Derived.Defers
import Derived.Recover
namespace Go.Proofs.YtgleehnmnmmdcaaDoor.Walks
open Go Go.RowKit Go.Proofs.YtgleehnmnmmdcaaDoor.Aid Go.Proofs.YtgleehnmnmmdcaaDoor.Own

theorem fail_any (n : Int) (w : World) : Calls Tryd.prog 38 #[.int .i64 n] w fun e w' => e = .panicked [{ v := .iface 63 (.agg #[.int .i64 n, .int .i64 0]), recovered := false }] ∧ w' = w := by
  go_enter Tryd.func38, Tryd.ntmps38
  go_wp2_with fail
  simp [bodyPost]
theorem at_in {w : World} {A : Option Addr} {l : List Int} {c : Nat} (i : Nat) (hi : i < l.length) (hA : RdK .u8 w A l) : Calls Tryd.prog 39 #[.slice A l.length c, .int .i64 (i : Int)] w fun e w' => e = .returned (.int .u8 (l.getD i 0)) ∧ w' = w := by
  obtain ⟨ad, rfl, hc⟩ := hA (by omega)
  have h1 := hc i hi
  generalize hx : l.getD i 0 = x at *
  have h2 : (i : Int) < (l.length : Int) := by omega
  have h3 : (0 : Int) ≤ (i : Int) := by omega
  clear hx hc
  go_enter Tryd.func39, Tryd.ntmps39
  go_wp2_with fail
  go_ret
  exact ⟨rfl, rfl⟩
theorem at_out {w : World} {A : Option Addr} {n c : Nat} (i : Int) (hi : (n : Int) ≤ i) : Calls Tryd.prog 39 #[.slice A n c, .int .i64 i] w fun e w' => e = .panicked [{ v := .iface 63 (.agg #[.int .i64 5, .int .i64 0]), recovered := false }] ∧ w' = w := by
  have h1 : decide (i < 0) = false := decide_eq_false (by omega)
  have h2 : decide (i ≥ (n : Int)) = true := decide_eq_true hi
  go_enter Tryd.func39, Tryd.ntmps39
  go_wp2_with fail
  go_at_call 38
  refine (fail_any 5 _).mono ?_
  rintro e w' ⟨rfl, rfl⟩
  go_wp2_with fail
  simp [bodyPost]
end Go.Proofs.YtgleehnmnmmdcaaDoor.Walks
