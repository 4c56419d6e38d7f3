/- Contracts: math/bits.Len of 0 and 1, slices.SortFunc of at most one element. -/
import Derived.Test.YtihcdecdkpbpmaaDoorEntS
namespace Go.Proofs.YtihcdecdkpbpmaaDoor.Walks
open Go Go.RowKit Go.Proofs.YtihcdecdkpbpmaaDoor.Aid Go.Proofs.YtihcdecdkpbpmaaDoor.Pth Go.Proofs.YtihcdecdkpbpmaaDoor.Own Go.Proofs.YtihcdecdkpbpmaaDoorW.PrintWords

set_option maxRecDepth 100000 in
set_option maxHeartbeats 4000000 in
theorem insert_1 (w : World) (v f : Value) (n : Int) (hn : n = 0 ∨ n = 1) : Calls Tryd.prog 57 #[v, .int .i64 0, .int .i64 n, f] w (fun x w' => x = .returned (.tuple #[]) ∧ w' = w) := by
  rcases hn with rfl | rfl
  all_goals
    go_enter Tryd.func57, Tryd.ntmps57
    go_upto_region 1 with (fail)
    go_loopw [8] (fun v8 u => v8 = .int .i64 1 ∧ u = w) (fun _ _ => 0)
    case atStart => exact ⟨rfl, rfl⟩
    case round =>
      obtain ⟨rfl, rfl⟩ := hrel
      go_wp2_with fail
      refine bodyPost_end (results_none rfl _ _ _) rfl ?_
      exact ⟨rfl, rfl⟩
set_option maxRecDepth 100000 in
set_option maxHeartbeats 4000000 in
theorem pdq_1 (w : World) (v f : Value) (n L : Int) (hn : n = 0 ∨ n = 1) : Calls Tryd.prog 49 #[v, .int .i64 0, .int .i64 n, .int .i64 L, f] w (fun x w' => x = .returned (.tuple #[]) ∧ w' = w) := by
  have HI := Lib.hid (fun u => insert_1 u v f n hn)
  have b0 : 0 ≤ n := by omega
  have b1 : n ≤ 1 := by omega
  have d1 : decide (n ≤ 12) = true := decide_eq_true (by omega)
  clear hn
  go_enter Tryd.func49, Tryd.ntmps49
  go_upto_region 2 with (fail)
  go_loopw [1, 2] (fun v1 v2 u => v1 = .int .i64 0 ∧ v2 = .int .i64 n ∧ u = w) (fun _ _ _ => 0)
  case atStart => exact ⟨rfl, rfl, rfl⟩
  case round =>
    obtain ⟨rfl, rfl, rfl⟩ := hrel
    go_wp2_with (go_at_call 57; (with_reducible refine (HI.out _).mono ?_); rintro x u1 ⟨rfl, rfl⟩)
    refine bodyPost_ret (results_none rfl _ _ _) rfl ?_
    exact ⟨rfl, rfl⟩
set_option maxRecDepth 100000 in
set_option maxHeartbeats 4000000 in
theorem sort_1 (w : World) (A : Option Addr) (n c : Nat) (f : Value) (hn : n ≤ 1) : Calls Tryd.prog 42 #[.slice A n c, f] w (fun x w' => x = .returned (.tuple #[]) ∧ w' = w) := by
  have HP := Lib.hid (fun u L => pdq_1 u (.slice A n c) f n L (by omega))
  have HL := Lib.hid (fun u => sh_bits_Len (n : Int) u (by omega) (by omega))
  have b1 : n ≤ 1 := hn
  clear hn
  go_enter Tryd.func42, Tryd.ntmps42
  go_wp2_with (first
    | (go_at_call 50; (with_reducible refine (HL.out _).mono ?_); rintro x u1 ⟨rfl, rfl⟩)
    | (go_at_call 49; (with_reducible refine (HP.out _ _).mono ?_); rintro x u1 ⟨rfl, rfl⟩))
  refine bodyPost_end (results_none rfl _ _ _) rfl ?_
  exact ⟨rfl, rfl⟩
end Go.Proofs.YtihcdecdkpbpmaaDoor.Walks
