/- Contracts of the budget's functions: what each returns and what becomes of memory. -/
import Derived.Test.YtilkgjjfamdhdaaProg
import Derived.WalkKit
import Derived.KernelRfl
import Derived.WalkLawsBesides
import Derived.WalkSpells
import Derived.Deep.QuietTactic
import Derived.BigQuiet
import Derived.BigRegion
import Derived.Deep.Draws
import Derived.Lib.Hide
import Derived.Outline
import Derived.Test.YtilkgjjfamdhdaaOnly
namespace Go.Proofs.Ytilkgjjfamdhdaa.Walks
open Go Go.RowKit Go.Proofs.Ytilkgjjfamdhdaa.Aid

def withinB (n m : Int) : Bool := decide (0 ≤ n) && decide (n ≤ m)
theorem within_yes (n m : Int) (w : World) (h : 0 ≤ n) : Calls Try.prog 24 #[.int .i64 n, .int .i64 m] w fun e w' => e = .returned (.bool (withinB n m)) ∧ w = w' := by
  go_enter Try.func24, Try.ntmps24
  go_wp2
  go_ret
  exact ⟨by simp [withinB, h], rfl⟩
theorem within_no (n m : Int) (w : World) (h : n < 0) : Calls Try.prog 24 #[.int .i64 n, .int .i64 m] w fun e w' => e = .returned (.bool (withinB n m)) ∧ w = w' := by
  have h' : decide (0 ≤ n) = false := by simp; omega
  have h'' : decide (n ≥ 0) = false := by simp; omega
  clear h
  go_enter Try.func24, Try.ntmps24
  go_wp2
  go_ret
  exact ⟨by simp [withinB, h'], rfl⟩
theorem within_any (n m : Int) (w : World) : Calls Try.prog 24 #[.int .i64 n, .int .i64 m] w fun e w' => e = .returned (.bool (withinB n m)) ∧ w = w' := by
  by_cases h : 0 ≤ n
  · exact within_yes n m w h
  · exact within_no n m w (by omega)

abbrev lim (e t n p : Int) (r : Nat) : Value := .agg #[.int .i64 e, .int .i64 t, .int .i64 n, .int .i64 p, .float .f64 r]
def mayB (e t n p : Int) : Bool := withinB e 1073741824 && withinB t 1073741824 && withinB n 1048576 && withinB p 4096
theorem may_any (e t n p : Int) (r : Nat) (w : World) : Calls Try.prog 13 #[lim e t n p r] w fun en w' => en = .returned (.bool (mayB e t n p)) ∧ Below w.heap.size w w' := by
  go_enter Try.func13, Try.ntmps13
  go_wp2_with (first | (go_at_call 24; refine (within_any _ _ _).mono ?_; rintro e w' ⟨rfl, rfl⟩))
  all_goals go_ret
  all_goals exact ⟨by simp [mayB, *], (Below.refl _ _).alloc (Nat.le_refl _) _⟩

/-- A budget in memory: block g. -/
def bud (e t n p : Int) (r : Nat) (en to ow : Int) : Obj := .cells #[.int .i64 e, .int .i64 t, .int .i64 n, .int .i64 p, .float .f64 r, .int .i64 en, .int .i64 to, .int .i64 ow] 46 (0, 0)
def NewPost (e t n p : Int) (r : Nat) (w : World) (en : Ending) (w' : World) : Prop :=
  if mayB e t n p = true then ∃ g, en = .returned (.tuple #[.pointer (some ⟨g, 0, none⟩), .int .i64 0]) ∧ w.heap.size ≤ g ∧ w'.heap[g]? = some (bud e t n p r 0 0 0) ∧ Below w.heap.size w w'
  else en = .returned (.tuple #[.pointer none, .int .i64 1]) ∧ Below w.heap.size w w'
theorem new_any (e t n p : Int) (r : Nat) (w : World) : Calls Try.prog 12 #[lim e t n p r] w (NewPost e t n p r w) := by
  by_cases hm : mayB e t n p = true
  all_goals
    go_enter Try.func12, Try.ntmps12
    go_wp2_with fail
    go_at_call 13
    refine (may_any e t n p r _).mono ?_
    rintro en w1 ⟨rfl, hb⟩
    obtain ⟨hc, hf⟩ := bcell hb
    have hz := hb.size
    simp at hz
    go_wp2
    go_ret2
    unfold NewPost
  · rw [if_pos hm]
    exact ⟨_, rfl, by omega, alloc_new _ _, (((Below.refl _ _).alloc (Nat.le_refl _) _).trans (hb.mono (by simp))).alloc (by omega) _⟩
  · rw [if_neg hm]
    exact ⟨rfl, ((Below.refl _ _).alloc (Nat.le_refl _) _).trans (hb.mono (by simp))⟩
end Go.Proofs.Ytilkgjjfamdhdaa.Walks
