/-
  No cell of these rows narrows 'for every input' (looked for: loops, veiled, ifaces, maps, wideKeys, modest, calm, conditions, laid).
  DERIVED. THE GIVEN ROWS OF THIS SEAT. 5 by the template 'for every input the law returns true; each argument reads behind the call as it read before'; 0 by the template 'total and deterministic' (their statements: YtilkgjjfamdhdaaTotals.lean).
  GIVEN WITH THE SEED: the statements are not yours to turn. If you find one false, say at which input.
  Laid BY PROGRAM, IN A SANDBOX (cutbox-rows.mjs): the forced cells as the released guide's own fill.sh prints them over the translation 2716e02aa550d2ae… (all of the seat's roots in one cut). By AI agents, Wed Nov 11 2026. No macro, syntax, notation, axiom, sorry.
-/
import Derived.Test.YtilkgjjfamdhdaaChecked
import GoSem.Claim
import GoSem.ClaimJoined
import GoSem.ClaimMapViews
import Derived.JoinedTies
import Derived.KernelRfl
namespace Go.Proofs.Ytilkgjjfamdhdaa
/- THE CELL 'sum', in the pinned program and in every row, IS THE sha256 OF THE DUMP (.gsa) THAT YtilkgjjfamdhdaaProg.lean LOADS. Nothing in Lean hashes anything: it is a label: what it is worth is what the hold of that sum in a sandbox is worth. -/
noncomputable def Try.pinned : Pinned := { name := "ytilkgjjfamdhdaa", sum := "2716e02aa550d2ae266d4d236cd02b612f6d2e4fb964f123e5cacadcdfd698ec", checked := Try.checked }
namespace Rows
def none {H : Type} : Left H := { results := [], args := [] }

/-- 'stevedorelaw22.BudgetOver': WHATEVER THE INPUT: true; the input reads as it did. -/
def budgetOverSpec : ChangeSpec := { name := "budgetOver", fn := fun _ => fun
  | [d1, d2, d3] => { results := [.lit (.bool true)], args := [d1, d2, d3] }
  | _ => none }
def budgetOverRow : OpenClaim := { program := "ytilkgjjfamdhdaa", sum := "2716e02aa550d2ae266d4d236cd02b612f6d2e4fb964f123e5cacadcdfd698ec", func := "stevedore/stevedorelaw22.BudgetOver", spec := "budgetOver", unfollowed := true, recurses := true, apart := false }
def BudgetOverSaid : Prop := budgetOverRow.holds Try.pinned (OpenSpec.ofChange budgetOverSpec)

/-- ITS FALSE NEIGHBOUR: 'it returns false'. Refute it at one input. -/
def budgetOverWrong : ChangeSpec := { name := "budgetOver", fn := fun _ => fun
  | [d1, d2, d3] => { results := [.lit (.bool false)], args := [d1, d2, d3] }
  | _ => none }
def BudgetOverWrongFalsely : Prop := budgetOverRow.holds Try.pinned (OpenSpec.ofChange budgetOverWrong)

/-- 'stevedorelaw22.BudgetEdges': WHATEVER THE INPUT: true; the input reads as it did. -/
def budgetEdgesSpec : ChangeSpec := { name := "budgetEdges", fn := fun _ => fun
  | [d1, d2, d3, d4] => { results := [.lit (.bool true)], args := [d1, d2, d3, d4] }
  | _ => none }
def budgetEdgesRow : OpenClaim := { program := "ytilkgjjfamdhdaa", sum := "2716e02aa550d2ae266d4d236cd02b612f6d2e4fb964f123e5cacadcdfd698ec", func := "stevedore/stevedorelaw22.BudgetEdges", spec := "budgetEdges", unfollowed := true, recurses := true, apart := false }
def BudgetEdgesSaid : Prop := budgetEdgesRow.holds Try.pinned (OpenSpec.ofChange budgetEdgesSpec)

/-- ITS FALSE NEIGHBOUR: 'it returns false'. Refute it at one input. -/
def budgetEdgesWrong : ChangeSpec := { name := "budgetEdges", fn := fun _ => fun
  | [d1, d2, d3, d4] => { results := [.lit (.bool false)], args := [d1, d2, d3, d4] }
  | _ => none }
def BudgetEdgesWrongFalsely : Prop := budgetEdgesRow.holds Try.pinned (OpenSpec.ofChange budgetEdgesWrong)

/-- 'stevedorelaw22.BudgetPlays': WHATEVER THE INPUT: true; the input reads as it did. -/
def budgetPlaysSpec : ChangeSpec := { name := "budgetPlays", fn := fun _ => fun
  | [d1, d2] => { results := [.lit (.bool true)], args := [d1, d2] }
  | _ => none }
def budgetPlaysRow : OpenClaim := { program := "ytilkgjjfamdhdaa", sum := "2716e02aa550d2ae266d4d236cd02b612f6d2e4fb964f123e5cacadcdfd698ec", func := "stevedore/stevedorelaw22.BudgetPlays", spec := "budgetPlays", unfollowed := true, recurses := true, apart := false }
def BudgetPlaysSaid : Prop := budgetPlaysRow.holds Try.pinned (OpenSpec.ofChange budgetPlaysSpec)

/-- ITS FALSE NEIGHBOUR: 'it returns false'. Refute it at one input. -/
def budgetPlaysWrong : ChangeSpec := { name := "budgetPlays", fn := fun _ => fun
  | [d1, d2] => { results := [.lit (.bool false)], args := [d1, d2] }
  | _ => none }
def BudgetPlaysWrongFalsely : Prop := budgetPlaysRow.holds Try.pinned (OpenSpec.ofChange budgetPlaysWrong)

/-- 'stevedorelaw22.BudgetHolds': WHATEVER THE INPUT: true; the input reads as it did. -/
def budgetHoldsSpec : ChangeSpec := { name := "budgetHolds", fn := fun _ => fun
  | [d1, d2] => { results := [.lit (.bool true)], args := [d1, d2] }
  | _ => none }
def budgetHoldsRow : OpenClaim := { program := "ytilkgjjfamdhdaa", sum := "2716e02aa550d2ae266d4d236cd02b612f6d2e4fb964f123e5cacadcdfd698ec", func := "stevedore/stevedorelaw22.BudgetHolds", spec := "budgetHolds", unfollowed := true, recurses := true, apart := false }
def BudgetHoldsSaid : Prop := budgetHoldsRow.holds Try.pinned (OpenSpec.ofChange budgetHoldsSpec)

/-- ITS FALSE NEIGHBOUR: 'it returns false'. Refute it at one input. -/
def budgetHoldsWrong : ChangeSpec := { name := "budgetHolds", fn := fun _ => fun
  | [d1, d2] => { results := [.lit (.bool false)], args := [d1, d2] }
  | _ => none }
def BudgetHoldsWrongFalsely : Prop := budgetHoldsRow.holds Try.pinned (OpenSpec.ofChange budgetHoldsWrong)

/-- 'stevedorelaw22.BudgetOrder': WHATEVER THE INPUT: true; the input reads as it did. -/
def budgetOrderSpec : ChangeSpec := { name := "budgetOrder", fn := fun _ => fun
  | [d1, d2, d3] => { results := [.lit (.bool true)], args := [d1, d2, d3] }
  | _ => none }
def budgetOrderRow : OpenClaim := { program := "ytilkgjjfamdhdaa", sum := "2716e02aa550d2ae266d4d236cd02b612f6d2e4fb964f123e5cacadcdfd698ec", func := "stevedore/stevedorelaw22.BudgetOrder", spec := "budgetOrder", unfollowed := true, recurses := true, apart := false }
def BudgetOrderSaid : Prop := budgetOrderRow.holds Try.pinned (OpenSpec.ofChange budgetOrderSpec)

/-- ITS FALSE NEIGHBOUR: 'it returns false'. Refute it at one input. -/
def budgetOrderWrong : ChangeSpec := { name := "budgetOrder", fn := fun _ => fun
  | [d1, d2, d3] => { results := [.lit (.bool false)], args := [d1, d2, d3] }
  | _ => none }
def BudgetOrderWrongFalsely : Prop := budgetOrderRow.holds Try.pinned (OpenSpec.ofChange budgetOrderWrong)

/- THE SECOND FORM. 'bulk': how many values and letters a reading holds, each counted each time it is reached (what is shared counts as often as it is met; a slice's spare places count too). A statement '..UptoSaid' is the law's where the arguments, and the package variables that the reading takes, are together of bulk at most 1048576: NARROWER than '..Said'. Prove '..Said' where nothing that the law and all that it calls make is longer than what came in: it says more and counts as full. Else prove '..UptoSaid'. A law counts once. -/
mutual
def uptoBulk {H : Type} : DataW H → Nat
  | .lit (.string bytes) => bytes.length + 1
  | .lit _ => 1
  | .nil => 1
  | .ptr d => uptoBulk d + 1
  | .slice elems spare => uptoBulkAll elems + uptoBulkAll spare + 1
  | .agg parts => uptoBulkAll parts + 1
  | .iface _ d => uptoBulk d + 1
  | .map entries => uptoBulkEntries entries + 1
  | .held _ => 1
def uptoBulkAll {H : Type} : List (DataW H) → Nat
  | [] => 0
  | d :: r => uptoBulk d + uptoBulkAll r
def uptoBulkEntries {H : Type} : List (Lit × DataW H) → Nat
  | [] => 0
  | x :: r => uptoBulkEntry x + uptoBulkEntries r
def uptoBulkEntry {H : Type} : Lit × DataW H → Nat
  | (.string bytes, d) => bytes.length + uptoBulk d + 1
  | (_, d) => uptoBulk d + 1
 end
def uptoSmall : (H : Type) → List (DataW H) → Bool := fun _ ds => decide (uptoBulkAll ds ≤ 1048576)
def OpenSpec.upto (s : _root_.Go.ChangeSpec) : _root_.Go.OpenSpec := { _root_.Go.OpenSpec.ofChange s with cond := some uptoSmall }

/-- 'stevedorelaw22.BudgetOver', WHERE WHAT IT READS IS OF BULK AT MOST 1048576: true; the input reads as it did. -/
def budgetOverUptoRow : OpenClaim := { program := "ytilkgjjfamdhdaa", sum := "2716e02aa550d2ae266d4d236cd02b612f6d2e4fb964f123e5cacadcdfd698ec", func := "stevedore/stevedorelaw22.BudgetOver", spec := "budgetOver", unfollowed := true, recurses := true, apart := false, narrowed := true }
def BudgetOverUptoSaid : Prop := budgetOverUptoRow.holds Try.pinned (OpenSpec.upto budgetOverSpec)

/-- 'stevedorelaw22.BudgetEdges', WHERE WHAT IT READS IS OF BULK AT MOST 1048576: true; the input reads as it did. -/
def budgetEdgesUptoRow : OpenClaim := { program := "ytilkgjjfamdhdaa", sum := "2716e02aa550d2ae266d4d236cd02b612f6d2e4fb964f123e5cacadcdfd698ec", func := "stevedore/stevedorelaw22.BudgetEdges", spec := "budgetEdges", unfollowed := true, recurses := true, apart := false, narrowed := true }
def BudgetEdgesUptoSaid : Prop := budgetEdgesUptoRow.holds Try.pinned (OpenSpec.upto budgetEdgesSpec)

/-- 'stevedorelaw22.BudgetPlays', WHERE WHAT IT READS IS OF BULK AT MOST 1048576: true; the input reads as it did. -/
def budgetPlaysUptoRow : OpenClaim := { program := "ytilkgjjfamdhdaa", sum := "2716e02aa550d2ae266d4d236cd02b612f6d2e4fb964f123e5cacadcdfd698ec", func := "stevedore/stevedorelaw22.BudgetPlays", spec := "budgetPlays", unfollowed := true, recurses := true, apart := false, narrowed := true }
def BudgetPlaysUptoSaid : Prop := budgetPlaysUptoRow.holds Try.pinned (OpenSpec.upto budgetPlaysSpec)

/-- 'stevedorelaw22.BudgetHolds', WHERE WHAT IT READS IS OF BULK AT MOST 1048576: true; the input reads as it did. -/
def budgetHoldsUptoRow : OpenClaim := { program := "ytilkgjjfamdhdaa", sum := "2716e02aa550d2ae266d4d236cd02b612f6d2e4fb964f123e5cacadcdfd698ec", func := "stevedore/stevedorelaw22.BudgetHolds", spec := "budgetHolds", unfollowed := true, recurses := true, apart := false, narrowed := true }
def BudgetHoldsUptoSaid : Prop := budgetHoldsUptoRow.holds Try.pinned (OpenSpec.upto budgetHoldsSpec)

/-- 'stevedorelaw22.BudgetOrder', WHERE WHAT IT READS IS OF BULK AT MOST 1048576: true; the input reads as it did. -/
def budgetOrderUptoRow : OpenClaim := { program := "ytilkgjjfamdhdaa", sum := "2716e02aa550d2ae266d4d236cd02b612f6d2e4fb964f123e5cacadcdfd698ec", func := "stevedore/stevedorelaw22.BudgetOrder", spec := "budgetOrder", unfollowed := true, recurses := true, apart := false, narrowed := true }
def BudgetOrderUptoSaid : Prop := budgetOrderUptoRow.holds Try.pinned (OpenSpec.upto budgetOrderSpec)

end Rows
end Go.Proofs.Ytilkgjjfamdhdaa
