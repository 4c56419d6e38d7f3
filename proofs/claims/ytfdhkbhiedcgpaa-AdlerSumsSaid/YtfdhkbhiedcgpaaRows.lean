/-
  No cell of these rows narrows 'for every input' (looked for: loops, veiled, ifaces, maps, wideKeys, modest, calm, conditions, laid).
  DERIVED. THE GIVEN ROWS OF THIS SEAT. 4 by the template 'for every input the law returns true; each argument reads behind the call as it read before'; 0 by the template 'total and deterministic' (their statements: YtfdhkbhiedcgpaaTotals.lean).
  GIVEN WITH THE SEED: the statements are not yours to turn. If you find one false, say at which input.
  Laid BY PROGRAM, IN A SANDBOX (cutbox-rows.mjs): the forced cells as the released guide's own fill.sh prints them over the translation 37dd0d188b4d7423… (all of the seat's roots in one cut). By AI agents, Wed Nov 11 2026. No macro, syntax, notation, axiom, sorry.
-/
import Derived.Test.YtfdhkbhiedcgpaaChecked
import GoSem.Claim
import GoSem.ClaimJoined
import GoSem.ClaimMapViews
import Derived.JoinedTies
import Derived.KernelRfl
namespace Go.Proofs.Ytfdhkbhiedcgpaa
/- THE CELL 'sum', in the pinned program and in every row, IS THE sha256 OF THE DUMP (.gsa) THAT YtfdhkbhiedcgpaaProg.lean LOADS. Nothing in Lean hashes anything: it is a label: what it is worth is what the hold of that sum in a sandbox is worth. -/
noncomputable def Try.pinned : Pinned := { name := "ytfdhkbhiedcgpaa", sum := "37dd0d188b4d74238b4e5ef8b84b64622dc76d9d363129d6f647fcdc88422a69", checked := Try.checked }
namespace Rows
def none {H : Type} : Left H := { results := [], args := [] }

/-- 'stevedorelaw2.AdlerSums': WHATEVER THE INPUT: true; the input reads as it did. -/
def adlerSumsSpec : ChangeSpec := { name := "adlerSums", fn := fun _ => fun
  | [d1, d2, d3] => { results := [.lit (.bool true)], args := [d1, d2, d3] }
  | _ => none }
def adlerSumsRow : OpenClaim := { program := "ytfdhkbhiedcgpaa", sum := "37dd0d188b4d74238b4e5ef8b84b64622dc76d9d363129d6f647fcdc88422a69", func := "stevedore/stevedorelaw2.AdlerSums", spec := "adlerSums", apart := false }
def AdlerSumsSaid : Prop := adlerSumsRow.holds Try.pinned (OpenSpec.ofChange adlerSumsSpec)

/-- ITS FALSE NEIGHBOUR: 'it returns false'. Refute it at one input. -/
def adlerSumsWrong : ChangeSpec := { name := "adlerSums", fn := fun _ => fun
  | [d1, d2, d3] => { results := [.lit (.bool false)], args := [d1, d2, d3] }
  | _ => none }
def AdlerSumsWrongFalsely : Prop := adlerSumsRow.holds Try.pinned (OpenSpec.ofChange adlerSumsWrong)

/-- 'stevedorelaw2.AdlerGoes': WHATEVER THE INPUT: true; the input reads as it did. -/
def adlerGoesSpec : ChangeSpec := { name := "adlerGoes", fn := fun _ => fun
  | [d1, d2, d3] => { results := [.lit (.bool true)], args := [d1, d2, d3] }
  | _ => none }
def adlerGoesRow : OpenClaim := { program := "ytfdhkbhiedcgpaa", sum := "37dd0d188b4d74238b4e5ef8b84b64622dc76d9d363129d6f647fcdc88422a69", func := "stevedore/stevedorelaw2.AdlerGoes", spec := "adlerGoes", apart := false }
def AdlerGoesSaid : Prop := adlerGoesRow.holds Try.pinned (OpenSpec.ofChange adlerGoesSpec)

/-- ITS FALSE NEIGHBOUR: 'it returns false'. Refute it at one input. -/
def adlerGoesWrong : ChangeSpec := { name := "adlerGoes", fn := fun _ => fun
  | [d1, d2, d3] => { results := [.lit (.bool false)], args := [d1, d2, d3] }
  | _ => none }
def AdlerGoesWrongFalsely : Prop := adlerGoesRow.holds Try.pinned (OpenSpec.ofChange adlerGoesWrong)

/-- 'stevedorelaw2.AdlerOne': WHATEVER THE INPUT: true; the input reads as it did. -/
def adlerOneSpec : ChangeSpec := { name := "adlerOne", fn := fun _ => fun
  | [d1, d2, d3] => { results := [.lit (.bool true)], args := [d1, d2, d3] }
  | _ => none }
def adlerOneRow : OpenClaim := { program := "ytfdhkbhiedcgpaa", sum := "37dd0d188b4d74238b4e5ef8b84b64622dc76d9d363129d6f647fcdc88422a69", func := "stevedore/stevedorelaw2.AdlerOne", spec := "adlerOne", apart := false }
def AdlerOneSaid : Prop := adlerOneRow.holds Try.pinned (OpenSpec.ofChange adlerOneSpec)

/-- ITS FALSE NEIGHBOUR: 'it returns false'. Refute it at one input. -/
def adlerOneWrong : ChangeSpec := { name := "adlerOne", fn := fun _ => fun
  | [d1, d2, d3] => { results := [.lit (.bool false)], args := [d1, d2, d3] }
  | _ => none }
def AdlerOneWrongFalsely : Prop := adlerOneRow.holds Try.pinned (OpenSpec.ofChange adlerOneWrong)

/-- 'stevedorelaw2.AdlerCombines': WHATEVER THE INPUT: true; the input reads as it did. -/
def adlerCombinesSpec : ChangeSpec := { name := "adlerCombines", fn := fun _ => fun
  | [d1, d2, d3] => { results := [.lit (.bool true)], args := [d1, d2, d3] }
  | _ => none }
def adlerCombinesRow : OpenClaim := { program := "ytfdhkbhiedcgpaa", sum := "37dd0d188b4d74238b4e5ef8b84b64622dc76d9d363129d6f647fcdc88422a69", func := "stevedore/stevedorelaw2.AdlerCombines", spec := "adlerCombines", apart := false }
def AdlerCombinesSaid : Prop := adlerCombinesRow.holds Try.pinned (OpenSpec.ofChange adlerCombinesSpec)

/-- ITS FALSE NEIGHBOUR: 'it returns false'. Refute it at one input. -/
def adlerCombinesWrong : ChangeSpec := { name := "adlerCombines", fn := fun _ => fun
  | [d1, d2, d3] => { results := [.lit (.bool false)], args := [d1, d2, d3] }
  | _ => none }
def AdlerCombinesWrongFalsely : Prop := adlerCombinesRow.holds Try.pinned (OpenSpec.ofChange adlerCombinesWrong)

/- THE SECOND FORM. 'bulk': how many values and letters a reading holds, each counted each time it is reached (what is shared counts as often as it is met; a slice's spare places count too). A statement '..UptoSaid' is the law's where the arguments, and the package variables that the reading takes, are together of bulk at most 1048576: NARROWER than '..Said'. Prove '..Said' where nothing that the law and all that it calls make is longer than what came in: it says more and counts as full. Else prove '..UptoSaid'. A law counts once. -/
mutual
def uptoBulk {H : Type} : DataW H → Nat
  | .lit (.string bytes) => bytes.length + 1
  | .lit _ => 1
  | .nil => 1
  | .ptr d => uptoBulk d + 1
  | .slice elems spare => uptoBulkAll elems + uptoBulkAll spare + 1
  | .agg parts => uptoBulkAll parts + 1
  | .iface _ d => uptoBulk d + 1
  | .map entries => uptoBulkEntries entries + 1
  | .held _ => 1
def uptoBulkAll {H : Type} : List (DataW H) → Nat
  | [] => 0
  | d :: r => uptoBulk d + uptoBulkAll r
def uptoBulkEntries {H : Type} : List (Lit × DataW H) → Nat
  | [] => 0
  | x :: r => uptoBulkEntry x + uptoBulkEntries r
def uptoBulkEntry {H : Type} : Lit × DataW H → Nat
  | (.string bytes, d) => bytes.length + uptoBulk d + 1
  | (_, d) => uptoBulk d + 1
 end
def uptoSmall : (H : Type) → List (DataW H) → Bool := fun _ ds => decide (uptoBulkAll ds ≤ 1048576)
def OpenSpec.upto (s : _root_.Go.ChangeSpec) : _root_.Go.OpenSpec := { _root_.Go.OpenSpec.ofChange s with cond := some uptoSmall }

/-- 'stevedorelaw2.AdlerSums', WHERE WHAT IT READS IS OF BULK AT MOST 1048576: true; the input reads as it did. -/
def adlerSumsUptoRow : OpenClaim := { program := "ytfdhkbhiedcgpaa", sum := "37dd0d188b4d74238b4e5ef8b84b64622dc76d9d363129d6f647fcdc88422a69", func := "stevedore/stevedorelaw2.AdlerSums", spec := "adlerSums", apart := false, narrowed := true }
def AdlerSumsUptoSaid : Prop := adlerSumsUptoRow.holds Try.pinned (OpenSpec.upto adlerSumsSpec)

/-- 'stevedorelaw2.AdlerGoes', WHERE WHAT IT READS IS OF BULK AT MOST 1048576: true; the input reads as it did. -/
def adlerGoesUptoRow : OpenClaim := { program := "ytfdhkbhiedcgpaa", sum := "37dd0d188b4d74238b4e5ef8b84b64622dc76d9d363129d6f647fcdc88422a69", func := "stevedore/stevedorelaw2.AdlerGoes", spec := "adlerGoes", apart := false, narrowed := true }
def AdlerGoesUptoSaid : Prop := adlerGoesUptoRow.holds Try.pinned (OpenSpec.upto adlerGoesSpec)

/-- 'stevedorelaw2.AdlerOne', WHERE WHAT IT READS IS OF BULK AT MOST 1048576: true; the input reads as it did. -/
def adlerOneUptoRow : OpenClaim := { program := "ytfdhkbhiedcgpaa", sum := "37dd0d188b4d74238b4e5ef8b84b64622dc76d9d363129d6f647fcdc88422a69", func := "stevedore/stevedorelaw2.AdlerOne", spec := "adlerOne", apart := false, narrowed := true }
def AdlerOneUptoSaid : Prop := adlerOneUptoRow.holds Try.pinned (OpenSpec.upto adlerOneSpec)

/-- 'stevedorelaw2.AdlerCombines', WHERE WHAT IT READS IS OF BULK AT MOST 1048576: true; the input reads as it did. -/
def adlerCombinesUptoRow : OpenClaim := { program := "ytfdhkbhiedcgpaa", sum := "37dd0d188b4d74238b4e5ef8b84b64622dc76d9d363129d6f647fcdc88422a69", func := "stevedore/stevedorelaw2.AdlerCombines", spec := "adlerCombines", apart := false, narrowed := true }
def AdlerCombinesUptoSaid : Prop := adlerCombinesUptoRow.holds Try.pinned (OpenSpec.upto adlerCombinesSpec)

end Rows
end Go.Proofs.Ytfdhkbhiedcgpaa
