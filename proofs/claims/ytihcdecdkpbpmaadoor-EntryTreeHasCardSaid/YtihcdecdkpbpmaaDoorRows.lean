/-
  NARROWER THAN 'FOR EVERY INPUT', by the rows' own cells (each row's printed sentence says how): EntryTreeHas: laid · EntryEdges: laid · EntryHards: laid · EntryTrees: laid · EntryMays: laid.
  DERIVED. THE GIVEN ROWS OF THIS SEAT. 5 by the template 'for every input the law returns true; each argument reads behind the call as it read before'; 0 by the template 'total and deterministic' (their statements: YtihcdecdkpbpmaaDoorTotals.lean).
  GIVEN WITH THE SEED: the statements are not yours to turn. If you find one false, say at which input.
  Laid BY PROGRAM, IN A SANDBOX (cutbox-rows.mjs): the forced cells as the released guide's own fill.sh prints them over the translation e0b86da10ed8b82f… (all of the seat's roots in one cut). By AI agents, Wed Nov 11 2026. No macro, syntax, notation, axiom, sorry.
-/
import Derived.Test.YtihcdecdkpbpmaaDoorChecked
import GoSem.PinnedTables
import GoSem.Claim
import GoSem.ClaimJoined
import GoSem.ClaimMapViews
import Derived.JoinedTies
import Derived.KernelRfl
namespace Go.Proofs.YtihcdecdkpbpmaaDoor
/- THE CELL 'sum', in the pinned program and in every row, IS THE sha256 OF THE DUMP (.gsa) THAT YtihcdecdkpbpmaaDoorProg.lean LOADS. Nothing in Lean hashes anything: it is a label: what it is worth is what the hold of that sum in a sandbox is worth. -/
noncomputable def Tryd.pinned : Pinned := { name := "ytihcdecdkpbpmaadoor", sum := "e0b86da10ed8b82f2f025c32f32a08dd1f5a306efc5e6d2da16b767cab5c2fcf", checked := Tryd.checked }
namespace Rows
def none {H : Type} : Left H := { results := [], args := [] }

/- WHAT THE LISTED PACKAGE-LEVEL VARIABLES READ AS WHEN THE CALL BEGINS. Each datum BY PROGRAM (the guide's laid-datum.mjs) off the statement by which the dump's own 'gosem.cut.vars' lays the variable. In a bare row this is a premise. The card (YtihcdecdkpbpmaaDoorCards.lean) ties it to the program's text. -/
def laid_unicode_utf8_acceptRanges {H : Type} : DataW H := .agg [.agg [.lit (.int .u8 128), .lit (.int .u8 191)], .agg [.lit (.int .u8 160), .lit (.int .u8 191)], .agg [.lit (.int .u8 128), .lit (.int .u8 159)], .agg [.lit (.int .u8 144), .lit (.int .u8 191)], .agg [.lit (.int .u8 128), .lit (.int .u8 143)], .agg [.lit (.int .u8 0), .lit (.int .u8 0)], .agg [.lit (.int .u8 0), .lit (.int .u8 0)], .agg [.lit (.int .u8 0), .lit (.int .u8 0)], .agg [.lit (.int .u8 0), .lit (.int .u8 0)], .agg [.lit (.int .u8 0), .lit (.int .u8 0)], .agg [.lit (.int .u8 0), .lit (.int .u8 0)], .agg [.lit (.int .u8 0), .lit (.int .u8 0)], .agg [.lit (.int .u8 0), .lit (.int .u8 0)], .agg [.lit (.int .u8 0), .lit (.int .u8 0)], .agg [.lit (.int .u8 0), .lit (.int .u8 0)], .agg [.lit (.int .u8 0), .lit (.int .u8 0)]]
/-- One of Go's own tables, pinned by name: the form's constant. -/
def laid_unicode_utf8_first : DataW Unit := Go.Pinned.utf8First

/-- 'stevedorelaw20.EntryTreeHas': WHATEVER THE INPUT: true; the input reads as it did. -/
def entryTreeHasSpec : ChangeSpec := { name := "entryTreeHas", fn := fun _ => fun
  | [d] => { results := [.lit (.bool true)], args := [d] }
  | _ => none }
def entryTreeHasRow : OpenClaim := { program := "ytihcdecdkpbpmaadoor", sum := "e0b86da10ed8b82f2f025c32f32a08dd1f5a306efc5e6d2da16b767cab5c2fcf", func := "stevedore/stevedorelaw20.EntryTreeHas", spec := "entryTreeHas", inPlace := ["internal/bytealg.IndexByteString", "internal/bytealg.CountString", "internal/bytealg.IndexString", "internal/abi.NoEscape", "internal/bytealg.MakeNoZero", "internal/bytealg.abigen_runtime_cmpstring"], unfollowed := true, recurses := true, named := ["unicode/utf8.first", "unicode/utf8.acceptRanges", "internal/bytealg.MaxLen"], apart := false, laid := [("unicode/utf8.acceptRanges", laid_unicode_utf8_acceptRanges), ("unicode/utf8.first", laid_unicode_utf8_first)] }
def EntryTreeHasSaid : Prop := entryTreeHasRow.holds Tryd.pinned (OpenSpec.ofChange entryTreeHasSpec)

/-- ITS FALSE NEIGHBOUR: 'it returns false'. Refute it at one input. -/
def entryTreeHasWrong : ChangeSpec := { name := "entryTreeHas", fn := fun _ => fun
  | [d] => { results := [.lit (.bool false)], args := [d] }
  | _ => none }
def EntryTreeHasWrongFalsely : Prop := entryTreeHasRow.holds Tryd.pinned (OpenSpec.ofChange entryTreeHasWrong)

/-- 'stevedorelaw20.EntryEdges': WHATEVER THE INPUT: true; the input reads as it did. -/
def entryEdgesSpec : ChangeSpec := { name := "entryEdges", fn := fun _ => fun
  | [d1, d2, d3] => { results := [.lit (.bool true)], args := [d1, d2, d3] }
  | _ => none }
def entryEdgesRow : OpenClaim := { program := "ytihcdecdkpbpmaadoor", sum := "e0b86da10ed8b82f2f025c32f32a08dd1f5a306efc5e6d2da16b767cab5c2fcf", func := "stevedore/stevedorelaw20.EntryEdges", spec := "entryEdges", inPlace := ["internal/bytealg.IndexByteString", "internal/bytealg.CountString", "internal/bytealg.IndexString", "internal/abi.NoEscape", "internal/bytealg.MakeNoZero", "internal/bytealg.abigen_runtime_cmpstring"], unfollowed := true, recurses := true, named := ["unicode/utf8.first", "unicode/utf8.acceptRanges", "internal/bytealg.MaxLen"], apart := false, laid := [("unicode/utf8.acceptRanges", laid_unicode_utf8_acceptRanges), ("unicode/utf8.first", laid_unicode_utf8_first)] }
def EntryEdgesSaid : Prop := entryEdgesRow.holds Tryd.pinned (OpenSpec.ofChange entryEdgesSpec)

/-- ITS FALSE NEIGHBOUR: 'it returns false'. Refute it at one input. -/
def entryEdgesWrong : ChangeSpec := { name := "entryEdges", fn := fun _ => fun
  | [d1, d2, d3] => { results := [.lit (.bool false)], args := [d1, d2, d3] }
  | _ => none }
def EntryEdgesWrongFalsely : Prop := entryEdgesRow.holds Tryd.pinned (OpenSpec.ofChange entryEdgesWrong)

/-- 'stevedorelaw20.EntryHards': WHATEVER THE INPUT: true; the input reads as it did. -/
def entryHardsSpec : ChangeSpec := { name := "entryHards", fn := fun _ => fun
  | [d] => { results := [.lit (.bool true)], args := [d] }
  | _ => none }
def entryHardsRow : OpenClaim := { program := "ytihcdecdkpbpmaadoor", sum := "e0b86da10ed8b82f2f025c32f32a08dd1f5a306efc5e6d2da16b767cab5c2fcf", func := "stevedore/stevedorelaw20.EntryHards", spec := "entryHards", inPlace := ["internal/bytealg.IndexByteString", "internal/bytealg.CountString", "internal/bytealg.IndexString", "internal/abi.NoEscape", "internal/bytealg.MakeNoZero", "internal/bytealg.abigen_runtime_cmpstring"], unfollowed := true, recurses := true, named := ["unicode/utf8.first", "unicode/utf8.acceptRanges", "internal/bytealg.MaxLen"], apart := false, laid := [("unicode/utf8.acceptRanges", laid_unicode_utf8_acceptRanges), ("unicode/utf8.first", laid_unicode_utf8_first)] }
def EntryHardsSaid : Prop := entryHardsRow.holds Tryd.pinned (OpenSpec.ofChange entryHardsSpec)

/-- ITS FALSE NEIGHBOUR: 'it returns false'. Refute it at one input. -/
def entryHardsWrong : ChangeSpec := { name := "entryHards", fn := fun _ => fun
  | [d] => { results := [.lit (.bool false)], args := [d] }
  | _ => none }
def EntryHardsWrongFalsely : Prop := entryHardsRow.holds Tryd.pinned (OpenSpec.ofChange entryHardsWrong)

/-- 'stevedorelaw20.EntryTrees': WHATEVER THE INPUT: true; the input reads as it did. -/
def entryTreesSpec : ChangeSpec := { name := "entryTrees", fn := fun _ => fun
  | [d1, d2] => { results := [.lit (.bool true)], args := [d1, d2] }
  | _ => none }
def entryTreesRow : OpenClaim := { program := "ytihcdecdkpbpmaadoor", sum := "e0b86da10ed8b82f2f025c32f32a08dd1f5a306efc5e6d2da16b767cab5c2fcf", func := "stevedore/stevedorelaw20.EntryTrees", spec := "entryTrees", inPlace := ["internal/bytealg.IndexByteString", "internal/bytealg.CountString", "internal/bytealg.IndexString", "internal/abi.NoEscape", "internal/bytealg.MakeNoZero", "internal/bytealg.abigen_runtime_cmpstring"], unfollowed := true, recurses := true, named := ["unicode/utf8.first", "unicode/utf8.acceptRanges", "internal/bytealg.MaxLen"], apart := false, laid := [("unicode/utf8.acceptRanges", laid_unicode_utf8_acceptRanges), ("unicode/utf8.first", laid_unicode_utf8_first)] }
def EntryTreesSaid : Prop := entryTreesRow.holds Tryd.pinned (OpenSpec.ofChange entryTreesSpec)

/-- ITS FALSE NEIGHBOUR: 'it returns false'. Refute it at one input. -/
def entryTreesWrong : ChangeSpec := { name := "entryTrees", fn := fun _ => fun
  | [d1, d2] => { results := [.lit (.bool false)], args := [d1, d2] }
  | _ => none }
def EntryTreesWrongFalsely : Prop := entryTreesRow.holds Tryd.pinned (OpenSpec.ofChange entryTreesWrong)

/-- 'stevedorelaw20.EntryMays': WHATEVER THE INPUT: true; the input reads as it did. -/
def entryMaysSpec : ChangeSpec := { name := "entryMays", fn := fun _ => fun
  | [d1, d2, d3] => { results := [.lit (.bool true)], args := [d1, d2, d3] }
  | _ => none }
def entryMaysRow : OpenClaim := { program := "ytihcdecdkpbpmaadoor", sum := "e0b86da10ed8b82f2f025c32f32a08dd1f5a306efc5e6d2da16b767cab5c2fcf", func := "stevedore/stevedorelaw20.EntryMays", spec := "entryMays", inPlace := ["internal/bytealg.IndexByteString", "internal/bytealg.CountString", "internal/bytealg.IndexString", "internal/abi.NoEscape", "internal/bytealg.MakeNoZero", "internal/bytealg.abigen_runtime_cmpstring"], unfollowed := true, recurses := true, named := ["unicode/utf8.first", "unicode/utf8.acceptRanges", "internal/bytealg.MaxLen"], apart := false, laid := [("unicode/utf8.acceptRanges", laid_unicode_utf8_acceptRanges), ("unicode/utf8.first", laid_unicode_utf8_first)] }
def EntryMaysSaid : Prop := entryMaysRow.holds Tryd.pinned (OpenSpec.ofChange entryMaysSpec)

/-- ITS FALSE NEIGHBOUR: 'it returns false'. Refute it at one input. -/
def entryMaysWrong : ChangeSpec := { name := "entryMays", fn := fun _ => fun
  | [d1, d2, d3] => { results := [.lit (.bool false)], args := [d1, d2, d3] }
  | _ => none }
def EntryMaysWrongFalsely : Prop := entryMaysRow.holds Tryd.pinned (OpenSpec.ofChange entryMaysWrong)

/- THE SECOND FORM. 'bulk': how many values and letters a reading holds, each counted each time it is reached (what is shared counts as often as it is met; a slice's spare places count too). A statement '..UptoSaid' is the law's where the arguments, and the package variables that the reading takes, are together of bulk at most 1048576: NARROWER than '..Said'. Prove '..Said' where nothing that the law and all that it calls make is longer than what came in: it says more and counts as full. Else prove '..UptoSaid'. A law counts once. -/
mutual
def uptoBulk {H : Type} : DataW H → Nat
  | .lit (.string bytes) => bytes.length + 1
  | .lit _ => 1
  | .nil => 1
  | .ptr d => uptoBulk d + 1
  | .slice elems spare => uptoBulkAll elems + uptoBulkAll spare + 1
  | .agg parts => uptoBulkAll parts + 1
  | .iface _ d => uptoBulk d + 1
  | .map entries => uptoBulkEntries entries + 1
  | .held _ => 1
def uptoBulkAll {H : Type} : List (DataW H) → Nat
  | [] => 0
  | d :: r => uptoBulk d + uptoBulkAll r
def uptoBulkEntries {H : Type} : List (Lit × DataW H) → Nat
  | [] => 0
  | x :: r => uptoBulkEntry x + uptoBulkEntries r
def uptoBulkEntry {H : Type} : Lit × DataW H → Nat
  | (.string bytes, d) => bytes.length + uptoBulk d + 1
  | (_, d) => uptoBulk d + 1
 end
def uptoSmall : (H : Type) → List (DataW H) → Bool := fun _ ds => decide (uptoBulkAll ds ≤ 1048576)
def OpenSpec.upto (s : _root_.Go.ChangeSpec) : _root_.Go.OpenSpec := { _root_.Go.OpenSpec.ofChange s with cond := some uptoSmall }

/-- 'stevedorelaw20.EntryTreeHas', WHERE WHAT IT READS IS OF BULK AT MOST 1048576: true; the input reads as it did. -/
def entryTreeHasUptoRow : OpenClaim := { program := "ytihcdecdkpbpmaadoor", sum := "e0b86da10ed8b82f2f025c32f32a08dd1f5a306efc5e6d2da16b767cab5c2fcf", func := "stevedore/stevedorelaw20.EntryTreeHas", spec := "entryTreeHas", inPlace := ["internal/bytealg.IndexByteString", "internal/bytealg.CountString", "internal/bytealg.IndexString", "internal/abi.NoEscape", "internal/bytealg.MakeNoZero", "internal/bytealg.abigen_runtime_cmpstring"], unfollowed := true, recurses := true, named := ["unicode/utf8.first", "unicode/utf8.acceptRanges", "internal/bytealg.MaxLen"], apart := false, laid := [("unicode/utf8.acceptRanges", laid_unicode_utf8_acceptRanges), ("unicode/utf8.first", laid_unicode_utf8_first)], narrowed := true }
def EntryTreeHasUptoSaid : Prop := entryTreeHasUptoRow.holds Tryd.pinned (OpenSpec.upto entryTreeHasSpec)

/-- 'stevedorelaw20.EntryEdges', WHERE WHAT IT READS IS OF BULK AT MOST 1048576: true; the input reads as it did. -/
def entryEdgesUptoRow : OpenClaim := { program := "ytihcdecdkpbpmaadoor", sum := "e0b86da10ed8b82f2f025c32f32a08dd1f5a306efc5e6d2da16b767cab5c2fcf", func := "stevedore/stevedorelaw20.EntryEdges", spec := "entryEdges", inPlace := ["internal/bytealg.IndexByteString", "internal/bytealg.CountString", "internal/bytealg.IndexString", "internal/abi.NoEscape", "internal/bytealg.MakeNoZero", "internal/bytealg.abigen_runtime_cmpstring"], unfollowed := true, recurses := true, named := ["unicode/utf8.first", "unicode/utf8.acceptRanges", "internal/bytealg.MaxLen"], apart := false, laid := [("unicode/utf8.acceptRanges", laid_unicode_utf8_acceptRanges), ("unicode/utf8.first", laid_unicode_utf8_first)], narrowed := true }
def EntryEdgesUptoSaid : Prop := entryEdgesUptoRow.holds Tryd.pinned (OpenSpec.upto entryEdgesSpec)

/-- 'stevedorelaw20.EntryHards', WHERE WHAT IT READS IS OF BULK AT MOST 1048576: true; the input reads as it did. -/
def entryHardsUptoRow : OpenClaim := { program := "ytihcdecdkpbpmaadoor", sum := "e0b86da10ed8b82f2f025c32f32a08dd1f5a306efc5e6d2da16b767cab5c2fcf", func := "stevedore/stevedorelaw20.EntryHards", spec := "entryHards", inPlace := ["internal/bytealg.IndexByteString", "internal/bytealg.CountString", "internal/bytealg.IndexString", "internal/abi.NoEscape", "internal/bytealg.MakeNoZero", "internal/bytealg.abigen_runtime_cmpstring"], unfollowed := true, recurses := true, named := ["unicode/utf8.first", "unicode/utf8.acceptRanges", "internal/bytealg.MaxLen"], apart := false, laid := [("unicode/utf8.acceptRanges", laid_unicode_utf8_acceptRanges), ("unicode/utf8.first", laid_unicode_utf8_first)], narrowed := true }
def EntryHardsUptoSaid : Prop := entryHardsUptoRow.holds Tryd.pinned (OpenSpec.upto entryHardsSpec)

/-- 'stevedorelaw20.EntryTrees', WHERE WHAT IT READS IS OF BULK AT MOST 1048576: true; the input reads as it did. -/
def entryTreesUptoRow : OpenClaim := { program := "ytihcdecdkpbpmaadoor", sum := "e0b86da10ed8b82f2f025c32f32a08dd1f5a306efc5e6d2da16b767cab5c2fcf", func := "stevedore/stevedorelaw20.EntryTrees", spec := "entryTrees", inPlace := ["internal/bytealg.IndexByteString", "internal/bytealg.CountString", "internal/bytealg.IndexString", "internal/abi.NoEscape", "internal/bytealg.MakeNoZero", "internal/bytealg.abigen_runtime_cmpstring"], unfollowed := true, recurses := true, named := ["unicode/utf8.first", "unicode/utf8.acceptRanges", "internal/bytealg.MaxLen"], apart := false, laid := [("unicode/utf8.acceptRanges", laid_unicode_utf8_acceptRanges), ("unicode/utf8.first", laid_unicode_utf8_first)], narrowed := true }
def EntryTreesUptoSaid : Prop := entryTreesUptoRow.holds Tryd.pinned (OpenSpec.upto entryTreesSpec)

/-- 'stevedorelaw20.EntryMays', WHERE WHAT IT READS IS OF BULK AT MOST 1048576: true; the input reads as it did. -/
def entryMaysUptoRow : OpenClaim := { program := "ytihcdecdkpbpmaadoor", sum := "e0b86da10ed8b82f2f025c32f32a08dd1f5a306efc5e6d2da16b767cab5c2fcf", func := "stevedore/stevedorelaw20.EntryMays", spec := "entryMays", inPlace := ["internal/bytealg.IndexByteString", "internal/bytealg.CountString", "internal/bytealg.IndexString", "internal/abi.NoEscape", "internal/bytealg.MakeNoZero", "internal/bytealg.abigen_runtime_cmpstring"], unfollowed := true, recurses := true, named := ["unicode/utf8.first", "unicode/utf8.acceptRanges", "internal/bytealg.MaxLen"], apart := false, laid := [("unicode/utf8.acceptRanges", laid_unicode_utf8_acceptRanges), ("unicode/utf8.first", laid_unicode_utf8_first)], narrowed := true }
def EntryMaysUptoSaid : Prop := entryMaysUptoRow.holds Tryd.pinned (OpenSpec.upto entryMaysSpec)

end Rows
end Go.Proofs.YtihcdecdkpbpmaaDoor
