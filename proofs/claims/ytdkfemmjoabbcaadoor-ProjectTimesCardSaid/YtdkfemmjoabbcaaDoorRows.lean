/-
  NARROWER THAN 'FOR EVERY INPUT', by the rows' own cells (each row's printed sentence says how): ProjectTimes: laid · ProjectHolds: laid · ProjectChain: laid · ProjectAll: laid · ProjectTwice: laid.
  DERIVED. THE GIVEN ROWS OF THIS SEAT. 5 by the template 'for every input the law returns true; each argument reads behind the call as it read before'; 0 by the template 'total and deterministic' (their statements: YtdkfemmjoabbcaaDoorTotals.lean).
  GIVEN WITH THE SEED: the statements are not yours to turn. If you find one false, say at which input.
  Laid BY PROGRAM, IN A SANDBOX (cutbox-rows.mjs): the forced cells as the released guide's own fill.sh prints them over the translation 80421ba28846db31… (all of the seat's roots in one cut). By AI agents, Wed Nov 11 2026. No macro, syntax, notation, axiom, sorry.
-/
import Derived.Test.YtdkfemmjoabbcaaDoorChecked
import GoSem.PinnedTables
import GoSem.Claim
import GoSem.ClaimJoined
import GoSem.ClaimMapViews
import Derived.JoinedTies
import Derived.KernelRfl
namespace Go.Proofs.YtdkfemmjoabbcaaDoor
/- THE CELL 'sum', in the pinned program and in every row, IS THE sha256 OF THE DUMP (.gsa) THAT YtdkfemmjoabbcaaDoorProg.lean LOADS. Nothing in Lean hashes anything: it is a label: what it is worth is what the hold of that sum in a sandbox is worth. -/
noncomputable def Tryd.pinned : Pinned := { name := "ytdkfemmjoabbcaadoor", sum := "80421ba28846db31737a0490d69edba8facd1574fb8ebec720f5f322d89af1b0", checked := Tryd.checked }
namespace Rows
def none {H : Type} : Left H := { results := [], args := [] }

/- WHAT THE LISTED PACKAGE-LEVEL VARIABLES READ AS WHEN THE CALL BEGINS. Each datum BY PROGRAM (the guide's laid-datum.mjs) off the statement by which the dump's own 'gosem.cut.vars' lays the variable. In a bare row this is a premise. The card (YtdkfemmjoabbcaaDoorCards.lean) ties it to the program's text. -/
def laid_unicode_utf8_acceptRanges {H : Type} : DataW H := .agg [.agg [.lit (.int .u8 128), .lit (.int .u8 191)], .agg [.lit (.int .u8 160), .lit (.int .u8 191)], .agg [.lit (.int .u8 128), .lit (.int .u8 159)], .agg [.lit (.int .u8 144), .lit (.int .u8 191)], .agg [.lit (.int .u8 128), .lit (.int .u8 143)], .agg [.lit (.int .u8 0), .lit (.int .u8 0)], .agg [.lit (.int .u8 0), .lit (.int .u8 0)], .agg [.lit (.int .u8 0), .lit (.int .u8 0)], .agg [.lit (.int .u8 0), .lit (.int .u8 0)], .agg [.lit (.int .u8 0), .lit (.int .u8 0)], .agg [.lit (.int .u8 0), .lit (.int .u8 0)], .agg [.lit (.int .u8 0), .lit (.int .u8 0)], .agg [.lit (.int .u8 0), .lit (.int .u8 0)], .agg [.lit (.int .u8 0), .lit (.int .u8 0)], .agg [.lit (.int .u8 0), .lit (.int .u8 0)], .agg [.lit (.int .u8 0), .lit (.int .u8 0)]]
/-- One of Go's own tables, pinned by name: the form's constant. -/
def laid_unicode_utf8_first : DataW Unit := Go.Pinned.utf8First

/-- 'stevedorelaw21.ProjectTimes': WHATEVER THE INPUT: true; the input reads as it did. -/
def projectTimesSpec : ChangeSpec := { name := "projectTimes", fn := fun _ => fun
  | [d1, d2, d3] => { results := [.lit (.bool true)], args := [d1, d2, d3] }
  | _ => none }
def projectTimesRow : OpenClaim := { program := "ytdkfemmjoabbcaadoor", sum := "80421ba28846db31737a0490d69edba8facd1574fb8ebec720f5f322d89af1b0", func := "stevedore/stevedorelaw21.ProjectTimes", spec := "projectTimes", inPlace := ["math.archFloor", "math.Float64bits", "math.Float64frombits", "math.archTrunc", "internal/bytealg.IndexByteString", "internal/bytealg.CountString", "internal/bytealg.IndexString", "internal/abi.NoEscape", "internal/bytealg.MakeNoZero"], named := ["unicode/utf8.first", "unicode/utf8.acceptRanges", "internal/bytealg.MaxLen"], apart := false, laid := [("unicode/utf8.acceptRanges", laid_unicode_utf8_acceptRanges), ("unicode/utf8.first", laid_unicode_utf8_first)] }
def ProjectTimesSaid : Prop := projectTimesRow.holds Tryd.pinned (OpenSpec.ofChange projectTimesSpec)

/-- ITS FALSE NEIGHBOUR: 'it returns false'. Refute it at one input. -/
def projectTimesWrong : ChangeSpec := { name := "projectTimes", fn := fun _ => fun
  | [d1, d2, d3] => { results := [.lit (.bool false)], args := [d1, d2, d3] }
  | _ => none }
def ProjectTimesWrongFalsely : Prop := projectTimesRow.holds Tryd.pinned (OpenSpec.ofChange projectTimesWrong)

/-- 'stevedorelaw21.ProjectHolds': WHATEVER THE INPUT: true; the input reads as it did. -/
def projectHoldsSpec : ChangeSpec := { name := "projectHolds", fn := fun _ => fun
  | [d1, d2, d3] => { results := [.lit (.bool true)], args := [d1, d2, d3] }
  | _ => none }
def projectHoldsRow : OpenClaim := { program := "ytdkfemmjoabbcaadoor", sum := "80421ba28846db31737a0490d69edba8facd1574fb8ebec720f5f322d89af1b0", func := "stevedore/stevedorelaw21.ProjectHolds", spec := "projectHolds", inPlace := ["math.archFloor", "math.Float64bits", "math.Float64frombits", "math.archTrunc", "internal/bytealg.IndexByteString", "internal/bytealg.CountString", "internal/bytealg.IndexString", "internal/abi.NoEscape", "internal/bytealg.MakeNoZero"], named := ["unicode/utf8.first", "unicode/utf8.acceptRanges", "internal/bytealg.MaxLen"], apart := false, laid := [("unicode/utf8.acceptRanges", laid_unicode_utf8_acceptRanges), ("unicode/utf8.first", laid_unicode_utf8_first)] }
def ProjectHoldsSaid : Prop := projectHoldsRow.holds Tryd.pinned (OpenSpec.ofChange projectHoldsSpec)

/-- ITS FALSE NEIGHBOUR: 'it returns false'. Refute it at one input. -/
def projectHoldsWrong : ChangeSpec := { name := "projectHolds", fn := fun _ => fun
  | [d1, d2, d3] => { results := [.lit (.bool false)], args := [d1, d2, d3] }
  | _ => none }
def ProjectHoldsWrongFalsely : Prop := projectHoldsRow.holds Tryd.pinned (OpenSpec.ofChange projectHoldsWrong)

/-- 'stevedorelaw21.ProjectChain': WHATEVER THE INPUT: true; the input reads as it did. -/
def projectChainSpec : ChangeSpec := { name := "projectChain", fn := fun _ => fun
  | [d1, d2, d3] => { results := [.lit (.bool true)], args := [d1, d2, d3] }
  | _ => none }
def projectChainRow : OpenClaim := { program := "ytdkfemmjoabbcaadoor", sum := "80421ba28846db31737a0490d69edba8facd1574fb8ebec720f5f322d89af1b0", func := "stevedore/stevedorelaw21.ProjectChain", spec := "projectChain", inPlace := ["math.archFloor", "math.Float64bits", "math.Float64frombits", "math.archTrunc", "internal/bytealg.IndexByteString", "internal/bytealg.CountString", "internal/bytealg.IndexString", "internal/abi.NoEscape", "internal/bytealg.MakeNoZero"], named := ["unicode/utf8.first", "unicode/utf8.acceptRanges", "internal/bytealg.MaxLen"], apart := false, laid := [("unicode/utf8.acceptRanges", laid_unicode_utf8_acceptRanges), ("unicode/utf8.first", laid_unicode_utf8_first)] }
def ProjectChainSaid : Prop := projectChainRow.holds Tryd.pinned (OpenSpec.ofChange projectChainSpec)

/-- ITS FALSE NEIGHBOUR: 'it returns false'. Refute it at one input. -/
def projectChainWrong : ChangeSpec := { name := "projectChain", fn := fun _ => fun
  | [d1, d2, d3] => { results := [.lit (.bool false)], args := [d1, d2, d3] }
  | _ => none }
def ProjectChainWrongFalsely : Prop := projectChainRow.holds Tryd.pinned (OpenSpec.ofChange projectChainWrong)

/-- 'stevedorelaw21.ProjectAll': WHATEVER THE INPUT: true; the input reads as it did. -/
def projectAllSpec : ChangeSpec := { name := "projectAll", fn := fun _ => fun
  | [d1, d2, d3] => { results := [.lit (.bool true)], args := [d1, d2, d3] }
  | _ => none }
def projectAllRow : OpenClaim := { program := "ytdkfemmjoabbcaadoor", sum := "80421ba28846db31737a0490d69edba8facd1574fb8ebec720f5f322d89af1b0", func := "stevedore/stevedorelaw21.ProjectAll", spec := "projectAll", inPlace := ["math.archFloor", "math.Float64bits", "math.Float64frombits", "math.archTrunc", "internal/bytealg.IndexByteString", "internal/bytealg.CountString", "internal/bytealg.IndexString", "internal/abi.NoEscape", "internal/bytealg.MakeNoZero"], named := ["unicode/utf8.first", "unicode/utf8.acceptRanges", "internal/bytealg.MaxLen"], apart := false, laid := [("unicode/utf8.acceptRanges", laid_unicode_utf8_acceptRanges), ("unicode/utf8.first", laid_unicode_utf8_first)] }
def ProjectAllSaid : Prop := projectAllRow.holds Tryd.pinned (OpenSpec.ofChange projectAllSpec)

/-- ITS FALSE NEIGHBOUR: 'it returns false'. Refute it at one input. -/
def projectAllWrong : ChangeSpec := { name := "projectAll", fn := fun _ => fun
  | [d1, d2, d3] => { results := [.lit (.bool false)], args := [d1, d2, d3] }
  | _ => none }
def ProjectAllWrongFalsely : Prop := projectAllRow.holds Tryd.pinned (OpenSpec.ofChange projectAllWrong)

/-- 'stevedorelaw21.ProjectTwice': WHATEVER THE INPUT: true; the input reads as it did. -/
def projectTwiceSpec : ChangeSpec := { name := "projectTwice", fn := fun _ => fun
  | [d1, d2] => { results := [.lit (.bool true)], args := [d1, d2] }
  | _ => none }
def projectTwiceRow : OpenClaim := { program := "ytdkfemmjoabbcaadoor", sum := "80421ba28846db31737a0490d69edba8facd1574fb8ebec720f5f322d89af1b0", func := "stevedore/stevedorelaw21.ProjectTwice", spec := "projectTwice", inPlace := ["math.archFloor", "math.Float64bits", "math.Float64frombits", "math.archTrunc", "internal/bytealg.IndexByteString", "internal/bytealg.CountString", "internal/bytealg.IndexString", "internal/abi.NoEscape", "internal/bytealg.MakeNoZero"], named := ["unicode/utf8.first", "unicode/utf8.acceptRanges", "internal/bytealg.MaxLen"], apart := false, laid := [("unicode/utf8.acceptRanges", laid_unicode_utf8_acceptRanges), ("unicode/utf8.first", laid_unicode_utf8_first)] }
def ProjectTwiceSaid : Prop := projectTwiceRow.holds Tryd.pinned (OpenSpec.ofChange projectTwiceSpec)

/-- ITS FALSE NEIGHBOUR: 'it returns false'. Refute it at one input. -/
def projectTwiceWrong : ChangeSpec := { name := "projectTwice", fn := fun _ => fun
  | [d1, d2] => { results := [.lit (.bool false)], args := [d1, d2] }
  | _ => none }
def ProjectTwiceWrongFalsely : Prop := projectTwiceRow.holds Tryd.pinned (OpenSpec.ofChange projectTwiceWrong)

/- THE SECOND FORM. 'bulk': how many values and letters a reading holds, each counted each time it is reached (what is shared counts as often as it is met; a slice's spare places count too). A statement '..UptoSaid' is the law's where the arguments, and the package variables that the reading takes, are together of bulk at most 1048576: NARROWER than '..Said'. Prove '..Said' where nothing that the law and all that it calls make is longer than what came in: it says more and counts as full. Else prove '..UptoSaid'. A law counts once. -/
mutual
def uptoBulk {H : Type} : DataW H → Nat
  | .lit (.string bytes) => bytes.length + 1
  | .lit _ => 1
  | .nil => 1
  | .ptr d => uptoBulk d + 1
  | .slice elems spare => uptoBulkAll elems + uptoBulkAll spare + 1
  | .agg parts => uptoBulkAll parts + 1
  | .iface _ d => uptoBulk d + 1
  | .map entries => uptoBulkEntries entries + 1
  | .held _ => 1
def uptoBulkAll {H : Type} : List (DataW H) → Nat
  | [] => 0
  | d :: r => uptoBulk d + uptoBulkAll r
def uptoBulkEntries {H : Type} : List (Lit × DataW H) → Nat
  | [] => 0
  | x :: r => uptoBulkEntry x + uptoBulkEntries r
def uptoBulkEntry {H : Type} : Lit × DataW H → Nat
  | (.string bytes, d) => bytes.length + uptoBulk d + 1
  | (_, d) => uptoBulk d + 1
 end
def uptoSmall : (H : Type) → List (DataW H) → Bool := fun _ ds => decide (uptoBulkAll ds ≤ 1048576)
def OpenSpec.upto (s : _root_.Go.ChangeSpec) : _root_.Go.OpenSpec := { _root_.Go.OpenSpec.ofChange s with cond := some uptoSmall }

/-- 'stevedorelaw21.ProjectTimes', WHERE WHAT IT READS IS OF BULK AT MOST 1048576: true; the input reads as it did. -/
def projectTimesUptoRow : OpenClaim := { program := "ytdkfemmjoabbcaadoor", sum := "80421ba28846db31737a0490d69edba8facd1574fb8ebec720f5f322d89af1b0", func := "stevedore/stevedorelaw21.ProjectTimes", spec := "projectTimes", inPlace := ["math.archFloor", "math.Float64bits", "math.Float64frombits", "math.archTrunc", "internal/bytealg.IndexByteString", "internal/bytealg.CountString", "internal/bytealg.IndexString", "internal/abi.NoEscape", "internal/bytealg.MakeNoZero"], named := ["unicode/utf8.first", "unicode/utf8.acceptRanges", "internal/bytealg.MaxLen"], apart := false, laid := [("unicode/utf8.acceptRanges", laid_unicode_utf8_acceptRanges), ("unicode/utf8.first", laid_unicode_utf8_first)], narrowed := true }
def ProjectTimesUptoSaid : Prop := projectTimesUptoRow.holds Tryd.pinned (OpenSpec.upto projectTimesSpec)

/-- 'stevedorelaw21.ProjectHolds', WHERE WHAT IT READS IS OF BULK AT MOST 1048576: true; the input reads as it did. -/
def projectHoldsUptoRow : OpenClaim := { program := "ytdkfemmjoabbcaadoor", sum := "80421ba28846db31737a0490d69edba8facd1574fb8ebec720f5f322d89af1b0", func := "stevedore/stevedorelaw21.ProjectHolds", spec := "projectHolds", inPlace := ["math.archFloor", "math.Float64bits", "math.Float64frombits", "math.archTrunc", "internal/bytealg.IndexByteString", "internal/bytealg.CountString", "internal/bytealg.IndexString", "internal/abi.NoEscape", "internal/bytealg.MakeNoZero"], named := ["unicode/utf8.first", "unicode/utf8.acceptRanges", "internal/bytealg.MaxLen"], apart := false, laid := [("unicode/utf8.acceptRanges", laid_unicode_utf8_acceptRanges), ("unicode/utf8.first", laid_unicode_utf8_first)], narrowed := true }
def ProjectHoldsUptoSaid : Prop := projectHoldsUptoRow.holds Tryd.pinned (OpenSpec.upto projectHoldsSpec)

/-- 'stevedorelaw21.ProjectChain', WHERE WHAT IT READS IS OF BULK AT MOST 1048576: true; the input reads as it did. -/
def projectChainUptoRow : OpenClaim := { program := "ytdkfemmjoabbcaadoor", sum := "80421ba28846db31737a0490d69edba8facd1574fb8ebec720f5f322d89af1b0", func := "stevedore/stevedorelaw21.ProjectChain", spec := "projectChain", inPlace := ["math.archFloor", "math.Float64bits", "math.Float64frombits", "math.archTrunc", "internal/bytealg.IndexByteString", "internal/bytealg.CountString", "internal/bytealg.IndexString", "internal/abi.NoEscape", "internal/bytealg.MakeNoZero"], named := ["unicode/utf8.first", "unicode/utf8.acceptRanges", "internal/bytealg.MaxLen"], apart := false, laid := [("unicode/utf8.acceptRanges", laid_unicode_utf8_acceptRanges), ("unicode/utf8.first", laid_unicode_utf8_first)], narrowed := true }
def ProjectChainUptoSaid : Prop := projectChainUptoRow.holds Tryd.pinned (OpenSpec.upto projectChainSpec)

/-- 'stevedorelaw21.ProjectAll', WHERE WHAT IT READS IS OF BULK AT MOST 1048576: true; the input reads as it did. -/
def projectAllUptoRow : OpenClaim := { program := "ytdkfemmjoabbcaadoor", sum := "80421ba28846db31737a0490d69edba8facd1574fb8ebec720f5f322d89af1b0", func := "stevedore/stevedorelaw21.ProjectAll", spec := "projectAll", inPlace := ["math.archFloor", "math.Float64bits", "math.Float64frombits", "math.archTrunc", "internal/bytealg.IndexByteString", "internal/bytealg.CountString", "internal/bytealg.IndexString", "internal/abi.NoEscape", "internal/bytealg.MakeNoZero"], named := ["unicode/utf8.first", "unicode/utf8.acceptRanges", "internal/bytealg.MaxLen"], apart := false, laid := [("unicode/utf8.acceptRanges", laid_unicode_utf8_acceptRanges), ("unicode/utf8.first", laid_unicode_utf8_first)], narrowed := true }
def ProjectAllUptoSaid : Prop := projectAllUptoRow.holds Tryd.pinned (OpenSpec.upto projectAllSpec)

/-- 'stevedorelaw21.ProjectTwice', WHERE WHAT IT READS IS OF BULK AT MOST 1048576: true; the input reads as it did. -/
def projectTwiceUptoRow : OpenClaim := { program := "ytdkfemmjoabbcaadoor", sum := "80421ba28846db31737a0490d69edba8facd1574fb8ebec720f5f322d89af1b0", func := "stevedore/stevedorelaw21.ProjectTwice", spec := "projectTwice", inPlace := ["math.archFloor", "math.Float64bits", "math.Float64frombits", "math.archTrunc", "internal/bytealg.IndexByteString", "internal/bytealg.CountString", "internal/bytealg.IndexString", "internal/abi.NoEscape", "internal/bytealg.MakeNoZero"], named := ["unicode/utf8.first", "unicode/utf8.acceptRanges", "internal/bytealg.MaxLen"], apart := false, laid := [("unicode/utf8.acceptRanges", laid_unicode_utf8_acceptRanges), ("unicode/utf8.first", laid_unicode_utf8_first)], narrowed := true }
def ProjectTwiceUptoSaid : Prop := projectTwiceUptoRow.holds Tryd.pinned (OpenSpec.upto projectTwiceSpec)

end Rows
end Go.Proofs.YtdkfemmjoabbcaaDoor
