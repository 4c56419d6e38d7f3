/-
  NARROWER THAN 'FOR EVERY INPUT', by the rows' own cells (each row's printed sentence says how): UstarReads: laid · UstarBack: laid · UstarFields: laid · UstarPuts: laid · UstarParts: laid.
  DERIVED. THE GIVEN ROWS OF THIS SEAT. 5 by the template 'for every input the law returns true; each argument reads behind the call as it read before'; 0 by the template 'total and deterministic' (their statements: YtggjdfnkmhlliaaDoorTotals.lean).
  GIVEN WITH THE SEED: the statements are not yours to turn. If you find one false, say at which input.
  Laid BY PROGRAM, IN A SANDBOX (cutbox-rows.mjs): the forced cells as the released guide's own fill.sh prints them over the translation 4df0ce571a3260cd… (all of the seat's roots in one cut). By AI agents, Wed Nov 11 2026. No macro, syntax, notation, axiom, sorry.
-/
import Derived.Test.YtggjdfnkmhlliaaDoorChecked
import GoSem.PinnedTables
import GoSem.Claim
import GoSem.ClaimJoined
import GoSem.ClaimMapViews
import Derived.JoinedTies
import Derived.KernelRfl
namespace Go.Proofs.YtggjdfnkmhlliaaDoor
/- THE CELL 'sum', in the pinned program and in every row, IS THE sha256 OF THE DUMP (.gsa) THAT YtggjdfnkmhlliaaDoorProg.lean LOADS. Nothing in Lean hashes anything: it is a label: what it is worth is what the hold of that sum in a sandbox is worth. -/
noncomputable def Tryd.pinned : Pinned := { name := "ytggjdfnkmhlliaadoor", sum := "4df0ce571a3260cd3ae7a53523ae7f14e84b65a73cb9dff6368bdc2b9db746c1", checked := Tryd.checked }
namespace Rows
def none {H : Type} : Left H := { results := [], args := [] }

/- WHAT THE LISTED PACKAGE-LEVEL VARIABLES READ AS WHEN THE CALL BEGINS. Each datum BY PROGRAM (the guide's laid-datum.mjs) off the statement by which the dump's own 'gosem.cut.vars' lays the variable. In a bare row this is a premise. The card (YtggjdfnkmhlliaaDoorCards.lean) ties it to the program's text. -/
def laid_unicode_utf8_acceptRanges {H : Type} : DataW H := .agg [.agg [.lit (.int .u8 128), .lit (.int .u8 191)], .agg [.lit (.int .u8 160), .lit (.int .u8 191)], .agg [.lit (.int .u8 128), .lit (.int .u8 159)], .agg [.lit (.int .u8 144), .lit (.int .u8 191)], .agg [.lit (.int .u8 128), .lit (.int .u8 143)], .agg [.lit (.int .u8 0), .lit (.int .u8 0)], .agg [.lit (.int .u8 0), .lit (.int .u8 0)], .agg [.lit (.int .u8 0), .lit (.int .u8 0)], .agg [.lit (.int .u8 0), .lit (.int .u8 0)], .agg [.lit (.int .u8 0), .lit (.int .u8 0)], .agg [.lit (.int .u8 0), .lit (.int .u8 0)], .agg [.lit (.int .u8 0), .lit (.int .u8 0)], .agg [.lit (.int .u8 0), .lit (.int .u8 0)], .agg [.lit (.int .u8 0), .lit (.int .u8 0)], .agg [.lit (.int .u8 0), .lit (.int .u8 0)], .agg [.lit (.int .u8 0), .lit (.int .u8 0)]]
/-- One of Go's own tables, pinned by name: the form's constant. -/
def laid_unicode_utf8_first : DataW Unit := Go.Pinned.utf8First

/-- 'stevedorelaw23.UstarReads': WHATEVER THE INPUT: true; the input reads as it did. -/
def ustarReadsSpec : ChangeSpec := { name := "ustarReads", fn := fun _ => fun
  | [d1, d2, d3, d4, d5] => { results := [.lit (.bool true)], args := [d1, d2, d3, d4, d5] }
  | _ => none }
def ustarReadsRow : OpenClaim := { program := "ytggjdfnkmhlliaadoor", sum := "4df0ce571a3260cd3ae7a53523ae7f14e84b65a73cb9dff6368bdc2b9db746c1", func := "stevedore/stevedorelaw23.UstarReads", spec := "ustarReads", inPlace := ["internal/bytealg.IndexByteString", "internal/bytealg.IndexString"], unfollowed := true, recurses := true, named := ["internal/bytealg.MaxLen", "unicode/utf8.first", "unicode/utf8.acceptRanges"], apart := false, laid := [("unicode/utf8.acceptRanges", laid_unicode_utf8_acceptRanges), ("unicode/utf8.first", laid_unicode_utf8_first)] }
def UstarReadsSaid : Prop := ustarReadsRow.holds Tryd.pinned (OpenSpec.ofChange ustarReadsSpec)

/-- ITS FALSE NEIGHBOUR: 'it returns false'. Refute it at one input. -/
def ustarReadsWrong : ChangeSpec := { name := "ustarReads", fn := fun _ => fun
  | [d1, d2, d3, d4, d5] => { results := [.lit (.bool false)], args := [d1, d2, d3, d4, d5] }
  | _ => none }
def UstarReadsWrongFalsely : Prop := ustarReadsRow.holds Tryd.pinned (OpenSpec.ofChange ustarReadsWrong)

/-- 'stevedorelaw23.UstarBack': WHATEVER THE INPUT: true; the input reads as it did. -/
def ustarBackSpec : ChangeSpec := { name := "ustarBack", fn := fun _ => fun
  | [d1, d2, d3] => { results := [.lit (.bool true)], args := [d1, d2, d3] }
  | _ => none }
def ustarBackRow : OpenClaim := { program := "ytggjdfnkmhlliaadoor", sum := "4df0ce571a3260cd3ae7a53523ae7f14e84b65a73cb9dff6368bdc2b9db746c1", func := "stevedore/stevedorelaw23.UstarBack", spec := "ustarBack", inPlace := ["internal/bytealg.IndexByteString", "internal/bytealg.IndexString"], unfollowed := true, recurses := true, named := ["internal/bytealg.MaxLen", "unicode/utf8.first", "unicode/utf8.acceptRanges"], apart := false, laid := [("unicode/utf8.acceptRanges", laid_unicode_utf8_acceptRanges), ("unicode/utf8.first", laid_unicode_utf8_first)] }
def UstarBackSaid : Prop := ustarBackRow.holds Tryd.pinned (OpenSpec.ofChange ustarBackSpec)

/-- ITS FALSE NEIGHBOUR: 'it returns false'. Refute it at one input. -/
def ustarBackWrong : ChangeSpec := { name := "ustarBack", fn := fun _ => fun
  | [d1, d2, d3] => { results := [.lit (.bool false)], args := [d1, d2, d3] }
  | _ => none }
def UstarBackWrongFalsely : Prop := ustarBackRow.holds Tryd.pinned (OpenSpec.ofChange ustarBackWrong)

/-- 'stevedorelaw23.UstarFields': WHATEVER THE INPUT: true; the input reads as it did. -/
def ustarFieldsSpec : ChangeSpec := { name := "ustarFields", fn := fun _ => fun
  | [d1, d2, d3, d4] => { results := [.lit (.bool true)], args := [d1, d2, d3, d4] }
  | _ => none }
def ustarFieldsRow : OpenClaim := { program := "ytggjdfnkmhlliaadoor", sum := "4df0ce571a3260cd3ae7a53523ae7f14e84b65a73cb9dff6368bdc2b9db746c1", func := "stevedore/stevedorelaw23.UstarFields", spec := "ustarFields", inPlace := ["internal/bytealg.IndexByteString", "internal/bytealg.IndexString"], unfollowed := true, recurses := true, named := ["internal/bytealg.MaxLen", "unicode/utf8.first", "unicode/utf8.acceptRanges"], apart := false, laid := [("unicode/utf8.acceptRanges", laid_unicode_utf8_acceptRanges), ("unicode/utf8.first", laid_unicode_utf8_first)] }
def UstarFieldsSaid : Prop := ustarFieldsRow.holds Tryd.pinned (OpenSpec.ofChange ustarFieldsSpec)

/-- ITS FALSE NEIGHBOUR: 'it returns false'. Refute it at one input. -/
def ustarFieldsWrong : ChangeSpec := { name := "ustarFields", fn := fun _ => fun
  | [d1, d2, d3, d4] => { results := [.lit (.bool false)], args := [d1, d2, d3, d4] }
  | _ => none }
def UstarFieldsWrongFalsely : Prop := ustarFieldsRow.holds Tryd.pinned (OpenSpec.ofChange ustarFieldsWrong)

/-- 'stevedorelaw23.UstarPuts': WHATEVER THE INPUT: true; the input reads as it did. -/
def ustarPutsSpec : ChangeSpec := { name := "ustarPuts", fn := fun _ => fun
  | [d1, d2] => { results := [.lit (.bool true)], args := [d1, d2] }
  | _ => none }
def ustarPutsRow : OpenClaim := { program := "ytggjdfnkmhlliaadoor", sum := "4df0ce571a3260cd3ae7a53523ae7f14e84b65a73cb9dff6368bdc2b9db746c1", func := "stevedore/stevedorelaw23.UstarPuts", spec := "ustarPuts", inPlace := ["internal/bytealg.IndexByteString", "internal/bytealg.IndexString"], unfollowed := true, recurses := true, named := ["internal/bytealg.MaxLen", "unicode/utf8.first", "unicode/utf8.acceptRanges"], apart := false, laid := [("unicode/utf8.acceptRanges", laid_unicode_utf8_acceptRanges), ("unicode/utf8.first", laid_unicode_utf8_first)] }
def UstarPutsSaid : Prop := ustarPutsRow.holds Tryd.pinned (OpenSpec.ofChange ustarPutsSpec)

/-- ITS FALSE NEIGHBOUR: 'it returns false'. Refute it at one input. -/
def ustarPutsWrong : ChangeSpec := { name := "ustarPuts", fn := fun _ => fun
  | [d1, d2] => { results := [.lit (.bool false)], args := [d1, d2] }
  | _ => none }
def UstarPutsWrongFalsely : Prop := ustarPutsRow.holds Tryd.pinned (OpenSpec.ofChange ustarPutsWrong)

/-- 'stevedorelaw23.UstarParts': WHATEVER THE INPUT: true; the input reads as it did. -/
def ustarPartsSpec : ChangeSpec := { name := "ustarParts", fn := fun _ => fun
  | [d] => { results := [.lit (.bool true)], args := [d] }
  | _ => none }
def ustarPartsRow : OpenClaim := { program := "ytggjdfnkmhlliaadoor", sum := "4df0ce571a3260cd3ae7a53523ae7f14e84b65a73cb9dff6368bdc2b9db746c1", func := "stevedore/stevedorelaw23.UstarParts", spec := "ustarParts", inPlace := ["internal/bytealg.IndexByteString", "internal/bytealg.IndexString"], unfollowed := true, recurses := true, named := ["internal/bytealg.MaxLen", "unicode/utf8.first", "unicode/utf8.acceptRanges"], apart := false, laid := [("unicode/utf8.acceptRanges", laid_unicode_utf8_acceptRanges), ("unicode/utf8.first", laid_unicode_utf8_first)] }
def UstarPartsSaid : Prop := ustarPartsRow.holds Tryd.pinned (OpenSpec.ofChange ustarPartsSpec)

/-- ITS FALSE NEIGHBOUR: 'it returns false'. Refute it at one input. -/
def ustarPartsWrong : ChangeSpec := { name := "ustarParts", fn := fun _ => fun
  | [d] => { results := [.lit (.bool false)], args := [d] }
  | _ => none }
def UstarPartsWrongFalsely : Prop := ustarPartsRow.holds Tryd.pinned (OpenSpec.ofChange ustarPartsWrong)

/- THE SECOND FORM. 'bulk': how many values and letters a reading holds, each counted each time it is reached (what is shared counts as often as it is met; a slice's spare places count too). A statement '..UptoSaid' is the law's where the arguments, and the package variables that the reading takes, are together of bulk at most 1048576: NARROWER than '..Said'. Prove '..Said' where nothing that the law and all that it calls make is longer than what came in: it says more and counts as full. Else prove '..UptoSaid'. A law counts once. -/
mutual
def uptoBulk {H : Type} : DataW H → Nat
  | .lit (.string bytes) => bytes.length + 1
  | .lit _ => 1
  | .nil => 1
  | .ptr d => uptoBulk d + 1
  | .slice elems spare => uptoBulkAll elems + uptoBulkAll spare + 1
  | .agg parts => uptoBulkAll parts + 1
  | .iface _ d => uptoBulk d + 1
  | .map entries => uptoBulkEntries entries + 1
  | .held _ => 1
def uptoBulkAll {H : Type} : List (DataW H) → Nat
  | [] => 0
  | d :: r => uptoBulk d + uptoBulkAll r
def uptoBulkEntries {H : Type} : List (Lit × DataW H) → Nat
  | [] => 0
  | x :: r => uptoBulkEntry x + uptoBulkEntries r
def uptoBulkEntry {H : Type} : Lit × DataW H → Nat
  | (.string bytes, d) => bytes.length + uptoBulk d + 1
  | (_, d) => uptoBulk d + 1
 end
def uptoSmall : (H : Type) → List (DataW H) → Bool := fun _ ds => decide (uptoBulkAll ds ≤ 1048576)
def OpenSpec.upto (s : _root_.Go.ChangeSpec) : _root_.Go.OpenSpec := { _root_.Go.OpenSpec.ofChange s with cond := some uptoSmall }

/-- 'stevedorelaw23.UstarReads', WHERE WHAT IT READS IS OF BULK AT MOST 1048576: true; the input reads as it did. -/
def ustarReadsUptoRow : OpenClaim := { program := "ytggjdfnkmhlliaadoor", sum := "4df0ce571a3260cd3ae7a53523ae7f14e84b65a73cb9dff6368bdc2b9db746c1", func := "stevedore/stevedorelaw23.UstarReads", spec := "ustarReads", inPlace := ["internal/bytealg.IndexByteString", "internal/bytealg.IndexString"], unfollowed := true, recurses := true, named := ["internal/bytealg.MaxLen", "unicode/utf8.first", "unicode/utf8.acceptRanges"], apart := false, laid := [("unicode/utf8.acceptRanges", laid_unicode_utf8_acceptRanges), ("unicode/utf8.first", laid_unicode_utf8_first)], narrowed := true }
def UstarReadsUptoSaid : Prop := ustarReadsUptoRow.holds Tryd.pinned (OpenSpec.upto ustarReadsSpec)

/-- 'stevedorelaw23.UstarBack', WHERE WHAT IT READS IS OF BULK AT MOST 1048576: true; the input reads as it did. -/
def ustarBackUptoRow : OpenClaim := { program := "ytggjdfnkmhlliaadoor", sum := "4df0ce571a3260cd3ae7a53523ae7f14e84b65a73cb9dff6368bdc2b9db746c1", func := "stevedore/stevedorelaw23.UstarBack", spec := "ustarBack", inPlace := ["internal/bytealg.IndexByteString", "internal/bytealg.IndexString"], unfollowed := true, recurses := true, named := ["internal/bytealg.MaxLen", "unicode/utf8.first", "unicode/utf8.acceptRanges"], apart := false, laid := [("unicode/utf8.acceptRanges", laid_unicode_utf8_acceptRanges), ("unicode/utf8.first", laid_unicode_utf8_first)], narrowed := true }
def UstarBackUptoSaid : Prop := ustarBackUptoRow.holds Tryd.pinned (OpenSpec.upto ustarBackSpec)

/-- 'stevedorelaw23.UstarFields', WHERE WHAT IT READS IS OF BULK AT MOST 1048576: true; the input reads as it did. -/
def ustarFieldsUptoRow : OpenClaim := { program := "ytggjdfnkmhlliaadoor", sum := "4df0ce571a3260cd3ae7a53523ae7f14e84b65a73cb9dff6368bdc2b9db746c1", func := "stevedore/stevedorelaw23.UstarFields", spec := "ustarFields", inPlace := ["internal/bytealg.IndexByteString", "internal/bytealg.IndexString"], unfollowed := true, recurses := true, named := ["internal/bytealg.MaxLen", "unicode/utf8.first", "unicode/utf8.acceptRanges"], apart := false, laid := [("unicode/utf8.acceptRanges", laid_unicode_utf8_acceptRanges), ("unicode/utf8.first", laid_unicode_utf8_first)], narrowed := true }
def UstarFieldsUptoSaid : Prop := ustarFieldsUptoRow.holds Tryd.pinned (OpenSpec.upto ustarFieldsSpec)

/-- 'stevedorelaw23.UstarPuts', WHERE WHAT IT READS IS OF BULK AT MOST 1048576: true; the input reads as it did. -/
def ustarPutsUptoRow : OpenClaim := { program := "ytggjdfnkmhlliaadoor", sum := "4df0ce571a3260cd3ae7a53523ae7f14e84b65a73cb9dff6368bdc2b9db746c1", func := "stevedore/stevedorelaw23.UstarPuts", spec := "ustarPuts", inPlace := ["internal/bytealg.IndexByteString", "internal/bytealg.IndexString"], unfollowed := true, recurses := true, named := ["internal/bytealg.MaxLen", "unicode/utf8.first", "unicode/utf8.acceptRanges"], apart := false, laid := [("unicode/utf8.acceptRanges", laid_unicode_utf8_acceptRanges), ("unicode/utf8.first", laid_unicode_utf8_first)], narrowed := true }
def UstarPutsUptoSaid : Prop := ustarPutsUptoRow.holds Tryd.pinned (OpenSpec.upto ustarPutsSpec)

/-- 'stevedorelaw23.UstarParts', WHERE WHAT IT READS IS OF BULK AT MOST 1048576: true; the input reads as it did. -/
def ustarPartsUptoRow : OpenClaim := { program := "ytggjdfnkmhlliaadoor", sum := "4df0ce571a3260cd3ae7a53523ae7f14e84b65a73cb9dff6368bdc2b9db746c1", func := "stevedore/stevedorelaw23.UstarParts", spec := "ustarParts", inPlace := ["internal/bytealg.IndexByteString", "internal/bytealg.IndexString"], unfollowed := true, recurses := true, named := ["internal/bytealg.MaxLen", "unicode/utf8.first", "unicode/utf8.acceptRanges"], apart := false, laid := [("unicode/utf8.acceptRanges", laid_unicode_utf8_acceptRanges), ("unicode/utf8.first", laid_unicode_utf8_first)], narrowed := true }
def UstarPartsUptoSaid : Prop := ustarPartsUptoRow.holds Tryd.pinned (OpenSpec.upto ustarPartsSpec)

end Rows
end Go.Proofs.YtggjdfnkmhlliaaDoor
