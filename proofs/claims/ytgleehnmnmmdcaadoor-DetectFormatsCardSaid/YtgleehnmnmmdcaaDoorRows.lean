/-
  NARROWER THAN 'FOR EVERY INPUT', by the rows' own cells (each row's printed sentence says how): DetectFormats: laid · DetectStays: laid · DetectNames: laid · DetectBlind: laid.
  DERIVED. THE GIVEN ROWS OF THIS SEAT. 4 by the template 'for every input the law returns true; each argument reads behind the call as it read before'; 0 by the template 'total and deterministic' (their statements: YtgleehnmnmmdcaaDoorTotals.lean).
  GIVEN WITH THE SEED: the statements are not yours to turn. If you find one false, say at which input.
  Laid BY PROGRAM, IN A SANDBOX (cutbox-rows.mjs): the forced cells as the released guide's own fill.sh prints them over the translation 6cab896348694feb… (all of the seat's roots in one cut). By AI agents, Wed Nov 11 2026. No macro, syntax, notation, axiom, sorry.
-/
import Derived.Test.YtgleehnmnmmdcaaDoorChecked
import GoSem.PinnedTables
import GoSem.Claim
import GoSem.ClaimJoined
import GoSem.ClaimMapViews
import Derived.JoinedTies
import Derived.KernelRfl
namespace Go.Proofs.YtgleehnmnmmdcaaDoor
/- THE CELL 'sum', in the pinned program and in every row, IS THE sha256 OF THE DUMP (.gsa) THAT YtgleehnmnmmdcaaDoorProg.lean LOADS. Nothing in Lean hashes anything: it is a label: what it is worth is what the hold of that sum in a sandbox is worth. -/
noncomputable def Tryd.pinned : Pinned := { name := "ytgleehnmnmmdcaadoor", sum := "6cab896348694feb28dce8cf4247f7b88025b3770fc0cd942341d56e0a83cc85", checked := Tryd.checked }
namespace Rows
def none {H : Type} : Left H := { results := [], args := [] }

/- WHAT THE LISTED PACKAGE-LEVEL VARIABLES READ AS WHEN THE CALL BEGINS. Each datum BY PROGRAM (the guide's laid-datum.mjs) off the statement by which the dump's own 'gosem.cut.vars' lays the variable. In a bare row this is a premise. The card (YtgleehnmnmmdcaaDoorCards.lean) ties it to the program's text. -/
def laid_unicode_utf8_acceptRanges {H : Type} : DataW H := .agg [.agg [.lit (.int .u8 128), .lit (.int .u8 191)], .agg [.lit (.int .u8 160), .lit (.int .u8 191)], .agg [.lit (.int .u8 128), .lit (.int .u8 159)], .agg [.lit (.int .u8 144), .lit (.int .u8 191)], .agg [.lit (.int .u8 128), .lit (.int .u8 143)], .agg [.lit (.int .u8 0), .lit (.int .u8 0)], .agg [.lit (.int .u8 0), .lit (.int .u8 0)], .agg [.lit (.int .u8 0), .lit (.int .u8 0)], .agg [.lit (.int .u8 0), .lit (.int .u8 0)], .agg [.lit (.int .u8 0), .lit (.int .u8 0)], .agg [.lit (.int .u8 0), .lit (.int .u8 0)], .agg [.lit (.int .u8 0), .lit (.int .u8 0)], .agg [.lit (.int .u8 0), .lit (.int .u8 0)], .agg [.lit (.int .u8 0), .lit (.int .u8 0)], .agg [.lit (.int .u8 0), .lit (.int .u8 0)], .agg [.lit (.int .u8 0), .lit (.int .u8 0)]]
/-- One of Go's own tables, pinned by name: the form's constant. -/
def laid_unicode_utf8_first : DataW Unit := Go.Pinned.utf8First

/-- 'stevedorelaw30.DetectFormats': WHATEVER THE INPUT: true; the input reads as it did. -/
def detectFormatsSpec : ChangeSpec := { name := "detectFormats", fn := fun _ => fun
  | [d1, d2, d3, d4, d5] => { results := [.lit (.bool true)], args := [d1, d2, d3, d4, d5] }
  | _ => none }
def detectFormatsRow : OpenClaim := { program := "ytgleehnmnmmdcaadoor", sum := "6cab896348694feb28dce8cf4247f7b88025b3770fc0cd942341d56e0a83cc85", func := "stevedore/stevedorelaw30.DetectFormats", spec := "detectFormats", unfollowed := true, recurses := true, named := ["unicode/utf8.first", "unicode/utf8.acceptRanges"], apart := false, laid := [("unicode/utf8.acceptRanges", laid_unicode_utf8_acceptRanges), ("unicode/utf8.first", laid_unicode_utf8_first)] }
def DetectFormatsSaid : Prop := detectFormatsRow.holds Tryd.pinned (OpenSpec.ofChange detectFormatsSpec)

/-- ITS FALSE NEIGHBOUR: 'it returns false'. Refute it at one input. -/
def detectFormatsWrong : ChangeSpec := { name := "detectFormats", fn := fun _ => fun
  | [d1, d2, d3, d4, d5] => { results := [.lit (.bool false)], args := [d1, d2, d3, d4, d5] }
  | _ => none }
def DetectFormatsWrongFalsely : Prop := detectFormatsRow.holds Tryd.pinned (OpenSpec.ofChange detectFormatsWrong)

/-- 'stevedorelaw30.DetectStays': WHATEVER THE INPUT: true; the input reads as it did. -/
def detectStaysSpec : ChangeSpec := { name := "detectStays", fn := fun _ => fun
  | [d1, d2] => { results := [.lit (.bool true)], args := [d1, d2] }
  | _ => none }
def detectStaysRow : OpenClaim := { program := "ytgleehnmnmmdcaadoor", sum := "6cab896348694feb28dce8cf4247f7b88025b3770fc0cd942341d56e0a83cc85", func := "stevedore/stevedorelaw30.DetectStays", spec := "detectStays", unfollowed := true, recurses := true, named := ["unicode/utf8.first", "unicode/utf8.acceptRanges"], apart := false, laid := [("unicode/utf8.acceptRanges", laid_unicode_utf8_acceptRanges), ("unicode/utf8.first", laid_unicode_utf8_first)] }
def DetectStaysSaid : Prop := detectStaysRow.holds Tryd.pinned (OpenSpec.ofChange detectStaysSpec)

/-- ITS FALSE NEIGHBOUR: 'it returns false'. Refute it at one input. -/
def detectStaysWrong : ChangeSpec := { name := "detectStays", fn := fun _ => fun
  | [d1, d2] => { results := [.lit (.bool false)], args := [d1, d2] }
  | _ => none }
def DetectStaysWrongFalsely : Prop := detectStaysRow.holds Tryd.pinned (OpenSpec.ofChange detectStaysWrong)

/-- 'stevedorelaw30.DetectNames': WHATEVER THE INPUT: true; the input reads as it did. -/
def detectNamesSpec : ChangeSpec := { name := "detectNames", fn := fun _ => fun
  | [d1, d2] => { results := [.lit (.bool true)], args := [d1, d2] }
  | _ => none }
def detectNamesRow : OpenClaim := { program := "ytgleehnmnmmdcaadoor", sum := "6cab896348694feb28dce8cf4247f7b88025b3770fc0cd942341d56e0a83cc85", func := "stevedore/stevedorelaw30.DetectNames", spec := "detectNames", unfollowed := true, recurses := true, named := ["unicode/utf8.first", "unicode/utf8.acceptRanges"], apart := false, laid := [("unicode/utf8.acceptRanges", laid_unicode_utf8_acceptRanges), ("unicode/utf8.first", laid_unicode_utf8_first)] }
def DetectNamesSaid : Prop := detectNamesRow.holds Tryd.pinned (OpenSpec.ofChange detectNamesSpec)

/-- ITS FALSE NEIGHBOUR: 'it returns false'. Refute it at one input. -/
def detectNamesWrong : ChangeSpec := { name := "detectNames", fn := fun _ => fun
  | [d1, d2] => { results := [.lit (.bool false)], args := [d1, d2] }
  | _ => none }
def DetectNamesWrongFalsely : Prop := detectNamesRow.holds Tryd.pinned (OpenSpec.ofChange detectNamesWrong)

/-- 'stevedorelaw30.DetectBlind': WHATEVER THE INPUT: true; the input reads as it did. -/
def detectBlindSpec : ChangeSpec := { name := "detectBlind", fn := fun _ => fun
  | [d1, d2] => { results := [.lit (.bool true)], args := [d1, d2] }
  | _ => none }
def detectBlindRow : OpenClaim := { program := "ytgleehnmnmmdcaadoor", sum := "6cab896348694feb28dce8cf4247f7b88025b3770fc0cd942341d56e0a83cc85", func := "stevedore/stevedorelaw30.DetectBlind", spec := "detectBlind", unfollowed := true, recurses := true, named := ["unicode/utf8.first", "unicode/utf8.acceptRanges"], apart := false, laid := [("unicode/utf8.acceptRanges", laid_unicode_utf8_acceptRanges), ("unicode/utf8.first", laid_unicode_utf8_first)] }
def DetectBlindSaid : Prop := detectBlindRow.holds Tryd.pinned (OpenSpec.ofChange detectBlindSpec)

/-- ITS FALSE NEIGHBOUR: 'it returns false'. Refute it at one input. -/
def detectBlindWrong : ChangeSpec := { name := "detectBlind", fn := fun _ => fun
  | [d1, d2] => { results := [.lit (.bool false)], args := [d1, d2] }
  | _ => none }
def DetectBlindWrongFalsely : Prop := detectBlindRow.holds Tryd.pinned (OpenSpec.ofChange detectBlindWrong)

/- THE SECOND FORM. 'bulk': how many values and letters a reading holds, each counted each time it is reached (what is shared counts as often as it is met; a slice's spare places count too). A statement '..UptoSaid' is the law's where the arguments, and the package variables that the reading takes, are together of bulk at most 1048576: NARROWER than '..Said'. Prove '..Said' where nothing that the law and all that it calls make is longer than what came in: it says more and counts as full. Else prove '..UptoSaid'. A law counts once. -/
mutual
def uptoBulk {H : Type} : DataW H → Nat
  | .lit (.string bytes) => bytes.length + 1
  | .lit _ => 1
  | .nil => 1
  | .ptr d => uptoBulk d + 1
  | .slice elems spare => uptoBulkAll elems + uptoBulkAll spare + 1
  | .agg parts => uptoBulkAll parts + 1
  | .iface _ d => uptoBulk d + 1
  | .map entries => uptoBulkEntries entries + 1
  | .held _ => 1
def uptoBulkAll {H : Type} : List (DataW H) → Nat
  | [] => 0
  | d :: r => uptoBulk d + uptoBulkAll r
def uptoBulkEntries {H : Type} : List (Lit × DataW H) → Nat
  | [] => 0
  | x :: r => uptoBulkEntry x + uptoBulkEntries r
def uptoBulkEntry {H : Type} : Lit × DataW H → Nat
  | (.string bytes, d) => bytes.length + uptoBulk d + 1
  | (_, d) => uptoBulk d + 1
 end
def uptoSmall : (H : Type) → List (DataW H) → Bool := fun _ ds => decide (uptoBulkAll ds ≤ 1048576)
def OpenSpec.upto (s : _root_.Go.ChangeSpec) : _root_.Go.OpenSpec := { _root_.Go.OpenSpec.ofChange s with cond := some uptoSmall }

/-- 'stevedorelaw30.DetectFormats', WHERE WHAT IT READS IS OF BULK AT MOST 1048576: true; the input reads as it did. -/
def detectFormatsUptoRow : OpenClaim := { program := "ytgleehnmnmmdcaadoor", sum := "6cab896348694feb28dce8cf4247f7b88025b3770fc0cd942341d56e0a83cc85", func := "stevedore/stevedorelaw30.DetectFormats", spec := "detectFormats", unfollowed := true, recurses := true, named := ["unicode/utf8.first", "unicode/utf8.acceptRanges"], apart := false, laid := [("unicode/utf8.acceptRanges", laid_unicode_utf8_acceptRanges), ("unicode/utf8.first", laid_unicode_utf8_first)], narrowed := true }
def DetectFormatsUptoSaid : Prop := detectFormatsUptoRow.holds Tryd.pinned (OpenSpec.upto detectFormatsSpec)

/-- 'stevedorelaw30.DetectStays', WHERE WHAT IT READS IS OF BULK AT MOST 1048576: true; the input reads as it did. -/
def detectStaysUptoRow : OpenClaim := { program := "ytgleehnmnmmdcaadoor", sum := "6cab896348694feb28dce8cf4247f7b88025b3770fc0cd942341d56e0a83cc85", func := "stevedore/stevedorelaw30.DetectStays", spec := "detectStays", unfollowed := true, recurses := true, named := ["unicode/utf8.first", "unicode/utf8.acceptRanges"], apart := false, laid := [("unicode/utf8.acceptRanges", laid_unicode_utf8_acceptRanges), ("unicode/utf8.first", laid_unicode_utf8_first)], narrowed := true }
def DetectStaysUptoSaid : Prop := detectStaysUptoRow.holds Tryd.pinned (OpenSpec.upto detectStaysSpec)

/-- 'stevedorelaw30.DetectNames', WHERE WHAT IT READS IS OF BULK AT MOST 1048576: true; the input reads as it did. -/
def detectNamesUptoRow : OpenClaim := { program := "ytgleehnmnmmdcaadoor", sum := "6cab896348694feb28dce8cf4247f7b88025b3770fc0cd942341d56e0a83cc85", func := "stevedore/stevedorelaw30.DetectNames", spec := "detectNames", unfollowed := true, recurses := true, named := ["unicode/utf8.first", "unicode/utf8.acceptRanges"], apart := false, laid := [("unicode/utf8.acceptRanges", laid_unicode_utf8_acceptRanges), ("unicode/utf8.first", laid_unicode_utf8_first)], narrowed := true }
def DetectNamesUptoSaid : Prop := detectNamesUptoRow.holds Tryd.pinned (OpenSpec.upto detectNamesSpec)

/-- 'stevedorelaw30.DetectBlind', WHERE WHAT IT READS IS OF BULK AT MOST 1048576: true; the input reads as it did. -/
def detectBlindUptoRow : OpenClaim := { program := "ytgleehnmnmmdcaadoor", sum := "6cab896348694feb28dce8cf4247f7b88025b3770fc0cd942341d56e0a83cc85", func := "stevedore/stevedorelaw30.DetectBlind", spec := "detectBlind", unfollowed := true, recurses := true, named := ["unicode/utf8.first", "unicode/utf8.acceptRanges"], apart := false, laid := [("unicode/utf8.acceptRanges", laid_unicode_utf8_acceptRanges), ("unicode/utf8.first", laid_unicode_utf8_first)], narrowed := true }
def DetectBlindUptoSaid : Prop := detectBlindUptoRow.holds Tryd.pinned (OpenSpec.upto detectBlindSpec)

end Rows
end Go.Proofs.YtgleehnmnmmdcaaDoor
