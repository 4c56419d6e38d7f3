/-
  NARROWER THAN 'FOR EVERY INPUT', by the rows' own cells (each row's printed sentence says how): CpioWrites: laid · CpioBack: laid · CpioOne: laid · CpioLimits: laid · CpioLetters: laid · CpioNumbers: laid.
  DERIVED. THE GIVEN ROWS OF THIS SEAT. 6 by the template 'for every input the law returns true; each argument reads behind the call as it read before'; 0 by the template 'total and deterministic' (their statements: YtpghionmmlidnaaGreatDoorTotals.lean).
  GIVEN WITH THE SEED: the statements are not yours to turn. If you find one false, say at which input.
  Laid BY PROGRAM, IN A SANDBOX (cutbox-rows.mjs): the forced cells as the released guide's own fill.sh prints them over the translation ef3d48d08910a76d… (all of the seat's roots in one cut). By AI agents, Wed Nov 11 2026. No macro, syntax, notation, axiom, sorry.
-/
import Derived.Test.YtpghionmmlidnaaGreatDoorChecked
import GoSem.PinnedTables
import GoSem.Claim
import GoSem.ClaimJoined
import GoSem.ClaimMapViews
import Derived.JoinedTies
import Derived.KernelRfl
namespace Go.Proofs.YtpghionmmlidnaaGreatDoor
/- THE CELL 'sum', in the pinned program and in every row, IS THE sha256 OF THE DUMP (.gsa) THAT YtpghionmmlidnaaGreatDoorProg.lean LOADS. Nothing in Lean hashes anything: it is a label: what it is worth is what the hold of that sum in a sandbox is worth. -/
noncomputable def Tryz.pinned : Pinned := { name := "ytpghionmmlidnaagreatdoor", sum := "ef3d48d08910a76d4dd40185ccf7e404fad429eebc8cb477f56b35d574ae4f74", checked := Tryz.checked }
namespace Rows
def none {H : Type} : Left H := { results := [], args := [] }

/- WHAT THE LISTED PACKAGE-LEVEL VARIABLES READ AS WHEN THE CALL BEGINS. Each datum BY PROGRAM (the guide's laid-datum.mjs) off the statement by which the dump's own 'gosem.cut.vars' lays the variable. In a bare row this is a premise. The card (YtpghionmmlidnaaGreatDoorCards.lean) ties it to the program's text. -/
def laid_unicode_utf8_acceptRanges {H : Type} : DataW H := .agg [.agg [.lit (.int .u8 128), .lit (.int .u8 191)], .agg [.lit (.int .u8 160), .lit (.int .u8 191)], .agg [.lit (.int .u8 128), .lit (.int .u8 159)], .agg [.lit (.int .u8 144), .lit (.int .u8 191)], .agg [.lit (.int .u8 128), .lit (.int .u8 143)], .agg [.lit (.int .u8 0), .lit (.int .u8 0)], .agg [.lit (.int .u8 0), .lit (.int .u8 0)], .agg [.lit (.int .u8 0), .lit (.int .u8 0)], .agg [.lit (.int .u8 0), .lit (.int .u8 0)], .agg [.lit (.int .u8 0), .lit (.int .u8 0)], .agg [.lit (.int .u8 0), .lit (.int .u8 0)], .agg [.lit (.int .u8 0), .lit (.int .u8 0)], .agg [.lit (.int .u8 0), .lit (.int .u8 0)], .agg [.lit (.int .u8 0), .lit (.int .u8 0)], .agg [.lit (.int .u8 0), .lit (.int .u8 0)], .agg [.lit (.int .u8 0), .lit (.int .u8 0)]]
/-- One of Go's own tables, pinned by name: the form's constant. -/
def laid_unicode_utf8_first : DataW Unit := Go.Pinned.utf8First

/-- 'stevedorelaw26.CpioWrites': WHATEVER THE INPUT: true; the input reads as it did. -/
def cpioWritesSpec : ChangeSpec := { name := "cpioWrites", fn := fun _ => fun
  | [d1, d2] => { results := [.lit (.bool true)], args := [d1, d2] }
  | _ => none }
def cpioWritesRow : OpenClaim := { program := "ytpghionmmlidnaagreatdoor", sum := "ef3d48d08910a76d4dd40185ccf7e404fad429eebc8cb477f56b35d574ae4f74", func := "stevedore/stevedorelaw26.CpioWrites", spec := "cpioWrites", inPlace := ["internal/bytealg.IndexByteString", "internal/bytealg.CountString", "internal/bytealg.IndexString", "internal/abi.NoEscape", "internal/bytealg.MakeNoZero", "math.archFloor", "math.Float64bits", "math.Float64frombits", "math.archTrunc", "internal/bytealg.IndexByte"], unfollowed := true, recurses := true, named := ["unicode/utf8.first", "unicode/utf8.acceptRanges", "internal/bytealg.MaxLen"], plainKeys := false, apart := false, laid := [("unicode/utf8.acceptRanges", laid_unicode_utf8_acceptRanges), ("unicode/utf8.first", laid_unicode_utf8_first)] }
def CpioWritesSaid : Prop := cpioWritesRow.holds Tryz.pinned (OpenSpec.ofChange cpioWritesSpec)

/-- ITS FALSE NEIGHBOUR: 'it returns false'. Refute it at one input. -/
def cpioWritesWrong : ChangeSpec := { name := "cpioWrites", fn := fun _ => fun
  | [d1, d2] => { results := [.lit (.bool false)], args := [d1, d2] }
  | _ => none }
def CpioWritesWrongFalsely : Prop := cpioWritesRow.holds Tryz.pinned (OpenSpec.ofChange cpioWritesWrong)

/-- 'stevedorelaw26.CpioBack': WHATEVER THE INPUT: true; the input reads as it did. -/
def cpioBackSpec : ChangeSpec := { name := "cpioBack", fn := fun _ => fun
  | [d1, d2] => { results := [.lit (.bool true)], args := [d1, d2] }
  | _ => none }
def cpioBackRow : OpenClaim := { program := "ytpghionmmlidnaagreatdoor", sum := "ef3d48d08910a76d4dd40185ccf7e404fad429eebc8cb477f56b35d574ae4f74", func := "stevedore/stevedorelaw26.CpioBack", spec := "cpioBack", inPlace := ["internal/bytealg.IndexByteString", "internal/bytealg.CountString", "internal/bytealg.IndexString", "internal/abi.NoEscape", "internal/bytealg.MakeNoZero", "math.archFloor", "math.Float64bits", "math.Float64frombits", "math.archTrunc", "internal/bytealg.IndexByte"], unfollowed := true, recurses := true, named := ["unicode/utf8.first", "unicode/utf8.acceptRanges", "internal/bytealg.MaxLen"], plainKeys := false, apart := false, laid := [("unicode/utf8.acceptRanges", laid_unicode_utf8_acceptRanges), ("unicode/utf8.first", laid_unicode_utf8_first)] }
def CpioBackSaid : Prop := cpioBackRow.holds Tryz.pinned (OpenSpec.ofChange cpioBackSpec)

/-- ITS FALSE NEIGHBOUR: 'it returns false'. Refute it at one input. -/
def cpioBackWrong : ChangeSpec := { name := "cpioBack", fn := fun _ => fun
  | [d1, d2] => { results := [.lit (.bool false)], args := [d1, d2] }
  | _ => none }
def CpioBackWrongFalsely : Prop := cpioBackRow.holds Tryz.pinned (OpenSpec.ofChange cpioBackWrong)

/-- 'stevedorelaw26.CpioOne': WHATEVER THE INPUT: true; the input reads as it did. -/
def cpioOneSpec : ChangeSpec := { name := "cpioOne", fn := fun _ => fun
  | [d1, d2, d3, d4] => { results := [.lit (.bool true)], args := [d1, d2, d3, d4] }
  | _ => none }
def cpioOneRow : OpenClaim := { program := "ytpghionmmlidnaagreatdoor", sum := "ef3d48d08910a76d4dd40185ccf7e404fad429eebc8cb477f56b35d574ae4f74", func := "stevedore/stevedorelaw26.CpioOne", spec := "cpioOne", inPlace := ["internal/bytealg.IndexByteString", "internal/bytealg.CountString", "internal/bytealg.IndexString", "internal/abi.NoEscape", "internal/bytealg.MakeNoZero", "math.archFloor", "math.Float64bits", "math.Float64frombits", "math.archTrunc", "internal/bytealg.IndexByte"], unfollowed := true, recurses := true, named := ["unicode/utf8.first", "unicode/utf8.acceptRanges", "internal/bytealg.MaxLen"], plainKeys := false, apart := false, laid := [("unicode/utf8.acceptRanges", laid_unicode_utf8_acceptRanges), ("unicode/utf8.first", laid_unicode_utf8_first)] }
def CpioOneSaid : Prop := cpioOneRow.holds Tryz.pinned (OpenSpec.ofChange cpioOneSpec)

/-- ITS FALSE NEIGHBOUR: 'it returns false'. Refute it at one input. -/
def cpioOneWrong : ChangeSpec := { name := "cpioOne", fn := fun _ => fun
  | [d1, d2, d3, d4] => { results := [.lit (.bool false)], args := [d1, d2, d3, d4] }
  | _ => none }
def CpioOneWrongFalsely : Prop := cpioOneRow.holds Tryz.pinned (OpenSpec.ofChange cpioOneWrong)

/-- 'stevedorelaw26.CpioLimits': WHATEVER THE INPUT: true; the input reads as it did. -/
def cpioLimitsSpec : ChangeSpec := { name := "cpioLimits", fn := fun _ => fun
  | [d1, d2] => { results := [.lit (.bool true)], args := [d1, d2] }
  | _ => none }
def cpioLimitsRow : OpenClaim := { program := "ytpghionmmlidnaagreatdoor", sum := "ef3d48d08910a76d4dd40185ccf7e404fad429eebc8cb477f56b35d574ae4f74", func := "stevedore/stevedorelaw26.CpioLimits", spec := "cpioLimits", inPlace := ["internal/bytealg.IndexByteString", "internal/bytealg.CountString", "internal/bytealg.IndexString", "internal/abi.NoEscape", "internal/bytealg.MakeNoZero", "math.archFloor", "math.Float64bits", "math.Float64frombits", "math.archTrunc", "internal/bytealg.IndexByte"], unfollowed := true, recurses := true, named := ["unicode/utf8.first", "unicode/utf8.acceptRanges", "internal/bytealg.MaxLen"], plainKeys := false, apart := false, laid := [("unicode/utf8.acceptRanges", laid_unicode_utf8_acceptRanges), ("unicode/utf8.first", laid_unicode_utf8_first)] }
def CpioLimitsSaid : Prop := cpioLimitsRow.holds Tryz.pinned (OpenSpec.ofChange cpioLimitsSpec)

/-- ITS FALSE NEIGHBOUR: 'it returns false'. Refute it at one input. -/
def cpioLimitsWrong : ChangeSpec := { name := "cpioLimits", fn := fun _ => fun
  | [d1, d2] => { results := [.lit (.bool false)], args := [d1, d2] }
  | _ => none }
def CpioLimitsWrongFalsely : Prop := cpioLimitsRow.holds Tryz.pinned (OpenSpec.ofChange cpioLimitsWrong)

/-- 'stevedorelaw26.CpioLetters': WHATEVER THE INPUT: true; the input reads as it did. -/
def cpioLettersSpec : ChangeSpec := { name := "cpioLetters", fn := fun _ => fun
  | [d1, d2] => { results := [.lit (.bool true)], args := [d1, d2] }
  | _ => none }
def cpioLettersRow : OpenClaim := { program := "ytpghionmmlidnaagreatdoor", sum := "ef3d48d08910a76d4dd40185ccf7e404fad429eebc8cb477f56b35d574ae4f74", func := "stevedore/stevedorelaw26.CpioLetters", spec := "cpioLetters", inPlace := ["internal/bytealg.IndexByteString", "internal/bytealg.CountString", "internal/bytealg.IndexString", "internal/abi.NoEscape", "internal/bytealg.MakeNoZero", "math.archFloor", "math.Float64bits", "math.Float64frombits", "math.archTrunc", "internal/bytealg.IndexByte"], unfollowed := true, recurses := true, named := ["unicode/utf8.first", "unicode/utf8.acceptRanges", "internal/bytealg.MaxLen"], plainKeys := false, apart := false, laid := [("unicode/utf8.acceptRanges", laid_unicode_utf8_acceptRanges), ("unicode/utf8.first", laid_unicode_utf8_first)] }
def CpioLettersSaid : Prop := cpioLettersRow.holds Tryz.pinned (OpenSpec.ofChange cpioLettersSpec)

/-- ITS FALSE NEIGHBOUR: 'it returns false'. Refute it at one input. -/
def cpioLettersWrong : ChangeSpec := { name := "cpioLetters", fn := fun _ => fun
  | [d1, d2] => { results := [.lit (.bool false)], args := [d1, d2] }
  | _ => none }
def CpioLettersWrongFalsely : Prop := cpioLettersRow.holds Tryz.pinned (OpenSpec.ofChange cpioLettersWrong)

/-- 'stevedorelaw26.CpioNumbers': WHATEVER THE INPUT: true; the input reads as it did. -/
def cpioNumbersSpec : ChangeSpec := { name := "cpioNumbers", fn := fun _ => fun
  | [d] => { results := [.lit (.bool true)], args := [d] }
  | _ => none }
def cpioNumbersRow : OpenClaim := { program := "ytpghionmmlidnaagreatdoor", sum := "ef3d48d08910a76d4dd40185ccf7e404fad429eebc8cb477f56b35d574ae4f74", func := "stevedore/stevedorelaw26.CpioNumbers", spec := "cpioNumbers", inPlace := ["internal/bytealg.IndexByteString", "internal/bytealg.CountString", "internal/bytealg.IndexString", "internal/abi.NoEscape", "internal/bytealg.MakeNoZero", "math.archFloor", "math.Float64bits", "math.Float64frombits", "math.archTrunc", "internal/bytealg.IndexByte"], unfollowed := true, recurses := true, named := ["unicode/utf8.first", "unicode/utf8.acceptRanges", "internal/bytealg.MaxLen"], plainKeys := false, apart := false, laid := [("unicode/utf8.acceptRanges", laid_unicode_utf8_acceptRanges), ("unicode/utf8.first", laid_unicode_utf8_first)] }
def CpioNumbersSaid : Prop := cpioNumbersRow.holds Tryz.pinned (OpenSpec.ofChange cpioNumbersSpec)

/-- ITS FALSE NEIGHBOUR: 'it returns false'. Refute it at one input. -/
def cpioNumbersWrong : ChangeSpec := { name := "cpioNumbers", fn := fun _ => fun
  | [d] => { results := [.lit (.bool false)], args := [d] }
  | _ => none }
def CpioNumbersWrongFalsely : Prop := cpioNumbersRow.holds Tryz.pinned (OpenSpec.ofChange cpioNumbersWrong)

/- THE SECOND FORM. 'bulk': how many values and letters a reading holds, each counted each time it is reached (what is shared counts as often as it is met; a slice's spare places count too). A statement '..UptoSaid' is the law's where the arguments, and the package variables that the reading takes, are together of bulk at most 1048576: NARROWER than '..Said'. Prove '..Said' where nothing that the law and all that it calls make is longer than what came in: it says more and counts as full. Else prove '..UptoSaid'. A law counts once. -/
mutual
def uptoBulk {H : Type} : DataW H → Nat
  | .lit (.string bytes) => bytes.length + 1
  | .lit _ => 1
  | .nil => 1
  | .ptr d => uptoBulk d + 1
  | .slice elems spare => uptoBulkAll elems + uptoBulkAll spare + 1
  | .agg parts => uptoBulkAll parts + 1
  | .iface _ d => uptoBulk d + 1
  | .map entries => uptoBulkEntries entries + 1
  | .held _ => 1
def uptoBulkAll {H : Type} : List (DataW H) → Nat
  | [] => 0
  | d :: r => uptoBulk d + uptoBulkAll r
def uptoBulkEntries {H : Type} : List (Lit × DataW H) → Nat
  | [] => 0
  | x :: r => uptoBulkEntry x + uptoBulkEntries r
def uptoBulkEntry {H : Type} : Lit × DataW H → Nat
  | (.string bytes, d) => bytes.length + uptoBulk d + 1
  | (_, d) => uptoBulk d + 1
 end
def uptoSmall : (H : Type) → List (DataW H) → Bool := fun _ ds => decide (uptoBulkAll ds ≤ 1048576)
def OpenSpec.upto (s : _root_.Go.ChangeSpec) : _root_.Go.OpenSpec := { _root_.Go.OpenSpec.ofChange s with cond := some uptoSmall }

/-- 'stevedorelaw26.CpioWrites', WHERE WHAT IT READS IS OF BULK AT MOST 1048576: true; the input reads as it did. -/
def cpioWritesUptoRow : OpenClaim := { program := "ytpghionmmlidnaagreatdoor", sum := "ef3d48d08910a76d4dd40185ccf7e404fad429eebc8cb477f56b35d574ae4f74", func := "stevedore/stevedorelaw26.CpioWrites", spec := "cpioWrites", inPlace := ["internal/bytealg.IndexByteString", "internal/bytealg.CountString", "internal/bytealg.IndexString", "internal/abi.NoEscape", "internal/bytealg.MakeNoZero", "math.archFloor", "math.Float64bits", "math.Float64frombits", "math.archTrunc", "internal/bytealg.IndexByte"], unfollowed := true, recurses := true, named := ["unicode/utf8.first", "unicode/utf8.acceptRanges", "internal/bytealg.MaxLen"], plainKeys := false, apart := false, laid := [("unicode/utf8.acceptRanges", laid_unicode_utf8_acceptRanges), ("unicode/utf8.first", laid_unicode_utf8_first)], narrowed := true }
def CpioWritesUptoSaid : Prop := cpioWritesUptoRow.holds Tryz.pinned (OpenSpec.upto cpioWritesSpec)

/-- 'stevedorelaw26.CpioBack', WHERE WHAT IT READS IS OF BULK AT MOST 1048576: true; the input reads as it did. -/
def cpioBackUptoRow : OpenClaim := { program := "ytpghionmmlidnaagreatdoor", sum := "ef3d48d08910a76d4dd40185ccf7e404fad429eebc8cb477f56b35d574ae4f74", func := "stevedore/stevedorelaw26.CpioBack", spec := "cpioBack", inPlace := ["internal/bytealg.IndexByteString", "internal/bytealg.CountString", "internal/bytealg.IndexString", "internal/abi.NoEscape", "internal/bytealg.MakeNoZero", "math.archFloor", "math.Float64bits", "math.Float64frombits", "math.archTrunc", "internal/bytealg.IndexByte"], unfollowed := true, recurses := true, named := ["unicode/utf8.first", "unicode/utf8.acceptRanges", "internal/bytealg.MaxLen"], plainKeys := false, apart := false, laid := [("unicode/utf8.acceptRanges", laid_unicode_utf8_acceptRanges), ("unicode/utf8.first", laid_unicode_utf8_first)], narrowed := true }
def CpioBackUptoSaid : Prop := cpioBackUptoRow.holds Tryz.pinned (OpenSpec.upto cpioBackSpec)

/-- 'stevedorelaw26.CpioOne', WHERE WHAT IT READS IS OF BULK AT MOST 1048576: true; the input reads as it did. -/
def cpioOneUptoRow : OpenClaim := { program := "ytpghionmmlidnaagreatdoor", sum := "ef3d48d08910a76d4dd40185ccf7e404fad429eebc8cb477f56b35d574ae4f74", func := "stevedore/stevedorelaw26.CpioOne", spec := "cpioOne", inPlace := ["internal/bytealg.IndexByteString", "internal/bytealg.CountString", "internal/bytealg.IndexString", "internal/abi.NoEscape", "internal/bytealg.MakeNoZero", "math.archFloor", "math.Float64bits", "math.Float64frombits", "math.archTrunc", "internal/bytealg.IndexByte"], unfollowed := true, recurses := true, named := ["unicode/utf8.first", "unicode/utf8.acceptRanges", "internal/bytealg.MaxLen"], plainKeys := false, apart := false, laid := [("unicode/utf8.acceptRanges", laid_unicode_utf8_acceptRanges), ("unicode/utf8.first", laid_unicode_utf8_first)], narrowed := true }
def CpioOneUptoSaid : Prop := cpioOneUptoRow.holds Tryz.pinned (OpenSpec.upto cpioOneSpec)

/-- 'stevedorelaw26.CpioLimits', WHERE WHAT IT READS IS OF BULK AT MOST 1048576: true; the input reads as it did. -/
def cpioLimitsUptoRow : OpenClaim := { program := "ytpghionmmlidnaagreatdoor", sum := "ef3d48d08910a76d4dd40185ccf7e404fad429eebc8cb477f56b35d574ae4f74", func := "stevedore/stevedorelaw26.CpioLimits", spec := "cpioLimits", inPlace := ["internal/bytealg.IndexByteString", "internal/bytealg.CountString", "internal/bytealg.IndexString", "internal/abi.NoEscape", "internal/bytealg.MakeNoZero", "math.archFloor", "math.Float64bits", "math.Float64frombits", "math.archTrunc", "internal/bytealg.IndexByte"], unfollowed := true, recurses := true, named := ["unicode/utf8.first", "unicode/utf8.acceptRanges", "internal/bytealg.MaxLen"], plainKeys := false, apart := false, laid := [("unicode/utf8.acceptRanges", laid_unicode_utf8_acceptRanges), ("unicode/utf8.first", laid_unicode_utf8_first)], narrowed := true }
def CpioLimitsUptoSaid : Prop := cpioLimitsUptoRow.holds Tryz.pinned (OpenSpec.upto cpioLimitsSpec)

/-- 'stevedorelaw26.CpioLetters', WHERE WHAT IT READS IS OF BULK AT MOST 1048576: true; the input reads as it did. -/
def cpioLettersUptoRow : OpenClaim := { program := "ytpghionmmlidnaagreatdoor", sum := "ef3d48d08910a76d4dd40185ccf7e404fad429eebc8cb477f56b35d574ae4f74", func := "stevedore/stevedorelaw26.CpioLetters", spec := "cpioLetters", inPlace := ["internal/bytealg.IndexByteString", "internal/bytealg.CountString", "internal/bytealg.IndexString", "internal/abi.NoEscape", "internal/bytealg.MakeNoZero", "math.archFloor", "math.Float64bits", "math.Float64frombits", "math.archTrunc", "internal/bytealg.IndexByte"], unfollowed := true, recurses := true, named := ["unicode/utf8.first", "unicode/utf8.acceptRanges", "internal/bytealg.MaxLen"], plainKeys := false, apart := false, laid := [("unicode/utf8.acceptRanges", laid_unicode_utf8_acceptRanges), ("unicode/utf8.first", laid_unicode_utf8_first)], narrowed := true }
def CpioLettersUptoSaid : Prop := cpioLettersUptoRow.holds Tryz.pinned (OpenSpec.upto cpioLettersSpec)

/-- 'stevedorelaw26.CpioNumbers', WHERE WHAT IT READS IS OF BULK AT MOST 1048576: true; the input reads as it did. -/
def cpioNumbersUptoRow : OpenClaim := { program := "ytpghionmmlidnaagreatdoor", sum := "ef3d48d08910a76d4dd40185ccf7e404fad429eebc8cb477f56b35d574ae4f74", func := "stevedore/stevedorelaw26.CpioNumbers", spec := "cpioNumbers", inPlace := ["internal/bytealg.IndexByteString", "internal/bytealg.CountString", "internal/bytealg.IndexString", "internal/abi.NoEscape", "internal/bytealg.MakeNoZero", "math.archFloor", "math.Float64bits", "math.Float64frombits", "math.archTrunc", "internal/bytealg.IndexByte"], unfollowed := true, recurses := true, named := ["unicode/utf8.first", "unicode/utf8.acceptRanges", "internal/bytealg.MaxLen"], plainKeys := false, apart := false, laid := [("unicode/utf8.acceptRanges", laid_unicode_utf8_acceptRanges), ("unicode/utf8.first", laid_unicode_utf8_first)], narrowed := true }
def CpioNumbersUptoSaid : Prop := cpioNumbersUptoRow.holds Tryz.pinned (OpenSpec.upto cpioNumbersSpec)

end Rows
end Go.Proofs.YtpghionmmlidnaaGreatDoor
