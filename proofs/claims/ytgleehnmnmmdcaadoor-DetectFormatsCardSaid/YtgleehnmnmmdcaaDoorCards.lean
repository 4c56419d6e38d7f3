/-
  DERIVED. GIVEN WITH THE SEED: THE CARDS: each row of YtgleehnmnmmdcaaDoorRows.lean that lists a variable, with what it lists TIED to the program's text (the seventh form; the later family's looks); each row that meets fmt, with fmt's text TOLD by the authors' own Lean function (tested against real Go, not proved from fmt's source: count such statements apart). THE CARD IS WHAT COUNTS. Prove the row's statement (the work); the ties are given (YtgleehnmnmmdcaaDoorTie.lean); close each card by the builder's one call (the guide's Derived/Test/ToyasCard.lean, 'card_holds'). Laid BY PROGRAM, IN A SANDBOX (cutbox-door.mjs). By AI agents, Wed Nov 11 2026. No macro, syntax, notation, axiom, sorry.
-/
import Derived.Test.YtgleehnmnmmdcaaDoorRows
import GoSem.ClaimSeven
namespace Go.Proofs.YtgleehnmnmmdcaaDoor
namespace Rows

/-- THE TIED CARD OF 'stevedorelaw30.DetectFormats'. -/
def detectFormatsCard : Claim7 := { stood := { row := detectFormatsRow, standIns := [], harness := (true, "ddb064963965ef0e389c96db06133c15d7bf0bfd4ff55cbfcef7e179fa31f944"), looks := true }, kinds := [], alts := [], laidByText := true, laidKinds := [.data, .pinned], laidTests := true, laidLooks := .later }
def DetectFormatsCardSaid : Prop := Claim7.holds Tryd.pinned (.plain (OpenSpec.ofChange detectFormatsSpec)) detectFormatsCard

/-- THE TIED CARD OF 'stevedorelaw30.DetectStays'. -/
def detectStaysCard : Claim7 := { stood := { row := detectStaysRow, standIns := [], harness := (true, "ddb064963965ef0e389c96db06133c15d7bf0bfd4ff55cbfcef7e179fa31f944"), looks := true }, kinds := [], alts := [], laidByText := true, laidKinds := [.data, .pinned], laidTests := true, laidLooks := .later }
def DetectStaysCardSaid : Prop := Claim7.holds Tryd.pinned (.plain (OpenSpec.ofChange detectStaysSpec)) detectStaysCard

/-- THE TIED CARD OF 'stevedorelaw30.DetectNames'. -/
def detectNamesCard : Claim7 := { stood := { row := detectNamesRow, standIns := [], harness := (true, "ddb064963965ef0e389c96db06133c15d7bf0bfd4ff55cbfcef7e179fa31f944"), looks := true }, kinds := [], alts := [], laidByText := true, laidKinds := [.data, .pinned], laidTests := true, laidLooks := .later }
def DetectNamesCardSaid : Prop := Claim7.holds Tryd.pinned (.plain (OpenSpec.ofChange detectNamesSpec)) detectNamesCard

/-- THE TIED CARD OF 'stevedorelaw30.DetectBlind'. -/
def detectBlindCard : Claim7 := { stood := { row := detectBlindRow, standIns := [], harness := (true, "ddb064963965ef0e389c96db06133c15d7bf0bfd4ff55cbfcef7e179fa31f944"), looks := true }, kinds := [], alts := [], laidByText := true, laidKinds := [.data, .pinned], laidTests := true, laidLooks := .later }
def DetectBlindCardSaid : Prop := Claim7.holds Tryd.pinned (.plain (OpenSpec.ofChange detectBlindSpec)) detectBlindCard

/-- THE SECOND FORM's CARD OF 'stevedorelaw30.DetectFormats'. -/
def detectFormatsUptoCard : Claim7 := { stood := { row := detectFormatsUptoRow, standIns := [], harness := (true, "ddb064963965ef0e389c96db06133c15d7bf0bfd4ff55cbfcef7e179fa31f944"), looks := true }, kinds := [], alts := [], laidByText := true, laidKinds := [.data, .pinned], laidTests := true, laidLooks := .later }
def DetectFormatsUptoCardSaid : Prop := Claim7.holds Tryd.pinned (.plain (OpenSpec.upto detectFormatsSpec)) detectFormatsUptoCard

/-- THE SECOND FORM's CARD OF 'stevedorelaw30.DetectStays'. -/
def detectStaysUptoCard : Claim7 := { stood := { row := detectStaysUptoRow, standIns := [], harness := (true, "ddb064963965ef0e389c96db06133c15d7bf0bfd4ff55cbfcef7e179fa31f944"), looks := true }, kinds := [], alts := [], laidByText := true, laidKinds := [.data, .pinned], laidTests := true, laidLooks := .later }
def DetectStaysUptoCardSaid : Prop := Claim7.holds Tryd.pinned (.plain (OpenSpec.upto detectStaysSpec)) detectStaysUptoCard

/-- THE SECOND FORM's CARD OF 'stevedorelaw30.DetectNames'. -/
def detectNamesUptoCard : Claim7 := { stood := { row := detectNamesUptoRow, standIns := [], harness := (true, "ddb064963965ef0e389c96db06133c15d7bf0bfd4ff55cbfcef7e179fa31f944"), looks := true }, kinds := [], alts := [], laidByText := true, laidKinds := [.data, .pinned], laidTests := true, laidLooks := .later }
def DetectNamesUptoCardSaid : Prop := Claim7.holds Tryd.pinned (.plain (OpenSpec.upto detectNamesSpec)) detectNamesUptoCard

/-- THE SECOND FORM's CARD OF 'stevedorelaw30.DetectBlind'. -/
def detectBlindUptoCard : Claim7 := { stood := { row := detectBlindUptoRow, standIns := [], harness := (true, "ddb064963965ef0e389c96db06133c15d7bf0bfd4ff55cbfcef7e179fa31f944"), looks := true }, kinds := [], alts := [], laidByText := true, laidKinds := [.data, .pinned], laidTests := true, laidLooks := .later }
def DetectBlindUptoCardSaid : Prop := Claim7.holds Tryd.pinned (.plain (OpenSpec.upto detectBlindSpec)) detectBlindUptoCard
end Rows
end Go.Proofs.YtgleehnmnmmdcaaDoor
