/-
  DERIVED. GIVEN WITH THE SEED: THE CARDS: each row of YtpghionmmlidnaaGreatDoorRows.lean that lists a variable, with what it lists TIED to the program's text (the seventh form; the later family's looks); each row that meets fmt, with fmt's text TOLD by the authors' own Lean function (tested against real Go, not proved from fmt's source: count such statements apart). THE CARD IS WHAT COUNTS. Prove the row's statement (the work); the ties are given (YtpghionmmlidnaaGreatDoorTie.lean); close each card by the builder's one call (the guide's Derived/Test/ToyasCard.lean, 'card_holds'). Laid BY PROGRAM, IN A SANDBOX (cutbox-door.mjs). By AI agents, Wed Nov 11 2026. No macro, syntax, notation, axiom, sorry.
-/
import Derived.Test.YtpghionmmlidnaaGreatDoorRows
import GoSem.ClaimSeven
namespace Go.Proofs.YtpghionmmlidnaaGreatDoor
namespace Rows

/-- THE TIED CARD OF 'stevedorelaw26.CpioWrites'. -/
def cpioWritesCard : Claim7 := { stood := { row := cpioWritesRow, standIns := [], harness := (true, "5b3cc150df7d9c4f637b868ba4d6ffa1652cf81aa9833beecf2ea123d3d7c424"), looks := true }, kinds := [], alts := [], laidByText := true, laidKinds := [.data, .pinned], laidTests := true, laidLooks := .later }
def CpioWritesCardSaid : Prop := Claim7.holds Tryz.pinned (.plain (OpenSpec.ofChange cpioWritesSpec)) cpioWritesCard

/-- THE TIED CARD OF 'stevedorelaw26.CpioBack'. -/
def cpioBackCard : Claim7 := { stood := { row := cpioBackRow, standIns := [], harness := (true, "5b3cc150df7d9c4f637b868ba4d6ffa1652cf81aa9833beecf2ea123d3d7c424"), looks := true }, kinds := [], alts := [], laidByText := true, laidKinds := [.data, .pinned], laidTests := true, laidLooks := .later }
def CpioBackCardSaid : Prop := Claim7.holds Tryz.pinned (.plain (OpenSpec.ofChange cpioBackSpec)) cpioBackCard

/-- THE TIED CARD OF 'stevedorelaw26.CpioOne'. -/
def cpioOneCard : Claim7 := { stood := { row := cpioOneRow, standIns := [], harness := (true, "5b3cc150df7d9c4f637b868ba4d6ffa1652cf81aa9833beecf2ea123d3d7c424"), looks := true }, kinds := [], alts := [], laidByText := true, laidKinds := [.data, .pinned], laidTests := true, laidLooks := .later }
def CpioOneCardSaid : Prop := Claim7.holds Tryz.pinned (.plain (OpenSpec.ofChange cpioOneSpec)) cpioOneCard

/-- THE TIED CARD OF 'stevedorelaw26.CpioLimits'. -/
def cpioLimitsCard : Claim7 := { stood := { row := cpioLimitsRow, standIns := [], harness := (true, "5b3cc150df7d9c4f637b868ba4d6ffa1652cf81aa9833beecf2ea123d3d7c424"), looks := true }, kinds := [], alts := [], laidByText := true, laidKinds := [.data, .pinned], laidTests := true, laidLooks := .later }
def CpioLimitsCardSaid : Prop := Claim7.holds Tryz.pinned (.plain (OpenSpec.ofChange cpioLimitsSpec)) cpioLimitsCard

/-- THE TIED CARD OF 'stevedorelaw26.CpioLetters'. -/
def cpioLettersCard : Claim7 := { stood := { row := cpioLettersRow, standIns := [], harness := (true, "5b3cc150df7d9c4f637b868ba4d6ffa1652cf81aa9833beecf2ea123d3d7c424"), looks := true }, kinds := [], alts := [], laidByText := true, laidKinds := [.data, .pinned], laidTests := true, laidLooks := .later }
def CpioLettersCardSaid : Prop := Claim7.holds Tryz.pinned (.plain (OpenSpec.ofChange cpioLettersSpec)) cpioLettersCard

/-- THE TIED CARD OF 'stevedorelaw26.CpioNumbers'. -/
def cpioNumbersCard : Claim7 := { stood := { row := cpioNumbersRow, standIns := [], harness := (true, "5b3cc150df7d9c4f637b868ba4d6ffa1652cf81aa9833beecf2ea123d3d7c424"), looks := true }, kinds := [], alts := [], laidByText := true, laidKinds := [.data, .pinned], laidTests := true, laidLooks := .later }
def CpioNumbersCardSaid : Prop := Claim7.holds Tryz.pinned (.plain (OpenSpec.ofChange cpioNumbersSpec)) cpioNumbersCard

/-- THE SECOND FORM's CARD OF 'stevedorelaw26.CpioWrites'. -/
def cpioWritesUptoCard : Claim7 := { stood := { row := cpioWritesUptoRow, standIns := [], harness := (true, "5b3cc150df7d9c4f637b868ba4d6ffa1652cf81aa9833beecf2ea123d3d7c424"), looks := true }, kinds := [], alts := [], laidByText := true, laidKinds := [.data, .pinned], laidTests := true, laidLooks := .later }
def CpioWritesUptoCardSaid : Prop := Claim7.holds Tryz.pinned (.plain (OpenSpec.upto cpioWritesSpec)) cpioWritesUptoCard

/-- THE SECOND FORM's CARD OF 'stevedorelaw26.CpioBack'. -/
def cpioBackUptoCard : Claim7 := { stood := { row := cpioBackUptoRow, standIns := [], harness := (true, "5b3cc150df7d9c4f637b868ba4d6ffa1652cf81aa9833beecf2ea123d3d7c424"), looks := true }, kinds := [], alts := [], laidByText := true, laidKinds := [.data, .pinned], laidTests := true, laidLooks := .later }
def CpioBackUptoCardSaid : Prop := Claim7.holds Tryz.pinned (.plain (OpenSpec.upto cpioBackSpec)) cpioBackUptoCard

/-- THE SECOND FORM's CARD OF 'stevedorelaw26.CpioOne'. -/
def cpioOneUptoCard : Claim7 := { stood := { row := cpioOneUptoRow, standIns := [], harness := (true, "5b3cc150df7d9c4f637b868ba4d6ffa1652cf81aa9833beecf2ea123d3d7c424"), looks := true }, kinds := [], alts := [], laidByText := true, laidKinds := [.data, .pinned], laidTests := true, laidLooks := .later }
def CpioOneUptoCardSaid : Prop := Claim7.holds Tryz.pinned (.plain (OpenSpec.upto cpioOneSpec)) cpioOneUptoCard

/-- THE SECOND FORM's CARD OF 'stevedorelaw26.CpioLimits'. -/
def cpioLimitsUptoCard : Claim7 := { stood := { row := cpioLimitsUptoRow, standIns := [], harness := (true, "5b3cc150df7d9c4f637b868ba4d6ffa1652cf81aa9833beecf2ea123d3d7c424"), looks := true }, kinds := [], alts := [], laidByText := true, laidKinds := [.data, .pinned], laidTests := true, laidLooks := .later }
def CpioLimitsUptoCardSaid : Prop := Claim7.holds Tryz.pinned (.plain (OpenSpec.upto cpioLimitsSpec)) cpioLimitsUptoCard

/-- THE SECOND FORM's CARD OF 'stevedorelaw26.CpioLetters'. -/
def cpioLettersUptoCard : Claim7 := { stood := { row := cpioLettersUptoRow, standIns := [], harness := (true, "5b3cc150df7d9c4f637b868ba4d6ffa1652cf81aa9833beecf2ea123d3d7c424"), looks := true }, kinds := [], alts := [], laidByText := true, laidKinds := [.data, .pinned], laidTests := true, laidLooks := .later }
def CpioLettersUptoCardSaid : Prop := Claim7.holds Tryz.pinned (.plain (OpenSpec.upto cpioLettersSpec)) cpioLettersUptoCard

/-- THE SECOND FORM's CARD OF 'stevedorelaw26.CpioNumbers'. -/
def cpioNumbersUptoCard : Claim7 := { stood := { row := cpioNumbersUptoRow, standIns := [], harness := (true, "5b3cc150df7d9c4f637b868ba4d6ffa1652cf81aa9833beecf2ea123d3d7c424"), looks := true }, kinds := [], alts := [], laidByText := true, laidKinds := [.data, .pinned], laidTests := true, laidLooks := .later }
def CpioNumbersUptoCardSaid : Prop := Claim7.holds Tryz.pinned (.plain (OpenSpec.upto cpioNumbersSpec)) cpioNumbersUptoCard
end Rows
end Go.Proofs.YtpghionmmlidnaaGreatDoor
