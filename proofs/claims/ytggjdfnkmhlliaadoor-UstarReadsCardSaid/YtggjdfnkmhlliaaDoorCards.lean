/-
  DERIVED. GIVEN WITH THE SEED: THE CARDS: each row of YtggjdfnkmhlliaaDoorRows.lean that lists a variable, with what it lists TIED to the program's text (the seventh form; the later family's looks); each row that meets fmt, with fmt's text TOLD by the authors' own Lean function (tested against real Go, not proved from fmt's source: count such statements apart). THE CARD IS WHAT COUNTS. Prove the row's statement (the work); the ties are given (YtggjdfnkmhlliaaDoorTie.lean); close each card by the builder's one call (the guide's Derived/Test/ToyasCard.lean, 'card_holds'). Laid BY PROGRAM, IN A SANDBOX (cutbox-door.mjs). By AI agents, Wed Nov 11 2026. No macro, syntax, notation, axiom, sorry.
-/
import Derived.Test.YtggjdfnkmhlliaaDoorRows
import GoSem.ClaimSeven
namespace Go.Proofs.YtggjdfnkmhlliaaDoor
namespace Rows

/-- THE TIED CARD OF 'stevedorelaw23.UstarReads'. -/
def ustarReadsCard : Claim7 := { stood := { row := ustarReadsRow, standIns := [], harness := (true, "9c0f50537a383bc5e59ae8809375ba8406ae232d9bc1bfd7bb8f4d3b4b61c097"), looks := false }, kinds := [], alts := [], laidByText := true, laidKinds := [.data, .pinned], laidTests := true, laidLooks := .later }
def UstarReadsCardSaid : Prop := Claim7.holds Tryd.pinned (.plain (OpenSpec.ofChange ustarReadsSpec)) ustarReadsCard

/-- THE TIED CARD OF 'stevedorelaw23.UstarBack'. -/
def ustarBackCard : Claim7 := { stood := { row := ustarBackRow, standIns := [], harness := (true, "9c0f50537a383bc5e59ae8809375ba8406ae232d9bc1bfd7bb8f4d3b4b61c097"), looks := false }, kinds := [], alts := [], laidByText := true, laidKinds := [.data, .pinned], laidTests := true, laidLooks := .later }
def UstarBackCardSaid : Prop := Claim7.holds Tryd.pinned (.plain (OpenSpec.ofChange ustarBackSpec)) ustarBackCard

/-- THE TIED CARD OF 'stevedorelaw23.UstarFields'. -/
def ustarFieldsCard : Claim7 := { stood := { row := ustarFieldsRow, standIns := [], harness := (true, "9c0f50537a383bc5e59ae8809375ba8406ae232d9bc1bfd7bb8f4d3b4b61c097"), looks := false }, kinds := [], alts := [], laidByText := true, laidKinds := [.data, .pinned], laidTests := true, laidLooks := .later }
def UstarFieldsCardSaid : Prop := Claim7.holds Tryd.pinned (.plain (OpenSpec.ofChange ustarFieldsSpec)) ustarFieldsCard

/-- THE TIED CARD OF 'stevedorelaw23.UstarPuts'. -/
def ustarPutsCard : Claim7 := { stood := { row := ustarPutsRow, standIns := [], harness := (true, "9c0f50537a383bc5e59ae8809375ba8406ae232d9bc1bfd7bb8f4d3b4b61c097"), looks := false }, kinds := [], alts := [], laidByText := true, laidKinds := [.data, .pinned], laidTests := true, laidLooks := .later }
def UstarPutsCardSaid : Prop := Claim7.holds Tryd.pinned (.plain (OpenSpec.ofChange ustarPutsSpec)) ustarPutsCard

/-- THE TIED CARD OF 'stevedorelaw23.UstarParts'. -/
def ustarPartsCard : Claim7 := { stood := { row := ustarPartsRow, standIns := [], harness := (true, "9c0f50537a383bc5e59ae8809375ba8406ae232d9bc1bfd7bb8f4d3b4b61c097"), looks := false }, kinds := [], alts := [], laidByText := true, laidKinds := [.data, .pinned], laidTests := true, laidLooks := .later }
def UstarPartsCardSaid : Prop := Claim7.holds Tryd.pinned (.plain (OpenSpec.ofChange ustarPartsSpec)) ustarPartsCard

/-- THE SECOND FORM's CARD OF 'stevedorelaw23.UstarReads'. -/
def ustarReadsUptoCard : Claim7 := { stood := { row := ustarReadsUptoRow, standIns := [], harness := (true, "9c0f50537a383bc5e59ae8809375ba8406ae232d9bc1bfd7bb8f4d3b4b61c097"), looks := false }, kinds := [], alts := [], laidByText := true, laidKinds := [.data, .pinned], laidTests := true, laidLooks := .later }
def UstarReadsUptoCardSaid : Prop := Claim7.holds Tryd.pinned (.plain (OpenSpec.upto ustarReadsSpec)) ustarReadsUptoCard

/-- THE SECOND FORM's CARD OF 'stevedorelaw23.UstarBack'. -/
def ustarBackUptoCard : Claim7 := { stood := { row := ustarBackUptoRow, standIns := [], harness := (true, "9c0f50537a383bc5e59ae8809375ba8406ae232d9bc1bfd7bb8f4d3b4b61c097"), looks := false }, kinds := [], alts := [], laidByText := true, laidKinds := [.data, .pinned], laidTests := true, laidLooks := .later }
def UstarBackUptoCardSaid : Prop := Claim7.holds Tryd.pinned (.plain (OpenSpec.upto ustarBackSpec)) ustarBackUptoCard

/-- THE SECOND FORM's CARD OF 'stevedorelaw23.UstarFields'. -/
def ustarFieldsUptoCard : Claim7 := { stood := { row := ustarFieldsUptoRow, standIns := [], harness := (true, "9c0f50537a383bc5e59ae8809375ba8406ae232d9bc1bfd7bb8f4d3b4b61c097"), looks := false }, kinds := [], alts := [], laidByText := true, laidKinds := [.data, .pinned], laidTests := true, laidLooks := .later }
def UstarFieldsUptoCardSaid : Prop := Claim7.holds Tryd.pinned (.plain (OpenSpec.upto ustarFieldsSpec)) ustarFieldsUptoCard

/-- THE SECOND FORM's CARD OF 'stevedorelaw23.UstarPuts'. -/
def ustarPutsUptoCard : Claim7 := { stood := { row := ustarPutsUptoRow, standIns := [], harness := (true, "9c0f50537a383bc5e59ae8809375ba8406ae232d9bc1bfd7bb8f4d3b4b61c097"), looks := false }, kinds := [], alts := [], laidByText := true, laidKinds := [.data, .pinned], laidTests := true, laidLooks := .later }
def UstarPutsUptoCardSaid : Prop := Claim7.holds Tryd.pinned (.plain (OpenSpec.upto ustarPutsSpec)) ustarPutsUptoCard

/-- THE SECOND FORM's CARD OF 'stevedorelaw23.UstarParts'. -/
def ustarPartsUptoCard : Claim7 := { stood := { row := ustarPartsUptoRow, standIns := [], harness := (true, "9c0f50537a383bc5e59ae8809375ba8406ae232d9bc1bfd7bb8f4d3b4b61c097"), looks := false }, kinds := [], alts := [], laidByText := true, laidKinds := [.data, .pinned], laidTests := true, laidLooks := .later }
def UstarPartsUptoCardSaid : Prop := Claim7.holds Tryd.pinned (.plain (OpenSpec.upto ustarPartsSpec)) ustarPartsUptoCard
end Rows
end Go.Proofs.YtggjdfnkmhlliaaDoor
