/-
  DERIVED. GIVEN WITH THE SEED: THE CARDS: each row of YtihcdecdkpbpmaaDoorRows.lean that lists a variable, with what it lists TIED to the program's text (the seventh form; the later family's looks); each row that meets fmt, with fmt's text TOLD by the authors' own Lean function (tested against real Go, not proved from fmt's source: count such statements apart). THE CARD IS WHAT COUNTS. Prove the row's statement (the work); the ties are given (YtihcdecdkpbpmaaDoorTie.lean); close each card by the builder's one call (the guide's Derived/Test/ToyasCard.lean, 'card_holds'). Laid BY PROGRAM, IN A SANDBOX (cutbox-door.mjs). By AI agents, Wed Nov 11 2026. No macro, syntax, notation, axiom, sorry.
-/
import Derived.Test.YtihcdecdkpbpmaaDoorRows
import GoSem.ClaimSeven
namespace Go.Proofs.YtihcdecdkpbpmaaDoor
namespace Rows

/-- THE TIED CARD OF 'stevedorelaw20.EntryTreeHas'. -/
def entryTreeHasCard : Claim7 := { stood := { row := entryTreeHasRow, standIns := [], harness := (true, "c489b1b5b6c27b9ec26cb2ebfeb2e286ecc6397c22230c5698e83ab548873c86"), looks := false }, kinds := [], alts := [], laidByText := true, laidKinds := [.data, .pinned], laidTests := true, laidLooks := .later }
def EntryTreeHasCardSaid : Prop := Claim7.holds Tryd.pinned (.plain (OpenSpec.ofChange entryTreeHasSpec)) entryTreeHasCard

/-- THE TIED CARD OF 'stevedorelaw20.EntryEdges'. -/
def entryEdgesCard : Claim7 := { stood := { row := entryEdgesRow, standIns := [], harness := (true, "c489b1b5b6c27b9ec26cb2ebfeb2e286ecc6397c22230c5698e83ab548873c86"), looks := false }, kinds := [], alts := [], laidByText := true, laidKinds := [.data, .pinned], laidTests := true, laidLooks := .later }
def EntryEdgesCardSaid : Prop := Claim7.holds Tryd.pinned (.plain (OpenSpec.ofChange entryEdgesSpec)) entryEdgesCard

/-- THE TIED CARD OF 'stevedorelaw20.EntryHards'. -/
def entryHardsCard : Claim7 := { stood := { row := entryHardsRow, standIns := [], harness := (true, "c489b1b5b6c27b9ec26cb2ebfeb2e286ecc6397c22230c5698e83ab548873c86"), looks := false }, kinds := [], alts := [], laidByText := true, laidKinds := [.data, .pinned], laidTests := true, laidLooks := .later }
def EntryHardsCardSaid : Prop := Claim7.holds Tryd.pinned (.plain (OpenSpec.ofChange entryHardsSpec)) entryHardsCard

/-- THE TIED CARD OF 'stevedorelaw20.EntryTrees'. -/
def entryTreesCard : Claim7 := { stood := { row := entryTreesRow, standIns := [], harness := (true, "c489b1b5b6c27b9ec26cb2ebfeb2e286ecc6397c22230c5698e83ab548873c86"), looks := false }, kinds := [], alts := [], laidByText := true, laidKinds := [.data, .pinned], laidTests := true, laidLooks := .later }
def EntryTreesCardSaid : Prop := Claim7.holds Tryd.pinned (.plain (OpenSpec.ofChange entryTreesSpec)) entryTreesCard

/-- THE TIED CARD OF 'stevedorelaw20.EntryMays'. -/
def entryMaysCard : Claim7 := { stood := { row := entryMaysRow, standIns := [], harness := (true, "c489b1b5b6c27b9ec26cb2ebfeb2e286ecc6397c22230c5698e83ab548873c86"), looks := false }, kinds := [], alts := [], laidByText := true, laidKinds := [.data, .pinned], laidTests := true, laidLooks := .later }
def EntryMaysCardSaid : Prop := Claim7.holds Tryd.pinned (.plain (OpenSpec.ofChange entryMaysSpec)) entryMaysCard

/-- THE SECOND FORM's CARD OF 'stevedorelaw20.EntryTreeHas'. -/
def entryTreeHasUptoCard : Claim7 := { stood := { row := entryTreeHasUptoRow, standIns := [], harness := (true, "c489b1b5b6c27b9ec26cb2ebfeb2e286ecc6397c22230c5698e83ab548873c86"), looks := false }, kinds := [], alts := [], laidByText := true, laidKinds := [.data, .pinned], laidTests := true, laidLooks := .later }
def EntryTreeHasUptoCardSaid : Prop := Claim7.holds Tryd.pinned (.plain (OpenSpec.upto entryTreeHasSpec)) entryTreeHasUptoCard

/-- THE SECOND FORM's CARD OF 'stevedorelaw20.EntryEdges'. -/
def entryEdgesUptoCard : Claim7 := { stood := { row := entryEdgesUptoRow, standIns := [], harness := (true, "c489b1b5b6c27b9ec26cb2ebfeb2e286ecc6397c22230c5698e83ab548873c86"), looks := false }, kinds := [], alts := [], laidByText := true, laidKinds := [.data, .pinned], laidTests := true, laidLooks := .later }
def EntryEdgesUptoCardSaid : Prop := Claim7.holds Tryd.pinned (.plain (OpenSpec.upto entryEdgesSpec)) entryEdgesUptoCard

/-- THE SECOND FORM's CARD OF 'stevedorelaw20.EntryHards'. -/
def entryHardsUptoCard : Claim7 := { stood := { row := entryHardsUptoRow, standIns := [], harness := (true, "c489b1b5b6c27b9ec26cb2ebfeb2e286ecc6397c22230c5698e83ab548873c86"), looks := false }, kinds := [], alts := [], laidByText := true, laidKinds := [.data, .pinned], laidTests := true, laidLooks := .later }
def EntryHardsUptoCardSaid : Prop := Claim7.holds Tryd.pinned (.plain (OpenSpec.upto entryHardsSpec)) entryHardsUptoCard

/-- THE SECOND FORM's CARD OF 'stevedorelaw20.EntryTrees'. -/
def entryTreesUptoCard : Claim7 := { stood := { row := entryTreesUptoRow, standIns := [], harness := (true, "c489b1b5b6c27b9ec26cb2ebfeb2e286ecc6397c22230c5698e83ab548873c86"), looks := false }, kinds := [], alts := [], laidByText := true, laidKinds := [.data, .pinned], laidTests := true, laidLooks := .later }
def EntryTreesUptoCardSaid : Prop := Claim7.holds Tryd.pinned (.plain (OpenSpec.upto entryTreesSpec)) entryTreesUptoCard

/-- THE SECOND FORM's CARD OF 'stevedorelaw20.EntryMays'. -/
def entryMaysUptoCard : Claim7 := { stood := { row := entryMaysUptoRow, standIns := [], harness := (true, "c489b1b5b6c27b9ec26cb2ebfeb2e286ecc6397c22230c5698e83ab548873c86"), looks := false }, kinds := [], alts := [], laidByText := true, laidKinds := [.data, .pinned], laidTests := true, laidLooks := .later }
def EntryMaysUptoCardSaid : Prop := Claim7.holds Tryd.pinned (.plain (OpenSpec.upto entryMaysSpec)) entryMaysUptoCard
end Rows
end Go.Proofs.YtihcdecdkpbpmaaDoor
