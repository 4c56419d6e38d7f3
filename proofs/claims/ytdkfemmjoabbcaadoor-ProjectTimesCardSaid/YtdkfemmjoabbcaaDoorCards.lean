/-
  DERIVED. GIVEN WITH THE SEED: THE CARDS: each row of YtdkfemmjoabbcaaDoorRows.lean that lists a variable, with what it lists TIED to the program's text (the seventh form; the later family's looks); each row that meets fmt, with fmt's text TOLD by the authors' own Lean function (tested against real Go, not proved from fmt's source: count such statements apart). THE CARD IS WHAT COUNTS. Prove the row's statement (the work); the ties are given (YtdkfemmjoabbcaaDoorTie.lean); close each card by the builder's one call (the guide's Derived/Test/ToyasCard.lean, 'card_holds'). Laid BY PROGRAM, IN A SANDBOX (cutbox-door.mjs). By AI agents, Wed Nov 11 2026. No macro, syntax, notation, axiom, sorry.
-/
import Derived.Test.YtdkfemmjoabbcaaDoorRows
import GoSem.ClaimSeven
namespace Go.Proofs.YtdkfemmjoabbcaaDoor
namespace Rows

/-- THE TIED CARD OF 'stevedorelaw21.ProjectTimes'. -/
def projectTimesCard : Claim7 := { stood := { row := projectTimesRow, standIns := [], harness := (true, "2bb0b7a1c96d54b84d8ff5aab4b9d4aefc45df5fa9d278eb8515cf97c2f55cd4"), looks := false }, kinds := [], alts := [], laidByText := true, laidKinds := [.data, .pinned], laidTests := true, laidLooks := .later }
def ProjectTimesCardSaid : Prop := Claim7.holds Tryd.pinned (.plain (OpenSpec.ofChange projectTimesSpec)) projectTimesCard

/-- THE TIED CARD OF 'stevedorelaw21.ProjectHolds'. -/
def projectHoldsCard : Claim7 := { stood := { row := projectHoldsRow, standIns := [], harness := (true, "2bb0b7a1c96d54b84d8ff5aab4b9d4aefc45df5fa9d278eb8515cf97c2f55cd4"), looks := false }, kinds := [], alts := [], laidByText := true, laidKinds := [.data, .pinned], laidTests := true, laidLooks := .later }
def ProjectHoldsCardSaid : Prop := Claim7.holds Tryd.pinned (.plain (OpenSpec.ofChange projectHoldsSpec)) projectHoldsCard

/-- THE TIED CARD OF 'stevedorelaw21.ProjectChain'. -/
def projectChainCard : Claim7 := { stood := { row := projectChainRow, standIns := [], harness := (true, "2bb0b7a1c96d54b84d8ff5aab4b9d4aefc45df5fa9d278eb8515cf97c2f55cd4"), looks := false }, kinds := [], alts := [], laidByText := true, laidKinds := [.data, .pinned], laidTests := true, laidLooks := .later }
def ProjectChainCardSaid : Prop := Claim7.holds Tryd.pinned (.plain (OpenSpec.ofChange projectChainSpec)) projectChainCard

/-- THE TIED CARD OF 'stevedorelaw21.ProjectAll'. -/
def projectAllCard : Claim7 := { stood := { row := projectAllRow, standIns := [], harness := (true, "2bb0b7a1c96d54b84d8ff5aab4b9d4aefc45df5fa9d278eb8515cf97c2f55cd4"), looks := false }, kinds := [], alts := [], laidByText := true, laidKinds := [.data, .pinned], laidTests := true, laidLooks := .later }
def ProjectAllCardSaid : Prop := Claim7.holds Tryd.pinned (.plain (OpenSpec.ofChange projectAllSpec)) projectAllCard

/-- THE TIED CARD OF 'stevedorelaw21.ProjectTwice'. -/
def projectTwiceCard : Claim7 := { stood := { row := projectTwiceRow, standIns := [], harness := (true, "2bb0b7a1c96d54b84d8ff5aab4b9d4aefc45df5fa9d278eb8515cf97c2f55cd4"), looks := false }, kinds := [], alts := [], laidByText := true, laidKinds := [.data, .pinned], laidTests := true, laidLooks := .later }
def ProjectTwiceCardSaid : Prop := Claim7.holds Tryd.pinned (.plain (OpenSpec.ofChange projectTwiceSpec)) projectTwiceCard

/-- THE SECOND FORM's CARD OF 'stevedorelaw21.ProjectTimes'. -/
def projectTimesUptoCard : Claim7 := { stood := { row := projectTimesUptoRow, standIns := [], harness := (true, "2bb0b7a1c96d54b84d8ff5aab4b9d4aefc45df5fa9d278eb8515cf97c2f55cd4"), looks := false }, kinds := [], alts := [], laidByText := true, laidKinds := [.data, .pinned], laidTests := true, laidLooks := .later }
def ProjectTimesUptoCardSaid : Prop := Claim7.holds Tryd.pinned (.plain (OpenSpec.upto projectTimesSpec)) projectTimesUptoCard

/-- THE SECOND FORM's CARD OF 'stevedorelaw21.ProjectHolds'. -/
def projectHoldsUptoCard : Claim7 := { stood := { row := projectHoldsUptoRow, standIns := [], harness := (true, "2bb0b7a1c96d54b84d8ff5aab4b9d4aefc45df5fa9d278eb8515cf97c2f55cd4"), looks := false }, kinds := [], alts := [], laidByText := true, laidKinds := [.data, .pinned], laidTests := true, laidLooks := .later }
def ProjectHoldsUptoCardSaid : Prop := Claim7.holds Tryd.pinned (.plain (OpenSpec.upto projectHoldsSpec)) projectHoldsUptoCard

/-- THE SECOND FORM's CARD OF 'stevedorelaw21.ProjectChain'. -/
def projectChainUptoCard : Claim7 := { stood := { row := projectChainUptoRow, standIns := [], harness := (true, "2bb0b7a1c96d54b84d8ff5aab4b9d4aefc45df5fa9d278eb8515cf97c2f55cd4"), looks := false }, kinds := [], alts := [], laidByText := true, laidKinds := [.data, .pinned], laidTests := true, laidLooks := .later }
def ProjectChainUptoCardSaid : Prop := Claim7.holds Tryd.pinned (.plain (OpenSpec.upto projectChainSpec)) projectChainUptoCard

/-- THE SECOND FORM's CARD OF 'stevedorelaw21.ProjectAll'. -/
def projectAllUptoCard : Claim7 := { stood := { row := projectAllUptoRow, standIns := [], harness := (true, "2bb0b7a1c96d54b84d8ff5aab4b9d4aefc45df5fa9d278eb8515cf97c2f55cd4"), looks := false }, kinds := [], alts := [], laidByText := true, laidKinds := [.data, .pinned], laidTests := true, laidLooks := .later }
def ProjectAllUptoCardSaid : Prop := Claim7.holds Tryd.pinned (.plain (OpenSpec.upto projectAllSpec)) projectAllUptoCard

/-- THE SECOND FORM's CARD OF 'stevedorelaw21.ProjectTwice'. -/
def projectTwiceUptoCard : Claim7 := { stood := { row := projectTwiceUptoRow, standIns := [], harness := (true, "2bb0b7a1c96d54b84d8ff5aab4b9d4aefc45df5fa9d278eb8515cf97c2f55cd4"), looks := false }, kinds := [], alts := [], laidByText := true, laidKinds := [.data, .pinned], laidTests := true, laidLooks := .later }
def ProjectTwiceUptoCardSaid : Prop := Claim7.holds Tryd.pinned (.plain (OpenSpec.upto projectTwiceSpec)) projectTwiceUptoCard
end Rows
end Go.Proofs.YtdkfemmjoabbcaaDoor
