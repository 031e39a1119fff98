/-
  DERIVED. GIVEN WITH THE SEED: THE CARDS: each row of YthlgggcpokfmaaaDoorRows.lean that lists a variable, with what it lists TIED to the program's text (the seventh form; the later family's looks); each row that meets fmt, with fmt's text TOLD by the authors' own Lean function (tested against real Go, not proved from fmt's source: count such statements apart). THE CARD IS WHAT COUNTS. Prove the row's statement (the work); the ties are given (YthlgggcpokfmaaaDoorTie.lean); close each card by the builder's one call (the guide's Derived/Test/ToyasCard.lean, 'card_holds'). Laid BY PROGRAM, IN A SANDBOX (cutbox-door.mjs). By AI agents, Wed Nov 11 2026. No macro, syntax, notation, axiom, sorry.
-/
import Derived.Test.YthlgggcpokfmaaaDoorRows
import GoSem.ClaimSeven
namespace Go.Proofs.YthlgggcpokfmaaaDoor
namespace Rows

/-- THE TIED CARD OF 'surdlaw17.BoundNames'. -/
def boundNamesCard : Claim7 := { stood := { row := boundNamesRow, standIns := [], harness := (true, "c04b6e54c9b7bd6a5032c9d00325550108fd62e506fa4614ae8dad4c44db5c4a"), looks := true }, kinds := [], alts := [], laidByText := true, laidKinds := [.data], laidTests := true, laidLooks := .later }
def BoundNamesCardSaid : Prop := Claim7.holds Tryd.pinned (.plain (OpenSpec.ofChange boundNamesSpec)) boundNamesCard

/-- THE TIED CARD OF 'surdlaw17.BoundNeeds'. -/
def boundNeedsCard : Claim7 := { stood := { row := boundNeedsRow, standIns := [], harness := (true, "c04b6e54c9b7bd6a5032c9d00325550108fd62e506fa4614ae8dad4c44db5c4a"), looks := true }, kinds := [], alts := [], laidByText := true, laidKinds := [.data], laidTests := true, laidLooks := .later }
def BoundNeedsCardSaid : Prop := Claim7.holds Tryd.pinned (.plain (OpenSpec.ofChange boundNeedsSpec)) boundNeedsCard

/-- THE TIED CARD OF 'surdlaw17.BoundReaches'. -/
def boundReachesCard : Claim7 := { stood := { row := boundReachesRow, standIns := [], harness := (true, "c04b6e54c9b7bd6a5032c9d00325550108fd62e506fa4614ae8dad4c44db5c4a"), looks := true }, kinds := [], alts := [], laidByText := true, laidKinds := [.data], laidTests := true, laidLooks := .later }
def BoundReachesCardSaid : Prop := Claim7.holds Tryd.pinned (.plain (OpenSpec.ofChange boundReachesSpec)) boundReachesCard

/-- THE TIED CARD OF 'surdlaw17.BoundGrows'. -/
def boundGrowsCard : Claim7 := { stood := { row := boundGrowsRow, standIns := [], harness := (true, "c04b6e54c9b7bd6a5032c9d00325550108fd62e506fa4614ae8dad4c44db5c4a"), looks := true }, kinds := [], alts := [], laidByText := true, laidKinds := [.data], laidTests := true, laidLooks := .later }
def BoundGrowsCardSaid : Prop := Claim7.holds Tryd.pinned (.plain (OpenSpec.ofChange boundGrowsSpec)) boundGrowsCard

/-- THE SECOND FORM's CARD OF 'surdlaw17.BoundNames'. -/
def boundNamesUptoCard : Claim7 := { stood := { row := boundNamesUptoRow, standIns := [], harness := (true, "c04b6e54c9b7bd6a5032c9d00325550108fd62e506fa4614ae8dad4c44db5c4a"), looks := true }, kinds := [], alts := [], laidByText := true, laidKinds := [.data], laidTests := true, laidLooks := .later }
def BoundNamesUptoCardSaid : Prop := Claim7.holds Tryd.pinned (.plain (OpenSpec.upto boundNamesSpec)) boundNamesUptoCard

/-- THE SECOND FORM's CARD OF 'surdlaw17.BoundNeeds'. -/
def boundNeedsUptoCard : Claim7 := { stood := { row := boundNeedsUptoRow, standIns := [], harness := (true, "c04b6e54c9b7bd6a5032c9d00325550108fd62e506fa4614ae8dad4c44db5c4a"), looks := true }, kinds := [], alts := [], laidByText := true, laidKinds := [.data], laidTests := true, laidLooks := .later }
def BoundNeedsUptoCardSaid : Prop := Claim7.holds Tryd.pinned (.plain (OpenSpec.upto boundNeedsSpec)) boundNeedsUptoCard

/-- THE SECOND FORM's CARD OF 'surdlaw17.BoundReaches'. -/
def boundReachesUptoCard : Claim7 := { stood := { row := boundReachesUptoRow, standIns := [], harness := (true, "c04b6e54c9b7bd6a5032c9d00325550108fd62e506fa4614ae8dad4c44db5c4a"), looks := true }, kinds := [], alts := [], laidByText := true, laidKinds := [.data], laidTests := true, laidLooks := .later }
def BoundReachesUptoCardSaid : Prop := Claim7.holds Tryd.pinned (.plain (OpenSpec.upto boundReachesSpec)) boundReachesUptoCard

/-- THE SECOND FORM's CARD OF 'surdlaw17.BoundGrows'. -/
def boundGrowsUptoCard : Claim7 := { stood := { row := boundGrowsUptoRow, standIns := [], harness := (true, "c04b6e54c9b7bd6a5032c9d00325550108fd62e506fa4614ae8dad4c44db5c4a"), looks := true }, kinds := [], alts := [], laidByText := true, laidKinds := [.data], laidTests := true, laidLooks := .later }
def BoundGrowsUptoCardSaid : Prop := Claim7.holds Tryd.pinned (.plain (OpenSpec.upto boundGrowsSpec)) boundGrowsUptoCard
end Rows
end Go.Proofs.YthlgggcpokfmaaaDoor
