/-
  DERIVED. GIVEN WITH THE SEED: THE CARDS: each row of YtmkfecoeghokfaaGreatDoorRows.lean that lists a variable, with what it lists TIED to the program's text (the seventh form; the later family's looks); each row that meets fmt, with fmt's text TOLD by the authors' own Lean function (tested against real Go, not proved from fmt's source: count such statements apart). THE CARD IS WHAT COUNTS. Prove the row's statement (the work); the ties are given (YtmkfecoeghokfaaGreatDoorTie.lean); close each card by the builder's one call (the guide's Derived/Test/ToyasCard.lean, 'card_holds'). Laid BY PROGRAM, IN A SANDBOX (cutbox-door.mjs). By AI agents, Wed Nov 11 2026. No macro, syntax, notation, axiom, sorry.
-/
import Derived.Test.YtmkfecoeghokfaaGreatDoorRows
import GoSem.ClaimSeven
namespace Go.Proofs.YtmkfecoeghokfaaGreatDoor
namespace Rows

/-- THE TIED CARD OF 'surdlaw16.ExactNames'. -/
def exactNamesCard : Claim7 := { stood := { row := exactNamesRow, standIns := [], harness := (true, "a0802e71009c2129858a44c678bb4eff13516ed52b31192d04f38edba648609e"), looks := true }, kinds := [], alts := [], laidByText := true, laidKinds := [.data], laidTests := true, laidLooks := .later }
def ExactNamesCardSaid : Prop := Claim7.holds Tryz.pinned (.plain (OpenSpec.ofChange exactNamesSpec)) exactNamesCard

/-- THE TIED CARD OF 'surdlaw16.ExactRoots'. -/
def exactRootsCard : Claim7 := { stood := { row := exactRootsRow, standIns := [], harness := (true, "a0802e71009c2129858a44c678bb4eff13516ed52b31192d04f38edba648609e"), looks := true }, kinds := [], alts := [], laidByText := true, laidKinds := [.data], laidTests := true, laidLooks := .later }
def ExactRootsCardSaid : Prop := Claim7.holds Tryz.pinned (.plain (OpenSpec.ofChange exactRootsSpec)) exactRootsCard

/-- THE TIED CARD OF 'surdlaw16.ExactValues'. -/
def exactValuesCard : Claim7 := { stood := { row := exactValuesRow, standIns := [], harness := (true, "a0802e71009c2129858a44c678bb4eff13516ed52b31192d04f38edba648609e"), looks := true }, kinds := [], alts := [], laidByText := true, laidKinds := [.data], laidTests := true, laidLooks := .later }
def ExactValuesCardSaid : Prop := Claim7.holds Tryz.pinned (.plain (OpenSpec.ofChange exactValuesSpec)) exactValuesCard

/-- THE TIED CARD OF 'surdlaw16.ExactFolds'. -/
def exactFoldsCard : Claim7 := { stood := { row := exactFoldsRow, standIns := [], harness := (true, "a0802e71009c2129858a44c678bb4eff13516ed52b31192d04f38edba648609e"), looks := true }, kinds := [], alts := [], laidByText := true, laidKinds := [.data], laidTests := true, laidLooks := .later }
def ExactFoldsCardSaid : Prop := Claim7.holds Tryz.pinned (.plain (OpenSpec.ofChange exactFoldsSpec)) exactFoldsCard

/-- THE TIED CARD OF 'surdlaw16.ExactReduces'. -/
def exactReducesCard : Claim7 := { stood := { row := exactReducesRow, standIns := [], harness := (true, "a0802e71009c2129858a44c678bb4eff13516ed52b31192d04f38edba648609e"), looks := true }, kinds := [], alts := [], laidByText := true, laidKinds := [.data], laidTests := true, laidLooks := .later }
def ExactReducesCardSaid : Prop := Claim7.holds Tryz.pinned (.plain (OpenSpec.ofChange exactReducesSpec)) exactReducesCard

/-- THE TIED CARD OF 'surdlaw16.ExactParts'. -/
def exactPartsCard : Claim7 := { stood := { row := exactPartsRow, standIns := [], harness := (true, "a0802e71009c2129858a44c678bb4eff13516ed52b31192d04f38edba648609e"), looks := true }, kinds := [], alts := [], laidByText := true, laidKinds := [.data], laidTests := true, laidLooks := .later }
def ExactPartsCardSaid : Prop := Claim7.holds Tryz.pinned (.plain (OpenSpec.ofChange exactPartsSpec)) exactPartsCard

/-- THE TIED CARD OF 'surdlaw16.ExactClosed'. -/
def exactClosedCard : Claim7 := { stood := { row := exactClosedRow, standIns := [], harness := (true, "a0802e71009c2129858a44c678bb4eff13516ed52b31192d04f38edba648609e"), looks := true }, kinds := [], alts := [], laidByText := true, laidKinds := [.data], laidTests := true, laidLooks := .later }
def ExactClosedCardSaid : Prop := Claim7.holds Tryz.pinned (.plain (OpenSpec.ofChange exactClosedSpec)) exactClosedCard

/-- THE TIED CARD OF 'surdlaw16.ExactUp'. -/
def exactUpCard : Claim7 := { stood := { row := exactUpRow, standIns := [], harness := (true, "a0802e71009c2129858a44c678bb4eff13516ed52b31192d04f38edba648609e"), looks := true }, kinds := [], alts := [], laidByText := true, laidKinds := [.data], laidTests := true, laidLooks := .later }
def ExactUpCardSaid : Prop := Claim7.holds Tryz.pinned (.plain (OpenSpec.ofChange exactUpSpec)) exactUpCard

/-- THE TIED CARD OF 'surdlaw16.ExactContext'. -/
def exactContextCard : Claim7 := { stood := { row := exactContextRow, standIns := [], harness := (true, "a0802e71009c2129858a44c678bb4eff13516ed52b31192d04f38edba648609e"), looks := true }, kinds := [], alts := [], laidByText := true, laidKinds := [.data], laidTests := true, laidLooks := .later }
def ExactContextCardSaid : Prop := Claim7.holds Tryz.pinned (.plain (OpenSpec.ofChange exactContextSpec)) exactContextCard

/-- THE TIED CARD OF 'surdlaw16.ExactKeeps'. -/
def exactKeepsCard : Claim7 := { stood := { row := exactKeepsRow, standIns := [], harness := (true, "a0802e71009c2129858a44c678bb4eff13516ed52b31192d04f38edba648609e"), looks := true }, kinds := [], alts := [], laidByText := true, laidKinds := [.data], laidTests := true, laidLooks := .later }
def ExactKeepsCardSaid : Prop := Claim7.holds Tryz.pinned (.plain (OpenSpec.ofChange exactKeepsSpec)) exactKeepsCard

/-- THE SECOND FORM's CARD OF 'surdlaw16.ExactNames'. -/
def exactNamesUptoCard : Claim7 := { stood := { row := exactNamesUptoRow, standIns := [], harness := (true, "a0802e71009c2129858a44c678bb4eff13516ed52b31192d04f38edba648609e"), looks := true }, kinds := [], alts := [], laidByText := true, laidKinds := [.data], laidTests := true, laidLooks := .later }
def ExactNamesUptoCardSaid : Prop := Claim7.holds Tryz.pinned (.plain (OpenSpec.upto exactNamesSpec)) exactNamesUptoCard

/-- THE SECOND FORM's CARD OF 'surdlaw16.ExactRoots'. -/
def exactRootsUptoCard : Claim7 := { stood := { row := exactRootsUptoRow, standIns := [], harness := (true, "a0802e71009c2129858a44c678bb4eff13516ed52b31192d04f38edba648609e"), looks := true }, kinds := [], alts := [], laidByText := true, laidKinds := [.data], laidTests := true, laidLooks := .later }
def ExactRootsUptoCardSaid : Prop := Claim7.holds Tryz.pinned (.plain (OpenSpec.upto exactRootsSpec)) exactRootsUptoCard

/-- THE SECOND FORM's CARD OF 'surdlaw16.ExactValues'. -/
def exactValuesUptoCard : Claim7 := { stood := { row := exactValuesUptoRow, standIns := [], harness := (true, "a0802e71009c2129858a44c678bb4eff13516ed52b31192d04f38edba648609e"), looks := true }, kinds := [], alts := [], laidByText := true, laidKinds := [.data], laidTests := true, laidLooks := .later }
def ExactValuesUptoCardSaid : Prop := Claim7.holds Tryz.pinned (.plain (OpenSpec.upto exactValuesSpec)) exactValuesUptoCard

/-- THE SECOND FORM's CARD OF 'surdlaw16.ExactFolds'. -/
def exactFoldsUptoCard : Claim7 := { stood := { row := exactFoldsUptoRow, standIns := [], harness := (true, "a0802e71009c2129858a44c678bb4eff13516ed52b31192d04f38edba648609e"), looks := true }, kinds := [], alts := [], laidByText := true, laidKinds := [.data], laidTests := true, laidLooks := .later }
def ExactFoldsUptoCardSaid : Prop := Claim7.holds Tryz.pinned (.plain (OpenSpec.upto exactFoldsSpec)) exactFoldsUptoCard

/-- THE SECOND FORM's CARD OF 'surdlaw16.ExactReduces'. -/
def exactReducesUptoCard : Claim7 := { stood := { row := exactReducesUptoRow, standIns := [], harness := (true, "a0802e71009c2129858a44c678bb4eff13516ed52b31192d04f38edba648609e"), looks := true }, kinds := [], alts := [], laidByText := true, laidKinds := [.data], laidTests := true, laidLooks := .later }
def ExactReducesUptoCardSaid : Prop := Claim7.holds Tryz.pinned (.plain (OpenSpec.upto exactReducesSpec)) exactReducesUptoCard

/-- THE SECOND FORM's CARD OF 'surdlaw16.ExactParts'. -/
def exactPartsUptoCard : Claim7 := { stood := { row := exactPartsUptoRow, standIns := [], harness := (true, "a0802e71009c2129858a44c678bb4eff13516ed52b31192d04f38edba648609e"), looks := true }, kinds := [], alts := [], laidByText := true, laidKinds := [.data], laidTests := true, laidLooks := .later }
def ExactPartsUptoCardSaid : Prop := Claim7.holds Tryz.pinned (.plain (OpenSpec.upto exactPartsSpec)) exactPartsUptoCard

/-- THE SECOND FORM's CARD OF 'surdlaw16.ExactClosed'. -/
def exactClosedUptoCard : Claim7 := { stood := { row := exactClosedUptoRow, standIns := [], harness := (true, "a0802e71009c2129858a44c678bb4eff13516ed52b31192d04f38edba648609e"), looks := true }, kinds := [], alts := [], laidByText := true, laidKinds := [.data], laidTests := true, laidLooks := .later }
def ExactClosedUptoCardSaid : Prop := Claim7.holds Tryz.pinned (.plain (OpenSpec.upto exactClosedSpec)) exactClosedUptoCard

/-- THE SECOND FORM's CARD OF 'surdlaw16.ExactUp'. -/
def exactUpUptoCard : Claim7 := { stood := { row := exactUpUptoRow, standIns := [], harness := (true, "a0802e71009c2129858a44c678bb4eff13516ed52b31192d04f38edba648609e"), looks := true }, kinds := [], alts := [], laidByText := true, laidKinds := [.data], laidTests := true, laidLooks := .later }
def ExactUpUptoCardSaid : Prop := Claim7.holds Tryz.pinned (.plain (OpenSpec.upto exactUpSpec)) exactUpUptoCard

/-- THE SECOND FORM's CARD OF 'surdlaw16.ExactContext'. -/
def exactContextUptoCard : Claim7 := { stood := { row := exactContextUptoRow, standIns := [], harness := (true, "a0802e71009c2129858a44c678bb4eff13516ed52b31192d04f38edba648609e"), looks := true }, kinds := [], alts := [], laidByText := true, laidKinds := [.data], laidTests := true, laidLooks := .later }
def ExactContextUptoCardSaid : Prop := Claim7.holds Tryz.pinned (.plain (OpenSpec.upto exactContextSpec)) exactContextUptoCard

/-- THE SECOND FORM's CARD OF 'surdlaw16.ExactKeeps'. -/
def exactKeepsUptoCard : Claim7 := { stood := { row := exactKeepsUptoRow, standIns := [], harness := (true, "a0802e71009c2129858a44c678bb4eff13516ed52b31192d04f38edba648609e"), looks := true }, kinds := [], alts := [], laidByText := true, laidKinds := [.data], laidTests := true, laidLooks := .later }
def ExactKeepsUptoCardSaid : Prop := Claim7.holds Tryz.pinned (.plain (OpenSpec.upto exactKeepsSpec)) exactKeepsUptoCard
end Rows
end Go.Proofs.YtmkfecoeghokfaaGreatDoor
