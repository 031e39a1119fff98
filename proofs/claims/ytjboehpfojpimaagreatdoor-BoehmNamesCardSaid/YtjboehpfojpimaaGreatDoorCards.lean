/-
  DERIVED. GIVEN WITH THE SEED: THE CARDS: each row of YtjboehpfojpimaaGreatDoorRows.lean that lists a variable, with what it lists TIED to the program's text (the seventh form; the later family's looks); each row that meets fmt, with fmt's text TOLD by the authors' own Lean function (tested against real Go, not proved from fmt's source: count such statements apart). THE CARD IS WHAT COUNTS. Prove the row's statement (the work); the ties are given (YtjboehpfojpimaaGreatDoorTie.lean); close each card by the builder's one call (the guide's Derived/Test/ToyasCard.lean, 'card_holds'). Laid BY PROGRAM, IN A SANDBOX (cutbox-door.mjs). By AI agents, Wed Nov 11 2026. No macro, syntax, notation, axiom, sorry.
-/
import Derived.Test.YtjboehpfojpimaaGreatDoorRows
import GoSem.ClaimSeven
namespace Go.Proofs.YtjboehpfojpimaaGreatDoor
namespace Rows

/-- THE TIED CARD OF 'surdlaw19.ScaledNames'. -/
def scaledNamesCard : Claim7 := { stood := { row := scaledNamesRow, standIns := [], harness := (true, "c3892c753090683a10870a28d3b088039c46fbd5f4b1066fe8ad8157774dc8ed"), looks := true }, kinds := [], alts := [], laidByText := true, laidKinds := [.data], laidTests := true, laidLooks := .later }
def ScaledNamesCardSaid : Prop := Claim7.holds Tryz.pinned (.plain (OpenSpec.ofChange scaledNamesSpec)) scaledNamesCard

/-- THE TIED CARD OF 'surdlaw20.BoehmNames'. -/
def boehmNamesCard : Claim7 := { stood := { row := boehmNamesRow, standIns := [], harness := (true, "c3892c753090683a10870a28d3b088039c46fbd5f4b1066fe8ad8157774dc8ed"), looks := true }, kinds := [], alts := [], laidByText := true, laidKinds := [.data, .data], laidTests := true, laidLooks := .later }
def BoehmNamesCardSaid : Prop := Claim7.holds Tryz.pinned (.plain (OpenSpec.ofChange boehmNamesSpec)) boehmNamesCard

/-- THE TIED CARD OF 'surdlaw20.BoehmNones'. -/
def boehmNonesCard : Claim7 := { stood := { row := boehmNonesRow, standIns := [], harness := (true, "c3892c753090683a10870a28d3b088039c46fbd5f4b1066fe8ad8157774dc8ed"), looks := true }, kinds := [], alts := [], laidByText := true, laidKinds := [.data, .data], laidTests := true, laidLooks := .later }
def BoehmNonesCardSaid : Prop := Claim7.holds Tryz.pinned (.plain (OpenSpec.ofChange boehmNonesSpec)) boehmNonesCard

/-- THE SECOND FORM's CARD OF 'surdlaw19.ScaledNames'. -/
def scaledNamesUptoCard : Claim7 := { stood := { row := scaledNamesUptoRow, standIns := [], harness := (true, "c3892c753090683a10870a28d3b088039c46fbd5f4b1066fe8ad8157774dc8ed"), looks := true }, kinds := [], alts := [], laidByText := true, laidKinds := [.data], laidTests := true, laidLooks := .later }
def ScaledNamesUptoCardSaid : Prop := Claim7.holds Tryz.pinned (.plain (OpenSpec.upto scaledNamesSpec)) scaledNamesUptoCard

/-- THE SECOND FORM's CARD OF 'surdlaw20.BoehmNames'. -/
def boehmNamesUptoCard : Claim7 := { stood := { row := boehmNamesUptoRow, standIns := [], harness := (true, "c3892c753090683a10870a28d3b088039c46fbd5f4b1066fe8ad8157774dc8ed"), looks := true }, kinds := [], alts := [], laidByText := true, laidKinds := [.data, .data], laidTests := true, laidLooks := .later }
def BoehmNamesUptoCardSaid : Prop := Claim7.holds Tryz.pinned (.plain (OpenSpec.upto boehmNamesSpec)) boehmNamesUptoCard

/-- THE SECOND FORM's CARD OF 'surdlaw20.BoehmNones'. -/
def boehmNonesUptoCard : Claim7 := { stood := { row := boehmNonesUptoRow, standIns := [], harness := (true, "c3892c753090683a10870a28d3b088039c46fbd5f4b1066fe8ad8157774dc8ed"), looks := true }, kinds := [], alts := [], laidByText := true, laidKinds := [.data, .data], laidTests := true, laidLooks := .later }
def BoehmNonesUptoCardSaid : Prop := Claim7.holds Tryz.pinned (.plain (OpenSpec.upto boehmNonesSpec)) boehmNonesUptoCard
end Rows
end Go.Proofs.YtjboehpfojpimaaGreatDoor
