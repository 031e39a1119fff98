/-
  NARROWER THAN 'FOR EVERY INPUT', by the rows' own cells (each row's printed sentence says how): ScaledNames: laid · BoehmNames: laid · BoehmNones: laid.
  DERIVED. THE GIVEN ROWS OF THIS SEAT. 3 by the template 'for every input the law returns true; each argument reads behind the call as it read before'; 0 by the template 'total and deterministic' (their statements: YtjboehpfojpimaaGreatDoorTotals.lean).
  GIVEN WITH THE SEED: the statements are not yours to turn. If you find one false, say at which input.
  Laid BY PROGRAM, IN A SANDBOX (cutbox-rows.mjs): the forced cells as the released guide's own fill.sh prints them over the translation c183e7f22cae344d… (all of the seat's roots in one cut). By AI agents, Wed Nov 11 2026. No macro, syntax, notation, axiom, sorry.
-/
import Derived.Test.YtjboehpfojpimaaGreatDoorChecked
import GoSem.Claim
import GoSem.ClaimJoined
import GoSem.ClaimMapViews
import Derived.JoinedTies
import Derived.KernelRfl
namespace Go.Proofs.YtjboehpfojpimaaGreatDoor
/- THE CELL 'sum', in the pinned program and in every row, IS THE sha256 OF THE DUMP (.gsa) THAT YtjboehpfojpimaaGreatDoorProg.lean LOADS. Nothing in Lean hashes anything: it is a label: what it is worth is what the hold of that sum in a sandbox is worth. -/
noncomputable def Tryz.pinned : Pinned := { name := "ytjboehpfojpimaagreatdoor", sum := "c183e7f22cae344dc70e7f0d14f9578d00cfd94cb1645fff951e482e88d0a6be", checked := Tryz.checked }
namespace Rows
def none {H : Type} : Left H := { results := [], args := [] }

/- WHAT THE LISTED PACKAGE-LEVEL VARIABLES READ AS WHEN THE CALL BEGINS. Each datum BY PROGRAM (the guide's laid-datum.mjs) off the statement by which the dump's own 'gosem.cut.vars' lays the variable. In a bare row this is a premise. The card (YtjboehpfojpimaaGreatDoorCards.lean) ties it to the program's text. -/
def laid_math_bits_deBruijn64tab {H : Type} : DataW H := .agg [.lit (.int .u8 0), .lit (.int .u8 1), .lit (.int .u8 56), .lit (.int .u8 2), .lit (.int .u8 57), .lit (.int .u8 49), .lit (.int .u8 28), .lit (.int .u8 3), .lit (.int .u8 61), .lit (.int .u8 58), .lit (.int .u8 42), .lit (.int .u8 50), .lit (.int .u8 38), .lit (.int .u8 29), .lit (.int .u8 17), .lit (.int .u8 4), .lit (.int .u8 62), .lit (.int .u8 47), .lit (.int .u8 59), .lit (.int .u8 36), .lit (.int .u8 45), .lit (.int .u8 43), .lit (.int .u8 51), .lit (.int .u8 22), .lit (.int .u8 53), .lit (.int .u8 39), .lit (.int .u8 33), .lit (.int .u8 30), .lit (.int .u8 24), .lit (.int .u8 18), .lit (.int .u8 12), .lit (.int .u8 5), .lit (.int .u8 63), .lit (.int .u8 55), .lit (.int .u8 48), .lit (.int .u8 27), .lit (.int .u8 60), .lit (.int .u8 41), .lit (.int .u8 37), .lit (.int .u8 16), .lit (.int .u8 46), .lit (.int .u8 35), .lit (.int .u8 44), .lit (.int .u8 21), .lit (.int .u8 52), .lit (.int .u8 32), .lit (.int .u8 23), .lit (.int .u8 11), .lit (.int .u8 54), .lit (.int .u8 26), .lit (.int .u8 40), .lit (.int .u8 15), .lit (.int .u8 34), .lit (.int .u8 20), .lit (.int .u8 31), .lit (.int .u8 10), .lit (.int .u8 25), .lit (.int .u8 14), .lit (.int .u8 19), .lit (.int .u8 9), .lit (.int .u8 13), .lit (.int .u8 8), .lit (.int .u8 7), .lit (.int .u8 6)]
def laid_surd_expr_rows {H : Type} : DataW H := .agg [.agg [.lit (.int .i64 0), .lit (.string []), .lit (.int .i64 0)], .agg [.lit (.int .i64 1), .lit (.string [112, 105]), .lit (.int .i64 0)], .agg [.lit (.int .i64 2), .lit (.string [45]), .lit (.int .i64 1)], .agg [.lit (.int .i64 3), .lit (.string [43]), .lit (.int .i64 2)], .agg [.lit (.int .i64 4), .lit (.string [45]), .lit (.int .i64 2)], .agg [.lit (.int .i64 5), .lit (.string [42]), .lit (.int .i64 2)], .agg [.lit (.int .i64 6), .lit (.string [47]), .lit (.int .i64 2)], .agg [.lit (.int .i64 7), .lit (.string [97, 98, 115]), .lit (.int .i64 1)], .agg [.lit (.int .i64 8), .lit (.string [109, 105, 110]), .lit (.int .i64 2)], .agg [.lit (.int .i64 9), .lit (.string [109, 97, 120]), .lit (.int .i64 2)], .agg [.lit (.int .i64 10), .lit (.string [115, 113, 114, 116]), .lit (.int .i64 1)], .agg [.lit (.int .i64 11), .lit (.string [101, 120, 112]), .lit (.int .i64 1)], .agg [.lit (.int .i64 12), .lit (.string [108, 110]), .lit (.int .i64 1)], .agg [.lit (.int .i64 13), .lit (.string [115, 105, 110]), .lit (.int .i64 1)], .agg [.lit (.int .i64 14), .lit (.string [99, 111, 115]), .lit (.int .i64 1)], .agg [.lit (.int .i64 15), .lit (.string [97, 116, 97, 110]), .lit (.int .i64 1)]]

/-- 'surdlaw19.ScaledNames': WHATEVER THE INPUT: true; the input reads as it did. -/
def scaledNamesSpec : ChangeSpec := { name := "scaledNames", fn := fun _ => fun
  | [] => { results := [.lit (.bool true)], args := [] }
  | _ => none }
def scaledNamesRow : OpenClaim := { program := "ytjboehpfojpimaagreatdoor", sum := "c183e7f22cae344dc70e7f0d14f9578d00cfd94cb1645fff951e482e88d0a6be", func := "surd/surdlaw19.ScaledNames", spec := "scaledNames", inPlace := ["math/bits.Add64", "math/bits.Sub64"], unfollowed := true, recurses := true, named := ["math/bits.deBruijn64tab", "math/bits.divideError", "math/bits.overflowError"], apart := false, laid := [("math/bits.deBruijn64tab", laid_math_bits_deBruijn64tab)] }
def ScaledNamesSaid : Prop := scaledNamesRow.holds Tryz.pinned (OpenSpec.ofChange scaledNamesSpec)

/-- ITS FALSE NEIGHBOUR: 'it returns false'. Refute it at one input. -/
def scaledNamesWrong : ChangeSpec := { name := "scaledNames", fn := fun _ => fun
  | [] => { results := [.lit (.bool false)], args := [] }
  | _ => none }
def ScaledNamesWrongFalsely : Prop := scaledNamesRow.holds Tryz.pinned (OpenSpec.ofChange scaledNamesWrong)

/-- 'surdlaw20.BoehmNames': WHATEVER THE INPUT: true; the input reads as it did. -/
def boehmNamesSpec : ChangeSpec := { name := "boehmNames", fn := fun _ => fun
  | [] => { results := [.lit (.bool true)], args := [] }
  | _ => none }
def boehmNamesRow : OpenClaim := { program := "ytjboehpfojpimaagreatdoor", sum := "c183e7f22cae344dc70e7f0d14f9578d00cfd94cb1645fff951e482e88d0a6be", func := "surd/surdlaw20.BoehmNames", spec := "boehmNames", inPlace := ["math/bits.Add64", "math/bits.Sub64"], unfollowed := true, recurses := true, named := ["surd/expr.rows", "math/bits.divideError", "math/bits.overflowError", "math/bits.deBruijn64tab"], apart := false, laid := [("math/bits.deBruijn64tab", laid_math_bits_deBruijn64tab), ("surd/expr.rows", laid_surd_expr_rows)] }
def BoehmNamesSaid : Prop := boehmNamesRow.holds Tryz.pinned (OpenSpec.ofChange boehmNamesSpec)

/-- ITS FALSE NEIGHBOUR: 'it returns false'. Refute it at one input. -/
def boehmNamesWrong : ChangeSpec := { name := "boehmNames", fn := fun _ => fun
  | [] => { results := [.lit (.bool false)], args := [] }
  | _ => none }
def BoehmNamesWrongFalsely : Prop := boehmNamesRow.holds Tryz.pinned (OpenSpec.ofChange boehmNamesWrong)

/-- 'surdlaw20.BoehmNones': WHATEVER THE INPUT: true; the input reads as it did. -/
def boehmNonesSpec : ChangeSpec := { name := "boehmNones", fn := fun _ => fun
  | [d1, d2] => { results := [.lit (.bool true)], args := [d1, d2] }
  | _ => none }
def boehmNonesRow : OpenClaim := { program := "ytjboehpfojpimaagreatdoor", sum := "c183e7f22cae344dc70e7f0d14f9578d00cfd94cb1645fff951e482e88d0a6be", func := "surd/surdlaw20.BoehmNones", spec := "boehmNones", inPlace := ["math/bits.Add64", "math/bits.Sub64"], unfollowed := true, recurses := true, named := ["math/bits.deBruijn64tab", "surd/expr.rows", "math/bits.divideError", "math/bits.overflowError"], apart := false, laid := [("math/bits.deBruijn64tab", laid_math_bits_deBruijn64tab), ("surd/expr.rows", laid_surd_expr_rows)] }
def BoehmNonesSaid : Prop := boehmNonesRow.holds Tryz.pinned (OpenSpec.ofChange boehmNonesSpec)

/-- ITS FALSE NEIGHBOUR: 'it returns false'. Refute it at one input. -/
def boehmNonesWrong : ChangeSpec := { name := "boehmNones", fn := fun _ => fun
  | [d1, d2] => { results := [.lit (.bool false)], args := [d1, d2] }
  | _ => none }
def BoehmNonesWrongFalsely : Prop := boehmNonesRow.holds Tryz.pinned (OpenSpec.ofChange boehmNonesWrong)

/- THE SECOND FORM. 'bulk': how many values and letters a reading holds, each counted each time it is reached (what is shared counts as often as it is met; a slice's spare places count too). A statement '..UptoSaid' is the law's where the arguments, and the package variables that the reading takes, are together of bulk at most 1048576: NARROWER than '..Said'. Prove '..Said' where nothing that the law and all that it calls make is longer than what came in: it says more and counts as full. Else prove '..UptoSaid'. A law counts once. -/
mutual
def uptoBulk {H : Type} : DataW H → Nat
  | .lit (.string bytes) => bytes.length + 1
  | .lit _ => 1
  | .nil => 1
  | .ptr d => uptoBulk d + 1
  | .slice elems spare => uptoBulkAll elems + uptoBulkAll spare + 1
  | .agg parts => uptoBulkAll parts + 1
  | .iface _ d => uptoBulk d + 1
  | .map entries => uptoBulkEntries entries + 1
  | .held _ => 1
def uptoBulkAll {H : Type} : List (DataW H) → Nat
  | [] => 0
  | d :: r => uptoBulk d + uptoBulkAll r
def uptoBulkEntries {H : Type} : List (Lit × DataW H) → Nat
  | [] => 0
  | x :: r => uptoBulkEntry x + uptoBulkEntries r
def uptoBulkEntry {H : Type} : Lit × DataW H → Nat
  | (.string bytes, d) => bytes.length + uptoBulk d + 1
  | (_, d) => uptoBulk d + 1
 end
def uptoSmall : (H : Type) → List (DataW H) → Bool := fun _ ds => decide (uptoBulkAll ds ≤ 1048576)
def OpenSpec.upto (s : _root_.Go.ChangeSpec) : _root_.Go.OpenSpec := { _root_.Go.OpenSpec.ofChange s with cond := some uptoSmall }

/-- 'surdlaw19.ScaledNames', WHERE WHAT IT READS IS OF BULK AT MOST 1048576: true; the input reads as it did. -/
def scaledNamesUptoRow : OpenClaim := { program := "ytjboehpfojpimaagreatdoor", sum := "c183e7f22cae344dc70e7f0d14f9578d00cfd94cb1645fff951e482e88d0a6be", func := "surd/surdlaw19.ScaledNames", spec := "scaledNames", inPlace := ["math/bits.Add64", "math/bits.Sub64"], unfollowed := true, recurses := true, named := ["math/bits.deBruijn64tab", "math/bits.divideError", "math/bits.overflowError"], apart := false, laid := [("math/bits.deBruijn64tab", laid_math_bits_deBruijn64tab)], narrowed := true }
def ScaledNamesUptoSaid : Prop := scaledNamesUptoRow.holds Tryz.pinned (OpenSpec.upto scaledNamesSpec)

/-- 'surdlaw20.BoehmNames', WHERE WHAT IT READS IS OF BULK AT MOST 1048576: true; the input reads as it did. -/
def boehmNamesUptoRow : OpenClaim := { program := "ytjboehpfojpimaagreatdoor", sum := "c183e7f22cae344dc70e7f0d14f9578d00cfd94cb1645fff951e482e88d0a6be", func := "surd/surdlaw20.BoehmNames", spec := "boehmNames", inPlace := ["math/bits.Add64", "math/bits.Sub64"], unfollowed := true, recurses := true, named := ["surd/expr.rows", "math/bits.divideError", "math/bits.overflowError", "math/bits.deBruijn64tab"], apart := false, laid := [("math/bits.deBruijn64tab", laid_math_bits_deBruijn64tab), ("surd/expr.rows", laid_surd_expr_rows)], narrowed := true }
def BoehmNamesUptoSaid : Prop := boehmNamesUptoRow.holds Tryz.pinned (OpenSpec.upto boehmNamesSpec)

/-- 'surdlaw20.BoehmNones', WHERE WHAT IT READS IS OF BULK AT MOST 1048576: true; the input reads as it did. -/
def boehmNonesUptoRow : OpenClaim := { program := "ytjboehpfojpimaagreatdoor", sum := "c183e7f22cae344dc70e7f0d14f9578d00cfd94cb1645fff951e482e88d0a6be", func := "surd/surdlaw20.BoehmNones", spec := "boehmNones", inPlace := ["math/bits.Add64", "math/bits.Sub64"], unfollowed := true, recurses := true, named := ["math/bits.deBruijn64tab", "surd/expr.rows", "math/bits.divideError", "math/bits.overflowError"], apart := false, laid := [("math/bits.deBruijn64tab", laid_math_bits_deBruijn64tab), ("surd/expr.rows", laid_surd_expr_rows)], narrowed := true }
def BoehmNonesUptoSaid : Prop := boehmNonesUptoRow.holds Tryz.pinned (OpenSpec.upto boehmNonesSpec)

end Rows
end Go.Proofs.YtjboehpfojpimaaGreatDoor
