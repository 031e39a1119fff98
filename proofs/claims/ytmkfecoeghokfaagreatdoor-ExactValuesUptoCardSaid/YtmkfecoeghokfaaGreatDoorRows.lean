/-
  NARROWER THAN 'FOR EVERY INPUT', by the rows' own cells (each row's printed sentence says how): ExactNames: laid · ExactRoots: laid · ExactValues: loops, laid · ExactFolds: loops, laid · ExactReduces: loops, laid · ExactParts: loops, laid · ExactClosed: loops, laid · ExactUp: loops, laid · ExactContext: loops, laid · ExactKeeps: loops, laid.
  DERIVED. THE GIVEN ROWS OF THIS SEAT. 10 by the template 'for every input the law returns true; each argument reads behind the call as it read before'; 0 by the template 'total and deterministic' (their statements: YtmkfecoeghokfaaGreatDoorTotals.lean).
  GIVEN WITH THE SEED: the statements are not yours to turn. If you find one false, say at which input.
  Laid BY PROGRAM, IN A SANDBOX (cutbox-rows.mjs): the forced cells as the released guide's own fill.sh prints them over the translation 81b16f13d282d1e9… (all of the seat's roots in one cut). By AI agents, Wed Nov 11 2026. No macro, syntax, notation, axiom, sorry.
-/
import Derived.Test.YtmkfecoeghokfaaGreatDoorChecked
import GoSem.Claim
import GoSem.ClaimJoined
import GoSem.ClaimMapViews
import Derived.JoinedTies
import Derived.KernelRfl
namespace Go.Proofs.YtmkfecoeghokfaaGreatDoor
/- THE CELL 'sum', in the pinned program and in every row, IS THE sha256 OF THE DUMP (.gsa) THAT YtmkfecoeghokfaaGreatDoorProg.lean LOADS. Nothing in Lean hashes anything: it is a label: what it is worth is what the hold of that sum in a sandbox is worth. -/
noncomputable def Tryz.pinned : Pinned := { name := "ytmkfecoeghokfaagreatdoor", sum := "81b16f13d282d1e989d9acd015bcc5345cb30c8d7df6db5fe8b08c99344de9e7", checked := Tryz.checked }
namespace Rows
def none {H : Type} : Left H := { results := [], args := [] }

/- WHAT THE LISTED PACKAGE-LEVEL VARIABLES READ AS WHEN THE CALL BEGINS. Each datum BY PROGRAM (the guide's laid-datum.mjs) off the statement by which the dump's own 'gosem.cut.vars' lays the variable. In a bare row this is a premise. The card (YtmkfecoeghokfaaGreatDoorCards.lean) ties it to the program's text. -/
def laid_surd_expr_rows {H : Type} : DataW H := .agg [.agg [.lit (.int .i64 0), .lit (.string []), .lit (.int .i64 0)], .agg [.lit (.int .i64 1), .lit (.string [112, 105]), .lit (.int .i64 0)], .agg [.lit (.int .i64 2), .lit (.string [45]), .lit (.int .i64 1)], .agg [.lit (.int .i64 3), .lit (.string [43]), .lit (.int .i64 2)], .agg [.lit (.int .i64 4), .lit (.string [45]), .lit (.int .i64 2)], .agg [.lit (.int .i64 5), .lit (.string [42]), .lit (.int .i64 2)], .agg [.lit (.int .i64 6), .lit (.string [47]), .lit (.int .i64 2)], .agg [.lit (.int .i64 7), .lit (.string [97, 98, 115]), .lit (.int .i64 1)], .agg [.lit (.int .i64 8), .lit (.string [109, 105, 110]), .lit (.int .i64 2)], .agg [.lit (.int .i64 9), .lit (.string [109, 97, 120]), .lit (.int .i64 2)], .agg [.lit (.int .i64 10), .lit (.string [115, 113, 114, 116]), .lit (.int .i64 1)], .agg [.lit (.int .i64 11), .lit (.string [101, 120, 112]), .lit (.int .i64 1)], .agg [.lit (.int .i64 12), .lit (.string [108, 110]), .lit (.int .i64 1)], .agg [.lit (.int .i64 13), .lit (.string [115, 105, 110]), .lit (.int .i64 1)], .agg [.lit (.int .i64 14), .lit (.string [99, 111, 115]), .lit (.int .i64 1)], .agg [.lit (.int .i64 15), .lit (.string [97, 116, 97, 110]), .lit (.int .i64 1)]]

/-- 'surdlaw16.ExactNames': WHATEVER THE INPUT: true; the input reads as it did. -/
def exactNamesSpec : ChangeSpec := { name := "exactNames", fn := fun _ => fun
  | [] => { results := [.lit (.bool true)], args := [] }
  | _ => none }
def exactNamesRow : OpenClaim := { program := "ytmkfecoeghokfaagreatdoor", sum := "81b16f13d282d1e989d9acd015bcc5345cb30c8d7df6db5fe8b08c99344de9e7", func := "surd/surdlaw16.ExactNames", spec := "exactNames", inPlace := ["math/bits.Add64", "math/bits.Sub64"], unfollowed := true, recurses := true, named := ["surd/expr.rows", "math/bits.divideError", "math/bits.overflowError"], apart := false, laid := [("surd/expr.rows", laid_surd_expr_rows)] }
def ExactNamesSaid : Prop := exactNamesRow.holds Tryz.pinned (OpenSpec.ofChange exactNamesSpec)

/-- ITS FALSE NEIGHBOUR: 'it returns false'. Refute it at one input. -/
def exactNamesWrong : ChangeSpec := { name := "exactNames", fn := fun _ => fun
  | [] => { results := [.lit (.bool false)], args := [] }
  | _ => none }
def ExactNamesWrongFalsely : Prop := exactNamesRow.holds Tryz.pinned (OpenSpec.ofChange exactNamesWrong)

/-- 'surdlaw16.ExactRoots': WHATEVER THE INPUT: true; the input reads as it did. -/
def exactRootsSpec : ChangeSpec := { name := "exactRoots", fn := fun _ => fun
  | [d] => { results := [.lit (.bool true)], args := [d] }
  | _ => none }
def exactRootsRow : OpenClaim := { program := "ytmkfecoeghokfaagreatdoor", sum := "81b16f13d282d1e989d9acd015bcc5345cb30c8d7df6db5fe8b08c99344de9e7", func := "surd/surdlaw16.ExactRoots", spec := "exactRoots", inPlace := ["math/bits.Add64", "math/bits.Sub64"], unfollowed := true, recurses := true, named := ["math/bits.divideError", "math/bits.overflowError", "surd/expr.rows"], apart := false, laid := [("surd/expr.rows", laid_surd_expr_rows)] }
def ExactRootsSaid : Prop := exactRootsRow.holds Tryz.pinned (OpenSpec.ofChange exactRootsSpec)

/-- ITS FALSE NEIGHBOUR: 'it returns false'. Refute it at one input. -/
def exactRootsWrong : ChangeSpec := { name := "exactRoots", fn := fun _ => fun
  | [d] => { results := [.lit (.bool false)], args := [d] }
  | _ => none }
def ExactRootsWrongFalsely : Prop := exactRootsRow.holds Tryz.pinned (OpenSpec.ofChange exactRootsWrong)

/-- 'surdlaw16.ExactValues': WHATEVER THE INPUT: true; the input reads as it did. -/
def exactValuesSpec : ChangeSpec := { name := "exactValues", fn := fun _ => fun
  | [d] => { results := [.lit (.bool true)], args := [d] }
  | _ => none }
def exactValuesRow : OpenClaim := { program := "ytmkfecoeghokfaagreatdoor", sum := "81b16f13d282d1e989d9acd015bcc5345cb30c8d7df6db5fe8b08c99344de9e7", func := "surd/surdlaw16.ExactValues", spec := "exactValues", inPlace := ["math/bits.Add64", "math/bits.Sub64"], unfollowed := true, recurses := true, named := ["surd/expr.rows", "math/bits.divideError", "math/bits.overflowError"], loops := true, apart := false, laid := [("surd/expr.rows", laid_surd_expr_rows)] }
def ExactValuesSaid : Prop := exactValuesRow.holds Tryz.pinned (OpenSpec.ofChange exactValuesSpec)

/-- ITS FALSE NEIGHBOUR: 'it returns false'. Refute it at one input. -/
def exactValuesWrong : ChangeSpec := { name := "exactValues", fn := fun _ => fun
  | [d] => { results := [.lit (.bool false)], args := [d] }
  | _ => none }
def ExactValuesWrongFalsely : Prop := exactValuesRow.holds Tryz.pinned (OpenSpec.ofChange exactValuesWrong)

/-- 'surdlaw16.ExactFolds': WHATEVER THE INPUT: true; the input reads as it did. -/
def exactFoldsSpec : ChangeSpec := { name := "exactFolds", fn := fun _ => fun
  | [d] => { results := [.lit (.bool true)], args := [d] }
  | _ => none }
def exactFoldsRow : OpenClaim := { program := "ytmkfecoeghokfaagreatdoor", sum := "81b16f13d282d1e989d9acd015bcc5345cb30c8d7df6db5fe8b08c99344de9e7", func := "surd/surdlaw16.ExactFolds", spec := "exactFolds", inPlace := ["math/bits.Add64", "math/bits.Sub64"], unfollowed := true, recurses := true, named := ["surd/expr.rows", "math/bits.divideError", "math/bits.overflowError"], loops := true, apart := false, laid := [("surd/expr.rows", laid_surd_expr_rows)] }
def ExactFoldsSaid : Prop := exactFoldsRow.holds Tryz.pinned (OpenSpec.ofChange exactFoldsSpec)

/-- ITS FALSE NEIGHBOUR: 'it returns false'. Refute it at one input. -/
def exactFoldsWrong : ChangeSpec := { name := "exactFolds", fn := fun _ => fun
  | [d] => { results := [.lit (.bool false)], args := [d] }
  | _ => none }
def ExactFoldsWrongFalsely : Prop := exactFoldsRow.holds Tryz.pinned (OpenSpec.ofChange exactFoldsWrong)

/-- 'surdlaw16.ExactReduces': WHATEVER THE INPUT: true; the input reads as it did. -/
def exactReducesSpec : ChangeSpec := { name := "exactReduces", fn := fun _ => fun
  | [d] => { results := [.lit (.bool true)], args := [d] }
  | _ => none }
def exactReducesRow : OpenClaim := { program := "ytmkfecoeghokfaagreatdoor", sum := "81b16f13d282d1e989d9acd015bcc5345cb30c8d7df6db5fe8b08c99344de9e7", func := "surd/surdlaw16.ExactReduces", spec := "exactReduces", inPlace := ["math/bits.Add64", "math/bits.Sub64"], unfollowed := true, recurses := true, named := ["surd/expr.rows", "math/bits.divideError", "math/bits.overflowError"], loops := true, apart := false, laid := [("surd/expr.rows", laid_surd_expr_rows)] }
def ExactReducesSaid : Prop := exactReducesRow.holds Tryz.pinned (OpenSpec.ofChange exactReducesSpec)

/-- ITS FALSE NEIGHBOUR: 'it returns false'. Refute it at one input. -/
def exactReducesWrong : ChangeSpec := { name := "exactReduces", fn := fun _ => fun
  | [d] => { results := [.lit (.bool false)], args := [d] }
  | _ => none }
def ExactReducesWrongFalsely : Prop := exactReducesRow.holds Tryz.pinned (OpenSpec.ofChange exactReducesWrong)

/-- 'surdlaw16.ExactParts': WHATEVER THE INPUT: true; the input reads as it did. -/
def exactPartsSpec : ChangeSpec := { name := "exactParts", fn := fun _ => fun
  | [d] => { results := [.lit (.bool true)], args := [d] }
  | _ => none }
def exactPartsRow : OpenClaim := { program := "ytmkfecoeghokfaagreatdoor", sum := "81b16f13d282d1e989d9acd015bcc5345cb30c8d7df6db5fe8b08c99344de9e7", func := "surd/surdlaw16.ExactParts", spec := "exactParts", inPlace := ["math/bits.Add64", "math/bits.Sub64"], unfollowed := true, recurses := true, named := ["surd/expr.rows", "math/bits.divideError", "math/bits.overflowError"], loops := true, apart := false, laid := [("surd/expr.rows", laid_surd_expr_rows)] }
def ExactPartsSaid : Prop := exactPartsRow.holds Tryz.pinned (OpenSpec.ofChange exactPartsSpec)

/-- ITS FALSE NEIGHBOUR: 'it returns false'. Refute it at one input. -/
def exactPartsWrong : ChangeSpec := { name := "exactParts", fn := fun _ => fun
  | [d] => { results := [.lit (.bool false)], args := [d] }
  | _ => none }
def ExactPartsWrongFalsely : Prop := exactPartsRow.holds Tryz.pinned (OpenSpec.ofChange exactPartsWrong)

/-- 'surdlaw16.ExactClosed': WHATEVER THE INPUT: true; the input reads as it did. -/
def exactClosedSpec : ChangeSpec := { name := "exactClosed", fn := fun _ => fun
  | [d] => { results := [.lit (.bool true)], args := [d] }
  | _ => none }
def exactClosedRow : OpenClaim := { program := "ytmkfecoeghokfaagreatdoor", sum := "81b16f13d282d1e989d9acd015bcc5345cb30c8d7df6db5fe8b08c99344de9e7", func := "surd/surdlaw16.ExactClosed", spec := "exactClosed", inPlace := ["math/bits.Add64", "math/bits.Sub64"], unfollowed := true, recurses := true, named := ["surd/expr.rows", "math/bits.divideError", "math/bits.overflowError"], loops := true, apart := false, laid := [("surd/expr.rows", laid_surd_expr_rows)] }
def ExactClosedSaid : Prop := exactClosedRow.holds Tryz.pinned (OpenSpec.ofChange exactClosedSpec)

/-- ITS FALSE NEIGHBOUR: 'it returns false'. Refute it at one input. -/
def exactClosedWrong : ChangeSpec := { name := "exactClosed", fn := fun _ => fun
  | [d] => { results := [.lit (.bool false)], args := [d] }
  | _ => none }
def ExactClosedWrongFalsely : Prop := exactClosedRow.holds Tryz.pinned (OpenSpec.ofChange exactClosedWrong)

/-- 'surdlaw16.ExactUp': WHATEVER THE INPUT: true; the input reads as it did. -/
def exactUpSpec : ChangeSpec := { name := "exactUp", fn := fun _ => fun
  | [d1, d2, d3] => { results := [.lit (.bool true)], args := [d1, d2, d3] }
  | _ => none }
def exactUpRow : OpenClaim := { program := "ytmkfecoeghokfaagreatdoor", sum := "81b16f13d282d1e989d9acd015bcc5345cb30c8d7df6db5fe8b08c99344de9e7", func := "surd/surdlaw16.ExactUp", spec := "exactUp", inPlace := ["math/bits.Add64", "math/bits.Sub64"], unfollowed := true, recurses := true, named := ["surd/expr.rows", "math/bits.divideError", "math/bits.overflowError"], loops := true, apart := false, laid := [("surd/expr.rows", laid_surd_expr_rows)] }
def ExactUpSaid : Prop := exactUpRow.holds Tryz.pinned (OpenSpec.ofChange exactUpSpec)

/-- ITS FALSE NEIGHBOUR: 'it returns false'. Refute it at one input. -/
def exactUpWrong : ChangeSpec := { name := "exactUp", fn := fun _ => fun
  | [d1, d2, d3] => { results := [.lit (.bool false)], args := [d1, d2, d3] }
  | _ => none }
def ExactUpWrongFalsely : Prop := exactUpRow.holds Tryz.pinned (OpenSpec.ofChange exactUpWrong)

/-- 'surdlaw16.ExactContext': WHATEVER THE INPUT: true; the input reads as it did. -/
def exactContextSpec : ChangeSpec := { name := "exactContext", fn := fun _ => fun
  | [d1, d2, d3] => { results := [.lit (.bool true)], args := [d1, d2, d3] }
  | _ => none }
def exactContextRow : OpenClaim := { program := "ytmkfecoeghokfaagreatdoor", sum := "81b16f13d282d1e989d9acd015bcc5345cb30c8d7df6db5fe8b08c99344de9e7", func := "surd/surdlaw16.ExactContext", spec := "exactContext", inPlace := ["math/bits.Add64", "math/bits.Sub64"], unfollowed := true, recurses := true, named := ["surd/expr.rows", "math/bits.divideError", "math/bits.overflowError"], loops := true, apart := false, laid := [("surd/expr.rows", laid_surd_expr_rows)] }
def ExactContextSaid : Prop := exactContextRow.holds Tryz.pinned (OpenSpec.ofChange exactContextSpec)

/-- ITS FALSE NEIGHBOUR: 'it returns false'. Refute it at one input. -/
def exactContextWrong : ChangeSpec := { name := "exactContext", fn := fun _ => fun
  | [d1, d2, d3] => { results := [.lit (.bool false)], args := [d1, d2, d3] }
  | _ => none }
def ExactContextWrongFalsely : Prop := exactContextRow.holds Tryz.pinned (OpenSpec.ofChange exactContextWrong)

/-- 'surdlaw16.ExactKeeps': WHATEVER THE INPUT: true; the input reads as it did. -/
def exactKeepsSpec : ChangeSpec := { name := "exactKeeps", fn := fun _ => fun
  | [d] => { results := [.lit (.bool true)], args := [d] }
  | _ => none }
def exactKeepsRow : OpenClaim := { program := "ytmkfecoeghokfaagreatdoor", sum := "81b16f13d282d1e989d9acd015bcc5345cb30c8d7df6db5fe8b08c99344de9e7", func := "surd/surdlaw16.ExactKeeps", spec := "exactKeeps", inPlace := ["math/bits.Add64", "math/bits.Sub64"], unfollowed := true, recurses := true, named := ["surd/expr.rows", "math/bits.divideError", "math/bits.overflowError"], loops := true, apart := false, laid := [("surd/expr.rows", laid_surd_expr_rows)] }
def ExactKeepsSaid : Prop := exactKeepsRow.holds Tryz.pinned (OpenSpec.ofChange exactKeepsSpec)

/-- ITS FALSE NEIGHBOUR: 'it returns false'. Refute it at one input. -/
def exactKeepsWrong : ChangeSpec := { name := "exactKeeps", fn := fun _ => fun
  | [d] => { results := [.lit (.bool false)], args := [d] }
  | _ => none }
def ExactKeepsWrongFalsely : Prop := exactKeepsRow.holds Tryz.pinned (OpenSpec.ofChange exactKeepsWrong)

/- THE SECOND FORM. 'bulk': how many values and letters a reading holds, each counted each time it is reached (what is shared counts as often as it is met; a slice's spare places count too). A statement '..UptoSaid' is the law's where the arguments, and the package variables that the reading takes, are together of bulk at most 1048576: NARROWER than '..Said'. Prove '..Said' where nothing that the law and all that it calls make is longer than what came in: it says more and counts as full. Else prove '..UptoSaid'. A law counts once. -/
mutual
def uptoBulk {H : Type} : DataW H → Nat
  | .lit (.string bytes) => bytes.length + 1
  | .lit _ => 1
  | .nil => 1
  | .ptr d => uptoBulk d + 1
  | .slice elems spare => uptoBulkAll elems + uptoBulkAll spare + 1
  | .agg parts => uptoBulkAll parts + 1
  | .iface _ d => uptoBulk d + 1
  | .map entries => uptoBulkEntries entries + 1
  | .held _ => 1
def uptoBulkAll {H : Type} : List (DataW H) → Nat
  | [] => 0
  | d :: r => uptoBulk d + uptoBulkAll r
def uptoBulkEntries {H : Type} : List (Lit × DataW H) → Nat
  | [] => 0
  | x :: r => uptoBulkEntry x + uptoBulkEntries r
def uptoBulkEntry {H : Type} : Lit × DataW H → Nat
  | (.string bytes, d) => bytes.length + uptoBulk d + 1
  | (_, d) => uptoBulk d + 1
 end
def uptoSmall : (H : Type) → List (DataW H) → Bool := fun _ ds => decide (uptoBulkAll ds ≤ 1048576)
def OpenSpec.upto (s : _root_.Go.ChangeSpec) : _root_.Go.OpenSpec := { _root_.Go.OpenSpec.ofChange s with cond := some uptoSmall }

/-- 'surdlaw16.ExactNames', WHERE WHAT IT READS IS OF BULK AT MOST 1048576: true; the input reads as it did. -/
def exactNamesUptoRow : OpenClaim := { program := "ytmkfecoeghokfaagreatdoor", sum := "81b16f13d282d1e989d9acd015bcc5345cb30c8d7df6db5fe8b08c99344de9e7", func := "surd/surdlaw16.ExactNames", spec := "exactNames", inPlace := ["math/bits.Add64", "math/bits.Sub64"], unfollowed := true, recurses := true, named := ["surd/expr.rows", "math/bits.divideError", "math/bits.overflowError"], apart := false, laid := [("surd/expr.rows", laid_surd_expr_rows)], narrowed := true }
def ExactNamesUptoSaid : Prop := exactNamesUptoRow.holds Tryz.pinned (OpenSpec.upto exactNamesSpec)

/-- 'surdlaw16.ExactRoots', WHERE WHAT IT READS IS OF BULK AT MOST 1048576: true; the input reads as it did. -/
def exactRootsUptoRow : OpenClaim := { program := "ytmkfecoeghokfaagreatdoor", sum := "81b16f13d282d1e989d9acd015bcc5345cb30c8d7df6db5fe8b08c99344de9e7", func := "surd/surdlaw16.ExactRoots", spec := "exactRoots", inPlace := ["math/bits.Add64", "math/bits.Sub64"], unfollowed := true, recurses := true, named := ["math/bits.divideError", "math/bits.overflowError", "surd/expr.rows"], apart := false, laid := [("surd/expr.rows", laid_surd_expr_rows)], narrowed := true }
def ExactRootsUptoSaid : Prop := exactRootsUptoRow.holds Tryz.pinned (OpenSpec.upto exactRootsSpec)

/-- 'surdlaw16.ExactValues', WHERE WHAT IT READS IS OF BULK AT MOST 1048576: true; the input reads as it did. -/
def exactValuesUptoRow : OpenClaim := { program := "ytmkfecoeghokfaagreatdoor", sum := "81b16f13d282d1e989d9acd015bcc5345cb30c8d7df6db5fe8b08c99344de9e7", func := "surd/surdlaw16.ExactValues", spec := "exactValues", inPlace := ["math/bits.Add64", "math/bits.Sub64"], unfollowed := true, recurses := true, named := ["surd/expr.rows", "math/bits.divideError", "math/bits.overflowError"], loops := true, apart := false, laid := [("surd/expr.rows", laid_surd_expr_rows)], narrowed := true }
def ExactValuesUptoSaid : Prop := exactValuesUptoRow.holds Tryz.pinned (OpenSpec.upto exactValuesSpec)

/-- 'surdlaw16.ExactFolds', WHERE WHAT IT READS IS OF BULK AT MOST 1048576: true; the input reads as it did. -/
def exactFoldsUptoRow : OpenClaim := { program := "ytmkfecoeghokfaagreatdoor", sum := "81b16f13d282d1e989d9acd015bcc5345cb30c8d7df6db5fe8b08c99344de9e7", func := "surd/surdlaw16.ExactFolds", spec := "exactFolds", inPlace := ["math/bits.Add64", "math/bits.Sub64"], unfollowed := true, recurses := true, named := ["surd/expr.rows", "math/bits.divideError", "math/bits.overflowError"], loops := true, apart := false, laid := [("surd/expr.rows", laid_surd_expr_rows)], narrowed := true }
def ExactFoldsUptoSaid : Prop := exactFoldsUptoRow.holds Tryz.pinned (OpenSpec.upto exactFoldsSpec)

/-- 'surdlaw16.ExactReduces', WHERE WHAT IT READS IS OF BULK AT MOST 1048576: true; the input reads as it did. -/
def exactReducesUptoRow : OpenClaim := { program := "ytmkfecoeghokfaagreatdoor", sum := "81b16f13d282d1e989d9acd015bcc5345cb30c8d7df6db5fe8b08c99344de9e7", func := "surd/surdlaw16.ExactReduces", spec := "exactReduces", inPlace := ["math/bits.Add64", "math/bits.Sub64"], unfollowed := true, recurses := true, named := ["surd/expr.rows", "math/bits.divideError", "math/bits.overflowError"], loops := true, apart := false, laid := [("surd/expr.rows", laid_surd_expr_rows)], narrowed := true }
def ExactReducesUptoSaid : Prop := exactReducesUptoRow.holds Tryz.pinned (OpenSpec.upto exactReducesSpec)

/-- 'surdlaw16.ExactParts', WHERE WHAT IT READS IS OF BULK AT MOST 1048576: true; the input reads as it did. -/
def exactPartsUptoRow : OpenClaim := { program := "ytmkfecoeghokfaagreatdoor", sum := "81b16f13d282d1e989d9acd015bcc5345cb30c8d7df6db5fe8b08c99344de9e7", func := "surd/surdlaw16.ExactParts", spec := "exactParts", inPlace := ["math/bits.Add64", "math/bits.Sub64"], unfollowed := true, recurses := true, named := ["surd/expr.rows", "math/bits.divideError", "math/bits.overflowError"], loops := true, apart := false, laid := [("surd/expr.rows", laid_surd_expr_rows)], narrowed := true }
def ExactPartsUptoSaid : Prop := exactPartsUptoRow.holds Tryz.pinned (OpenSpec.upto exactPartsSpec)

/-- 'surdlaw16.ExactClosed', WHERE WHAT IT READS IS OF BULK AT MOST 1048576: true; the input reads as it did. -/
def exactClosedUptoRow : OpenClaim := { program := "ytmkfecoeghokfaagreatdoor", sum := "81b16f13d282d1e989d9acd015bcc5345cb30c8d7df6db5fe8b08c99344de9e7", func := "surd/surdlaw16.ExactClosed", spec := "exactClosed", inPlace := ["math/bits.Add64", "math/bits.Sub64"], unfollowed := true, recurses := true, named := ["surd/expr.rows", "math/bits.divideError", "math/bits.overflowError"], loops := true, apart := false, laid := [("surd/expr.rows", laid_surd_expr_rows)], narrowed := true }
def ExactClosedUptoSaid : Prop := exactClosedUptoRow.holds Tryz.pinned (OpenSpec.upto exactClosedSpec)

/-- 'surdlaw16.ExactUp', WHERE WHAT IT READS IS OF BULK AT MOST 1048576: true; the input reads as it did. -/
def exactUpUptoRow : OpenClaim := { program := "ytmkfecoeghokfaagreatdoor", sum := "81b16f13d282d1e989d9acd015bcc5345cb30c8d7df6db5fe8b08c99344de9e7", func := "surd/surdlaw16.ExactUp", spec := "exactUp", inPlace := ["math/bits.Add64", "math/bits.Sub64"], unfollowed := true, recurses := true, named := ["surd/expr.rows", "math/bits.divideError", "math/bits.overflowError"], loops := true, apart := false, laid := [("surd/expr.rows", laid_surd_expr_rows)], narrowed := true }
def ExactUpUptoSaid : Prop := exactUpUptoRow.holds Tryz.pinned (OpenSpec.upto exactUpSpec)

/-- 'surdlaw16.ExactContext', WHERE WHAT IT READS IS OF BULK AT MOST 1048576: true; the input reads as it did. -/
def exactContextUptoRow : OpenClaim := { program := "ytmkfecoeghokfaagreatdoor", sum := "81b16f13d282d1e989d9acd015bcc5345cb30c8d7df6db5fe8b08c99344de9e7", func := "surd/surdlaw16.ExactContext", spec := "exactContext", inPlace := ["math/bits.Add64", "math/bits.Sub64"], unfollowed := true, recurses := true, named := ["surd/expr.rows", "math/bits.divideError", "math/bits.overflowError"], loops := true, apart := false, laid := [("surd/expr.rows", laid_surd_expr_rows)], narrowed := true }
def ExactContextUptoSaid : Prop := exactContextUptoRow.holds Tryz.pinned (OpenSpec.upto exactContextSpec)

/-- 'surdlaw16.ExactKeeps', WHERE WHAT IT READS IS OF BULK AT MOST 1048576: true; the input reads as it did. -/
def exactKeepsUptoRow : OpenClaim := { program := "ytmkfecoeghokfaagreatdoor", sum := "81b16f13d282d1e989d9acd015bcc5345cb30c8d7df6db5fe8b08c99344de9e7", func := "surd/surdlaw16.ExactKeeps", spec := "exactKeeps", inPlace := ["math/bits.Add64", "math/bits.Sub64"], unfollowed := true, recurses := true, named := ["surd/expr.rows", "math/bits.divideError", "math/bits.overflowError"], loops := true, apart := false, laid := [("surd/expr.rows", laid_surd_expr_rows)], narrowed := true }
def ExactKeepsUptoSaid : Prop := exactKeepsUptoRow.holds Tryz.pinned (OpenSpec.upto exactKeepsSpec)

end Rows
end Go.Proofs.YtmkfecoeghokfaaGreatDoor
