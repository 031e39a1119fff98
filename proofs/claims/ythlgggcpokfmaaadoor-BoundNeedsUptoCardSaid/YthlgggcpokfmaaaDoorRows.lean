/-
  NARROWER THAN 'FOR EVERY INPUT', by the rows' own cells (each row's printed sentence says how): BoundNames: laid · BoundNeeds: loops, laid · BoundReaches: laid · BoundGrows: loops, laid.
  DERIVED. THE GIVEN ROWS OF THIS SEAT. 4 by the template 'for every input the law returns true; each argument reads behind the call as it read before'; 0 by the template 'total and deterministic' (their statements: YthlgggcpokfmaaaDoorTotals.lean).
  GIVEN WITH THE SEED: the statements are not yours to turn. If you find one false, say at which input.
  Laid BY PROGRAM, IN A SANDBOX (cutbox-rows.mjs): the forced cells as the released guide's own fill.sh prints them over the translation 2ab8ac7666f59c05… (all of the seat's roots in one cut). By AI agents, Wed Nov 11 2026. No macro, syntax, notation, axiom, sorry.
-/
import Derived.Test.YthlgggcpokfmaaaDoorChecked
import GoSem.Claim
import GoSem.ClaimJoined
import GoSem.ClaimMapViews
import Derived.JoinedTies
import Derived.KernelRfl
namespace Go.Proofs.YthlgggcpokfmaaaDoor
/- THE CELL 'sum', in the pinned program and in every row, IS THE sha256 OF THE DUMP (.gsa) THAT YthlgggcpokfmaaaDoorProg.lean LOADS. Nothing in Lean hashes anything: it is a label: what it is worth is what the hold of that sum in a sandbox is worth. -/
noncomputable def Tryd.pinned : Pinned := { name := "ythlgggcpokfmaaadoor", sum := "2ab8ac7666f59c05df5f957f2fc5b3b74edb955d2fb1b170a16ceaffbd96ddb4", checked := Tryd.checked }
namespace Rows
def none {H : Type} : Left H := { results := [], args := [] }

/- WHAT THE LISTED PACKAGE-LEVEL VARIABLES READ AS WHEN THE CALL BEGINS. Each datum BY PROGRAM (the guide's laid-datum.mjs) off the statement by which the dump's own 'gosem.cut.vars' lays the variable. In a bare row this is a premise. The card (YthlgggcpokfmaaaDoorCards.lean) ties it to the program's text. -/
def laid_surd_expr_rows {H : Type} : DataW H := .agg [.agg [.lit (.int .i64 0), .lit (.string []), .lit (.int .i64 0)], .agg [.lit (.int .i64 1), .lit (.string [112, 105]), .lit (.int .i64 0)], .agg [.lit (.int .i64 2), .lit (.string [45]), .lit (.int .i64 1)], .agg [.lit (.int .i64 3), .lit (.string [43]), .lit (.int .i64 2)], .agg [.lit (.int .i64 4), .lit (.string [45]), .lit (.int .i64 2)], .agg [.lit (.int .i64 5), .lit (.string [42]), .lit (.int .i64 2)], .agg [.lit (.int .i64 6), .lit (.string [47]), .lit (.int .i64 2)], .agg [.lit (.int .i64 7), .lit (.string [97, 98, 115]), .lit (.int .i64 1)], .agg [.lit (.int .i64 8), .lit (.string [109, 105, 110]), .lit (.int .i64 2)], .agg [.lit (.int .i64 9), .lit (.string [109, 97, 120]), .lit (.int .i64 2)], .agg [.lit (.int .i64 10), .lit (.string [115, 113, 114, 116]), .lit (.int .i64 1)], .agg [.lit (.int .i64 11), .lit (.string [101, 120, 112]), .lit (.int .i64 1)], .agg [.lit (.int .i64 12), .lit (.string [108, 110]), .lit (.int .i64 1)], .agg [.lit (.int .i64 13), .lit (.string [115, 105, 110]), .lit (.int .i64 1)], .agg [.lit (.int .i64 14), .lit (.string [99, 111, 115]), .lit (.int .i64 1)], .agg [.lit (.int .i64 15), .lit (.string [97, 116, 97, 110]), .lit (.int .i64 1)]]

/-- 'surdlaw17.BoundNames': WHATEVER THE INPUT: true; the input reads as it did. -/
def boundNamesSpec : ChangeSpec := { name := "boundNames", fn := fun _ => fun
  | [] => { results := [.lit (.bool true)], args := [] }
  | _ => none }
def boundNamesRow : OpenClaim := { program := "ythlgggcpokfmaaadoor", sum := "2ab8ac7666f59c05df5f957f2fc5b3b74edb955d2fb1b170a16ceaffbd96ddb4", func := "surd/surdlaw17.BoundNames", spec := "boundNames", inPlace := ["math/bits.Add64", "math/bits.Sub64"], unfollowed := true, recurses := true, named := ["surd/expr.rows", "math/bits.divideError", "math/bits.overflowError"], apart := false, laid := [("surd/expr.rows", laid_surd_expr_rows)] }
def BoundNamesSaid : Prop := boundNamesRow.holds Tryd.pinned (OpenSpec.ofChange boundNamesSpec)

/-- ITS FALSE NEIGHBOUR: 'it returns false'. Refute it at one input. -/
def boundNamesWrong : ChangeSpec := { name := "boundNames", fn := fun _ => fun
  | [] => { results := [.lit (.bool false)], args := [] }
  | _ => none }
def BoundNamesWrongFalsely : Prop := boundNamesRow.holds Tryd.pinned (OpenSpec.ofChange boundNamesWrong)

/-- 'surdlaw17.BoundNeeds': WHATEVER THE INPUT: true; the input reads as it did. -/
def boundNeedsSpec : ChangeSpec := { name := "boundNeeds", fn := fun _ => fun
  | [d1, d2] => { results := [.lit (.bool true)], args := [d1, d2] }
  | _ => none }
def boundNeedsRow : OpenClaim := { program := "ythlgggcpokfmaaadoor", sum := "2ab8ac7666f59c05df5f957f2fc5b3b74edb955d2fb1b170a16ceaffbd96ddb4", func := "surd/surdlaw17.BoundNeeds", spec := "boundNeeds", inPlace := ["math/bits.Add64", "math/bits.Sub64"], unfollowed := true, recurses := true, named := ["surd/expr.rows", "math/bits.divideError", "math/bits.overflowError"], loops := true, apart := false, laid := [("surd/expr.rows", laid_surd_expr_rows)] }
def BoundNeedsSaid : Prop := boundNeedsRow.holds Tryd.pinned (OpenSpec.ofChange boundNeedsSpec)

/-- ITS FALSE NEIGHBOUR: 'it returns false'. Refute it at one input. -/
def boundNeedsWrong : ChangeSpec := { name := "boundNeeds", fn := fun _ => fun
  | [d1, d2] => { results := [.lit (.bool false)], args := [d1, d2] }
  | _ => none }
def BoundNeedsWrongFalsely : Prop := boundNeedsRow.holds Tryd.pinned (OpenSpec.ofChange boundNeedsWrong)

/-- 'surdlaw17.BoundReaches': WHATEVER THE INPUT: true; the input reads as it did. -/
def boundReachesSpec : ChangeSpec := { name := "boundReaches", fn := fun _ => fun
  | [d] => { results := [.lit (.bool true)], args := [d] }
  | _ => none }
def boundReachesRow : OpenClaim := { program := "ythlgggcpokfmaaadoor", sum := "2ab8ac7666f59c05df5f957f2fc5b3b74edb955d2fb1b170a16ceaffbd96ddb4", func := "surd/surdlaw17.BoundReaches", spec := "boundReaches", inPlace := ["math/bits.Add64", "math/bits.Sub64"], unfollowed := true, recurses := true, named := ["surd/expr.rows", "math/bits.divideError", "math/bits.overflowError"], apart := false, laid := [("surd/expr.rows", laid_surd_expr_rows)] }
def BoundReachesSaid : Prop := boundReachesRow.holds Tryd.pinned (OpenSpec.ofChange boundReachesSpec)

/-- ITS FALSE NEIGHBOUR: 'it returns false'. Refute it at one input. -/
def boundReachesWrong : ChangeSpec := { name := "boundReaches", fn := fun _ => fun
  | [d] => { results := [.lit (.bool false)], args := [d] }
  | _ => none }
def BoundReachesWrongFalsely : Prop := boundReachesRow.holds Tryd.pinned (OpenSpec.ofChange boundReachesWrong)

/-- 'surdlaw17.BoundGrows': WHATEVER THE INPUT: true; the input reads as it did. -/
def boundGrowsSpec : ChangeSpec := { name := "boundGrows", fn := fun _ => fun
  | [d1, d2, d3] => { results := [.lit (.bool true)], args := [d1, d2, d3] }
  | _ => none }
def boundGrowsRow : OpenClaim := { program := "ythlgggcpokfmaaadoor", sum := "2ab8ac7666f59c05df5f957f2fc5b3b74edb955d2fb1b170a16ceaffbd96ddb4", func := "surd/surdlaw17.BoundGrows", spec := "boundGrows", inPlace := ["math/bits.Add64", "math/bits.Sub64"], unfollowed := true, recurses := true, named := ["surd/expr.rows", "math/bits.divideError", "math/bits.overflowError"], loops := true, apart := false, laid := [("surd/expr.rows", laid_surd_expr_rows)] }
def BoundGrowsSaid : Prop := boundGrowsRow.holds Tryd.pinned (OpenSpec.ofChange boundGrowsSpec)

/-- ITS FALSE NEIGHBOUR: 'it returns false'. Refute it at one input. -/
def boundGrowsWrong : ChangeSpec := { name := "boundGrows", fn := fun _ => fun
  | [d1, d2, d3] => { results := [.lit (.bool false)], args := [d1, d2, d3] }
  | _ => none }
def BoundGrowsWrongFalsely : Prop := boundGrowsRow.holds Tryd.pinned (OpenSpec.ofChange boundGrowsWrong)

/- THE SECOND FORM. 'bulk': how many values and letters a reading holds, each counted each time it is reached (what is shared counts as often as it is met; a slice's spare places count too). A statement '..UptoSaid' is the law's where the arguments, and the package variables that the reading takes, are together of bulk at most 1048576: NARROWER than '..Said'. Prove '..Said' where nothing that the law and all that it calls make is longer than what came in: it says more and counts as full. Else prove '..UptoSaid'. A law counts once. -/
mutual
def uptoBulk {H : Type} : DataW H → Nat
  | .lit (.string bytes) => bytes.length + 1
  | .lit _ => 1
  | .nil => 1
  | .ptr d => uptoBulk d + 1
  | .slice elems spare => uptoBulkAll elems + uptoBulkAll spare + 1
  | .agg parts => uptoBulkAll parts + 1
  | .iface _ d => uptoBulk d + 1
  | .map entries => uptoBulkEntries entries + 1
  | .held _ => 1
def uptoBulkAll {H : Type} : List (DataW H) → Nat
  | [] => 0
  | d :: r => uptoBulk d + uptoBulkAll r
def uptoBulkEntries {H : Type} : List (Lit × DataW H) → Nat
  | [] => 0
  | x :: r => uptoBulkEntry x + uptoBulkEntries r
def uptoBulkEntry {H : Type} : Lit × DataW H → Nat
  | (.string bytes, d) => bytes.length + uptoBulk d + 1
  | (_, d) => uptoBulk d + 1
 end
def uptoSmall : (H : Type) → List (DataW H) → Bool := fun _ ds => decide (uptoBulkAll ds ≤ 1048576)
def OpenSpec.upto (s : _root_.Go.ChangeSpec) : _root_.Go.OpenSpec := { _root_.Go.OpenSpec.ofChange s with cond := some uptoSmall }

/-- 'surdlaw17.BoundNames', WHERE WHAT IT READS IS OF BULK AT MOST 1048576: true; the input reads as it did. -/
def boundNamesUptoRow : OpenClaim := { program := "ythlgggcpokfmaaadoor", sum := "2ab8ac7666f59c05df5f957f2fc5b3b74edb955d2fb1b170a16ceaffbd96ddb4", func := "surd/surdlaw17.BoundNames", spec := "boundNames", inPlace := ["math/bits.Add64", "math/bits.Sub64"], unfollowed := true, recurses := true, named := ["surd/expr.rows", "math/bits.divideError", "math/bits.overflowError"], apart := false, laid := [("surd/expr.rows", laid_surd_expr_rows)], narrowed := true }
def BoundNamesUptoSaid : Prop := boundNamesUptoRow.holds Tryd.pinned (OpenSpec.upto boundNamesSpec)

/-- 'surdlaw17.BoundNeeds', WHERE WHAT IT READS IS OF BULK AT MOST 1048576: true; the input reads as it did. -/
def boundNeedsUptoRow : OpenClaim := { program := "ythlgggcpokfmaaadoor", sum := "2ab8ac7666f59c05df5f957f2fc5b3b74edb955d2fb1b170a16ceaffbd96ddb4", func := "surd/surdlaw17.BoundNeeds", spec := "boundNeeds", inPlace := ["math/bits.Add64", "math/bits.Sub64"], unfollowed := true, recurses := true, named := ["surd/expr.rows", "math/bits.divideError", "math/bits.overflowError"], loops := true, apart := false, laid := [("surd/expr.rows", laid_surd_expr_rows)], narrowed := true }
def BoundNeedsUptoSaid : Prop := boundNeedsUptoRow.holds Tryd.pinned (OpenSpec.upto boundNeedsSpec)

/-- 'surdlaw17.BoundReaches', WHERE WHAT IT READS IS OF BULK AT MOST 1048576: true; the input reads as it did. -/
def boundReachesUptoRow : OpenClaim := { program := "ythlgggcpokfmaaadoor", sum := "2ab8ac7666f59c05df5f957f2fc5b3b74edb955d2fb1b170a16ceaffbd96ddb4", func := "surd/surdlaw17.BoundReaches", spec := "boundReaches", inPlace := ["math/bits.Add64", "math/bits.Sub64"], unfollowed := true, recurses := true, named := ["surd/expr.rows", "math/bits.divideError", "math/bits.overflowError"], apart := false, laid := [("surd/expr.rows", laid_surd_expr_rows)], narrowed := true }
def BoundReachesUptoSaid : Prop := boundReachesUptoRow.holds Tryd.pinned (OpenSpec.upto boundReachesSpec)

/-- 'surdlaw17.BoundGrows', WHERE WHAT IT READS IS OF BULK AT MOST 1048576: true; the input reads as it did. -/
def boundGrowsUptoRow : OpenClaim := { program := "ythlgggcpokfmaaadoor", sum := "2ab8ac7666f59c05df5f957f2fc5b3b74edb955d2fb1b170a16ceaffbd96ddb4", func := "surd/surdlaw17.BoundGrows", spec := "boundGrows", inPlace := ["math/bits.Add64", "math/bits.Sub64"], unfollowed := true, recurses := true, named := ["surd/expr.rows", "math/bits.divideError", "math/bits.overflowError"], loops := true, apart := false, laid := [("surd/expr.rows", laid_surd_expr_rows)], narrowed := true }
def BoundGrowsUptoSaid : Prop := boundGrowsUptoRow.holds Tryd.pinned (OpenSpec.upto boundGrowsSpec)

end Rows
end Go.Proofs.YthlgggcpokfmaaaDoor
