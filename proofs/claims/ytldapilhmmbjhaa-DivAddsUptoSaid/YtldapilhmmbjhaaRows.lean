/-
  No cell of these rows narrows 'for every input' (looked for: loops, veiled, ifaces, maps, wideKeys, modest, calm, conditions, laid).
  DERIVED. THE GIVEN ROWS OF THIS SEAT. 8 by the template 'for every input the law returns true; each argument reads behind the call as it read before'; 0 by the template 'total and deterministic' (their statements: YtldapilhmmbjhaaTotals.lean).
  GIVEN WITH THE SEED: the statements are not yours to turn. If you find one false, say at which input.
  Laid BY PROGRAM, IN A SANDBOX (cutbox-rows.mjs): the forced cells as the released guide's own fill.sh prints them over the translation 300071420a5d8067… (all of the seat's roots in one cut). By AI agents, Wed Nov 11 2026. No macro, syntax, notation, axiom, sorry.
-/
import Derived.Test.YtldapilhmmbjhaaChecked
import GoSem.Claim
import GoSem.ClaimJoined
import GoSem.ClaimMapViews
import Derived.JoinedTies
import Derived.KernelRfl
namespace Go.Proofs.Ytldapilhmmbjhaa
/- THE CELL 'sum', in the pinned program and in every row, IS THE sha256 OF THE DUMP (.gsa) THAT YtldapilhmmbjhaaProg.lean LOADS. Nothing in Lean hashes anything: it is a label: what it is worth is what the hold of that sum in a sandbox is worth. -/
noncomputable def Try.pinned : Pinned := { name := "ytldapilhmmbjhaa", sum := "300071420a5d8067d84c6580d006afd60d1acf6c0da42e8298180e68c9d2fc60", checked := Try.checked }
namespace Rows
def none {H : Type} : Left H := { results := [], args := [] }

/-- 'surdlaw03.DivNames': WHATEVER THE INPUT: true; the input reads as it did. -/
def divNamesSpec : ChangeSpec := { name := "divNames", fn := fun _ => fun
  | [] => { results := [.lit (.bool true)], args := [] }
  | _ => none }
def divNamesRow : OpenClaim := { program := "ytldapilhmmbjhaa", sum := "300071420a5d8067d84c6580d006afd60d1acf6c0da42e8298180e68c9d2fc60", func := "surd/surdlaw03.DivNames", spec := "divNames", inPlace := ["math/bits.Add64", "math/bits.Sub64"], named := ["math/bits.divideError", "math/bits.overflowError"], apart := false }
def DivNamesSaid : Prop := divNamesRow.holds Try.pinned (OpenSpec.ofChange divNamesSpec)

/-- ITS FALSE NEIGHBOUR: 'it returns false'. Refute it at one input. -/
def divNamesWrong : ChangeSpec := { name := "divNames", fn := fun _ => fun
  | [] => { results := [.lit (.bool false)], args := [] }
  | _ => none }
def DivNamesWrongFalsely : Prop := divNamesRow.holds Try.pinned (OpenSpec.ofChange divNamesWrong)

/-- 'surdlaw03.DivSplits': WHATEVER THE INPUT: true; the input reads as it did. -/
def divSplitsSpec : ChangeSpec := { name := "divSplits", fn := fun _ => fun
  | [d1, d2] => { results := [.lit (.bool true)], args := [d1, d2] }
  | _ => none }
def divSplitsRow : OpenClaim := { program := "ytldapilhmmbjhaa", sum := "300071420a5d8067d84c6580d006afd60d1acf6c0da42e8298180e68c9d2fc60", func := "surd/surdlaw03.DivSplits", spec := "divSplits", inPlace := ["math/bits.Add64", "math/bits.Sub64"], named := ["math/bits.divideError", "math/bits.overflowError"], apart := false }
def DivSplitsSaid : Prop := divSplitsRow.holds Try.pinned (OpenSpec.ofChange divSplitsSpec)

/-- ITS FALSE NEIGHBOUR: 'it returns false'. Refute it at one input. -/
def divSplitsWrong : ChangeSpec := { name := "divSplits", fn := fun _ => fun
  | [d1, d2] => { results := [.lit (.bool false)], args := [d1, d2] }
  | _ => none }
def DivSplitsWrongFalsely : Prop := divSplitsRow.holds Try.pinned (OpenSpec.ofChange divSplitsWrong)

/-- 'surdlaw03.DivBoths': WHATEVER THE INPUT: true; the input reads as it did. -/
def divBothsSpec : ChangeSpec := { name := "divBoths", fn := fun _ => fun
  | [d1, d2] => { results := [.lit (.bool true)], args := [d1, d2] }
  | _ => none }
def divBothsRow : OpenClaim := { program := "ytldapilhmmbjhaa", sum := "300071420a5d8067d84c6580d006afd60d1acf6c0da42e8298180e68c9d2fc60", func := "surd/surdlaw03.DivBoths", spec := "divBoths", inPlace := ["math/bits.Add64", "math/bits.Sub64"], named := ["math/bits.divideError", "math/bits.overflowError"], apart := false }
def DivBothsSaid : Prop := divBothsRow.holds Try.pinned (OpenSpec.ofChange divBothsSpec)

/-- ITS FALSE NEIGHBOUR: 'it returns false'. Refute it at one input. -/
def divBothsWrong : ChangeSpec := { name := "divBoths", fn := fun _ => fun
  | [d1, d2] => { results := [.lit (.bool false)], args := [d1, d2] }
  | _ => none }
def DivBothsWrongFalsely : Prop := divBothsRow.holds Try.pinned (OpenSpec.ofChange divBothsWrong)

/-- 'surdlaw03.DivGcds': WHATEVER THE INPUT: true; the input reads as it did. -/
def divGcdsSpec : ChangeSpec := { name := "divGcds", fn := fun _ => fun
  | [d1, d2] => { results := [.lit (.bool true)], args := [d1, d2] }
  | _ => none }
def divGcdsRow : OpenClaim := { program := "ytldapilhmmbjhaa", sum := "300071420a5d8067d84c6580d006afd60d1acf6c0da42e8298180e68c9d2fc60", func := "surd/surdlaw03.DivGcds", spec := "divGcds", inPlace := ["math/bits.Add64", "math/bits.Sub64"], unfollowed := true, recurses := true, named := ["math/bits.divideError", "math/bits.overflowError"], apart := false }
def DivGcdsSaid : Prop := divGcdsRow.holds Try.pinned (OpenSpec.ofChange divGcdsSpec)

/-- ITS FALSE NEIGHBOUR: 'it returns false'. Refute it at one input. -/
def divGcdsWrong : ChangeSpec := { name := "divGcds", fn := fun _ => fun
  | [d1, d2] => { results := [.lit (.bool false)], args := [d1, d2] }
  | _ => none }
def DivGcdsWrongFalsely : Prop := divGcdsRow.holds Try.pinned (OpenSpec.ofChange divGcdsWrong)

/-- 'surdlaw03.DivCommon': WHATEVER THE INPUT: true; the input reads as it did. -/
def divCommonSpec : ChangeSpec := { name := "divCommon", fn := fun _ => fun
  | [d1, d2, d3] => { results := [.lit (.bool true)], args := [d1, d2, d3] }
  | _ => none }
def divCommonRow : OpenClaim := { program := "ytldapilhmmbjhaa", sum := "300071420a5d8067d84c6580d006afd60d1acf6c0da42e8298180e68c9d2fc60", func := "surd/surdlaw03.DivCommon", spec := "divCommon", inPlace := ["math/bits.Add64", "math/bits.Sub64"], unfollowed := true, recurses := true, named := ["math/bits.divideError", "math/bits.overflowError"], apart := false }
def DivCommonSaid : Prop := divCommonRow.holds Try.pinned (OpenSpec.ofChange divCommonSpec)

/-- ITS FALSE NEIGHBOUR: 'it returns false'. Refute it at one input. -/
def divCommonWrong : ChangeSpec := { name := "divCommon", fn := fun _ => fun
  | [d1, d2, d3] => { results := [.lit (.bool false)], args := [d1, d2, d3] }
  | _ => none }
def DivCommonWrongFalsely : Prop := divCommonRow.holds Try.pinned (OpenSpec.ofChange divCommonWrong)

/-- 'surdlaw03.DivBack': WHATEVER THE INPUT: true; the input reads as it did. -/
def divBackSpec : ChangeSpec := { name := "divBack", fn := fun _ => fun
  | [d1, d2] => { results := [.lit (.bool true)], args := [d1, d2] }
  | _ => none }
def divBackRow : OpenClaim := { program := "ytldapilhmmbjhaa", sum := "300071420a5d8067d84c6580d006afd60d1acf6c0da42e8298180e68c9d2fc60", func := "surd/surdlaw03.DivBack", spec := "divBack", inPlace := ["math/bits.Add64", "math/bits.Sub64"], unfollowed := true, recurses := true, named := ["math/bits.divideError", "math/bits.overflowError"], apart := false }
def DivBackSaid : Prop := divBackRow.holds Try.pinned (OpenSpec.ofChange divBackSpec)

/-- ITS FALSE NEIGHBOUR: 'it returns false'. Refute it at one input. -/
def divBackWrong : ChangeSpec := { name := "divBack", fn := fun _ => fun
  | [d1, d2] => { results := [.lit (.bool false)], args := [d1, d2] }
  | _ => none }
def DivBackWrongFalsely : Prop := divBackRow.holds Try.pinned (OpenSpec.ofChange divBackWrong)

/-- 'surdlaw03.DivPowers': WHATEVER THE INPUT: true; the input reads as it did. -/
def divPowersSpec : ChangeSpec := { name := "divPowers", fn := fun _ => fun
  | [d1, d2, d3] => { results := [.lit (.bool true)], args := [d1, d2, d3] }
  | _ => none }
def divPowersRow : OpenClaim := { program := "ytldapilhmmbjhaa", sum := "300071420a5d8067d84c6580d006afd60d1acf6c0da42e8298180e68c9d2fc60", func := "surd/surdlaw03.DivPowers", spec := "divPowers", inPlace := ["math/bits.Add64", "math/bits.Sub64"], unfollowed := true, recurses := true, named := ["math/bits.divideError", "math/bits.overflowError"], apart := false }
def DivPowersSaid : Prop := divPowersRow.holds Try.pinned (OpenSpec.ofChange divPowersSpec)

/-- ITS FALSE NEIGHBOUR: 'it returns false'. Refute it at one input. -/
def divPowersWrong : ChangeSpec := { name := "divPowers", fn := fun _ => fun
  | [d1, d2, d3] => { results := [.lit (.bool false)], args := [d1, d2, d3] }
  | _ => none }
def DivPowersWrongFalsely : Prop := divPowersRow.holds Try.pinned (OpenSpec.ofChange divPowersWrong)

/-- 'surdlaw03.DivAdds': WHATEVER THE INPUT: true; the input reads as it did. -/
def divAddsSpec : ChangeSpec := { name := "divAdds", fn := fun _ => fun
  | [d1, d2, d3] => { results := [.lit (.bool true)], args := [d1, d2, d3] }
  | _ => none }
def divAddsRow : OpenClaim := { program := "ytldapilhmmbjhaa", sum := "300071420a5d8067d84c6580d006afd60d1acf6c0da42e8298180e68c9d2fc60", func := "surd/surdlaw03.DivAdds", spec := "divAdds", inPlace := ["math/bits.Add64", "math/bits.Sub64"], unfollowed := true, recurses := true, named := ["math/bits.divideError", "math/bits.overflowError"], apart := false }
def DivAddsSaid : Prop := divAddsRow.holds Try.pinned (OpenSpec.ofChange divAddsSpec)

/-- ITS FALSE NEIGHBOUR: 'it returns false'. Refute it at one input. -/
def divAddsWrong : ChangeSpec := { name := "divAdds", fn := fun _ => fun
  | [d1, d2, d3] => { results := [.lit (.bool false)], args := [d1, d2, d3] }
  | _ => none }
def DivAddsWrongFalsely : Prop := divAddsRow.holds Try.pinned (OpenSpec.ofChange divAddsWrong)

/- THE SECOND FORM. 'bulk': how many values and letters a reading holds, each counted each time it is reached (what is shared counts as often as it is met; a slice's spare places count too). A statement '..UptoSaid' is the law's where the arguments, and the package variables that the reading takes, are together of bulk at most 1048576: NARROWER than '..Said'. Prove '..Said' where nothing that the law and all that it calls make is longer than what came in: it says more and counts as full. Else prove '..UptoSaid'. A law counts once. -/
mutual
def uptoBulk {H : Type} : DataW H → Nat
  | .lit (.string bytes) => bytes.length + 1
  | .lit _ => 1
  | .nil => 1
  | .ptr d => uptoBulk d + 1
  | .slice elems spare => uptoBulkAll elems + uptoBulkAll spare + 1
  | .agg parts => uptoBulkAll parts + 1
  | .iface _ d => uptoBulk d + 1
  | .map entries => uptoBulkEntries entries + 1
  | .held _ => 1
def uptoBulkAll {H : Type} : List (DataW H) → Nat
  | [] => 0
  | d :: r => uptoBulk d + uptoBulkAll r
def uptoBulkEntries {H : Type} : List (Lit × DataW H) → Nat
  | [] => 0
  | x :: r => uptoBulkEntry x + uptoBulkEntries r
def uptoBulkEntry {H : Type} : Lit × DataW H → Nat
  | (.string bytes, d) => bytes.length + uptoBulk d + 1
  | (_, d) => uptoBulk d + 1
 end
def uptoSmall : (H : Type) → List (DataW H) → Bool := fun _ ds => decide (uptoBulkAll ds ≤ 1048576)
def OpenSpec.upto (s : _root_.Go.ChangeSpec) : _root_.Go.OpenSpec := { _root_.Go.OpenSpec.ofChange s with cond := some uptoSmall }

/-- 'surdlaw03.DivNames', WHERE WHAT IT READS IS OF BULK AT MOST 1048576: true; the input reads as it did. -/
def divNamesUptoRow : OpenClaim := { program := "ytldapilhmmbjhaa", sum := "300071420a5d8067d84c6580d006afd60d1acf6c0da42e8298180e68c9d2fc60", func := "surd/surdlaw03.DivNames", spec := "divNames", inPlace := ["math/bits.Add64", "math/bits.Sub64"], named := ["math/bits.divideError", "math/bits.overflowError"], apart := false, narrowed := true }
def DivNamesUptoSaid : Prop := divNamesUptoRow.holds Try.pinned (OpenSpec.upto divNamesSpec)

/-- 'surdlaw03.DivSplits', WHERE WHAT IT READS IS OF BULK AT MOST 1048576: true; the input reads as it did. -/
def divSplitsUptoRow : OpenClaim := { program := "ytldapilhmmbjhaa", sum := "300071420a5d8067d84c6580d006afd60d1acf6c0da42e8298180e68c9d2fc60", func := "surd/surdlaw03.DivSplits", spec := "divSplits", inPlace := ["math/bits.Add64", "math/bits.Sub64"], named := ["math/bits.divideError", "math/bits.overflowError"], apart := false, narrowed := true }
def DivSplitsUptoSaid : Prop := divSplitsUptoRow.holds Try.pinned (OpenSpec.upto divSplitsSpec)

/-- 'surdlaw03.DivBoths', WHERE WHAT IT READS IS OF BULK AT MOST 1048576: true; the input reads as it did. -/
def divBothsUptoRow : OpenClaim := { program := "ytldapilhmmbjhaa", sum := "300071420a5d8067d84c6580d006afd60d1acf6c0da42e8298180e68c9d2fc60", func := "surd/surdlaw03.DivBoths", spec := "divBoths", inPlace := ["math/bits.Add64", "math/bits.Sub64"], named := ["math/bits.divideError", "math/bits.overflowError"], apart := false, narrowed := true }
def DivBothsUptoSaid : Prop := divBothsUptoRow.holds Try.pinned (OpenSpec.upto divBothsSpec)

/-- 'surdlaw03.DivGcds', WHERE WHAT IT READS IS OF BULK AT MOST 1048576: true; the input reads as it did. -/
def divGcdsUptoRow : OpenClaim := { program := "ytldapilhmmbjhaa", sum := "300071420a5d8067d84c6580d006afd60d1acf6c0da42e8298180e68c9d2fc60", func := "surd/surdlaw03.DivGcds", spec := "divGcds", inPlace := ["math/bits.Add64", "math/bits.Sub64"], unfollowed := true, recurses := true, named := ["math/bits.divideError", "math/bits.overflowError"], apart := false, narrowed := true }
def DivGcdsUptoSaid : Prop := divGcdsUptoRow.holds Try.pinned (OpenSpec.upto divGcdsSpec)

/-- 'surdlaw03.DivCommon', WHERE WHAT IT READS IS OF BULK AT MOST 1048576: true; the input reads as it did. -/
def divCommonUptoRow : OpenClaim := { program := "ytldapilhmmbjhaa", sum := "300071420a5d8067d84c6580d006afd60d1acf6c0da42e8298180e68c9d2fc60", func := "surd/surdlaw03.DivCommon", spec := "divCommon", inPlace := ["math/bits.Add64", "math/bits.Sub64"], unfollowed := true, recurses := true, named := ["math/bits.divideError", "math/bits.overflowError"], apart := false, narrowed := true }
def DivCommonUptoSaid : Prop := divCommonUptoRow.holds Try.pinned (OpenSpec.upto divCommonSpec)

/-- 'surdlaw03.DivBack', WHERE WHAT IT READS IS OF BULK AT MOST 1048576: true; the input reads as it did. -/
def divBackUptoRow : OpenClaim := { program := "ytldapilhmmbjhaa", sum := "300071420a5d8067d84c6580d006afd60d1acf6c0da42e8298180e68c9d2fc60", func := "surd/surdlaw03.DivBack", spec := "divBack", inPlace := ["math/bits.Add64", "math/bits.Sub64"], unfollowed := true, recurses := true, named := ["math/bits.divideError", "math/bits.overflowError"], apart := false, narrowed := true }
def DivBackUptoSaid : Prop := divBackUptoRow.holds Try.pinned (OpenSpec.upto divBackSpec)

/-- 'surdlaw03.DivPowers', WHERE WHAT IT READS IS OF BULK AT MOST 1048576: true; the input reads as it did. -/
def divPowersUptoRow : OpenClaim := { program := "ytldapilhmmbjhaa", sum := "300071420a5d8067d84c6580d006afd60d1acf6c0da42e8298180e68c9d2fc60", func := "surd/surdlaw03.DivPowers", spec := "divPowers", inPlace := ["math/bits.Add64", "math/bits.Sub64"], unfollowed := true, recurses := true, named := ["math/bits.divideError", "math/bits.overflowError"], apart := false, narrowed := true }
def DivPowersUptoSaid : Prop := divPowersUptoRow.holds Try.pinned (OpenSpec.upto divPowersSpec)

/-- 'surdlaw03.DivAdds', WHERE WHAT IT READS IS OF BULK AT MOST 1048576: true; the input reads as it did. -/
def divAddsUptoRow : OpenClaim := { program := "ytldapilhmmbjhaa", sum := "300071420a5d8067d84c6580d006afd60d1acf6c0da42e8298180e68c9d2fc60", func := "surd/surdlaw03.DivAdds", spec := "divAdds", inPlace := ["math/bits.Add64", "math/bits.Sub64"], unfollowed := true, recurses := true, named := ["math/bits.divideError", "math/bits.overflowError"], apart := false, narrowed := true }
def DivAddsUptoSaid : Prop := divAddsUptoRow.holds Try.pinned (OpenSpec.upto divAddsSpec)

end Rows
end Go.Proofs.Ytldapilhmmbjhaa
