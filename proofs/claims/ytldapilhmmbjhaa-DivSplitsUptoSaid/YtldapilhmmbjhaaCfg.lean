/-
  THE ENGINE over this seat's program: what it asks of the program, found by the kernel; a law without parameters.
-/
import Derived.Test.YtldapilhmmbjhaaEvM
import Derived.Test.YtldapilhmmbjhaaRows
import Derived.WalkKit
import Derived.ProofKit
import Derived.OpenShut
import Derived.ChangeOld
import Derived.SizedLaws
namespace Go.Proofs.Ytldapilhmmbjhaa
open Go.ChangeShapes Go.WideShapes Go.ChangeAt Go.RowKit Go.Proofs.Ytldapilhmmbjhaa.Ev
set_option linter.unusedVariables false
noncomputable section

def cfg0 : Cfg := { ng := 0, add := 49, sub := 75 }

theorem names_ok : (Try.prog.funcs.toList.all fun fn => fn.body.isNone || !(fn.name == "runtime.NumGoroutine")) = true := by kernel_rfl

theorem cfg_ok (n : Nat) : CfgOk Try.prog { cfg0 with ng := n } where
  mixed := Try.checked.mixed
  names := fun f fn hf hb => by
    have h := List.all_eq_true.mp names_ok fn (by rw [Array.mem_toList_iff]; exact Array.mem_of_getElem? hf)
    cases hbody : fn.body with
    | none => rw [hbody] at hb; cases hb
    | some c =>
      rw [hbody] at h
      simpa using h
  add := ⟨Try.f49, Try.func49, by kernel_rfl, by kernel_rfl, by kernel_rfl, by kernel_rfl⟩
  sub := ⟨Try.f75, Try.func75, by kernel_rfl, by kernel_rfl, by kernel_rfl, by kernel_rfl⟩

/-- An empty abstract heap. -/
def noHeap : AH := { n := 0, lw := 0, t := .nil }

theorem noHeap_inv (w : World) : Inv w.heap.size (fun _ => False) (fun _ => ⟨0, 0, 0, 0⟩) noHeap w :=
  ⟨fun i sz cs h => (by cases h), fun i sz cs h => (by cases h), fun i j a b c d h => (by cases h), fun i h => h.elim, Nat.le_refl _⟩

/-- Does a closed run answer true? -/
def saysTrue : Option (Value × AH) → Bool
  | some (.bool b, _) => b
  | _ => false

theorem saysTrue_some {r : Option (Value × AH)} (h : saysTrue r = true) : ∃ H, r = some (.bool true, H) := by
  unfold saysTrue at h
  split at h
  · subst h; exact ⟨_, rfl⟩
  · cases h

/-- A closed run of a function without parameters. -/
theorem closed_calls {n f : Nat} {fn : Func} (hf : Try.prog.funcs[f]? = some fn) (hb : fn.body.isSome = true) (h : saysTrue (run Try.prog cfg0 n f [] noHeap) = true) (w : World) :
    Calls Try.prog f #[] w fun e w' => e = .returned (.bool true) ∧ Below w.heap.size w w' := by
  obtain ⟨H', hr⟩ := saysTrue_some h
  have := run_calls (cfg_ok 0) hr hf hb (S := fun _ => False) (L := fun _ => ⟨0, 0, 0, 0⟩) (w := w) (fun g hg => absurd hg (Nat.not_lt_zero g)) (noHeap_inv w) VRs.nil
  refine this.mono fun e w' ⟨v', he, hg⟩ => ?_
  have hbel := hg.below (noHeap_inv w)
  obtain ⟨L', _, _, hv⟩ := hg
  cases hv
  exact ⟨he, hbel⟩

end
end Go.Proofs.Ytldapilhmmbjhaa
