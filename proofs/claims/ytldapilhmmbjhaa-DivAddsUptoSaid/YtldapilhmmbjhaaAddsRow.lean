/-
  'surdlaw03.DivAdds', where what it reads is of bulk at most 1048576: Power turns a sum of exponents into a product.
-/
import Derived.Test.YtldapilhmmbjhaaM5
namespace Go.Proofs.Ytldapilhmmbjhaa.divAdds
open Go.ChangeShapes Go.WideShapes Go.ChangeAt Go.RowKit Go.Proofs.Ytldapilhmmbjhaa.Ev
set_option linter.unusedVariables false

theorem own : ownKnob Try.prog.godebug = none := by kernel_rfl

set_option maxRecDepth 100000 in
theorem lifted (os : Os) (started : os.Started) (H : Type) (enc : TypeId × Value → H) (F : Stop.Interp) :
    ReturnsInHanded {} Try.checked os 10 .any ((Rows.OpenSpec.upto Rows.divAddsSpec).pre6 enc Try.prog Try.f10 Rows.divAddsUptoRow.domain false) (((Rows.OpenSpec.upto Rows.divAddsSpec).at F).post enc Try.prog Try.f10 false true false false) := by
  refine returnsInHanded_of_cond (C := Try.checked) (s := Rows.OpenSpec.upto Rows.divAddsSpec) (k := Rows.uptoSmall) rfl own started (by kernel_rfl) Try.func10
    (OpenSpec.witness (enc := enc) (C := Try.checked) (s := Rows.OpenSpec.upto Rows.divAddsSpec) (k := Rows.uptoSmall) rfl false ⟨#[], #[.slice none 0 0, .slice none 0 0, .slice none 0 0], []⟩ 8 (by kernel_rfl) (by kernel_rfl) (by kernel_rfl)
      (x := ([.nil, .nil, .nil], [], [])) (by kernel_rfl) rfl (by kernel_rfl)) ?_
  intro W base args ds gs before hval0 hW _ hk _
  have hW' := hW
  obtain ⟨p, q, hA0, hV, rfl, hfz, hnd⟩ := hW
  have hA : DataW.TrodAll enc Try.prog W 0 (fun _ => true) true Try.f10.params.toList args.toList ds p := hA0
  rw [Try.params10] at hA
  have hAk := hA
  obtain ⟨v, v', v'', d, d', d'', p1, p2, p3, rfl, rfl, rfl, h1, h2, h3⟩ := trodAll_three hA
  obtain ⟨rfl, rfl⟩ := trodVars_none hV
  have hb := bulk_bound hk
  simp only [List.append_nil, Rows.uptoBulkAll] at hb
  obtain ⟨xs, dx, lx, ax⟩ := open_limbs uNat (hval0 0 _ _ rfl rfl) h1
  obtain ⟨ys, dy, ly, ay⟩ := open_limbs uNat (hval0 1 _ _ rfl rfl) h2
  obtain ⟨zs, dz, lz, az⟩ := open_limbs uNat (hval0 2 _ _ rfl rfl) h3
  have lz' : zs.length ≤ 1048576 := by omega
  have lx' : xs.length ≤ 1048576 := by omega
  have ly' : ys.length ≤ 1048576 := by omega
  have hlt : ∀ x ∈ p1 ++ p2 ++ p3, x.block < W.heap.size := fun x hx => by
    have := hW'.lt x (by simpa using hx)
    exact this
  refine (calls3 Try.func10 (by kernel_rfl) ax ay az fun H va vb vc ha hb hc => by
    obtain ⟨_, H', hcl, _, rfl⟩ := divAdds_spec ha hb hc dx dy dz lx' ly' lz'
    exact ⟨H', hcl⟩).mono fun e W' ⟨he, bel⟩ => ?_
  subst he
  exact ⟨_, rfl, _, _, _, [], _, [], hW', trodAll_mk1 (shut_bool Try.underlying4 _), args_kept laidOut bel _ _ _ _ (by kernel_rfl) hAk hlt, rfl, bel.frame _, fun h => by cases h⟩

theorem over : Rows.divAddsUptoRow.holds Try.pinned (Rows.OpenSpec.upto Rows.divAddsSpec) :=
  OpenClaim.holds_of_cond 10 Try.f10 rfl rfl rfl rfl rfl rfl rfl ⟨rfl, rfl, rfl, rfl, rfl⟩ rfl rfl rfl rfl rfl (by kernel_rfl) Try.func10 (by kernel_rfl)
    (of_decide_eq_true (by kernel_rfl)) (by unfold Func.isWrapper; first | (rw [if_pos (by decide +kernel)]; kernel_rfl) | (rw [if_neg (by decide +kernel)]; exact ⟨rfl, rfl⟩))
    (fun os started H enc _ F => lifted os started H enc F)

end Go.Proofs.Ytldapilhmmbjhaa.divAdds
namespace Go.Proofs.Ytldapilhmmbjhaa
theorem divAddsUpto_holds : Rows.DivAddsUptoSaid := divAdds.over
#print axioms divAddsUpto_holds
end Go.Proofs.Ytldapilhmmbjhaa
