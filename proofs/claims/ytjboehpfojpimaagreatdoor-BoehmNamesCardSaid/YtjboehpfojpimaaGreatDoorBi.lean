/-
  'surdlaw20.BoehmNames': the law answers true. Its approximation is a closed run over the listed tables; the engine's theorem carries it to the machine.
-/
import Derived.Test.YtjboehpfojpimaaGreatDoorM5
namespace Go.Proofs.YtjboehpfojpimaaGreatDoor
open Go.ChangeShapes Go.WideShapes Go.ChangeAt Go.RowKit Go.Proofs.YtjboehpfojpimaaGreatDoor.Ev
set_option linter.unusedVariables false
section
theorem own:ownKnob Tryz.prog.godebug=none:=by kernel_rfl
namespace boehmNames
theorem Kb(os:Os)(args:Array Value):laidMetH Tryz.prog [("math/bits.deBruijn64tab",Rows.laid_math_bits_deBruijn64tab),("surd/expr.rows",Rows.laid_surd_expr_rows)] ((World.doorLaid Tryz.prog 400 os).forCall (fun _ _=>0) ⟨#[],args,[]⟩).memory:=laidMetH_of_parts3 (fuel:=8) (laidMet_of_run' 8 (by kernel_rfl) (by kernel_rfl)) (by kernel_rfl) (by kernel_rfl)
theorem calls{w:World}(hL:laidMetH Tryz.prog [("math/bits.deBruijn64tab",Rows.laid_math_bits_deBruijn64tab),("surd/expr.rows",Rows.laid_surd_expr_rows)] w):Calls Tryz.prog 4 #[] w fun e w'=>e= .returned (.bool true)/\Below w.heap.size w w':=by obtain⟨H',hc⟩:=Iu;obtain⟨n,hr⟩:=MP hc;exact OM Tryz.func4 (by kernel_rfl) (args:=[]) (by rw[hr];rfl) rfl hL
set_option maxRecDepth 100000 in
theorem lifted (os : Os) (started : os.Started) (H : Type) (enc : TypeId × Value -> H) :
    ReturnsInHanded {} Tryz.checked os 4 .any (fun w args => (Rows.boehmNamesSpec.pre enc Tryz.prog Tryz.f4 [] false w args /\ laidMetH Tryz.prog [("math/bits.deBruijn64tab", Rows.laid_math_bits_deBruijn64tab), ("surd/expr.rows", Rows.laid_surd_expr_rows)] w) /\ sizedMet enc Tryz.prog Tryz.f4 (OpenSpec.ofChange Rows.boehmNamesSpec) false w args)
      (Rows.boehmNamesSpec.post enc Tryz.prog Tryz.f4 false true false false) := by
  refine returnsInHanded_of_change_and (C := Tryz.checked) (X := fun w _ => laidMetH Tryz.prog [("math/bits.deBruijn64tab", Rows.laid_math_bits_deBruijn64tab), ("surd/expr.rows", Rows.laid_surd_expr_rows)] w) (fun _ _ _ hh h => h.of_heap hh) own started (by kernel_rfl) Tryz.func4
    (ChangeSpec.witness_shaped (enc := enc) (C := Tryz.checked) (os := os) (X := fun w _ => laidMetH Tryz.prog [("math/bits.deBruijn64tab", Rows.laid_math_bits_deBruijn64tab), ("surd/expr.rows", Rows.laid_surd_expr_rows)] w) false (World.doorLaid Tryz.prog 400 os) #[] 8 rfl (World.shaped_of_RefB (by kernel_rfl) (by kernel_rfl)) (by kernel_rfl) (by kernel_rfl) (by kernel_rfl) (Kb os _)) ?_
  intro W base args ds gs before AO hW _ _ hL _
  have hW' := hW
  obtain ⟨p, q, hA0, hV, rfl, hfz, hnd⟩ := hW
  have hA : DataW.TrodAll enc Tryz.prog W 0 (fun _ => true) true Tryz.f4.params.toList args.toList ds p := hA0
  rw [Tryz.params4] at hA
  obtain ⟨rfl, rfl, rfl⟩ := trodAll_none hA
  obtain ⟨rfl, rfl⟩ := trodVars_none hV
  refine (calls hL).mono fun e W' ⟨he, bel⟩ => ?_
  subst he
  exact ⟨_, rfl, _, _, _, [], _, [], hW', trodAll_mk1 (shut_bool Tryz.underlying4 _), trodAll_mk0, rfl, bel.frame _, fun h => by cases h⟩
theorem over:Rows.BoehmNamesSaid:=OpenClaim.holds_of_wide 4 Tryz.f4 rfl rfl rfl rfl rfl rfl rfl ⟨rfl,rfl,rfl,rfl,rfl⟩ rfl rfl rfl rfl rfl (by kernel_rfl) Tryz.func4 (by kernel_rfl) (of_decide_eq_true (by kernel_rfl)) (by unfold Func.isWrapper;first|(rw[if_pos (by decide+kernel)];kernel_rfl)|(rw[if_neg (by decide+kernel)];exact⟨rfl,rfl⟩)) (fun os started H enc _=>lifted os started H enc)
end boehmNames
open boehmNames
theorem boehmNamesCard_holds:Rows.BoehmNamesCardSaid:=Claim7.holds_tied_plain_at .later [] [.data,.data] true Rows.boehmNamesCard.stood.harness true boehmNames.over (fun _ h=>by cases h) (by kernel_rfl) (fun _ h=>by cases h) boehmNames_row_tie rfl ⟨rfl,rfl⟩ (by kernel_rfl) rfl (fun f fn hf KZ=>by obtain rfl:f=4:=Option.some.inj ((show Tryz.prog.funcNamed "surd/surdlaw20.BoehmNames"=some 4 by kernel_rfl).symm.trans hf)|>.symm;obtain rfl:fn=Tryz.f4:=(Option.some.inj (Tryz.func4.symm.trans KZ)).symm;exact⟨by kernel_rfl,fun j t ht=>by rw[Tryz.params4]at ht;simp at ht⟩) (by kernel_rfl)
#print axioms boehmNamesCard_holds
end
end Go.Proofs.YtjboehpfojpimaaGreatDoor
