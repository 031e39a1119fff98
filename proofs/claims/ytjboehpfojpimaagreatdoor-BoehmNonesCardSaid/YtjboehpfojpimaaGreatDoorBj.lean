/-
  'surdlaw20.BoehmNones': the law answers true. Its approximation is a closed run over the listed tables; the engine's theorem carries it to the machine.
-/
import Derived.Test.YtjboehpfojpimaaGreatDoorM5
namespace Go.Proofs.YtjboehpfojpimaaGreatDoor
open Go.ChangeShapes Go.WideShapes Go.ChangeAt Go.RowKit Go.Proofs.YtjboehpfojpimaaGreatDoor.Ev
set_option linter.unusedVariables false
section
theorem own:ownKnob Tryz.prog.godebug=none:=by kernel_rfl
namespace boehmNones
theorem Kl(os:Os)(args:Array Value):laidMetH Tryz.prog [("math/bits.deBruijn64tab",Rows.laid_math_bits_deBruijn64tab),("surd/expr.rows",Rows.laid_surd_expr_rows)] ((World.doorLaid Tryz.prog 400 os).forCall (fun _ _=>0) ⟨#[],args,[]⟩).memory:=laidMetH_of_parts3 (fuel:=8) (laidMet_of_run' 8 (by kernel_rfl) (by kernel_rfl)) (by kernel_rfl) (by kernel_rfl)
theorem calls(a b:Int){w:World}(hL:laidMetH Tryz.prog [("math/bits.deBruijn64tab",Rows.laid_math_bits_deBruijn64tab),("surd/expr.rows",Rows.laid_surd_expr_rows)] w):Calls Tryz.prog 5 #[.int .i64 a,.int .i64 b] w fun e w'=>e= .returned (.bool true)/\Below w.heap.size w w':=by obtain⟨H',hc⟩:=IW a b;obtain⟨n,hr⟩:=MH hc;exact OL Tryz.func5 (by kernel_rfl) (args:=[.int .i64 a,.int .i64 b]) (by rw[hr];rfl) rfl hL
set_option maxRecDepth 100000 in
theorem lifted (os : Os) (started : os.Started) (H : Type) (enc : TypeId × Value -> H) :
    ReturnsInHanded {} Tryz.checked os 5 .any (fun w args => (Rows.boehmNonesSpec.pre enc Tryz.prog Tryz.f5 [] false w args /\ laidMetH Tryz.prog [("math/bits.deBruijn64tab", Rows.laid_math_bits_deBruijn64tab), ("surd/expr.rows", Rows.laid_surd_expr_rows)] w) /\ sizedMet enc Tryz.prog Tryz.f5 (OpenSpec.ofChange Rows.boehmNonesSpec) false w args)
      (Rows.boehmNonesSpec.post enc Tryz.prog Tryz.f5 false true false false) := by
  refine returnsInHanded_of_change_and (C := Tryz.checked) (X := fun w _ => laidMetH Tryz.prog [("math/bits.deBruijn64tab", Rows.laid_math_bits_deBruijn64tab), ("surd/expr.rows", Rows.laid_surd_expr_rows)] w) (fun _ _ _ hh h => h.of_heap hh) own started (by kernel_rfl) Tryz.func5
    (ChangeSpec.witness_shaped (enc := enc) (C := Tryz.checked) (os := os) (X := fun w _ => laidMetH Tryz.prog [("math/bits.deBruijn64tab", Rows.laid_math_bits_deBruijn64tab), ("surd/expr.rows", Rows.laid_surd_expr_rows)] w) false (World.doorLaid Tryz.prog 400 os) #[.int .i64 0, .int .i64 0] 8 rfl (World.shaped_of_RefB (by kernel_rfl) (by kernel_rfl)) (by kernel_rfl) (by kernel_rfl) (by kernel_rfl) (Kl os _)) ?_
  intro W base args ds gs before HY hW _ _ hL _
  have hW' := hW
  obtain ⟨p, q, hA0, hV, rfl, hfz, hnd⟩ := hW
  have hA : DataW.TrodAll enc Tryz.prog W 0 (fun _ => true) true Tryz.f5.params.toList args.toList ds p := hA0
  rw [Tryz.params5] at hA
  have hAk := hA
  obtain ⟨v1, v2, d1, d2, p1, p2, rfl, rfl, rfl, h1, h2⟩ := trodAll_two hA
  obtain ⟨rfl, rfl⟩ := trodVars_none hV
  obtain ⟨a, rfl, rfl, rfl, _⟩ := open_int Tryz.underlying3 (HY 0 _ _ rfl rfl) h1
  obtain ⟨b, rfl, rfl, rfl, _⟩ := open_int Tryz.underlying3 (HY 1 _ _ rfl rfl) h2
  refine (calls a b hL).mono fun e W' ⟨he, Ai⟩ => ?_
  subst he
  exact ⟨_, rfl, _, _, _, [], _, [], hW', trodAll_mk1 (shut_bool Tryz.underlying4 _), RG laidOut Ai _ _ _ _ (by kernel_rfl) hAk (fun x hx => by cases hx), rfl, Ai.frame _, fun h => by cases h⟩
theorem over:Rows.BoehmNonesSaid:=OpenClaim.holds_of_wide 5 Tryz.f5 rfl rfl rfl rfl rfl rfl rfl ⟨rfl,rfl,rfl,rfl,rfl⟩ rfl rfl rfl rfl rfl (by kernel_rfl) Tryz.func5 (by kernel_rfl) (of_decide_eq_true (by kernel_rfl)) (by unfold Func.isWrapper;first|(rw[if_pos (by decide+kernel)];kernel_rfl)|(rw[if_neg (by decide+kernel)];exact⟨rfl,rfl⟩)) (fun os started H enc _=>lifted os started H enc)
end boehmNones
open boehmNones
theorem boehmNonesCard_holds:Rows.BoehmNonesCardSaid:=Claim7.holds_tied_plain_at .later [] [.data,.data] true Rows.boehmNonesCard.stood.harness true boehmNones.over (fun _ h=>by cases h) (by kernel_rfl) (fun _ h=>by cases h) boehmNones_row_tie rfl ⟨rfl,rfl⟩ (by kernel_rfl) rfl (fun f fn hf KP=>by obtain rfl:f=5:=Option.some.inj ((show Tryz.prog.funcNamed "surd/surdlaw20.BoehmNones"=some 5 by kernel_rfl).symm.trans hf)|>.symm;obtain rfl:fn=Tryz.f5:=(Option.some.inj (Tryz.func5.symm.trans KP)).symm;exact⟨by kernel_rfl,fun j t ht=>by rw[Tryz.params5]at ht;cases j with
 |zero=>obtain rfl:=Option.some.inj ht;kernel_rfl
 |succ j=>cases j with|zero=>obtain rfl:=Option.some.inj ht;kernel_rfl|succ j=>simp at ht⟩) (by kernel_rfl)
#print axioms boehmNonesCard_holds
end
end Go.Proofs.YtjboehpfojpimaaGreatDoor
