/-
  'surdlaw17.BoundReaches': Reach of any number answers as the document says. Both are walked by the engine; the law's examples are a closed run.
-/
import Derived.Test.YthlgggcpokfmaaaDoorReach
import Derived.Test.YthlgggcpokfmaaaDoorKept
namespace Go.Proofs.YthlgggcpokfmaaaDoor.boundReaches
open Go.ChangeShapes Go.WideShapes Go.ChangeAt Go.RowKit Go.Proofs.YthlgggcpokfmaaaDoor.Ev
set_option linter.unusedVariables false

theorem own : ownKnob Tryd.prog.godebug = none := by kernel_rfl

theorem door_met (os : Os) (args : Array Value) : laidMetH Tryd.prog [("surd/expr.rows", Rows.laid_surd_expr_rows)] ((World.doorLaid Tryd.prog 400 os).forCall (fun _ _ => 0) ⟨#[], args, []⟩).memory :=
  laidMetH_of_parts3 (fuel := 8) (laidMet_of_run' 8 (by kernel_rfl) (by kernel_rfl)) (by kernel_rfl) (by kernel_rfl)

/-- The law's run on the machine. -/
theorem calls {need : Int} (lo : -9223372036854775808 ≤ need) (hi : need < 9223372036854775808) {w : World} (hL : laidMetH Tryd.prog [("surd/expr.rows", Rows.laid_surd_expr_rows)] w) :
    Calls Tryd.prog 5 #[.int .i64 need] w fun e w' => e = .returned (.bool true) ∧ Below w.heap.size w w' := by
  obtain ⟨v, H', hc, hv⟩ := law_spec lo hi
  subst hv
  obtain ⟨n, hr⟩ := callI_run hc
  have hI := rowsHeap_inv (of_laid hL)
  have := run_calls (cfg_ok (0 + 1)) hr Tryd.func5 (by kernel_rfl) rows_go hI (args' := [Value.int .i64 need]) (.cons (.int .i64 need) .nil)
  refine this.mono fun e w' ⟨v', he, hg⟩ => ?_
  have hbel := hg.below hI
  obtain ⟨L', _, _, hv⟩ := hg
  cases hv
  exact ⟨he, hbel⟩

set_option maxRecDepth 100000 in
theorem lifted (os : Os) (started : os.Started) (H : Type) (enc : TypeId × Value → H) :
    ReturnsInHanded {} Tryd.checked os 5 .any (fun w args => (Rows.boundReachesSpec.pre enc Tryd.prog Tryd.f5 [] false w args ∧ laidMetH Tryd.prog [("surd/expr.rows", Rows.laid_surd_expr_rows)] w) ∧ sizedMet enc Tryd.prog Tryd.f5 (OpenSpec.ofChange Rows.boundReachesSpec) false w args)
      (Rows.boundReachesSpec.post enc Tryd.prog Tryd.f5 false true false false) := by
  refine returnsInHanded_of_change_and (C := Tryd.checked) (X := fun w _ => laidMetH Tryd.prog [("surd/expr.rows", Rows.laid_surd_expr_rows)] w) (fun _ _ _ hh h => h.of_heap hh) own started (by kernel_rfl) Tryd.func5
    (ChangeSpec.witness_shaped (enc := enc) (C := Tryd.checked) (os := os) (X := fun w _ => laidMetH Tryd.prog [("surd/expr.rows", Rows.laid_surd_expr_rows)] w) false (World.doorLaid Tryd.prog 400 os) #[.int .i64 0] 8 rfl (World.shaped_of_RefB (by kernel_rfl) (by kernel_rfl)) (by kernel_rfl) (by kernel_rfl) (by kernel_rfl) (door_met os _)) ?_
  intro W base args ds gs before hval0 hW _ _ hL _
  have hW' := hW
  obtain ⟨p, q, hA0, hV, rfl, hfz, hnd⟩ := hW
  have hA : DataW.TrodAll enc Tryd.prog W 0 (fun _ => true) true Tryd.f5.params.toList args.toList ds p := hA0
  rw [Tryd.params5] at hA
  have hAk := hA
  obtain ⟨v, d, rfl, rfl, hd⟩ := trodAll_one hA
  obtain ⟨rfl, rfl⟩ := trodVars_none hV
  obtain ⟨n, rfl, rfl, rfl, hwf⟩ := open_int Tryd.underlying3 (hval0 0 _ _ rfl rfl) hd
  have hb : -9223372036854775808 ≤ n ∧ n < 9223372036854775808 := by
    simp only [Lit.wf, Bool.and_eq_true, decide_eq_true_eq] at hwf
    have h1 : IntKind.i64.min = -9223372036854775808 := by decide
    have h2 : IntKind.i64.max = 9223372036854775807 := by decide
    omega
  refine (calls hb.1 hb.2 hL).mono fun e W' ⟨he, bel⟩ => ?_
  subst he
  exact ⟨_, rfl, _, _, _, [], _, [], hW', trodAll_mk1 (shut_bool Tryd.underlying4 _), args_kept laidOut bel _ _ _ _ (by kernel_rfl) hAk (fun x hx => by cases hx), rfl, bel.frame _, fun h => by cases h⟩

theorem over : Rows.BoundReachesSaid :=
  OpenClaim.holds_of_wide 5 Tryd.f5 rfl rfl rfl rfl rfl rfl rfl ⟨rfl, rfl, rfl, rfl, rfl⟩ rfl rfl rfl rfl rfl (by kernel_rfl) Tryd.func5 (by kernel_rfl)
    (of_decide_eq_true (by kernel_rfl)) (by unfold Func.isWrapper; first | (rw [if_pos (by decide +kernel)]; kernel_rfl) | (rw [if_neg (by decide +kernel)]; exact ⟨rfl, rfl⟩))
    (fun os started H enc _ => lifted os started H enc)

end Go.Proofs.YthlgggcpokfmaaaDoor.boundReaches
namespace Go.Proofs.YthlgggcpokfmaaaDoor
open boundReaches
theorem boundReachesCard_holds : Rows.BoundReachesCardSaid :=
  Claim7.holds_tied_plain_at .later [] [.data] true Rows.boundReachesCard.stood.harness true
    boundReaches.over (fun _ h => by cases h) (by kernel_rfl) (fun _ h => by cases h) boundReaches_row_tie rfl ⟨rfl, rfl⟩ (by kernel_rfl) rfl
    (fun f fn hf hfn => by
      obtain rfl : f = 5 := Option.some.inj ((show Tryd.prog.funcNamed "surd/surdlaw17.BoundReaches" = some 5 by kernel_rfl).symm.trans hf) |>.symm
      obtain rfl : fn = Tryd.f5 := (Option.some.inj (Tryd.func5.symm.trans hfn)).symm
      exact ⟨by kernel_rfl, fun j t ht => by
        rw [Tryd.params5] at ht
        cases j with
        | zero => obtain rfl := Option.some.inj ht; kernel_rfl
        | succ j => simp at ht⟩)
    (by kernel_rfl)
#print axioms boundReachesCard_holds
end Go.Proofs.YthlgggcpokfmaaaDoor
