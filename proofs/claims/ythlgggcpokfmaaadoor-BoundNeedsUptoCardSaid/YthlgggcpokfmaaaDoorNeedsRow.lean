/-
  'surdlaw17.BoundNeeds', where what it reads is of bulk at most 1048576: Need of any tree is what the document says.
-/
import Derived.Test.YthlgggcpokfmaaaDoorM4
import Derived.JoinedCond
namespace Go.Proofs.YthlgggcpokfmaaaDoor
open Go.ChangeShapes Go.WideShapes Go.ChangeAt Go.RowKit Go.Proofs.YthlgggcpokfmaaaDoor.Ev
set_option linter.unusedVariables false

section
variable {H : Type} {enc : TypeId × Value → H}
/-- A law with a condition and more that is met (the laid table). -/
theorem returnsInHanded_of_cond_and {a : Assume} {C : Checked} {os : Os} {f : FuncId} {fn : Func} {s : OpenSpec} {k : (H : Type) → List (DataW H) → Bool} (hk : s.cond = some k) {F : Stop.Interp} {conds : List PathCond} {apart fresh handsOn again : Bool} {X : World → Array Value → Prop}
    (hX : ∀ (w w' : World) (args : Array Value), w.heap = w'.heap → X w args → X w' args)
    (own : ownKnob C.prog.godebug = none) (started : os.Started) (noInit : C.prog.inits.idxOf? f = none) (hfn : C.prog.funcs[f]? = some fn)
    (witness : ∃ (w : World) (tape : Tape) (i : Input), w.os = os ∧ (w.forCall tape i).Shaped C.prog ∧ i.vars = [] ∧ Input.okWide C.prog (w.forCall tape i) .any w.heap.size f i ∧
      ((s.pre enc C.prog fn conds apart (w.forCall tape i).memory i.args ∧ X (w.forCall tape i).memory i.args) ∧ sizedMet enc C.prog fn s apart (w.forCall tape i).memory i.args) ∧ a.holds C.prog (lone (Frame.enter C.prog f i.args .normal) [] (w.forCall tape i)))
    (contract : ∀ (W : World) (base : Nat) (args : Array Value) (ds gs : List (DataW H)) (before : List MemPlace),
      (∀ (j : Nat) t v, fn.params[j]? = some t → args[j]? = some v → Value.okWide C.prog W .any base t v) →
      DataW.Whole enc C.prog fn.params.toList s.vars apart W args.toList ds gs before →
      conds.all (PathCond.test C.prog ⟨fn.params.toList, ds, s.bare.plain.varTypes C.prog, gs⟩) = true → k H (ds ++ gs) = true → X W args →
      a.holds C.prog (lone (Frame.enter C.prog f args .normal) [] W) →
      Calls C.prog f args W fun e W' => ∃ v, e = .returned v ∧ (s.at F).post enc C.prog fn apart fresh handsOn again W args v W') :
    ReturnsInHanded a C os f .any (fun w args => (s.pre enc C.prog fn conds apart w args ∧ X w args) ∧ sizedMet enc C.prog fn s apart w args) ((s.at F).post enc C.prog fn apart fresh handsOn again) := by
  refine returnsInHanded_of_calls own started noInit witness ?_
  intro w tape i _ _ _ hok hpre hholds
  obtain ⟨_, _, _, fn', hfn', _, _, _, _, hval⟩ := hok
  have e : fn' = fn := Option.some.inj (hfn'.symm.trans hfn)
  subst e
  obtain ⟨⟨hp, hx⟩, hz⟩ := hpre
  obtain ⟨ds, gs, before, hw, hc, hkk⟩ := (OpenSpec.pre_some hk conds apart _ _).1 hp
  have hw' := DataW.Whole.of_heap (w' := w.forCall tape i) (by rfl) hw
  refine (contract (w.forCall tape i) w.heap.size i.args ds gs before hval hw' hc hkk (hX _ _ _ (by rfl) hx) hholds).mono fun e W' ⟨v, he, hp⟩ => ?_
  subst he
  exact ChangeSpec.post_blind hp

theorem OpenSpec.witness_and {C : Checked} {os : Os} {f : FuncId} {fn : Func} {s : OpenSpec} {k : (H : Type) → List (DataW H) → Bool} (hk : s.cond = some k) {conds : List PathCond} {apart : Bool} {X : World → Array Value → Prop} (modest : Bool) (w0 : World) (args : Array Value) (fuel : Nat) (hos : w0.os = os)
    (hsh : (w0.forCall (fun _ _ => 0) ⟨#[], args, []⟩).Shaped C.prog)
    (hok : Input.okWideB C.prog (w0.forCall (fun _ _ => 0) ⟨#[], args, []⟩) f ⟨#[], args, []⟩ = true)
    {x : List (DataW H) × List (DataW H) × List MemPlace} (hx : DataW.whole enc C.prog (w0.forCall (fun _ _ => 0) ⟨#[], args, []⟩).memory fn.params.toList s.vars apart args.toList fuel = some x)
    (hconds : conds.all (PathCond.test C.prog ⟨fn.params.toList, x.1, s.bare.plain.varTypes C.prog, x.2.1⟩) = true) (hkk : k H (x.1 ++ x.2.1) = true)
    (hsz : s.bare.sizedB enc C.prog fn apart (w0.forCall (fun _ _ => 0) ⟨#[], args, []⟩).memory args fuel = true)
    (hX : X (w0.forCall (fun _ _ => 0) ⟨#[], args, []⟩).memory args) :
    ∃ (w : World) (tape : Tape) (i : Input), w.os = os ∧ (w.forCall tape i).Shaped C.prog ∧ i.vars = [] ∧ Input.okWide C.prog (w.forCall tape i) .any w.heap.size f i ∧
      ((s.pre enc C.prog fn conds apart (w.forCall tape i).memory i.args ∧ X (w.forCall tape i).memory i.args) ∧ sizedMet enc C.prog fn s apart (w.forCall tape i).memory i.args) ∧ ({ modest := modest } : Assume).holds C.prog (lone (Frame.enter C.prog f i.args .normal) [] (w.forCall tape i)) :=
  ⟨w0, fun _ _ => 0, ⟨#[], args, []⟩, hos, hsh, (Input.okWide_of_okWideB (base := 0) hok).1, (Input.okWide_of_okWideB hok).2,
    ⟨⟨(OpenSpec.pre_some hk conds apart _ _).2 ⟨x.1, x.2.1, x.2.2, DataW.Whole_of_whole hx, hconds, hkk⟩, hX⟩, sizedMet_of_sizedB hsz⟩, by
    simp only [Assume.holds]
    exact ⟨by simp, by simp, fun _ => Modest.zero, by simp, by simp⟩⟩
end

theorem VR_agg {S : Nat → Prop} {L : Nat → Ev.Loc} {vs ws : List Value} (h : VRs S L vs ws) : VR S L (.agg vs.toArray) (.agg ws.toArray) :=
  .agg _ _ (by simpa using h.1) fun k v v' h1 h2 => h.2 k v v' (by simpa using h1) (by simpa using h2)

theorem rowsIn0 : RowsIn rowsHeap := ⟨by decide, rfl⟩

theorem uHow : ∃ f0 f1 f2, Tryd.prog.underlying 34 = some (.struct #[f0, f1, f2]) ∧ f0.type = 3 ∧ f0.offset = 0 ∧ f1.type = 3 ∧ f1.offset = 1 ∧ f2.type = 3 ∧ f2.offset = 2 := ⟨_, _, _, Tryd.underlying34, rfl, rfl, rfl, rfl, rfl, rfl⟩
theorem cHow : Tryd.prog.cellsOf 34 = 3 := by kernel_rfl

set_option maxRecDepth 100000 in
/-- An expression, handed in. -/
theorem open_expr {H : Type} {enc : TypeId × Value → H} {W : World} {r : Reach} {b0 : Nat} {v : Value} {d : DataW H} {ps : List MemPlace} (hval : Value.okWide Tryd.prog W r b0 32 v)
    (h : DataW.Trod enc Tryd.prog W 0 (fun _ => true) true 32 v d ps) : ∃ (cs : List Value) (t : ET), v = .agg cs.toArray ∧ WEx W cs t ∧ (∀ L, Rows.uptoBulk d ≤ L → t.wide L) ∧ t.nodes ≤ Rows.uptoBulk d := by
  obtain ⟨f0, f1, f2, hu, _⟩ := uExpr
  obtain ⟨cs, rfl, _⟩ := okWide_struct hu hval
  obtain ⟨fuel, hf⟩ := h
  obtain ⟨t, h1, h2, h3⟩ := open_tree _ d (Nat.le_refl _) fuel _ ps hf
  exact ⟨cs.toList, t, by simp, h1, h2, h3⟩

set_option maxRecDepth 100000 in
theorem open_how {H : Type} {enc : TypeId × Value → H} {W : World} {r : Reach} {b0 : Nat} {v : Value} {d : DataW H} {ps : List MemPlace} (hval : Value.okWide Tryd.prog W r b0 34 v)
    (h : DataW.Trod enc Tryd.prog W 0 (fun _ => true) true 34 v d ps) : ∃ n c s : Int, v = .agg #[.int .i64 n, .int .i64 c, .int .i64 s] := by
  obtain ⟨f0, f1, f2, hu, e1, e2, e3, e4, e5, e6⟩ := uHow
  obtain ⟨cs, rfl, _⟩ := okWide_struct hu hval
  obtain ⟨fuel, hf⟩ := h
  obtain ⟨y0, y1, y2, m, _, hl, h0, h1, h2⟩ := Deep.trod_struct3 hu hf
  rw [e1, e2, cInt] at h0
  rw [e3, e4, cInt] at h1
  rw [e5, e6, cInt] at h2
  rw [cHow] at hl
  obtain ⟨n, c0, _, _⟩ := DataW.trod_int Tryd.underlying3 h0
  obtain ⟨c, c1, _, _⟩ := DataW.trod_int Tryd.underlying3 h1
  obtain ⟨s, c2, _, _⟩ := DataW.trod_int Tryd.underlying3 h2
  refine ⟨n, c, s, ?_⟩
  obtain ⟨l⟩ := cs
  match l, hl with
  | [a0, a1, a2], _ =>
    simp [Value.cells] at c0 c1 c2
    subst c0; subst c1; subst c2
    rfl

namespace boundNeeds

theorem own : ownKnob Tryd.prog.godebug = none := by kernel_rfl

theorem door_met (os : Os) (args : Array Value) : laidMetH Tryd.prog [("surd/expr.rows", Rows.laid_surd_expr_rows)] ((World.doorLaid Tryd.prog 400 os).forCall (fun _ _ => 0) ⟨#[], args, []⟩).memory :=
  laidMetH_of_parts3 (fuel := 8) (laidMet_of_run' 8 (by kernel_rfl) (by kernel_rfl)) (by kernel_rfl) (by kernel_rfl)

theorem calls {cs : List Value} {t : ET} {n c s : Int} {w : World} (hw : WEx w cs t) (h1 : t.wide 1048576) (h2 : t.nodes ≤ 1048576) (hL : laidMetH Tryd.prog [("surd/expr.rows", Rows.laid_surd_expr_rows)] w) :
    Calls Tryd.prog 4 #[.agg cs.toArray, .agg #[.int .i64 n, .int .i64 c, .int .i64 s]] w fun e w' => e = .returned (.bool true) ∧ Below w.heap.size w w' := by
  have hI := rowsHeap_inv (of_laid hL)
  obtain ⟨S1, L1, H1, vs, I1, s1, l1, r1, q1, k1⟩ := add_tree _ t (Nat.le_refl _) cs hw hI
  have go1 : GO cfgR S1 L1 := fun g hg => by
    obtain ⟨a, b, c⟩ := rows_go g hg
    exact ⟨s1 g a, by rw [l1 g a]; exact b, by rw [l1 g a]; exact c⟩
  obtain ⟨_, H', hc, _, rfl⟩ := needs_spec (H := H1) (vs := vs) ⟨q1, rowsIn0.keep k1, h1, by omega⟩ n c s
  obtain ⟨m, hr⟩ := callI_run hc
  have := run_calls (cfg_ok (0 + 1)) hr Tryd.func4 (by kernel_rfl) go1 I1 (args' := [.agg cs.toArray, .agg #[.int .i64 n, .int .i64 c, .int .i64 s]])
    (.cons (VR_agg r1) (.cons (VR_agg (vs := [.int .i64 n, .int .i64 c, .int .i64 s]) (ws := [.int .i64 n, .int .i64 c, .int .i64 s]) (.cons (.int _ _) (.cons (.int _ _) (.cons (.int _ _) .nil)))) .nil))
  refine this.mono fun e w' ⟨v', he, hg⟩ => ?_
  have hbel := hg.below I1
  obtain ⟨L', _, _, hv⟩ := hg
  cases hv
  exact ⟨he, hbel⟩

set_option maxRecDepth 100000 in
theorem lifted (os : Os) (started : os.Started) (H : Type) (enc : TypeId × Value → H) (F : Stop.Interp) :
    ReturnsInHanded {} Tryd.checked os 4 .any (fun w args => ((Rows.OpenSpec.upto Rows.boundNeedsSpec).pre enc Tryd.prog Tryd.f4 [] false w args ∧ laidMetH Tryd.prog [("surd/expr.rows", Rows.laid_surd_expr_rows)] w) ∧ sizedMet enc Tryd.prog Tryd.f4 (Rows.OpenSpec.upto Rows.boundNeedsSpec) false w args)
      (((Rows.OpenSpec.upto Rows.boundNeedsSpec).at F).post enc Tryd.prog Tryd.f4 false true false false) := by
  refine returnsInHanded_of_cond_and (C := Tryd.checked) (s := Rows.OpenSpec.upto Rows.boundNeedsSpec) (k := Rows.uptoSmall) rfl (X := fun w _ => laidMetH Tryd.prog [("surd/expr.rows", Rows.laid_surd_expr_rows)] w) (fun _ _ _ hh h => h.of_heap hh) own started (by kernel_rfl) Tryd.func4
    (OpenSpec.witness_and (enc := enc) (C := Tryd.checked) (os := os) (s := Rows.OpenSpec.upto Rows.boundNeedsSpec) (k := Rows.uptoSmall) rfl (X := fun w _ => laidMetH Tryd.prog [("surd/expr.rows", Rows.laid_surd_expr_rows)] w) false (World.doorLaid Tryd.prog 400 os)
      #[.agg #[.int .i64 0, .bool false, .slice none 0 0, .slice none 0 0, .slice none 0 0], .agg #[.int .i64 0, .int .i64 0, .int .i64 0]] 12 rfl (World.shaped_of_RefB (by kernel_rfl) (by kernel_rfl)) (by kernel_rfl)
      (x := ([.agg [.lit (.int .i64 0), .agg [.agg [.lit (.bool false), .nil], .nil], .nil], .agg [.lit (.int .i64 0), .lit (.int .i64 0), .lit (.int .i64 0)]], [], [])) (by kernel_rfl) rfl (by kernel_rfl) (by kernel_rfl) (door_met os _)) ?_
  intro W base args ds gs before hval0 hW _ hk hL _
  have hW' := hW
  obtain ⟨p, q, hA0, hV, rfl, hfz, hnd⟩ := hW
  have hA : DataW.TrodAll enc Tryd.prog W 0 (fun _ => true) true Tryd.f4.params.toList args.toList ds p := hA0
  rw [Tryd.params4] at hA
  have hAk := hA
  obtain ⟨v, v', d, d', p1, p2, rfl, rfl, rfl, h1, h2⟩ := trodAll_two hA
  obtain ⟨rfl, rfl⟩ := trodVars_none hV
  have hb := bulk_bound hk
  simp only [List.append_nil, Rows.uptoBulkAll] at hb
  obtain ⟨cs, t, rfl, hw, hwide, hnodes⟩ := open_expr (hval0 0 _ _ rfl rfl) h1
  obtain ⟨n, c, s, rfl⟩ := open_how (hval0 1 _ _ rfl rfl) h2
  have hlt : ∀ x ∈ p1 ++ p2, x.block < W.heap.size := fun x hx => by
    have := hW'.lt x (by simpa using hx)
    exact this
  refine (calls hw (hwide _ (by omega)) (by omega) hL).mono fun e W' ⟨he, bel⟩ => ?_
  subst he
  exact ⟨_, rfl, _, _, _, [], _, [], hW', trodAll_mk1 (shut_bool Tryd.underlying4 _), args_kept laidOut bel _ _ _ _ (by kernel_rfl) hAk hlt, rfl, bel.frame _, fun h => by cases h⟩

theorem over : Rows.BoundNeedsUptoSaid :=
  OpenClaim.holds_of_cond 4 Tryd.f4 rfl rfl rfl rfl rfl rfl rfl ⟨rfl, rfl, rfl, rfl, rfl⟩ rfl rfl rfl rfl rfl (by kernel_rfl) Tryd.func4 (by kernel_rfl)
    (of_decide_eq_true (by kernel_rfl)) (by unfold Func.isWrapper; first | (rw [if_pos (by decide +kernel)]; kernel_rfl) | (rw [if_neg (by decide +kernel)]; exact ⟨rfl, rfl⟩))
    (fun os started H enc _ F => lifted os started H enc F)

end boundNeeds
open boundNeeds
theorem boundNeedsUptoCard_holds : Rows.BoundNeedsUptoCardSaid :=
  Claim7.holds_tied_plain_at .later [] [.data] true Rows.boundNeedsUptoCard.stood.harness true
    boundNeeds.over (fun _ h => by cases h) (by kernel_rfl) (fun _ h => by cases h) boundNeedsUpto_row_tie rfl ⟨rfl, rfl⟩ (by kernel_rfl) rfl
    (fun f fn hf hfn => by
      obtain rfl : f = 4 := Option.some.inj ((show Tryd.prog.funcNamed "surd/surdlaw17.BoundNeeds" = some 4 by kernel_rfl).symm.trans hf) |>.symm
      obtain rfl : fn = Tryd.f4 := (Option.some.inj (Tryd.func4.symm.trans hfn)).symm
      exact ⟨by kernel_rfl, fun j t ht => by
        rw [Tryd.params4] at ht
        cases j with
        | zero => obtain rfl := Option.some.inj ht; kernel_rfl
        | succ j =>
          cases j with
          | zero => obtain rfl := Option.some.inj ht; kernel_rfl
          | succ j => simp at ht⟩)
    (by kernel_rfl)
#print axioms boundNeedsUptoCard_holds
end Go.Proofs.YthlgggcpokfmaaaDoor
