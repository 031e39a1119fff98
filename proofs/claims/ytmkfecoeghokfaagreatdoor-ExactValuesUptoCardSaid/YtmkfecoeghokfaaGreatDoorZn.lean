/-
  'surdlaw16.ExactValues', where what it reads is of bulk at most 1048576.
-/
import Derived.JoinedCond
import Derived.Test.YtmkfecoeghokfaaGreatDoorM9
namespace Go.Proofs.YtmkfecoeghokfaaGreatDoor
open Go.ChangeShapes Go.WideShapes Go.ChangeAt Go.RowKit Go.Proofs.YtmkfecoeghokfaaGreatDoor.Ev
set_option linter.unusedVariables false
section
section
variable {H : Type} {enc : TypeId × Value -> H}
theorem Sj{a:Assume}{C:Checked}{os:Os}{f:FuncId}{fn:Func}{s:OpenSpec}{k:(H:Type)->List (DataW H)->Bool}(hk:s.cond=some k){F:Stop.Interp}{conds:List PathCond}{apart fresh handsOn again:Bool}{X:World->Array Value->Prop}(hX: ∀(w w':World)(args:Array Value),w.heap=w'.heap->X w args->X w' args)(own:ownKnob C.prog.godebug=none)(started:os.Started)(ue:C.prog.inits.idxOf? f=none)(br:C.prog.funcs[f]?=some fn)(witness: ∃(w:World) (tape:Tape) (i:Input),w.os=os/\(w.forCall tape i).Shaped C.prog/\i.vars=[]/\Input.okWide C.prog (w.forCall tape i) .any w.heap.size f i/\((s.pre enc C.prog fn conds apart (w.forCall tape i).memory i.args/\X (w.forCall tape i).memory i.args)/\sizedMet enc C.prog fn s apart (w.forCall tape i).memory i.args)/\a.holds C.prog (lone (Frame.enter C.prog f i.args .normal) [] (w.forCall tape i)))(fp: ∀(W:World)(base:Nat)(args:Array Value)(ds gs:List (DataW H))(before:List MemPlace),(∀(j:Nat) t v,fn.params[j]?=some t->args[j]?=some v->Value.okWide C.prog W .any base t v)->DataW.Whole enc C.prog fn.params.toList s.vars apart W args.toList ds gs before->conds.all (PathCond.test C.prog ⟨fn.params.toList,ds,s.bare.plain.varTypes C.prog,gs⟩)=true->k H (ds++gs)=true->X W args->a.holds C.prog (lone (Frame.enter C.prog f args .normal) [] W)->Calls C.prog f args W fun e W'=> ∃v,e= .returned v/\(s.at F).post enc C.prog fn apart fresh handsOn again W args v W'):ReturnsInHanded a C os f .any (fun w args=>(s.pre enc C.prog fn conds apart w args/\X w args)/\sizedMet enc C.prog fn s apart w args) ((s.at F).post enc C.prog fn apart fresh handsOn again):=by refine returnsInHanded_of_calls own started ue witness ?_;intro w tape i _ _ _ GW Ti sU;obtain⟨_,_,_,fn',hfn',_,_,_,_,hval⟩:=GW;have e:fn'=fn:=Option.some.inj (hfn'.symm.trans br);subst e;obtain⟨⟨hp,hx⟩,hz⟩:=Ti;obtain⟨ds,gs,before,hw,hc,PA⟩:=(OpenSpec.pre_some hk conds apart _ _).1 hp;have tn:=DataW.Whole.of_heap (w':=w.forCall tape i) (by rfl) hw;refine(fp (w.forCall tape i) w.heap.size i.args ds gs before hval tn hc PA (hX _ _ _ (by rfl) hx) sU).mono fun e W' ⟨v,he,hp⟩=>?_;subst he;exact ChangeSpec.post_blind hp
theorem OpenSpec.witness_and{C:Checked}{os:Os}{f:FuncId}{fn:Func}{s:OpenSpec}{k:(H:Type)->List (DataW H)->Bool}(hk:s.cond=some k){conds:List PathCond}{apart:Bool}{X:World->Array Value->Prop}(modest:Bool)(w0:World)(args:Array Value)(fuel:Nat)(hos:w0.os=os)(hsh:(w0.forCall (fun _ _=>0) ⟨#[],args,[]⟩).Shaped C.prog)(GW:Input.okWideB C.prog (w0.forCall (fun _ _=>0) ⟨#[],args,[]⟩) f ⟨#[],args,[]⟩=true){x:List (DataW H)×List (DataW H)×List MemPlace}(hx:DataW.whole enc C.prog (w0.forCall (fun _ _=>0) ⟨#[],args,[]⟩).memory fn.params.toList s.vars apart args.toList fuel=some x)(sZ:conds.all (PathCond.test C.prog ⟨fn.params.toList,x.1,s.bare.plain.varTypes C.prog,x.2.1⟩)=true)(PA:k H (x.1++x.2.1)=true)(X4:s.bare.sizedB enc C.prog fn apart (w0.forCall (fun _ _=>0) ⟨#[],args,[]⟩).memory args fuel=true)(hX:X (w0.forCall (fun _ _=>0) ⟨#[],args,[]⟩).memory args): ∃(w:World) (tape:Tape) (i:Input),w.os=os/\(w.forCall tape i).Shaped C.prog/\i.vars=[]/\Input.okWide C.prog (w.forCall tape i) .any w.heap.size f i/\((s.pre enc C.prog fn conds apart (w.forCall tape i).memory i.args/\X (w.forCall tape i).memory i.args)/\sizedMet enc C.prog fn s apart (w.forCall tape i).memory i.args)/\({ modest:=modest } :Assume).holds C.prog (lone (Frame.enter C.prog f i.args .normal) [] (w.forCall tape i)):=⟨w0,fun _ _=>0,⟨#[],args,[]⟩,hos,hsh,(Input.okWide_of_okWideB (base:=0) GW).1,(Input.okWide_of_okWideB GW).2,⟨⟨(OpenSpec.pre_some hk conds apart _ _).2 ⟨x.1,x.2.1,x.2.2,DataW.Whole_of_whole hx,sZ,PA⟩,hX⟩,sizedMet_of_sizedB X4⟩,by simp only[Assume.holds];exact⟨by simp,by simp,fun _=>Modest.zero,by simp,by simp⟩⟩
end
theorem rj{S:Nat->Prop}{L:Nat->Ev.Loc}{vs ws:List Value}(h:UQ S L vs ws):VR S L (.agg vs.toArray) (.agg ws.toArray):= .agg _ _ (by simpa using h.1) fun k v v' h1 h2=>h.2 k v v' (by simpa using h1) (by simpa using h2)
theorem oY:RowsIn Mf:=⟨by decide,rfl⟩
set_option maxRecDepth 100000 in theorem cW{H:Type}{enc:TypeId×Value->H}{W:World}{r:Reach}{b0:Nat}{v:Value}{d:DataW H}{ps:List MemPlace}(hval:Value.okWide Tryz.prog W r b0 53 v)(h:DataW.Trod enc Tryz.prog W 0 (fun _=>true) true 53 v d ps): ∃(cs:List Value) (t:ET),v= .agg cs.toArray/\WEx W cs t/\(∀L,Rows.uptoBulk d<=L->t.wide L)/\t.nodes<=Rows.uptoBulk d/\t.wt+64<=64*Rows.uptoBulk d:=by obtain⟨f0,f1,f2,hu,_⟩:=qI;obtain⟨cs,rfl,_⟩:=okWide_struct hu hval;obtain⟨fuel,hf⟩:=h;obtain⟨t,h1,h2,h3,h4⟩:=cV _ d (Nat.le_refl _) fuel _ ps hf;exact⟨cs.toList,t,by simp,h1,h2,h3,h4⟩
namespace exactValues
theorem own:ownKnob Tryz.prog.godebug=none:=by kernel_rfl
theorem fz(os:Os)(args:Array Value):laidMetH Tryz.prog [("surd/expr.rows",Rows.laid_surd_expr_rows)] ((World.doorLaid Tryz.prog 400 os).forCall (fun _ _=>0) ⟨#[],args,[]⟩).memory:=laidMetH_of_parts3 (fuel:=8) (laidMet_of_run' 8 (by kernel_rfl) (by kernel_rfl)) (by kernel_rfl) (by kernel_rfl)
theorem calls{Wr:List Value}{t0:ET}{w:World}(mG:WEx w Wr t0)(ha0:t0.wide 1048576)(hn:t0.nodes<=1048576)(CG:t0.wt<=67108864)(hL:laidMetH Tryz.prog [("surd/expr.rows",Rows.laid_surd_expr_rows)] w):Calls Tryz.prog 5 #[.agg Wr.toArray] w fun e w'=>e= .returned (.bool true)/\Below w.heap.size w w':=by
 have I:=Fh (nP hL);obtain⟨S0,L0,H0,dk,I0,s0,l0,r0,q0,k0⟩:=eS _ t0 (Nat.le_refl _) Wr mG I;have go:GO Zy S0 L0:=fun g hg=>by obtain⟨a,b,c⟩:=oX g hg;exact⟨s0 g (a),by rw[l0 g (a)];exact b,by rw[l0 g (a)];exact c⟩
 obtain⟨_,H9,hc,rfl,_⟩:=MV (H:=H0) (vs:=dk) ⟨q0,oY.keep k0,ha0,by omega⟩ CG;obtain⟨m,hr⟩:=aS hc;have:=HO (rX (0+1)) hr Tryz.func5 (by kernel_rfl) go I0 (args':=[.agg Wr.toArray]) (.cons (rj r0) .nil);refine this.mono fun e w' ⟨v',he,hg⟩=>?_;have hbel:=hg.below I0;obtain⟨L',_,_,hv⟩:=hg;cases hv;exact⟨he,hbel⟩
set_option maxRecDepth 100000 in
theorem lifted (os : Os) (started : os.Started) (H : Type) (enc : TypeId × Value -> H) (F : Stop.Interp) :
    ReturnsInHanded {} Tryz.checked os 5 .any (fun w args => ((Rows.OpenSpec.upto Rows.exactValuesSpec).pre enc Tryz.prog Tryz.f5 [] false w args /\ laidMetH Tryz.prog [("surd/expr.rows", Rows.laid_surd_expr_rows)] w) /\ sizedMet enc Tryz.prog Tryz.f5 (Rows.OpenSpec.upto Rows.exactValuesSpec) false w args)
      (((Rows.OpenSpec.upto Rows.exactValuesSpec).at F).post enc Tryz.prog Tryz.f5 false true false false) := by
  refine Sj (C := Tryz.checked) (s := Rows.OpenSpec.upto Rows.exactValuesSpec) (k := Rows.uptoSmall) rfl (X := fun w _ => laidMetH Tryz.prog [("surd/expr.rows", Rows.laid_surd_expr_rows)] w) (fun _ _ _ hh h => h.of_heap hh) own started (by kernel_rfl) Tryz.func5
    (OpenSpec.witness_and (enc := enc) (C := Tryz.checked) (os := os) (s := Rows.OpenSpec.upto Rows.exactValuesSpec) (k := Rows.uptoSmall) rfl (X := fun w _ => laidMetH Tryz.prog [("surd/expr.rows", Rows.laid_surd_expr_rows)] w) false (World.doorLaid Tryz.prog 400 os)
      #[.agg #[.int .i64 0, .bool false, .slice none 0 0, .slice none 0 0, .slice none 0 0]] 12 rfl (World.shaped_of_RefB (by kernel_rfl) (by kernel_rfl)) (by kernel_rfl)
      (x := ([.agg [.lit (.int .i64 0), .agg [.agg [.lit (.bool false), .nil], .nil], .nil]], [], [])) (by kernel_rfl) rfl (by kernel_rfl) (by kernel_rfl) (fz os _)) ?_
  intro W base args ds gs before zm hW _ hk hL _
  have hW' := hW
  obtain ⟨p, q, D5, hV, rfl, hfz, hnd⟩ := hW
  have hA : DataW.TrodAll enc Tryz.prog W 0 (fun _ => true) true Tryz.f5.params.toList args.toList ds p := D5
  rw [Tryz.params5] at hA
  have hAk := hA
  obtain ⟨v0, d0, rfl, rfl, h0⟩ := trodAll_one hA
  obtain ⟨rfl, rfl⟩ := trodVars_none hV
  have hb := Cm hk
  simp only [List.append_nil, Rows.uptoBulkAll] at hb
  obtain ⟨Wr, t0, rfl, mG, tt, Zas, hwt0⟩ := cW (zm 0 _ _ rfl rfl) h0
  have YW : ∀ x ∈ p, x.block < W.heap.size := fun x hx => by
    have := hW'.lt x (by simpa using hx)
    exact this
  refine (calls mG (tt _ (by omega)) (by omega) (by omega) hL).mono fun e W' ⟨he, bel⟩ => ?_
  subst he
  exact ⟨_, rfl, _, _, _, [], _, [], hW', trodAll_mk1 (shut_bool Tryz.underlying4 _), IU laidOut bel _ _ _ _ (by kernel_rfl) hAk YW, rfl, bel.frame _, fun h => by cases h⟩
theorem over:Rows.ExactValuesUptoSaid:=OpenClaim.holds_of_cond 5 Tryz.f5 rfl rfl rfl rfl rfl rfl rfl ⟨rfl,rfl,rfl,rfl,rfl⟩ rfl rfl rfl rfl rfl (by kernel_rfl) Tryz.func5 (by kernel_rfl) (of_decide_eq_true (by kernel_rfl)) (by unfold Func.isWrapper;first|(rw[if_pos (by decide+kernel)];kernel_rfl)|(rw[if_neg (by decide+kernel)];exact⟨rfl,rfl⟩)) (fun os started H enc _ F=>lifted os started H enc F)
end exactValues
open exactValues
theorem exactValuesUptoCard_holds:Rows.ExactValuesUptoCardSaid:=Claim7.holds_tied_plain_at .later [] [.data] true Rows.exactValuesUptoCard.stood.harness true exactValues.over (fun _ h=>by cases h) (by kernel_rfl) (fun _ h=>by cases h) exactValuesUpto_row_tie rfl ⟨rfl,rfl⟩ (by kernel_rfl) rfl (fun f fn hf br=>by obtain rfl:f=5:=Option.some.inj ((show Tryz.prog.funcNamed "surd/surdlaw16.ExactValues"=some 5 by kernel_rfl).symm.trans hf)|>.symm;obtain rfl:fn=Tryz.f5:=(Option.some.inj (Tryz.func5.symm.trans br)).symm;exact⟨by kernel_rfl,fun j t ht=>by rw[Tryz.params5]at ht;cases j with|zero=>obtain rfl:=Option.some.inj ht;kernel_rfl|succ j=>simp at ht⟩) (by kernel_rfl)
#print axioms exactValuesUptoCard_holds
end
end Go.Proofs.YtmkfecoeghokfaaGreatDoor
