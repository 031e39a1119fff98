/-
  The engine and the walks that the claim's last text leans on, part 9 of 9: Wo, Wp, Wq, Ya, Wd, We, Wf, Vf, Wh, Yb, Yc, Kept, ArgsA, Tf, Yd, Tg.
-/
import Derived.Test.YtmkfecoeghokfaaGreatDoorM8
import Derived.Carry
import Derived.Deep.Slices
import Derived.JoinedCond
namespace Go.Proofs.YtmkfecoeghokfaaGreatDoor
open Go Ev
set_option linter.unusedVariables false
set_option linter.unusedSimpArgs false
noncomputable section
set_option maxHeartbeats 2000000
set_option maxRecDepth 20000
section
attribute [-simp] Int.natCast_add Int.natCast_mul Int.natCast_ediv Int.natCast_emod Int.natCast_pow
attribute [local simp] strip ZQ Xj LR gW ZF Ya ZX Yb ZJ Yc Zs Zt Zg ZI Z5 ZN ZB Zk ZH Zh Ze ZC ZD YW Zo Z6 YF Yw ZK plain ZM Tr.get_set Yu Zp Yq ZV sameKind undef Zv ZG Z3 Zu ZA Yh ZW parts ZE Xw DW Yf Zw LX Zz Zn ZL ZS Xt Yg Zm ZP Zy ZO Rf
section
variable {P : Program} {C : Cfg} {X : Ev.Xs} {ops : Array Oper} {k i : Nat} {ms : List (Nat × Nat × Nat)} {tm : Tr Value} {H : AH} {K : Tr Value -> AH -> Prop}
theorem GZ{o:Oper}{r:List Oper}{v:Value}{H2:AH}(hg:gW tm (Yf ops o)=some true)(hh:Zw o.op=true)(ha:X.al i=true)(pT:hidden ((before ops).getD i 0) ms=[])(he:ZF P C (ZU P C) tm { n:=H.n,lw:=H.n,t:=H.t } o.op=some (v,H2))(hn:H.n<=H2.n)(h:match o.dst with|none=>DW X P C ops k (i+1) true (cond (Nat.blt H.n H2.n) ((i,H.n,H2.n)::ms) ms) r tm { n:=H2.n,lw:=min H.lw H2.lw,t:=H2.t } K|some d=>d<k/\DW X P C ops k (i+1) true (cond (Nat.blt H.n H2.n) ((i,H.n,H2.n)::ms) ms) r (tm.set d v) { n:=H2.n,lw:=min H.lw H2.lw,t:=H2.t } K)(hf:X.fv i=none:=by first|rfl|kernel_rfl):DG X P C ops k i true ms (o::r) tm H K:=by
 obtain⟨SS,YT,hl⟩:=Ud (H:=H) (H1:= { n:=H2.n,lw:=min H.lw H2.lw,t:=H2.t }) (K1:=fun tm=>DW X P C ops k (i+1) true (cond (Nat.blt H.n H2.n) ((i,H.n,H2.n)::ms) ms) r tm { n:=H2.n,lw:=min H.lw H2.lw,t:=H2.t } K) h;obtain⟨Y7,H',h1,h2⟩:=OK r (i+1) true _ SS _ hl;refine⟨Y7,H',?_,h2⟩;have YB:Y5 X P C (ZU P C) ops i true ms ⟨k,tm,H⟩ o=some (v,{ n:=H2.n,lw:=min H.lw H2.lw,t:=H2.t },true):=by unfold Y5;rw[hh,cond_true,hf];simp only[pT,UN];rw[he];have e1:Nat.ble H.n H2.n=true:=Nat.ble_eq.mpr hn;simp only[e1,cond_true,Bool.not_true,Bool.false_and,cond_false,ha,List.isEmpty_nil,Bool.and_self]
 simp only[Xo];rw[VL,hg];simp only[YB,YT];exact h1
end
theorem VB.alive{H H':AH}{vs:List Value}{f:FD}(h:VB H vs f)(hn:H.n<=H'.n)(hb: ∀j,j<H.n->H.blk j= .dead\/H'.blk j=H.blk j):VB H' vs f:=by cases f with|opn=>exact h|und=>exact h|rat s A B=>obtain⟨p,q,e,h1,h2,h3⟩:=h;exact⟨p,q,e,h1.alive hn hb,h2.alive hn hb,h3⟩
theorem UT.alive{H H':AH}(hn:H.n<=H'.n)(hb: ∀j,j<H.n->H.blk j= .dead\/H'.blk j=H.blk j): ∀{css:List (List Value)}{fs:List FD},UT H css fs->UT H' css fs|[],[],_=>trivial|c::cs,f::fs,h=>⟨VB.alive h.1 hn hb,UT.alive hn hb h.2⟩|[],_::_,h=>h.elim|_::_,[],h=>h.elim
theorem Uz.alive{H H':AH}{bw m:Nat}{keep:Bool}{L:List FD}{tv:Value}(h:Uz H bw m keep L tv)(hn:H.n<=H'.n)(hb: ∀j,j<H.n->H.blk j= .dead\/H'.blk j=H.blk j):Uz H' bw m keep L tv:=by
 obtain⟨h1,h2,css,h3,h4⟩:=h;refine⟨?_,by omega,css,h3.alive hn hb,h4.alive hn hb⟩;rcases hb bw h2 with e|e;·rw[h1]at e;cases e
 ·exact e.trans h1
theorem fP{r:Bool}{Q:Nat->Prop}{H H':AH}(hn:H.n<=H'.n)(hb: ∀j,j<H.n->H.blk j= .dead\/H'.blk j=H.blk j): ∀n(t:RT),t.nodes<=n-> ∀vs,Rd r Q H vs t->Rd r Q H' vs t:=by intro n;induction n with
 |zero=>intro t h;have:=Tg t;omega
 |succ n ih=>intro t h vs hx;cases hx with
  |mk h1 h2 h3=>simp only[RT.nodes]at h;refine .mk (h1.alive hn hb) (h2.alive hn hb) ?_;cases h3 with
   |nil=>exact .nil
   |mk b hq Le hc hl hz hf=>
    rename_i css;have e:H'.blk b=H.blk b:=by
     rcases hb b Le with e|e;·rw[hc]at e;cases e
     ·exact e
    refine .mk b (css:=css) hq (Nat.lt_of_lt_of_le Le hn) (e.trans hc) hl hz fun i cs t hi ht=>?_;have:=V7 ht;exact ih t (by omega) _ (hf i cs t hi ht)
theorem Gu.alive{r:Bool}{Q:Nat->Prop}{H H':AH}{css:List (List Value)}{l:List RT}(h:Gu r Q H css l)(hn:H.n<=H'.n)(hb: ∀j,j<H.n->H.blk j= .dead\/H'.blk j=H.blk j):Gu r Q H' css l:=⟨h.1,fun i cs t hi ht=>fP hn hb _ t (Nat.le_refl _) cs (h.2 i cs t hi ht)⟩
theorem fN{H H':AH}(k:Zj H H'){b:Nat}(hb:b<H.n)(x:Qj):Zj (rev H b x) (rev H' b x):=⟨k.n,k.lw,fun j hj=>by
 rw[UF,UF];by_cases e:j=b;·rw[if_pos e,if_pos e]
 ·rw[if_neg e,if_neg e];exact k.blk j hj⟩
theorem Uz.ne{H:AH}{bw m:Nat}{keep:Bool}{L:List FD}{tv:Value}(h:Uz H bw m keep L tv){b sz:Nat}{cs:List Value}(hb:H.blk b= .rw sz cs)(hs:sz≠4):Yt tv≠some b:=fun e=>by obtain⟨_,_,css,h3,_⟩:=h;have:=(h3.blk_lt e).2;rw[hb]at this;injection this with this _;exact hs this
theorem Uz.lt{H:AH}{bw m:Nat}{keep:Bool}{L:List FD}{tv:Value}(h:Uz H bw m keep L tv){b:Nat}(e:Yt tv=some b):b<H.n:=by obtain⟨_,_,css,h3,_⟩:=h;exact(h3.blk_lt e).1
theorem Uz.same{H H':AH}{bw m:Nat}{keep:Bool}{L:List FD}{tv:Value}(h:Uz H bw m keep L tv)(hn:H'.n=H.n)(hb: ∀j,H'.blk j=H.blk j):Uz H' bw m keep L tv:=h.alive (Nat.le_of_eq hn.symm) fun j _=> .inr (hb j)
theorem jD{H H':AH}{vs:List Value}(hl:vs.length=5)(h:vs.all one=true)(st:YV Tryz.prog (H.new 1 [.int .i64 0,.bool false,.slice none 0 0,.slice none 0 0,.slice none 0 0]) 53 (.pointer (some ⟨H.n,0,none⟩)) (.agg vs.toArray)=some H'):H'.lw<=H.lw:=by obtain⟨X,sx,_,_,_,_,lx⟩:=Wz (H:=H.new 1 [.int .i64 0,.bool false,.slice none 0 0,.slice none 0 0,.slice none 0 0]) (b:=H.n) (o:=0) UE (by rw[AH.blk_new,if_pos rfl]) (v:= .agg vs.toArray) (ws:=vs) (by simp[Value.cells]) hl (by simp) h;rw[st]at sx;injection sx with e;rw[e,lx];exact Nat.min_le_left _ _
theorem fq{H H':AH}{vs:List Value}(hl:vs.length=4)(h:vs.all one=true)(st:YV Tryz.prog (H.new 1 [.int .i64 0,.bool false,.slice none 0 0,.slice none 0 0]) 57 (.pointer (some ⟨H.n,0,none⟩)) (.agg vs.toArray)=some H'):H'.lw<=H.lw:=by obtain⟨X,sx,_,_,_,_,lx⟩:=Wz (H:=H.new 1 [.int .i64 0,.bool false,.slice none 0 0,.slice none 0 0]) (b:=H.n) (o:=0) SE (by rw[AH.blk_new,if_pos rfl]) (v:= .agg vs.toArray) (ws:=vs) (by simp[Value.cells]) hl (by simp) h;rw[st]at sx;injection sx with e;rw[e,lx];exact Nat.min_le_left _ _
theorem bXsl(H:AH)(v0 v1 v2 v3 v4:Value):YM Tryz.prog H 51 1 [(0,.agg #[v0,v1,v2,v3,v4])]=some (.slice (some ⟨H.n,0,none⟩) 1 1,H.new 5 [v0,v1,v2,v3,v4]):=by unfold YM;simp only[sC,Vj];kernel_rfl
def lS(H:AH)(bw m:Nat)(L:List FD)(tv:Value)(t:ET)(us:List Value)(H':AH):Prop:= ∃L' Mw,H.n<=H'.n/\Uz H' bw m false L' Mw/\L'.length<=L.length+t.nodes*t.nodes/\(∀b,Yt Mw=some b->H.n<=b)/\H'.lw<=bw/\Vz bw H H'/\(∀j,j<H.n->j≠bw->Yt tv≠some j->H'.blk j=H.blk j)/\Rd false (fun c=>H.n<=c/\c<H'.n) H' us t.red
section
theorem Gj: ∀n(t:ET),t.nodes<=n-> ∀(H0 H:AH)(vs:List Value)(bw m:Nat)(L:List FD)(tv:Value),Ex H0 vs t->t.wide 1048576->t.allGood=true->t.wt<=67108864->t.fold.isUnd=false->Th H0 m->Zj H0 H->H0.n<=bw->Uz H bw m false L tv->(∀b,Yt tv=some b->bw<=b)->L.length+t.nodes*t.nodes<=400000000-> ∃us H',ZU Tryz.prog ZY 74 [.pointer (some ⟨bw,0,none⟩),.agg vs.toArray] H=some (.agg us.toArray,H')/\lS H bw m L tv t us H':=by intro n;induction n with
 |zero=>intro t h;have:=Xn t;omega
 |succ n ih=>
  intro t ht H0 H vs bw m L tv hE hw hg FN VA hW k0 N5 aF htv gM;have ee:t.nodes<=t.nodes*t.nodes:=Nat.le_mul_of_pos_left _ (Xn t);have hEl:=hE.len;obtain⟨H2,e2,k2,n2,q0,q1⟩:=Xb H vs [.int .i64 0,.bool false,.slice none 0 0,.slice none 0 0,.slice none 0 0];have gK:=aF.2.1;have l0:=Xp q0 hEl;have ntv: ∀j,H.n<=j->Yt tv≠some j:=fun j hj e=>by have:=aF.lt e;omega
  obtain⟨o,H5,N7,mK⟩:=Ig _ t (Nat.le_refl _) H0 H2 vs bw m false L tv hE hw hg FN hW (k0.trans k2) N5 (aF.keep k2) htv (by omega);cases o with
   |pan v=>obtain⟨_,h,_⟩:=mK;rw[VA]at h;cases h
   |ret x=>
    obtain⟨_,fvs,yd,rfl,Gw,DZ,eo,n5,lw5,UK,cK⟩:=mK;have c5:=Oi N7;obtain⟨H6,Vt,k6,q6,n6⟩:=Ns (H:=H5) Gw.len Gw.ones;have lw6:=fq Gw.len Gw.ones Vt;have iG:=DZ.keep k6;have Bi:=Mp t;have sF:=(k6.blk _ (by omega)).trans ((cK _ (by omega) (by omega) (ntv _ (by omega))).trans q0);have Eh:=(k6.blk _ (by omega)).trans ((cK _ (by omega) (by omega) (ntv _ (by omega))).trans q1);have xx: ∀j,j<H.n->j≠bw->Yt tv≠some j->H6.blk j=H.blk j:=fun j hj h1 h2=>(k6.blk _ (by omega)).trans ((cK _ (by omega) h1 h2).trans (k2.blk j hj));have wJ:Vz bw H H6:=((k2.kat bw).trans UK).trans (k6.kat bw);obtain⟨L6,hL6⟩:=hid (L++t.parts);have yL:L6.length=L.length+t.nodes:=by rw[hL6,List.length_append,Bi]
    rw[<-hL6]at iG;have mU:=Gw.ones;obtain⟨f,hf⟩:=hid (t.fold);rw[<-hf]at Gw VA;have hfv':=Gw;obtain⟨p1,p2,p3,rfl,eh⟩:=hfv'.trio;obtain⟨Po,aD⟩: ∃Po:Value->AH->Prop,∀x H',Po x H'↔ ∃us:List Value,x= .agg us.toArray/\lS H bw m L tv t us H':=⟨_,fun _ _=>Iff.rfl⟩;suffices hs:CW Tryz.prog ZY 74 [.pointer (some ⟨bw,0,none⟩),.agg vs.toArray] H Po by obtain⟨x,H',hc,h⟩:=hs;obtain⟨us,rfl,hr⟩:=(aD _ _).1 h;exact⟨us,H',hc,hr⟩
    refine Yd 38 Tryz.func74 ?_;apply Za;intro b1 Zf;simp[Value.cells,Vj,XV,e2];subst Zf;apply Zi;intro b1 Zf;apply Za;intro b2 ZT;simp[l0,c5,Xr,Value.cells,Vt];subst ZT;apply Za;intro b2 ZT;simp[Ql,Vo q6,HL];subst ZT;have dr:=Gw.fr k6.fr;cases f with
     |und=>cases VA
     |rat s A B=>refine Zb (t:=true) (by simp[(show(FD.rat s A B).isRat=true from rfl)]) ?_;obtain⟨p,q,e,o1,o2,low⟩:=dr;injection e with _ e;injection e with e1 e;injection e with J6 e;injection e with e3 _;subst e1;subst J6;subst e3;obtain⟨H9,JM,n9,q9,o9,eV,w6⟩:=Ck UE Eh rfl (v:= .agg #[.int .i64 0,.bool s,p2,p3,.slice none 0 0]) (ws:=[.int .i64 0,.bool s,p2,p3,.slice none 0 0]) (by simp[Value.cells]) rfl (by simp[o1.one1,o2.one1];exact⟨rfl,rfl,rfl⟩);have f9:Fr H6 H9:=Fr.put Eh q9 n9 o9 rfl rfl (by obtain⟨_,_,_,rfl⟩:=o1.shape;obtain⟨_,_,_,rfl⟩:=o2.shape;rfl);have Fv:=iG.off (b:=H.n+1) (by omega) (iG.ne Eh (by decide)) n9 o9 f9;apply Za;intro b2 ZT;simp[JZ,QH q6,mb o1.shape o2.shape,JM];subst ZT;apply ZZ;simp[YQ,Xp q9 rfl];refine(aD _ _).2 ⟨[.int .i64 0,.bool s,p2,p3,.slice none 0 0],rfl,L6,yd,by omega,Fv,by omega,fun b hb=>by have:=eo b hb;omega,by omega,wJ.trans (eV.weak (by omega)),fun j hj h1 h2=>(o9 j (by omega)).trans (xx j hj h1 h2),?_⟩;obtain⟨op,neg,abs,den,args⟩:=t;rw[UG,<-hf];exact .mk (bad:=false) (o1.fr f9) (o2.fr f9) .nil
     |opn=>
      refine Zb (t:=false) (by simp[(show FD.opn.isRat=false from rfl)]) ?_;apply Zr;subst Zf;clear dr;have Gv:t.fold.isRat=false:=by rw[<-hf];rfl
      obtain⟨op,neg,abs,den,args⟩:=t;have iH:=hE;cases iH with
       |@mk _ _ va vd vx _ _ _ h1 h2 h3=>
        obtain⟨wa,wd,da,dd,wx⟩:=hw;simp only[ET.nodes]at ht gM yL ee;simp only[ET.allGood,Bool.and_eq_true]at hg;obtain⟨mT,jh⟩:=hg;have wm:Vy args<=67108864:=by simp only[ET.wt]at FN;omega
        have hua:(YP args).any FD.isUnd=false:=by cases h:(YP args).any FD.isUnd with|false=>rfl|true=>simp only[ET.fold]at hf;rw[if_pos h]at hf;cases hf
        obtain⟨len,Kt⟩:=hid (args.length);have Mb:=h3.len;rw[<-Kt]at Mb;have FV:=VG args;have zo:=WX sF;obtain⟨H7,Qp,k7,q7,n7⟩:=Lm (H:=H6) (vs:=[.int .i64 op,.bool false,.slice none 0 0,.slice none 0 0,.slice none 0 0]) rfl rfl;have lw7:=jD (H:=H6) (vs:=[.int .i64 op,.bool false,.slice none 0 0,.slice none 0 0,.slice none 0 0]) rfl rfl Qp;replace sF:=k7.q sF;replace Eh:=k7.q Eh;obtain⟨ob,gC⟩:=hid (H6.n);rw[<-gC]at q7;have k67:Zj H6 (rev H7 ob .dead):=⟨k7.n,k7.lw,fun j hj=>by rw[UF,if_neg (by omega)];exact k7.blk j hj⟩;apply Za;intro b1 Zf;simp[Ut,zo,ot,Vj,Value.cells,Qp];subst Zf;apply Zi;intro b1 Zf;apply Za;intro b2 ZT;simp[W7,TR sF,Mb];subst ZT;apply ZR;obtain⟨S,hS⟩: ∃S:Nat->Nat,∀i,S i=Z0 (args.take i):=⟨_,fun _=>rfl⟩;have hRl0:Gu false (fun c=>H.n<=c/\c<H7.n/\Yt (.slice none 0 0)≠some c) (rev H7 ob .dead) [] (Xg (args.take 0)):= .nil;refine YS (fun n s'=>s'.k=38/\Vz bw H s'.H/\s'.H.lw<=bw/\ob<s'.H.n/\(∀j,j<H.n->j≠bw->Yt tv≠some j->s'.H.blk j=H.blk j)/\s'.H.blk (H.n+1)= .rw 1 [.int .i64 0,.bool false,.slice none 0 0,.slice none 0 0,.slice none 0 0]/\ ∃(i:Nat) (av nU:Value) (Li:List FD) (css:List (List Value)),n+i=len/\s'.H.blk ob= .rw 1 [.int .i64 op,.bool false,.slice none 0 0,.slice none 0 0,av]/\Uz (rev s'.H ob .dead) bw m false Li nU/\(∀b,Yt nU=some b->H.n<=b)/\Li.length<=L.length+(1+Z0 args)+S i*S i/\UB 5 (rev s'.H ob .dead) av css/\Gu false (fun c=>H.n<=c/\c<s'.H.n/\Yt av≠some c) (rev s'.H ob .dead) css (Xg (args.take i))/\(∀b,Yt av=some b->H.n<=b)/\s'.tm.get 0=some (.pointer (some ⟨bw,0,none⟩))/\s'.tm.get 4=some (.pointer (some ⟨H.n+1,0,none⟩))/\s'.tm.get 6=some (.pointer (some ⟨ob,0,none⟩))/\s'.tm.get 22=some vx/\s'.tm.get 23=some (.int .i64 (len:Int))/\s'.tm.get 24=some (.int .i64 (i:Int))) ?_ len _ ⟨rfl,wJ.trans (k7.kat bw),by show H7.lw<=bw;omega,by show ob<H7.n;omega,fun j hj h1 h2=>(k7.blk j (by omega)).trans (xx j hj h1 h2),Eh,0,.slice none 0 0,yd,L6,[],by omega,q7,iG.keep k67,fun b hb=>by have:=eo b hb;omega,by rw[yL];exact Nat.le_add_right _ _,.nil,hRl0,(fun b hb=>by cases hb),by simp,by simp,by simp[gC],by simp,by simp,by simp⟩;rintro n' ⟨k,tm,Hc⟩ ⟨hk,DB,lwc,nob,aG,qz,i,av,nU,Li,css,mO,qo,JY,pF,hLi,mY,yJ,Bb,u0,u4,u6,rO,rN,nS⟩ Q' YA;simp only at hk DB lwc nob aG qz qo JY mY yJ u0 u4 u6 rO rN nS;subst hk;have hobH:H.n+1<ob:=by omega
        have jU:Zj H0 Hc:=DB H0 k0 N5;apply Za;intro b3 Z4;simp[rN,nS,KS];subst Z4;apply Zi;intro b3 Z4;by_cases hi:i<len
        ·refine Zb (t:=true) (by simp[hi]) ?_;apply Zr;subst Z4;obtain⟨ti,RV⟩: ∃ti,args[i]?=some ti:=⟨args[i]'(by omega),List.getElem?_eq_getElem (by omega)⟩;have mM:=Tp RV;obtain⟨p,il,Qm,Ku,Lc⟩:=h3.at RV;have Y1:=Ku Hc jU;obtain⟨H8,IG,k8,q8,n8⟩:=Lm (H:=Hc) Lc.len Lc.ones;have hqo8:=(k8.blk ob nob).trans qo;obtain⟨Hd,db⟩:=hid (rev H8 ob .dead);have kd:Zj (rev Hc ob .dead) Hd:=by rw[db];exact fN k8 nob _
         have jg: ∀j,Hd.blk j=if j=ob then .dead else H8.blk j:=fun j=>by rw[db];exact UF _ _ _ _
         have yD:Hd.n=H8.n:=by rw[db];rfl
         have nd:Vz bw H8 Hd:=by rw[db];exact(BP _ _ _).weak (by omega)
         have kd0:Zj H0 Hd:=nd H0 (jU.trans k8) N5;have q8d:Hd.blk Hc.n= .rw 1 il:=by rw[jg,if_neg (by omega)];exact q8
         have Rr:=JY.keep kd;have dg:=mY.keep kd;have uP:Gu false (fun c=>H.n<=c/\c<Hc.n/\Yt av≠some c) Hd css (Xg (args.take i)):=yJ.fr kd.fr fun j hj _ hq=>⟨kd.blk j hj,hq⟩;have hbnd:Li.length+ti.nodes*ti.nodes<=400000000:=by
          have a1:=fF (S i) ti.nodes;have a2:(S i+ti.nodes)*(S i+ti.nodes)<=Z0 args*Z0 args:=Nat.mul_self_le_mul_self (by rw[hS];exact mM);have a3:(1+Z0 args)*(1+Z0 args)=1+Z0 args+Z0 args+Z0 args*Z0 args:=by simp only[Nat.add_mul,Nat.mul_add,Nat.one_mul,Nat.mul_one];omega
          omega
         obtain⟨us,I1,c9,L9,ye,n9,Fv,hL9,jr,w6,eV,ue,uQ⟩:=ih ti (by omega) H0 Hd.top il bw m Li nU Lc (VK wx RV) (Uu jh RV) (by have:=My RV;omega) (by cases h:ti.fold.isUnd with|false=>rfl|true=>have:(YP args).any FD.isUnd=true:=List.any_eq_true.mpr ⟨ti.fold,by rw[W3];exact List.mem_map.mpr ⟨ti,List.mem_of_getElem? RV,rfl⟩,h⟩;rw[hua]at this;cases this) hW kd0.top N5 (Rr.keep (XD Hd)) (fun b hb=>by have:=pF b hb;omega) hbnd;replace n9:Hd.n<=I1.n:=n9;replace ue: ∀j,j<Hd.n->j≠bw->Yt nU≠some j->I1.blk j=Hd.blk j:=ue;replace jr: ∀b,Yt ye=some b->Hd.n<=b:=jr;replace uQ:Rd false (fun c=>Hd.n<=c/\c<I1.n) I1 us ti.red:=uQ;have P2:=uQ.ones;obtain⟨w0,w1,w2,w3,w4,rfl⟩: ∃w0 w1 w2 w3 w4,us=[w0,w1,w2,w3,w4]:=by match us,uQ.len with|[a,b,c,d,e],_=>exact⟨a,b,c,d,e,rfl⟩
         obtain⟨J1,Au⟩:=hid (low Hd I1);have nJ1:J1.n=I1.n:=by rw[Au];rfl
         have yv: ∀j,J1.blk j=I1.blk j:=fun j=>by rw[Au];rfl
         have lwJ1:J1.lw<=bw:=by rw[Au];exact Nat.le_trans (Nat.min_le_right _ _) w6
         have kaJ1:Vz bw Hd J1:=by rw[Au];exact Tn eV
         obtain⟨I2,yM⟩:=hid (J1.top.new 5 [w0,w1,w2,w3,w4]);have nv:I2.n=J1.n+1:=by rw[yM];rfl
         obtain⟨J2,Av⟩:=hid (low J1 I2);have nJ2:J2.n=J1.n+1:=by rw[Av];exact nv
         have iX: ∀j,J2.blk j=if j=J1.n then .rw 5 [w0,w1,w2,w3,w4]else J1.blk j:=fun j=>by rw[Av,yM];exact AH.blk_new ..
         have lwJ2:J2.lw<=bw:=by rw[Av];exact Nat.le_trans (Nat.min_le_left _ _) lwJ1
         have m8:Zj J1 J2:=⟨by omega,by rw[Av,yM];exact Nat.le_refl _,fun j hj=>by rw[iX,if_neg (by omega)]⟩;have tX: ∀{b sz cs},Hd.blk b= .rw sz cs->sz≠5->Yt av≠some b:=fun{b sz cs} hb hs e=>by have:=(dg.blk_lt e).2;rw[hb]at this;injection this with this _;exact hs this
         have oj: ∀{b},Yt av=some b->b<Hd.n:=fun e=>(dg.blk_lt e).1;have sK:Yt av≠some bw:=tX Rr.1 (by decide);have A9: ∀j,j<Hd.n->j≠bw->Yt nU≠some j->J2.blk j=Hd.blk j:=fun j hj h1 h2=>by rw[iX,if_neg (by omega),yv];exact ue j hj h1 h2
         have uV:UB 5 J2.top av css:=dg.frame (by show Hd.n<=J2.n;omega) fun b hb=>A9 b (oj hb) (fun e=>sK (by rw[<-e];exact hb)) (Rr.ne (dg.blk_lt hb).2 (by decide));have W9:=uP.1;rw[K0,List.length_take,<-Kt]at W9;obtain⟨He,N4,ne,Rb,DX,Pn,FX⟩:=uV.append (by decide) (show J2.top.blk J1.n= .rw 5 [w0,w1,w2,w3,w4] by show J2.blk J1.n=_;rw[iX,if_pos rfl]) rfl P2 sC (by decide) Vj rfl (by omega);replace N4:XA Tryz.prog J2.top 51 51 av (.slice (some ⟨J1.n,0,none⟩) 1 1)=some (.slice (some ⟨J2.n,0,none⟩) (css.length+1) (css.length+1),He):=N4;replace ne:He.n=J2.n+1:=ne;replace Rb: ∀j,j<J2.n->Yt av≠some j->He.blk j=J2.blk j:=Rb;replace DX:UB 5 He (.slice (some ⟨J2.n,0,none⟩) (css.length+1) (css.length+1)) (css++[[w0,w1,w2,w3,w4]]):=DX;obtain⟨J3,Ba⟩:=hid (low J2 He);have nJ3:J3.n=He.n:=by rw[Ba];rfl
         have iW: ∀j,J3.blk j=He.blk j:=fun j=>by rw[Ba];rfl
         have lwJ3:J3.lw<=bw:=by rw[Ba];exact Nat.le_trans (Nat.min_le_left _ _) lwJ2
         have kaJ3:Vz bw J2 J3:=by rw[Ba];refine Tn ?_;cases er:Yt av with|none=>exact(Pn er).1.kat bw|some b=>exact(FX b er).1.weak (by have:=Bb b er;omega)
         have dJ3:J3.blk ob= .dead:=by
          have h1:Hd.blk ob= .dead:=by rw[jg,if_pos rfl]
          have h2:Yt nU≠some ob:=fun e=>by obtain⟨_,_,c0,OL,_⟩:=Rr;have:=(OL.blk_lt e).2;rw[h1]at this;cases this
          have h3:Yt av≠some ob:=fun e=>by have:=(dg.blk_lt e).2;rw[h1]at this;cases this
          rw[iW,Rb ob (by omega) h3,A9 ob (by omega) (by omega) h2,h1]
         have hol:(only J3 ob (.rw 1 [.int .i64 op,.bool false,.slice none 0 0,.slice none 0 0,av])).blk ob= .rw 1 [.int .i64 op,.bool false,.slice none 0 0,.slice none 0 0,av]:=by rw[UH,if_pos rfl]
         obtain⟨H4,WQ,q4,n4,o4,Ua,jJ⟩:=Wz (o:=4) ry hol (v:= .slice (some ⟨J2.n,0,none⟩) (css.length+1) (css.length+1)) (ws:=[.slice (some ⟨J2.n,0,none⟩) (css.length+1) (css.length+1)]) rfl rfl (by simp) rfl;replace q4:H4.blk ob= .rw 1 [.int .i64 op,.bool false,.slice none 0 0,.slice none 0 0,.slice (some ⟨J2.n,0,none⟩) (css.length+1) (css.length+1)]:=q4;replace n4:H4.n=J3.n:=n4;replace jJ:H4.lw=min J3.n ob:=jJ;obtain⟨G4,HT⟩: ∃G4:AH,G4= { n:=J3.n,lw:=min J3.lw H4.lw,t:=J3.t.set ob (.rw 1 [.int .i64 op,.bool false,.slice none 0 0,.slice none 0 0,.slice (some ⟨J2.n,0,none⟩) (css.length+1) (css.length+1)]) } :=⟨_,rfl⟩;have cJ: ∀j,G4.blk j=if j=ob then .rw 1 [.int .i64 op,.bool false,.slice none 0 0,.slice none 0 0,.slice (some ⟨J2.n,0,none⟩) (css.length+1) (css.length+1)]else J3.blk j:=fun j=>by rw[HT];exact UF J3 ob _ j
         have yU:G4.n=J3.n:=by rw[HT]
         have g4l:G4.lw<=bw:=by rw[HT];exact Nat.le_trans (Nat.min_le_left _ _) lwJ3
         have m6:Vz bw J3 G4:=fun im k hn=>⟨by rw[yU];exact k.n,by rw[HT];show min im.lw im.n<=min J3.lw H4.lw;have:=k.lw;have:=k.n;omega,fun j hj=>by rw[cJ,if_neg (by omega)];exact k.blk j hj⟩;have d4n:(rev G4 ob .dead).n=J3.n:=by show G4.n=_;exact yU
         have tK: ∀j,(rev G4 ob .dead).blk j=J3.blk j:=fun j=>by
          rw[UF];by_cases e:j=ob;·rw[if_pos e,e];exact dJ3.symm
          ·rw[if_neg e,cJ,if_neg e]
         have katG:Vz bw H G4:=(((((DB.trans (k8.kat bw)).trans nd).trans kaJ1).trans (m8.kat bw)).trans kaJ3).trans m6;have f23:Fr J2 J3:=⟨by omega,fun j hj=>by
          by_cases e:Yt av=some j;·exact .inr (.inl ⟨5,_,(uV.blk_lt e).2,by decide⟩)
          ·exact .inl ((iW j).trans (Rb j hj e))⟩;have mq:Fr J3 (rev G4 ob .dead):=⟨by rw[d4n];exact Nat.le_refl _,fun j _=> .inl (tK j)⟩;have my:Uz J2 bw m false L9 ye:=(Fv.same (H':=J1) nJ1 yv).keep m8;have Dz:Uz (rev G4 ob .dead) bw m false L9 ye:=by refine Uz.same (H:=J3) ?_ d4n tK;obtain⟨g1,g2,oQ,g3,g4⟩:=my;refine⟨((iW _).trans (Rb bw g2 sK)).trans g1,by omega,oQ,g3.frame (by omega) fun b hb=>(iW b).trans (Rb b (g3.blk_lt hb).1 fun e=>?_),g4.fr f23⟩;have h1:=jr b hb;have h2:=oj e;omega
         have hRn:Rd false (fun c=>H.n<=c/\c<G4.n/\Yt (.slice (some ⟨J2.n,0,none⟩) (css.length+1) (css.length+1))≠some c) (rev G4 ob .dead) [w0,w1,w2,w3,w4] ti.red:=by
          have f1:Fr I1 J2:=⟨by omega,fun j hj=> .inl (by rw[iX,if_neg (by omega),yv])⟩;refine uQ.fr ((f1.trans f23).trans mq) fun j hj _ hq=>⟨?_,by omega,by omega,fun e=>?_⟩;·rw[tK,iW,Rb j (by omega) (fun e=>by have:=oj e;omega),iX,if_neg (by omega),yv]
          ·injection e with e;omega
         have fd2:Fr Hd J2:=by
          obtain⟨a9,l9,rA,rfl⟩: ∃a l c,ye= .slice a l c:=by obtain⟨_,_,c0,OL,_⟩:=Fv;exact OL.shape
          exact HY Rr my.1 ⟨_,_,_,rfl⟩ (by omega) A9
         have hRo:Gu false (fun c=>H.n<=c/\c<G4.n/\Yt (.slice (some ⟨J2.n,0,none⟩) (css.length+1) (css.length+1))≠some c) (rev G4 ob .dead) css (Xg (args.take i)):=uP.fr ((fd2.trans f23).trans mq) fun j hj ⟨cs,Tk⟩ hq=>⟨by rw[tK,iW,Rb j (by omega) hq.2.2,A9 j hj (fun e=>by rw[e,Rr.1]at Tk;injection Tk with h _;cases h) (Rr.ne Tk (by decide))],hq.1,by omega,fun e=>by injection e with e;omega⟩;have hLn4:UB 5 (rev G4 ob .dead) (.slice (some ⟨J2.n,0,none⟩) (css.length+1) (css.length+1)) (css++[[w0,w1,w2,w3,w4]]):=DX.frame (by rw[d4n];omega) fun b hb=>(tK b).trans (iW b);have hSn:S (i+1)=S i+ti.nodes:=by rw[hS,hS,<-VE,P6 RV,List.length_append,VE,Mp]
         have frG: ∀j,j<H.n->j≠bw->Yt tv≠some j->G4.blk j=H.blk j:=fun j hj h1 h2=>by rw[cJ,if_neg (by omega),iW,Rb j (by omega) (fun e=>by have:=Bb j e;omega),A9 j (by omega) h1 (fun e=>by have:=pF j e;omega),jg,if_neg (by omega),k8.blk j (by omega)];exact aG j hj h1 h2
         have qzG:G4.blk (H.n+1)= .rw 1 [.int .i64 0,.bool false,.slice none 0 0,.slice none 0 0,.slice none 0 0]:=by
          have hz:Hd.blk (H.n+1)= .rw 1 [.int .i64 0,.bool false,.slice none 0 0,.slice none 0 0,.slice none 0 0]:=by rw[jg,if_neg (by omega),k8.blk _ (by omega)];exact qz
          rw[cJ,if_neg (by omega),iW,Rb _ (by omega) (tX hz (by decide)),A9 _ (by omega) (by omega) (Rr.ne hz (by decide))];exact hz
         apply Zi;intro b3 Z4;apply ZR;refine Xd (fun s'=>s'.k=38/\s'.H=H8/\s'.tm.get 0=some (.pointer (some ⟨bw,0,none⟩))/\s'.tm.get 4=some (.pointer (some ⟨H.n+1,0,none⟩))/\s'.tm.get 6=some (.pointer (some ⟨ob,0,none⟩))/\s'.tm.get 8=some (.pointer (some ⟨Hc.n,0,none⟩))/\s'.tm.get 22=some vx/\s'.tm.get 23=some (.int .i64 (len:Int))/\s'.tm.get 24=some (.int .i64 (i:Int))) ?_ ?_;·intro Jt XR;apply Zl;simp[rO,nS,Qm,Y1,Vj,Value.cells,IG];apply XR;exact⟨rfl,rfl,by simp[u0],by simp[u4],by simp[u6],by simp,by simp[rO],by simp[rN],by simp[nS]⟩
         clear u0 u4 u6 rO rN nS;rintro⟨k,CX,Hx⟩ ⟨hk,mZ,u0,u4,u6,u8,rO,rN,nS⟩;simp only at hk mZ u0 u4 u6 u8 rO rN nS;subst hk;subst mZ;have lon:Z9 Tryz.prog (only Hx ob (.rw 1 [.int .i64 op,.bool false,.slice none 0 0,.slice none 0 0,av])) 51 (.pointer (some ⟨ob,4,none⟩))=some av:=TR (by rw[UH,if_pos rfl]);refine CJ (fl:=1) (z:=8) (b:=ob) (sz:=1) (cs:=[.int .i64 op,.bool false,.slice none 0 0,.slice none 0 0,av]) (cs2:=[.int .i64 op,.bool false,.slice none 0 0,.slice none 0 0,.slice (some ⟨J2.n,0,none⟩) (css.length+1) (css.length+1)]) (v:=av) (by kernel_rfl) (by kernel_rfl) (by kernel_rfl) rfl rfl hqo8 ⟨CX.set 28 (.pointer (some ⟨ob,4,none⟩)),false,by simp[UO,VL,St.put,QB,u6,W7,show Nat.blt 28 38=true from rfl],by simp[XN],by simp[lon]⟩ ?_;rw[show({ n:=Hx.n,lw:=Hx.lw,t:=Hx.t.set ob .dead } :AH)=Hd from db.symm];simp[u6,W7];refine OJ (v:=av) rfl rfl (by kernel_rfl) ?_;simp[u0];refine Z7 (v:= .agg il.toArray) rfl rfl rfl (by rw[Z1 rfl];simp[u8,Xp (H:=AH.top Hd) q8d Lc.len]) ?_;simp;refine YO (v:= .agg #[w0,w1,w2,w3,w4]) (H2:=I1) rfl rfl (by kernel_rfl) rfl ?_ n9 (by omega) ?_;·show ZF _ _ _ _ Hd.top _=_;simp[c9]
         rw[show({ n:=I1.n,lw:=min Hd.lw I1.lw,t:=I1.t } :AH)=J1 from Au.symm];have PK:=(VI.nil Hd.n).cons (i:=4) (a:=Hd.n) (b:=I1.n) (Nat.le_refl _);generalize cond (Nat.blt Hd.n I1.n) _ _=E9 at PK;simp;refine GZ (v:= .slice (some ⟨J1.n,0,none⟩) 1 1) (H2:=I2) rfl rfl (by kernel_rfl) (PK.hid (by kernel_rfl)) ?_ (by omega) ?_;·show ZF _ _ _ _ J1.top _=_;simp[bXsl,<-yM]
         rw[show({ n:=I2.n,lw:=min J1.lw I2.lw,t:=I2.t } :AH)=J2 from Av.symm];have PU:=PK.cons (i:=5) (a:=J1.n) (b:=I2.n) (by omega);generalize cond (Nat.blt J1.n I2.n) _ _=fi at PU;simp;refine GZ (v:= .slice (some ⟨J2.n,0,none⟩) (css.length+1) (css.length+1)) (H2:=He) rfl rfl (by kernel_rfl) (PU.hid (by kernel_rfl)) ?_ (by omega) ?_;·show ZF _ _ _ _ J2.top _=_;simp[N4]
         rw[show({ n:=He.n,lw:=min J2.lw He.lw,t:=He.t } :AH)=J3 from Ba.symm];simp[u6,W7];refine OJ (v:= .tuple #[]) rfl rfl (by kernel_rfl) ?_;simp;refine⟨H4,by rw[WQ],q4,by omega,n4,?_⟩;rw[<-HT];simp[Yv];subst Z4;apply Zl;simp[nS,TL (x:=i) (by omega)];apply YA;refine⟨n'-1,by omega,rfl,katG,g4l,by show ob<G4.n;omega,frG,qzG,i+1,.slice (some ⟨J2.n,0,none⟩) (css.length+1) (css.length+1),ye,L9,css++[[w0,w1,w2,w3,w4]],by omega,by rw[cJ,if_pos rfl],Dz,fun b hb=>by have:=jr b hb;omega,?_,hLn4,?_,fun b hb=>by injection hb with hb;omega,by simp[u0],by simp[u4],by simp[u6],by simp[rO],by simp[rN],by simp⟩;·rw[hSn];have a1:=fF (S i) ti.nodes;omega
         ·rw[Ek RV];exact hRo.append hRn
        ·refine Zb (t:=false) (by simp[hi]) ?_;apply YN;apply YA;left;refine⟨rfl,?_⟩;clear YA;obtain rfl:i=len:=by omega
         have bc:args.take i=args:=List.take_of_length_le (by omega);rw[hS,bc]at hLi;rw[bc]at yJ;subst Zf;have sj: ∀j,j<(rev Hc ob .dead).n->(rev Hc ob .dead).blk j= .dead\/Hc.blk j=(rev Hc ob .dead).blk j:=fun j _=>by
          rw[UF];by_cases e:j=ob;·left;rw[if_pos e]
          ·right;rw[if_neg e]
         have cD:=JY.alive (H':=Hc) (Nat.le_refl _) sj;have hRf:=yJ.alive (H':=Hc) (Nat.le_refl _) sj;have hLf:=mY.alive (H':=Hc) (Nat.le_refl _) sj;obtain⟨a9,l9,rA,rfl⟩:=hLf.shape;obtain⟨H9,JM,n9,q9,o9,eV,w6⟩:=Ck UE qz rfl (v:= .agg #[.int .i64 op,.bool false,.slice none 0 0,.slice none 0 0,.slice a9 l9 rA]) (ws:=[.int .i64 op,.bool false,.slice none 0 0,.slice none 0 0,.slice a9 l9 rA]) (by simp[Value.cells]) rfl rfl;have f9:Fr Hc H9:=Fr.put qz q9 n9 o9 rfl rfl rfl;have Fv:=cD.off (b:=H.n+1) (by omega) (cD.ne qz (by decide)) n9 o9 f9;apply Za;intro b1 Zf;simp[u6,u4,Xp qo rfl,JM];subst Zf;apply ZZ;simp[u4,Xp q9 rfl];refine(aD _ _).2 ⟨[.int .i64 op,.bool false,.slice none 0 0,.slice none 0 0,.slice a9 l9 rA],rfl,Li,nU,by omega,Fv,?_,pF,by omega,DB.trans (eV.weak (by omega)),fun j hj h1 h2=>(o9 j (by omega)).trans (aG j hj h1 h2),?_⟩
         ·simp only[ET.nodes];have a3:(1+Z0 args)*(1+Z0 args)=1+Z0 args+Z0 args+Z0 args*Z0 args:=by simp only[Nat.add_mul,Nat.mul_add,Nat.one_mul,Nat.mul_one];omega
          omega
         ·rw[UG,Co Gv];have hd:Dc false (fun c=>H.n<=c/\c<H9.n) Hc (.slice a9 l9 rA) (Xg args):=by refine Gu.done hLf (hRf.fr (Fr.refl _) fun j hj _ hq=>⟨rfl,hq.1,by omega⟩) fun b hb=>⟨Bb b hb,?_⟩;have:=(hLf.blk_lt hb).1;omega
          have hd9:Rd false (fun c=>H.n<=c/\c<H9.n) Hc (zH false op false (.slice none 0 0) (.slice none 0 0) false (.slice a9 l9 rA)) (.node op false 0 0 false (Xg args)):= .mk (by rw[Xl];exact .nil) (by rw[Xl];exact .nil) hd;refine hd9.fr f9 fun j hj ⟨cs,Tk⟩ hq=>⟨o9 j (fun e=>?_),hq⟩;rw[e,qz]at Tk;injection Tk with h _;cases h
end
theorem cp{t:ET}(h:X4 t=0):t.allGood=true/\t.nodes<=4000:=by
 unfold X4 at h;split at h;·cases h
 ·split at h;·cases h
  ·rename_i h1 h2;exact⟨by simpa using h1,by omega⟩
section
end
theorem KB{Q:Nat->Prop}{H:AH}{vs:List Value}{op:Int}{s bad:Bool}{N D:Nat}{args:List RT}(h:Rd false Q H vs (.node op s N D bad args)): ∃vn vd vx,vs=[.int .i64 op,.bool s,vn,vd,vx]/\Sl H vn (ds Zc N)/\Sl H vd (ds Zc D)/\Dc false Q H vx args:=by cases h with|mk h1 h2 h3=>exact⟨_,_,_,rfl,h1,h2,h3⟩
theorem tT:Wt Tryz.prog 53 []=some (.agg #[.int .i64 0,.bool false,.slice none 0 0,.slice none 0 0,.slice none 0 0]):=by rfl
theorem Rd.noU{r:Bool}{Q:Nat->Prop}{H:AH}{vs:List Value}{t:RT}(h:Rd r Q H vs t):noU vs=true:=by cases h with|mk h1 h2 h3=>obtain⟨_,_,_,rfl⟩:=h3.shape;obtain⟨_,_,_,rfl⟩:=h1.shape;obtain⟨_,_,_,rfl⟩:=h2.shape;cases r<;>rfl
theorem Dc.keep{r:Bool}{Q:Nat->Prop}{H H':AH}{v:Value}{l:List RT}(h:Dc r Q H v l)(k:Zj H H'):Dc r Q H' v l:=by cases h with|nil=>exact .nil|mk b hq hb hc hl hz hf=>exact .mk b hq (Nat.lt_of_lt_of_le hb k.n) ((k.blk b hb).trans hc) hl hz fun i cs t hi ht=>(hf i cs t hi ht).keep k
section
variable {H : AH} {u v w z : Value}
theorem PD{vs:List Value}{t:ET}(h:TreeOk H vs t)(hc:X4 t=0)(VA:t.fold.isUnd=false): ∃us H',ZU Tryz.prog ZY 38 [.agg vs.toArray] H=some (.tuple #[.agg us.toArray,.int .i64 0],H')/\Zj H H'/\Rd false (fun c=>H.n<=c/\c<H'.n) H' us t.red:=by
 obtain⟨Po,aD⟩: ∃Po:Value->AH->Prop,∀x H',Po x H'↔ ∃us:List Value,x= .tuple #[.agg us.toArray,.int .i64 0]/\Zj H H'/\Rd false (fun c=>H.n<=c/\c<H'.n) H' us t.red:=⟨_,fun _ _=>Iff.rfl⟩;suffices hs:CW Tryz.prog ZY 38 [.agg vs.toArray] H Po by obtain⟨x,H',hc,h⟩:=hs;obtain⟨us,rfl,hr⟩:=(aD _ _).1 h;exact⟨us,H',hc,hr⟩
 have hl:=h.tin.ex.len;have zb:=(cp hc).2;obtain⟨H2,e2,k2,n2,q0,q1⟩:=Xb H vs [.int .i64 0,.bool false,.slice none 0 0,.slice none 0 0,.slice none 0 0];have K:=k2;have z0:=q0;obtain⟨fs,H3,c3,k3,hf⟩:=W1 (h.keep K) hc;have n3:=k3.n;have K:=K.trans k3;replace q0:=k3.q q0;replace q1:=k3.q q1;have mU:=hf.ones;have Gv:=hf.len;obtain⟨H4,WQ,k4,q4,n4⟩:=Ns (H:=H3) Gv mU;have K:=K.trans k4;replace q0:=k4.q q0;replace q1:=k4.q q1;have z4:=q4;obtain⟨m,H5,c5,k5,hW⟩:=Jf H4;have n5:=k5.n;have K:=K.trans k5;replace q0:=k5.q q0;replace q1:=k5.q q1;obtain⟨H6,yN⟩:=hid (H5.new 1 [.map (some m),.slice none 0 0,.bool false]);have k6:Zj H5 H6:=by rw[yN];exact Zj.new _ _ _
 have n6:H6.n=H5.n+1:=by rw[yN];rfl
 have q6:H6.blk H5.n= .rw 1 [.map (some m),.slice none 0 0,.bool false]:=by rw[yN,AH.blk_new,if_pos rfl]
 replace q0:=k6.q q0;replace q1:=k6.q q1;have ee:t.nodes*t.nodes<=4000*4000:=Nat.mul_le_mul zb zb;obtain⟨us,H7,c7,L7,tv7,n7,uq,_,_,_,Mg,fr7,se⟩:=Gj _ t (Nat.le_refl _) H5 H6 vs H5.n m [] (.slice none 0 0) (h.tin.ex.keep K) h.tin.wide h.good h.wt VA hW k6 (Nat.le_refl _) ⟨q6,by omega,[],.nil,trivial⟩ (fun b hb=>by cases hb) (by simp only[List.length_nil];omega);have K7:Zj H H7:=Mg H (K.trans k6) (by have:=K.n;omega);have sD:=(fr7 _ (by omega) (by omega) (by simp[Yt])).trans q1;obtain⟨H8,IG,n8,q8,o8,DC,lw8⟩:=Ck UE sD rfl (v:= .agg us.toArray) (ws:=us) (by simp[Value.cells]) se.len se.ones;have kf:Zd .eql .i64 t.fold.kind 2=some (.bool false):=by rw[SL,VA]
 obtain⟨p1,p2,p3,rfl,_⟩:=hf.trio;have f8:Fr H7 H8:=by
  refine⟨Nat.le_of_eq n8.symm,fun j hj=>?_⟩;by_cases e:j=H.n+1;·subst e;refine .inr (.inr ⟨_,_,sD,q8,se.len.symm,rfl,?_⟩);exact se.noU
  ·exact .inl (o8 j e)
 refine Yd 26 Tryz.func38 ?_;apply Za;intro b1 Zf;simp[Value.cells,Vj,XV,e2];subst Zf;apply Za;intro b1 Zf;simp[Xp z0 hl,c3,Xr,Value.cells,WQ];subst Zf;apply Zi;intro b1 Zf;apply Za;intro b2 ZT;simp[TH];subst ZT;refine Zb (t:=false) (by simp) ?_;apply Zr;subst Zf;apply Zi;intro b1 Zf;apply Za;intro b2 ZT;simp[Ql,Vo z4,kf];subst ZT;refine Zb (t:=false) (by simp) ?_;apply Zr;subst Zf;apply Za;intro b1 Zf;simp[c5,CG,Value.cells,<-yN];subst Zf;apply Za;intro b1 Zf;simp[Xp q0 hl,c7,IG];subst Zf;apply ZZ;simp[Xp q8 se.len];refine(aD _ _).2 ⟨us,rfl,DC _ K7 (by omega),se.fr f8 fun j hj ⟨cs,Tk⟩ hq=>⟨o8 j (fun e=>?_),by have:=K.n;omega,by omega⟩⟩;rw[e,sD]at Tk;injection Tk with h _;cases h
theorem Hy{vs:List Value}{t:ET}(h:TreeOk H vs t)(hc:X4 t=0)(VA:t.fold.isUnd=true): ∃H',ZU Tryz.prog ZY 38 [.agg vs.toArray] H=some (.tuple #[.agg #[.int .i64 0,.bool false,.slice none 0 0,.slice none 0 0,.slice none 0 0],.int .i64 200],H')/\Zj H H':=by
 suffices hs:CW Tryz.prog ZY 38 [.agg vs.toArray] H fun x H'=>x= .tuple #[.agg #[.int .i64 0,.bool false,.slice none 0 0,.slice none 0 0,.slice none 0 0],.int .i64 200]/\Zj H H' by obtain⟨x,H',hc,rfl,k⟩:=hs;exact⟨H',hc,k⟩
 have hl:=h.tin.ex.len;obtain⟨H2,e2,k2,n2,q0,q1⟩:=Xb H vs [.int .i64 0,.bool false,.slice none 0 0,.slice none 0 0,.slice none 0 0];have K:=k2;have z0:=q0;obtain⟨fs,H3,c3,k3,hf⟩:=W1 (h.keep K) hc;have n3:=k3.n;have K:=K.trans k3;replace q1:=k3.q q1;have mU:=hf.ones;have Gv:=hf.len;obtain⟨H4,WQ,k4,q4,n4⟩:=Ns (H:=H3) Gv mU;have K:=K.trans k4;replace q1:=k4.q q1;have kf:Zd .eql .i64 t.fold.kind 2=some (.bool true):=by rw[SL,VA]
 obtain⟨p1,p2,p3,rfl,_⟩:=hf.trio;have z4:=q4;obtain⟨H8,IG,n8,q8,o8,DC,lw8⟩:=Ck UE q1 rfl (v:= .agg #[.int .i64 0,.bool false,.slice none 0 0,.slice none 0 0,.slice none 0 0]) (ws:=[.int .i64 0,.bool false,.slice none 0 0,.slice none 0 0,.slice none 0 0]) (by simp[Value.cells]) rfl rfl;refine Yd 26 Tryz.func38 ?_;apply Za;intro b1 Zf;simp[Value.cells,Vj,XV,e2];subst Zf;apply Za;intro b1 Zf;simp[Xp z0 hl,c3,Xr,Value.cells,WQ];subst Zf;apply Zi;intro b1 Zf;apply Za;intro b2 ZT;simp[TH];subst ZT;refine Zb (t:=false) (by simp) ?_;apply Zr;subst Zf;apply Zi;intro b1 Zf;apply Za;intro b2 ZT;simp[Ql,Vo z4,kf];subst ZT;refine Zb (t:=true) (by simp) ?_;apply Za;intro b2 ZT;simp[tT,IG];subst ZT;apply ZZ;simp[YQ,Xp q8 rfl];exact DC _ K (by omega)
theorem Hw{vs:List Value}{t:ET}(h:TY H vs t)(hc:X4 t≠0): ∃H',ZU Tryz.prog ZY 38 [.agg vs.toArray] H=some (.tuple #[.agg #[.int .i64 0,.bool false,.slice none 0 0,.slice none 0 0,.slice none 0 0],.int .i64 (X4 t:Int)],H')/\Zj H H':=by
 obtain⟨C,hC⟩:=hid (X4 t);suffices hs:CW Tryz.prog ZY 38 [.agg vs.toArray] H fun x H'=>x= .tuple #[.agg #[.int .i64 0,.bool false,.slice none 0 0,.slice none 0 0,.slice none 0 0],.int .i64 (C:Int)]/\Zj H H' by obtain⟨x,H',hc,rfl,k⟩:=hs;rw[<-hC];exact⟨H',hc,k⟩
 have hl:=h.ex.len;obtain⟨H2,e2,k2,n2,q0,q1⟩:=Xb H vs [.int .i64 0,.bool false,.slice none 0 0,.slice none 0 0,.slice none 0 0];have K:=k2;have z0:=q0;obtain⟨H3,c3,k3⟩:=Ke (h.keep K) hc;have n3:=k3.n;have K:=K.trans k3;replace q1:=k3.q q1;rw[<-hC]at hc c3;obtain⟨H4,WQ,k4,q4,n4⟩:=Vb (H:=H3) (k:= .int .i64 0) (p:= .bool false) (q:= .slice none 0 0) (r:= .slice none 0 0) rfl;have K:=K.trans k4;replace q1:=k4.q q1;have gn:Zd .neq .i64 (C:Int) 0=some (.bool true):=by rw[SJ,decide_eq_true (by omega)]
 obtain⟨H8,IG,n8,q8,o8,DC,lw8⟩:=Ck UE q1 rfl (v:= .agg #[.int .i64 0,.bool false,.slice none 0 0,.slice none 0 0,.slice none 0 0]) (ws:=[.int .i64 0,.bool false,.slice none 0 0,.slice none 0 0,.slice none 0 0]) (by simp[Value.cells]) rfl rfl;refine Yd 26 Tryz.func38 ?_;apply Za;intro b1 Zf;simp[Value.cells,Vj,XV,e2];subst Zf;apply Za;intro b1 Zf;simp[Xp z0 hl,c3,Xr,Value.cells,WQ];subst Zf;apply Zi;intro b1 Zf;apply Za;intro b2 ZT;simp[gn];subst ZT;refine Zb (t:=true) (by simp) ?_;apply Za;intro b2 ZT;simp[tT,IG];subst ZT;apply ZZ;simp[YQ,Xp q8 rfl];exact DC _ K (by omega)
end
end
mutual def RT.toE:RT->ET| .node op s N D _ args=> .node op s (ds Zc N) (ds Zc D) (Vf args) def Vf:List RT->List ET|[]=>[]|t::ts=>t.toE::Vf ts end
theorem Jd(l:List RT):Vf l=l.map RT.toE:=by induction l with|nil=>rfl|cons x xs ih=>simp[Vf,ih]
theorem Jc(l:List RT):(Vf l).length=l.length:=by rw[Jd];simp
mutual def ET.fin:ET->Prop| .node op neg abs den args=>(ET.node op neg abs den args).fold.isUnd=false/\((ET.node op neg abs den args).fold.isRat=true->op=0)/\(ET.node op neg abs den args).twin=ET.node op neg abs den args/\On args def On:List ET->Prop|[]=>True|t::ts=>t.fin/\On ts end
theorem ET.fin.twin{t:ET}(h:t.fin):t.twin=t:=by cases t;simp only[ET.fin]at h;exact h.2.2.1
structure iu (t e : ET) : Prop where
  fold : e.fold = t.fold
  good : e.allGood = true
  nodes : e.nodes <= t.nodes
  depth : e.depth <= t.depth
  wide : e.wide 1048576
  wt : e.wt <= t.wt + 63 * t.nodes
  red : e.red = t.red
  fin : e.fin
theorem BT: ∀l:List ET,(∀t∈l,iu t t.red.toE)->YP (Vf (Xg l))=YP l/\XZ (Vf (Xg l))=true/\Z0 (Vf (Xg l))<=Z0 l/\Xx (Vf (Xg l))<=Xx l/\UC 1048576 (Vf (Xg l))/\Vy (Vf (Xg l))<=Vy l+63*Z0 l/\Xg (Vf (Xg l))=Xg l/\On (Vf (Xg l))/\T2 (Vf (Xg l))=Vf (Xg l)|[],_=>⟨rfl,rfl,Nat.le_refl _,Nat.le_refl _,trivial,Nat.zero_le _,rfl,trivial,rfl⟩|t::ts,h=>by have h0:=h t (List.mem_cons_self ..);obtain⟨a1,a2,a3,a4,a5,a6,a7,a8,a9⟩:=BT ts fun u hu=>h u (List.mem_cons_of_mem _ hu);simp only[Xg,Vf,YP,XZ,Z0,Xx,UC,Vy,On,T2,Bool.and_eq_true];have n1:=h0.nodes;have n2:=h0.depth;have n3:=h0.wt;refine⟨by rw[h0.fold,a1],⟨h0.good,a2⟩,by omega,by omega,⟨h0.wide,a5⟩,by omega,by rw[h0.red,a7],⟨h0.fin,a8⟩,by rw[h0.fin.twin,a9]⟩
theorem J0{A:Nat} :64*(ds Zc A).length<=Zq A+63:=by have h1:A<2^Zq A:=Ww A;have h2:(2:Nat)^Zq A<=2^(64*((Zq A+63)/64)):=Nat.pow_le_pow_right (by decide) (by omega);have h3:(2:Nat)^(64*((Zq A+63)/64))=Zc^((Zq A+63)/64):=Nat.pow_mul 2 64 _;have h4:=XI Z2 (Nat.lt_of_lt_of_le h1 (Nat.le_trans h2 (Nat.le_of_eq h3)));omega
theorem redd: ∀n(t:ET),t.nodes<=n->t.allGood=true->t.wide 1048576->t.wt<=67108864->t.fold.isUnd=false->iu t t.red.toE:=by intro n;induction n with
 |zero=>intro t h;have:=Xn t;omega
 |succ n ih=>
  intro t h hg hw FN hu;have MP:=O9 _ t (Nat.le_refl _) hg hw;have hdp:1<=t.depth:=by cases t;simp only[ET.depth];omega
  have hnp:=Xn t;obtain⟨op,neg,abs,den,args⟩:=t;rw[UG];obtain⟨F,hF⟩: ∃F,F=(ET.node op neg abs den args).fold:=⟨_,rfl⟩;rw[<-hF]at hu MP⊢;cases F with
   |und=>cases hu
   |rat s A B=>
    have PQ:Sd s A B:=MP.1;have jt:max (Zq A) (Zq B)+1<=(ET.node op neg abs den args).wt:=MP.2;have l1:=J0 (A:=A);have l2:=J0 (A:=B);have FZ:(ET.node 0 s (ds Zc A) (ds Zc B) []).fold= .rat s A B:=by simp only[ET.fold,YP,List.any_nil,Bool.false_eq_true,if_false];unfold Xq;rw[if_pos rfl,YL Z2,YL Z2,PQ.1];rfl
    show iu _ (ET.node 0 s (ds Zc A) (ds Zc B) []);refine⟨by rw[FZ,hF],?_,?_,?_,?_,?_,?_,?_⟩;·simp only[ET.allGood,XZ,Bool.and_true];simp only[ET.good,if_true];rw[YL Z2];simp[PQ.2,arity]
    ·simp only[ET.nodes,Z0]at hnp⊢;omega
    ·show max 1 0<=_;omega
    ·exact⟨by omega,by omega,Yx Z2 A,Yx Z2 B,trivial⟩
    ·simp only[ET.wt,Vy,if_true]at jt⊢;omega
    ·rw[UG,FZ,UG,<-hF];rfl
    ·simp only[ET.fin,FZ,On];refine⟨rfl,fun _=>trivial,?_,trivial⟩;simp only[ET.twin,T2];unfold nT;simp only[if_true];rw[YL Z2,YL Z2,PQ.1]
   |opn=>
    obtain⟨_,_,_,_,ws⟩:=hw;simp only[ET.nodes]at h;simp only[ET.allGood,Bool.and_eq_true]at hg;obtain⟨g0,g16,gar,_⟩:=Uf hg.1;have hf:=hF;simp only[ET.fold]at hf;split at hf;·cases hf
    rename_i uK;have YB:op≠0:=fun e=>by subst e;unfold Xq at hf;rw[if_pos rfl]at hf;simp[FD.mk]at hf
    have Qn: ∀t∈args,iu t t.red.toE:=fun u hu=>by obtain⟨i,hi⟩:=List.mem_iff_getElem?.mp hu;have h1:=UJ hi;have h2:=My hi;simp only[ET.wt]at FN;refine ih u (by omega) (Uu hg.2 hi) (VK ws hi) (by omega) ?_;cases pE:u.fold.isUnd with|false=>rfl|true=>exact absurd (List.any_eq_true.mpr ⟨u.fold,by rw[W3];exact List.mem_map.mpr ⟨u,hu,rfl⟩,pE⟩) uK
    obtain⟨a1,a2,a3,a4,a5,a6,a7,a8,a9⟩:=BT args Qn;have hlen:(Vf (Xg args)).length=args.length:=by rw[Jc,K0]
    have FZ:(ET.node op false [] [] (Vf (Xg args))).fold= .opn:=by simp only[ET.fold];rw[a1,if_neg uK,hf];exact EK YB _ _ _ _ _ _ _
    have e0:RT.toE (OW op .opn (Xg args))=ET.node op false [] [] (Vf (Xg args)):=by show ET.node op false (ds Zc 0) (ds Zc 0) _=_;rw[Xl]
    rw[e0];refine⟨by rw[FZ,hF],?_,?_,?_,⟨Nat.zero_le _,Nat.zero_le _,Tj,Tj,a5⟩,?_,?_,?_⟩;·simp only[ET.allGood,a2,Bool.and_true];simp only[ET.good,if_neg YB,hlen];simp[g0,g16,gar]
    ·simp only[ET.nodes];omega
    ·simp only[ET.depth];omega
    ·simp only[ET.wt,ET.nodes,if_neg YB];omega
    ·rw[UG,FZ,UG,<-hF,a7]
    ·simp only[ET.fin,FZ];refine⟨rfl,(fun h=>by cases h),?_,a8⟩;simp only[ET.twin,a9];unfold nT;simp only[if_neg YB]
mutual theorem EO: ∀e:ET,e.fin-> ∀u∈e.subs,u.fin/\u.nodes<=e.nodes/\u.depth<=e.depth/\(e.allGood=true->u.allGood=true)/\(e.wide 1048576->u.wide 1048576)/\u.wt<=e.wt
 | .node op neg abs den args,h,u,hu=>by
  simp only[ET.subs,List.mem_cons]at hu;rcases hu with e|e;·rw[h.twin]at e;subst e;exact⟨h,Nat.le_refl _,Nat.le_refl _,fun h=>h,fun h=>h,Nat.le_refl _⟩
  ·simp only[ET.fin]at h;obtain⟨b1,b2,b3,b4,b5,b6⟩:=M4 args h.2.2.2 u e;simp only[ET.nodes,ET.depth,ET.wt,ET.allGood,Bool.and_eq_true];refine⟨b1,by omega,by omega,fun h=>b4 h.2,fun h=>b5 h.2.2.2.2,by omega⟩ theorem M4: ∀l:List ET,On l-> ∀u∈WZ l,u.fin/\u.nodes<=Z0 l/\u.depth+1<=Xx l/\(XZ l=true->u.allGood=true)/\(UC 1048576 l->u.wide 1048576)/\u.wt<=Vy l
 |[],_,u,hu=>by simp[WZ]at hu
 |t::ts,h,u,hu=>by
  simp only[On]at h;simp only[WZ,List.mem_append]at hu;simp only[Z0,Xx,Vy,XZ,UC,Bool.and_eq_true];rcases hu with e|e;·obtain⟨b1,b2,b3,b4,b5,b6⟩:=EO t h.1 u e;exact⟨b1,by omega,by omega,fun h=>b4 h.1,fun h=>b5 h.1,by omega⟩
  ·obtain⟨b1,b2,b3,b4,b5,b6⟩:=M4 ts h.2 u e;exact⟨b1,by omega,by omega,fun h=>b4 h.2,fun h=>b5 h.2,by omega⟩ end
theorem cq{t e:ET}(h:X4 t=0)(hg:e.allGood=true)(hn:e.nodes<=t.nodes)(hd:e.depth<=t.depth):X4 e=0:=by
 unfold X4 at h⊢;split at h;·cases h
 ·split at h;·cases h
  ·rename_i h1 h2;rw[if_neg (by rw[hg];decide),if_neg (by omega)]
theorem xK{Q:Nat->Prop}{H:AH} : ∀n(r:RT),r.nodes<=n-> ∀vs,Rd false Q H vs r->Ex H vs r.toE:=by intro n;induction n with
 |zero=>intro t h;have:=Tg t;omega
 |succ n ih=>intro r h vs hx;obtain⟨op,s,N,D,bad,args⟩:=r;obtain⟨vn,vd,vx,rfl,h1,h2,h3⟩:=KB hx;simp only[RT.nodes]at h;refine .mk h1 h2 ?_;cases h3 with
  |nil=>exact .nil
  |mk b hq hb hc hl hz hf=>rename_i css;have e:=Jc args;rw[<-e];refine .mk b 0 _ hb (AH.cells_rw' hc (by decide)) (Nat.le_refl _) fun i t hi=>?_;rw[Jd,List.getElem?_map]at hi;cases hx:args[i]? with|none=>rw[hx]at hi;cases hi|some x=>rw[hx]at hi;cases hi;have UZ:=(List.getElem?_eq_some_iff.mp hx).1;obtain⟨cs,Tk⟩: ∃cs,css[i]?=some cs:=⟨css[i]'(by omega),List.getElem?_eq_getElem (by omega)⟩;have pq:=Tf hz Tk;rw[Nat.zero_add];have pq:(css.flatten.drop (i*5)).take 5=cs:=pq;rw[pq];have:=V7 hx;exact ih x (by omega) cs (hf i cs x Tk hx)
def qD(nb ab pb wb:Nat):Value:= .func (.func 79) #[] #[.pointer (some ⟨nb,0,none⟩),.pointer (some ⟨ab,0,none⟩),.pointer (some ⟨pb,0,none⟩),.pointer (some ⟨wb,0,none⟩)]
structure nD (H : AH) (nb ab pb wb n k : Nat) (zK : List Value) : Prop where
  n : H.blk nb = .rw 1 [.int .i64 (n : Int)]
  k : H.blk ab = .rw 1 [.int .i64 (k : Int)]
  p : H.blk pb = .rw 1 zK
  w : H.blk wb = .rw 1 [qD nb ab pb wb]
  ln : nb < H.n
  lk : ab < H.n
  lp : pb < H.n
  lw : wb < H.n
  na : nb ≠ ab
  np : nb ≠ pb
  nw : nb ≠ wb
theorem nD.move{H H':AH}{nb ab pb wb n n' k:Nat}{zK:List Value}(h:nD H nb ab pb wb n k zK)(hn:H.n<=H'.n)(h0:H'.blk nb= .rw 1 [.int .i64 (n':Int)])(ha:H'.blk ab=H.blk ab)(hp:H'.blk pb=H.blk pb)(hw:H'.blk wb=H.blk wb):nD H' nb ab pb wb n' k zK:=⟨h0,ha.trans h.k,hp.trans h.p,hw.trans h.w,Nat.lt_of_lt_of_le h.ln hn,Nat.lt_of_lt_of_le h.lk hn,Nat.lt_of_lt_of_le h.lp hn,Nat.lt_of_lt_of_le h.lw hn,h.na,h.np,h.nw⟩
inductive PX(H:AH)(P:Nat->Prop):List Value->ET->Prop|mk{op:Int}{neg:Bool}{va vd vx:Value}{abs den:List Nat}{args:List ET}(css:List (List Value)):Sl H va abs->Sl H vd den->UB 5 H vx css->css.length=args.length->(∀b,Yt vx=some b->P b)->(∀(i:Nat)(cs:List Value)(t:ET),css[i]?=some cs->args[i]?=some t->PX H P cs t)->PX H P [.int .i64 op,.bool neg,va,vd,vx] (.node op neg abs den args)
theorem PX.len{H:AH}{P:Nat->Prop}{vs:List Value}{t:ET}(h:PX H P vs t):vs.length=5:=by cases h;rfl
theorem PX.fr{H H':AH}{P:Nat->Prop}{vs:List Value}{t:ET}(h:PX H P vs t)(f:Fr H H')(hf: ∀j,P j->j<H.n->H'.blk j=H.blk j):PX H' P vs t:=by induction h with|mk css h1 h2 h3 h4 h5 h8 ih=>exact .mk css (h1.fr f) (h2.fr f) (h3.frame f.1 fun b hb=>hf b (h5 b hb) (h3.blk_lt hb).1) h4 h5 fun i cs t hc ht=>ih i cs t hc ht
theorem PX.ex{H:AH}{P:Nat->Prop}{vs:List Value}{t:ET}(h:PX H P vs t):Ex H vs t:=by induction h with
 |@mk op neg va vd vx abs den args css h1 h2 h3 h4 h5 h8 ih=>
  refine .mk h1 h2 ?_;rcases h3 with⟨rfl,rfl⟩|⟨b,rfl,g1,g2,g3⟩;·obtain rfl:args=[]:=List.length_eq_zero_iff.mp h4.symm;exact .nil
  ·rw[h4];refine .mk b 0 args.length g1 (AH.cells_rw' g2 (by decide)) (Nat.le_refl _) fun i t hi=>?_;have YX:i<css.length:=by rw[h4];exact(List.getElem?_eq_some_iff.mp hi).1
   have hc:=List.getElem?_eq_getElem YX;rw[Nat.zero_add,Tf g3 hc];exact ih i _ t hc hi
section
attribute [-simp] Int.natCast_add Int.natCast_mul Int.natCast_ediv Int.natCast_emod Int.natCast_pow
attribute [local simp] strip ZQ Xj LR gW ZF Ya ZX Yb ZJ Yc Zs Zt Zg ZI Z5 ZN ZB Zk ZH Zh Ze ZC ZD YW Zo Z6 YF Yw ZK plain ZM Tr.get_set Yu Zp Yq ZV sameKind undef Zv ZG Z3 Zu ZW parts Xw DW Yf Zw LX Zz
attribute [local simp] Rf Zn ZL
section
end
section
variable {H : AH} {vs ps : List Value} {t pt : ET}
end
end
section
attribute [-simp] Int.natCast_add Int.natCast_mul Int.natCast_ediv Int.natCast_emod Int.natCast_pow
attribute [local simp] strip ZQ Xj LR gW ZF Ya ZX Yb ZJ Yc Zs Zt Zg ZI Z5 ZN ZB Zk ZH Zh Ze ZC ZD YW Zo Z6 YF Yw ZK plain ZM Tr.get_set Yu Zp Yq ZV sameKind undef Zv ZG Z3 Zu ZW parts Xw DW Yf Zw LX Zz
attribute [local simp] Zn ZL ZS Rf
section
variable {H : AH} {vs1 vs2 : List Value} {t pt : ET}
end
end
def MT:Value:= .iface 168 (.agg #[.int .i64 70])
theorem tV:Wt Tryz.prog 168 [(0,.int .i64 70)]=some (.agg #[.int .i64 70]):=by kernel_rfl
theorem wX:isIface Tryz.prog 168=some false:=by kernel_rfl
theorem oN:Yq Tryz.prog .eql 20 MT .nilIface=some (.bool false):=by kernel_rfl
theorem oi:OD Tryz.prog MT 168 true=some (.tuple #[.agg #[.int .i64 70],.bool true]):=by kernel_rfl
theorem yo:W0 Tryz.prog 168=some (.agg #[.int .i64 0]):=by kernel_rfl
theorem xF:Xh Tryz.prog 168=some 1:=by kernel_rfl
theorem oI(b:Nat):Ys Tryz.prog 168 (.pointer (some ⟨b,0,none⟩)) 0=some (.pointer (some ⟨b,0,none⟩)):=by kernel_rfl
theorem IV:plain MT=true:=rfl
theorem oe{P:Program}{C:Cfg}{Q:Ev.Ex->St->Prop}{i:Nat}{ops:Array Oper}{s:St}(hd:(Ws ops&&VC ops)=true)(h: ∃s',Vu P C (ZU P C) ops 0 [] ops.toList s=some s'/\Q .norm s'):W P C (.region i ops true) s Q:=by
 obtain⟨s',h1,h2⟩:=h;refine⟨.norm,s',?_,h2⟩;rw[VW];simp only[XO];rw[XF]at h1;rw[Bool.and_eq_true]at hd;have:YI P C (YG P C (SY P C)) ops true s=some s':=by unfold YI;rw[hd.1,hd.2];simp only[Bool.and_self,cond_true];exact h1
 rw[this]
section
attribute [-simp] Int.natCast_add Int.natCast_mul Int.natCast_ediv Int.natCast_emod Int.natCast_pow
attribute [local simp] strip ZQ Xj LR gW ZF Ya ZX Yb ZJ Yc Zs Zt Zg ZI Z5 ZN ZB Zk ZH Zh Ze ZC ZD YW Zo Z6 YF Yw ZK plain ZM Tr.get_set Yu Zp Yq ZV sameKind undef Zv ZG Z3 Zu ZW parts Xw DW Yf Zw LX Zz
attribute [local simp] Zn ZL Xt Yg Zm ZP
section
variable {H : AH} {u v : Value} {xs ys : List Nat}
end
section
variable {H : AH} {u v : Value}
theorem D9{b m:Nat}(hl: ∀H',Zj H H'->Z9 Tryz.prog H' 34 (.pointer (some ⟨b,0,none⟩))=some (.agg #[.bool false,.slice none 0 0,.slice none 0 0]))(hm:0<m):yr Tryz.prog ZY 87 [.slice (some ⟨b,0,none⟩) m m] H fun o H'=>o= .pan MT/\Zj H H':=by
 have lq:=ni b m;refine JJ 17 (by decide) (by decide) Tryz.func87 rfl rfl ?_;apply Za;intro b1 Zf;simp[lq];subst Zf;apply ZR;refine YS (fun n s'=>s'.k=17/\s'.H=H/\s'.tm.get 4=some (.slice (some ⟨b,0,none⟩) m m)/\s'.tm.get 5=some (.int .i64 (m:Int))/\s'.tm.get 6=some (.int .i64 ((0:Nat):Int))) ?_ m _ ⟨rfl,rfl,by simp,by simp,by simp⟩;rintro n ⟨k,tm,H4⟩ ⟨hk,kH,t4,t5,t6⟩ Q' YA;simp only at hk kH t4 t5 t6;subst hk;subst kH;apply Za;intro b3 Z4;simp[t5,t6,KS];subst Z4;apply Zi;intro b3 Z4;refine Zb (t:=true) (by simp[hm]) ?_;apply Zr;subst Z4;obtain⟨H5,Ui,k5,cf,n5⟩:=XQ (H:=H4) (sz:=1) (zs:=[.bool false,.slice none 0 0,.slice none 0 0]) WB rfl (v:= .agg #[.bool false,.slice none 0 0,.slice none 0 0]) (ws:=[.bool false,.slice none 0 0,.slice none 0 0]) rfl rfl rfl;have cl:=Xm (H:=H5) (A:=0) (v:= .slice none 0 0) (by rw[Xl];exact .nil) (by rw[Xl];decide);rw[show Zq 0=0 from by decide]at cl;have ha:Yi Tryz.prog 157 (.slice (some ⟨b,0,none⟩) m m) (.int .i64 0)=some (.pointer (some ⟨b,0,none⟩)):=by simpa using lH b m hm
 apply Zi;intro b3 Z4;apply ZR;apply Za;intro b4 Yy;simp[t4,t6,ha,hl H4 (.refl _),XC,Value.cells,Ui];subst Yy;apply Za;intro b4 Yy;simp[QU,Vq cf,cl,show Zd .eql .i64 0 0=some (.bool true)from rfl];subst Yy;refine Zb (t:=true) (by simp) ?_;apply LM;simp[tV,wX,YQ,Yv];apply YA;simp[TI,YQ,Yv];exact⟨rfl,k5⟩
theorem GG(c e:Int)(H:AH): ∃H',ZU Tryz.prog ZY 86 [MT,.int .i64 c,.int .i64 e] H=some (.tuple #[.int .i64 0,.int .i64 70],H')/\Zj H H':=by
 suffices h:CW Tryz.prog ZY 86 [MT,.int .i64 c,.int .i64 e] H fun v H'=>v= .tuple #[.int .i64 0,.int .i64 70]/\Zj H H' by obtain⟨v,H',hc,rfl,k⟩:=h;exact⟨H',hc,k⟩
 obtain⟨H3,Sc,k3,q3,n3⟩:=XQ (H:=H) (sz:=1) (zs:=[.int .i64 0]) xF rfl (v:= .agg #[.int .i64 70]) (ws:=[.int .i64 70]) rfl rfl rfl;have zV:Z9 Tryz.prog H3 23 (.pointer (some ⟨H.n,0,none⟩))=some (.int .i64 70):=Yj NK (AH.cells_rw' q3 (by decide)) rfl;refine Yd 26 Tryz.func86 ?_;apply Za;intro b1 Zf;simp;subst Zf;apply Zi;intro b1 Zf;apply Za;intro b2 ZT;simp[-Yq,oN];subst ZT;refine Zb (t:=false) (by simp) ?_;apply Zr;subst Zf;apply Za;intro b1 Zf;simp[oi,yo,Value.cells,Sc];subst Zf;apply Zi;intro b1 Zf;apply Za;intro b2 ZT;simp;subst ZT;refine Zb (t:=false) (by simp) ?_;apply Zr;subst Zf;apply Za;intro b1 Zf;simp;subst Zf;apply Zi;intro b1 Zf;apply oe (by kernel_rfl);simp[Vu,Y2,XN,Vv,St.put,QB,oI,zV,show Nat.blt 23 26=true from rfl,show Nat.blt 24 26=true from rfl,show Nat.blt 25 26=true from rfl,show Nat.blt 6 26=true from rfl,show Nat.blt 7 26=true from rfl];subst Zf;apply ZZ;simp;exact k3
theorem Hn{b2 b3:Nat}{c e:Int}{K:AH->Prop}(hq:H.blk b2= .rw 1 [.int .i64 c])(he:H.blk b3= .rw 1 [.int .i64 e])(h2:b2<H.n)(h3:b3<H.n)(YX:b2<b3)(hK: ∀H',Vz b2 H H'->H'.blk b2= .rw 1 [.int .i64 0]->H'.blk b3= .rw 1 [.int .i64 70]->K H'):ED Tryz.prog ZY 121 [.pointer (some ⟨b2,0,none⟩),.pointer (some ⟨b3,0,none⟩)] MT H K:=by
 obtain⟨E1,c1,U4⟩:=GG c e H.top;obtain⟨G1,Td⟩:=hid (grown H E1);have WT:Zj H G1:=by rw[Td];exact Yo (.refl H) U4
 have Mk:H.n<=E1.n:=U4.n;have bf:=WT.n;have r2:G1.blk b2= .rw 1 [.int .i64 c]:=by rw[WT.blk _ h2];exact hq
 have r3:G1.blk b3= .rw 1 [.int .i64 e]:=by rw[WT.blk _ h3];exact he
 obtain⟨S1,Sx,Q6,V2,PA,SN,U2,Rn⟩:=UY (v:= .int .i64 0) (ws:=[.int .i64 0]) Cu r2 (by omega) rfl rfl rfl rfl;obtain⟨F1,Qe⟩:=hid (low G1 S1);rw[<-Qe]at PA SN U2 Rn;have KC:F1.blk b3= .rw 1 [.int .i64 e]:=by rw[U2 _ (by omega)];exact r3
 obtain⟨S2,Tq,bj,TO,NQ,SX,Rp,Qd⟩:=UY (v:= .int .i64 70) (ws:=[.int .i64 70]) NY KC (by omega) rfl rfl rfl rfl;obtain⟨F,hF⟩:=hid (low F1 S2);rw[<-hF]at NQ SX Rp Qd;have l1:=Iw (H:=H.top) hq;have l2:Z9 Tryz.prog H.top 23 (.pointer (some ⟨b3,0,none⟩))=some (.int .i64 e):=Yj NK (AH.cells_rw' (H:=H.top) he (by decide)) rfl;refine Wk 9 Tryz.func121 rfl rfl ?_;apply Wl (by kernel_rfl);apply Y8 (by kernel_rfl);simp[Wr,isRec,IV,-plain];refine Z7 (v:= .int .i64 c) rfl rfl rfl (by rw[Z1 rfl];simp[l1]) ?_;simp;refine Z7 (v:= .int .i64 e) rfl rfl rfl (by rw[Z1 rfl];simp[l2]) ?_;simp;refine YJ (v:= .tuple #[.int .i64 0,.int .i64 70]) (H2:=E1) rfl rfl rfl (by rw[Z1 rfl];simp[c1]) Mk (YD U4) ?_;rw[<-Td];generalize PO:cond (Nat.blt H.n E1.n) _ _=ms;have X7:=Uh PO;simp;refine YO (v:= .tuple #[]) (H2:=S1) rfl rfl (by kernel_rfl) (Yr fun x hx=>by rw[(X7 x hx).1];kernel_rfl) ?_ (by omega) V2 ?_;·show ZF _ _ _ _ G1.top _=_;simp[Sx]
 rw[show({ n:=S1.n,lw:=min G1.lw S1.lw,t:=S1.t } :AH)=F1 from Qe.symm];rw[show Nat.blt G1.n S1.n=false from by rw[Q6];exact Xu _,cond_false];simp;refine YO (v:= .tuple #[]) (H2:=S2) rfl rfl (by kernel_rfl) (Yr fun x hx=>by rw[(X7 x hx).1];kernel_rfl) ?_ (by omega) TO ?_;·show ZF _ _ _ _ F1.top _=_;simp[Tq]
 rw[show({ n:=S2.n,lw:=min F1.lw S2.lw,t:=S2.t } :AH)=F from hF.symm];simp;exact hK F (fun H0 k hn=>Qd H0 (Rn H0 (k.trans WT) hn) (by omega)) ((Rp _ (by omega)).trans SN) SX
theorem Ry{p q r:Value}(ht:U7 p q r)(H:AH): ∃H',ZU Tryz.prog ZY 80 [.agg #[.bool false,.slice none 0 0,.slice none 0 0],.agg #[p,q,r]] H=some (.tuple #[.int .i64 0,.int .i64 70],H')/\Zj H H':=by
 suffices hs:CW Tryz.prog ZY 80 [.agg #[.bool false,.slice none 0 0,.slice none 0 0],.agg #[p,q,r]] H fun v H'=>v= .tuple #[.int .i64 0,.int .i64 70]/\Zj H H' by obtain⟨v,H',hc,rfl,k⟩:=hs;exact⟨H',hc,k⟩
 obtain⟨⟨t,rfl⟩,⟨a1,l1,c1,rfl⟩,⟨a2,l2,c2,rfl⟩⟩:=ht;obtain⟨H2,e2,k2,n2,q0,q1,q2,q3⟩:=Of H [.bool false,.slice none 0 0,.slice none 0 0] [.bool t,.slice a1 l1 c1,.slice a2 l2 c2] [.int .i64 0] [.int .i64 0];obtain⟨H3,N2⟩:=hid (H2.new 3 [.bool false,.slice none 0 0,.slice none 0 0,.bool t,.slice a1 l1 c1,.slice a2 l2 c2]);have k3:Zj H2 H3:=by rw[N2];exact Zj.new _ _ _
 have n3:H3.n=H2.n+1:=by rw[N2];rfl
 have b3:H3.blk H2.n= .rw 3 [.bool false,.slice none 0 0,.slice none 0 0,.bool t,.slice a1 l1 c1,.slice a2 l2 c2]:=by rw[N2,AH.blk_new,if_pos rfl]
 obtain⟨o,H4,jc,rfl,k4⟩:=D9 (H:=H3) (b:=H2.n) (m:=2) (fun H' k=>QF (AH.cells_rw' (k.q b3) (by decide)) rfl rfl) (by decide);have c4:=LG jc;have p4:=Oh jc;have n4:=k4.n;have Qo:=(k4.blk _ (by omega)).trans (k3.q q2);have Da:=(k4.blk _ (by omega)).trans (k3.q q3);refine Wu 40 (by decide) (by decide) Tryz.func80 rfl rfl rfl ?_;intro b1 Zf;apply Zl;simp[Value.cells,aI,Jh,XV,e2];refine⟨_,_,⟨rfl,rfl⟩,?_⟩;subst Zf;apply Zi;intro b1 Zf;apply LM;simp[YR q0,YR q1,Pg,<-N2,c4,p4,YQ,Vw,IV,-plain];refine⟨MT,by rfl,?_⟩;refine Hn Qo Da (by omega) (by omega) (by omega) fun H6 Ub q6 q7=>?_;simp[Iw q6,Tw q7];first|exact Ub H ((k2.trans k3).trans k4) (by omega)|exact⟨_,rfl,Ub H ((k2.trans k3).trans k4) (by omega),rfl⟩
theorem JC(s:Bool)(A B:Nat):Qk s A B s A B=0:=by
 unfold Qk;rw[if_neg (fun h=>h rfl)];have:Wn (A*B) (A*B)=0:=by unfold Wn;simp
 rw[this,Int.mul_zero]
theorem az{us ws:List Value}{f:FD}(h:VB H us f)(h':VB H ws f)(hf:f.fit): ∃H',ZU Tryz.prog ZY 47 [.agg us.toArray,.agg ws.toArray] H=some (.bool true,H')/\Zj H H':=by
 suffices hs:CW Tryz.prog ZY 47 [.agg us.toArray,.agg ws.toArray] H fun v H'=>v= .bool true/\Zj H H' by obtain⟨v,H',hc,rfl,k⟩:=hs;exact⟨H',hc,k⟩
 have hh:=h;have Gx:=h';obtain⟨p,q,r,rfl,ht⟩:=h.trio;obtain⟨p',q',r',rfl,Bm⟩:=h'.trio;obtain⟨H2,e2,k2,n2,q0,q1⟩:=Xb H [.int .i64 f.kind,p,q,r] [.int .i64 f.kind,p',q',r'];have gn:Zd .neq .i64 f.kind f.kind=some (.bool false):=by rw[SJ,decide_eq_false (by omega)]
 have hcmp: ∃e H3,ZU Tryz.prog ZY 80 [.agg #[p,q,r],.agg #[p',q',r']] H2=some (.tuple #[.int .i64 0,.int .i64 e],H3)/\Zj H2 H3/\(f.isRat=true->e=0):=by cases f with|rat s A B=>obtain⟨_,_,e,h1,h2,hl⟩:=hh;obtain⟨_,_,e',h3,h4,_⟩:=Gx;cases e;cases e';obtain⟨H3,c3,k3⟩:=Wy s s (h1.keep k2) (h2.keep k2) (h3.keep k2) (h4.keep k2) hf.1 hf.2 hf.1 hf.2 hl.2 hl.2;rw[JC]at c3;exact⟨0,H3,c3,k3,fun _=>rfl⟩|opn=>cases hh;cases Gx;obtain⟨H3,c3,k3⟩:=Ry (p:= .bool false) (q:= .slice none 0 0) (r:= .slice none 0 0) ⟨⟨_,rfl⟩,⟨_,_,_,rfl⟩,⟨_,_,_,rfl⟩⟩ H2;exact⟨70,H3,c3,k3,fun h=>by cases h⟩|und=>cases hh;cases Gx;obtain⟨H3,c3,k3⟩:=Ry (p:= .bool false) (q:= .slice none 0 0) (r:= .slice none 0 0) ⟨⟨_,rfl⟩,⟨_,_,_,rfl⟩,⟨_,_,_,rfl⟩⟩ H2;exact⟨70,H3,c3,k3,fun h=>by cases h⟩
 obtain⟨e,H3,c3,k3,he⟩:=hcmp;have r0:=k3.q q0;refine Yd 32 Tryz.func47 ?_;apply Za;intro b1 Zf;simp[Value.cells,XV,e2];subst Zf;apply Zi;intro b1 Zf;apply Za;intro b2 ZT;simp[Ql,Vo q0,Vo q1,gn];subst ZT;refine Zb (t:=false) (by simp) ?_;apply Zr;subst Zf;apply Za;intro b1 Zf;simp[JZ,QH q0,QH q1,c3];subst Zf;cases hr:f.isRat with
  |true=>
   have:=he hr;subst this;have g1:Zd .neq .i64 f.kind 1=some (.bool false):=by cases f<;>first|rfl|cases hr
   apply Za;intro b1 Zf;simp[Ql,Vo r0,g1,Vh,show Zd .eql .i64 0 0=some (.bool true)from rfl];subst Zf;apply ZZ;simp;exact k2.trans k3
  |false=>
   have g1:Zd .neq .i64 f.kind 1=some (.bool true):=by cases f<;>first|rfl|cases hr
   apply Za;intro b1 Zf;simp[Ql,Vo r0,g1];subst Zf;apply ZZ;simp;exact k2.trans k3
end
end
mutual def RT.pos:RT->Prop| .node op s N D _ args=>(op=0->0<D)/\fW args def fW:List RT->Prop|[]=>True|t::ts=>t.pos/\fW ts end
theorem eG{H:AH}{b:Nat}{v0 v1 v2 v3 v4:Value}(h:H.blk b= .rw 1 [v0,v1,v2,v3,v4]):Z9 Tryz.prog H 30 (.pointer (some ⟨b,3,none⟩))=some v3:=Yj Ju (AH.cells_rw' h (by decide)) rfl
section
attribute [-simp] Int.natCast_add Int.natCast_mul Int.natCast_ediv Int.natCast_emod Int.natCast_pow
attribute [local simp] strip ZQ Xj LR gW ZF Ya ZX Yb ZJ Yc Zs Zt Zg ZI Z5 ZN ZB Zk ZH Zh Ze ZC ZD YW Zo Z6 YF Yw ZK plain ZM Tr.get_set Yu Zp Yq ZV sameKind undef Zv ZG Z3 Zu ZW parts Xw DW Yf Zw LX Zz
attribute [local simp] Zn ZL ZS
section
variable {H : AH} {u v w z : Value}
theorem Jz{op:Int}{s:Bool}{N D:Nat}{vx wx:Value}(h1:Sl H u (ds Zc N))(h2:Sl H v (ds Zc D))(g1:Sl H w (ds Zc N))(g2:Sl H z (ds Zc D))(lN:Zq N<=67108864)(lD:Zq D<=67108864): ∃H',ZU Tryz.prog ZY 81 [.agg #[.int .i64 op,.bool s,u,v,vx],.agg #[.int .i64 op,.bool s,w,z,wx]] H=some (.bool true,H')/\Zj H H':=by
 suffices hs:CW Tryz.prog ZY 81 [.agg #[.int .i64 op,.bool s,u,v,vx],.agg #[.int .i64 op,.bool s,w,z,wx]] H fun v H'=>v= .bool true/\Zj H H' by obtain⟨v,H',hc,rfl,k⟩:=hs;exact⟨H',hc,k⟩
 obtain⟨H2,e2,k2,n2,q0,q1⟩:=Xb H [.int .i64 op,.bool s,u,v,vx] [.int .i64 op,.bool s,w,z,wx];have c1:=Xm (h2.keep k2).top (Zx lD);have c2:=Xm (g2.keep k2).top (Zx lD);have gD:Zd .eql .i64 (Zq D:Int) 0=some (.bool (decide (D=0))):=by rw[QX];congr 2;apply decide_eq_decide.mpr;rw[<-Uo (n:=D)];omega
 have r0:=eG (H:=H2.top) q0;have r1:=eG (H:=H2.top) q1;refine Yd 36 Tryz.func81 ?_;apply Za;intro b1 Zf;simp[Value.cells,XV,e2];subst Zf;apply Zi;intro b1 Zf;apply OG (by kernel_rfl);simp[Sp,tD,r0,r1,c1,c2,gD];subst Zf;by_cases hD:D=0;·apply Zi;intro b1 Zf;apply Za;intro b2 ZT;simp[decide_eq_true hD];subst ZT;refine Zb (t:=true) (by simp) ?_;apply Za;intro b2 ZT;simp[-Yq,tI,decide_eq_true hD];subst ZT;apply ZZ;simp[YQ];exact k2
 ·obtain⟨H3,c3,k3⟩:=Wy s s (h1.keep k2) (h2.keep k2) (g1.keep k2) (g2.keep k2) lN lD lN lD (Nat.pos_of_ne_zero hD) (Nat.pos_of_ne_zero hD);rw[JC]at c3;apply Zi;intro b1 Zf;apply Za;intro b2 ZT;simp[decide_eq_false hD];subst ZT;refine Zb (t:=false) (by simp) ?_;apply Zr;subst Zf;apply Za;intro b1 Zf;simp[Sp,HC q0,HC q1,c3];subst Zf;apply Za;intro b1 Zf;simp[show Zd .eql .i64 0 0=some (.bool true)from rfl];subst Zf;apply ZZ;simp;exact k2.trans k3
theorem Dn: ∀n(t:RT),t.nodes<=n-> ∀(Q Q':Nat->Prop)(H:AH)(vs ws:List Value),Rd false Q H vs t->Rd false Q' H ws t->t.neat->t.nodes<=100000000-> ∃H',ZU Tryz.prog ZY 48 [.agg vs.toArray,.agg ws.toArray] H=some (.bool true,H')/\Zj H H':=by intro n;induction n with
 |zero=>intro t h;have:=Tg t;omega
 |succ n ih=>
  intro t ht Q Q' H vs ws hE hR hN hn;suffices hs:CW Tryz.prog ZY 48 [.agg vs.toArray,.agg ws.toArray] H fun v H'=>v= .bool true/\Zj H H' by obtain⟨v,H',hc,rfl,k⟩:=hs;exact⟨H',hc,k⟩
  obtain⟨op,s,N,D,bad,args⟩:=t;obtain⟨vn,vd,vx,rfl,h1,h2,h3⟩:=KB hE;obtain⟨wn,wd,wx,rfl,g1,g2,g3⟩:=KB hR;obtain⟨hz,bN,bD,hNs⟩:=hN;simp only[RT.nodes]at ht hn;obtain⟨len,Kt⟩:=hid (args.length);have Mb:=h3.len nO;have hwx:=g3.len nO;rw[<-Kt]at Mb hwx;have FV:=JN args;obtain⟨H2,e2,k2,n2,q0,q1⟩:=Xb H [.int .i64 op,.bool s,vn,vd,vx] [.int .i64 op,.bool s,wn,wd,wx];have gop:Zd .neq .i64 op op=some (.bool false):=by rw[SJ,decide_eq_false (by omega)]
  have gln:Zd .neq .i64 (len:Int) (len:Int)=some (.bool false):=by rw[SJ,decide_eq_false (by omega)]
  obtain⟨H3,c3,k3⟩:=Jz (op:=op) (s:=s) (vx:=vx) (wx:=wx) (h1.keep k2) (h2.keep k2) (g1.keep k2) (g2.keep k2) bN bD;have p0:=k3.q q0;have p1:=k3.q q1;refine Yd 43 Tryz.func48 ?_;apply Za;intro b1 Zf;simp[Value.cells,XV,e2];subst Zf;apply Zi;intro b1 Zf;apply Za;intro b2 ZT;simp[Ut,WX q0,WX q1,gop,W7,TR q0,Mb,TR q1,hwx,gln];subst ZT;refine Zb (t:=false) (by simp) ?_;apply Zr;subst Zf;apply Zi;intro b1 Zf;apply Za;intro b2 ZT;simp[Xp (H:=H2) q0 rfl,Xp (H:=H2) q1 rfl,c3];subst ZT;refine Zb (t:=false) (by simp) ?_;apply Zr;subst Zf;apply Zi;intro b1 Zf;apply Za;intro b2 ZT;simp[W7,TR p0,Mb];subst ZT;apply ZR;refine YS (fun n s'=>s'.k=43/\Zj H3 s'.H/\ ∃i:Nat,n+i=len/\s'.tm.get 2=some (.pointer (some ⟨H.n,0,none⟩))/\s'.tm.get 3=some (.pointer (some ⟨H.n+1,0,none⟩))/\s'.tm.get 26=some (.int .i64 (len:Int))/\s'.tm.get 27=some (.int .i64 (i:Int))) ?_ len _ ⟨rfl,.refl _,0,by omega,by simp,by simp,by simp,by simp⟩;rintro n' ⟨k,tm,Hc⟩ ⟨hk,kc,i,mO,u2,u3,u26,zD⟩ Q9 hQ9;simp only at hk kc u2 u3 u26 zD;subst hk;have HQ:=(k2.trans k3).trans kc;have n3:=k3.n;apply Za;intro b3 Z4;simp[u26,zD,KS];subst Z4;apply Zi;intro b3 Z4;by_cases hi:i<len;·refine Zb (t:=true) (by simp[hi]) ?_;apply Zr;subst Z4;obtain⟨ti,RV⟩: ∃ti,args[i]?=some ti:=⟨args[i]'(by omega),List.getElem?_eq_getElem (by omega)⟩;have mM:=V7 RV;obtain⟨p,us,Qm,Ku,hEi⟩:=h3.at RV nO UE GW;obtain⟨p',Pa,uL,vT,hRi⟩:=g3.at RV nO UE GW;have zZ:=HQ.trans (XD Hc);have Y1:=Ku Hc.top zZ;have hld':=vT Hc.top zZ;obtain⟨I1,c5,k5⟩:=ih ti (by omega) Q Q' Hc.top us Pa (hEi.keep zZ) (hRi.keep zZ) (F6 hNs RV) (by omega);have r0:=kc.q p0;have r1:=kc.q p1;apply Zi;intro b3 Z4;apply ZR;apply Za;intro b4 Yy;simp[zD];subst Yy;apply Zi;intro b4 Yy;apply Y8 (by kernel_rfl);simp[u2,W7];refine Z7 (v:=vx) rfl rfl rfl (by rw[Z1 rfl];simp[TR (H:=AH.top Hc) r0]) ?_;simp[Qm];refine Z7 (v:= .agg us.toArray) rfl rfl rfl (by rw[Z1 rfl];simp[Y1]) ?_;simp[u3,W7];refine Z7 (v:=wx) rfl rfl rfl (by rw[Z1 rfl];simp[TR (H:=AH.top Hc) r1]) ?_;simp[uL];refine Z7 (v:= .agg Pa.toArray) rfl rfl rfl (by rw[Z1 rfl];simp[hld']) ?_;simp;refine YJ (v:= .bool true) (H2:=I1) rfl rfl rfl (by rw[Z1 rfl];simp[c5]) k5.n (YD k5) ?_;simp;have kJ:Zj Hc (grown Hc I1):=Yo (.refl _) k5;subst Yy;refine Zb (t:=false) (by simp) ?_;apply Zr;simp[Yv];subst Z4;apply Zl;simp[zD,TL (x:=i) (by omega)];apply hQ9;exact⟨n'-1,by omega,rfl,kc.trans kJ,i+1,by omega,by simp[u2],by simp[u3],by simp[u26],by simp⟩
  ·refine Zb (t:=false) (by simp[hi]) ?_;apply YN;apply hQ9;left;refine⟨rfl,?_⟩;clear hQ9;subst Zf;apply Za;intro b1 Zf;simp;subst Zf;apply ZZ;simp;exact HQ
end
end
theorem cG{x y:Nat}(h:x<=y):Zd .gtr .i64 (x:Int) (y:Int)=some (.bool false):=by show some (Value.bool (decide ((x:Int)>(y:Int))))=_;rw[decide_eq_false (by omega)]
section
attribute [-simp] Int.natCast_add Int.natCast_mul Int.natCast_ediv Int.natCast_emod Int.natCast_pow
attribute [local simp] strip ZQ Xj LR gW ZF Ya ZX Yb ZJ Yc Zs Zt Zg ZI Z5 ZN ZB Zk ZH Zh Ze ZC ZD YW Zo Z6 YF Yw ZK plain ZM Tr.get_set Yu Zp Yq ZV sameKind undef Zv ZG Z3 Zu ZW parts Xw DW Yf Zw LX Zz
attribute [local simp] Zn ZL ZS Rf
section
variable {H : AH} {vs : List Value} {t : ET}
theorem Lb(h:TY H vs t)(FN:t.wt+64*t.nodes<=67108864):CW Tryz.prog ZY 12 [.agg vs.toArray] H fun v H'=>v= .bool true/\Zj H H':=by have hl:=h.ex.len;have hr:=h.rows;have hnd:=h.nodes;obtain⟨H2,e2,k2,n2,q0⟩:=Wc H vs;have K:=k2;have z0:=q0;obtain⟨b,H3,c3,k3⟩:=Dv (h.ex.keep K) h.nodes;have n3:=k3.n;have K:=K.trans k3;replace q0:=k3.q q0;have z3:=q0;refine Yd 132 Tryz.func12 ?_;apply Za;intro b1 Zf;simp[Value.cells,e2];subst Zf;apply Zi;intro b1 Zf;apply Za;intro b2 ZT;simp[Xp z0 hl,c3];subst ZT;cases b with
 |true=>obtain⟨H4,c4,k4⟩:=RS (hr.keep K);have n4:=k4.n;have K:=K.trans k4;replace q0:=k4.q q0;refine Zb (t:=true) (by simp) ?_;apply Za;intro b2 ZT;simp[c4];subst ZT;apply ZZ;simp[YQ];exact K
 |false=>
  refine Zb (t:=false) (by simp) ?_;apply Zr;subst Zf;obtain⟨C,hC⟩:=hid (X4 t);by_cases OL:X4 t=0
  ·have hg:=(QP OL).1;have MP:TreeOk H vs t:=⟨h,hg,by omega⟩;by_cases VA:t.fold.isUnd=true
   ·obtain⟨H6,c6,k6⟩:=Hy (MP.keep K) OL VA;have n6:=k6.n;have K:=K.trans k6;replace q0:=k6.q q0;obtain⟨H7,Qp,k7,q7,n7⟩:=Lm (H:=H6) (vs:=[.int .i64 0,.bool false,.slice none 0 0,.slice none 0 0,.slice none 0 0]) rfl rfl;have K:=K.trans k7;replace q0:=k7.q q0;have z7:=q0;obtain⟨fs,H8,c8,k8,hf⟩:=W1 (MP.keep K) OL;have n8:=k8.n;have K:=K.trans k8;replace q0:=k8.q q0;replace q7:=k8.q q7;have mU:=hf.ones;have Gv:=hf.len;obtain⟨H9,JM,k9,q9,n9⟩:=Ns (H:=H8) Gv mU;have K:=K.trans k9;replace q0:=k9.q q0;replace q7:=k9.q q7;have y9:=q9;obtain⟨EC,gS,UA⟩:=RS (hr.keep K);have nr:=UA.n;have K:=K.trans UA;replace q0:=UA.q q0;replace q7:=UA.q q7;replace q9:=UA.q q9;obtain⟨T,hT⟩:=hid (t.fold);rw[<-hT]at hf VA;obtain⟨p1,p2,p3,rfl,_⟩:=hf.trio;have gu:Zd .eql .i64 T.kind 2=some (.bool true):=by rw[SL,VA]
    have l9:=Vo y9;apply Za;intro b1 Zf;simp[Xp z3 hl,c6,Vj,Value.cells,Qp];subst Zf;apply Za;intro b1 Zf;simp[Xp z7 hl,c8,Xr,Value.cells,JM];subst Zf;apply Zi;intro b1 Zf;apply Za;intro b2 ZT;simp[Vh,show Zd .neq .i64 200 0=some (.bool true)from rfl];subst ZT;refine Zb (t:=true) (by simp) ?_;apply Za;intro b2 ZT;simp[Vh,show Zd .neq .i64 0 0=some (.bool false)from rfl,Ql,l9,gu,gS];subst ZT;apply ZZ;simp[YQ];exact K
   ·replace VA:t.fold.isUnd=false:=by simpa using VA
    have hR:=redd _ t (Nat.le_refl _) hg h.wide (by omega) VA;obtain⟨E,hE⟩:=hid (t.red.toE);rw[<-hE]at hR;have eN:=hR.nodes;have eD:=hR.depth;have eW:=hR.wt;have oR:=cq OL hR.good eN eD;have vN:=fO _ t (Nat.le_refl _) hg h.wide (by omega);have vD:=aw _ t (Nat.le_refl _);have fitT:=FD.fit_of (Nat.le_trans (O9 _ t (Nat.le_refl _) hg h.wide).2 (show t.wt<=67108864 by omega));obtain⟨xs,H6,c6,k6,hx⟩:=PD (MP.keep K) OL VA;have n6:=k6.n;have K:=K.trans k6;replace q0:=k6.q q0;have hxo:=hx.ones;have ia:xs.length=5:=hx.len;have K6:=K;have xw: ∀{G:AH},Zj H6 G->TreeOk G xs E:=fun{G} k=>⟨⟨by rw[hE];exact xK _ _ (Nat.le_refl _) xs (hx.keep k),hr.keep (K6.trans k),hR.wide,by omega⟩,hR.good,by omega⟩;obtain⟨H7,Qp,k7,q7,n7⟩:=Lm (H:=H6) ia hxo;have K:=K.trans k7;replace q0:=k7.q q0;have z7:=q0;obtain⟨fs,H8,c8,k8,hf⟩:=W1 (MP.keep K) OL;have n8:=k8.n;have K:=K.trans k8;replace q0:=k8.q q0;replace q7:=k8.q q7;have mU:=hf.ones;have Gv:=hf.len;obtain⟨H9,JM,k9,q9,n9⟩:=Ns (H:=H8) Gv mU;have K:=K.trans k9;replace q0:=k9.q q0;replace q7:=k9.q q7;have z9:=q7;have k69:=(k7.trans k8).trans k9;obtain⟨gs,EC,gS,UA,HR⟩:=W1 (xw k69) oR;have nr:=UA.n;have K:=K.trans UA;replace q0:=UA.q q0;replace q7:=UA.q q7;replace q9:=UA.q q9;rw[hR.fold]at HR;have hgo:=HR.ones;have ji:=HR.len;obtain⟨BD,rY,Te,ri,n11⟩:=Ns (H:=EC) ji hgo;have K:=K.trans Te;replace q0:=Te.q q0;replace q7:=Te.q q7;replace q9:=Te.q q9;have z11:=q7;have wT:=(k69.trans UA).trans Te;obtain⟨ys,lW,c12,NN,hy⟩:=PD (xw wT) oR (by rw[hR.fold];exact VA);have n12:=NN.n;have K:=K.trans NN;replace q0:=NN.q q0;replace q7:=NN.q q7;replace q9:=NN.q q9;replace ri:=NN.q ri;rw[hR.red]at hy;have hyo:=hy.ones;have hyl:ys.length=5:=hy.len;obtain⟨CN,st13,UL,q13,n13⟩:=Lm (H:=lW) hyl hyo;have K:=K.trans UL;replace q0:=UL.q q0;replace q7:=UL.q q7;replace q9:=UL.q q9;replace ri:=UL.q ri;have jz:=(wT.trans NN).trans UL;have uc:Fr H8 CN:=(((k9.trans UA).trans Te).trans (NN.trans UL)).fr;have oE:Fr EC CN:=(Te.trans (NN.trans UL)).fr;have hfT:=hf.fr uc;have hgT:=HR.fr oE;have hxT:=hx.keep jz;have hyT:=hy.keep UL;have loF: ∀{H:AH},H.blk H8.n= .rw 1 fs->Z9 Tryz.prog H 57 (.pointer (some ⟨H8.n,0,none⟩))=some (.agg fs.toArray):=fun h=>XW h Gv;have loG: ∀{H:AH},H.blk EC.n= .rw 1 gs->Z9 Tryz.prog H 57 (.pointer (some ⟨EC.n,0,none⟩))=some (.agg gs.toArray):=fun h=>XW h ji;have sM: ∀{H:AH},H.blk H6.n= .rw 1 xs->Z9 Tryz.prog H 53 (.pointer (some ⟨H6.n,0,none⟩))=some (.agg xs.toArray):=fun h=>Xp h ia;have loY: ∀{H:AH},H.blk lW.n= .rw 1 ys->Z9 Tryz.prog H 53 (.pointer (some ⟨lW.n,0,none⟩))=some (.agg ys.toArray):=fun h=>Xp h hyl;have loV: ∀{G:AH},G.blk H.n= .rw 1 vs->Z9 Tryz.prog G 53 (.pointer (some ⟨H.n,0,none⟩))=some (.agg vs.toArray):=fun h=>Xp h hl;have lo0: ∀{H:AH},ZU Tryz.prog ZY 13 [.int .i64 0] H=some (.int .i64 0,H):=Vh 0 _;have bg:=q0;have zJ:=q7;have q9a:=q9;have q11a:=ri;have q13a:=q13;have BF: ∀{J:AH}(k:Zj CN J){bits ms},(∀x∈ms,CN.n<=x.2.1)-> ∀b,b<CN.n->(PM J bits ms).blk b=CN.blk b:=fun k _ _ h b hb=>(Wb k h).blk b hb;obtain⟨BC,PT,XK⟩:=az (hfT.fr (XD _).fr) (hgT.fr (XD _).fr) fitT;obtain⟨TM,WE,VT,fc⟩:=cg XK;have WR:=VT;have KN:=WR.n;have K:=K.trans VT;obtain⟨CM,Jj,VU⟩:=Dn _ t.red (Nat.le_refl _) _ _ TM.top xs ys ((hxT.keep WR).keep (XD _)) ((hyT.keep WR).keep (XD _)) vN (by omega);obtain⟨XB,U3,Va,jI⟩:=cg VU;have Wf:=WR.trans Va;have Gf:=Wf.n;have K:=K.trans Va;obtain⟨Ia3,oP,JT⟩:=KM (xw ((jz.trans Wf).trans (XD _))).tin;obtain⟨Ja3,DY,FK,ma3⟩:=cg JT;have HK:=Wf.trans FK;have xo:=HK.n;have K:=K.trans FK;obtain⟨Ia4,da4,wR⟩:=KM (h.keep (K.trans (XD _)));obtain⟨Ja4,hJa4,wN,ma4⟩:=cg wR;have jS:=HK.trans wN;have nka4:=jS.n;have K:=K.trans wN;obtain⟨Ia5,da5,wQ⟩:=LC (xw ((jz.trans jS).trans (XD _))).tin;obtain⟨Ja5,hJa5,wM,ma5⟩:=cg wQ;have qw:=jS.trans wM;have nka5:=qw.n;have K:=K.trans wM;obtain⟨Ia6,da6,wP⟩:=LC (h.keep (K.trans (XD _)));obtain⟨Ja6,hJa6,wL,ma6⟩:=cg wP;have AK:=qw.trans wL;have nka6:=AK.n;have K:=K.trans wL;replace q0:=AK.q q0;replace q7:=AK.q q7;replace q9:=AK.q q9;have gN:=cG eN;have gD:=cG eD;have k6a:=jz.trans AK;obtain⟨lv,css,rG,c14,Ra,hP⟩:=Kg (xw k6a).tin oR;have n14:=Ra.n;have K:=K.trans Ra;replace q0:=Ra.q q0;replace q7:=Ra.q q7;replace q9:=Ra.q q9;obtain⟨hL,W9,hX⟩:=hP;have mG:=Jb E;have Mb:=hL.len nO;obtain⟨len,Kt⟩:=hid (css.length);rw[<-Kt]at Mb;have K14:=K;have oO:=show Zd .neq .i64 0 0=some (.bool false)from rfl;apply Za;intro b1 Zf;simp[Xp z3 hl,c6,Vj,Value.cells,Qp];subst Zf;apply Za;intro b1 Zf;simp[Xp z7 hl,c8,Xr,Value.cells,JM];subst Zf;apply Zi;intro b1 Zf;apply Za;intro b2 ZT;simp[Vh,oO];subst ZT;refine Zb (t:=false) (by simp) ?_;apply Zr;subst Zf;apply Za;intro b1 Zf;simp[sM z9,gS,Xr,Value.cells,rY];subst Zf;apply Za;intro b1 Zf;simp[sM z11,c12,Vj,Value.cells,st13];subst Zf;apply Zi;intro b1 Zf;apply Zi;intro b2 ZT;apply Y8 (by kernel_rfl);simp;refine WW (v:= .int .i64 0) (by simp[lo0]) ?_;simp[oO];refine WW (v:= .int .i64 0) (by simp[lo0]) ?_;simp[oO];refine WW (v:= .int .i64 0) (by simp[lo0]) ?_;simp[oO];refine WW (v:= .agg fs.toArray) (by simp[loF (H:=AH.top CN) q9a]) ?_;simp;refine WW (v:= .agg gs.toArray) (by simp[loG (H:=AH.top CN) q11a]) ?_;simp;refine XL (v:= .bool true) (VI.nil CN.n) XK WE (by simp[PT]) fun KP PK=>?_;simp;refine Z7 (v:= .agg xs.toArray) rfl rfl rfl (by simp[sM ((BF WR PK.ge _ (by omega)).trans zJ)]) ?_;simp;refine Z7 (v:= .agg ys.toArray) rfl rfl rfl (by simp[loY ((BF WR PK.ge _ (by omega)).trans q13a)]) ?_;simp;refine XL (v:= .bool true) PK VU U3 (by simp[Jj]) fun Gb PU=>?_;simp;refine Z7 (v:= .agg xs.toArray) rfl rfl rfl (by simp[sM ((BF Wf PU.ge _ (by omega)).trans zJ)]) ?_;simp;refine XL (v:= .int .i64 (E.nodes:Int)) PU JT DY (by simp[oP]) fun A2 Gt=>?_;simp;refine Z7 (v:= .agg vs.toArray) rfl rfl rfl (by simp[loV ((BF HK Gt.ge _ (by omega)).trans bg)]) ?_;simp;refine XL (v:= .int .i64 (t.nodes:Int)) Gt wR hJa4 (by simp[da4]) fun msa4 Ma4=>?_;simp[gN];refine Z7 (v:= .agg xs.toArray) rfl rfl rfl (by simp[sM ((BF jS Ma4.ge _ (by omega)).trans zJ)]) ?_;simp;refine XL (v:= .int .i64 (E.depth:Int)) Ma4 wQ hJa5 (by simp[da5]) fun msa5 Ma5=>?_;simp;refine Z7 (v:= .agg vs.toArray) rfl rfl rfl (by simp[loV ((BF qw Ma5.ge _ (by omega)).trans bg)]) ?_;simp;refine XL (v:= .int .i64 (t.depth:Int)) Ma5 wP hJa6 (by simp[da6]) fun msa6 Ma6=>?_;simp[gD];subst ZT;refine Zb (t:=false) (by simp) ?_;apply Zr;subst Zf;have z14:=AK.q zJ;apply Za;intro b1 Zf;simp[sM z14,c14];subst Zf;apply Zi;intro b1 Zf;apply Za;intro b2 ZT;simp[Vh,oO];subst ZT;refine Zb (t:=false) (by simp) ?_;apply Zr;subst Zf;apply Zi;intro b1 Zf;apply Za;intro b2 ZT;simp[Mb];subst ZT;apply ZR;refine YS (fun n s'=>s'.k=132/\ ∃(i:Nat),n+i=len/\Zj rG s'.H/\s'.tm.get 101=some lv/\s'.tm.get 102=some (.int .i64 (len:Int))/\s'.tm.get 103=some (.int .i64 (i:Int))) ?_ len _ ⟨rfl,0,by omega,.refl _,by simp,by simp,by simp⟩;rintro n' ⟨k,tm,Hc⟩ ⟨hk,i,mO,kc,kO,kN,gy⟩ Q' YA;simp only at hk kc kO kN gy;subst hk;apply Za;intro b3 Z4;simp[kN,gy,KS];subst Z4;apply Zi;intro b3 Z4;by_cases hi:i<len;·refine Zb (t:=true) (by simp[hi]) ?_;apply Zr;subst Z4;obtain⟨cs,Tk⟩: ∃cs,css[i]?=some cs:=⟨css[i]'(by omega),List.getElem?_eq_getElem (by omega)⟩;obtain⟨u,hu⟩: ∃u,E.subs[i]?=some u:=⟨E.subs[i]'(by omega),List.getElem?_eq_getElem (by omega)⟩;have zj:=hX i cs u Tk hu;obtain⟨f1,f2,f3,f4,f5,f6⟩:=EO E hR.fin u (List.mem_of_getElem? hu);have chkU:=cq OL (f4 hR.good) (by omega:u.nodes<=t.nodes) (by omega);obtain⟨b,hv,Qm,Le,hb,za,hd⟩:=hL.at Tk nO UE (by decide);have hlE:=Tm (H:=Hc) ((kc.blk _ Le).trans hb) (by decide) hd za GW UE;obtain⟨H17,st17,QK,sD,n17⟩:=Lm (H:=Hc) zj.len zj.ones;have qt:=kc.trans QK;have okU:TreeOk H17 cs u:=⟨⟨zj.keep qt,hr.keep (K14.trans qt),f5 hR.wide,by omega⟩,f4 hR.good,by omega⟩;obtain⟨ws,H18,c18,Bq,hw⟩:=W1 okU chkU;obtain⟨H19,rW,jy,q19,nu⟩:=Ns (H:=H18) hw.len hw.ones;have ns:=Bq.n;have q17':=((Bq.trans jy).blk _ (by omega)).trans sD;have kx:=(qt.trans Bq).trans jy;have l17:=Xp sD za;obtain⟨uop,un,ua,ud,ux⟩:=u;cases zj with
     |@mk _ _ va vd vx _ _ _ x1 x2 x3=>
      simp only[ET.fin]at f1;obtain⟨T,hT⟩:=hid ((ET.node uop un ua ud ux).fold);rw[<-hT]at f1 hw;obtain⟨w1,w2,w3,rfl,_⟩:=hw.trio;have gu:Zd .eql .i64 T.kind 2=some (.bool false):=by rw[SL,f1.1]
      have l15:=Vo q19;have l14:=WX q17';apply Zi;intro b3 Z4;apply ZR;apply Za;intro b4 Yy;simp[kO,gy,Qm,hlE,Vj,Value.cells,st17];subst Yy;apply Za;intro b4 Yy;simp[l17,c18,Xr,Value.cells,rW];subst Yy;apply Zi;intro b4 Yy;cases FQ:T.isRat with|true=>have h0:=f1.2.1 FQ;subst h0;apply Zl;simp[Vh,oO,Ql,l15,gu,HL,FQ,Ut,l14];subst Yy;refine Zb (t:=false) (by simp) ?_;apply Zr;simp[Yv];subst Z4;apply Zl;simp[gy,TL (x:=i) (by omega)];apply YA;exact⟨n'-1,by omega,rfl,i+1,by omega,kx,by simp[kO],by simp[kN],by simp⟩|false=>apply Zl;simp[Vh,oO,Ql,l15,gu,HL,FQ];subst Yy;refine Zb (t:=false) (by simp) ?_;apply Zr;simp[Yv];subst Z4;apply Zl;simp[gy,TL (x:=i) (by omega)];apply YA;exact⟨n'-1,by omega,rfl,i+1,by omega,kx,by simp[kO],by simp[kN],by simp⟩
    ·refine Zb (t:=false) (by simp[hi]) ?_;apply YN;apply YA;left;refine⟨rfl,?_⟩;clear YA;obtain⟨H33,c33,k33⟩:=RS (hr.keep (K14.trans kc));subst Zf;apply Za;intro b1 Zf;simp[c33];subst Zf;apply ZZ;simp;exact(K14.trans kc).trans k33
  ·skip;obtain⟨H6,c6,k6⟩:=Hw (h.keep K) OL;have n6:=k6.n;have K:=K.trans k6;replace q0:=k6.q q0;obtain⟨H7,Qp,k7,q7,n7⟩:=Lm (H:=H6) (vs:=[.int .i64 0,.bool false,.slice none 0 0,.slice none 0 0,.slice none 0 0]) rfl rfl;have K:=K.trans k7;replace q0:=k7.q q0;have z7:=q0;obtain⟨H8,c8,k8⟩:=Ke (h.keep K) OL;have n8:=k8.n;have K:=K.trans k8;rw[<-hC]at OL c6 c8;obtain⟨H9,JM,k9,q9,n9⟩:=Vb (H:=H8) (k:= .int .i64 0) (p:= .bool false) (q:= .slice none 0 0) (r:= .slice none 0 0) rfl;have K:=K.trans k9;obtain⟨EC,gS,UA⟩:=RS (hr.keep K);have nr:=UA.n;have K:=K.trans UA;have g0:Zd .neq .i64 (C:Int) 0=some (.bool true):=by rw[SJ,decide_eq_true (by omega)]
   apply Za;intro b1 Zf;simp[Xp z3 hl,c6,Vj,Value.cells,Qp];subst Zf;apply Za;intro b1 Zf;simp[Xp z7 hl,c8,Xr,Value.cells,JM];subst Zf;apply Zi;intro b1 Zf;apply Za;intro b2 ZT;simp[Vh,g0];subst ZT;refine Zb (t:=true) (by simp) ?_;apply Za;intro b2 ZT;simp[Vh,g0,gS];subst ZT;apply ZZ;simp[YQ];exact K
end
end
end
end Go.Proofs.YtmkfecoeghokfaaGreatDoor
namespace Go.Proofs.YtmkfecoeghokfaaGreatDoor
open Go.ChangeShapes Go.WideShapes Go.ChangeAt Go.RowKit Go.Proofs.YtmkfecoeghokfaaGreatDoor.Ev
set_option linter.unusedVariables false
set_option maxHeartbeats 2000000
set_option maxRecDepth 20000
theorem laidOut:laidOutB Tryz.prog=true:=by kernel_rfl
theorem JH{P:Program}(hl:laidOutB P=true){H:Type}{enc:TypeId×Value->H}{W W':World}(hb:Below W.heap.size W W'): ∀(ts:List TypeId)(vs:List Value)(ds:List (DataW H))(ps:List MemPlace),(ts.all fun t=>P.readableRec t&&decide (t<P.types.size))=true->DataW.TrodAll enc P W 0 (fun _=>true) true ts vs ds ps->(∀x∈ps,x.block<W.heap.size)->DataW.TrodAll enc P W' 0 (fun b=>decide (b<W.heap.size)) true ts vs ds ps|[],[],[],_,_,h,_=>h|t::ts,v::vs,d::ds,_,ht,⟨p,q,h1,h2,e⟩,YX=>by subst e;rw[List.all_cons,Bool.and_eq_true,Bool.and_eq_true]at ht;exact⟨p,q,Below.trod hl ht.1.1 (of_decide_eq_true ht.1.2) h1 hb (fun x hx=>YX x (List.mem_append_left _ hx)),JH hl hb ts vs ds q ht.2 h2 (fun x hx=>YX x (List.mem_append_right _ hx)),rfl⟩
end Go.Proofs.YtmkfecoeghokfaaGreatDoor
namespace Go.Proofs.YtmkfecoeghokfaaGreatDoor
open Go Go.ChangeShapes Go.WideShapes Go.RowKit Go.Proofs.YtmkfecoeghokfaaGreatDoor.Ev
set_option linter.unusedVariables false
noncomputable section
set_option maxHeartbeats 2000000
set_option maxRecDepth 20000
section
attribute [-simp] Int.natCast_add Int.natCast_mul Int.natCast_ediv Int.natCast_emod Int.natCast_pow
attribute [local simp] strip ZQ Xj gW ZF Ya ZX Yb ZJ Yc Zs Zt Zg ZI Z5 ZN ZB Zk ZH Zh Ze ZC ZD YW Zo Z6 YF Yw ZK plain ZM Tr.get_set Yu Zp Yq ZV sameKind undef Zv ZG Z3 Zu ZA Yh ZW parts Xw Zw Zn ZL ZS Xt Yg Zm ZP Zy ZO
theorem LH{H:Type}(d:DataW H):1<=Rows.uptoBulk d:=by cases d with|lit l=>cases l<;>simp[Rows.uptoBulk]|nil=>simp[Rows.uptoBulk]|ptr d=>simp[Rows.uptoBulk]|slice elems spare=>simp[Rows.uptoBulk]|agg parts=>simp[Rows.uptoBulk]|iface t d=>simp[Rows.uptoBulk]|map entries=>simp[Rows.uptoBulk]|held h=>simp[Rows.uptoBulk]
theorem cn{H:Type}(l:List (DataW H)):l.length<=Rows.uptoBulkAll l:=by induction l with|nil=>simp[Rows.uptoBulkAll]|cons x r ih=>have:=LH x;simp only[Rows.uptoBulkAll,List.length_cons];omega
theorem Di{H:Type}(elems spare:List (DataW H)):elems.length<=Rows.uptoBulk (.slice elems spare):=by have h1:=cn elems;simp only[Rows.uptoBulk];omega
theorem JG{H:Type}{d:DataW H}{l:List (DataW H)}(h:d∈l):Rows.uptoBulk d<=Rows.uptoBulkAll l:=by induction l with
 |nil=>cases h
 |cons x r ih=>simp only[Rows.uptoBulkAll];cases List.mem_cons.1 h with|inl e=>subst e;omega|inr e=>have:=ih e;omega
theorem Dh{H:Type}{l:List (DataW H)}(hk:Rows.uptoSmall H l=true):Rows.uptoBulkAll l<=1048576:=of_decide_eq_true hk
def CP(W:World)(v:Value)(xs:List Nat):Prop:=(v= .slice none 0 0/\xs=[])\/ ∃(a:Addr) (cap:Nat),v= .slice (some a) xs.length cap/\xs.length<=cap/\ ∀(i x:Nat),xs[i]?=some x->W.cell? (a.add i)=some (.int .u64 (x:Int))
theorem cU64:Tryz.prog.cellsOf 101=1:=by kernel_rfl
theorem CI{W:World}{S:Nat->Prop}{L:Nat->Ev.Loc}{H:AH}(hI:Inv W.heap.size S L H W){v:Value}{xs:List Nat}(h:CP W v xs): ∃(S':Nat->Prop) (L':Nat->Ev.Loc) (H':AH) (v0:Value),Inv W.heap.size S' L' H' W/\(∀i,S i->S' i)/\(∀i,S i->L' i=L i)/\VR S' L' v0 v/\Sl H' v0 xs/\Zj H H':=by
 rcases h with⟨rfl,rfl⟩|⟨a,cap,rfl,py,hc⟩;·exact⟨S,L,H,.slice none 0 0,hI,fun _ h=>h,fun _ _=>rfl,.nilSlice,.nil,.refl H⟩
 ·by_cases h0:xs.length=0;·obtain rfl:xs=[]:=List.length_eq_zero_iff.mp h0;exact⟨S,L,H,_,hI,fun _ h=>h,fun _ _=>rfl,.emp 0 a cap,.emp 0,.refl H⟩
  ·have Lx:=hc 0 xs[0] (List.getElem?_eq_getElem (by omega));have ea:a.add 0=a:=rfl;rw[ea]at Lx;have Qf:a.spot=none:=by unfold World.cell? at Lx;cases hs:a.spot with
    |none=>rfl
    |some q=>
     rw[hs]at Lx;split at Lx;·simp at Lx
     ·cases Lx
   have Wa:a.block<W.heap.size:=World.block_lt_of_cell? W a Lx;have pn: ∀k,a.add k=⟨a.block,a.off+k,none⟩:=fun k=>by
    unfold Addr.add;by_cases hk:k=0;·subst hk;rw[if_pos rfl];cases a with|mk b o s=>simp at Qf;subst Qf;rfl
    ·rw[if_neg hk]
   have hn: ∀i,S i->i≠H.n:=fun i hi e=>by have:=hI.bd i hi;omega
   let L':Nat->Ev.Loc:=fun i=>if i=H.n then⟨a.block,a.off,1,a.off+cap⟩else L i;let S':Nat->Prop:=fun i=>i=H.n\/S i;have hL: ∀i,S i->L' i=L i:=fun i hi=>if_neg (hn i hi);have gM:L' H.n=⟨a.block,a.off,1,a.off+cap⟩:=if_pos rfl;let H':AH:= { n:=H.n+1,lw:=H.lw,t:=H.t.set H.n (.ro 1 (xs.map fun x:Nat=>Value.int .u64 (x:Int))) };have hb: ∀j,H'.blk j=if j=H.n then .ro 1 (xs.map fun x:Nat=>Value.int .u64 (x:Int))else H.blk j:=fun j=>by
    show(match(H.t.set H.n _).get j with|some b=>b|none=>Qj.dead)=_;rw[Tr.get_set];by_cases e:j=H.n;·rw[if_pos e,if_pos e]
    ·rw[if_neg e,if_neg e];rfl
   refine⟨S',L',H',.slice (some ⟨H.n,0,none⟩) xs.length xs.length,⟨?_,?_,?_,?_,hI.base⟩,fun i hi=> .inr hi,hL,?_,?_,?_⟩
   ·intro i sz cs hi;rw[hb]at hi;by_cases e:i=H.n;·rw[if_pos e]at hi;cases hi;subst e;rw[gM];refine⟨.inl rfl,Wa,rfl,fun k v hk=>?_⟩;rw[List.getElem?_map]at hk;cases hxk:xs[k]? with|none=>rw[hxk]at hk;cases hk|some x=>rw[hxk]at hk;cases hk;refine⟨.int .u64 (x:Int),?_,.int _ _⟩;have:=hc k x hxk;rwa[pn k]at this
    ·rw[if_neg e]at hi;obtain⟨h1,h2,h3,h4⟩:=hI.ro i sz cs hi;rw[hL i h1];refine⟨.inr h1,h2,h3,fun k v hk=>?_⟩;obtain⟨v',h5,h6⟩:=h4 k v hk;exact⟨v',h5,h6.mono (fun _ h=> .inr h) hL⟩
   ·intro i sz cs hi;rw[hb]at hi;by_cases e:i=H.n;·rw[if_pos e]at hi;cases hi
    ·rw[if_neg e]at hi;obtain⟨h1,h2,h3,C,e',h4,h5,h6⟩:=hI.rw i sz cs hi;rw[hL i h1];refine⟨.inr h1,h2,h3,C,e',h4,h5,fun k v hk=>?_⟩;obtain⟨v',h7,h8⟩:=h6 k v hk;exact⟨v',h7,h8.mono (fun _ h=> .inr h) hL⟩
   ·intro i j sz cs Vx cs' hi hj hg;rw[hb]at hi hj;by_cases e:i=H.n;·rw[if_pos e]at hi;cases hi
    ·by_cases e2:j=H.n;·rw[if_pos e2]at hj;cases hj
     ·rw[if_neg e]at hi;rw[if_neg e2]at hj;rw[hL i (hI.rw i _ _ hi).1,hL j (hI.rw j _ _ hj).1]at hg;exact hI.dj i j _ _ _ _ hi hj hg
   ·intro i hi;rcases hi with hi|hi;·subst hi;exact Nat.lt_succ_self _
    ·exact Nat.lt_succ_of_lt (hI.bd i hi)
   ·have hv:=VR.slice (S:=S') (L:=L') H.n 0 xs.length xs.length cap (.inl rfl) py (Nat.le_refl _) (by rw[gM];simp);rw[gM]at hv;have e:(some (⟨a.block,a.off+0,none⟩:Addr))=some a:=by congr 1;cases a with|mk b o s=>simp at Qf;subst Qf;rfl
    rw[e]at hv;exact hv
   ·refine .mk H.n 0 xs.length xs (Nat.le_refl _) ⟨Nat.lt_succ_self _,xs.map fun x:Nat=>Value.int .u64 (x:Int),?_,?_,fun i x hx=>?_,Nat.zero_le _⟩;·unfold AH.cells;rw[hb,if_pos rfl]
    ·unfold AH.size;rw[hb,if_pos rfl]
    ·rw[Nat.zero_add,List.getElem?_map,hx];rfl
   ·exact⟨Nat.le_succ _,Nat.min_le_left _ _,fun j hj=>by rw[hb,if_neg (by omega)]⟩
end
section
attribute [-simp] Int.natCast_add Int.natCast_mul Int.natCast_ediv Int.natCast_emod Int.natCast_pow
attribute [local simp] strip ZQ Xj LR gW ZF Ya ZX Yb ZJ Yc Zs Zt Zg ZI Z5 ZN ZB Zk ZH Zh Ze ZC ZD YW Zo Z6 YF Yw ZK plain ZM Tr.get_set Yu Zp Yq ZV sameKind undef Zv ZG Z3 Zu ZA Yh ZW parts ZE Xw DW Yf Zw LX Zz Zn ZL ZS Xt Yg Zm ZP Zy ZO
mutual inductive WEx(W:World):List Value->ET->Prop|mk{op:Int}{neg:Bool}{va vd vx:Value}{abs den:List Nat}{args:List ET} :CP W va abs->CP W vd den->WXs W vx args->WEx W [.int .i64 op,.bool neg,va,vd,vx] (.node op neg abs den args) inductive WXs(W:World):Value->List ET->Prop|nil:WXs W (.slice none 0 0) []|mk(a:Addr)(cap:Nat){args:List ET}(F:Nat->List Value):args.length<=cap->(∀i,i<args.length->W.cells? 0 (a.add (i*5)) 5=some (F i))->(∀(i:Nat)(t:ET),args[i]?=some t->WEx W (F i) t)->WXs W (.slice (some a) args.length cap) args end
instance:Inhabited ET:=⟨.node 0 false [] [] []⟩
theorem P5{H:Type}{enc:TypeId×Value->H}{W:World}{t:TypeId}{fuel:Nat}{cs:List Value}{x:DataW H×List MemPlace}(ht:Tryz.prog.underlying t=some (.slice 101))(hf:DataW.trod enc Tryz.prog W 0 (fun _=>true) true fuel t cs=some x): ∃v xs,cs=[v]/\YH 18446744073709551616 xs/\xs.length<=Rows.uptoBulk x.1/\CP W v xs:=by
 rcases Deep.open_slice1 ht cU64 hf with⟨h1,h2⟩|⟨a',eS,Vm,m,n,V,D,Pl,h1,_,hl,_,hm,hx,hV⟩;·exact⟨_,[],h1,.nil _,Nat.zero_le _,.inl ⟨rfl,rfl⟩⟩
 ·rw[if_pos rfl]at hm;rw[hm]at hx hV;have hval: ∀i,i<Vm-> ∃x:Nat,V i= .int .u64 (x:Int)/\x<18446744073709551616:=fun i hi=>by
   obtain⟨n',c',x',w'⟩:=DataW.trod_int Tryz.underlying101 (hV i hi).2;simp at c';simp only[Lit.wf,Bool.and_eq_true,decide_eq_true_eq]at w';have e1:IntKind.u64.min=0:=by decide
   have e2:IntKind.u64.max=18446744073709551615:=by decide
   exact⟨n'.toNat,by rw[c'];congr 1;omega,by omega⟩
  let f:Nat->Nat:=fun i=>match V i with| .int _ z=>z.toNat|_=>0;have FZ: ∀i,i<Vm->V i= .int .u64 ((f i:Nat):Int)/\f i<18446744073709551616:=fun i hi=>by
   obtain⟨x,h1,h2⟩:=hval i hi;have:f i=x:=by show(match V i with| .int _ z=>z.toNat|_=>0)=x;rw[h1];simp
   rw[this];exact⟨h1,h2⟩
  refine⟨_,(List.range eS).map f,h1,?_,?_,.inr ⟨a',Vm,by simp,by simpa using hl,?_⟩⟩;·intro x hx;obtain⟨i,hi,rfl⟩:=List.mem_map.mp hx;exact(FZ i (Nat.lt_of_lt_of_le (List.mem_range.mp hi) hl)).2
  ·rw[hx];have:=Di ((List.range eS).map D) ((List.range (Vm-eS)).map fun j=>D (eS+j));simpa using this
  ·intro i x hi;rw[List.getElem?_map]at hi;by_cases mS:i<eS;·rw[List.getElem?_range mS]at hi;cases hi;have hic:i<Vm:=Nat.lt_of_lt_of_le mS hl;rw[(hV i hic).1,(FZ i hic).1]
   ·rw[List.getElem?_eq_none (by simp;omega)]at hi;cases hi
theorem nP: ∃f0 f1 f2,Tryz.prog.underlying 53=some (.struct #[f0,f1,f2])/\f0.type=50/\f0.offset=0/\f1.type=34/\f1.offset=1/\f2.type=51/\f2.offset=4:=⟨_,_,_,Tryz.underlying53,rfl,rfl,rfl,rfl,rfl,rfl⟩
theorem rL: ∃f0 f1,Tryz.prog.underlying 34=some (.struct #[f0,f1])/\f0.type=32/\f0.offset=0/\f1.type=30/\f1.offset=2:=⟨_,_,Tryz.underlying34,rfl,rfl,rfl,rfl⟩
theorem rK: ∃f0 f1,Tryz.prog.underlying 32=some (.struct #[f0,f1])/\f0.type=4/\f0.offset=0/\f1.type=30/\f1.offset=1:=⟨_,_,Tryz.underlying32,rfl,rfl,rfl,rfl⟩
theorem mh:Tryz.prog.cellsOf 53=5:=by kernel_rfl
theorem oU:Tryz.prog.cellsOf 34=3:=by kernel_rfl
theorem oT:Tryz.prog.cellsOf 32=2:=by kernel_rfl
theorem tO:Tryz.prog.cellsOf 30=1:=by kernel_rfl
theorem tP:Tryz.prog.cellsOf 4=1:=by kernel_rfl
theorem oV:Tryz.prog.cellsOf 51=1:=by kernel_rfl
theorem Nu{H:Type}{f:Nat->ET}{D:Nat->DataW H} : ∀(l:List Nat),(∀i∈l,(f i).nodes<=Rows.uptoBulk (D i))->Z0 (l.map f)<=Rows.uptoBulkAll (l.map D)|[],_=>Nat.le_refl _|i::l,h=>by have h1:=h i (List.mem_cons_self ..);have h2:=Nu l fun j hj=>h j (List.mem_cons_of_mem _ hj);simp only[List.map_cons,Z0,Rows.uptoBulkAll];omega
theorem M7{f:Nat->ET}{L:Nat} : ∀(l:List Nat),(∀i∈l,(f i).wide L)->UC L (l.map f)|[],_=>trivial|i::l,h=>⟨h i (List.mem_cons_self ..),M7 l fun j hj=>h j (List.mem_cons_of_mem _ hj)⟩
end
theorem Jg{H:Type}{f:Nat->ET}{D:Nat->DataW H} : ∀(l:List Nat),(∀i∈l,(f i).wt+64*(f i).nodes<=64*Rows.uptoBulk (D i))->Vy (l.map f)+64*Z0 (l.map f)<=64*Rows.uptoBulkAll (l.map D)|[],_=>Nat.zero_le _|i::l,h=>by have h1:=h i (List.mem_cons_self ..);have h2:=Jg l fun j hj=>h j (List.mem_cons_of_mem _ hj);simp only[List.map_cons,Vy,Z0,Rows.uptoBulkAll];omega
theorem Ce{H:Type}{enc:TypeId×Value->H}{W:World} : ∀(N:Nat)(d:DataW H),Rows.uptoBulk d<=N-> ∀(fuel:Nat)(cs:List Value)(ps:List MemPlace),DataW.trod enc Tryz.prog W 0 (fun _=>true) true fuel 53 cs=some (d,ps)-> ∃t:ET,WEx W cs t/\(∀L,Rows.uptoBulk d<=L->t.wide L)/\t.nodes<=Rows.uptoBulk d/\t.wt+64*t.nodes<=64*Rows.uptoBulk d:=by intro N;induction N with
 |zero=>intro d hd;have:=LH d;omega
 |succ N ih=>
  intro d hd fuel cs ps h;obtain⟨f0,f1,f2,hu,e1,e2,e3,e4,e5,e6⟩:=nP;obtain⟨y0,y1,y2,n,hx,hl,h0,h1,h2⟩:=Deep.trod_struct3 hu h;rw[e1,e2,cOp]at h0;rw[e3,e4,oU]at h1;rw[e5,e6,oV]at h2;rw[mh]at hl;obtain⟨g0,g1,Jo,i1,i2,i3,i4⟩:=rL;obtain⟨z0,z1,n2,hx2,Gy,j0,j1⟩:=trod_struct2 Jo h1;rw[i1,i2,oT]at j0;rw[i3,i4,tO]at j1;obtain⟨k0,k1,hu3,m1,m2,m3,m4⟩:=rK;obtain⟨w0,w1,n3,hx3,so,q0,q1⟩:=trod_struct2 hu3 j0;rw[m1,m2,tP]at q0;rw[m3,m4,tO]at q1;obtain⟨op,c0,x0,_⟩:=DataW.trod_int uOp h0;obtain⟨neg,cb,xb⟩:=DataW.trod_bool Tryz.underlying4 q0;obtain⟨va,abs,ca,da,la,ra⟩:=P5 rM q1;obtain⟨vd,den,cd,dd,ld,rd⟩:=P5 rM j1;simp only[Prod.mk.injEq]at hx;obtain⟨hxd,_⟩:=hx;have Zf:Rows.uptoBulk w1.1+1<=Rows.uptoBulk z0.1:=by rw[hx3];simp only[Rows.uptoBulk,Rows.uptoBulkAll];omega
  have ZT:Rows.uptoBulk z0.1+Rows.uptoBulk z1.1+1<=Rows.uptoBulk y1.1:=by rw[hx2];simp only[Rows.uptoBulk,Rows.uptoBulkAll];omega
  have Z4:Rows.uptoBulk y1.1+Rows.uptoBulk y2.1+1<=Rows.uptoBulk d:=by rw[hxd];simp only[Rows.uptoBulk,Rows.uptoBulkAll];omega
  match cs,hl with
   |[a0,a1,a2,a3,a4],_=>
    simp at c0 cb ca cd h2;subst c0;subst cb;subst ca;subst cd;have u:Tryz.prog.underlying 51=some (.slice 53):=by kernel_rfl
    rcases Deep.open_slice u h2 with⟨p1,p2⟩|⟨a,len,cap,m,nn,D,Pl,p1,_,hlc,_,hm,p2,hV⟩
    ·cases p1;refine⟨.node op neg abs den [],.mk ra rd .nil,fun L hL=>⟨by omega,by omega,da,dd,trivial⟩,?_,?_⟩;·simp only[ET.nodes,Z0];have:=LH d;omega
     ·simp only[ET.wt,Vy,ET.nodes,Z0];split<;>omega
    ·cases p1;rw[if_pos rfl]at hm;subst hm;rw[mh]at hV p2;have Yy:Rows.uptoBulkAll ((List.range len).map D)+1<=Rows.uptoBulk y2.1:=by rw[p2];simp only[Rows.uptoBulk];omega
     obtain⟨F,hF⟩:=Deep.choose_lt (α:=List Value×ET) (n:=len) (p:=fun i q=>W.cells? 0 (a.add (i*5)) 5=some q.1/\WEx W q.1 q.2/\(∀L,Rows.uptoBulk (D i)<=L->q.2.wide L)/\q.2.nodes<=Rows.uptoBulk (D i)/\q.2.wt+64*q.2.nodes<=64*Rows.uptoBulk (D i)) (fun i hi=>by obtain⟨cs',s1,s2⟩:=hV i (Nat.lt_of_lt_of_le hi hlc);have yG:Rows.uptoBulk (D i)<=Rows.uptoBulkAll ((List.range len).map D):=JG (List.mem_map.mpr ⟨i,List.mem_range.mpr hi,rfl⟩);obtain⟨t,t1,t2,t3,t4⟩:=ih (D i) (by omega) _ _ _ s2;exact⟨(cs',t),s1,t1,t2,t3,t4⟩);have hlen:((List.range len).map fun i=>(F i).2).length=len:=by simp
     have hw:WXs W (.slice (some a) ((List.range len).map fun i=>(F i).2).length m) ((List.range len).map fun i=>(F i).2):=by
      refine .mk a m (fun i=>(F i).1) (by rw[hlen];exact hlc) (fun i hi=>(hF i (by rwa[hlen]at hi)).1) (fun i t ht=>?_);have hi:i<len:=by
       rcases Nat.lt_or_ge i len with h|h;·exact h
       ·rw[List.getElem?_eq_none (by rw[hlen];exact h)]at ht;cases ht
      rw[List.getElem?_map,List.getElem?_range hi]at ht;cases ht;exact(hF i hi).2.1
     rw[hlen]at hw;refine⟨.node op neg abs den ((List.range len).map fun i=>(F i).2),.mk ra rd hw,fun L hL=>⟨by omega,by omega,da,dd,M7 _ fun i hi=>?_⟩,?_,?_⟩;·have hi:=List.mem_range.mp hi;have yG:Rows.uptoBulk (D i)<=Rows.uptoBulkAll ((List.range len).map D):=JG (List.mem_map.mpr ⟨i,List.mem_range.mpr hi,rfl⟩);exact(hF i hi).2.2.1 L (by omega)
     ·have:=Nu (D:=D) (f:=fun i=>(F i).2) (List.range len) fun i hi=>(hF i (List.mem_range.mp hi)).2.2.2.1;simp only[ET.nodes];omega
     ·have:=Jg (D:=D) (f:=fun i=>(F i).2) (List.range len) fun i hi=>(hF i (List.mem_range.mp hi)).2.2.2.2;simp only[ET.wt,ET.nodes];split<;>omega
section
attribute [-simp] Int.natCast_add Int.natCast_mul Int.natCast_ediv Int.natCast_emod Int.natCast_pow
attribute [local simp] strip ZQ Xj LR gW ZF Ya ZX Yb ZJ Yc Zs Zt Zg ZI Z5 ZN ZB Zk ZH Zh Ze ZC ZD YW Zo Z6 YF Yw ZK plain ZM Tr.get_set Yu Zp Yq ZV sameKind undef Zv ZG Z3 Zu ZA Yh ZW parts ZE Xw DW Yf Zw LX Zz Zn ZL ZS Xt Yg Zm ZP Zy ZO
theorem B1{W:World}{S:Nat->Prop}{L:Nat->Ev.Loc}{H:AH}(hI:Inv W.heap.size S L H W){g o sz cap:Nat}{cs cs':List Value}(hg:g<W.heap.size)(hc: ∀(k:Nat)(v':Value),cs'[k]?=some v'->W.cell? ⟨g,o+k,none⟩=some v')(hv:UX S L cs cs'): ∃(S':Nat->Prop) (L':Nat->Ev.Loc) (H':AH),Inv W.heap.size S' L' H' W/\(∀i,S i->S' i)/\(∀i,S i->L' i=L i)/\Zj H H'/\H'.cells H.n=some cs/\S' H.n/\L' H.n=⟨g,o,sz,o+cap*sz⟩/\H'.n=H.n+1:=by
 have hn: ∀i,S i->i≠H.n:=fun i hi e=>by have:=hI.bd i hi;omega
 let L':Nat->Ev.Loc:=fun i=>if i=H.n then⟨g,o,sz,o+cap*sz⟩else L i;let S':Nat->Prop:=fun i=>i=H.n\/S i;have hL: ∀i,S i->L' i=L i:=fun i hi=>if_neg (hn i hi);have gM:L' H.n=⟨g,o,sz,o+cap*sz⟩:=if_pos rfl;let H':AH:= { n:=H.n+1,lw:=H.lw,t:=H.t.set H.n (.ro sz cs) };have hb: ∀j,H'.blk j=if j=H.n then .ro sz cs else H.blk j:=fun j=>by
  show(match(H.t.set H.n _).get j with|some b=>b|none=>Qj.dead)=_;rw[Tr.get_set];by_cases e:j=H.n;·rw[if_pos e,if_pos e]
  ·rw[if_neg e,if_neg e];rfl
 refine⟨S',L',H',⟨?_,?_,?_,?_,hI.base⟩,fun i hi=> .inr hi,hL,?_,?_,.inl rfl,gM,rfl⟩
 ·intro i Db cs2 hi;rw[hb]at hi;by_cases e:i=H.n;·rw[if_pos e]at hi;cases hi;subst e;rw[gM];refine⟨.inl rfl,hg,rfl,fun k v hk=>?_⟩;obtain⟨v',h1,h2⟩:=hv.get hk;exact⟨v',hc k v' h1,h2.mono (fun _ h=> .inr h) hL⟩
  ·rw[if_neg e]at hi;obtain⟨h1,h2,h3,h4⟩:=hI.ro i Db cs2 hi;rw[hL i h1];refine⟨.inr h1,h2,h3,fun k v hk=>?_⟩;obtain⟨v',h5,h6⟩:=h4 k v hk;exact⟨v',h5,h6.mono (fun _ h=> .inr h) hL⟩
 ·intro i Db cs2 hi;rw[hb]at hi;by_cases e:i=H.n;·rw[if_pos e]at hi;cases hi
  ·rw[if_neg e]at hi;obtain⟨h1,h2,h3,C,e',h4,h5,h6⟩:=hI.rw i Db cs2 hi;rw[hL i h1];refine⟨.inr h1,h2,h3,C,e',h4,h5,fun k v hk=>?_⟩;obtain⟨v',h7,h8⟩:=h6 k v hk;exact⟨v',h7,h8.mono (fun _ h=> .inr h) hL⟩
 ·intro i j Db cs2 Vx cs' hi hj hg;rw[hb]at hi hj;by_cases e:i=H.n;·rw[if_pos e]at hi;cases hi
  ·by_cases e2:j=H.n;·rw[if_pos e2]at hj;cases hj
   ·rw[if_neg e]at hi;rw[if_neg e2]at hj;rw[hL i (hI.rw i _ _ hi).1,hL j (hI.rw j _ _ hj).1]at hg;exact hI.dj i j _ _ _ _ hi hj hg
 ·intro i hi;rcases hi with hi|hi;·subst hi;exact Nat.lt_succ_self _
  ·exact Nat.lt_succ_of_lt (hI.bd i hi)
 ·exact⟨Nat.le_succ _,Nat.min_le_left _ _,fun j hj=>by rw[hb,if_neg (by omega)]⟩
 ·unfold AH.cells;rw[hb,if_pos rfl]
theorem Kj{G:Nat->List Value} : ∀m,(∀i,i<m->(G i).length=5)->(((List.range m).map G).flatten).length=m*5|0,_=>rfl|m+1,h=>by rw[List.range_succ,List.map_append,List.flatten_append,List.length_append,Kj m fun i hi=>h i (by omega)];simp[h m (by omega)];omega
theorem Fj{G:Nat->List Value} : ∀m,(∀i,i<m->(G i).length=5)-> ∀i,i<m->((((List.range m).map G).flatten).drop (i*5)).take 5=G i
 |0,_,i,hi=>absurd hi (Nat.not_lt_zero i)
 |m+1,h,i,hi=>by
  have hl:=Kj m fun i hi=>h i (by omega);rw[List.range_succ,List.map_append,List.flatten_append];by_cases e:i=m;·subst e;rw[List.drop_append_of_le_length (by omega),List.drop_of_length_le (by omega),List.nil_append];simp only[List.map_cons,List.map_nil,List.flatten_cons,List.flatten_nil,List.append_nil];rw[List.take_of_length_le (by rw[h i (by omega)];omega)]
  ·rw[List.drop_append_of_le_length (by omega),List.take_append_of_le_length (by rw[List.length_drop];omega)];exact Fj m (fun i hi=>h i (by omega)) i (by omega)
theorem Ki{W:World}{a:Addr}(Qf:a.spot=none){F:Nat->List Value} : ∀m,(∀i,i<m->W.cells? 0 (a.add (i*5)) 5=some (F i))-> ∀(k:Nat)(v':Value),(((List.range m).map F).flatten)[k]?=some v'->W.cell? ⟨a.block,a.off+k,none⟩=some v'
 |0,_,k,v',hk=>by simp at hk
 |m+1,h,k,v',hk=>by
  have pn: ∀k,a.add k=⟨a.block,a.off+k,none⟩:=fun k=>by
   unfold Addr.add;by_cases hk:k=0;·subst hk;rw[if_pos rfl];cases a with|mk b o s=>simp at Qf;subst Qf;rfl
   ·rw[if_neg hk]
  have hF: ∀i,i<m+1->(F i).length=5:=fun i hi=>(World.cells?_some (h i hi)).2.1;have hl:=Kj m fun i hi=>hF i (by omega);rw[List.range_succ,List.map_append,List.flatten_append]at hk;by_cases e:k<m*5;·rw[List.getElem?_append_left (by omega)]at hk;exact Ki Qf m (fun i hi=>h i (by omega)) k v' hk
  ·rw[List.getElem?_append_right (by omega),hl]at hk;simp only[List.map_cons,List.map_nil,List.flatten_cons,List.flatten_nil,List.append_nil]at hk;obtain⟨_,_,h3⟩:=World.cells?_some (h m (by omega));have hj:k-m*5<5:=by
    rcases Nat.lt_or_ge (k-m*5) 5 with h'|h';·exact h'
    ·rw[List.getElem?_eq_none (by rw[hF m (by omega)];exact h')]at hk;cases hk
   have:=h3 (k-m*5) hj;rw[hk,Deep.add_add,pn,show m*5+(k-m*5)=k by omega]at this;exact this
theorem GX{S:Nat->Prop}{L:Nat->Ev.Loc}{G F:Nat->List Value} : ∀m,(∀i,i<m->UX S L (G i) (F i))->UX S L ((List.range m).map G).flatten ((List.range m).map F).flatten|0,_=> .nil|m+1,h=>by rw[List.range_succ,List.map_append,List.flatten_append,List.map_append,List.flatten_append];refine(GX m fun i hi=>h i (by omega)).append ?_;simpa using h m (by omega)
theorem bS{W:World} : ∀(N:Nat)(t:ET),t.nodes<=N-> ∀(cs:List Value),WEx W cs t-> ∀{S:Nat->Prop}{L:Nat->Ev.Loc}{H:AH},Inv W.heap.size S L H W-> ∃(S':Nat->Prop) (L':Nat->Ev.Loc) (H':AH) (vs:List Value),Inv W.heap.size S' L' H' W/\(∀i,S i->S' i)/\(∀i,S i->L' i=L i)/\UX S' L' vs cs/\Ex H' vs t/\Zj H H':=by intro N;induction N with
 |zero=>intro t h;have:=Xn t;omega
 |succ N ih=>intro t ht cs hw S L H hI;cases hw with
  |@mk op neg va vd vx abs den args ra rd rx=>
   simp only[ET.nodes]at ht;obtain⟨S1,L1,H1,wa,I1,s1,l1,r1,q1,k1⟩:=CI hI ra;obtain⟨S2,L2,H2,wd,I2,s2,l2,r2,q2,k2⟩:=CI I1 rd;suffices hx: ∃(S':Nat->Prop) (L':Nat->Ev.Loc) (H':AH) (wx:Value),Inv W.heap.size S' L' H' W/\(∀i,S2 i->S' i)/\(∀i,S2 i->L' i=L2 i)/\VR S' L' wx vx/\Xs H' wx args/\Zj H2 H' by obtain⟨S3,L3,H3,wx,I3,s3,l3,r3,q3,k3⟩:=hx;refine⟨S3,L3,H3,[.int .i64 op,.bool neg,wa,wd,wx],I3,fun i h=>s3 i (s2 i (s1 i h)),fun i h=>by rw[l3 i (s2 i (s1 i h)),l2 i (s1 i h),l1 i h],?_,.mk (q1.keep (k2.trans k3)) (q2.keep k3) q3,(k1.trans k2).trans k3⟩;exact .cons (.int .i64 op) (.cons (.bool neg) (.cons ((r1.mono s2 l2).mono s3 l3) (.cons (r2.mono s3 l3) (.cons r3 .nil))))
   cases rx with
    |nil=>exact⟨S2,L2,H2,.slice none 0 0,I2,fun _ h=>h,fun _ _=>rfl,.nilSlice,.nil,.refl _⟩
    |mk a cap F py hF hE=>
     by_cases h0:args.length=0;·obtain rfl:args=[]:=List.length_eq_zero_iff.mp h0;exact⟨S2,L2,H2,.slice (some ⟨0,0,some 0⟩) 0 0,I2,fun _ h=>h,fun _ _=>rfl,.emp 0 a cap,.emp 0,.refl _⟩
     ·have vy: ∀i,i<args.length->args[i]?=some (args.getD i default):=fun i hi=>by rw[List.getElem?_eq_getElem hi];simp[List.getD,List.getElem?_eq_getElem hi]
      have key: ∀m,m<=args.length-> ∃(S':Nat->Prop) (L':Nat->Ev.Loc) (H':AH) (G:Nat->List Value),Inv W.heap.size S' L' H' W/\(∀i,S2 i->S' i)/\(∀i,S2 i->L' i=L2 i)/\(∀i,i<m->UX S' L' (G i) (F i)/\Ex H' (G i) (args.getD i default))/\Zj H2 H':=by intro m;induction m with
       |zero=>intro _;exact⟨S2,L2,H2,fun _=>[],I2,fun _ h=>h,fun _ _=>rfl,fun i hi=>absurd hi (Nat.not_lt_zero i),.refl _⟩
       |succ m ihm=>
        intro hm;obtain⟨S3,L3,H3,G,I3,s3,l3,g3,k3⟩:=ihm (by omega);have Lg:=vy m (by omega);have hn:=UJ Lg;obtain⟨S4,L4,H4,vs,I4,s4,l4,r4,q4,k4⟩:=ih (args.getD m default) (by omega) (F m) (hE m _ Lg) I3;refine⟨S4,L4,H4,fun i=>if i=m then vs else G i,I4,fun i h=>s4 i (s3 i h),fun i h=>by rw[l4 i (s3 i h),l3 i h],fun i hi=>?_,k3.trans k4⟩;by_cases e:i=m;·subst e;simp only[if_pos];exact⟨r4,q4⟩
        ·simp only[if_neg e];obtain⟨g1,g2⟩:=g3 i (by omega);exact⟨g1.mono s4 l4,g2.keep k4⟩
      obtain⟨S3,L3,H3,G,I3,s3,l3,g3,k3⟩:=key args.length (Nat.le_refl _);have hF0:=hF 0 (by omega);obtain⟨_,f1,f2⟩:=World.cells?_some hF0;have Lx:=f2 0 (by omega);rw[Deep.add_add,List.getElem?_eq_getElem (by omega)]at Lx;have ea:a.add (0*5+0)=a:=rfl;rw[ea]at Lx;have Qf:a.spot=none:=by have sX:=Lx;unfold World.cell? at sX;cases hs:a.spot with
       |none=>rfl
       |some q=>
        rw[hs]at sX;split at sX;·simp at sX
        ·cases sX
      have Wa:a.block<W.heap.size:=World.block_lt_of_cell? W a Lx;have hG: ∀i,i<args.length->(G i).length=5:=fun i hi=>(g3 i hi).2.len;obtain⟨S4,L4,H4,I4,s4,l4,k4,c4,sn,ln,n4⟩:=B1 (g:=a.block) (o:=a.off) (sz:=5) (cap:=cap) (cs:=((List.range args.length).map G).flatten) (cs':=((List.range args.length).map F).flatten) I3 Wa (Ki Qf args.length hF) (GX args.length fun i hi=>(g3 i hi).1);refine⟨S4,L4,H4,.slice (some ⟨H3.n,0,none⟩) args.length args.length,I4,fun i h=>s4 i (s3 i h),fun i h=>by rw[l4 i (s3 i h),l3 i h],?_,?_,k3.trans k4⟩
      ·have hv:=VR.slice (S:=S4) (L:=L4) H3.n 0 args.length args.length cap sn py (Nat.le_refl _) (by rw[ln];simp);rw[ln]at hv;have e:(some (⟨a.block,a.off+0,none⟩:Addr))=some a:=by congr 1;cases a with|mk b o s=>simp at Qf;subst Qf;rfl
       rw[e]at hv;exact hv
      ·refine .mk H3.n 0 args.length (by omega) c4 (Nat.le_refl _) fun i t hi=>?_;have YX:i<args.length:=by
        rcases Nat.lt_or_ge i args.length with h'|h';·exact h'
        ·rw[List.getElem?_eq_none h']at hi;cases hi
       rw[Nat.zero_add,Fj args.length hG i YX];have:=(g3 i YX).2.keep k4;rw[vy i YX]at hi;cases hi;exact this
end
end
end Go.Proofs.YtmkfecoeghokfaaGreatDoor
