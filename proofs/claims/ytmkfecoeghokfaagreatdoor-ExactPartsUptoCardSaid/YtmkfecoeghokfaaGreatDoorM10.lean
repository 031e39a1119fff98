/-
  The engine and the walks that the claim's last text leans on, part 10 of 10: Xb, Kept, ArgsA, Tf, Tg.
-/
import Derived.Test.YtmkfecoeghokfaaGreatDoorM9
import Derived.Carry
import Derived.Deep.Slices
import Derived.JoinedCond
namespace Go.Proofs.YtmkfecoeghokfaaGreatDoor
open Go Ev
set_option linter.unusedVariables false
set_option linter.unusedSimpArgs false
noncomputable section
set_option maxHeartbeats 2000000
set_option maxRecDepth 20000
section
attribute [-simp] Int.natCast_add Int.natCast_mul Int.natCast_ediv Int.natCast_emod Int.natCast_pow
attribute [local simp] strip ZQ Xt LR gW Z6 Yh ZU Yi ZG Yj Zy Zz Zj ZF Yd ZL Z3 Zm ZE Zk Zi Z2 Z1 YK Zr Yg Y1 YT ZJ plain ZM Tr.get_set YU Zt Yw ZS sameKind undef ZZ ZD Yb Zv ZT parts XH DW Ym ZX LX ZV
attribute [local simp] Zs ZI ZR
section
variable {H : AH} {vs : List Value} {t : ET}
theorem Kc(h:Qc H vs t)(Bd:t.wt<=67108864):CW Tryz.prog Zw 8 [.agg vs.toArray] H fun v H'=>v= .bool true/\Zh H H':=by have hl:=h.ex.len;have hr:=h.rows;have hnn:=HC _ t (Nat.le_refl _);have hnd:=h.nodes;obtain⟨H2,e2,k2,n2,q0⟩:=XI H vs;have K:=k2;have z0:=q0;obtain⟨b,H3,c3,k3⟩:=CK (h.ex.keep K) h.nodes;have n3:=k3.n;have K:=K.trans k3;replace q0:=k3.q q0;have z3:=q0;refine Z8 171 Tryz.func8 ?_;apply Zb;intro b1 Ze;simp[Value.cells,e2];subst Ze;apply Zf;intro b1 Ze;apply Zb;intro b2 Zp;simp[Ud z0 hl,c3];subst Zp;cases b with
 |true=>obtain⟨H4,c4,k4⟩:=O0 (hr.keep K);have n4:=k4.n;have K:=K.trans k4;replace q0:=k4.q q0;refine Za (t:=true) (by simp) ?_;apply Zb;intro b2 Zp;simp[c4];subst Zp;apply Zq;simp[Ys];exact K
 |false=>
  refine Za (t:=false) (by simp) ?_;apply Zl;subst Ze;obtain⟨x4,H4,c4,k4,us,rfl,vB⟩:=oV _ t (Nat.le_refl _) _ vs (h.ex.keep K) h.wide (by omega);have n4:=k4.n;have K:=K.trans k4;replace q0:=k4.q q0;replace vB:Rx (fun j=>j<H4.n) H4 us t.ref:=jt (H:=H4) ⟨Nat.le_refl _,fun _ _ _=>rfl⟩ (fun j hj _=>hj) _ t.ref (Nat.le_refl _) us vB;have OP:=vB.ones;have hl6:=vB.len;obtain⟨H5,Xz,k5,q5,n5⟩:=Za5 (H:=H4) hl6 OP;have K:=K.trans k5;replace q0:=k5.q q0;have z5:=q0;obtain⟨C,hC⟩:=hid (W0 t);by_cases M3:W0 t=0
  ·have hg:t.allGood=true:=by
    unfold W0 at M3;split at M3;·cases M3
    ·rename_i h;simpa using h
   have Sd:TreeOk H vs t:=⟨h,hg,Bd⟩;obtain⟨lv,lcs,H6,c6,k6,hL⟩:=Qo (Sd.keep K) M3;have n6:=k6.n;have K:=K.trans k6;replace q0:=k6.q q0;replace q5:=k6.q q5;have z6:=q0;obtain⟨mv,qS,H7,c7,k7,hM⟩:=Qo (Sd.keep K) M3;have n7:=k7.n;have K:=K.trans k7;replace q0:=k7.q q0;replace q5:=k7.q q5;have z7:=q0;obtain⟨H8,c8,k8⟩:=GQ (Sd.keep K) M3;have n8:=k8.n;have K:=K.trans k8;replace q0:=k8.q q0;replace q5:=k8.q q5;have z8:=q5;have rx8:=vB.keep (((k5.trans k6).trans k7).trans k8);obtain⟨H9,c9,k9⟩:=LI rx8 (Fy _ t (Nat.le_refl _) h.wide) (by omega);have n9:=k9.n;have K:=K.trans k9;replace q0:=k9.q q0;replace q5:=k9.q q5;rw[JE,M3]at c9;replace c9:ZY Tryz.prog Zw 35 [.agg us.toArray] H8=some (.int .i64 0,H9):=c9;have z9:=q5;obtain⟨wv,Ry,lG,Sg,wi,ki,kj,hwb,hwq⟩:=IP _ t (Nat.le_refl _) _ H9 us (rx8.keep k9) h.wide hg Bd (by omega);have tV:=Sg.n;have K:=K.trans Sg;obtain⟨fs,Oa⟩:=hid (t.parts);have GG:=R6 t;have TI:=Li t hg h.wide Bd;rw[<-Oa]at hL hM kj c8 GG TI;obtain⟨N,hN⟩:=hid (t.nodes);rw[<-hN]at GG;have hNn:N<=2000000:=by omega
   have hll:=hL.2.1;have hml:=hM.2.1;have qZ:=kj.len;have lL:=hL.1.len ao;have lM:=hM.1.len ao;have lW:=ki.len oI;rw[hll,GG]at lL;rw[hml,GG]at lM;rw[qZ,GG]at lW;have gN:Zc .neq .i64 (N:Int) (N:Int)=some (.bool false):=by rw[TV,decide_eq_false (by omega)]
   have kL:Zh H6 Ry:=((k7.trans k8).trans k9).trans Sg;have kM:Zh H7 Ry:=(k8.trans k9).trans Sg;obtain⟨R1,yb⟩:=hid (cn fs 1);obtain⟨R2,hR2⟩:=hid (cn fs 2);obtain⟨R0,hR0⟩:=hid (cn fs 0);rw[<-yb,<-hR2,<-hR0]at c8;obtain⟨IG,CH⟩: ∃IG,Ry.new 1 (ar [])=IG:=⟨_,rfl⟩;have Sh:Zh Ry IG:=by rw[<-CH];exact Zh.new _ _ _
   have n11:IG.n=Ry.n+1:=by rw[<-CH];rfl
   have q11:IG.blk Ry.n= .rw 1 (ar []):=by rw[<-CH,AH.blk_new,if_pos rfl]
   replace CH:Ry.new 1 [.int .i64 0,.int .i64 0,.int .i64 0]=IG:=CH;apply Zb;intro b1 Ze;simp[Ud z3 hl,c4,zE,Value.cells,Xz];subst Ze;apply Zb;intro b1 Ze;simp[Ud z5 hl,c6];subst Ze;apply Zb;intro b1 Ze;simp[Ud z6 hl,c7];subst Ze;apply Zb;intro b1 Ze;simp[Ud z7 hl,c8];subst Ze;apply Zb;intro b1 Ze;simp[JT z8 hl6,c9];subst Ze;apply Zf;intro b1 Ze;apply Zb;intro b2 Zp;simp[Mp,T7];subst Zp;refine Za (t:=false) (by simp) ?_;apply Zl;subst Ze;apply Zf;intro b1 Ze;apply Zb;intro b2 Zp;simp[T7];subst Zp;refine Za (t:=false) (by simp) ?_;apply Zl;subst Ze;apply Zb;intro b1 Ze;simp[JT z9 hl6,lG];subst Ze;apply Zf;intro b1 Ze;apply Zb;intro b2 Zp;simp[lL,lW,lM,gN];subst Zp;refine Za (t:=false) (by simp) ?_;apply Zl;subst Ze;apply Zb;intro b1 Ze;simp[zA3,Value.cells,CH];subst Ze;apply Zb;intro b1 Ze;simp;subst Ze;clear c3 c4 c6 c7 c8 c9 lG Xz z0 z3 z5 z6 z7 z8 z9 q0 q5 CH;apply Zf;intro b1 Ze;apply Zb;intro b2 Zp;simp[lW];subst Zp;apply Zu;refine Yv (fun n s'=>s'.k=171/\ ∃(i:Nat) (ls:Value),n+i=N/\Zh Ry s'.H/\Ry.n<s'.H.n/\s'.H.blk Ry.n= .rw 1 (ar (fs.take i))/\Uw 1 s'.H ls (R9 ((lcs.take i).flatMap two))/\(∀b,YQ ls=some b->Ry.n<b)/\s'.tm.get 4=some lv/\s'.tm.get 6=some mv/\s'.tm.get 8=some (.int .i64 (R1:Int))/\s'.tm.get 9=some (.int .i64 (R2:Int))/\s'.tm.get 10=some (.int .i64 (R0:Int))/\s'.tm.get 13=some wv/\s'.tm.get 14=some (.pointer (some ⟨Ry.n,0,none⟩))/\s'.tm.get 15=some ls/\s'.tm.get 88=some wv/\s'.tm.get 89=some (.int .i64 (N:Int))/\s'.tm.get 90=some (.int .i64 (i:Int))) ?_ N _ ⟨rfl,0,.slice none 0 0,by omega,Sh,by show Ry.n<IG.n;omega,q11,.nil,(fun b hb=>by cases hb),by simp,by simp,by simp,by simp,by simp,by simp,by simp,by simp,by simp,by simp,by simp⟩;rintro n' ⟨k,tm,Hc⟩ ⟨hk,i,ls,mR,kc,nc,qa,yQ,GD,u4,u6,u8,u9,RM,KO,IK,dP,oK,oJ,dN⟩ Q' YF;simp only at hk kc nc qa yQ u4 u6 u8 u9 RM KO IK dP oK oJ dN;subst hk;apply Zb;intro b3 ZH;simp[oJ,dN,Nn];subst ZH;apply Zf;intro b3 ZH;by_cases hi:i<N
   ·refine Za (t:=true) (by simp[hi]) ?_;apply Zl;subst ZH;obtain⟨f,hf⟩: ∃f,fs[i]?=some f:=⟨fs[i]'(by omega),List.getElem?_eq_getElem (by omega)⟩;obtain⟨lc,vZ⟩: ∃cs,lcs[i]?=some cs:=⟨lcs[i]'(by omega),List.getElem?_eq_getElem (by omega)⟩;obtain⟨mc,yL⟩: ∃cs,qS[i]?=some cs:=⟨qS[i]'(by omega),List.getElem?_eq_getElem (by omega)⟩;obtain⟨wc,zz⟩: ∃cs,wi[i]?=some cs:=⟨wi[i]'(by omega),List.getElem?_eq_getElem (by omega)⟩;have oL:=hL.2.2.1 i lc f vZ hf;have oM:=hM.2.2.1 i mc f yL hf;obtain⟨f',OZ,rW⟩:=kj.get zz;rw[hf]at OZ;injection OZ with OZ;subst OZ;have ft:=TI f (List.mem_of_getElem? hf);obtain⟨lb,hlv,adL,lbn,lbk,ll4,zH⟩:=hL.1.at vZ ao VD (by decide);obtain⟨mb,hmv,adM,mbn,mbk,ml4,tX⟩:=hM.1.at yL ao VD (by decide);obtain⟨wb,vV,adW,wbn,wbk,uQ,uR⟩:=ki.at zz oI Cq (by decide);have nL:=kL.n;have nM:=kM.n;have ldW:=XG (H:=Hc) ((kc.blk _ wbn).trans wbk) (by decide) uR uQ uI Cq;obtain⟨uM,jX,JZ,uc,n12⟩:=ja (H:=Hc) uQ rW.ones;have Zal:=(JZ.blk _ nc).trans qa;obtain⟨Ab,st13,n13,cX,f13,th⟩:=qI Zal f;have r7:=pV (fs.take i) (kN f);rw[List.length_take]at r7;have CD:Zc .add .i64 (cn (fs.take i) (kN f):Int) 1=some (.int .i64 ((cn (fs.take i) (kN f)+1:Nat):Int)):=Vv (by omega);have Ie:fs.take (i+1)=fs.take i++[f]:=by rw[List.take_add_one,hf];rfl
    rw[<-Ie]at cX;have AV:=SK Zal (EB f);have had:=Pm (b:=Ry.n) (EB f);have br:Zh Ry Ab:=th Ry (kc.trans JZ) (Nat.le_refl _);have q13:=(f13 Hc.n (by omega)).trans uc;have qL:=(br.blk _ (by omega)).trans ((kL.blk _ lbn).trans lbk);have qM:=(br.blk _ (by omega)).trans ((kM.blk _ mbn).trans mbk);have loL: ∀{H:AH},H.blk lb= .rw 4 lcs.flatten->Z7 Tryz.prog H 57 (.pointer (some ⟨lb,i*4,none⟩))=some (.agg lc.toArray):=fun h=>XG h (by decide) zH ll4 OT VD;have loM: ∀{H:AH},H.blk mb= .rw 4 qS.flatten->Z7 Tryz.prog H 57 (.pointer (some ⟨mb,i*4,none⟩))=some (.agg mc.toArray):=fun h=>XG h (by decide) tX ml4 OT VD;have loW: ∀{H:AH},H.blk Hc.n= .rw 1 wc->Z7 Tryz.prog H 77 (.pointer (some ⟨Hc.n,0,none⟩))=some (.agg wc.toArray):=fun h=>Y5 h uQ;have fL:=oL.fin.fr (kL.trans br).fr;have fM:=oM.fin.fr (kM.trans br).fr;have fW:=rW.fr br.fr;obtain⟨k0,s0,pl,ql,hlq⟩:=len4 ll4;subst hlq;obtain⟨cp,cq⟩:=cut4 zH;have loP: ∀{H:AH},H.blk lb= .rw 4 lcs.flatten->Z7 Tryz.prog H 30 (.pointer (some ⟨lb,i*4+2,none⟩))=some pl:=fun h=>Z0 MN (AH.cells_rw' h (by decide)) cp;have loQ: ∀{H:AH},H.blk lb= .rw 4 lcs.flatten->Z7 Tryz.prog H 30 (.pointer (some ⟨lb,i*4+3,none⟩))=some ql:=fun h=>Z0 MN (AH.cells_rw' h (by decide)) cq;obtain⟨_,op,_⟩:=oL.get ft (r:=0) (by decide) rfl;obtain⟨_,oq,_⟩:=oL.get ft (r:=1) (by decide) rfl;obtain⟨cp1,cp2⟩:=op.isSlice;obtain⟨cq1,cq2⟩:=oq.isSlice;have yP:Uw 1 Ab ls (R9 ((lcs.take i).flatMap two)):=(yQ.keep JZ).frame (by omega) fun b hb=>f13 b (by have:=GD b hb;omega);have n1c:=JZ.n;have K:=br;have qLa:=qL;have qMa:=qM;have Zak:=q13;have cE: ∀{J:AH}(k:Zh Ab J){bits ms},(∀x∈ms,Ab.n<=x.2.1)-> ∀b,b<Ab.n->(P0 J bits ms).blk b=Ab.blk b:=fun k _ _ h b hb=>(Xp k h).blk b hb;obtain⟨Cs,S5,Xj⟩:=UA (fL.fr (Uj _).fr) (fW.fr (Uj _).fr) ft;obtain⟨Ko,X8,Wy,Bw⟩:=cg Xj;have XQ:=Wy;have Nt:=XQ.n;have K:=K.trans Wy;obtain⟨jF,Ks,Vf⟩:=UA ((fM.fr XQ.fr).fr (Uj _).fr) ((fW.fr XQ.fr).fr (Uj _).fr) ft;obtain⟨SA,UD,W5,kX⟩:=cg Vf;have WM:=XQ.trans W5;have IY:=WM.n;have K:=K.trans W5;replace qL:=WM.q qL;replace qM:=WM.q qM;replace cX:=WM.q cX;have qLb:=qL;obtain⟨rf,GV,UB,nI1,bI1⟩:=fi cp1 cq1 SA.top;obtain⟨MU,SO,W6,vI⟩:=cg UB;have TH:=W6;have bN:=TH.n;have K:=K.trans W6;replace qM:=TH.q qM;replace cX:=TH.q cX;replace GV:Yz Tryz.prog SA.top 91 2 [(0,pl),(1,ql)]=some (.slice (some ⟨SA.n,0,none⟩) 2 2,rf):=GV;have nJ:MU.n=SA.n+1:=by rw[SO];exact nI1
    have bJ:MU.top.blk SA.n= .rw 1 (R9 [pl,ql]).flatten:=by show MU.blk SA.n=_;rw[Ge,SO,(Yo UB).blk SA.n (by rw[nI1];exact Nat.lt_succ_self _) (fun e=>by cases e)];exact bI1
    have hls2:Uw 1 MU.top ls (R9 ((lcs.take i).flatMap two)):=((yP.keep WM).keep W6).keep (Uj _);have GC:Uw 1 MU.top (.slice (some ⟨SA.n,0,none⟩) 2 2) (R9 [pl,ql]):= .inr ⟨SA.n,rfl,by show SA.n<MU.n;omega,bJ,fun cs hc=>by simp[R9]at hc;rcases hc with rfl|rfl<;>rfl⟩;have VO:(R9 ((lcs.take i).flatMap two)).length<=2*N:=by rw[J0,FR fun cs hc=>hL.len4 cs (List.mem_of_mem_take hc),List.length_take];omega
    obtain⟨He,Oz,ne,cf,mo,Nf,EI⟩:=hls2.appendAll GC (by decide) (by simp[R9]) (by simp[R9,cp2,cq2]) Zaw (by decide) qC rfl (by show _+2<_;omega);obtain⟨M,hM'⟩: ∃M,M=(R9 ((lcs.take i).flatMap two)).length+(R9 [pl,ql]).length:=⟨_,rfl⟩;rw[<-hM']at Oz mo;replace ne:He.n=MU.n+1:=ne;replace Oz:Xr Tryz.prog MU.top 91 91 ls (.slice (some ⟨SA.n,0,none⟩) 2 2)=some (.slice (some ⟨MU.n,0,none⟩) M M,He):=Oz;replace mo:Uw 1 He (.slice (some ⟨MU.n,0,none⟩) M M) (R9 ((lcs.take (i+1)).flatMap two)):=by rw[jK vZ,<-jw];exact mo
    replace cf: ∀j,j<MU.n->YQ ls≠some j->He.blk j=MU.blk j:=cf;obtain⟨Gd,hGd⟩: ∃Gd:AH->Prop,∀G,Gd G↔(G.n=He.n/\Zh Ry G/\G.blk Ry.n= .rw 1 (ar (fs.take (i+1)))/\Uw 1 G (.slice (some ⟨MU.n,0,none⟩) M M) (R9 ((lcs.take (i+1)).flatMap two))):=⟨_,fun _=>Iff.rfl⟩;have fin: ∀G:AH,Tp none He G->Zh Ry G->Gd G:=fun G bt kg=>(hGd G).2 ⟨bt.n,kg,(bt.blk _ (by omega) (fun e=>by cases e)).trans ((cf _ (by omega) (fun e=>by have:=GD _ e;omega)).trans cX),mo.frame (by rw[bt.n];exact Nat.le_refl _) fun b hb=>bt.blk b (mo.blk_lt hb).1 (fun e=>by cases e)⟩;refine Y6 (fun s'=>s'.k=171/\Gd s'.H/\s'.tm.get 4=some lv/\s'.tm.get 6=some mv/\s'.tm.get 8=some (.int .i64 (R1:Int))/\s'.tm.get 9=some (.int .i64 (R2:Int))/\s'.tm.get 10=some (.int .i64 (R0:Int))/\s'.tm.get 13=some wv/\s'.tm.get 14=some (.pointer (some ⟨Ry.n,0,none⟩))/\s'.tm.get 15=some (.slice (some ⟨MU.n,0,none⟩) M M)/\s'.tm.get 88=some wv/\s'.tm.get 89=some (.int .i64 (N:Int))/\s'.tm.get 90=some (.int .i64 (i:Int))) ?_ ?_
    ·intro KI XW;obtain⟨w1,w2,w3,hwc4,Co⟩:=rW.trio;have lk:Z7 Tryz.prog uM 3 (.pointer (some ⟨Hc.n,0,none⟩))=some (.int .i64 (kN f:Int)):=by rw[hwc4,AJ]at uc;exact Mg uc
     apply Zu;apply Zb;intro b4 Yt;simp[dN,oK,adW,ldW,J8,Value.cells,jX];subst Yt;apply Zb;intro b4 Yt;simp[Hm,lk,IK,had,AV,CD,st13];subst Yt;apply Zf;intro b4 Yt;apply Zf;intro b5 Ui;apply YI (by kernel_rfl);simp[u4,dN,adL];refine Xq (v:= .agg #[k0,s0,pl,ql]) (by simp[loL (H:=AH.top Ab) qLa]) ?_;simp;refine Xq (v:= .agg wc.toArray) (by simp[loW (H:=AH.top Ab) Zak]) ?_;simp;refine Y4 (v:= .bool true) (Ww.nil Ab.n) Xj X8 (by simp[S5]) fun Nr QH=>?_;simp[u6,adM];refine ZK (v:= .agg mc.toArray) (by simp) rfl rfl (by simp[loM ((cE XQ QH.ge _ (by omega)).trans qMa)]) ?_;simp;refine ZK (v:= .agg wc.toArray) (by simp) rfl rfl (by simp[loW ((cE XQ QH.ge _ (by omega)).trans Zak)]) ?_;simp;refine Y4 (v:= .bool true) QH Vf UD (by simp[Ks]) (hg:=by simp) fun IZ IF=>?_;simp;subst Ui;refine Za (t:=false) (by simp) ?_;apply Zl;subst Yt;apply YI (by kernel_rfl);simp[u4,dN,dP,adL,rS,pO,pN,pM];refine Xq (v:=pl) (by simp[loP (H:=AH.top SA) qLb]) ?_;simp[u4,adL,rS,pO,pN,pM];refine Xq (v:=ql) (by simp[loQ (H:=AH.top SA) qLb]) ?_;simp;refine Y4 (v:= .slice (some ⟨SA.n,0,none⟩) 2 2) (Ww.nil SA.n) UB SO (by simp[GV]) fun Fk KK=>?_;simp[dP];cases FK:YQ ls with
      |none=>
       refine YW (v:= .slice (some ⟨MU.n,0,none⟩) M M) (H2:=He) rfl rfl rfl ?_ (by omega) (by rw[(Nf FK).2];exact Nat.le_refl _) ?_;·rw[ZN (KK.hid (by kernel_rfl))];simp[Oz]
       simp;apply XW;exact⟨rfl,fin (grown MU He) (Yo (Nf FK).1) (Yc K (Nf FK).1),by simp[u4],by simp[u6],by simp[u8],by simp[u9],by simp[RM],by simp[KO],by simp[IK],by simp,by simp[oK],by simp[oJ],by simp[dN]⟩
      |some b=>
       have Ze:=EI b FK;have Zp:b<MU.n:=Ze.2.2;refine YE (v:= .slice (some ⟨MU.n,0,none⟩) M M) (H2:=He) rfl rfl (by kernel_rfl) (KK.hid (by kernel_rfl)) ?_ (by omega) (by have h3:=Ze.2.1;omega) ?_;·show Z6 _ _ _ _ MU.top _=_;simp[Oz]
       simp;have V4:=fin (low MU He) (Mh MU He) (Qw Ze.1 Ry K (by have:=GD b FK;omega));apply XW;exact⟨rfl,V4,by simp[u4],by simp[u6],by simp[u8],by simp[u9],by simp[RM],by simp[KO],by simp[IK],by simp,by simp[oK],by simp[oJ],by simp[dN]⟩
    clear u4 u6 u8 u9 RM KO IK dP oK oJ dN;rintro⟨k,D7,Hx⟩ ⟨hk,hG,u4,u6,u8,u9,RM,KO,IK,dP,oK,oJ,dN⟩;simp only at hk hG u4 u6 u8 u9 RM KO IK dP oK oJ dN;subst hk;obtain⟨nx,kx,x0,xL⟩:=(hGd _).1 hG;apply Zg;simp[dN,Vv (x:=i) (by omega)];apply YF;exact⟨n'-1,by omega,rfl,i+1,_,by omega,kx,by show Ry.n<Hx.n;omega,x0,xL,(fun b hb=>by cases hb;omega),by simp[u4],by simp[u6],by simp[u8],by simp[u9],by simp[RM],by simp[KO],by simp[IK],by simp[dP],by simp[oK],by simp[oJ],by simp⟩
   ·refine Za (t:=false) (by simp[hi]) ?_;apply YZ;apply YF;left;refine⟨rfl,?_⟩;clear YF;have hiN:i=N:=by omega
    rw[List.take_of_length_le (by omega)]at qa yQ;have kLc:=kL.trans kc;have kMc:=kM.trans kc;have hN0:0<N:=by rw[hN];exact Xu t
    obtain⟨xs,sF⟩:=hid (lcs.flatMap two);have qX:xs.length=2*N:=by rw[sF,FR hL.len4];omega
    have hxp: ∀v∈xs,∀c,YQ v=some c->H5.n<=c/\c<H6.n:=fun v hv c hc=>cu hL (by rw[<-sF];exact hv) hc;rw[<-sF]at yQ;rcases yQ with⟨_,e⟩|⟨b,rfl,M1,dq,_⟩;·have:=J0 xs;rw[e]at this;simp at this;omega
    rw[Ge]at dq;rw[J0]at dP;have hb10:=GD b rfl;have nL:=kL.n;have nM:=kM.n;obtain⟨g,hg,km⟩:=ct hL kLc (by rw[<-sF];exact dq) (by omega) M1 (by omega) TI;rw[<-sF]at hg;obtain⟨_,dG,c20,rfl,tj,tG⟩:=Fq hg (by omega) km;have K20:Zh H dG:=tj H (K.trans kc) (by omega);obtain⟨Q,hQ⟩: ∃Q:Nat->Prop,∀j,Q j↔(j≠b/\ ∀v∈xs,YQ v≠some j):=⟨_,fun _=>Iff.rfl⟩;have ag:kO Q Hc dG:=⟨tG.1,fun j hq hj=>tG.2 j hj ((hQ j).1 hq).1 ((hQ j).1 hq).2⟩;have eK: ∀{j cs},Hc.blk j= .rw 4 cs->Q j:=fun{j cs} hj=>by
     refine(hQ j).2 ⟨fun e=>?_,fun v hv=>?_⟩;·rw[e,dq]at hj;injection hj with hj;cases hj
     obtain⟨l,hl⟩:=List.mem_iff_getElem?.mp hv;exact(hg.own l v hl).ne hj (by decide)
    have rQ: ∀c,c<Ry.n->(c<H5.n\/H6.n<=c)->Q c:=fun c h1 h2=>(hQ c).2 ⟨by omega,fun v hv e=>by have:=hxp v hv c e;omega⟩;have Za2:=tG.1;have kWc:=kc.fr;have LM:Uw 4 dG mv qS:=(hM.1.keep kMc).frame Za2 fun c hc=>by have h1:=(hM.1.keep kMc).blk_lt hc;exact ag.2 c (eK h1.2) h1.1
    have LW:Uw 4 dG wv wi:=(ki.keep kc).frame Za2 fun c hc=>by have h1:=(ki.keep kc).blk_lt hc;exact ag.2 c (eK h1.2) h1.1
    have FM: ∀(j:Nat)(cs:List Value)(f:FD),qS[j]?=some cs->fs[j]?=some f->Ub dG cs f:=fun j cs f h1 h2=>by have o:=hM.2.2.1 j cs f h1 h2;exact(o.fin.fr kMc.fr).agr (fun v hv c hc=>rQ c (by have:=o.lo hv hc;omega) (.inr (by have:=o.lo hv hc;omega))) ag
    have FW: ∀(j:Nat)(cs:List Value)(f:FD),wi[j]?=some cs->fs[j]?=some f->XE dG cs f:=fun j cs f h1 h2=>by
     obtain⟨f',OZ,o⟩:=kj.get h1;rw[h2]at OZ;injection OZ with OZ;subst OZ;refine(o.fr kc.fr).agr (fun v hv c hc=>rQ c (o.lt hv hc) ?_) ag;rcases hwq cs (List.mem_of_getElem? h1) v hv c hc with h|h;·exact .inl (by have:c<H4.n:=h;omega)
     ·exact .inr (by omega)
    have a0:=Pm (b:=Ry.n) (i:=0) (by decide);have a1:=Pm (b:=Ry.n) (i:=1) (by decide);have a2:=Pm (b:=Ry.n) (i:=2) (by decide);replace a0:ZC Tryz.prog 90 (.pointer (some ⟨Ry.n,0,none⟩)) (.int .i64 0)=some (.pointer (some ⟨Ry.n,0,none⟩)):=a0;replace a1:ZC Tryz.prog 90 (.pointer (some ⟨Ry.n,0,none⟩)) (.int .i64 1)=some (.pointer (some ⟨Ry.n,1,none⟩)):=a1;replace a2:ZC Tryz.prog 90 (.pointer (some ⟨Ry.n,0,none⟩)) (.int .i64 2)=some (.pointer (some ⟨Ry.n,2,none⟩)):=a2;have l0:=SK qa (i:=0) (by decide);have l1:=SK qa (i:=1) (by decide);have l2:=SK qa (i:=2) (by decide);rw[<-hR0]at l0;rw[<-yb]at l1;rw[<-hR2]at l2;have gR: ∀n:Nat,Zc .neq .i64 (n:Int) (n:Int)=some (.bool false):=fun n=>by rw[TV,decide_eq_false (by omega)]
    subst Ze;apply Zf;intro b1 Ze;apply Zb;intro b2 Zp;simp[u8,u9,RM,IK,dP,a0,a1,a2,l0,l1,l2,gR,c20];subst Zp;refine Za (t:=false) (by simp) ?_;apply Zl;subst Ze;apply Zf;intro b1 Ze;apply Zb;intro b2 Zp;simp[KO,lW];subst Zp;apply Zu;refine Yv (fun n s'=>s'.k=171/\ ∃(i:Nat),n+i=N/\Zh dG s'.H/\s'.tm.get 6=some mv/\s'.tm.get 155=some wv/\s'.tm.get 156=some (.int .i64 (N:Int))/\s'.tm.get 157=some (.int .i64 (i:Int))) ?_ N _ ⟨rfl,0,by omega,.refl _,by simp[u6],by simp,by simp,by simp⟩;clear u4 u6 u8 u9 RM KO IK dP oK oJ dN;rintro n2 ⟨k,D7,Hd⟩ ⟨hk,i,mR,kd,u6,uY,uX,jJ⟩ Q' YF;simp only at hk kd u6 uY uX jJ;subst hk;apply Zb;intro b3 ZH;simp[uX,jJ,Nn];subst ZH;apply Zf;intro b3 ZH;by_cases hi:i<N;·refine Za (t:=true) (by simp[hi]) ?_;apply Zl;subst ZH;obtain⟨f,hf⟩: ∃f,fs[i]?=some f:=⟨fs[i]'(by omega),List.getElem?_eq_getElem (by omega)⟩;obtain⟨mc,yL⟩: ∃cs,qS[i]?=some cs:=⟨qS[i]'(by omega),List.getElem?_eq_getElem (by omega)⟩;obtain⟨wc,zz⟩: ∃cs,wi[i]?=some cs:=⟨wi[i]'(by omega),List.getElem?_eq_getElem (by omega)⟩;have ft:=TI f (List.mem_of_getElem? hf);obtain⟨mb,hmv,adM,mbn,mbk,ml4,tX⟩:=LM.at yL ao VD (by decide);obtain⟨wb,vV,adW,wbn,wbk,uQ,uR⟩:=LW.at zz oI Cq (by decide);have rW:=FW i wc f zz hf;have ldW:=XG (H:=Hd) ((kd.blk _ wbn).trans wbk) (by decide) uR uQ uI Cq;obtain⟨H21,uk,k21,q21,n21⟩:=ja (H:=Hd) uQ rW.ones;have mD:=kd.trans k21;have qM:=(mD.blk _ mbn).trans mbk;have loM: ∀{H:AH},H.blk mb= .rw 4 qS.flatten->Z7 Tryz.prog H 57 (.pointer (some ⟨mb,i*4,none⟩))=some (.agg mc.toArray):=fun h=>XG h (by decide) tX ml4 OT VD;have loW: ∀{H:AH},H.blk Hd.n= .rw 1 wc->Z7 Tryz.prog H 77 (.pointer (some ⟨Hd.n,0,none⟩))=some (.agg wc.toArray):=fun h=>Y5 h uQ;have fM:=(FM i mc f yL hf).fr mD.fr;have fW:=rW.fr mD.fr;have nd:=kd.n;have K:=mD;have qMc:=qM;have q21c:=q21;obtain⟨Ic1,dc1,bo⟩:=UA (fM.fr (Uj _).fr) (fW.fr (Uj _).fr) ft;obtain⟨Jc1,mn,Iy,mc1⟩:=cg bo;have iW:=Iy;have nkc1:=iW.n;have K:=K.trans Iy;apply Zf;intro b3 ZH;apply Zu;apply Zb;intro b4 Yt;simp[uY,jJ,adW,ldW,J8,Value.cells,uk];subst Yt;apply Zf;intro b4 Yt;apply YI (by kernel_rfl);simp[u6,jJ,adM];refine Xq (v:= .agg mc.toArray) (by simp[loM (H:=AH.top H21) qMc]) ?_;simp;refine Xq (v:= .agg wc.toArray) (by simp[loW (H:=AH.top H21) q21c]) ?_;simp;refine Y4 (v:= .bool true) (Ww.nil H21.n) bo mn (by simp[dc1]) fun msc1 Mc1=>?_;simp;subst Yt;refine Za (t:=false) (by simp) ?_;apply Zl;simp[Ye];subst ZH;apply Zg;simp[jJ,Vv (x:=i) (by omega)];apply YF;exact⟨n2-1,by omega,rfl,i+1,by omega,K,by simp[u6],by simp[uY],by simp[uX],by simp⟩
    ·refine Za (t:=false) (by simp[hi]) ?_;apply YZ;apply YF;left;refine⟨rfl,?_⟩;clear YF;obtain⟨H33,c33,k33⟩:=O0 (hr.keep (K20.trans kd));subst Ze;apply Zb;intro b1 Ze;simp[c33];subst Ze;apply Zq;simp;exact(K20.trans kd).trans k33
  ·skip;obtain⟨H6,c6,k6⟩:=PZ (h.keep K) M3;have n6:=k6.n;have K:=K.trans k6;replace q0:=k6.q q0;replace q5:=k6.q q5;have z6:=q0;obtain⟨H7,c7,k7⟩:=PZ (h.keep K) M3;have n7:=k7.n;have K:=K.trans k7;replace q0:=k7.q q0;replace q5:=k7.q q5;have z7:=q0;obtain⟨H8,c8,k8⟩:=El (h.keep K) M3;have n8:=k8.n;have K:=K.trans k8;replace q5:=k8.q q5;have z8:=q5;have rx8:=vB.keep (((k5.trans k6).trans k7).trans k8);obtain⟨H9,c9,k9⟩:=LI rx8 (Fy _ t (Nat.le_refl _) h.wide) (by omega);have n9:=k9.n;have K:=K.trans k9;rw[JE,<-hC]at c9;rw[<-hC]at M3 c6 c7 c8;obtain⟨Ry,lG,Sg⟩:=O0 (hr.keep K);have tV:=Sg.n;have K:=K.trans Sg;have gn:Zc .neq .i64 (C:Int) (C:Int)=some (.bool false):=by rw[TV,decide_eq_false (by omega)]
   have g0:Zc .neq .i64 (C:Int) 0=some (.bool true):=by rw[TV,decide_eq_true (by omega)]
   have KZ:SL Tryz.prog 83 (.slice none 0 0)=some 0:=by unfold SL;rw[ao]
   apply Zb;intro b1 Ze;simp[Ud z3 hl,c4,zE,Value.cells,Xz];subst Ze;apply Zb;intro b1 Ze;simp[Ud z5 hl,c6];subst Ze;apply Zb;intro b1 Ze;simp[Ud z6 hl,c7];subst Ze;apply Zb;intro b1 Ze;simp[Ud z7 hl,c8];subst Ze;apply Zb;intro b1 Ze;simp[JT z8 hl6,c9];subst Ze;apply Zf;intro b1 Ze;apply Zb;intro b2 Zp;simp[Mp,gn];subst Zp;refine Za (t:=false) (by simp) ?_;apply Zl;subst Ze;apply Zf;intro b1 Ze;apply Zb;intro b2 Zp;simp[g0];subst Zp;refine Za (t:=true) (by simp) ?_;apply Zb;intro b2 Zp;simp[KZ,show Zc .eql .i64 0 0=some (.bool true)from rfl,lG];subst Zp;apply Zq;simp[Ys];exact K
end
end
end
end Go.Proofs.YtmkfecoeghokfaaGreatDoor
namespace Go.Proofs.YtmkfecoeghokfaaGreatDoor
open Go.ChangeShapes Go.WideShapes Go.ChangeAt Go.RowKit Go.Proofs.YtmkfecoeghokfaaGreatDoor.Ev
set_option linter.unusedVariables false
set_option maxHeartbeats 2000000
set_option maxRecDepth 20000
theorem laidOut:laidOutB Tryz.prog=true:=by kernel_rfl
theorem IC{P:Program}(hl:laidOutB P=true){H:Type}{enc:TypeId×Value->H}{W W':World}(hb:Below W.heap.size W W'): ∀(ts:List TypeId)(vs:List Value)(ds:List (DataW H))(ps:List MemPlace),(ts.all fun t=>P.readableRec t&&decide (t<P.types.size))=true->DataW.TrodAll enc P W 0 (fun _=>true) true ts vs ds ps->(∀x∈ps,x.block<W.heap.size)->DataW.TrodAll enc P W' 0 (fun b=>decide (b<W.heap.size)) true ts vs ds ps|[],[],[],_,_,h,_=>h|t::ts,v::vs,d::ds,_,ht,⟨p,q,h1,h2,e⟩,YR=>by subst e;rw[List.all_cons,Bool.and_eq_true,Bool.and_eq_true]at ht;exact⟨p,q,Below.trod hl ht.1.1 (of_decide_eq_true ht.1.2) h1 hb (fun x hx=>YR x (List.mem_append_left _ hx)),IC hl hb ts vs ds q ht.2 h2 (fun x hx=>YR x (List.mem_append_right _ hx)),rfl⟩
end Go.Proofs.YtmkfecoeghokfaaGreatDoor
namespace Go.Proofs.YtmkfecoeghokfaaGreatDoor
open Go Go.ChangeShapes Go.WideShapes Go.RowKit Go.Proofs.YtmkfecoeghokfaaGreatDoor.Ev
set_option linter.unusedVariables false
noncomputable section
set_option maxHeartbeats 2000000
set_option maxRecDepth 20000
section
attribute [-simp] Int.natCast_add Int.natCast_mul Int.natCast_ediv Int.natCast_emod Int.natCast_pow
attribute [local simp] strip ZQ Xt gW Z6 Yh ZU Yi ZG Yj Zy Zz Zj ZF Yd ZL Z3 Zm ZE Zk Zi Z2 Z1 YK Zr Yg Y1 YT ZJ plain ZM Tr.get_set YU Zt Yw ZS sameKind undef ZZ ZD Yb Zv ZA Yf ZT parts XH ZX Zs ZI ZR XL Yk Zo ZP ZW ZO
theorem KB{H:Type}(d:DataW H):1<=Rows.uptoBulk d:=by cases d with|lit l=>cases l<;>simp[Rows.uptoBulk]|nil=>simp[Rows.uptoBulk]|ptr d=>simp[Rows.uptoBulk]|slice elems spare=>simp[Rows.uptoBulk]|agg parts=>simp[Rows.uptoBulk]|iface t d=>simp[Rows.uptoBulk]|map entries=>simp[Rows.uptoBulk]|held h=>simp[Rows.uptoBulk]
theorem fj{H:Type}(l:List (DataW H)):l.length<=Rows.uptoBulkAll l:=by induction l with|nil=>simp[Rows.uptoBulkAll]|cons x r ih=>have:=KB x;simp only[Rows.uptoBulkAll,List.length_cons];omega
theorem CX{H:Type}(elems spare:List (DataW H)):elems.length<=Rows.uptoBulk (.slice elems spare):=by have h1:=fj elems;simp only[Rows.uptoBulk];omega
theorem IB{H:Type}{d:DataW H}{l:List (DataW H)}(h:d∈l):Rows.uptoBulk d<=Rows.uptoBulkAll l:=by induction l with
 |nil=>cases h
 |cons x r ih=>simp only[Rows.uptoBulkAll];cases List.mem_cons.1 h with|inl e=>subst e;omega|inr e=>have:=ih e;omega
theorem CY{H:Type}{l:List (DataW H)}(hk:Rows.uptoSmall H l=true):Rows.uptoBulkAll l<=1048576:=of_decide_eq_true hk
def B9(W:World)(v:Value)(xs:List Nat):Prop:=(v= .slice none 0 0/\xs=[])\/ ∃(a:Addr) (cap:Nat),v= .slice (some a) xs.length cap/\xs.length<=cap/\ ∀(i x:Nat),xs[i]?=some x->W.cell? (a.add i)=some (.int .u64 (x:Int))
theorem cU64:Tryz.prog.cellsOf 101=1:=by kernel_rfl
theorem Ae{W:World}{S:Nat->Prop}{L:Nat->Ev.Loc}{H:AH}(hI:Inv W.heap.size S L H W){v:Value}{xs:List Nat}(h:B9 W v xs): ∃(S':Nat->Prop) (L':Nat->Ev.Loc) (H':AH) (v0:Value),Inv W.heap.size S' L' H' W/\(∀i,S i->S' i)/\(∀i,S i->L' i=L i)/\VR S' L' v0 v/\Sl H' v0 xs/\Zh H H':=by
 rcases h with⟨rfl,rfl⟩|⟨a,cap,rfl,rD,hc⟩;·exact⟨S,L,H,.slice none 0 0,hI,fun _ h=>h,fun _ _=>rfl,.nilSlice,.nil,.refl H⟩
 ·by_cases h0:xs.length=0;·obtain rfl:xs=[]:=List.length_eq_zero_iff.mp h0;exact⟨S,L,H,_,hI,fun _ h=>h,fun _ _=>rfl,.emp 0 a cap,.emp 0,.refl H⟩
  ·have KY:=hc 0 xs[0] (List.getElem?_eq_getElem (by omega));have ea:a.add 0=a:=rfl;rw[ea]at KY;have Q0:a.spot=none:=by unfold World.cell? at KY;cases hs:a.spot with
    |none=>rfl
    |some q=>
     rw[hs]at KY;split at KY;·simp at KY
     ·cases KY
   have W2:a.block<W.heap.size:=World.block_lt_of_cell? W a KY;have CD: ∀k,a.add k=⟨a.block,a.off+k,none⟩:=fun k=>by
    unfold Addr.add;by_cases hk:k=0;·subst hk;rw[if_pos rfl];cases a with|mk b o s=>simp at Q0;subst Q0;rfl
    ·rw[if_neg hk]
   have hn: ∀i,S i->i≠H.n:=fun i hi e=>by have:=hI.bd i hi;omega
   let L':Nat->Ev.Loc:=fun i=>if i=H.n then⟨a.block,a.off,1,a.off+cap⟩else L i;let S':Nat->Prop:=fun i=>i=H.n\/S i;have hL: ∀i,S i->L' i=L i:=fun i hi=>if_neg (hn i hi);have uB:L' H.n=⟨a.block,a.off,1,a.off+cap⟩:=if_pos rfl;let H':AH:= { n:=H.n+1,lw:=H.lw,t:=H.t.set H.n (.ro 1 (xs.map fun x:Nat=>Value.int .u64 (x:Int))) };have hb: ∀j,H'.blk j=if j=H.n then .ro 1 (xs.map fun x:Nat=>Value.int .u64 (x:Int))else H.blk j:=fun j=>by
    show(match(H.t.set H.n _).get j with|some b=>b|none=>MV.dead)=_;rw[Tr.get_set];by_cases e:j=H.n;·rw[if_pos e,if_pos e]
    ·rw[if_neg e,if_neg e];rfl
   refine⟨S',L',H',.slice (some ⟨H.n,0,none⟩) xs.length xs.length,⟨?_,?_,?_,?_,hI.base⟩,fun i hi=> .inr hi,hL,?_,?_,?_⟩
   ·intro i sz cs hi;rw[hb]at hi;by_cases e:i=H.n;·rw[if_pos e]at hi;cases hi;subst e;rw[uB];refine⟨.inl rfl,W2,rfl,fun k v hk=>?_⟩;rw[List.getElem?_map]at hk;cases hxk:xs[k]? with|none=>rw[hxk]at hk;cases hk|some x=>rw[hxk]at hk;cases hk;refine⟨.int .u64 (x:Int),?_,.int _ _⟩;have:=hc k x hxk;rwa[CD k]at this
    ·rw[if_neg e]at hi;obtain⟨h1,h2,h3,h4⟩:=hI.ro i sz cs hi;rw[hL i h1];refine⟨.inr h1,h2,h3,fun k v hk=>?_⟩;obtain⟨v',h5,h6⟩:=h4 k v hk;exact⟨v',h5,h6.mono (fun _ h=> .inr h) hL⟩
   ·intro i sz cs hi;rw[hb]at hi;by_cases e:i=H.n;·rw[if_pos e]at hi;cases hi
    ·rw[if_neg e]at hi;obtain⟨h1,h2,h3,C,e',h4,h5,h6⟩:=hI.rw i sz cs hi;rw[hL i h1];refine⟨.inr h1,h2,h3,C,e',h4,h5,fun k v hk=>?_⟩;obtain⟨v',h7,h8⟩:=h6 k v hk;exact⟨v',h7,h8.mono (fun _ h=> .inr h) hL⟩
   ·intro i j sz cs Tx cs' hi hj hg;rw[hb]at hi hj;by_cases e:i=H.n;·rw[if_pos e]at hi;cases hi
    ·by_cases e2:j=H.n;·rw[if_pos e2]at hj;cases hj
     ·rw[if_neg e]at hi;rw[if_neg e2]at hj;rw[hL i (hI.rw i _ _ hi).1,hL j (hI.rw j _ _ hj).1]at hg;exact hI.dj i j _ _ _ _ hi hj hg
   ·intro i hi;rcases hi with hi|hi;·subst hi;exact Nat.lt_succ_self _
    ·exact Nat.lt_succ_of_lt (hI.bd i hi)
   ·have hv:=VR.slice (S:=S') (L:=L') H.n 0 xs.length xs.length cap (.inl rfl) rD (Nat.le_refl _) (by rw[uB];simp);rw[uB]at hv;have e:(some (⟨a.block,a.off+0,none⟩:Addr))=some a:=by congr 1;cases a with|mk b o s=>simp at Q0;subst Q0;rfl
    rw[e]at hv;exact hv
   ·refine .mk H.n 0 xs.length xs (Nat.le_refl _) ⟨Nat.lt_succ_self _,xs.map fun x:Nat=>Value.int .u64 (x:Int),?_,?_,fun i x hx=>?_,Nat.zero_le _⟩;·unfold AH.cells;rw[hb,if_pos rfl]
    ·unfold AH.size;rw[hb,if_pos rfl]
    ·rw[Nat.zero_add,List.getElem?_map,hx];rfl
   ·exact⟨Nat.le_succ _,Nat.min_le_left _ _,fun j hj=>by rw[hb,if_neg (by omega)]⟩
end
section
attribute [-simp] Int.natCast_add Int.natCast_mul Int.natCast_ediv Int.natCast_emod Int.natCast_pow
attribute [local simp] strip ZQ Xt LR gW Z6 Yh ZU Yi ZG Yj Zy Zz Zj ZF Yd ZL Z3 Zm ZE Zk Zi Z2 Z1 YK Zr Yg Y1 YT ZJ plain ZM Tr.get_set YU Zt Yw ZS sameKind undef ZZ ZD Yb Zv ZA Yf ZT parts ZB XH DW Ym ZX LX ZV Zs ZI ZR XL Yk Zo ZP ZW ZO
mutual inductive WEx(W:World):List Value->ET->Prop|mk{op:Int}{neg:Bool}{va vd vx:Value}{abs den:List Nat}{args:List ET} :B9 W va abs->B9 W vd den->WXs W vx args->WEx W [.int .i64 op,.bool neg,va,vd,vx] (.node op neg abs den args) inductive WXs(W:World):Value->List ET->Prop|nil:WXs W (.slice none 0 0) []|mk(a:Addr)(cap:Nat){args:List ET}(F:Nat->List Value):args.length<=cap->(∀i,i<args.length->W.cells? 0 (a.add (i*5)) 5=some (F i))->(∀(i:Nat)(t:ET),args[i]?=some t->WEx W (F i) t)->WXs W (.slice (some a) args.length cap) args end
instance:Inhabited ET:=⟨.node 0 false [] [] []⟩
theorem OL{H:Type}{enc:TypeId×Value->H}{W:World}{t:TypeId}{fuel:Nat}{cs:List Value}{x:DataW H×List MemPlace}(ht:Tryz.prog.underlying t=some (.slice 101))(hf:DataW.trod enc Tryz.prog W 0 (fun _=>true) true fuel t cs=some x): ∃v xs,cs=[v]/\YD 18446744073709551616 xs/\xs.length<=Rows.uptoBulk x.1/\B9 W v xs:=by
 rcases Deep.open_slice1 ht cU64 hf with⟨h1,h2⟩|⟨a',iT,VX,m,n,V,D,Pl,h1,_,hl,_,hm,hx,hV⟩;·exact⟨_,[],h1,.nil _,Nat.zero_le _,.inl ⟨rfl,rfl⟩⟩
 ·rw[if_pos rfl]at hm;rw[hm]at hx hV;have hval: ∀i,i<VX-> ∃x:Nat,V i= .int .u64 (x:Int)/\x<18446744073709551616:=fun i hi=>by
   obtain⟨n',c',x',w'⟩:=DataW.trod_int Tryz.underlying101 (hV i hi).2;simp at c';simp only[Lit.wf,Bool.and_eq_true,decide_eq_true_eq]at w';have e1:IntKind.u64.min=0:=by decide
   have e2:IntKind.u64.max=18446744073709551615:=by decide
   exact⟨n'.toNat,by rw[c'];congr 1;omega,by omega⟩
  let f:Nat->Nat:=fun i=>match V i with| .int _ z=>z.toNat|_=>0;have mX: ∀i,i<VX->V i= .int .u64 ((f i:Nat):Int)/\f i<18446744073709551616:=fun i hi=>by
   obtain⟨x,h1,h2⟩:=hval i hi;have:f i=x:=by show(match V i with| .int _ z=>z.toNat|_=>0)=x;rw[h1];simp
   rw[this];exact⟨h1,h2⟩
  refine⟨_,(List.range iT).map f,h1,?_,?_,.inr ⟨a',VX,by simp,by simpa using hl,?_⟩⟩;·intro x hx;obtain⟨i,hi,rfl⟩:=List.mem_map.mp hx;exact(mX i (Nat.lt_of_lt_of_le (List.mem_range.mp hi) hl)).2
  ·rw[hx];have:=CX ((List.range iT).map D) ((List.range (VX-iT)).map fun j=>D (iT+j));simpa using this
  ·intro i x hi;rw[List.getElem?_map]at hi;by_cases yV:i<iT;·rw[List.getElem?_range yV]at hi;cases hi;have hic:i<VX:=Nat.lt_of_lt_of_le yV hl;rw[(hV i hic).1,(mX i hic).1]
   ·rw[List.getElem?_eq_none (by simp;omega)]at hi;cases hi
theorem qE: ∃f0 f1 f2,Tryz.prog.underlying 53=some (.struct #[f0,f1,f2])/\f0.type=50/\f0.offset=0/\f1.type=34/\f1.offset=1/\f2.type=51/\f2.offset=4:=⟨_,_,_,Tryz.underlying53,rfl,rfl,rfl,rfl,rfl,rfl⟩
theorem uU: ∃f0 f1,Tryz.prog.underlying 34=some (.struct #[f0,f1])/\f0.type=32/\f0.offset=0/\f1.type=30/\f1.offset=2:=⟨_,_,Tryz.underlying34,rfl,rfl,rfl,rfl⟩
theorem uT: ∃f0 f1,Tryz.prog.underlying 32=some (.struct #[f0,f1])/\f0.type=4/\f0.offset=0/\f1.type=30/\f1.offset=1:=⟨_,_,Tryz.underlying32,rfl,rfl,rfl,rfl⟩
theorem pW:Tryz.prog.cellsOf 53=5:=by kernel_rfl
theorem rZ:Tryz.prog.cellsOf 34=3:=by kernel_rfl
theorem rY:Tryz.prog.cellsOf 32=2:=by kernel_rfl
theorem w7:Tryz.prog.cellsOf 30=1:=by kernel_rfl
theorem w6:Tryz.prog.cellsOf 4=1:=by kernel_rfl
theorem rz:Tryz.prog.cellsOf 51=1:=by kernel_rfl
theorem Mm{H:Type}{f:Nat->ET}{D:Nat->DataW H} : ∀(l:List Nat),(∀i∈l,(f i).nodes<=Rows.uptoBulk (D i))->Yp (l.map f)<=Rows.uptoBulkAll (l.map D)|[],_=>Nat.le_refl _|i::l,h=>by have h1:=h i (List.mem_cons_self ..);have h2:=Mm l fun j hj=>h j (List.mem_cons_of_mem _ hj);simp only[List.map_cons,Yp,Rows.uptoBulkAll];omega
theorem Gl{H:Type}{f:Nat->ET}{D:Nat->DataW H} : ∀(l:List Nat),(∀i∈l,(f i).wt<=64*Rows.uptoBulk (D i))->Tc (l.map f)<=64*Rows.uptoBulkAll (l.map D)|[],_=>Nat.zero_le _|i::l,h=>by have h1:=h i (List.mem_cons_self ..);have h2:=Gl l fun j hj=>h j (List.mem_cons_of_mem _ hj);simp only[List.map_cons,Tc,Rows.uptoBulkAll];omega
theorem L6{f:Nat->ET}{L:Nat} : ∀(l:List Nat),(∀i∈l,(f i).wide L)->Rv L (l.map f)|[],_=>trivial|i::l,h=>⟨h i (List.mem_cons_self ..),L6 l fun j hj=>h j (List.mem_cons_of_mem _ hj)⟩
theorem bF{H:Type}{enc:TypeId×Value->H}{W:World} : ∀(N:Nat)(d:DataW H),Rows.uptoBulk d<=N-> ∀(fuel:Nat)(cs:List Value)(ps:List MemPlace),DataW.trod enc Tryz.prog W 0 (fun _=>true) true fuel 53 cs=some (d,ps)-> ∃t:ET,WEx W cs t/\(∀L,Rows.uptoBulk d<=L->t.wide L)/\t.nodes<=Rows.uptoBulk d/\t.wt+64<=64*Rows.uptoBulk d:=by intro N;induction N with
 |zero=>intro d hd;have:=KB d;omega
 |succ N ih=>
  intro d hd fuel cs ps h;obtain⟨f0,f1,f2,hu,e1,e2,e3,e4,e5,e6⟩:=qE;obtain⟨y0,y1,y2,n,hx,hl,h0,h1,h2⟩:=Deep.trod_struct3 hu h;rw[e1,e2,cOp]at h0;rw[e3,e4,rZ]at h1;rw[e5,e6,rz]at h2;rw[pW]at hl;obtain⟨g0,g1,Ig,i1,i2,i3,i4⟩:=uU;obtain⟨z0,z1,n2,hx2,C6,j0,j1⟩:=trod_struct2 Ig h1;rw[i1,i2,rY]at j0;rw[i3,i4,w7]at j1;obtain⟨k0,k1,hu3,m1,m2,m3,m4⟩:=uT;obtain⟨w0,w1,n3,hx3,vy,q0,q1⟩:=trod_struct2 hu3 j0;rw[m1,m2,w6]at q0;rw[m3,m4,w7]at q1;obtain⟨op,c0,x0,_⟩:=DataW.trod_int uOp h0;obtain⟨neg,cb,xb⟩:=DataW.trod_bool Tryz.underlying4 q0;obtain⟨va,abs,ca,da,la,ra⟩:=OL uV q1;obtain⟨vd,den,cd,dd,ld,rd⟩:=OL uV j1;simp only[Prod.mk.injEq]at hx;obtain⟨hxd,_⟩:=hx;have Ze:Rows.uptoBulk w1.1+1<=Rows.uptoBulk z0.1:=by rw[hx3];simp only[Rows.uptoBulk,Rows.uptoBulkAll];omega
  have Zp:Rows.uptoBulk z0.1+Rows.uptoBulk z1.1+1<=Rows.uptoBulk y1.1:=by rw[hx2];simp only[Rows.uptoBulk,Rows.uptoBulkAll];omega
  have ZH:Rows.uptoBulk y1.1+Rows.uptoBulk y2.1+1<=Rows.uptoBulk d:=by rw[hxd];simp only[Rows.uptoBulk,Rows.uptoBulkAll];omega
  match cs,hl with
   |[a0,a1,a2,a3,a4],_=>
    simp at c0 cb ca cd h2;subst c0;subst cb;subst ca;subst cd;have u:Tryz.prog.underlying 51=some (.slice 53):=by kernel_rfl
    rcases Deep.open_slice u h2 with⟨p1,p2⟩|⟨a,len,cap,m,nn,D,Pl,p1,_,vZ,_,hm,p2,hV⟩
    ·cases p1;refine⟨.node op neg abs den [],.mk ra rd .nil,fun L hL=>⟨by omega,by omega,da,dd,trivial⟩,?_,?_⟩;·simp only[ET.nodes,Yp];have:=KB d;omega
     ·simp only[ET.wt,Tc];split<;>omega
    ·cases p1;rw[if_pos rfl]at hm;subst hm;rw[pW]at hV p2;have Yt:Rows.uptoBulkAll ((List.range len).map D)+1<=Rows.uptoBulk y2.1:=by rw[p2];simp only[Rows.uptoBulk];omega
     obtain⟨F,hF⟩:=Deep.choose_lt (α:=List Value×ET) (n:=len) (p:=fun i q=>W.cells? 0 (a.add (i*5)) 5=some q.1/\WEx W q.1 q.2/\(∀L,Rows.uptoBulk (D i)<=L->q.2.wide L)/\q.2.nodes<=Rows.uptoBulk (D i)/\q.2.wt+64<=64*Rows.uptoBulk (D i)) (fun i hi=>by obtain⟨cs',s1,s2⟩:=hV i (Nat.lt_of_lt_of_le hi vZ);have hbi:Rows.uptoBulk (D i)<=Rows.uptoBulkAll ((List.range len).map D):=IB (List.mem_map.mpr ⟨i,List.mem_range.mpr hi,rfl⟩);obtain⟨t,t1,t2,t3,t4⟩:=ih (D i) (by omega) _ _ _ s2;exact⟨(cs',t),s1,t1,t2,t3,t4⟩);have hlen:((List.range len).map fun i=>(F i).2).length=len:=by simp
     have hw:WXs W (.slice (some a) ((List.range len).map fun i=>(F i).2).length m) ((List.range len).map fun i=>(F i).2):=by
      refine .mk a m (fun i=>(F i).1) (by rw[hlen];exact vZ) (fun i hi=>(hF i (by rwa[hlen]at hi)).1) (fun i t ht=>?_);have hi:i<len:=by
       rcases Nat.lt_or_ge i len with h|h;·exact h
       ·rw[List.getElem?_eq_none (by rw[hlen];exact h)]at ht;cases ht
      rw[List.getElem?_map,List.getElem?_range hi]at ht;cases ht;exact(hF i hi).2.1
     rw[hlen]at hw;refine⟨.node op neg abs den ((List.range len).map fun i=>(F i).2),.mk ra rd hw,fun L hL=>⟨by omega,by omega,da,dd,L6 _ fun i hi=>?_⟩,?_,?_⟩;·have hi:=List.mem_range.mp hi;have hbi:Rows.uptoBulk (D i)<=Rows.uptoBulkAll ((List.range len).map D):=IB (List.mem_map.mpr ⟨i,List.mem_range.mpr hi,rfl⟩);exact(hF i hi).2.2.1 L (by omega)
     ·have:=Mm (D:=D) (f:=fun i=>(F i).2) (List.range len) fun i hi=>(hF i (List.mem_range.mp hi)).2.2.2.1;simp only[ET.nodes];omega
     ·have:=Gl (D:=D) (f:=fun i=>(F i).2) (List.range len) fun i hi=>Nat.le_trans (Nat.le_add_right _ 64) (hF i (List.mem_range.mp hi)).2.2.2.2;simp only[ET.wt];split<;>omega
theorem ay{W:World}{S:Nat->Prop}{L:Nat->Ev.Loc}{H:AH}(hI:Inv W.heap.size S L H W){g o sz cap:Nat}{cs cs':List Value}(hg:g<W.heap.size)(hc: ∀(k:Nat)(v':Value),cs'[k]?=some v'->W.cell? ⟨g,o+k,none⟩=some v')(hv:UP S L cs cs'): ∃(S':Nat->Prop) (L':Nat->Ev.Loc) (H':AH),Inv W.heap.size S' L' H' W/\(∀i,S i->S' i)/\(∀i,S i->L' i=L i)/\Zh H H'/\H'.cells H.n=some cs/\S' H.n/\L' H.n=⟨g,o,sz,o+cap*sz⟩/\H'.n=H.n+1:=by
 have hn: ∀i,S i->i≠H.n:=fun i hi e=>by have:=hI.bd i hi;omega
 let L':Nat->Ev.Loc:=fun i=>if i=H.n then⟨g,o,sz,o+cap*sz⟩else L i;let S':Nat->Prop:=fun i=>i=H.n\/S i;have hL: ∀i,S i->L' i=L i:=fun i hi=>if_neg (hn i hi);have uB:L' H.n=⟨g,o,sz,o+cap*sz⟩:=if_pos rfl;let H':AH:= { n:=H.n+1,lw:=H.lw,t:=H.t.set H.n (.ro sz cs) };have hb: ∀j,H'.blk j=if j=H.n then .ro sz cs else H.blk j:=fun j=>by
  show(match(H.t.set H.n _).get j with|some b=>b|none=>MV.dead)=_;rw[Tr.get_set];by_cases e:j=H.n;·rw[if_pos e,if_pos e]
  ·rw[if_neg e,if_neg e];rfl
 refine⟨S',L',H',⟨?_,?_,?_,?_,hI.base⟩,fun i hi=> .inr hi,hL,?_,?_,.inl rfl,uB,rfl⟩
 ·intro i dQ Ow hi;rw[hb]at hi;by_cases e:i=H.n;·rw[if_pos e]at hi;cases hi;subst e;rw[uB];refine⟨.inl rfl,hg,rfl,fun k v hk=>?_⟩;obtain⟨v',h1,h2⟩:=hv.get hk;exact⟨v',hc k v' h1,h2.mono (fun _ h=> .inr h) hL⟩
  ·rw[if_neg e]at hi;obtain⟨h1,h2,h3,h4⟩:=hI.ro i dQ Ow hi;rw[hL i h1];refine⟨.inr h1,h2,h3,fun k v hk=>?_⟩;obtain⟨v',h5,h6⟩:=h4 k v hk;exact⟨v',h5,h6.mono (fun _ h=> .inr h) hL⟩
 ·intro i dQ Ow hi;rw[hb]at hi;by_cases e:i=H.n;·rw[if_pos e]at hi;cases hi
  ·rw[if_neg e]at hi;obtain⟨h1,h2,h3,C,e',h4,h5,h6⟩:=hI.rw i dQ Ow hi;rw[hL i h1];refine⟨.inr h1,h2,h3,C,e',h4,h5,fun k v hk=>?_⟩;obtain⟨v',h7,h8⟩:=h6 k v hk;exact⟨v',h7,h8.mono (fun _ h=> .inr h) hL⟩
 ·intro i j dQ Ow Tx cs' hi hj hg;rw[hb]at hi hj;by_cases e:i=H.n;·rw[if_pos e]at hi;cases hi
  ·by_cases e2:j=H.n;·rw[if_pos e2]at hj;cases hj
   ·rw[if_neg e]at hi;rw[if_neg e2]at hj;rw[hL i (hI.rw i _ _ hi).1,hL j (hI.rw j _ _ hj).1]at hg;exact hI.dj i j _ _ _ _ hi hj hg
 ·intro i hi;rcases hi with hi|hi;·subst hi;exact Nat.lt_succ_self _
  ·exact Nat.lt_succ_of_lt (hI.bd i hi)
 ·exact⟨Nat.le_succ _,Nat.min_le_left _ _,fun j hj=>by rw[hb,if_neg (by omega)]⟩
 ·unfold AH.cells;rw[hb,if_pos rfl]
theorem Jn{G:Nat->List Value} : ∀m,(∀i,i<m->(G i).length=5)->(((List.range m).map G).flatten).length=m*5|0,_=>rfl|m+1,h=>by rw[List.range_succ,List.map_append,List.flatten_append,List.length_append,Jn m fun i hi=>h i (by omega)];simp[h m (by omega)];omega
theorem Es{G:Nat->List Value} : ∀m,(∀i,i<m->(G i).length=5)-> ∀i,i<m->((((List.range m).map G).flatten).drop (i*5)).take 5=G i
 |0,_,i,hi=>absurd hi (Nat.not_lt_zero i)
 |m+1,h,i,hi=>by
  have hl:=Jn m fun i hi=>h i (by omega);rw[List.range_succ,List.map_append,List.flatten_append];by_cases e:i=m;·subst e;rw[List.drop_append_of_le_length (by omega),List.drop_of_length_le (by omega),List.nil_append];simp only[List.map_cons,List.map_nil,List.flatten_cons,List.flatten_nil,List.append_nil];rw[List.take_of_length_le (by rw[h i (by omega)];omega)]
  ·rw[List.drop_append_of_le_length (by omega),List.take_append_of_le_length (by rw[List.length_drop];omega)];exact Es m (fun i hi=>h i (by omega)) i (by omega)
theorem Jm{W:World}{a:Addr}(Q0:a.spot=none){F:Nat->List Value} : ∀m,(∀i,i<m->W.cells? 0 (a.add (i*5)) 5=some (F i))-> ∀(k:Nat)(v':Value),(((List.range m).map F).flatten)[k]?=some v'->W.cell? ⟨a.block,a.off+k,none⟩=some v'
 |0,_,k,v',hk=>by simp at hk
 |m+1,h,k,v',hk=>by
  have CD: ∀k,a.add k=⟨a.block,a.off+k,none⟩:=fun k=>by
   unfold Addr.add;by_cases hk:k=0;·subst hk;rw[if_pos rfl];cases a with|mk b o s=>simp at Q0;subst Q0;rfl
   ·rw[if_neg hk]
  have hF: ∀i,i<m+1->(F i).length=5:=fun i hi=>(World.cells?_some (h i hi)).2.1;have hl:=Jn m fun i hi=>hF i (by omega);rw[List.range_succ,List.map_append,List.flatten_append]at hk;by_cases e:k<m*5;·rw[List.getElem?_append_left (by omega)]at hk;exact Jm Q0 m (fun i hi=>h i (by omega)) k v' hk
  ·rw[List.getElem?_append_right (by omega),hl]at hk;simp only[List.map_cons,List.map_nil,List.flatten_cons,List.flatten_nil,List.append_nil]at hk;obtain⟨_,_,h3⟩:=World.cells?_some (h m (by omega));have hj:k-m*5<5:=by
    rcases Nat.lt_or_ge (k-m*5) 5 with h'|h';·exact h'
    ·rw[List.getElem?_eq_none (by rw[hF m (by omega)];exact h')]at hk;cases hk
   have:=h3 (k-m*5) hj;rw[hk,Deep.add_add,CD,show m*5+(k-m*5)=k by omega]at this;exact this
theorem FG{S:Nat->Prop}{L:Nat->Ev.Loc}{G F:Nat->List Value} : ∀m,(∀i,i<m->UP S L (G i) (F i))->UP S L ((List.range m).map G).flatten ((List.range m).map F).flatten|0,_=> .nil|m+1,h=>by rw[List.range_succ,List.map_append,List.flatten_append,List.map_append,List.flatten_append];refine(FG m fun i hi=>h i (by omega)).append ?_;simpa using h m (by omega)
theorem eV{W:World} : ∀(N:Nat)(t:ET),t.nodes<=N-> ∀(cs:List Value),WEx W cs t-> ∀{S:Nat->Prop}{L:Nat->Ev.Loc}{H:AH},Inv W.heap.size S L H W-> ∃(S':Nat->Prop) (L':Nat->Ev.Loc) (H':AH) (vs:List Value),Inv W.heap.size S' L' H' W/\(∀i,S i->S' i)/\(∀i,S i->L' i=L i)/\UP S' L' vs cs/\Ex H' vs t/\Zh H H':=by intro N;induction N with
 |zero=>intro t h;have:=Xu t;omega
 |succ N ih=>intro t ht cs hw S L H hI;cases hw with
  |@mk op neg va vd vx abs den args ra rd rx=>
   simp only[ET.nodes]at ht;obtain⟨S1,L1,H1,wa,I1,s1,l1,r1,q1,k1⟩:=Ae hI ra;obtain⟨S2,L2,H2,wd,I2,s2,l2,r2,q2,k2⟩:=Ae I1 rd;suffices hx: ∃(S':Nat->Prop) (L':Nat->Ev.Loc) (H':AH) (wx:Value),Inv W.heap.size S' L' H' W/\(∀i,S2 i->S' i)/\(∀i,S2 i->L' i=L2 i)/\VR S' L' wx vx/\Xs H' wx args/\Zh H2 H' by obtain⟨S3,L3,H3,wx,I3,s3,l3,r3,q3,k3⟩:=hx;refine⟨S3,L3,H3,[.int .i64 op,.bool neg,wa,wd,wx],I3,fun i h=>s3 i (s2 i (s1 i h)),fun i h=>by rw[l3 i (s2 i (s1 i h)),l2 i (s1 i h),l1 i h],?_,.mk (q1.keep (k2.trans k3)) (q2.keep k3) q3,(k1.trans k2).trans k3⟩;exact .cons (.int .i64 op) (.cons (.bool neg) (.cons ((r1.mono s2 l2).mono s3 l3) (.cons (r2.mono s3 l3) (.cons r3 .nil))))
   cases rx with
    |nil=>exact⟨S2,L2,H2,.slice none 0 0,I2,fun _ h=>h,fun _ _=>rfl,.nilSlice,.nil,.refl _⟩
    |mk a cap F rD hF hE=>
     by_cases h0:args.length=0;·obtain rfl:args=[]:=List.length_eq_zero_iff.mp h0;exact⟨S2,L2,H2,.slice (some ⟨0,0,some 0⟩) 0 0,I2,fun _ h=>h,fun _ _=>rfl,.emp 0 a cap,.emp 0,.refl _⟩
     ·have yZ: ∀i,i<args.length->args[i]?=some (args.getD i default):=fun i hi=>by rw[List.getElem?_eq_getElem hi];simp[List.getD,List.getElem?_eq_getElem hi]
      have key: ∀m,m<=args.length-> ∃(S':Nat->Prop) (L':Nat->Ev.Loc) (H':AH) (G:Nat->List Value),Inv W.heap.size S' L' H' W/\(∀i,S2 i->S' i)/\(∀i,S2 i->L' i=L2 i)/\(∀i,i<m->UP S' L' (G i) (F i)/\Ex H' (G i) (args.getD i default))/\Zh H2 H':=by intro m;induction m with
       |zero=>intro _;exact⟨S2,L2,H2,fun _=>[],I2,fun _ h=>h,fun _ _=>rfl,fun i hi=>absurd hi (Nat.not_lt_zero i),.refl _⟩
       |succ m ihm=>
        intro hm;obtain⟨S3,L3,H3,G,I3,s3,l3,g3,k3⟩:=ihm (by omega);have Kh:=yZ m (by omega);have hn:=So Kh;obtain⟨S4,L4,H4,vs,I4,s4,l4,r4,q4,k4⟩:=ih (args.getD m default) (by omega) (F m) (hE m _ Kh) I3;refine⟨S4,L4,H4,fun i=>if i=m then vs else G i,I4,fun i h=>s4 i (s3 i h),fun i h=>by rw[l4 i (s3 i h),l3 i h],fun i hi=>?_,k3.trans k4⟩;by_cases e:i=m;·subst e;simp only[if_pos];exact⟨r4,q4⟩
        ·simp only[if_neg e];obtain⟨g1,g2⟩:=g3 i (by omega);exact⟨g1.mono s4 l4,g2.keep k4⟩
      obtain⟨S3,L3,H3,G,I3,s3,l3,g3,k3⟩:=key args.length (Nat.le_refl _);have xT:=hF 0 (by omega);obtain⟨_,f1,f2⟩:=World.cells?_some xT;have KY:=f2 0 (by omega);rw[Deep.add_add,List.getElem?_eq_getElem (by omega)]at KY;have ea:a.add (0*5+0)=a:=rfl;rw[ea]at KY;have Q0:a.spot=none:=by have vU:=KY;unfold World.cell? at vU;cases hs:a.spot with
       |none=>rfl
       |some q=>
        rw[hs]at vU;split at vU;·simp at vU
        ·cases vU
      have W2:a.block<W.heap.size:=World.block_lt_of_cell? W a KY;have hG: ∀i,i<args.length->(G i).length=5:=fun i hi=>(g3 i hi).2.len;obtain⟨S4,L4,H4,I4,s4,l4,k4,c4,sn,ln,n4⟩:=ay (g:=a.block) (o:=a.off) (sz:=5) (cap:=cap) (cs:=((List.range args.length).map G).flatten) (cs':=((List.range args.length).map F).flatten) I3 W2 (Jm Q0 args.length hF) (FG args.length fun i hi=>(g3 i hi).1);refine⟨S4,L4,H4,.slice (some ⟨H3.n,0,none⟩) args.length args.length,I4,fun i h=>s4 i (s3 i h),fun i h=>by rw[l4 i (s3 i h),l3 i h],?_,?_,k3.trans k4⟩
      ·have hv:=VR.slice (S:=S4) (L:=L4) H3.n 0 args.length args.length cap sn rD (Nat.le_refl _) (by rw[ln];simp);rw[ln]at hv;have e:(some (⟨a.block,a.off+0,none⟩:Addr))=some a:=by congr 1;cases a with|mk b o s=>simp at Q0;subst Q0;rfl
       rw[e]at hv;exact hv
      ·refine .mk H3.n 0 args.length (by omega) c4 (Nat.le_refl _) fun i t hi=>?_;have YR:i<args.length:=by
        rcases Nat.lt_or_ge i args.length with h'|h';·exact h'
        ·rw[List.getElem?_eq_none h']at hi;cases hi
       rw[Nat.zero_add,Es args.length hG i YR];have:=(g3 i YR).2.keep k4;rw[yZ i YR]at hi;cases hi;exact this
end
end
end Go.Proofs.YtmkfecoeghokfaaGreatDoor
