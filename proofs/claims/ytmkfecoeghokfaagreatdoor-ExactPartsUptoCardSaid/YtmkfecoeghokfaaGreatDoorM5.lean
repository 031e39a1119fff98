/-
  The engine and the walks that the claim's last text leans on, part 5 of 10: Of, Og, Ta, Tb, Tc, Td, Te, Ref, Rt, Make, Rc, Rd, Re, Rf, Rg, Oh, Ok, Pa, Pb.
-/
import Derived.Test.YtmkfecoeghokfaaGreatDoorM4
namespace Go.Proofs.YtmkfecoeghokfaaGreatDoor
open Go Ev
set_option linter.unusedVariables false
set_option linter.unusedSimpArgs false
noncomputable section
set_option maxHeartbeats 2000000
set_option maxRecDepth 20000
section
attribute [-simp] Int.natCast_add Int.natCast_mul Int.natCast_ediv Int.natCast_emod Int.natCast_pow
attribute [local simp] strip ZQ Xt LR gW Z6 Yh ZU Yi ZG Yj Zy Zz Zj ZF Yd ZL Z3 Zm ZE Zk Zi Z2 Z1 YK Zr Yg Y1 YT ZJ plain ZM Tr.get_set YU Zt Yw ZS sameKind undef ZZ ZD Yb Zv ZA Yf ZT parts ZB XH DW Ym ZX LX ZV Zs ZI ZR XL Yk Zo ZP ZW ZO
theorem Hw{H:AH}{bits:Nat}{ms:List (Nat×Nat×Nat)}{sz:Nat}{cs:List Value} :Tp none (H.new sz cs) (grown H ((P0 H bits ms).new sz cs)):=by
 refine⟨rfl,fun j hj _=>?_⟩;have PR:j<H.n+1:=hj;rw[AH.blk_new];have e:(grown H ((P0 H bits ms).new sz cs)).blk j=if H.n<=j then((P0 H bits ms).new sz cs).blk j else H.blk j:=by
  unfold grown;show(match(NN H.t ((P0 H bits ms).new sz cs) H.n (H.n+1-H.n)).get j with|some b=>b|none=>MV.dead)=_;rw[Pk];by_cases c:H.n<=j;·rw[if_pos (by omega),if_pos c]
  ·rw[if_neg (by omega),if_neg c];rfl
 rw[e];by_cases c:j=H.n;·rw[if_pos (by omega),if_pos c,AH.blk_new,if_pos (show j=(P0 H bits ms).n from c)]
 ·rw[if_neg (by omega),if_neg c]
theorem Jo{H:AH}{bits:Nat}{ms:List (Nat×Nat×Nat)}{sz:Nat}{cs:List Value} :Zh H (grown H ((P0 H bits ms).new sz cs)):=by refine⟨Nat.le_succ _,Nat.min_le_left _ _,fun j hj=>?_⟩;have:=(Hw (H:=H) (bits:=bits) (ms:=ms) (sz:=sz) (cs:=cs)).blk j (show j<H.n+1 by omega) (fun e=>by cases e);rw[this,AH.blk_new,if_neg (by omega)]
theorem aw{X:Xs}{P:Program}{C:Cfg}{ops:Array Oper}{k i:Nat}{q:Bool}{ms:List (Nat×Nat×Nat)}{tm:Tr Value}{H:AH}{K:Tr Value->AH->Prop}{o:Oper}{r:List Oper}(x:Nat)(hg:gW tm (Ym ops o)=some true)(hh:ZX o.op=true)(hq:q=false)(he: ∀Hv:AH,Z6 P C (ZY P C) tm Hv o.op=some (.slice (some ⟨Hv.n,0,none⟩) 1 1,Hv.new 1 [Vr x]))(h: ∀G2:AH,Yl H.n G2 (.slice (some ⟨H.n,0,none⟩) 1 1) [x]->Zh H G2->G2.n=H.n+1->match o.dst with|none=>DW X P C ops k (i+1) q ((i,H.n,H.n+1)::ms) r tm G2 K|some d=>d<k/\DW X P C ops k (i+1) q ((i,H.n,H.n+1)::ms) r (tm.set d (.slice (some ⟨H.n,0,none⟩) 1 1)) G2 K)(hf:X.fv i=none:=by first|rfl|kernel_rfl):DG X P C ops k i q ms (o::r) tm H K:=by
 refine YW (v:= .slice (some ⟨H.n,0,none⟩) 1 1) (H2:=(P0 H ((before ops).getD i 0) ms).new 1 [Vr x]) hg hh hq (he _) (Nat.le_succ _) (Nat.le_refl _) ?_ hf;have pD:Nat.blt H.n ((P0 H ((before ops).getD i 0) ms).new 1 [Vr x]).n=true:=by rw[Nat.blt_eq];exact Nat.lt_succ_self _
 rw[pD];exact h _ ((Yl.new H [x]).same Hw) Jo rfl
theorem Ug{i a b:Nat}{ms:List (Nat×Nat×Nat)}(h:cond (Nat.blt a b) [(i,a,b)] []=ms): ∀x∈ms,x.1=i/\a<=x.2.1:=by intro x hx;rw[<-h]at hx;cases mw:Nat.blt a b with|true=>rw[mw,cond_true]at hx;simp at hx;subst hx;exact⟨rfl,Nat.le_refl _⟩|false=>rw[mw,cond_false]at hx;cases hx
theorem CC{B R q r k:Nat}(e:R=B*q+r)(hr:r<B*2^(k+1))(hq:q+2^(k+1)<=4294967296):(B*2^k<=r->R=B*(q+2^k)+(r-B*2^k)/\r-B*2^k<B*2^k/\q+2^k+2^k<=4294967296)/\(r<B*2^k->q+2^k<=4294967296):=by
 have e2:2^(k+1)=2^k+2^k:=by rw[Nat.pow_succ];omega
 rw[e2]at hq;rw[e2,Nat.mul_add]at hr;have hp:=Nat.two_pow_pos k;refine⟨fun h=>⟨?_,by omega,by omega⟩,fun h=>by omega⟩;rw[e,Nat.mul_add];omega
theorem TS{m:Nat}(h:m<9223372036854775807):Zc .sub .i64 (m:Int) 1=some (.int .i64 ((m:Int)-1)):=by show some (Value.int .i64 (IntKind.i64.wrap ((m:Int)-1)))=_;congr 2;rw[IntKind.wrap_i64];omega
theorem N3{m:Nat} :Zc .geq .i64 ((m:Int)-1) 0=some (.bool (decide (0<m))):=by show some (Value.bool (decide ((m:Int)-1≥0)))=_;congr 2;apply decide_eq_decide.mpr;omega
theorem GM{a b:Nat} :Zc .geq .i64 (XS a b) 0=some (.bool (decide (b<=a))):=by
 show some (Value.bool (decide (XS a b≥0)))=_;congr 2;apply decide_eq_decide.mpr;unfold XS;split;·omega
 ·split<;>omega
theorem DY{H:AH}{va vb:Value}{xs ys:List Nat}(ha:Sl H va xs)(hb:Sl H vb ys)(dx:YD Z4 xs)(dy:YD Z4 ys)(ty:YS ys=ys)(lx:xs.length<=4000000000000)(ly:ys.length<=4000000000000)(hy:0<dv Z4 ys):CW Tryz.prog Zw 64 [va,vb] H fun v' H'=>Zh H H'/\ ∃q r,v'= .tuple #[q,r]/\Yl H.n H' q (ds Z4 (dv Z4 xs/dv Z4 ys))/\Yl H.n H' r (ds Z4 (dv Z4 xs%dv Z4 ys)):=by
 refine Z8 60 Tryz.func64 ?_;have l1:=ha.len ZA;obtain⟨n,hn⟩:=hid (xs.length);rw[<-hn]at l1;obtain⟨B,hB⟩:=hid (dv Z4 ys);rw[<-hB]at hy;have mj:B<Z4^ys.length:=by have h1:=Ws dy;rwa[<-hB]at h1
 obtain⟨c0,H1,Qt,k1,o1,n1⟩:=YH (H:=H) ZA (n:=n) (by omega);apply Zb;intro b1 Ze;simp;subst Ze;apply Zb;intro b1 Ze;simp;subst Ze;apply Zb;intro b1 Ze;simp[l1,Qt];subst Ze;apply Zf;intro b1 Ze;apply Zb;intro b2 Zp;simp[l1,TS (m:=n) (by omega)];subst Zp;apply Zu;refine Yv (fun m s'=>s'.k=60/\Zh H s'.H/\m<=n/\ ∃(L:List Nat) (R:Nat) (rv:Value),L.length+m=n/\YD Z4 L/\R<B/\dv Z4 (xs.drop m)=B*dv Z4 L+R/\Yl H.n s'.H c0 (List.replicate m 0++L)/\H1.n<=s'.H.n/\Yl H1.n s'.H rv (ds Z4 R)/\s'.tm.get 0=some va/\s'.tm.get 1=some vb/\s'.tm.get 6=some rv/\s'.tm.get 7=some c0/\s'.tm.get 8=some (.int .i64 ((m:Int)-1))) ?_ n _ ⟨rfl,k1,Nat.le_refl _,[],0,.slice none 0 0,by simp,.nil _,hy,by simp[hn,dv],by simpa using o1,Nat.le_refl _,by rw[XT];exact .nil,by simp,by simp,by simp,by simp,by simp⟩;rintro m ⟨k,tm,H2⟩ ⟨hk,kH,hm,L,R,rv,hL,dL,hR,heq,own,hn1,ro,t0,t1,t6,t7,t8⟩ Q' YF;simp only at hk kH own hn1 ro t0 t1 t6 t7 t8;subst hk;apply Zf;intro b3 ZH;apply Zb;intro b4 Yt;simp[t8,N3];subst Yt;by_cases M6:m=0
 ·subst M6;refine Za (t:=false) (by simp) ?_;apply YZ;apply YF;left;refine⟨rfl,?_⟩;simp at own heq;have hdiv:dv Z4 xs/B=dv Z4 L:=by rw[heq,Nat.mul_add_div hy,Nat.div_eq_of_lt hR,Nat.add_zero]
  have EH:dv Z4 xs%B=R:=by rw[heq,Nat.mul_add_mod,Nat.mod_eq_of_lt hR]
  obtain⟨v5,H5,Kg,e5,o5,_⟩:=VJ own (by omega);subst e5;rw[Xl two32 dL]at o5;subst Ze;apply Zb;intro b4 Yt;simp[t6,t7,Kg];subst Yt;apply Zq;simp;rw[<-hB,hdiv,EH];exact⟨kH,v5,rv,⟨rfl,rfl⟩,o5,ro.mono k1.n (.refl _)⟩
 ·refine Za (t:=true) (by simp;omega) ?_;apply Zl;subst ZH;obtain⟨i,rfl⟩: ∃i,m=i+1:=⟨m-1,by omega⟩;have em:((i+1:Nat):Int)-1=(i:Int):=by omega
  rw[em]at t8;have hi:i<xs.length:=by omega
  have hx:xs[i]<Z4:=dx.get (List.getElem?_eq_getElem hi);have AY:xs.drop i=xs[i]::xs.drop (i+1):=List.drop_eq_getElem_cons hi;have lR:(ds Z4 R).length<=ys.length:=X9 two32 (Nat.lt_trans hR mj);obtain⟨v1,H3,Q9,k3,o3⟩:=PF (H:=H2.top) ro.sl.top (Yu two32 R) (by omega) (n:=32) (by decide);have hc1':ZY Tryz.prog Zw 92 [rv,.int .i64 32] H2.top=some (v1,H3):=Q9;rw[YP two32]at o3;obtain⟨G1,UO⟩:=hid (grown H2 H3);have WO:Zh H2 G1:=by rw[UO];exact Yc (.refl H2) k3
  have kV:Yl H2.n G1 v1 (ds Z4 (R*2^32)):=by rw[UO];exact o3.same (Yo k3)
  have h3n:H2.n<=H3.n:=k3.n;have dS:G1.n=H3.n:=by rw[UO];rfl
  obtain⟨x,Ni⟩:=hid (xs[i]);rw[<-Ni]at hx AY;have a1:ZC Tryz.prog 37 va (.int .i64 (i:Int))=some (adr va i):=ha.adr ZA hi;apply Zf;intro b3 ZH;apply Zu;apply Zf;intro b4 Yt;apply YI (by kernel_rfl);simp[t6];refine YW (v:=v1) (H2:=H3) rfl rfl rfl (by rw[ZN rfl];simp[t6,hc1']) h3n (YM k3) ?_;rw[<-UO];generalize PO:cond (Nat.blt H2.n H3.n) _ _=ms;have X1:=Ug PO;simp[t0,t8,a1];have YO:=fun bits=>(ha.keep (kH.trans (Xp (bits:=bits) WO fun x hx=>(X1 x hx).2))).load hi;rw[<-Ni]at YO;refine ZK (v:= .int .u64 (x:Int)) rfl rfl rfl (by simp[YO]) ?_;simp;refine aw x rfl rfl rfl (fun Hv=>by simp[O4 _ ZA]) ?_;intro G2 oG2 Ih nG2;obtain⟨v7,H7,hc7,e7,o7,_⟩:=VJ oG2.top (by simp);subst e7;have o3'':Yl H2.n G2 v1 (ds Z4 (R*2^32)):=kV.m Ih;have h1x:YD Z4 [x]:= .cons hx (.nil _);have hR32:R*2^32<Z4^(ys.length+1):=by have:R*2^32<Z4^ys.length*2^32:=Nat.mul_lt_mul_of_pos_right (Nat.lt_trans hR mj) (by decide);rw[show Z4^(ys.length+1)=Z4^ys.length*Z4 from rfl,show Z4=2^32 by decide];exact this
  obtain⟨v8,H8,hc8,k8,o8⟩:=LG (H:=G2.top) o3''.sl.top o7.sl (Yu two32 _) (XK h1x) (Nat.le_trans (X9 two32 (k:=ys.length+1) hR32) (by omega)) (by have:=XJ [x];simp at this;omega);rw[YP two32,WX,show dv Z4 [x]=x by simp[dv]]at o8;obtain⟨G3,xO⟩:=hid (grown G2 H8);have kG3:Zh G2 G3:=by rw[xO];exact Yc (.refl G2) k8
  obtain⟨R1,yb⟩:=hid (R*2^32+x);rw[<-yb]at o8;have o8':Yl G2.n G3 v8 (ds Z4 R1):=by rw[xO];exact o8.same (Yo k8)
  have h8n:G2.n<=H8.n:=k8.n;simp;refine ZK (v:=v7) rfl rfl rfl ?_ ?_
  ·rw[ZN (Yq fun x hx=>?_)];·simp[hc7]
   ·rcases List.mem_cons.mp hx with e|e;·rw[e];kernel_rfl
    ·rw[(X1 x e).1];kernel_rfl
  simp;refine YW (v:=v8) (H2:=H8) rfl rfl rfl ?_ h8n (YM k8) ?_
  ·rw[ZN (Yq fun x hx=>?_)];·simp[hc8]
   ·rcases List.mem_cons.mp hx with e|e;·rw[e];kernel_rfl
    ·rw[(X1 x e).1];kernel_rfl
  rw[<-xO];simp;subst Yt;have Ii:Zh H G3:=((kH.trans WO).trans Ih).trans kG3;have RS:=own.mono (Nat.le_refl _) ((WO.trans Ih).trans kG3);have or3:Yl H1.n G3 v8 (ds Z4 R1):=o8'.mono (by have:=WO.n;have:=Ih.n;omega) (.refl G3);have wY:R1<B*2^32:=by have h1:(R+1)*2^32<=B*2^32:=Nat.mul_le_mul_right _ hR;have h2:x<2^32:=hx;rw[Nat.succ_mul]at h1;omega
  apply Zb;intro b4 Yt;simp;subst Yt;refine Y6 (fun s'=>s'.k=60/\Zh G3 s'.H/\ ∃(q r:Nat) (js:Value),q<4294967296/\R1=B*q+r/\r<B/\Yl H1.n s'.H js (ds Z4 r)/\s'.tm.get 0=some va/\s'.tm.get 1=some vb/\s'.tm.get 6=some js/\s'.tm.get 7=some c0/\s'.tm.get 8=some (.int .i64 (i:Int))/\s'.tm.get 9=some (.int .u64 (q:Int))) ?_ ?_
  ·intro KI XW;have hbG:=hb.keep Ii;have hB1:(ds Z4 R1).length<=ys.length+1:=X9 two32 (by have h2:B*2^32<Z4^ys.length*2^32:=Nat.mul_lt_mul_of_pos_right mj (by decide);rw[show Z4^(ys.length+1)=Z4^ys.length*Z4 from rfl,show Z4=2^32 by decide];rw[show Z4=2^32 by decide]at h2;exact Nat.lt_trans wY h2);obtain⟨v9,H9,hc9,e9,e9'⟩:=Rp or3.sl hbG (Yu two32 R1) dy (Tu two32 R1) ty (by omega) (by omega);subst e9;subst e9';rw[YP two32,<-hB]at hc9;apply Zb;intro b4 Yt;simp[t1,hc9,GM];subst Yt;by_cases SM:B<=R1
   ·refine Za (t:=true) (by simp[SM]) ?_;apply Zb;intro b4 Yt;simp;subst Yt;apply Zu;refine Yv (fun kk s'=>s'.k=60/\Zh H9 s'.H/\kk<=32/\ ∃(q r:Nat) (js:Value),q+2^kk<=4294967296/\R1=B*q+r/\r<B*2^kk/\Yl H1.n s'.H js (ds Z4 r)/\s'.tm.get 0=some va/\s'.tm.get 1=some vb/\s'.tm.get 6=some js/\s'.tm.get 7=some c0/\s'.tm.get 8=some (.int .i64 (i:Int))/\s'.tm.get 9=some (.int .u64 (q:Int))/\s'.tm.get 10=some (.int .i64 ((kk:Int)-1))) ?_ 32 _ ⟨rfl,.refl _,Nat.le_refl _,0,R1,v8,by decide,by simp,wY,or3,by simp[t0],by simp[t1],by simp,by simp[t7],by simp[t8],by simp,by simp⟩;clear t0 t1 t6 t7 t8;rintro kk ⟨k,tm,H4⟩ ⟨hk,k4,Kz,q,r,js,hq,ic,hr,tI,t0,t1,t6,t7,t8,t9,t10⟩ Q5 CF;simp only at hk k4 tI t0 t1 t6 t7 t8 t9 t10;subst hk;apply Zf;intro b5 Ui;apply Zb;intro b6 RX;simp[t10,N3];subst RX;by_cases Nf:kk=0;·subst Nf;refine Za (t:=false) (by simp) ?_;apply YZ;apply CF;left;exact⟨rfl,XW _ ⟨rfl,k4,q,r,js,by omega,ic,by simpa using hr,tI,by simp[t0],by simp[t1],by simp[t6],by simp[t7],by simp[t8],by simp[t9]⟩⟩
    ·refine Za (t:=true) (by simp;omega) ?_;apply Zl;subst Ui;obtain⟨s,rfl⟩: ∃s,kk=s+1:=⟨kk-1,by omega⟩;have es:((s+1:Nat):Int)-1=(s:Int):=by omega
     rw[es]at t10;obtain⟨SF,TP⟩:=CC ic hr hq;have hb4':=hbG.keep k4;obtain⟨v5,H5,Kg,k5,o5⟩:=PF (H:=H4) hb4' dy (by omega) (n:=s) (by omega);rw[<-hB]at o5;have or5:=tI.m k5;have rlt:r<=R1:=by rw[ic];omega
     have lr:(ds Z4 r).length<=ys.length+1:=by have h1:=Ed two32 R1;have h2:Z4^(ds Z4 R1).length<=Z4^(ys.length+1):=Nat.pow_le_pow_right (by decide) hB1;exact X9 two32 (by omega)
     have lbs:(ds Z4 (B*2^s)).length<=ys.length+1:=X9 two32 (by have h1:B*2^s<=B*2^32:=Nat.mul_le_mul_left _ (Nat.pow_le_pow_right (by decide) (by omega));have h2:B*2^32<Z4^ys.length*2^32:=Nat.mul_lt_mul_of_pos_right mj (by decide);rw[show Z4^(ys.length+1)=Z4^ys.length*Z4 from rfl,show Z4=2^32 by decide];rw[show Z4=2^32 by decide]at h2;exact Nat.lt_of_le_of_lt h1 h2);obtain⟨v6,H6,hc6,e6,e6'⟩:=Rp or5.sl o5.sl (Yu two32 r) (Yu two32 _) (Tu two32 r) (Tu two32 _) (by omega) (by omega);subst e6;subst e6';rw[YP two32,YP two32]at hc6;apply Zf;intro b5 Ui;apply Zu;apply Zb;intro b6 RX;simp[t1,t10,Kg];subst RX;apply Zb;intro b6 RX;simp[t6,hc6,GM];subst RX;by_cases hs:B*2^s<=r
     ·obtain⟨g1,g2,g3⟩:=SF hs;obtain⟨v7,H7,hc7,k7,o7⟩:=LC or5.sl o5.sl (Yu two32 r) (Yu two32 _) (by omega) (by rw[YP two32,YP two32];exact hs);rw[YP two32,YP two32]at o7;have sp:=Nat.two_pow_pos s;have m1:Y3 .shl .u64 1 (s:Int)=some (.int .u64 ((2^s:Nat):Int)):=by have:=Sq (x:=1) (s:=s) (by omega);rw[Nat.one_mul,Nat.mod_eq_of_lt (by show _<18446744073709551616;omega)]at this;exact this
      have m2:Zc .add .u64 (q:Int) ((2^s:Nat):Int)=some (.int .u64 ((q+2^s:Nat):Int)):=Wf (by show _<18446744073709551616;omega);refine Za (t:=true) (by simp[hs]) ?_;apply Zb;intro b6 RX;simp[t6,hc7];subst RX;apply Zg;simp[t9,t10,m1,m2];subst Ui;apply Zg;simp[t10,TS (m:=s) (by omega)];apply CF;exact⟨s,Nat.lt_succ_self s,rfl,(k4.trans k5).trans k7,by show s<=32;omega,q+2^s,r-B*2^s,v7,g3,g1,g2,o7.mono (by have:=WO.n;have:=Ih.n;have:=kG3.n;have:=k4.n;have:=k5.n;omega) (.refl _),by simp[t0],by simp[t1],by simp,by simp[t7],by simp[t8],by simp,by simp⟩
     ·refine Za (t:=false) (by simp[hs]) ?_;apply Zl;subst Ui;apply Zg;simp[t10,TS (m:=s) (by omega)];apply CF;exact⟨s,Nat.lt_succ_self s,rfl,k4.trans k5,by show s<=32;omega,q,r,js,TP (by omega),ic,by omega,or5,by simp[t0],by simp[t1],by simp[t6],by simp[t7],by simp[t8],by simp[t9],by simp⟩
   ·refine Za (t:=false) (by simp[SM]) ?_;apply Zl;apply XW;exact⟨rfl,.refl _,0,R1,v8,by decide,by simp,by omega,or3,by simp[t0],by simp[t1],by simp,by simp[t7],by simp[t8],by simp⟩
  clear t0 t1 t6 t7 t8;rintro⟨k,tm,H4⟩ ⟨hk,k4,q,r,js,hq,ic,hr,tI,t0,t1,t6,t7,t8,t9⟩;simp only at hk k4 tI t0 t1 t6 t7 t8 t9;subst hk;have VV:=RS.m k4;have ie:List.replicate (i+1) 0++L=List.replicate i 0++0::L:=by rw[List.replicate_succ'];simp
  rw[ie]at VV;have a3:=VV.sl.adr ZA (k:= .i64) (i:=i) (by simp);obtain⟨H5,Xz,QY,n5,b5,WN⟩:=VV.put (i:=i) (by simp) q;rw[WC _ _ _ _ (by simp)]at QY;have fg:Tp (YQ c0) H4 H5:=⟨n5,fun j _ hj=>b5 j hj⟩;have ap:Wq c0 js:=Uy o1 tI (Nat.le_refl _);apply Zg;simp[t7,t8,t9,a3,Xz];subst ZH;apply Zg;simp[t8,TS (m:=i) (by omega)];apply YF;refine⟨i,Nat.lt_succ_self i,rfl,WN H (Ii.trans k4) (Nat.le_refl _),by show i<=n;omega,q::L,r,js,by simp;omega,.cons hq dL,hr,?_,QY,by rw[n5];have:=WO.n;have:=Ih.n;have:=kG3.n;have:=k4.n;omega,tI.but fg ap,by simp[t0],by simp[t1],by simp[t6],by simp[t7],by simp⟩;rw[AY];simp only[dv];rw[heq,Nat.mul_add Z4,Nat.mul_add B,Nat.mul_left_comm B Z4];rw[ic]at yb;have e1:R*2^32=Z4*R:=by rw[Nat.mul_comm]
  omega
theorem uLL:Tryz.prog.underlying 91=some (.slice 25):=by kernel_rfl
theorem Zas:Xn Tryz.prog 25=some 1:=by kernel_rfl
theorem aLst:XR Tryz.prog 25=some false:=by kernel_rfl
structure Ce (n0 : Nat) (H : AH) (b : Nat) (vs : List Value) (f : Nat -> List Nat) : Prop where
  lo : n0 <= b
  hi : b < H.n
  blk : H.blk b = .rw 1 vs
  own : ∀ (i : Nat) (v : Value), vs[i]? = some v -> Yl n0 H v (f i)
  ap : ∀ (i j : Nat) (v w : Value), i ≠ j -> vs[i]? = some v -> vs[j]? = some w -> Wq v w
  out : ∀ (i : Nat) (v : Value), vs[i]? = some v -> YQ v ≠ some b
theorem Yl.isSlice{n0:Nat}{H:AH}{v:Value}{xs:List Nat}(h:Yl n0 H v xs):v.cells=#[v]/\one v=true:=by cases h<;>exact⟨rfl,rfl⟩
section
variable {n0 : Nat} {H : AH} {b : Nat} {vs : List Value} {f : Nat -> List Nat}
theorem Ce.adr(g:Ce n0 H b vs f){k:IntKind}{i:Nat}(hi:i<vs.length):ZC Tryz.prog 91 (.slice (some ⟨b,0,none⟩) vs.length vs.length) (.int k (i:Int))=some (.pointer (some ⟨b,i,none⟩)):=by unfold ZC;simp only[uLL,Zas];rw[if_pos (by omega)];simp
theorem Ce.load(g:Ce n0 H b vs f){i:Nat}(hi:i<vs.length):Z7 Tryz.prog H 25 (.pointer (some ⟨b,i,none⟩))=some vs[i]:=by unfold Z7;simp only[aLst];unfold AH.cells;rw[g.blk];exact List.getElem?_eq_getElem hi
theorem Ce.step(g:Ce n0 H b vs f){H':AH}{i:Nat}(hi:i<vs.length){ys:List Nat}(bt:Tp (YQ vs[i]) H H')(o:Yl n0 H' vs[i] ys):Ce n0 H' b vs (fun j=>if j=i then ys else f j):=by
 have gi:vs[i]?=some vs[i]:=List.getElem?_eq_getElem hi;refine⟨g.lo,by rw[bt.n];exact g.hi,by rw[bt.blk b g.hi (g.out i _ gi)];exact g.blk,fun j v hj=>?_,g.ap,g.out⟩;by_cases e:j=i;·subst e;rw[if_pos rfl];obtain rfl:=Option.some.inj (gi.symm.trans hj);exact o
 ·rw[if_neg e];exact(g.own j v hj).but bt fun c hc=>g.ap i j _ _ (Ne.symm e) gi hj c hc
end
def OD(b:Nat)(vs:List Value)(H H':AH):Prop:=H.n<=H'.n/\ ∀j,j<H.n->j≠b->(∀v∈vs,YQ v≠some j)->H'.blk j=H.blk j
theorem OD.refl(b:Nat)(vs:List Value)(H:AH):OD b vs H H:=⟨Nat.le_refl _,fun _ _ _ _=>rfl⟩
theorem OD.trans{b:Nat}{vs:List Value}{H H1 H2:AH}(x:OD b vs H H1)(y:OD b vs H1 H2):OD b vs H H2:=⟨Nat.le_trans x.1 y.1,fun j hj h1 h2=>(y.2 j (Nat.lt_of_lt_of_le hj x.1) h1 h2).trans (x.2 j hj h1 h2)⟩
theorem OD.but{b i:Nat}{vs:List Value}{v:Value}{H H':AH}(hi:vs[i]?=some v)(bt:Tp (YQ v) H H'):OD b vs H H':=⟨Nat.le_of_eq bt.n.symm,fun j hj _ h2=>bt.blk j hj (h2 v (List.mem_of_getElem? hi))⟩
theorem OD.mod{b i:Nat}{vs:List Value}{v:Value}{H H4 H5:AH}(hi:vs[i]?=some v)(md:Mod (YQ v) H H4)(h5:H5.n=H4.n/\ ∀j,j≠b->H5.blk j=H4.blk j):OD b vs H H5:=⟨by have:=md.n;omega,fun j hj h1 h2=>(h5.2 j h1).trans (md.blk j hj (h2 v (List.mem_of_getElem? hi)))⟩
theorem Ce.putO{n0:Nat}{H H4:AH}{b:Nat}{vs:List Value}{f:Nat->List Nat}(g:Ce n0 H b vs f){i:Nat}(hi:i<vs.length){v':Value}{ys:List Nat}(md:Mod (YQ vs[i]) H H4)(o:Yl H.n H4 v' ys): ∃H5,YX Tryz.prog H4 25 (.pointer (some ⟨b,i,none⟩)) v'=some H5/\Ce n0 H5 b (vs.set i v') (fun j=>if j=i then ys else f j)/\KA n0 H4 H5/\(H5.n=H4.n/\ ∀j,j≠b->H5.blk j=H4.blk j):=by
 have gi:vs[i]?=some vs[i]:=List.getElem?_eq_getElem hi;obtain⟨c1,c2⟩:=o.isSlice;have dq:H4.blk b= .rw 1 vs:=by rw[md.blk b g.hi (g.out i _ gi)];exact g.blk
 have hle:Nat.ble (i+1) vs.length=true:=Nat.ble_eq.mpr (by omega);have hw:H4.write b i [v']=some { n:=H4.n,lw:=min H4.lw b,t:=H4.t.set b (.rw 1 (vs.take i++[v']++vs.drop (i+1))) } :=by rw[AH.write_def,dq];simp only[List.length_singleton,hle,List.all_cons,c2,List.all_nil,Bool.and_self,cond_true]
 have Sf:vs.take i++[v']++vs.drop (i+1)=vs.set i v':=by rw[List.set_eq_take_append_cons_drop,if_pos hi];simp
 rw[Sf]at hw;obtain⟨H5,kh⟩: ∃H5:AH,H5= { n:=H4.n,lw:=min H4.lw b,t:=H4.t.set b (.rw 1 (vs.set i v')) } :=⟨_,rfl⟩;rw[<-kh]at hw;have n5:H5.n=H4.n:=by rw[kh]
 have b5:H5.blk b= .rw 1 (vs.set i v'):=by rw[kh];unfold AH.blk;simp only[Tr.get_set,if_true]
 have o5: ∀j,j≠b->H5.blk j=H4.blk j:=fun j hj=>by rw[kh];unfold AH.blk;simp only[Tr.get_set,if_neg hj]
 have fg:Tp (some b) H4 H5:=⟨n5,fun j _ hj=>o5 j (fun e=>hj (by rw[e]))⟩;have M1:b<H.n:=g.hi;have hn4:=md.n;have rQ: ∀c,YQ v'=some c->H.n<=c:=fun c hc=>(o.blk_lo hc).1;refine⟨H5,?_,⟨g.lo,by rw[n5];omega,b5,?_,?_,?_⟩,?_,n5,o5⟩;·unfold YX;simp only[Zas,c1];rw[show Nat.beq (#[v']:Array Value).size 1=true from rfl,cond_true];exact hw
 ·intro j v hj;rw[List.getElem?_set]at hj;by_cases e:i=j;·subst e;rw[if_pos rfl,if_pos hi]at hj;cases hj;rw[if_pos rfl];exact(o.mono (by have:=g.lo;omega) (.refl _)).but fg fun c hc hv=>by cases hc;have:=rQ _ hv;omega
  ·rw[if_neg e]at hj;rw[if_neg (Ne.symm e)];exact((g.own j v hj).mod md fun c hc=>g.ap i j _ _ e gi hj c hc).but fg fun c hc hv=>by cases hc;exact g.out j v hj hv
 ·intro j k v w hjk hj hk c hc OQ;rw[List.getElem?_set]at hj hk;by_cases e:i=j;·subst e;rw[if_pos rfl,if_pos hi]at hj;cases hj;rw[if_neg hjk]at hk;have h1:=rQ _ hc;have h2:=((g.own k w hk).blk_lo OQ).2;omega
  ·rw[if_neg e]at hj;by_cases e2:i=k;·subst e2;rw[if_pos rfl,if_pos hi]at hk;cases hk;have h1:=rQ _ OQ;have h2:=((g.own j v hj).blk_lo hc).2;omega
   ·rw[if_neg e2]at hk;exact g.ap j k v w hjk hj hk c hc OQ
 ·intro j v hj hv;rw[List.getElem?_set]at hj;by_cases e:i=j;·subst e;rw[if_pos rfl,if_pos hi]at hj;cases hj;have:=rQ _ hv;omega
  ·rw[if_neg e]at hj;exact g.out j v hj hv
 ·intro H0 k hn;have:=k.lw;have:=g.lo;refine⟨by rw[n5];exact k.n,by rw[kh];show min H0.lw H0.n<=min H4.lw b;omega,fun j hj=>?_⟩;rw[o5 j (by omega)];exact k.blk j hj
theorem Cz(H:AH)(a b c d e:Nat):Yz Tryz.prog H 25 5 [(0,.int .u64 (a:Int)),(1,.int .u64 (b:Int)),(2,.int .u64 (c:Int)),(3,.int .u64 (d:Int)),(4,.int .u64 (e:Int))]=some (.slice (some ⟨H.n,0,none⟩) 5 5,H.new 1 ([a,b,c,d,e].map Vr)):=by unfold Yz;simp only[Zax,J9];kernel_rfl
theorem Tt{n:Nat}(h:n<Zd):U9 Tryz.prog 3 101 (.int .i64 (n:Int))=some (.int .u64 (n:Int)):=by
 have h:n<18446744073709551616:=h;have e:IntKind.u64.wrap (n:Int)=(n:Int):=by rw[IntKind.wrap_u64];omega
 unfold U9;simp only[Tryz.underlying3,Tryz.underlying101,e]
theorem jq{x:Nat} :Zc .rem .i64 (x:Int) 251=some (.int .i64 ((x%251:Nat):Int)):=Fz (y:=251) (by decide)
theorem Za1{x:Nat}(h:5*x<9223372036854775808):Zc .mul .i64 5 (x:Int)=some (.int .i64 ((5*x:Nat):Int)):=Fl (x:=5) h
theorem eY{x:Nat}(h:300+x<9223372036854775808):Zc .add .i64 300 (x:Int)=some (.int .i64 ((300+x:Nat):Int)):=Wm (x:=300) h
theorem eU{x y:Nat}(h:x+y<Zd):Zc .add .u64 (x:Int) (y:Int)=some (.int .u64 ((x+y:Nat):Int)):=Wf h
theorem jS{x:Nat}(h:x<9223372036854775808)(hx:5<=x):Zc .sub .i64 (x:Int) 5=some (.int .i64 ((x-5:Nat):Int)):=Oq (y:=5) h hx
theorem eX{x:Nat}(h:x<9223372036854775800):Zc .add .i64 (x:Int) 5=some (.int .i64 ((x+5:Nat):Int)):=Wm (y:=5) (by omega)
def Rj(f:Nat->List Nat)(i:Nat):List Nat:=List.replicate (f i).length (i%251+1)
def QB(f:Nat->List Nat)(i:Nat):List Nat:=Rj f i++[300+5*i,300+5*i+1,300+5*i+2,300+5*i+3,300+5*i+4]
theorem Fq{n0:Nat}{H:AH}{b:Nat}{vs:List Value}{f:Nat->List Nat}(g:Ce n0 H b vs f)(hk:vs.length<=4000000)(hlen: ∀i,(f i).length<=8000000000000):CW Tryz.prog Zw 25 [.slice (some ⟨b,0,none⟩) vs.length vs.length] H fun v H'=>v= .bool true/\KA n0 H H'/\OD b vs H H':=by
 refine Z8 112 Tryz.func25 ?_;have tn: ∀n,SL Tryz.prog 91 (.slice (some ⟨b,0,none⟩) n n)=some n:=fun n=>by unfold SL;rw[uLL]
 apply Zb;intro b1 Ze;simp;subst Ze;refine Y6 (fun s'=>s'.k=112/\KA n0 H s'.H/\OD b vs H s'.H/\Ce n0 s'.H b vs (Rj f)/\s'.tm.get 0=some (.slice (some ⟨b,0,none⟩) vs.length vs.length)) ?_ ?_
 ·intro KI XW;apply Zb;intro b2 Zp;simp[tn];subst Zp;apply Zu;refine Yv (fun m s'=>s'.k=112/\KA n0 H s'.H/\OD b vs H s'.H/\ ∃i,m+i=vs.length/\Ce n0 s'.H b vs (fun j=>if j<i then Rj f j else f j)/\s'.tm.get 0=some (.slice (some ⟨b,0,none⟩) vs.length vs.length)/\s'.tm.get 13=some (.slice (some ⟨b,0,none⟩) vs.length vs.length)/\s'.tm.get 14=some (.int .i64 (vs.length:Int))/\s'.tm.get 15=some (.int .i64 (i:Int))) ?_ vs.length _ ⟨rfl,.refl _ _,.refl ..,0,by omega,by simpa using g,by simp,by simp,by simp,by simp⟩;rintro m ⟨k,tm,H2⟩ ⟨OY,ka,kf,i,NR,g2,t0,t13,t14,t15⟩ Q' YF;simp only at OY ka kf g2 t0 t13 t14 t15;subst OY;apply Zb;intro b3 ZH;simp[t14,t15];subst ZH;apply Zf;intro b3 ZH;by_cases hi:i<vs.length
  ·refine Za (t:=true) (by simp[hi]) ?_;apply Zl;subst ZH;have a1:=g2.adr (k:= .i64) hi;have d1:=g2.load hi;obtain⟨v,hv⟩:=hid (vs[i]);have gi:vs[i]?=some v:=by rw[hv];exact List.getElem?_eq_getElem hi
   rw[<-hv]at d1;have ov:=g2.own i v gi;rw[if_neg (Nat.lt_irrefl i)]at ov;have lv:=ov.sl.len Yf;obtain⟨c,hc⟩:=hid (i%251+1);have cB:c<Zd:=by rw[hc];show _<18446744073709551616;omega
   apply Zf;intro b3 ZH;apply Zu;apply Zb;intro b4 Yt;simp[t13,t15,a1,d1];subst Yt;apply Zb;intro b4 Yt;simp[lv];subst Yt;apply Zu;refine Yv (fun m s'=>s'.k=112/\KA n0 H2 s'.H/\Tp (YQ v) H2 s'.H/\ ∃j,m+j=(f i).length/\Yl n0 s'.H v (List.replicate j c++(f i).drop j)/\s'.tm.get 0=some (.slice (some ⟨b,0,none⟩) vs.length vs.length)/\s'.tm.get 13=some (.slice (some ⟨b,0,none⟩) vs.length vs.length)/\s'.tm.get 14=some (.int .i64 (vs.length:Int))/\s'.tm.get 15=some (.int .i64 (i:Int))/\s'.tm.get 3=some (.int .i64 (i:Int))/\s'.tm.get 4=some v/\s'.tm.get 21=some (.int .i64 ((f i).length:Int))/\s'.tm.get 22=some (.int .i64 (j:Int))) ?_ (f i).length _ ⟨rfl,.refl _ _,.refl _ _,0,by omega,by simpa using ov,by simp[t0],by simp[t13],by simp[t14],by simp[t15],by simp,by simp,by simp,by simp⟩;clear t0 t13 t14 t15;rintro m2 ⟨k,tm,H3⟩ ⟨OY,Nk,ff,j,hmj,o3,t0,t13,t14,t15,t3,t4,t21,t22⟩ Q5 CF;simp only at OY Nk ff o3 t0 t13 t14 t15 t3 t4 t21 t22;subst OY;apply Zb;intro b5 Ui;simp[t21,t22];subst Ui;apply Zf;intro b5 Ui;by_cases hj:j<(f i).length
   ·refine Za (t:=true) (by simp[hj]) ?_;apply Zl;subst Ui;have a2:=o3.sl.adr Yf (k:= .i64) (i:=j) (by simp;omega);have r1:Zc .add .i64 ((i%251:Nat):Int) 1=some (.int .i64 (c:Int)):=by rw[hc];exact Yy (by omega)
    obtain⟨H4,W4,o4,n4,b4',VP⟩:=o3.put (i:=j) (by simp;omega) c;rw[List.drop_eq_getElem_cons hj,WC _ _ _ _ (by simp)]at o4;apply Zf;intro b5 Ui;apply Zu;apply Zb;intro b6 RX;simp[t22];subst RX;apply Zg;simp[t3,t4,jq,r1,Tt cB,a2,W4];subst Ui;apply Zg;simp[t22,Yy (x:=j) (by have:=hlen i;omega)];apply CF;refine⟨m2-1,by omega,rfl,Nk.trans VP,ff.trans ⟨n4,fun q _ hq=>b4' q hq⟩,j+1,by omega,?_,by simp[t0],by simp[t13],by simp[t14],by simp[t15],by simp[t3],by simp[t4],by simp[t21],by simp⟩;rw[List.replicate_succ'];simpa using o4
   ·refine Za (t:=false) (by simp[hj]) ?_;apply YZ;apply CF;left;refine⟨rfl,?_⟩;subst ZH;obtain rfl:j=(f i).length:=by omega
    rw[List.drop_length,List.append_nil]at o3;apply Zg;simp[t15,Yy (x:=i) (by omega)];apply YF;refine⟨m-1,by omega,rfl,ka.trans Nk,kf.trans (.but gi ff),i+1,by omega,?_,by simp[t0],by simp[t13],by simp[t14],by simp⟩;have g3:=g2.step hi (by rw[<-hv];exact ff) (by rw[<-hv];exact o3);have:(fun j=>if j=i then List.replicate (f i).length c else if j<i then Rj f j else f j)=fun j=>if j<i+1 then Rj f j else f j:=by
     funext j;by_cases e:j=i;·subst e;rw[if_pos rfl,if_pos (by omega)];unfold Rj;rw[hc]
     ·rw[if_neg e];by_cases e2:j<i;·rw[if_pos e2,if_pos (by omega)]
      ·rw[if_neg e2,if_neg (by omega)]
    rw[this]at g3;exact g3
  ·refine Za (t:=false) (by simp[hi]) ?_;apply YZ;apply YF;left;refine⟨rfl,XW _ ⟨rfl,ka,kf,⟨g2.lo,g2.hi,g2.blk,fun j v hj=>?_,g2.ap,g2.out⟩,by simp[t0]⟩⟩;have:=g2.own j v hj;rwa[if_pos (by have:=(List.getElem?_eq_some_iff.mp hj).1;omega)]at this
 rintro⟨k,tm,H2⟩ ⟨OY,ka,kf,g2,t0⟩;simp only at OY ka kf g2 t0;subst OY;have fC: ∀i,(Rj f i).length=(f i).length:=fun i=>by unfold Rj;simp
 refine Y6 (fun s'=>s'.k=112/\KA n0 H s'.H/\OD b vs H s'.H/\ ∃TB:List Value,TB.length=vs.length/\Ce n0 s'.H b TB (QB f)/\s'.tm.get 0=some (.slice (some ⟨b,0,none⟩) vs.length vs.length)) ?_ ?_
 ·intro KI XW;apply Zb;intro b2 Zp;simp[t0,tn];subst Zp;apply Zu;refine Yv (fun m s'=>s'.k=112/\KA n0 H s'.H/\OD b vs H s'.H/\ ∃(i:Nat) (TB:List Value),m+i=vs.length/\TB.length=vs.length/\(∀j,i<=j->TB[j]?=vs[j]?)/\Ce n0 s'.H b TB (fun j=>if j<i then QB f j else Rj f j)/\s'.tm.get 0=some (.slice (some ⟨b,0,none⟩) vs.length vs.length)/\s'.tm.get 34=some (.slice (some ⟨b,0,none⟩) vs.length vs.length)/\s'.tm.get 35=some (.int .i64 (vs.length:Int))/\s'.tm.get 36=some (.int .i64 (i:Int))) ?_ vs.length _ ⟨rfl,ka,kf,0,vs,by omega,rfl,fun _ _=>rfl,by simpa using g2,by simp[t0],by simp[t0],by simp,by simp⟩;clear t0 g2 ka kf;rintro m ⟨k,tm,H3⟩ ⟨OY,ka,kf,i,TB,NR,OO,hve,g2,t0,t34,t35,t36⟩ Q' YF;simp only at OY ka kf g2 t0 t34 t35 t36;subst OY;rw[<-OO]at t0 t34;apply Zb;intro b3 ZH;simp[t35,t36];subst ZH;apply Zf;intro b3 ZH;by_cases hi:i<vs.length
  ·refine Za (t:=true) (by simp[hi]) ?_;apply Zl;subst ZH;have V5:i<TB.length:=by omega
   have a1:=g2.adr (k:= .i64) V5;have d1:=g2.load V5;obtain⟨v,hv⟩:=hid (TB[i]);have gi:TB[i]?=some v:=by rw[hv];exact List.getElem?_eq_getElem V5
   rw[<-hv]at d1;have ov:=g2.own i v gi;rw[if_neg (Nat.lt_irrefl i)]at ov;obtain⟨c,hc⟩:=hid (300+5*i);have cB:c<30000000:=by omega
   have r1:Zc .mul .i64 5 (i:Int)=some (.int .i64 ((5*i:Nat):Int)):=Za1 (by omega);have r2:Zc .add .i64 300 ((5*i:Nat):Int)=some (.int .i64 (c:Int)):=by rw[hc];exact eY (by omega)
   have u1:Zc .add .u64 (c:Int) 1=some (.int .u64 ((c+1:Nat):Int)):=eU (y:=1) (by show _<18446744073709551616;omega);have u2:Zc .add .u64 (c:Int) 2=some (.int .u64 ((c+2:Nat):Int)):=eU (y:=2) (by show _<18446744073709551616;omega);have u3:Zc .add .u64 (c:Int) 3=some (.int .u64 ((c+3:Nat):Int)):=eU (y:=3) (by show _<18446744073709551616;omega);have u4:Zc .add .u64 (c:Int) 4=some (.int .u64 ((c+4:Nat):Int)):=eU (y:=4) (by show _<18446744073709551616;omega);have cv:U9 Tryz.prog 3 101 (.int .i64 (c:Int))=some (.int .u64 (c:Int)):=Tt (by show _<18446744073709551616;omega);have Ui:=Cz H3 c (c+1) (c+2) (c+3) (c+4);obtain⟨N,hN⟩:=hid (H3.new 1 ([c,c+1,c+2,c+3,c+4].map Vr));have kN:Zh H3 N:=by rw[hN];exact .new _ _ _
   have oN:Yl H3.n N (.slice (some ⟨H3.n,0,none⟩) 5 5) [c,c+1,c+2,c+3,c+4]:=by rw[hN];exact Yl.new H3 [c,c+1,c+2,c+3,c+4]
   rw[<-hN]at Ui;have gN:n0<=N.n:=by have:=g2.lo;have:=g2.hi;have:=kN.n;omega
   obtain⟨v',H4,Oz,o4,md4,VP⟩:=(ov.m kN).appendN gN oN.sl (by simp) (by rw[fC];have:=hlen i;simp;omega) Yf Yf;have md:Mod (YQ TB[i]) H3 H4:=by rw[<-hv];exact kN.mod.any.trans md4
   obtain⟨H5,Xz,g5,WN,rN⟩:=g2.putO V5 md (o4.mono kN.n (.refl _));have kaN:KA n0 H3 N:=fun H0 k _=>k.trans kN;apply Zf;intro b3 ZH;apply Zu;apply Zb;intro b4 Yt;simp[t34,t36,a1,d1];subst Yt;apply Zb;intro b4 Yt;simp[r1,r2,cv];subst Yt;apply Zb;intro b4 Yt;simp[u1,u2,u3,u4,Ui,Oz];subst Yt;apply Zg;simp[t0,a1,Xz];subst ZH;apply Zg;simp[t36,Yy (x:=i) (by omega)];apply YF;refine⟨m-1,by omega,rfl,((ka.trans kaN).trans VP).trans WN,kf.trans (.mod ((hve i (Nat.le_refl _)).symm.trans gi) (by rw[hv];exact md) rN),i+1,TB.set i v',by omega,by simp[OO],(fun j hj=>by rw[List.getElem?_set_ne (by omega)];exact hve j (by omega)),?_,by simp[t0,OO],by simp[t34,OO],by simp[t35],by simp⟩;have:(fun j=>if j=i then Rj f i++[c,c+1,c+2,c+3,c+4]else if j<i then QB f j else Rj f j)=fun j=>if j<i+1 then QB f j else Rj f j:=by
    funext j;by_cases e:j=i;·subst e;rw[if_pos rfl,if_pos (by omega)];unfold QB;rw[hc]
    ·rw[if_neg e];by_cases e2:j<i;·rw[if_pos e2,if_pos (by omega)]
     ·rw[if_neg e2,if_neg (by omega)]
   rw[this]at g5;exact g5
  ·refine Za (t:=false) (by simp[hi]) ?_;apply YZ;apply YF;left;refine⟨rfl,XW _ ⟨rfl,ka,kf,TB,OO,⟨g2.lo,g2.hi,g2.blk,fun j v hj=>?_,g2.ap,g2.out⟩,by simp[t0,OO]⟩⟩;have:=g2.own j v hj;rwa[if_pos (by have:=(List.getElem?_eq_some_iff.mp hj).1;omega)]at this
 clear t0 g2 ka kf;rintro⟨k,tm,H3⟩ ⟨OY,ka,kf,TB,OO,g2,t0⟩;simp only at OY ka kf g2 t0;subst OY;apply Zf;intro b1 Ze;apply Zb;intro b2 Zp;simp[t0,tn];subst Zp;apply Zu;refine Yv (fun m s'=>s'.k=112/\s'.H=H3/\ ∃i,m+i=vs.length/\s'.tm.get 62=some (.slice (some ⟨b,0,none⟩) TB.length TB.length)/\s'.tm.get 63=some (.int .i64 (vs.length:Int))/\s'.tm.get 64=some (.int .i64 (i:Int))) ?_ vs.length _ ⟨rfl,rfl,0,by omega,by simp[t0,OO],by simp,by simp⟩;clear t0;rintro m ⟨k,tm,H4⟩ ⟨OY,hH,i,NR,t62,t63,t64⟩ Q' YF;simp only at OY hH t62 t63 t64;subst OY;subst hH;apply Zb;intro b3 ZH;simp[t63,t64];subst ZH;apply Zf;intro b3 ZH;by_cases hi:i<vs.length
 ·refine Za (t:=true) (by simp[hi]) ?_;apply Zl;subst ZH;have V5:i<TB.length:=by omega
  have a1:=g2.adr (k:= .i64) V5;have d1:=g2.load V5;obtain⟨v,hv⟩:=hid (TB[i]);have gi:TB[i]?=some v:=by rw[hv];exact List.getElem?_eq_getElem V5
  rw[<-hv]at d1;have ov:=(g2.own i v gi).sl;have lv:=ov.len Yf;obtain⟨L,hL⟩:=hid ((f i).length);have km:(QB f i).length=L+5:=by unfold QB;simp[fC,hL]
  have GH:L<=8000000000000:=by rw[hL];exact hlen i
  rw[km]at lv;have s5:Zc .sub .i64 ((L+5:Nat):Int) 5=some (.int .i64 (L:Int)):=jS (x:=L+5) (by omega) (by omega);apply Zf;intro b3 ZH;apply Zu;apply Zb;intro b4 Yt;simp[t62,t64,a1,d1];subst Yt;apply Zb;intro b4 Yt;simp[lv];subst Yt;apply Zu;refine Yv (fun m s'=>s'.k=112/\s'.H=H4/\ ∃j,m+j=L+5/\s'.tm.get 62=some (.slice (some ⟨b,0,none⟩) TB.length TB.length)/\s'.tm.get 63=some (.int .i64 (vs.length:Int))/\s'.tm.get 64=some (.int .i64 (i:Int))/\s'.tm.get 9=some (.int .i64 (i:Int))/\s'.tm.get 10=some v/\s'.tm.get 69=some v/\s'.tm.get 70=some (.int .i64 ((L+5:Nat):Int))/\s'.tm.get 71=some (.int .i64 (j:Int))) ?_ (L+5) _ ⟨rfl,rfl,0,by omega,by simp[t62],by simp[t63],by simp[t64],by simp,by simp,by simp,by simp,by simp⟩;clear t62 t63 t64;rintro m2 ⟨k,tm,H5⟩ ⟨OY,hH,j,hmj,t62,t63,t64,t9,t10,t69,t70,t71⟩ Q5 CF;simp only at OY hH t62 t63 t64 t9 t10 t69 t70 t71;subst OY;subst hH;apply Zb;intro b5 Ui;simp[t70,t71];subst Ui;apply Zf;intro b5 Ui;by_cases hj:j<L+5
  ·refine Za (t:=true) (by simp[hj]) ?_;apply Zl;subst Ui;have a2:=ov.adr Yf (k:= .i64) (i:=j) (by omega);have d2:=ov.load (i:=j) (by omega);apply Zf;intro b5 Ui;apply Zu;apply Zb;intro b6 RX;simp[t69,t71,a2,d2];subst RX;have fin: ∀Y8:Tr Value,Y8.get 62=some (.slice (some ⟨b,0,none⟩) TB.length TB.length)->Y8.get 63=some (.int .i64 (vs.length:Int))->Y8.get 64=some (.int .i64 (i:Int))->Y8.get 9=some (.int .i64 (i:Int))->Y8.get 10=some v->Y8.get 69=some v->Y8.get 70=some (.int .i64 ((L+5:Nat):Int))->Y8.get 71=some (.int .i64 (j:Int))->W Tryz.prog Zw b5 ⟨112,Y8,H5⟩ Q5:=fun Y8 t62 t63 t64 t9 t10 t69 t70 t71=>by subst Ui;apply Zg;simp[t71,Yy (x:=j) (by omega)];apply CF;exact⟨m2-1,by omega,rfl,rfl,j+1,by omega,by simp[t62],by simp[t63],by simp[t64],by simp[t9],by simp[t10],by simp[t69],by simp[t70],by simp⟩
   apply Zb;intro b6 RX;by_cases hjL:j<L
   ·obtain⟨c,hc⟩:=hid (i%251+1);have hx:(QB f i)[j]'(by omega)=c:=by unfold QB;rw[List.getElem_append_left (by rw[fC];omega)];unfold Rj;rw[List.getElem_replicate,hc]
    have r1:Zc .add .i64 ((i%251:Nat):Int) 1=some (.int .i64 (c:Int)):=by rw[hc];exact Yy (by omega)
    have cv:U9 Tryz.prog 3 101 (.int .i64 (c:Int))=some (.int .u64 (c:Int)):=Tt (by rw[hc];show _<18446744073709551616;omega);have ng: ¬L<=j:=by omega
    simp[t9,t10,hx,lv,s5,hjL,jq,r1,cv,Oh,N2,ng];subst RX;refine Za (t:=false) (by simp) ?_;apply Zl;show W _ _ b5 _ _;exact fin _ (by simp[t62]) (by simp[t63]) (by simp[t64]) (by simp[t9]) (by simp[t10]) (by simp[t69]) (by simp[t70]) (by simp[t71])
   ·obtain⟨d,hjd⟩: ∃d,j=L+d:=⟨j-L,by omega⟩;have hd:d<5:=by omega
    obtain⟨c,hc⟩:=hid (300+5*i+d);have hx?:(QB f i)[j]?=some c:=by
     rw[hjd];unfold QB;rw[List.getElem?_append_right (by rw[fC];omega)];have e:L+d-(Rj f i).length=d:=by rw[fC];omega
     have:d=0\/d=1\/d=2\/d=3\/d=4:=by omega
     rw[e];rcases this with rfl|rfl|rfl|rfl|rfl<;>simp[hc]
    have hx:(QB f i)[j]'(by omega)=c:=Option.some.inj ((List.getElem?_eq_getElem (by omega)).symm.trans hx?);have r1:Zc .mul .i64 5 (i:Int)=some (.int .i64 ((5*i:Nat):Int)):=Za1 (by omega);have r2:Zc .add .i64 300 ((5*i:Nat):Int)=some (.int .i64 ((300+5*i:Nat):Int)):=eY (by omega);have r3:Zc .add .i64 ((300+5*i:Nat):Int) (j:Int)=some (.int .i64 ((300+5*i+j:Nat):Int)):=Wm (by omega);have r4:Zc .sub .i64 ((300+5*i+j:Nat):Int) ((L+5:Nat):Int)=some (.int .i64 ((300+5*i+j-(L+5):Nat):Int)):=Oq (by omega) (by omega);have r5:Zc .add .i64 ((300+5*i+j-(L+5):Nat):Int) 5=some (.int .i64 (c:Int)):=by
     rw[eX (by omega),hc];have:300+5*i+j-(L+5)+5=300+5*i+d:=by omega
     rw[this]
    have cv:U9 Tryz.prog 3 101 (.int .i64 (c:Int))=some (.int .u64 (c:Int)):=Tt (by rw[hc];show _<18446744073709551616;omega);have ng:L<=j:=by omega
    simp[t9,t10,hx,lv,s5,hjL,r1,r2,r3,r4,r5,cv,Oh,N2,ng];subst RX;refine Za (t:=false) (by simp) ?_;apply Zl;show W _ _ b5 _ _;exact fin _ (by simp[t62]) (by simp[t63]) (by simp[t64]) (by simp[t9]) (by simp[t10]) (by simp[t69]) (by simp[t70]) (by simp[t71])
  ·refine Za (t:=false) (by simp[hj]) ?_;apply YZ;apply CF;left;refine⟨rfl,?_⟩;subst ZH;apply Zg;simp[t64,Yy (x:=i) (by omega)];apply YF;exact⟨m-1,by omega,rfl,rfl,i+1,by omega,by simp[t62],by simp[t63],by simp⟩
 ·refine Za (t:=false) (by simp[hi]) ?_;apply YZ;apply YF;left;refine⟨rfl,?_⟩;subst Ze;apply Zb;intro b4 Yt;simp;subst Yt;apply Zq;simp;exact⟨ka,kf⟩
end
section
attribute [-simp] Int.natCast_add Int.natCast_mul Int.natCast_ediv Int.natCast_emod Int.natCast_pow
attribute [local simp] strip ZQ Xt LR gW Z6 Yh ZU Yi ZG Yj Zy Zz Zj ZF Yd ZL Z3 Zm ZE Zk Zi Z2 Z1 YK Zr Yg Y1 YT ZJ plain ZM Tr.get_set YU Zt Yw ZS sameKind undef ZZ ZD Yb Zv ZA Yf ZT parts XH DW Ym ZX LX ZV Zs ZI ZR XL Yk Zo ZP ZW ZO
inductive ET where|node(op:Int)(neg:Bool)(abs den:List Nat)(args:List ET)
mutual def ET.nodes:ET->Nat| .node _ _ _ _ args=>1+Yp args def Yp:List ET->Nat|[]=>0|t::ts=>t.nodes+Yp ts end
mutual def ET.depth:ET->Nat| .node _ _ _ _ args=>max 1 (X3 args) def X3:List ET->Nat|[]=>0|t::ts=>max (t.depth+1) (X3 ts) end
def arity(n:Nat):Nat:=[0,0,1,2,2,2,2,1,2,2,1,1,1,1,1,1][n]?.getD 0
def ET.good:ET->Bool| .node op neg abs den args=>decide (0<=op/\op<16/\args.length=arity op.toNat)&&(if op=0 then decide (0<dv Zd den)else decide (abs.length=0)&&decide (den.length=0)&&!neg)
mutual def ET.allGood:ET->Bool| .node op neg abs den args=>(ET.node op neg abs den args).good&&Wb args def Wb:List ET->Bool|[]=>true|t::ts=>t.allGood&&Wb ts end
mutual def ET.wide(L:Nat):ET->Prop| .node _ _ abs den args=>abs.length<=L/\den.length<=L/\YD Zd abs/\YD Zd den/\Rv L args def Rv(L:Nat):List ET->Prop|[]=>True|t::ts=>t.wide L/\Rv L ts end
theorem Xu(t:ET):0<t.nodes:=by cases t;simp only[ET.nodes];omega
theorem Un(xs ys:List ET):Yp (xs++ys)=Yp xs+Yp ys:=by induction xs with|nil=>simp[Yp]|cons x xs ih=>simp[Yp,ih,Nat.add_assoc]
theorem PU(xs ys:List ET):Wb (xs++ys)=(Wb xs&&Wb ys):=by induction xs with|nil=>simp[Wb]|cons x xs ih=>simp[Wb,ih,Bool.and_assoc]
theorem QF(xs ys:List ET):X3 (xs++ys)=max (X3 xs) (X3 ys):=by induction xs with|nil=>simp[X3]|cons x xs ih=>simp[X3,ih,Nat.max_assoc]
theorem UR{L:Nat}{xs:List ET}(h:Rv L xs){i:Nat}{t:ET}(hi:xs[i]?=some t):t.wide L:=by induction xs generalizing i with
 |nil=>simp at hi
 |cons x xs ih=>cases i with|zero=>simp at hi;subst hi;exact h.1|succ i=>simp at hi;exact ih h.2 hi
theorem So{xs:List ET}{i:Nat}{t:ET}(hi:xs[i]?=some t):t.nodes<=Yp xs:=by induction xs generalizing i with
 |nil=>simp at hi
 |cons x xs ih=>cases i with|zero=>simp at hi;subst hi;simp[Yp]|succ i=>simp at hi;have:=ih hi;simp only[Yp];omega
theorem U1(xs:List ET):xs.length<=Yp xs:=by induction xs with|nil=>simp|cons x xs ih=>have:=Xu x;simp only[Yp,List.length_cons];omega
theorem Pt: ∀n(t:ET),t.nodes<=n->t.depth<=t.nodes:=by intro n;induction n with
 |zero=>intro t h;have:=Xu t;omega
 |succ n ih=>
  intro t h;obtain⟨op,neg,abs,den,args⟩:=t;simp only[ET.nodes]at h;simp only[ET.nodes,ET.depth];have key: ∀l:List ET,Yp l<=n->X3 l<=1+Yp l:=by intro l;induction l with|nil=>intro _;simp[X3]|cons x xs Bf=>intro hl;simp only[Yp]at hl;simp only[X3,Yp];have h1:=ih x (by omega);have h2:=Bf (by omega);have:=Xu x;omega
  have:=key args (by omega);omega
mutual inductive Ex(H:AH):List Value->ET->Prop|mk{op:Int}{neg:Bool}{va vd vx:Value}{abs den:List Nat}{args:List ET} :Sl H va abs->Sl H vd den->Xs H vx args->Ex H [.int .i64 op,.bool neg,va,vd,vx] (.node op neg abs den args) inductive Xs(H:AH):Value->List ET->Prop|nil:Xs H (.slice none 0 0) []|emp(b:Nat):Xs H (.slice (some ⟨b,0,some 0⟩) 0 0) []|mk(b o cap:Nat){cs:List Value}{args:List ET} :b<H.n->H.cells b=some cs->args.length<=cap->(∀(i:Nat)(t:ET),args[i]?=some t->Ex H ((cs.drop (o+i*5)).take 5) t)->Xs H (.slice (some ⟨b,o,none⟩) args.length cap) args end
theorem Tm(H:AH):Zh H H.top:=⟨Nat.le_refl _,by show min H.lw H.n<=H.n;omega,fun _ _=>rfl⟩
theorem Vm{H H':AH}(k:Zh H H'){b:Nat}(hb:b<H.n):H'.cells b=H.cells b:=by unfold AH.cells;rw[k.blk b hb]
theorem mC{H H':AH}(k:Zh H H'): ∀n(t:ET),t.nodes<=n-> ∀vs,Ex H vs t->Ex H' vs t:=by intro n;induction n with
 |zero=>intro t h;have:=Xu t;omega
 |succ n ih=>intro t h vs hx;cases hx with
  |mk h1 h2 h3=>simp only[ET.nodes]at h;refine .mk (h1.keep k) (h2.keep k) ?_;cases h3 with
   |nil=>exact .nil
   |emp b=>exact .emp b
   |mk b o cap hb hc hl hf=>
    rename_i cs;refine .mk b o cap (cs:=cs) (Nat.lt_of_lt_of_le hb k.n) ?_ hl fun i t hi=>?_;·rw[Vm k hb];exact hc
    ·have:=So hi;exact ih t (by omega) _ (hf i t hi)
theorem Ex.keep{H H':AH}{vs:List Value}{t:ET}(h:Ex H vs t)(k:Zh H H'):Ex H' vs t:=mC k _ t (Nat.le_refl _) vs h
theorem Xs.len{H:AH}{v:Value}{args:List ET}(h:Xs H v args):SL Tryz.prog 51 v=some args.length:=by
 have u:Tryz.prog.underlying 51=some (.slice 53):=by kernel_rfl
 unfold SL;rw[u];cases h<;>rfl
theorem pr:XR Tryz.prog 53=some true:=by kernel_rfl
theorem JB:Xn Tryz.prog 53=some 5:=by kernel_rfl
theorem aOp:XR Tryz.prog 50=some false:=by kernel_rfl
theorem MN:XR Tryz.prog 30=some false:=by kernel_rfl
theorem Gw:XR Tryz.prog 51=some false:=by kernel_rfl
theorem L9:XR Tryz.prog 3=some false:=by kernel_rfl
theorem IE:XR Tryz.prog 4=some false:=by kernel_rfl
theorem Z0{H:AH}{t:TypeId}(ht:XR Tryz.prog t=some false){b o:Nat}{cs:List Value}{v:Value}(h:H.cells b=some cs)(hk:cs[o]?=some v):Z7 Tryz.prog H t (.pointer (some ⟨b,o,none⟩))=some v:=by unfold Z7;simp only[ht,h,hk]
theorem R4{H:AH}{b o:Nat}{cs vs:List Value}(h:H.cells b=some cs)(hk:(cs.drop o).take 5=vs)(hl:vs.length=5):Z7 Tryz.prog H 53 (.pointer (some ⟨b,o,none⟩))=some (.agg vs.toArray):=by
 unfold Z7;simp only[pr,JB,AH.read_def,h];have:o+5<=cs.length:=by have:=congrArg List.length hk;rw[List.length_take,List.length_drop,hl]at this;omega
 rw[Nat.ble_eq.mpr this,cond_true,hk]
theorem Ex.len{H:AH}{vs:List Value}{t:ET}(h:Ex H vs t):vs.length=5:=by cases h;rfl
theorem Xs.at{H:AH}{v:Value}{args:List ET}(h:Xs H v args){i:Nat}{t:ET}(hi:args[i]?=some t): ∃(p:Value) (vs:List Value),ZC Tryz.prog 51 v (.int .i64 (i:Int))=some p/\(∀H',Zh H H'->Z7 Tryz.prog H' 53 p=some (.agg vs.toArray))/\Ex H vs t:=by
 have u:Tryz.prog.underlying 51=some (.slice 53):=by kernel_rfl
 have YR:i<args.length:=by
  rcases Nat.lt_or_ge i args.length with h'|h';·exact h'
  ·rw[List.getElem?_eq_none h']at hi;cases hi
 cases h with|nil=>simp at hi|emp b=>simp at hi|mk b o cap hb hc hl hf=>have hE:=hf i t hi;refine⟨.pointer (some ⟨b,o+i*5,none⟩),_,?_,fun H' k=>R4 ((Vm k hb).trans hc) rfl hE.len,hE⟩;unfold ZC;simp only[u,JB];rw[if_pos (by omega)];simp
theorem En(b o:Nat):Yn Tryz.prog 53 (.pointer (some ⟨b,o,none⟩)) 0=some (.pointer (some ⟨b,o,none⟩)):=by kernel_rfl
theorem PY(b o:Nat):Yn Tryz.prog 53 (.pointer (some ⟨b,o,none⟩)) 1=some (.pointer (some ⟨b,o+1,none⟩)):=by kernel_rfl
theorem Ji(b o:Nat):Yn Tryz.prog 53 (.pointer (some ⟨b,o,none⟩)) 2=some (.pointer (some ⟨b,o+4,none⟩)):=by kernel_rfl
theorem fG(b o:Nat):Yn Tryz.prog 34 (.pointer (some ⟨b,o,none⟩)) 0=some (.pointer (some ⟨b,o,none⟩)):=by kernel_rfl
theorem pS(b o:Nat):Yn Tryz.prog 34 (.pointer (some ⟨b,o,none⟩)) 1=some (.pointer (some ⟨b,o+2,none⟩)):=by kernel_rfl
theorem VQ(b o:Nat):Yn Tryz.prog 32 (.pointer (some ⟨b,o,none⟩)) 0=some (.pointer (some ⟨b,o,none⟩)):=by kernel_rfl
theorem NC(b o:Nat):Yn Tryz.prog 32 (.pointer (some ⟨b,o,none⟩)) 1=some (.pointer (some ⟨b,o+1,none⟩)):=by kernel_rfl
theorem Vy(H:AH)(sz:Nat)(cs:List Value)(hz:sz≠0:=by decide):(H.new sz cs).cells H.n=some cs:=AH.cells_rw' (by rw[AH.blk_new,if_pos rfl]) hz
theorem Xe{H:AH}{sz:Nat}{zs ws:List Value}{t:TypeId}{n:Nat}(ht:Xn Tryz.prog t=some n)(hz:zs.length=n){v:Value}(hv:v.cells.toList=ws)(hw:ws.length=n)(h1:ws.all one=true)(zZ:sz≠0:=by decide): ∃H',YX Tryz.prog (H.new sz zs) t (.pointer (some ⟨H.n,0,none⟩)) v=some H'/\Zh H H'/\H'.blk H.n= .rw sz ws/\H'.n=H.n+1:=by
 obtain⟨sz,rfl⟩: ∃k,sz=k+1:=⟨sz-1,by omega⟩;have hb:(H.new (sz+1) zs).blk H.n= .rw (sz+1) zs:=by rw[AH.blk_new,if_pos rfl]
 have hs:v.cells.size=n:=by rw[<-hw,<-hv];simp
 have hle:Nat.ble (0+ws.length) zs.length=true:=Nat.ble_eq.mpr (by omega);refine⟨{ n:=H.n+1,lw:=min H.lw H.n,t:=(H.new (sz+1) zs).t.set H.n (.rw (sz+1) ws) },?_,⟨Nat.le_succ _,Nat.le_refl _,fun j hj=>?_⟩,?_,rfl⟩;·unfold YX;simp only[ht,hs,hv];rw[show Nat.beq n n=true from by simp,cond_true,AH.write_def,hb];simp only[hle,h1,Bool.and_self,cond_true,List.take_zero,List.nil_append];rw[List.drop_of_length_le (by omega),List.append_nil];rfl
 ·unfold AH.blk AH.new;simp only[Tr.get_set];rw[if_neg (by omega),if_neg (by omega)]
 ·unfold AH.blk;simp only[Tr.get_set,if_true]
def RowsIn(H:AH):Prop:=0<H.n/\H.cells 0=some WH
theorem RowsIn.keep{H H':AH}(h:RowsIn H)(k:Zh H H'):RowsIn H':=⟨Nat.lt_of_lt_of_le h.1 k.n,by rw[Vm k h.1];exact h.2⟩
theorem BI: ∀(n:Nat),n<16->WH[n*3+2]?=some (.int .i64 (arity n:Int)):=by intro n hn;match n,hn with|0,_=>rfl|1,_=>rfl|2,_=>rfl|3,_=>rfl|4,_=>rfl|5,_=>rfl|6,_=>rfl|7,_=>rfl|8,_=>rfl|9,_=>rfl|10,_=>rfl|11,_=>rfl|12,_=>rfl|13,_=>rfl|14,_=>rfl|15,_=>rfl|n+16,h=>omega
theorem ir{k:IntKind}{n:Nat}(hn:n<16):ZC Tryz.prog 181 (.pointer (some ⟨0,0,none⟩)) (.int k (n:Int))=some (.pointer (some ⟨0,n*3,none⟩)):=by
 have u:Tryz.prog.underlying 181=some (.array 16 180):=by kernel_rfl
 have s:Xn Tryz.prog 180=some 3:=by kernel_rfl
 unfold ZC;simp only[u,s];rw[if_pos (by omega)];simp
theorem pP(b o:Nat):Yn Tryz.prog 180 (.pointer (some ⟨b,o,none⟩)) 2=some (.pointer (some ⟨b,o+2,none⟩)):=by kernel_rfl
theorem Aw:Nat.blt 0 Zw.ng=true:=rfl
theorem Bt{H:AH}(h:H.cells 0=some WH){n:Nat}(hn:n<16):Z7 Tryz.prog H 3 (.pointer (some ⟨0,n*3+2,none⟩))=some (.int .i64 (arity n:Int)):=Z0 L9 h (BI n hn)
theorem Sm{H:AH}{v:Value}{xs:List Nat}(h:Sl H v xs)(dx:YD Zd xs)(lx:xs.length<=17592186044416):ZY Tryz.prog Zw 123 [v] H=some (.int .i64 (Zn (dv Zd xs):Int),H):=by obtain⟨_,_,hc,rfl,rfl⟩:=Vk h dx lx;exact hc
theorem Th{n:Nat} :Zn n=0↔n=0:=by unfold Zn;split<;>simp_all
theorem Qf{xs:List Nat}(dx:YD Zd xs){L:Nat}(lx:xs.length<=L):Zn (dv Zd xs)<=64*L:=by
 rcases Nat.eq_zero_or_pos (dv Zd xs)with h0|h0;·rw[h0];exact Nat.zero_le _
 ·have h1:=W7 (n:=dv Zd xs) (by omega);have h2:=Ws dx;have h3:Zd^xs.length<=Zd^L:=Nat.pow_le_pow_right (by decide) lx;have h4:Zd^L=2^(64*L):=(Nat.pow_mul 2 64 L).symm;rw[h4]at h3;have:=(Nat.pow_lt_pow_iff_right (a:=2) (by decide)).mp (Nat.lt_of_le_of_lt h1 (Nat.lt_of_lt_of_le h2 h3));omega
theorem rM{x:Nat} :Zc .gtr .i64 (x:Int) 67108864=some (.bool (decide (67108864<x))):=by show some (Value.bool (decide ((x:Int)>67108864)))=_;congr 2;exact decide_eq_decide.mpr (by omega)
theorem rL{k:IntKind}{x:Nat} :Zc .gtr k (x:Int) 0=some (.bool (decide (0<x))):=by show some (Value.bool (decide ((x:Int)>0)))=_;congr 2;exact decide_eq_decide.mpr (by omega)
theorem rU{k:IntKind}{x:Nat} :Zc .eql k (x:Int) 0=some (.bool (decide (x=0))):=by
 show some (Value.bool ((x:Int)==0))=_;congr 2;by_cases h:x=0;·subst h;rfl
 ·rw[decide_eq_false h];simp;omega
theorem neqN{k:IntKind}{x y:Nat} :Zc .neq k (x:Int) (y:Int)=some (.bool (decide (x≠y))):=by
 show some (Value.bool ((x:Int) !=(y:Int)))=_;congr 2;by_cases h:x=y;·subst h;simp
 ·rw[decide_eq_true h];simp[bne];omega
theorem BF{H:AH}{vs:List Value}{op:Int}{neg:Bool}{abs den:List Nat}{args:List ET}(hE:Ex H vs (.node op neg abs den args))(hR:RowsIn H)(da:YD Zd abs)(dd:YD Zd den)(la:abs.length<=1048576)(ld:den.length<=1048576):CW Tryz.prog Zw 96 [.agg vs.toArray] H fun v H'=>Zh H H'/\v= .bool (ET.node op neg abs den args).good:=by cases hE with
 |@mk _ _ va vd vx _ _ _ h1 h2 h3=>
  refine Z8 74 Tryz.func96 ?_;have hN: ∀H':AH,Zh (H.new 1 [.int .i64 op,.bool neg,va,vd,vx]) H'->Zh H H':=fun H' k=>(Zh.new H 1 _).trans k;have kB:=Zh.new H 1 [.int .i64 op,.bool neg,va,vd,vx];have AZ:=Vy H 1 [.int .i64 op,.bool neg,va,vd,vx];have vJ:=(h1.keep kB).len Zv;have zG:=(h2.keep kB).len Zv;have hRB:=hR.keep kB;have c1:=Sm (h1.keep kB) da (by omega);have c2:=Sm (h2.keep kB) dd (by omega);have c1t:=Sm ((h1.keep kB).keep (Tm _)) da (by omega);have c2t:=Sm ((h2.keep kB).keep (Tm _)) dd (by omega);have b1:=Qf da la;have b2:=Qf dd ld;have lx:=h3.len;obtain⟨HB,MS⟩:=hid (H.new 1 [.int .i64 op,.bool neg,va,vd,vx]);rw[<-MS]at kB AZ hRB c1 c2 c1t c2t;have f0:=Z0 aOp (o:=0) AZ rfl;have f1:=Z0 IE (o:=1) AZ rfl;have f2:=Z0 MN (o:=2) AZ rfl;have f3:=Z0 MN (o:=3) AZ rfl;have f4:=Z0 Gw (o:=4) AZ rfl;have g2:Z7 Tryz.prog HB.top 30 (.pointer (some ⟨H.n,2,none⟩))=some va:=Z0 MN (show HB.top.cells H.n=some _ from AZ) rfl;have g3:Z7 Tryz.prog HB.top 30 (.pointer (some ⟨H.n,3,none⟩))=some vd:=Z0 MN (show HB.top.cells H.n=some _ from AZ) rfl;obtain⟨R,N5⟩: ∃R:Bool,R=(ET.node op neg abs den args).good:=⟨_,rfl⟩;rw[<-N5];simp only[ET.good]at N5;apply Zb;intro d1 Ip;simp[Value.cells,<-MS];subst Ip;apply Zf;intro d1 Ip;apply Zf;intro d2 Ib;have no: ∀tm:Tr Value,tm.get 25=some (.bool true)->R=false->W Tryz.prog Zw d2 ⟨74,tm,HB⟩ (Ys Tryz.prog Zw d1 fun ex s=>(ex= .norm\/ex= .ret)/\ ∃vs,ZZ Tryz.prog s [.tmp 2]=some vs/\Zh H s.H/\Yb vs= .bool R):=fun tm ht hno=>by rw[hno];subst Ib;refine Za (t:=true) (by simp[ht]) ?_;apply Zb;intro b2 Zp;simp;subst Zp;apply Zq;simp[Ys];exact kB
  apply Tq (by kernel_rfl);have e0:Zc .lss .i64 op 0=some (.bool (decide (op<0))):=rfl;have e1:Zc .geq .i64 op 16=some (.bool (decide (op≥16))):=rfl;by_cases o1:op<0;·rw[decide_eq_true o1]at e0;simp[En,f0,e0];show W _ _ d2 _ _;exact no _ (by simp) (by rw[N5,decide_eq_false (by omega),Bool.false_and])
  rw[decide_eq_false o1]at e0;by_cases o2:op≥16;·rw[decide_eq_true o2]at e1;simp[En,f0,e0,e1];show W _ _ d2 _ _;exact no _ (by simp) (by rw[N5,decide_eq_false (by omega),Bool.false_and])
  rw[decide_eq_false o2]at e1;obtain⟨n,rfl⟩: ∃n:Nat,op=(n:Int):=⟨op.toNat,by omega⟩;have hn:n<16:=by omega
  rw[Int.toNat_natCast]at N5;have ld2:=Bt hRB.2 hn;have e2:Zc .neq .i64 (args.length:Int) (arity n:Int)=some (.bool (decide (args.length≠arity n))):=neqN;by_cases o3:args.length=arity n
  ·rw[decide_eq_false (fun h=>h o3)]at e2;simp[En,Ji,f0,f4,e0,e1,lx,Aw,ir hn,pP,ld2,e2];subst Ib;refine Za (t:=false) (by simp) ?_;apply Zl;subst Ip;rw[decide_eq_true (show 0<=(n:Int)/\(n:Int)<16/\args.length=arity n from⟨by omega,by omega,o3⟩),Bool.true_and]at N5;clear no;have e3:Zc .eql .i64 (n:Int) 0=some (.bool (decide (n=0))):=rU;apply Zf;intro d1 Ip;apply Zb;intro d2 Ib;simp[En,f0,e3];subst Ib;by_cases h0:n=0
   ·refine Za (t:=true) (by simp[h0]) ?_;rw[if_pos (by omega)]at N5;have g1:Zc .gtr .i64 (Zn (dv Zd abs):Int) 67108864=some (.bool false):=by rw[rM,decide_eq_false (by omega)]
    have g4:Zc .gtr .i64 (Zn (dv Zd den):Int) 67108864=some (.bool false):=by rw[rM,decide_eq_false (by omega)]
    have g5:Zc .gtr .i64 (Zn (dv Zd den):Int) 0=some (.bool R):=by rw[rL,N5];congr 2;exact decide_eq_decide.mpr (by have:=Th (n:=dv Zd den);omega)
    apply Zf;intro d3 Iq;apply NO (by kernel_rfl);simp[PY,fG,pS,NC,g2,g3,c1t,c2t];subst Iq;apply Zf;intro d3 Iq;apply Zb;intro d4 dr;simp[g1,g4];subst dr;refine Za (t:=false) (by simp) ?_;apply Zl;subst Iq;apply Zb;intro d4 dr;simp[g5];subst dr;apply Zq;simp[Ys];exact kB
   ·refine Za (t:=false) (by simp[h0]) ?_;rw[if_neg (by omega)]at N5;apply Zl;subst Ip;apply Zb;intro d3 Iq;have e5:Zc .eql .i64 (abs.length:Int) 0=some (.bool (decide (abs.length=0))):=rU;have e6:Zc .eql .i64 (den.length:Int) 0=some (.bool (decide (den.length=0))):=rU;by_cases i1:abs.length=0
    ·rw[decide_eq_true i1]at e5;by_cases i2:den.length=0;·rw[decide_eq_true i2]at e6;simp[PY,fG,pS,NC,VQ,f1,f2,f3,vJ,zG,e5,e6];subst Iq;apply Zq;simp;exact⟨kB,by rw[N5];simp[i1,i2]⟩
     ·rw[decide_eq_false i2]at e6;simp[PY,fG,pS,NC,VQ,f1,f2,f3,vJ,zG,e5,e6];subst Iq;apply Zq;simp;exact⟨kB,by rw[N5];simp[i1,i2]⟩
    ·rw[decide_eq_false i1]at e5;simp[PY,fG,pS,NC,VQ,f1,f2,f3,vJ,zG,e5];subst Iq;apply Zq;simp;exact⟨kB,by rw[N5];simp[i1]⟩
  ·rw[decide_eq_true o3]at e2;simp[En,Ji,f0,f4,e0,e1,lx,Aw,ir hn,pP,ld2,e2];show W _ _ d2 _ _;exact no _ (by simp) (by rw[N5,decide_eq_false (by omega),Bool.false_and])
def UL(n0:Nat)(H H1:AH):Prop:= ∀H0,Zh H0 H->H0.n<=n0->Zh H0 H1
theorem UL.refl(n0:Nat)(H:AH):UL n0 H H:=fun _ k _=>k
theorem UL.trans{n0:Nat}{H H1 H2:AH}(a:UL n0 H H1)(b:UL n0 H1 H2):UL n0 H H2:=fun H0 k h=>b H0 (a H0 k h) h
theorem Zh.kat{H H':AH}(k:Zh H H')(n0:Nat):UL n0 H H':=fun H0 k0 _=>k0.trans k
theorem DK:Xn Tryz.prog 3=some 1:=by kernel_rfl
theorem BC{H:AH}{t:TypeId}(ht:Xn Tryz.prog t=some 1){b sz:Nat}{x y:Value}(h:H.blk b= .rw sz [x])(hy:y.cells=#[y])(h1:one y=true)(zZ:sz≠0:=by decide): ∃H',YX Tryz.prog H t (.pointer (some ⟨b,0,none⟩)) y=some H'/\H'.blk b= .rw sz [y]/\H'.n=H.n/\(∀j,j≠b->H'.blk j=H.blk j)/\UL b H H':=by
 obtain⟨sz,rfl⟩: ∃k,sz=k+1:=⟨sz-1,by omega⟩;refine⟨{ n:=H.n,lw:=min H.lw b,t:=H.t.set b (.rw (sz+1) [y]) },?_,?_,rfl,fun j hj=>?_,fun H0 k hn=>⟨k.n,?_,fun j hj=>?_⟩⟩;·unfold YX;simp only[ht,hy];rw[show Nat.beq (#[y]:Array Value).size 1=true from rfl,cond_true,AH.write_def,h];simp[h1];rfl
 ·unfold AH.blk;simp only[Tr.get_set,if_true]
 ·unfold AH.blk;simp only[Tr.get_set];rw[if_neg hj]
 ·have:=k.lw;show min H0.lw H0.n<=min H.lw b;omega
 ·unfold AH.blk;simp only[Tr.get_set];rw[if_neg (by omega)];exact k.blk j hj
theorem Za0(a b:Nat):Tv true [.int .i64 (a:Int),.int .i64 (b:Int)]=some (.int .i64 ((max a b:Nat):Int)):=by
 unfold Tv;simp only[sameKind,BEq.rfl,cond_true];congr 2;by_cases h:(a:Int)<b;·rw[if_pos h];omega
 ·rw[if_neg h];omega
theorem wO{x y:Nat}(h:x+y<9223372036854775808):Zc .add .i64 (x:Int) (y:Int)=some (.int .i64 ((x+y:Nat):Int)):=by show some (Value.int .i64 (IntKind.i64.wrap ((x:Int)+y)))=_;rw[<-Int.natCast_add,P1 h]
theorem Vv{x:Nat}(h:x+1<9223372036854775808):Zc .add .i64 (x:Int) 1=some (.int .i64 ((x+1:Nat):Int)):=wO (y:=1) h
theorem J7:Vd Tryz.prog 53=some (.agg #[.int .i64 0,.bool false,.slice none 0 0,.slice none 0 0,.slice none 0 0]):=by kernel_rfl
theorem Ex.ones{H:AH}{vs:List Value}{t:ET}(h:Ex H vs t):vs.all one=true:=by
 have hs: ∀{v:Value}{xs:List Nat},Sl H v xs->one v=true:=fun h=>by cases h<;>rfl
 cases h with
  |mk h1 h2 h3=>
   have h4: ∀{v:Value}{l:List ET},Xs H v l->one v=true:=fun h=>by cases h<;>rfl
   simp only[List.all_cons,List.all_nil,hs h1,hs h2,h4 h3,Bool.and_true];rfl
def dD(H:AH)(b c:Nat)(t:ET)(v:Value)(H':AH):Prop:=v= .tuple #[.bool t.allGood,.int .i64 (t.depth:Int)]/\UL b H H'/\H.n<=H'.n/\H'.blk b= .rw 1 [.int .i64 ((c+t.nodes:Nat):Int)]
theorem Nn{k:IntKind}{x y:Nat} :Zc .lss k (x:Int) (y:Int)=some (.bool (decide (x<y))):=by show some (Value.bool (decide ((x:Int)<y)))=_;congr 2;exact decide_eq_decide.mpr (by omega)
theorem A4{x:Nat}(h:x<=4611686018427387903):Zc .gtr .i64 (x:Int) 4611686018427387903=some (.bool false):=by show some (Value.bool (decide ((x:Int)>4611686018427387903)))=_;congr 2;exact decide_eq_false (by omega)
theorem nb: ∀n(t:ET),t.nodes<=n-> ∀(H0 H:AH)(vs:List Value)(b c deep:Nat),Ex H0 vs t->RowsIn H0->t.wide 1048576->Zh H0 H->H0.n<=b->b<H.n->H.blk b= .rw 1 [.int .i64 (c:Int)]->c+t.nodes<=1000000000->deep+t.nodes<=1000000000->CW Tryz.prog Zw 68 [.agg vs.toArray,.int .i64 (deep:Int),.pointer (some ⟨b,0,none⟩),.int .i64 4611686018427387903] H (dD H b c t):=by intro n;induction n with
 |zero=>intro t h;have:=Xu t;omega
 |succ n ih=>
  intro t ht H0 H vs b c deep hE hR hw k0 hb M1 W2 hc hdp;obtain⟨op,neg,abs,den,args⟩:=t;have hEk:=hE;have hlen:=hE.len;have OP:=hE.ones;obtain⟨wa,wd,da,dd,ws⟩:=hw;simp only[ET.nodes]at ht hc hdp;unfold dD;simp only[ET.nodes];refine Z8 60 Tryz.func68 ?_;have kB:=Zh.new H 1 vs;have fc:(H.new 1 vs).blk H.n= .rw 1 vs:=by rw[AH.blk_new,if_pos rfl]
  have ru:(H.new 1 vs).blk b= .rw 1 [.int .i64 (c:Int)]:=by rw[AH.blk_new,if_neg (by omega)];exact W2
  have nB:(H.new 1 vs).n=H.n+1:=rfl;obtain⟨HB,MS⟩:=hid (H.new 1 vs);rw[<-MS]at kB fc ru nB;have cb:HB.cells b=some [.int .i64 (c:Int)]:=by unfold AH.cells;rw[ru]
  have l1:=Z0 L9 (o:=0) cb rfl;obtain⟨H2,TP,fa,n2,oth2,kY⟩:=BC DK (y:= .int .i64 ((c+1:Nat):Int)) ru rfl rfl;have cb2:H2.cells b=some [.int .i64 ((c+1:Nat):Int)]:=by unfold AH.cells;rw[fa]
  have l2:=Z0 L9 (o:=0) cb2 rfl;have cB2:H2.cells H.n=some vs:=by unfold AH.cells;rw[oth2 H.n (by omega),fc]
  have l3:=R4 (o:=0) cB2 (vs:=vs) (by rw[List.drop_zero,List.take_of_length_le (by omega)]) hlen;have k02:Zh H0 H2:=kY H0 (k0.trans kB) hb;obtain⟨_,H3,c3,k3,rfl⟩:=BF (hEk.keep k02) (hR.keep k02) da dd wa wd;obtain⟨g,hg⟩: ∃g:Bool,g=(ET.node op neg abs den args).good:=⟨_,rfl⟩;rw[<-hg]at c3;have iu:=k02.trans k3;have cB3:H3.cells H.n=some vs:=by rw[Vm k3 (by omega)];exact cB2
  cases hEk with
   |@mk _ _ va vd vx _ _ _ h1 h2 h3=>
    have l4:=Z0 Gw (o:=4) cB3 rfl;have lx:=h3.len;have la:=U1 args;have q1:=A4 (x:=c+1) (by omega);have q2:=A4 (x:=deep) (by omega);have lO:H3.blk b= .rw 1 [.int .i64 ((c+1:Nat):Int)]:=by rw[k3.blk b (by omega)];exact fa
    have Nk:UL b H H3:=((kB.kat b).trans kY).trans (k3.kat b);have n3:=k3.n;apply Zb;intro d1 Ip;simp[Value.cells,<-MS];subst Ip;apply Zb;intro d1 Ip;simp[l1,Vv (x:=c) (by omega),TP];subst Ip;apply Zf;intro d1 Ip;apply Zb;intro d2 Ib;simp[l2,q1,q2];subst Ib;refine Za (t:=false) (by simp) ?_;apply Zl;subst Ip;apply Zb;intro d1 Ip;simp only[List.toArray]at c3 l3;simp[l3,c3];subst Ip;apply Zb;intro d1 Ip;simp;subst Ip;apply Zf;intro d1 Ip;apply Zb;intro d2 Ib;simp[Ji,l4,lx];subst Ib;apply Zu;obtain⟨m0,M6⟩:=hid (args.length);rw[<-M6]at lx la;refine Yv (fun m s'=>s'.k=60/\Zh H0 s'.H/\UL b H s'.H/\H3.n<=s'.H.n/\ ∃(i:Nat) (ok:Bool) (d:Nat),m+i=m0/\ok=(g&&Wb (args.take i))/\d=max 1 (X3 (args.take i))/\s'.H.blk b= .rw 1 [.int .i64 ((c+1+Yp (args.take i):Nat):Int)]/\s'.tm.get 1=some (.int .i64 (deep:Int))/\s'.tm.get 2=some (.pointer (some ⟨b,0,none⟩))/\s'.tm.get 3=some (.int .i64 4611686018427387903)/\s'.tm.get 10=some (.bool ok)/\s'.tm.get 11=some (.int .i64 (d:Int))/\s'.tm.get 34=some vx/\s'.tm.get 35=some (.int .i64 (m0:Int))/\s'.tm.get 36=some (.int .i64 (i:Int))) ?_ m0 _ ⟨rfl,iu,Nk,Nat.le_refl _,0,g,1,by omega,by simp[Wb],by simp[X3],by simpa[Yp]using lO,by simp,by simp,by simp,by simp,by simp,by simp,by simp[M6],by simp⟩;rintro m ⟨k,tm,H4⟩ ⟨hk,kH,kaH,hn4,i,ok,d,NR,Sd,hd,Ij,t1,t2,t3,t10,t11,t34,t35,t36⟩ Q' YF;simp only at hk kH kaH hn4 Ij t1 t2 t3 t10 t11 t34 t35 t36;subst hk;apply Zb;intro d3 Iq;simp[t35,t36,Nn];subst Iq;apply Zf;intro d3 Iq;by_cases hi:i<m0
    ·refine Za (t:=true) (by simp[hi]) ?_;apply Zl;subst Iq;obtain⟨x,hx⟩: ∃x,args[i]?=some x:=⟨_,List.getElem?_eq_getElem (by omega)⟩;have Ie:args.take (i+1)=args.take i++[x]:=by rw[List.take_add_one,hx];rfl
     have RV:Yp (args.take (i+1))=Yp (args.take i)+x.nodes:=by rw[Ie,Un];simp[Yp]
     have hle:Yp (args.take (i+1))<=Yp args:=by have:=Un (args.take (i+1)) (args.drop (i+1));rw[List.take_append_drop]at this;omega
     obtain⟨p,us,ha5,hl5,gq⟩: ∃(p:Value) (us:List Value),ZC Tryz.prog 51 vx (.int .i64 (i:Int))=some p/\Z7 Tryz.prog H4 53 p=some (.agg us.toArray)/\Ex H0 us x:=by obtain⟨p,us,e1,e2,e3⟩:=h3.at hx;exact⟨p,us,e1,e2 _ kH,e3⟩
     obtain⟨H5,Xz,k5,KD,n5⟩:=Xe (H:=H4) (sz:=1) (zs:=[.int .i64 0,.bool false,.slice none 0 0,.slice none 0 0,.slice none 0 0]) JB rfl (v:= .agg us.toArray) (ws:=us) (by simp[Value.cells]) gq.len gq.ones;have c5:H5.cells H4.n=some us:=by unfold AH.cells;rw[KD]
     have l5:=R4 (o:=0) c5 (vs:=us) (by rw[List.drop_zero,List.take_of_length_le (by rw[gq.len];omega)]) gq.len;have Ui:H5.blk b= .rw 1 [.int .i64 ((c+1+Yp (args.take i):Nat):Int)]:=by rw[k5.blk b (by omega)];exact Ij
     have vT:=So hx;obtain⟨_,H6,c6,rfl,Vg,n6,lK⟩:=ih x (by omega) H0 H5 us b (c+1+Yp (args.take i)) (deep+1) gq hR (UR ws hx) (kH.trans k5) hb (by omega) Ui (by omega) (by omega);have k06:Zh H0 H6:=Vg H0 (kH.trans k5) hb;have zP:UL b H H6:=(kaH.trans (k5.kat b)).trans Vg;apply Zf;intro d3 Iq;apply Zu;apply Zb;intro d4 dr;simp[t34,t36,ha5,hl5,J7,Value.cells,Xz];subst dr;apply Zb;intro d4 dr;simp[t1,t2,t3,l5,Vv (x:=deep) (by omega),c6];subst dr;apply Zb;intro d4 dr;cases ok with
      |true=>
       simp[t10];subst dr;have xd:=Pt _ x (Nat.le_refl _);apply Zg;simp[t11,Vv (x:=x.depth) (by omega),Za0];subst Iq;apply Zg;simp[t36,Vv (x:=i) (by omega)];apply YF;refine⟨m-1,by omega,rfl,k06,zP,by simp;omega,i+1,x.allGood,max d (x.depth+1),by omega,?_,?_,?_,by simp[t1],by simp[t2],by simp[t3],by simp,by simp,by simp[t34],by simp[t35],by simp⟩;·rw[Ie,PU,<-Bool.and_assoc,<-Sd];simp[Wb]
       ·rw[Ie,QF,hd];simp[X3,Nat.max_assoc]
       ·show H6.blk b=_;rw[lK,RV];congr 4;omega
      |false=>
       simp[t10];subst dr;have xd:=Pt _ x (Nat.le_refl _);apply Zg;simp[t11,Vv (x:=x.depth) (by omega),Za0];subst Iq;apply Zg;simp[t36,Vv (x:=i) (by omega)];apply YF;refine⟨m-1,by omega,rfl,k06,zP,by simp;omega,i+1,false,max d (x.depth+1),by omega,?_,?_,?_,by simp[t1],by simp[t2],by simp[t3],by simp,by simp,by simp[t34],by simp[t35],by simp⟩;·rw[Ie,PU,<-Bool.and_assoc,<-Sd];simp
       ·rw[Ie,QF,hd];simp[X3,Nat.max_assoc]
       ·show H6.blk b=_;rw[lK,RV];congr 4;omega
    ·refine Za (t:=false) (by simp[hi]) ?_;apply YZ;apply YF;left;refine⟨rfl,?_⟩;obtain rfl:i=m0:=by omega
     rw[List.take_of_length_le (by omega)]at Sd hd Ij;subst Ip;apply Zb;intro d4 dr;simp[t10,t11];subst dr;apply Zq;simp;refine⟨⟨?_,?_⟩,kaH,by omega,?_⟩;·rw[Sd,hg];simp[ET.allGood]
     ·rw[hd];simp[ET.depth]
     ·rw[Ij];congr 4;omega
structure Qc (H : AH) (vs : List Value) (t : ET) : Prop where
  ex : Ex H vs t
  rows : RowsIn H
  wide : t.wide 1048576
  nodes : t.nodes <= 2000000
theorem Qc.keep{H H':AH}{vs:List Value}{t:ET}(h:Qc H vs t)(k:Zh H H'):Qc H' vs t:=⟨h.ex.keep k,h.rows.keep k,h.wide,h.nodes⟩
theorem uO:Vd Tryz.prog 3=some (.int .i64 0):=by kernel_rfl
def W0(t:ET):Nat:=if t.allGood=false then 152 else if 4000<t.nodes\/200<t.depth then 151 else 0
theorem bV{H:AH}{vs:List Value}{t:ET}(h:Qc H vs t): ∃H2,YX Tryz.prog ((H.new 1 vs).new 1 [.int .i64 0]) 3 (.pointer (some ⟨H.n+1,0,none⟩)) (.int .i64 0)=some H2/\Z7 Tryz.prog H2 53 (.pointer (some ⟨H.n,0,none⟩))=some (.agg vs.toArray)/\ ∃H3,ZY Tryz.prog Zw 68 [.agg vs.toArray,.int .i64 1,.pointer (some ⟨H.n+1,0,none⟩),.int .i64 4611686018427387903] H2=some (.tuple #[.bool t.allGood,.int .i64 (t.depth:Int)],H3)/\Zh H H3/\Z7 Tryz.prog H3 3 (.pointer (some ⟨H.n+1,0,none⟩))=some (.int .i64 (t.nodes:Int)):=by
 have kB:=Zh.new H 1 vs;have fc:(H.new 1 vs).blk H.n= .rw 1 vs:=by rw[AH.blk_new,if_pos rfl]
 have nB:(H.new 1 vs).n=H.n+1:=rfl;obtain⟨HB,MS⟩:=hid (H.new 1 vs);rw[<-MS]at kB fc nB⊢;obtain⟨H2,TP,k2,fa,n2⟩:=Xe (H:=HB) (sz:=1) (zs:=[.int .i64 0]) DK rfl (v:= .int .i64 0) (ws:=[.int .i64 0]) rfl rfl rfl;rw[nB]at TP fa;have cB2:H2.cells H.n=some vs:=by rw[Vm k2 (by omega)];unfold AH.cells;rw[fc]
 have l2:=R4 (o:=0) cB2 (vs:=vs) (by rw[List.drop_zero,List.take_of_length_le (by rw[h.ex.len];omega)]) h.ex.len;obtain⟨_,H3,c3,rfl,Nk,n3,lO⟩:=nb _ t (Nat.le_refl _) H H2 vs (H.n+1) 0 1 h.ex h.rows h.wide (kB.trans k2) (Nat.le_succ _) (by omega) fa (by have:=h.nodes;omega) (by have:=h.nodes;omega);rw[Nat.zero_add]at lO;have c3:ZY Tryz.prog Zw 68 [.agg vs.toArray,.int .i64 1,.pointer (some ⟨H.n+1,0,none⟩),.int .i64 4611686018427387903] H2=some (.tuple #[.bool t.allGood,.int .i64 (t.depth:Int)],H3):=c3;refine⟨H2,TP,l2,H3,c3,Nk H (kB.trans k2) (Nat.le_succ _),Z0 L9 (cs:=[.int .i64 (t.nodes:Int)]) ?_ rfl⟩;unfold AH.cells;rw[lO]
section
variable {H : AH} {vs : List Value} {t : ET}
theorem Za9(H:AH)(sz:Nat)(cs:List Value):(H.new sz cs).n=H.n+1:=rfl
theorem gg{k:IntKind}{x y:Nat}{z:Int}(hz:z=(y:Int)):Zc .gtr k (x:Int) z=some (.bool (decide (y<x))):=by subst hz;show some (Value.bool (decide ((x:Int)>(y:Int))))=_;congr 2;exact decide_eq_decide.mpr (by omega)
theorem O6(h:Qc H vs t): ∃H',ZY Tryz.prog Zw 28 [.agg vs.toArray] H=some (.int .i64 (W0 t:Int),H')/\Zh H H':=by
 suffices hs:CW Tryz.prog Zw 28 [.agg vs.toArray] H fun v H'=>v= .int .i64 (W0 t:Int)/\Zh H H' by obtain⟨_,H',hc,rfl,k⟩:=hs;exact⟨H',hc,k⟩
 obtain⟨H2,st,ld,H3,lc,k3,ln⟩:=bV h;obtain⟨C,hC⟩:=hid (W0 t);rw[<-hC];unfold W0 at hC;refine Z8 21 Tryz.func28 ?_;apply Zb;intro b1 Ze;simp[Value.cells];subst Ze;apply Zb;intro b1 Ze;simp[uO,Value.cells,Za9,st];subst Ze;apply Zb;intro b1 Ze;simp[ld,lc];subst Ze;apply Zf;intro b1 Ze;apply Zu;apply Zb;intro b2 Zp;simp;subst Zp;obtain⟨g,hg⟩:=hid (t.allGood);rw[<-hg]at hC⊢;cases g with
  |false=>rw[if_pos rfl]at hC;subst hC;refine Za (t:=true) (by simp) ?_;apply Zb;intro b2 Zp;simp;subst Zp;apply Zq;simp[Ys,Ye];exact k3
  |true=>
   rw[if_neg (by decide)]at hC;refine Za (t:=false) (by simp) ?_;have g1:Zc .gtr .i64 (t.nodes:Int) 4000=some (.bool (decide (4000<t.nodes))):=gg (y:=4000) rfl;have g2:Zc .gtr .i64 (t.depth:Int) 200=some (.bool (decide (200<t.depth))):=gg (y:=200) rfl;apply Zb;intro b2 Zp;by_cases h1:4000<t.nodes;·rw[decide_eq_true h1]at g1;rw[if_pos (.inl h1)]at hC;subst hC;simp[ln,g1];subst Zp;refine Za (t:=true) (by simp) ?_;apply Zb;intro b2 Zp;simp;subst Zp;apply Zq;simp[Ys,Ye];exact k3
   ·rw[decide_eq_false h1]at g1;by_cases h2:200<t.depth;·rw[decide_eq_true h2]at g2;rw[if_pos (.inr h2)]at hC;subst hC;simp[ln,g1,g2];subst Zp;refine Za (t:=true) (by simp) ?_;apply Zb;intro b2 Zp;simp;subst Zp;apply Zq;simp[Ys,Ye];exact k3
    ·rw[decide_eq_false h2]at g2;rw[if_neg (by omega)]at hC;subst hC;simp[ln,g1,g2];subst Zp;refine Za (t:=false) (by simp) ?_;apply Zl;subst Ze;apply Zb;intro b2 Zp;simp;subst Zp;apply Zq;simp;exact k3
end
theorem mulN{x y:Nat}(h:x*y<9223372036854775808):Zc .mul .i64 (x:Int) (y:Int)=some (.int .i64 ((x*y:Nat):Int)):=by show some (Value.int .i64 (IntKind.i64.wrap ((x:Int)*y)))=_;rw[<-Int.natCast_mul,P1 h]
theorem aQ{n:Nat}(h:n<9223372036854775808):U9 Tryz.prog 3 228 (.int .i64 (n:Int))=some (.int .u64 (n:Int)):=by
 have e:IntKind.u64.wrap (n:Int)=(n:Int):=by rw[IntKind.wrap_u64];omega
 unfold U9;simp only[Tryz.underlying3,Tryz.underlying228,e]
section
variable {H : AH} {vs : List Value} {t : ET}
end
end
section
attribute [-simp] Int.natCast_add Int.natCast_mul Int.natCast_ediv Int.natCast_emod Int.natCast_pow
attribute [local simp] strip ZQ Xt LR gW Z6 Yh ZU Yi ZG Yj Zy Zz Zj ZF Yd ZL Z3 Zm ZE Zk Zi Z2 Z1 YK Zr Yg Y1 YT ZJ plain ZM Tr.get_set YU Zt Yw ZS sameKind undef ZZ ZD Yb Zv ZA Yf ZT parts ZB XH DW Ym ZX LX ZV Zs ZI ZR XL Yk Zo ZP ZW ZO
abbrev WT:Nat:=2000000000000
theorem VM{xs:List Nat}(dx:YD Zd xs):(ds Zd (dv Zd xs)).length<=xs.length:=X9 Z9 (Ws dx)
theorem Uz{B:Nat}(hB:2<=B){n m:Nat}(h:n<=m):(ds B n).length<=(ds B m).length:=X9 hB (Nat.lt_of_le_of_lt h (Ed hB m))
theorem Vn{B n:Nat}(hB:2<=B):0<(ds B n).length↔0<n:=by
 constructor
 ·intro h;rcases Nat.eq_zero_or_pos n with h0|h0;·subst h0;rw[XT]at h;cases h
  ·exact h0
 ·intro h;rw[TM hB (by omega)];simp
theorem Wr{B n:Nat}(hB:2<=B):(ds B n).length=0↔n=0:=by have:=Vn (n:=n) hB;omega
theorem eI{N:Nat}(h:0<(ds Z4 N).length):Zn N=32*((ds Z4 N).length-1)+Zn ((ds Z4 N)[(ds Z4 N).length-1])/\(ds Z4 N)[(ds Z4 N).length-1]<Z4:=by
 have hN:0<N:=(Vn two32).mp h;obtain⟨k,hk⟩:=hid ((ds Z4 N).length-1);have YR:k<(ds Z4 N).length:=by omega
 have e:=Sx Z4 (ds Z4 N) k (by omega);rw[YP two32,List.drop_eq_getElem_cons YR,List.drop_eq_nil_of_le (by omega)]at e;simp only[dv,Nat.mul_zero,Nat.add_zero]at e;have hl:=Ws ((Yu two32 N).take k);rw[List.length_take,Nat.min_eq_left (by omega)]at hl;have hd:(ds Z4 N)[k]<Z4:=(Yu two32 N).get (List.getElem?_eq_getElem YR);have SM:=fV two32 (n:=N) (by omega);rw[<-hk]at SM;have hp:Z4^k=2^(32*k):=by rw[Nat.pow_mul]
 rw[hp]at SM e hl;have e2:(ds Z4 N)[(ds Z4 N).length-1]=(ds Z4 N)[k]:=by simp only[hk]
 rw[e2,<-hk];refine⟨?_,hd⟩;have hs:=Tg SM;have hq:N/2^(32*k)=(ds Z4 N)[k]:=by generalize(ds Z4 N)[k]=t at*;generalize dv Z4 ((ds Z4 N).take k)=u at*;rw[e,Nat.add_mul_div_left _ _ (Nat.two_pow_pos _),Nat.div_eq_of_lt hl,Nat.zero_add]
 rw[hq]at hs;exact hs
theorem aZ{x:Nat}(h:x<Z4):Zn x<=32:=by
 rcases Nat.lt_or_ge 32 (Zn x)with h1|h1
 ·have h0:x≠0:=by rintro rfl;simp[Zn]at h1
  have a:=W7 h0;have b:2^32<=2^(Zn x-1):=Nat.pow_le_pow_right (by decide) (by omega);have hx:x<4294967296:=h;omega
 ·exact h1
theorem dig1{x:Nat}(h:x<Zd):YD Zd [x]:= .cons h (.nil _)
theorem dv1(x:Nat):dv Zd [x]=x:=by simp[dv]
theorem ds1{x:Nat}(h0:x≠0)(h:x<Zd):ds Zd x=[x]:=by rw[TM Z9 h0,Nat.mod_eq_of_lt h,Nat.div_eq_of_lt h,XT]
theorem Pq(H:AH){t:TypeId}(ht:LT t)(x:Nat): ∃v N,Yz Tryz.prog H t 1 [(0,.int .u64 (x:Int))]=some (v,N)/\Zh H N/\Yl H.n N v [x]:=⟨_,_,O4 H ht x,.new _ _ _,Yl.new H [x]⟩
theorem DV{H:AH}{v:Value}{N:Nat}(h:Sl H v (ds Z4 N))(hl:(ds Z4 N).length<=2*WT):CW Tryz.prog Zw 23 [v] H fun v' H'=>H'=H/\v'= .int .i64 (Zn N:Int):=by
 refine Z8 25 Tryz.func23 ?_;have l1:=h.len ZA;obtain⟨L,hL⟩:=hid ((ds Z4 N).length);rw[<-hL]at l1;have hl:L<=4000000000000:=by rw[hL];exact hl
 apply Zb;intro b1 Ze;simp;subst Ze;apply Zf;intro b1 Ze;apply Zb;intro b2 Zp;simp[l1,Wo];subst Zp;by_cases h0:L=0
 ·refine Za (t:=true) (by simp[h0]) ?_;apply Zb;intro b2 Zp;simp;subst Zp;apply Zq;have:N=0:=by rw[h0]at hL;exact(Wr two32).mp hL.symm
  subst this;simp[Ys,Zn]
 ·refine Za (t:=false) (by simp[h0]) ?_;apply Zl;subst Ze;obtain⟨e,hd⟩:=eI (N:=N) (by omega);have a1:=h.adr ZA (k:= .i64) (i:=(ds Z4 N).length-1) (by omega);have d1:=h.load (i:=(ds Z4 N).length-1) (by omega);obtain⟨x,hx⟩:=hid ((ds Z4 N)[(ds Z4 N).length-1]'(by omega));rw[<-hx]at d1 hd e;rw[<-hL]at a1 d1 e;have hx32:=aZ hd;have s1:Zc .sub .i64 (L:Int) 1=some (.int .i64 ((L-1:Nat):Int)):=Um (by omega) (by omega);have s2:Zc .mul .i64 32 ((L-1:Nat):Int)=some (.int .i64 ((32*(L-1):Nat):Int)):=bS (by omega);apply Zb;intro b1 Ze;simp[l1,s1,s2];subst Ze;apply Zf;intro b1 Ze;apply Zb;intro b2 Zp;simp[l1,s1,a1,d1];subst Zp;apply Zu;refine Yv (fun y s'=>s'.k=25/\s'.H=H/\y<Z4/\ ∃n:Nat,n+Zn y=Zn N/\s'.tm.get 3=some (.int .i64 (n:Int))/\s'.tm.get 4=some (.int .u64 (y:Int))) ?_ x _ ⟨rfl,rfl,hd,32*(L-1),e.symm,by simp,by simp⟩;rintro y ⟨k,tm,H2⟩ ⟨hk,hH,hy,n,hn,t3,t4⟩ Q' YF;simp only at hk hH t3 t4;subst hk;subst hH;apply Zf;intro b3 ZH;apply Zb;intro b4 Yt;simp[t4,Jp];subst Yt;by_cases Ki:0<y;·refine Za (t:=true) (by simp[Ki]) ?_;apply Zl;subst ZH;have hbh:=az Ki;apply Zf;intro b3 ZH;apply Zu;apply Zg;simp[t3,Yy (x:=n) (by omega)];subst ZH;apply Zg;simp[t4,quo2 (eP hy)];apply YF;exact⟨y/2,Nat.div_lt_self Ki (by decide),rfl,rfl,Nat.lt_of_le_of_lt (Nat.div_le_self y 2) hy,n+1,by omega,by simp,by simp⟩
  ·refine Za (t:=false) (by simp[Ki]) ?_;apply YZ;apply YF;left;refine⟨rfl,?_⟩;obtain rfl:y=0:=by omega
   have vY:n=Zn N:=by rw[<-hn];rfl
   subst Ze;apply Zb;intro b4 Yt;simp[t3];subst Yt;apply Zq;simp[vY]
theorem TT{H:AH}{v:Value}{N:Nat}(h:Sl H v (ds Z4 N))(hl:(ds Z4 N).length<=2*WT):ZY Tryz.prog Zw 23 [v] H=some (.int .i64 (Zn N:Int),H):=by obtain⟨_,_,hc,rfl,rfl⟩:=DV h hl;exact hc
theorem Ov{H:AH}{v:Value}{N:Nat}(h:Sl H v (ds Z4 N)):ZY Tryz.prog Zw 19 [v] H=some (.bool (decide (N=0)),H):=by obtain⟨_,_,hc,rfl,rfl⟩:=dh h;rw[hc];congr 3;exact decide_eq_decide.mpr (Wr two32)
theorem PG{H:AH}{va vb:Value}{A B:Nat}(ha:Sl H va (ds Z4 A))(hb:Sl H vb (ds Z4 B))(lA:(ds Z4 A).length<=2*WT)(lB:(ds Z4 B).length<=2*WT)(hB:0<B): ∃q r H',ZY Tryz.prog Zw 64 [va,vb] H=some (.tuple #[q,r],H')/\Zh H H'/\Yl H.n H' q (ds Z4 (A/B))/\Yl H.n H' r (ds Z4 (A%B)):=by obtain⟨v,H',hc,k,q,r,e,o1,o2⟩:=DY ha hb (Yu two32 A) (Yu two32 B) (Tu two32 B) (Nat.le_trans lA (by decide)) (Nat.le_trans lB (by decide)) (by rw[YP two32];exact hB);subst e;rw[YP two32,YP two32]at o1 o2;exact⟨q,r,H',hc,k,o1,o2⟩
section
variable {H : AH} {va vb : Value} {A B : Nat}
theorem DX(ha:Sl H va (ds Z4 A))(hb:Sl H vb (ds Z4 B))(lA:(ds Z4 A).length<=2*WT)(lB:(ds Z4 B).length<=2*WT):CW Tryz.prog Zw 63 [va,vb] H fun v H'=>Zh H H'/\Sl H' v (ds Z4 (Nat.gcd A B)):=by
 refine Z8 19 Tryz.func63 ?_;apply Zb;intro b1 Ze;simp;subst Ze;apply Zf;intro b1 Ze;apply Zu;refine Yv (fun m s'=>s'.k=19/\Zh H s'.H/\ ∃(a:Nat) (av bv:Value),Nat.gcd a m=Nat.gcd A B/\(ds Z4 a).length<=2*WT/\(ds Z4 m).length<=2*WT/\Sl s'.H av (ds Z4 a)/\Sl s'.H bv (ds Z4 m)/\s'.tm.get 0=some av/\s'.tm.get 1=some bv) ?_ B _ ⟨rfl,.refl H,A,va,vb,rfl,lA,lB,ha,hb,by simp,by simp⟩;rintro m ⟨k,tm,H3⟩ ⟨hk,k3,a,av,bv,hg,la,lm,oa,ob,t0,t1⟩ Q' YF;simp only at hk k3 oa ob t0 t1;subst hk;have z:=Ov ob;apply Zf;intro b3 ZH;apply Zb;intro b4 Yt;simp[t1,z];subst Yt;by_cases hm:m=0;·refine Za (t:=false) (by simp[hm]) ?_;apply YZ;apply YF;left;refine⟨rfl,?_⟩;subst hm;rw[Nat.gcd_zero_right]at hg;subst Ze;apply Zb;intro b4 Yt;simp[t0];subst Yt;apply Zq;simp;rw[<-hg];exact⟨k3,oa⟩
 ·refine Za (t:=true) (by simp[hm]) ?_;apply Zl;subst ZH;obtain⟨q,r,H4,c4,k4,oq,tH⟩:=PG oa ob la lm (by omega);apply Zu;apply Zb;intro b3 ZH;simp[t0,t1,c4];subst ZH;apply Zg;simp[t1];apply YF;refine⟨a%m,Nat.mod_lt _ (by omega),rfl,k3.trans k4,m,bv,r,?_,lm,Nat.le_trans (Uz two32 (Nat.mod_le a m)) la,ob.keep k4,tH.sl,by simp,by simp⟩;rw[<-hg,Nat.gcd_comm a m,Nat.gcd_rec m a,Nat.gcd_comm]
theorem Fo{H:AH}{v:Value}{xs:List Nat}(h:Sl H v xs)(dx:YD Zd xs)(hl:xs.length<=WT): ∃v' H',ZY Tryz.prog Zw 17 [v] H=some (v',H')/\Zh H H'/\Yl H.n H' v' (ds Z4 (dv Zd xs))/\(ds Z4 (dv Zd xs)).length<=2*WT:=by
 obtain⟨v',H',hc,k,o⟩:=nu h dx (Nat.le_trans hl (by decide));refine⟨v',H',hc,k,o,?_⟩;have h1:dv Zd xs<Z4^(2*xs.length):=by have:=Ws (Nd dx);rwa[MB,Qs]at this
 have:=X9 two32 h1;have hl:xs.length<=2000000000000:=hl;show _<=2*2000000000000;omega
end
inductive RT where|node(op:Int)(neg:Bool)(N D:Nat)(bad:Bool)(args:List RT)
mutual def RT.nodes:RT->Nat| .node _ _ _ _ _ args=>1+YB args def YB:List RT->Nat|[]=>0|t::ts=>t.nodes+YB ts end
mutual def RT.depth:RT->Nat| .node _ _ _ _ _ args=>Xd args+1 def Xd:List RT->Nat|[]=>0|t::ts=>max t.depth (Xd ts) end
def af(op:Int)(bad:Bool)(n:Nat):Bool:=!bad&&decide (0<=op/\op<16/\n=arity op.toNat)
mutual def RT.right:RT->Bool| .node op _ _ _ bad args=>af op bad args.length&&Wd args def Wd:List RT->Bool|[]=>true|t::ts=>t.right&&Wd ts end
mutual def RT.fit:RT->Prop| .node _ _ N D _ args=>Zn N<=67108864/\Zn D<=67108864/\KR args def KR:List RT->Prop|[]=>True|t::ts=>t.fit/\KR ts end
def Ya(neg:Bool)(n d:Nat):Bool×Nat×Nat:=if n=0 then(false,0,1)else(neg,n/Nat.gcd n d,d/Nat.gcd n d)
def WR(op:Int)(neg:Bool)(abs den:List Nat):(Bool×Nat×Nat)×Bool:=if op=0 then(if dv Zd den=0 then((false,0,0),true)else(Ya neg (dv Zd abs) (dv Zd den),false))else((false,0,0),neg||decide (0<abs.length)||decide (0<den.length))
mutual def ET.ref:ET->RT| .node op neg abs den args=> .node op (WR op neg abs den).1.1 (WR op neg abs den).1.2.1 (WR op neg abs den).1.2.2 (WR op neg abs den).2 (WL args) def WL:List ET->List RT|[]=>[]|t::ts=>t.ref::WL ts end
theorem QV(l:List ET):WL l=l.map ET.ref:=by induction l with|nil=>rfl|cons x xs ih=>simp[WL,ih]
theorem Nx(l:List ET):(WL l).length=l.length:=by rw[QV];simp
theorem R7(xs ys:List RT):YB (xs++ys)=YB xs+YB ys:=by induction xs with|nil=>simp[YB]|cons x xs ih=>simp[YB,ih,Nat.add_assoc]
theorem Ll(xs ys:List RT):Xd (xs++ys)=max (Xd xs) (Xd ys):=by induction xs with|nil=>simp[Xd]|cons x xs ih=>simp[Xd,ih,Nat.max_assoc]
theorem R8(xs ys:List RT):Wd (xs++ys)=(Wd xs&&Wd ys):=by induction xs with|nil=>simp[Wd]|cons x xs ih=>simp[Wd,ih,Bool.and_assoc]
theorem Uu(t:RT):0<t.nodes:=by cases t;simp only[RT.nodes];omega
theorem Ul{xs:List RT}{i:Nat}{t:RT}(hi:xs[i]?=some t):t.nodes<=YB xs:=by induction xs generalizing i with
 |nil=>simp at hi
 |cons x xs ih=>cases i with|zero=>simp at hi;subst hi;simp[YB]|succ i=>simp at hi;have:=ih hi;simp only[YB];omega
theorem DR{xs:List RT}(h:KR xs){i:Nat}{t:RT}(hi:xs[i]?=some t):t.fit:=by induction xs generalizing i with
 |nil=>simp at hi
 |cons x xs ih=>cases i with|zero=>simp at hi;subst hi;exact h.1|succ i=>simp at hi;exact ih h.2 hi
theorem RQ(xs:List RT):xs.length<=YB xs:=by induction xs with|nil=>simp|cons x xs ih=>have:=Uu x;simp only[YB,List.length_cons];omega
theorem Kl: ∀n(t:RT),t.nodes<=n->t.depth<=t.nodes:=by intro n;induction n with
 |zero=>intro t h;have:=Uu t;omega
 |succ n ih=>
  intro t h;obtain⟨op,neg,N,D,bad,args⟩:=t;simp only[RT.nodes]at h;simp only[RT.nodes,RT.depth];have key: ∀l:List RT,YB l<=n->Xd l<=YB l:=by intro l;induction l with|nil=>intro _;simp[Xd]|cons x xs Bf=>intro hl;simp only[YB]at hl;simp only[Xd,YB];have h1:=ih x (by omega);have h2:=Bf (by omega);omega
  have:=key args (by omega);omega
theorem HC: ∀n(t:ET),t.nodes<=n->t.ref.nodes=t.nodes:=by intro n;induction n with
 |zero=>intro t h;have:=Xu t;omega
 |succ n ih=>
  intro t h;obtain⟨op,neg,abs,den,args⟩:=t;simp only[ET.nodes]at h;simp only[ET.ref,RT.nodes,ET.nodes];have key: ∀l:List ET,Yp l<=n->YB (WL l)=Yp l:=by intro l;induction l with|nil=>intro _;rfl|cons x xs Bf=>intro hl;simp only[Yp]at hl;simp only[WL,YB,Yp];rw[ih x (by omega),Bf (by omega)]
  rw[key args (by omega)]
theorem cU: ∀n(t:ET),t.nodes<=n->t.ref.depth=t.depth:=by intro n;induction n with
 |zero=>intro t h;have:=Xu t;omega
 |succ n ih=>
  intro t h;obtain⟨op,neg,abs,den,args⟩:=t;simp only[ET.nodes]at h;simp only[ET.ref,RT.depth,ET.depth];have key: ∀l:List ET,Yp l<=n->(l=[]/\Xd (WL l)=0/\X3 l=0)\/X3 l=Xd (WL l)+1:=by intro l;induction l with
   |nil=>intro _;exact .inl ⟨rfl,rfl,rfl⟩
   |cons x xs Bf=>
    intro hl;simp only[Yp]at hl;simp only[WL,Xd,X3];rw[ih x (by omega)];rcases Bf (by omega)with⟨_,h1,h2⟩|h1;·right;rw[h1,h2];omega
    ·right;rw[h1];omega
  rcases key args (by omega)with⟨_,h1,h2⟩|h1;·rw[h1,h2];omega
  ·rw[h1];omega
theorem cS: ∀n(t:ET),t.nodes<=n->t.ref.right=t.allGood:=by intro n;induction n with
 |zero=>intro t h;have:=Xu t;omega
 |succ n ih=>
  intro t h;obtain⟨op,neg,abs,den,args⟩:=t;simp only[ET.nodes]at h;simp only[ET.ref,RT.right,ET.allGood,ET.good,af,Nx];have key: ∀l:List ET,Yp l<=n->Wd (WL l)=Wb l:=by intro l;induction l with|nil=>intro _;rfl|cons x xs Bf=>intro hl;simp only[Yp]at hl;simp only[WL,Wd,Wb];rw[ih x (by omega),Bf (by omega)]
  rw[key args (by omega)];congr 1;rw[Bool.and_comm];congr 1;unfold WR;split
  ·split;·rename_i h;rw[h];rfl
   ·rename_i h;show true=_;exact(decide_eq_true (by omega)).symm
  ·cases neg<;>cases abs<;>cases den<;>simp
theorem HE(neg:Bool)(n d:Nat)(hd:0<d):(Ya neg n d).2.1<=n/\(Ya neg n d).2.2<=d:=by
 unfold Ya;split;·exact⟨Nat.zero_le _,hd⟩
 ·exact⟨Nat.div_le_self _ _,Nat.div_le_self _ _⟩
theorem Z5{n m:Nat}(h:n<=m):Zn n<=Zn m:=by
 rcases Nat.eq_zero_or_pos n with h0|h0;·subst h0;exact Nat.zero_le _
 ·have h1:=W7 (n:=n) (by omega);have h2:=WG m;have:=(Nat.pow_lt_pow_iff_right (a:=2) (by decide)).mp (Nat.lt_of_le_of_lt (Nat.le_trans h1 h) h2);omega
theorem Fy: ∀n(t:ET),t.nodes<=n->t.wide 1048576->t.ref.fit:=by intro n;induction n with
 |zero=>intro t h;have:=Xu t;omega
 |succ n ih=>
  intro t h hw;obtain⟨op,neg,abs,den,args⟩:=t;simp only[ET.nodes]at h;obtain⟨la,ld,da,dd,ws⟩:=hw;simp only[ET.ref,RT.fit];have key: ∀l:List ET,Yp l<=n->Rv 1048576 l->KR (WL l):=by intro l;induction l with|nil=>intro _ _;trivial|cons x xs Bf=>intro hl qZ;simp only[Yp]at hl;exact⟨ih x (by omega) qZ.1,Bf (by omega) qZ.2⟩
  have h1:=Qf da la;have h2:=Qf dd ld;have h0:Zn 0=0:=rfl;refine⟨?_,?_,key args (by omega) ws⟩
  ·unfold WR;split
   ·split;·show Zn 0<=_;omega
    ·exact Nat.le_trans (Z5 (HE _ _ _ (by omega)).1) (by omega)
   ·show Zn 0<=_;omega
  ·unfold WR;split
   ·split;·show Zn 0<=_;omega
    ·exact Nat.le_trans (Z5 (HE _ _ _ (by omega)).2) (by omega)
   ·show Zn 0<=_;omega
def ri(Q:Nat->Prop)(H:AH)(v:Value)(xs:List Nat):Prop:=Sl H v xs/\ ∀c,YQ v=some c->Q c
def kO(Q:Nat->Prop)(H H':AH):Prop:=H.n<=H'.n/\ ∀j,Q j->j<H.n->H'.blk j=H.blk j
theorem Sl.agr{Q:Nat->Prop}{H H':AH}{v:Value}{xs:List Nat}(h:Sl H v xs)(hq: ∀c,YQ v=some c->Q c)(k:kO Q H H'):Sl H' v xs:=by cases h with|nil=>exact .nil|emp b=>exact .emp b|mk b o cap xs h1 h2=>obtain⟨h3,cs,h4,h5,h6⟩:=h2;have e:=k.2 b (hq b rfl) h3;exact .mk b o cap xs h1 ⟨Nat.lt_of_lt_of_le h3 k.1,cs,by unfold AH.cells;rw[e];exact h4,by unfold AH.size;rw[e];exact h5,h6⟩
mutual inductive Rx(Q:Nat->Prop)(H:AH):List Value->RT->Prop|mk{op:Int}{neg bad:Bool}{vn vd vx:Value}{N D:Nat}{args:List RT} :ri Q H vn (ds Z4 N)->ri Q H vd (ds Z4 D)->ee Q H vx args->Rx Q H [.int .i64 op,.bool neg,vn,vd,.bool bad,vx] (.node op neg N D bad args) inductive ee(Q:Nat->Prop)(H:AH):Value->List RT->Prop|nil:ee Q H (.slice none 0 0) []|mk(b cap:Nat){cs:List Value}{args:List RT} :Q b->b<H.n->H.blk b= .rw 6 cs->args.length<=cap->(∀(i:Nat)(t:RT),args[i]?=some t->Rx Q H ((cs.drop (i*6)).take 6) t)->ee Q H (.slice (some ⟨b,0,none⟩) args.length cap) args end
theorem jt{Q Q':Nat->Prop}{H H':AH}(k:kO Q H H')(hQ: ∀j,j<H.n->Q j->Q' j): ∀n(t:RT),t.nodes<=n-> ∀vs,Rx Q H vs t->Rx Q' H' vs t:=by intro n;induction n with
 |zero=>intro t h;have:=Uu t;omega
 |succ n ih=>intro t h vs hx;cases hx with
  |mk h1 h2 h3=>simp only[RT.nodes]at h;refine .mk ⟨h1.1.agr h1.2 k,fun c hc=>hQ c (h1.1.blk_lt hc) (h1.2 c hc)⟩ ⟨h2.1.agr h2.2 k,fun c hc=>hQ c (h2.1.blk_lt hc) (h2.2 c hc)⟩ ?_;cases h3 with
   |nil=>exact .nil
   |mk b cap hq hb hc hl hf=>
    rename_i cs;refine .mk b cap (cs:=cs) (hQ b hb hq) (Nat.lt_of_lt_of_le hb k.1) ?_ hl fun i t hi=>?_;·rw[k.2 b hq hb];exact hc
    ·have:=Ul hi;exact ih t (by omega) _ (hf i t hi)
theorem Rx.agr{Q Q':Nat->Prop}{H H':AH}{vs:List Value}{t:RT}(h:Rx Q H vs t)(k:kO Q H H')(hQ: ∀j,j<H.n->Q j->Q' j):Rx Q' H' vs t:=jt k hQ _ t (Nat.le_refl _) vs h
theorem Zh.agr{H H':AH}(k:Zh H H')(Q:Nat->Prop):kO Q H H':=⟨k.n,fun j _ hj=>k.blk j hj⟩
theorem Rx.keep{Q:Nat->Prop}{H H':AH}{vs:List Value}{t:RT}(h:Rx Q H vs t)(k:Zh H H'):Rx Q H' vs t:=h.agr (k.agr Q) fun _ _ h=>h
theorem Rx.len{Q:Nat->Prop}{H:AH}{vs:List Value}{t:RT}(h:Rx Q H vs t):vs.length=6:=by cases h;rfl
theorem Sl.one1{H:AH}{v:Value}{xs:List Nat}(h:Sl H v xs):one v=true:=by cases h<;>rfl
theorem ee.one1{Q:Nat->Prop}{H:AH}{v:Value}{l:List RT}(h:ee Q H v l):one v=true:=by cases h<;>rfl
theorem Rx.ones{Q:Nat->Prop}{H:AH}{vs:List Value}{t:RT}(h:Rx Q H vs t):vs.all one=true:=by cases h with|mk h1 h2 h3=>simp only[List.all_cons,List.all_nil,h1.1.one1,h2.1.one1,h3.one1,Bool.and_true];rfl
theorem aE:XR Tryz.prog 68=some true:=by kernel_rfl
theorem sE:Xn Tryz.prog 68=some 6:=by kernel_rfl
theorem uJ:XR Tryz.prog 66=some false:=by kernel_rfl
theorem kJ:XR Tryz.prog 37=some false:=by kernel_rfl
theorem zE:Vd Tryz.prog 68=some (.agg #[.int .i64 0,.bool false,.slice none 0 0,.slice none 0 0,.bool false,.slice none 0 0]):=by kernel_rfl
theorem uEs:Tryz.prog.underlying 66=some (.slice 68):=by kernel_rfl
theorem sEs:WK Tryz.prog 66=some (68,6,96):=by kernel_rfl
theorem ee.len{Q:Nat->Prop}{H:AH}{v:Value}{args:List RT}(h:ee Q H v args):SL Tryz.prog 66 v=some args.length:=by unfold SL;rw[uEs];cases h<;>rfl
theorem JS{H:AH}{b o:Nat}{cs vs:List Value}(h:H.cells b=some cs)(hk:(cs.drop o).take 6=vs)(hl:vs.length=6):Z7 Tryz.prog H 68 (.pointer (some ⟨b,o,none⟩))=some (.agg vs.toArray):=by
 unfold Z7;simp only[aE,sE,AH.read_def,h];have:o+6<=cs.length:=by have:=congrArg List.length hk;rw[List.length_take,List.length_drop,hl]at this;omega
 rw[Nat.ble_eq.mpr this,cond_true,hk]
theorem ee.at{Q:Nat->Prop}{H:AH}{v:Value}{args:List RT}(h:ee Q H v args){i:Nat}{t:RT}(hi:args[i]?=some t): ∃(p:Value) (vs:List Value),ZC Tryz.prog 66 v (.int .i64 (i:Int))=some p/\(∀H',Zh H H'->Z7 Tryz.prog H' 68 p=some (.agg vs.toArray))/\Rx Q H vs t:=by
 have YR:i<args.length:=by
  rcases Nat.lt_or_ge i args.length with h'|h';·exact h'
  ·rw[List.getElem?_eq_none h']at hi;cases hi
 cases h with
  |nil=>simp at hi
  |mk b cap hq hb hc hl hf=>
   rename_i cs;have hE:=hf i t hi;have OQ:H.cells b=some cs:=by unfold AH.cells;rw[hc]
   refine⟨.pointer (some ⟨b,i*6,none⟩),_,?_,fun H' k=>JS ((Vm k hb).trans OQ) rfl hE.len,hE⟩;unfold ZC;simp only[uEs,sE];rw[if_pos (by omega)];simp
theorem rO(b o:Nat):Yn Tryz.prog 68 (.pointer (some ⟨b,o,none⟩)) 0=some (.pointer (some ⟨b,o,none⟩)):=by kernel_rfl
theorem Ar(b o:Nat):Yn Tryz.prog 68 (.pointer (some ⟨b,o,none⟩)) 1=some (.pointer (some ⟨b,o+1,none⟩)):=by kernel_rfl
theorem Jj(b o:Nat):Yn Tryz.prog 68 (.pointer (some ⟨b,o,none⟩)) 2=some (.pointer (some ⟨b,o+4,none⟩)):=by kernel_rfl
theorem Qp(b o:Nat):Yn Tryz.prog 68 (.pointer (some ⟨b,o,none⟩)) 3=some (.pointer (some ⟨b,o+5,none⟩)):=by kernel_rfl
theorem feN(b o:Nat):Yn Tryz.prog 42 (.pointer (some ⟨b,o,none⟩)) 1=some (.pointer (some ⟨b,o+1,none⟩)):=by kernel_rfl
theorem feD(b o:Nat):Yn Tryz.prog 42 (.pointer (some ⟨b,o,none⟩)) 2=some (.pointer (some ⟨b,o+2,none⟩)):=by kernel_rfl
theorem Sl.shape{H:AH}{v:Value}{xs:List Nat}(h:Sl H v xs): ∃a l c,v= .slice a l c:=by cases h<;>exact⟨_,_,_,rfl⟩
theorem Yl.shape{n:Nat}{H:AH}{v:Value}{xs:List Nat}(h:Yl n H v xs): ∃a l c,v= .slice a l c:=h.sl.shape
theorem lI(a:Option Addr)(l c:Nat):WZ Tryz.prog 42 [(2,.slice a l c)]=some (.agg #[.bool false,.slice none 0 0,.slice a l c]):=by kernel_rfl
theorem lH(n:Bool)(a a':Option Addr)(l c l' c':Nat):WZ Tryz.prog 42 [(0,.bool n),(1,.slice a l c),(2,.slice a' l' c')]=some (.agg #[.bool n,.slice a l c,.slice a' l' c']):=by kernel_rfl
theorem zR:Vd Tryz.prog 42=some (.agg #[.bool false,.slice none 0 0,.slice none 0 0]):=by kernel_rfl
theorem sR:Xn Tryz.prog 42=some 3:=by kernel_rfl
theorem aR:XR Tryz.prog 42=some true:=by kernel_rfl
theorem Bu{H:AH}{b o:Nat}{cs vs:List Value}(h:H.cells b=some cs)(hk:(cs.drop o).take 3=vs)(hl:vs.length=3):Z7 Tryz.prog H 42 (.pointer (some ⟨b,o,none⟩))=some (.agg vs.toArray):=by
 unfold Z7;simp only[aR,sR,AH.read_def,h];have:o+3<=cs.length:=by have:=congrArg List.length hk;rw[List.length_take,List.length_drop,hl]at this;omega
 rw[Nat.ble_eq.mpr this,cond_true,hk]
theorem WB{H:AH}{sz:Nat}{cs ws:List Value}{t:TypeId}{n b o:Nat}(ht:Xn Tryz.prog t=some n)(hb:H.blk b= .rw sz cs){v:Value}(hv:v.cells.toList=ws)(hw:ws.length=n)(ho:o+n<=cs.length)(h1:ws.all one=true)(zZ:sz≠0:=by decide): ∃H',YX Tryz.prog H t (.pointer (some ⟨b,o,none⟩)) v=some H'/\H'.blk b= .rw sz (cs.take o++ws++cs.drop (o+n))/\H'.n=H.n/\(∀j,j≠b->H'.blk j=H.blk j)/\UL b H H'/\H'.lw=min H.lw b:=by
 obtain⟨sz,rfl⟩: ∃k,sz=k+1:=⟨sz-1,by omega⟩;have hs:v.cells.size=n:=by rw[<-hw,<-hv];simp
 have hle:Nat.ble (o+n) cs.length=true:=Nat.ble_eq.mpr ho;refine⟨{ n:=H.n,lw:=min H.lw b,t:=H.t.set b (.rw (sz+1) (cs.take o++ws++cs.drop (o+n))) },?_,?_,rfl,fun j hj=>?_,fun H0 k hn=>⟨k.n,?_,fun j hj=>?_⟩,rfl⟩;·unfold YX;simp only[ht,hs,hv];rw[show Nat.beq n n=true from by simp,cond_true,AH.write_def,hb];simp only[hw,hle,h1,Bool.and_self,cond_true]
 ·unfold AH.blk;simp only[Tr.get_set,if_true]
 ·unfold AH.blk;simp only[Tr.get_set];rw[if_neg hj]
 ·have:=k.lw;show min H0.lw H0.n<=min H.lw b;omega
 ·unfold AH.blk;simp only[Tr.get_set];rw[if_neg (by omega)];exact k.blk j hj
def OA(op:Int):Int:=if 0<=op/\op<16 then(arity op.toNat:Int)else-1
theorem eQ(H:AH): ∀n:Nat,n<16->ZY Tryz.prog Zw 101 [.int .i64 (n:Int)] H=some (.int .i64 (arity n:Int),H):=by intro n hn;match n,hn with|0,_=>exact Wk 20 _ _ _ _ (by kernel_rfl)|1,_=>exact Wk 20 _ _ _ _ (by kernel_rfl)|2,_=>exact Wk 20 _ _ _ _ (by kernel_rfl)|3,_=>exact Wk 20 _ _ _ _ (by kernel_rfl)|4,_=>exact Wk 20 _ _ _ _ (by kernel_rfl)|5,_=>exact Wk 20 _ _ _ _ (by kernel_rfl)|6,_=>exact Wk 20 _ _ _ _ (by kernel_rfl)|7,_=>exact Wk 20 _ _ _ _ (by kernel_rfl)|8,_=>exact Wk 20 _ _ _ _ (by kernel_rfl)|9,_=>exact Wk 20 _ _ _ _ (by kernel_rfl)|10,_=>exact Wk 20 _ _ _ _ (by kernel_rfl)|11,_=>exact Wk 20 _ _ _ _ (by kernel_rfl)|12,_=>exact Wk 20 _ _ _ _ (by kernel_rfl)|13,_=>exact Wk 20 _ _ _ _ (by kernel_rfl)|14,_=>exact Wk 20 _ _ _ _ (by kernel_rfl)|15,_=>exact Wk 20 _ _ _ _ (by kernel_rfl)|n+16,h=>omega
section
variable {H : AH} {va vb vm : Value}
theorem Cx(op:Int):ZY Tryz.prog Zw 101 [.int .i64 op] H=some (.int .i64 (OA op),H):=by
 unfold OA;split;·rename_i h;have:=eQ H op.toNat (by omega);rwa[Int.toNat_of_nonneg h.1]at this
 ·rename_i h;suffices hs:CW Tryz.prog Zw 101 [.int .i64 op] H fun v H'=>v= .int .i64 (-1)/\H'=H by obtain⟨_,_,hc,rfl,rfl⟩:=hs;exact hc
  refine Z8 36 Tryz.func101 ?_;have f1:Zc .lss .i64 op 0=some (.bool (decide (op<0))):=rfl;have f2:Zc .gtr .i64 op 15=some (.bool (decide (op>15))):=rfl;apply Zb;intro b1 Ze;simp;subst Ze;apply Zf;intro b1 Ze;apply Zu;apply Zb;intro b2 Zp;by_cases h0:op<0;·rw[decide_eq_true h0]at f1;simp[f1];subst Zp;refine Za (t:=true) (by simp) ?_;apply Zb;intro b1 Ze;simp;subst Ze;apply Zq;simp[Ys,Ye]
  ·rw[decide_eq_false h0]at f1;rw[decide_eq_true (show op>15 by omega)]at f2;simp[f1,f2];subst Zp;refine Za (t:=true) (by simp) ?_;apply Zb;intro b1 Ze;simp;subst Ze;apply Zq;simp[Ys,Ye]
theorem Rq(x:Nat)(hx:x<Zd): ∃v H',ZY Tryz.prog Zw 62 [.int .i64 (x:Int)] H=some (v,H')/\Zh H H'/\Yl H.n H' v (ds Z4 x)/\(ds Z4 x).length<=2*WT:=by
 obtain⟨v1,H1,c1,k1,o1⟩:=Pq H Yf x;obtain⟨v2,H2,c2,k2,o2,l2⟩:=Fo o1.sl (dig1 hx) (show 1<=2000000000000 by decide);rw[dv1]at o2 l2;suffices hs:CW Tryz.prog Zw 62 [.int .i64 (x:Int)] H fun v H'=>v=v2/\H'=H2 by obtain⟨_,_,hc,rfl,rfl⟩:=hs;exact⟨_,_,hc,k1.trans k2,o2.mono k1.n (.refl _),l2⟩
 refine Z8 7 Tryz.func62 ?_;apply Zb;intro b1 Ze;simp;subst Ze;apply Zb;intro b1 Ze;simp[Tt hx,c1,c2];subst Ze;apply Zq;simp
def L8(n:Nat)(H:AH)(us:List Value)(r:Bool×Nat×Nat):Prop:= ∃a b,us=[.bool r.1,a,b]/\Yl n H a (ds Z4 r.2.1)/\Yl n H b (ds Z4 r.2.2)
theorem Of{vn vd:Value}{N D:Nat}(neg:Bool)(hn:Sl H vn (ds Z4 N))(hd:Sl H vd (ds Z4 D))(lN:(ds Z4 N).length<=2*WT)(lD:(ds Z4 D).length<=2*WT)(h0:0<D): ∃us H',ZY Tryz.prog Zw 22 [.bool neg,vn,vd] H=some (.agg us.toArray,H')/\Zh H H'/\L8 H.n H' us (Ya neg N D):=by
 suffices hs:CW Tryz.prog Zw 22 [.bool neg,vn,vd] H fun v H'=> ∃us:List Value,v= .agg us.toArray/\Zh H H'/\L8 H.n H' us (Ya neg N D) by obtain⟨_,H',hc,us,rfl,h⟩:=hs;exact⟨us,H',hc,h⟩
 obtain⟨r,hr⟩:=hid (Ya neg N D);rw[<-hr];unfold Ya at hr;refine Z8 31 Tryz.func22 ?_;have kB:=Zh.new H 1 [.bool false,.slice none 0 0,.slice none 0 0];have bB:(H.new 1 [.bool false,.slice none 0 0,.slice none 0 0]).blk H.n= .rw 1 [.bool false,.slice none 0 0,.slice none 0 0]:=by rw[AH.blk_new,if_pos rfl]
 have nB:(H.new 1 [.bool false,.slice none 0 0,.slice none 0 0]).n=H.n+1:=rfl;obtain⟨HB,MS⟩:=hid (H.new 1 [.bool false,.slice none 0 0,.slice none 0 0]);rw[<-MS]at kB bB nB;have z:=Ov (hn.keep kB);apply Zb;intro b1 Ze;simp[zR,Value.cells,<-MS];subst Ze;apply Zf;intro b1 Ze;apply Zb;intro b2 Zp;simp[z];subst Zp;by_cases hN:N=0;·refine Za (t:=true) (by simp[hN]) ?_;rw[if_pos hN]at hr;obtain⟨v1,H1,c1,k1,o1,_⟩:=Rq (H:=HB) 1 (by decide);obtain⟨x,l,c,rfl⟩:=o1.shape;obtain⟨H2,st,blk,n2,HL,ka,_⟩:=WB (H:=H1) (b:=H.n) (cs:=[.bool false,.slice none 0 0,.slice none 0 0]) (sz:=1) (o:=0) sR (by rw[k1.blk _ (by omega)];exact bB) (v:= .agg #[.bool false,.slice none 0 0,.slice x l c]) (ws:=[.bool false,.slice none 0 0,.slice x l c]) rfl rfl (by simp) rfl;have c1:ZY Tryz.prog Zw 62 [.int .i64 1] HB=some (.slice x l c,H1):=c1;apply Zb;intro b1 Ze;simp[c1,lI,st];subst Ze;apply Zq;have ld:Z7 Tryz.prog H2 42 (.pointer (some ⟨H.n,0,none⟩))=some (.agg #[.bool false,.slice none 0 0,.slice x l c]):=Bu (vs:=[.bool false,.slice none 0 0,.slice x l c]) (by unfold AH.cells;rw[blk]) rfl rfl;simp[Ys,ld];refine⟨ka H (kB.trans k1) (Nat.le_refl _),_,_,by rw[hr],by rw[hr,XT];exact .nil,?_⟩;rw[hr];exact(o1.mono (m:=H.n) (by omega) (.refl _)).but (b:=some H.n) ⟨n2,fun j _ hj=>HL j (fun e=>hj (by rw[e]))⟩ fun c' e h=>by cases e;have:=o1.blk_lo h;omega
 ·refine Za (t:=false) (by simp[hN]) ?_;rw[if_neg hN]at hr;apply Zl;subst Ze;obtain⟨_,H1,c1,k1,s1⟩:=DX (hn.keep kB) (hd.keep kB) lN lD;obtain⟨g,hg⟩:=hid (Nat.gcd N D);rw[<-hg]at s1 hr;have g0:0<g:=by rw[hg];exact Nat.gcd_pos_of_pos_right _ h0
  have gl:(ds Z4 g).length<=2*WT:=Nat.le_trans (Uz two32 (by rw[hg];exact Nat.le_of_dvd h0 (Nat.gcd_dvd_right N D))) lD;obtain⟨q1,r1,H2,c2,k2,o2,_⟩:=PG (hn.keep (kB.trans k1)) s1 lN gl g0;obtain⟨q2,r2,H3,c3,k3,o3,_⟩:=PG (hd.keep ((kB.trans k1).trans k2)) (s1.keep k2) lD gl g0;have n1:=k1.n;have n2:=k2.n;obtain⟨x,l,c,rfl⟩:=o2.shape;obtain⟨x',l',c',rfl⟩:=o3.shape;obtain⟨H4,st,blk,n4,HL,ka,_⟩:=WB (H:=H3) (b:=H.n) (cs:=[.bool false,.slice none 0 0,.slice none 0 0]) (sz:=1) (o:=0) sR (by rw[k3.blk _ (by omega),k2.blk _ (by omega),k1.blk _ (by omega)];exact bB) (v:= .agg #[.bool neg,.slice x l c,.slice x' l' c']) (ws:=[.bool neg,.slice x l c,.slice x' l' c']) rfl rfl (by simp) rfl;apply Zb;intro b1 Ze;simp[c1];subst Ze;apply Zb;intro b1 Ze;simp[c2];subst Ze;apply Zb;intro b1 Ze;simp[c3];subst Ze;apply Zb;intro b1 Ze;simp[lH,st];subst Ze;apply Zq;have ld:Z7 Tryz.prog H4 42 (.pointer (some ⟨H.n,0,none⟩))=some (.agg #[.bool neg,.slice x l c,.slice x' l' c']):=Bu (vs:=[.bool neg,.slice x l c,.slice x' l' c']) (by unfold AH.cells;rw[blk]) rfl rfl;simp[ld];have bt:Tp (some H.n) H3 H4:=⟨n4,fun j _ hj=>HL j (fun e=>hj (by rw[e]))⟩;refine⟨ka H (((kB.trans k1).trans k2).trans k3) (Nat.le_refl _),_,_,by rw[hr],?_,?_⟩;·rw[hr];exact(o2.mono (m:=H.n) (by omega) k3).but bt fun c' e h=>by cases e;have:=o2.blk_lo h;omega
  ·rw[hr];exact(o3.mono (m:=H.n) (by omega) (.refl _)).but bt fun c' e h=>by cases e;have:=o3.blk_lo h;omega
end
theorem Lh{Q:Nat->Prop}{H0 H:AH}{vx:Value}{args:List RT}(h3:ee Q H0 vx args)(k:Zh H0 H){i:Nat}{x:RT}(hx:args[i]?=some x): ∃(p:Value) (us:List Value) (H5:AH),ZC Tryz.prog 66 vx (.int .i64 (i:Int))=some p/\Z7 Tryz.prog H 68 p=some (.agg us.toArray)/\YX Tryz.prog (H.new 1 [.int .i64 0,.bool false,.slice none 0 0,.slice none 0 0,.bool false,.slice none 0 0]) 68 (.pointer (some ⟨H.n,0,none⟩)) (.agg us.toArray)=some H5/\Zh H H5/\Z7 Tryz.prog H5 68 (.pointer (some ⟨H.n,0,none⟩))=some (.agg us.toArray)/\Rx Q H5 us x:=by obtain⟨p,us,e1,e2,e3⟩:=h3.at hx;obtain⟨H5,Xz,k5,KD,n5⟩:=Xe (H:=H) (sz:=1) (zs:=[.int .i64 0,.bool false,.slice none 0 0,.slice none 0 0,.bool false,.slice none 0 0]) sE rfl (v:= .agg us.toArray) (ws:=us) (by simp[Value.cells]) e3.len e3.ones;refine⟨p,us,H5,e1,e2 _ k,Xz,k5,JS (o:=0) (cs:=us) (by unfold AH.cells;rw[KD]) (by rw[List.drop_zero,List.take_of_length_le (by rw[e3.len];omega)]) e3.len,e3.keep (k.trans k5)⟩
theorem QJ{α:Type}{l:List α}{i:Nat}{x:α}(hx:l[i]?=some x):l.take (i+1)=l.take i++[x]:=by rw[List.take_add_one,hx];rfl
theorem gtrN{k:IntKind}{x y:Nat} :Zc .gtr k (x:Int) (y:Int)=some (.bool (decide (y<x))):=gg rfl
theorem TV{x y:Int} :Zc .neq .i64 x y=some (.bool (decide (x≠y))):=by
 show some (Value.bool (x !=y))=_;congr 2;by_cases h:x=y;·subst h;simp
 ·rw[decide_eq_true h];simp[bne];omega
section
variable {Q : Nat -> Prop}
theorem cR: ∀n(t:RT),t.nodes<=n-> ∀(H:AH)(vs:List Value),Rx Q H vs t->t.nodes<=1000000000->CW Tryz.prog Zw 102 [.agg vs.toArray] H (fun v H'=>v= .int .i64 (t.nodes:Int)/\Zh H H'):=by intro n;induction n with
 |zero=>intro t h;have:=Uu t;omega
 |succ n ih=>intro t ht H vs hE hb;obtain⟨op,neg,N,D,bad,args⟩:=t;cases hE with
  |@mk _ _ _ vn vd vx _ _ _ h1 h2 h3=>
   simp only[RT.nodes]at ht hb⊢;refine Z8 19 Tryz.func102 ?_;have kB:=Zh.new H 1 [.int .i64 op,.bool neg,vn,vd,.bool bad,vx];have cB:=Vy H 1 [.int .i64 op,.bool neg,vn,vd,.bool bad,vx];obtain⟨HB,MS⟩:=hid (H.new 1 [.int .i64 op,.bool neg,vn,vd,.bool bad,vx]);rw[<-MS]at kB cB;have l5:=Z0 uJ (o:=5) cB rfl;have lx:=h3.len;obtain⟨m0,M6⟩:=hid (args.length);have la:=RQ args;rw[<-M6]at lx la;apply Zb;intro b1 Ze;simp[Value.cells,<-MS];subst Ze;apply Zb;intro b1 Ze;simp;subst Ze;apply Zf;intro b1 Ze;apply Zb;intro b2 Zp;simp[Qp,l5,lx];subst Zp;apply Zu;refine Yv (fun m s'=>s'.k=19/\Zh HB s'.H/\ ∃i:Nat,m+i=m0/\s'.tm.get 3=some (.int .i64 ((1+YB (args.take i):Nat):Int))/\s'.tm.get 7=some vx/\s'.tm.get 8=some (.int .i64 (m0:Int))/\s'.tm.get 9=some (.int .i64 (i:Int))) ?_ m0 _ ⟨rfl,.refl HB,0,by omega,by simp[YB],by simp,by simp,by simp⟩;rintro m ⟨k,tm,H4⟩ ⟨hk,kH,i,NR,t3,t7,t8,t9⟩ Q' YF;simp only at hk kH t3 t7 t8 t9;subst hk;apply Zb;intro b3 ZH;simp[t8,t9,Nn];subst ZH;apply Zf;intro b3 ZH;by_cases hi:i<m0
   ·refine Za (t:=true) (by simp[hi]) ?_;apply Zl;subst ZH;obtain⟨x,hx⟩: ∃x,args[i]?=some x:=⟨_,List.getElem?_eq_getElem (by omega)⟩;have RV:YB (args.take (i+1))=YB (args.take i)+x.nodes:=by rw[QJ hx,R7];simp[YB]
    have hle:YB (args.take (i+1))<=YB args:=by have:=R7 (args.take (i+1)) (args.drop (i+1));rw[List.take_append_drop]at this;omega
    obtain⟨p,us,H5,e1,e2,e3,k5,e5,r5⟩:=Lh h3 (kB.trans kH) hx;have vT:=Ul hx;obtain⟨_,H6,c6,rfl,k6⟩:=ih x (by omega) H5 us r5 (by omega);apply Zf;intro b3 ZH;apply Zu;apply Zb;intro b4 Yt;simp[t7,t9,e1,e2,zE,Value.cells,e3];subst Yt;apply Zg;simp[t3,e5,c6,wO (x:=1+YB (args.take i)) (y:=x.nodes) (by omega)];subst ZH;apply Zg;simp[t9,Vv (x:=i) (by omega)];apply YF;refine⟨m-1,by omega,rfl,(kH.trans k5).trans k6,i+1,by omega,?_,by simp[t7],by simp[t8],by simp⟩;simp;rw[RV,Nat.add_assoc]
   ·refine Za (t:=false) (by simp[hi]) ?_;apply YZ;apply YF;left;refine⟨rfl,?_⟩;obtain rfl:i=m0:=by omega
    rw[List.take_of_length_le (by omega)]at t3;subst Ze;apply Zb;intro b1 Ze;simp[t3];subst Ze;apply Zq;simp;exact kB.trans kH
theorem cW: ∀n(t:RT),t.nodes<=n-> ∀(H:AH)(vs:List Value),Rx Q H vs t->t.nodes<=1000000000->CW Tryz.prog Zw 103 [.agg vs.toArray] H (fun v H'=>v= .int .i64 (t.depth:Int)/\Zh H H'):=by intro n;induction n with
 |zero=>intro t h;have:=Uu t;omega
 |succ n ih=>intro t ht H vs hE hb;have hdn:=Kl _ t (Nat.le_refl _);obtain⟨op,neg,N,D,bad,args⟩:=t;cases hE with
  |@mk _ _ _ vn vd vx _ _ _ h1 h2 h3=>
   simp only[RT.nodes,RT.depth]at ht hb hdn⊢;refine Z8 23 Tryz.func103 ?_;have kB:=Zh.new H 1 [.int .i64 op,.bool neg,vn,vd,.bool bad,vx];have cB:=Vy H 1 [.int .i64 op,.bool neg,vn,vd,.bool bad,vx];obtain⟨HB,MS⟩:=hid (H.new 1 [.int .i64 op,.bool neg,vn,vd,.bool bad,vx]);rw[<-MS]at kB cB;have l5:=Z0 uJ (o:=5) cB rfl;have lx:=h3.len;obtain⟨m0,M6⟩:=hid (args.length);have la:=RQ args;rw[<-M6]at lx la;apply Zb;intro b1 Ze;simp[Value.cells,<-MS];subst Ze;apply Zb;intro b1 Ze;simp;subst Ze;apply Zf;intro b1 Ze;apply Zb;intro b2 Zp;simp[Qp,l5,lx];subst Zp;apply Zu;refine Yv (fun m s'=>s'.k=23/\Zh HB s'.H/\ ∃i:Nat,m+i=m0/\s'.tm.get 3=some (.int .i64 ((Xd (args.take i):Nat):Int))/\s'.tm.get 8=some vx/\s'.tm.get 9=some (.int .i64 (m0:Int))/\s'.tm.get 10=some (.int .i64 (i:Int))) ?_ m0 _ ⟨rfl,.refl HB,0,by omega,by simp[Xd],by simp,by simp,by simp⟩;rintro m ⟨k,tm,H4⟩ ⟨hk,kH,i,NR,t3,t8,t9,t10⟩ Q' YF;simp only at hk kH t3 t8 t9 t10;subst hk;apply Zb;intro b3 ZH;simp[t9,t10,Nn];subst ZH;apply Zf;intro b3 ZH;by_cases hi:i<m0
   ·refine Za (t:=true) (by simp[hi]) ?_;apply Zl;subst ZH;obtain⟨x,hx⟩: ∃x,args[i]?=some x:=⟨_,List.getElem?_eq_getElem (by omega)⟩;have mS:Xd (args.take (i+1))=max (Xd (args.take i)) x.depth:=by rw[QJ hx,Ll];simp[Xd]
    obtain⟨p,us,H5,e1,e2,e3,k5,e5,r5⟩:=Lh h3 (kB.trans kH) hx;have vT:=Ul hx;obtain⟨_,H6,c6,rfl,k6⟩:=ih x (by omega) H5 us r5 (by omega);apply Zf;intro b3 ZH;apply Zu;apply Zb;intro b4 Yt;simp[t8,t10,e1,e2,zE,Value.cells,e3];subst Yt;apply Zb;intro b4 Yt;simp[e5,c6];subst Yt;apply Zb;intro b4 Yt;simp[t3,gtrN (x:=x.depth) (y:=Xd (args.take i))];subst Yt;by_cases hg:Xd (args.take i)<x.depth;·refine Za (t:=true) (by simp[hg]) ?_;apply Zg;simp;subst ZH;apply Zg;simp[t10,Vv (x:=i) (by omega)];apply YF;refine⟨m-1,by omega,rfl,(kH.trans k5).trans k6,i+1,by omega,?_,by simp[t8],by simp[t9],by simp⟩;simp;rw[mS];omega
    ·refine Za (t:=false) (by simp[hg]) ?_;apply Zl;subst ZH;apply Zg;simp[t10,Vv (x:=i) (by omega)];apply YF;refine⟨m-1,by omega,rfl,(kH.trans k5).trans k6,i+1,by omega,?_,by simp[t8],by simp[t9],by simp⟩;simp;rw[mS,Nat.max_eq_left (by omega)];exact t3
   ·refine Za (t:=false) (by simp[hi]) ?_;apply YZ;apply YF;left;refine⟨rfl,?_⟩;obtain rfl:i=m0:=by omega
    rw[List.take_of_length_le (by omega)]at t3;subst Ze;apply Zb;intro b1 Ze;simp[t3,Vv (x:=Xd args) (by omega)];subst Ze;apply Zq;simp;exact kB.trans kH
end
theorem AG{N:Nat}(h:Zn N<=67108864):(ds Z4 N).length<=2*WT:=by
 obtain⟨k,hk⟩:=hid ((ds Z4 N).length);rcases Nat.eq_zero_or_pos k with h0|h0;·omega
 ·have:=(eI (N:=N) (by omega)).1;show _<=2*2000000000000;omega
section
variable {Q : Nat -> Prop}
theorem gf{x:Nat}(h:x<=67108864):Zc .gtr .i64 (x:Int) 67108864=some (.bool false):=by rw[rM,decide_eq_false (by omega)]
theorem cO: ∀n(t:RT),t.nodes<=n-> ∀(H:AH)(vs:List Value),Rx Q H vs t->t.fit->t.nodes<=1000000000->CW Tryz.prog Zw 71 [.agg vs.toArray] H (fun v H'=>v= .bool t.right/\Zh H H'):=by intro n;induction n with
 |zero=>intro t h;have:=Uu t;omega
 |succ n ih=>intro t ht H vs hE hf hb;obtain⟨op,neg,N,D,bad,args⟩:=t;obtain⟨fN,fD,fA⟩:=hf;cases hE with
  |@mk _ _ _ vn vd vx _ _ _ h1 h2 h3=>
   simp only[RT.nodes]at ht hb;obtain⟨R,hR⟩:=hid ((RT.node op neg N D bad args).right);rw[<-hR];simp only[RT.right]at hR;obtain⟨g,hg⟩:=hid (af op bad args.length);rw[<-hg]at hR;unfold af at hg;refine Z8 41 Tryz.func71 ?_;have kB:=Zh.new H 1 [.int .i64 op,.bool neg,vn,vd,.bool bad,vx];have cB:=Vy H 1 [.int .i64 op,.bool neg,vn,vd,.bool bad,vx];obtain⟨HB,MS⟩:=hid (H.new 1 [.int .i64 op,.bool neg,vn,vd,.bool bad,vx]);rw[<-MS]at kB cB;have cT:HB.top.cells H.n=some _:=cB;have l0:=Z0 L9 (o:=0) cT rfl;have l2:=Z0 kJ (o:=2) cT rfl;have l3:=Z0 kJ (o:=3) cT rfl;have l4:=Z0 IE (o:=4) cT rfl;have l5:=Z0 uJ (o:=5) cT rfl;have l5':=Z0 uJ (o:=5) cB rfl;have lx:=h3.len;have c1:=Cx (H:=HB.top) op;have c2:=TT ((h1.1.keep kB).keep (Tm _)) (AG fN);have c3:=TT ((h2.1.keep kB).keep (Tm _)) (AG fD);have e1:=gf fN;have e2:=gf fD;obtain⟨m0,M6⟩:=hid (args.length);have la:=RQ args;rw[<-M6]at lx la hg;have e0:Zc .neq .i64 (OA op) (m0:Int)=some (.bool (decide (OA op≠(m0:Int)))):=TV;apply Zb;intro b1 Ze;simp[Value.cells,<-MS];subst Ze;apply Zf;intro b1 Ze;apply Zf;intro b2 Zp;have no: ∀tm:Tr Value,tm.get 29=some (.bool true)->R=false->W Tryz.prog Zw b2 ⟨41,tm,HB⟩ (Ys Tryz.prog Zw b1 fun ex s=>(ex= .norm\/ex= .ret)/\ ∃vs,ZZ Tryz.prog s [.tmp 2]=some vs/\Yb vs= .bool R/\Zh H s.H):=fun tm ht hno=>by rw[hno];subst Zp;refine Za (t:=true) (by simp[ht]) ?_;apply Zb;intro b2 Zp;simp;subst Zp;apply Zq;simp[Ys];exact kB
   apply NO (by kernel_rfl);by_cases mu:bad=true;·subst mu;simp[Jj,l4];show W _ _ b2 _ _;exact no _ (by simp) (by rw[hR,hg];rfl)
   have mu:bad=false:=by simpa using mu
   subst mu;by_cases ha:OA op=(m0:Int)
   ·rw[decide_eq_false (by omega)]at e0;simp[rO,Jj,Qp,Ar,feN,feD,l0,l2,l3,l4,l5,lx,c1,c2,c3,e0,e1,e2];subst Zp;refine Za (t:=false) (by simp) ?_;apply Zl;subst Ze;clear no;have yX:g=true:=by
     rw[hg];unfold OA at ha;split at ha;·rename_i h;rw[decide_eq_true ⟨h.1,h.2,by omega⟩];rfl
     ·omega
    rw[yX,Bool.true_and]at hR;apply Zf;intro b1 Ze;apply Zb;intro b2 Zp;simp[Qp,l5',lx];subst Zp;apply Zu;refine Yv (fun m s'=>s'.k=41/\Zh HB s'.H/\ ∃i:Nat,m+i=m0/\Wd (args.take i)=true/\s'.tm.get 31=some vx/\s'.tm.get 32=some (.int .i64 (m0:Int))/\s'.tm.get 33=some (.int .i64 (i:Int))) ?_ m0 _ ⟨rfl,.refl HB,0,by omega,by simp[Wd],by simp,by simp,by simp⟩;rintro m ⟨k,tm,H4⟩ ⟨hk,kH,i,NR,Sd,t31,t32,t33⟩ Q' YF;simp only at hk kH t31 t32 t33;subst hk;apply Zb;intro b3 ZH;simp[t32,t33,Nn];subst ZH;apply Zf;intro b3 ZH;by_cases hi:i<m0
    ·refine Za (t:=true) (by simp[hi]) ?_;apply Zl;subst ZH;obtain⟨x,hx⟩: ∃x,args[i]?=some x:=⟨_,List.getElem?_eq_getElem (by omega)⟩;have gE:Wd (args.take (i+1))=x.right:=by rw[QJ hx,R8,Sd];simp[Wd]
     obtain⟨p,us,H5,e1,e2,e3,k5,e5,r5⟩:=Lh h3 (kB.trans kH) hx;have vT:=Ul hx;obtain⟨_,H6,c6,rfl,k6⟩:=ih x (by omega) H5 us r5 (DR fA hx) (by omega);obtain⟨r,hr⟩:=hid (x.right);rw[<-hr]at c6 gE;apply Zf;intro b3 ZH;apply Zu;apply Zb;intro b4 Yt;simp[t31,t33,e1,e2,zE,Value.cells,e3];subst Yt;apply Zb;intro b4 Yt;simp[e5,c6];subst Yt;cases r with
      |true=>refine Za (t:=false) (by simp) ?_;apply Zl;subst ZH;apply Zg;simp[t33,Vv (x:=i) (by omega)];apply YF;exact⟨m-1,by omega,rfl,(kH.trans k5).trans k6,i+1,by omega,gE,by simp[t31],by simp[t32],by simp⟩
      |false=>
       refine Za (t:=true) (by simp) ?_;apply Zb;intro b1 Ze;simp;subst Ze;apply Zq;apply YF;have:Wd args=false:=by have h:=R8 (args.take (i+1)) (args.drop (i+1));rw[List.take_append_drop,gE,Bool.false_and]at h;exact h
       rw[this]at hR;simp[TY,Ye,Ys,hR];exact((kB.trans kH).trans k5).trans k6
    ·refine Za (t:=false) (by simp[hi]) ?_;apply YZ;apply YF;left;refine⟨rfl,?_⟩;obtain rfl:i=m0:=by omega
     rw[List.take_of_length_le (by omega)]at Sd;rw[Sd]at hR;subst Ze;apply Zb;intro b1 Ze;simp;subst Ze;apply Zq;simp[hR];exact kB.trans kH
   ·rw[decide_eq_true ha]at e0;simp[rO,Jj,Qp,Ar,feN,feD,l0,l2,l3,l4,l5,lx,c1,c2,c3,e0,e1,e2];show W _ _ b2 _ _;refine no _ (by simp) ?_;rw[hR,hg];have:decide (0<=op/\op<16/\m0=arity op.toNat)=false:=decide_eq_false fun h=>by unfold OA at ha;rw[if_pos ⟨h.1,h.2.1⟩]at ha;omega
    rw[this];rfl
section
variable {H : AH} {vs : List Value} {t : RT}
theorem E9{Q:Nat->Prop}{H H':AH}{vs:List Value}{t:RT}(h:Rx Q H vs t)(k:Zh (H.new 1 vs) H'):Z7 Tryz.prog H' 68 (.pointer (some ⟨H.n,0,none⟩))=some (.agg vs.toArray):=JS (o:=0) (cs:=vs) ((Vm k (Nat.lt_succ_self _)).trans (Vy H 1 vs)) (by rw[List.drop_zero,List.take_of_length_le (by rw[h.len];omega)]) h.len
theorem DP(h:Rx Q H vs t)(hb:t.nodes<=1000000000): ∃H',ZY Tryz.prog Zw 102 [.agg vs.toArray] H=some (.int .i64 (t.nodes:Int),H')/\Zh H H':=by obtain⟨_,H',hc,rfl,k⟩:=cR _ t (Nat.le_refl _) H vs h hb;exact⟨H',hc,k⟩
theorem Dz(h:Rx Q H vs t)(hb:t.nodes<=1000000000): ∃H',ZY Tryz.prog Zw 103 [.agg vs.toArray] H=some (.int .i64 (t.depth:Int),H')/\Zh H H':=by obtain⟨_,H',hc,rfl,k⟩:=cW _ t (Nat.le_refl _) H vs h hb;exact⟨H',hc,k⟩
theorem DN(h:Rx Q H vs t)(hf:t.fit)(hb:t.nodes<=1000000000): ∃H',ZY Tryz.prog Zw 71 [.agg vs.toArray] H=some (.bool t.right,H')/\Zh H H':=by obtain⟨_,H',hc,rfl,k⟩:=cO _ t (Nat.le_refl _) H vs h hf hb;exact⟨H',hc,k⟩
theorem DQ(h:Rx Q H vs t)(hb:t.nodes<=1000000000): ∃H',ZY Tryz.prog Zw 72 [.agg vs.toArray] H=some (.bool (decide (4000<t.nodes\/200<t.depth)),H')/\Zh H H':=by
 suffices hs:CW Tryz.prog Zw 72 [.agg vs.toArray] H fun v H'=>v= .bool (decide (4000<t.nodes\/200<t.depth))/\Zh H H' by obtain⟨_,H',hc,rfl,k⟩:=hs;exact⟨H',hc,k⟩
 obtain⟨R,hR⟩:=hid (decide (4000<t.nodes\/200<t.depth));rw[<-hR];refine Z8 11 Tryz.func72 ?_;have kB:=Zh.new H 1 vs;have lb:=fun{H'} (k:Zh (H.new 1 vs) H')=>E9 h k;obtain⟨HB,MS⟩:=hid (H.new 1 vs);rw[<-MS]at kB lb;obtain⟨H2,c2,k2⟩:=DP (h.keep kB) hb;obtain⟨H3,c3,k3⟩:=Dz ((h.keep kB).keep k2) hb;have l1:=lb (.refl HB);have l2:=lb k2;have g1:Zc .gtr .i64 (t.nodes:Int) 4000=some (.bool (decide (4000<t.nodes))):=gg (y:=4000) rfl;have g2:Zc .gtr .i64 (t.depth:Int) 200=some (.bool (decide (200<t.depth))):=gg (y:=200) rfl;apply Zb;intro b1 Ze;simp[Value.cells,<-MS];subst Ze;apply Zb;intro b1 Ze;by_cases h1:4000<t.nodes;·rw[decide_eq_true h1]at g1;simp[l1,c2,g1];subst Ze;apply Zq;simp;exact⟨by rw[hR];simp[h1],kB.trans k2⟩
 ·rw[decide_eq_false h1]at g1;simp[l1,c2,g1,l2,c3,g2];subst Ze;apply Zq;simp;exact⟨by rw[hR];simp[h1],(kB.trans k2).trans k3⟩
def Om(t:RT):Nat:=if t.right=false then 152 else if 4000<t.nodes\/200<t.depth then 151 else 0
theorem LI(h:Rx Q H vs t)(hf:t.fit)(hb:t.nodes<=1000000000): ∃H',ZY Tryz.prog Zw 35 [.agg vs.toArray] H=some (.int .i64 (Om t:Int),H')/\Zh H H':=by
 suffices hs:CW Tryz.prog Zw 35 [.agg vs.toArray] H fun v H'=>v= .int .i64 (Om t:Int)/\Zh H H' by obtain⟨_,H',hc,rfl,k⟩:=hs;exact⟨H',hc,k⟩
 obtain⟨R,hR⟩:=hid (Om t);rw[<-hR];unfold Om at hR;refine Z8 8 Tryz.func35 ?_;have kB:=Zh.new H 1 vs;have lb:=fun{H'} (k:Zh (H.new 1 vs) H')=>E9 h k;obtain⟨HB,MS⟩:=hid (H.new 1 vs);rw[<-MS]at kB lb;obtain⟨H2,c2,k2⟩:=DN (h.keep kB) hf hb;obtain⟨H3,c3,k3⟩:=DQ ((h.keep kB).keep k2) hb;have l1:=lb (.refl HB);have l2:=lb k2;obtain⟨g,hg⟩:=hid (t.right);rw[<-hg]at c2 hR;obtain⟨p,hp⟩:=hid (decide (4000<t.nodes\/200<t.depth));rw[<-hp]at c3;apply Zb;intro b1 Ze;simp[Value.cells,<-MS];subst Ze;apply Zf;intro b1 Ze;apply Zb;intro b2 Zp;simp[l1,c2];subst Zp;cases g with
  |false=>rw[if_pos rfl]at hR;subst hR;refine Za (t:=true) (by simp) ?_;apply Zb;intro b1 Ze;simp;subst Ze;apply Zq;simp[Ys];exact kB.trans k2
  |true=>rw[if_neg (by decide)]at hR;refine Za (t:=false) (by simp) ?_;apply Zl;subst Ze;apply Zf;intro b1 Ze;apply Zb;intro b2 Zp;simp[l2,c3];subst Zp;cases p with|true=>rw[if_pos (of_decide_eq_true hp.symm)]at hR;subst hR;refine Za (t:=true) (by simp) ?_;apply Zb;intro b1 Ze;simp;subst Ze;apply Zq;simp[Ys];exact(kB.trans k2).trans k3|false=>rw[if_neg (of_decide_eq_false hp.symm)]at hR;subst hR;refine Za (t:=false) (by simp) ?_;apply Zl;subst Ze;apply Zb;intro b1 Ze;simp;subst Ze;apply Zq;simp;exact(kB.trans k2).trans k3
end
end
theorem JE(t:ET):Om t.ref=W0 t:=by unfold Om W0;rw[cS _ t (Nat.le_refl _),HC _ t (Nat.le_refl _),cU _ t (Nat.le_refl _)]
theorem bE(op:Int):WZ Tryz.prog 68 [(0,.int .i64 op)]=some (.agg #[.int .i64 op,.bool false,.slice none 0 0,.slice none 0 0,.bool false,.slice none 0 0]):=by kernel_rfl
theorem sB:Xn Tryz.prog 4=some 1:=by kernel_rfl
theorem sEsl:Xn Tryz.prog 66=some 1:=by kernel_rfl
theorem bEs(H:AH)(v0 v1 v2 v3 v4 v5:Value):Yz Tryz.prog H 66 1 [(0,.agg #[v0,v1,v2,v3,v4,v5])]=some (.slice (some ⟨H.n,0,none⟩) 1 1,H.new 6 [v0,v1,v2,v3,v4,v5]):=by unfold Yz;simp only[sEs,zE];kernel_rfl
theorem Fa{n0 b:Nat}{H:AH}{sz:Nat}{cs:List Value}(h:n0<=b):UL n0 H ((H.kill b).new sz cs):=fun H0 k RC=>by
 have:=k.n;have eH:(H.kill b).n=H.n:=rfl;refine⟨by show H0.n<=H.n+1;omega,?_,fun j hj=>?_⟩;·have:=k.lw;show min H0.lw H0.n<=min H.lw b;omega
 ·rw[AH.blk_new,if_neg (by rw[eH];omega),AH.blk_kill,if_neg (by omega)];exact k.blk j hj
theorem Qw{n0:Nat}{H H2:AH}(h:UL n0 H.top H2):UL n0 H (low H H2):=iI h
theorem T1{x y:Int} :Zc .eql .i64 x y=some (.bool (decide (x=y))):=by show some (Value.bool (x==y))=_;rfl
def OC(nh:Nat)(H:AH)(xv:Value)(l:List RT):Prop:=(xv= .slice none 0 0/\l=[])\/ ∃b cs,xv= .slice (some ⟨b,0,none⟩) l.length l.length/\nh<=b/\b<H.n/\H.blk b= .rw 6 cs/\cs.length=l.length*6/\ ∀(j:Nat)(u:RT),l[j]?=some u->Rx (fun j=>nh<=j/\j≠b) H ((cs.drop (j*6)).take 6) u
theorem OC.one1{nh:Nat}{H:AH}{xv:Value}{l:List RT}(h:OC nh H xv l):one xv=true/\xv.cells.toList=[xv]:=by rcases h with⟨rfl,_⟩|⟨b,cs,rfl,_⟩<;>exact⟨rfl,rfl⟩
theorem OC.append{nh:Nat}{H:AH}{xv:Value}{l:List RT}(h:OC nh H xv l)(hn:nh<=H.n){w:Nat}(hw:nh<=w)(hwn:w<H.n){us:List Value}{x:RT}(hb:H.blk w= .rw 6 us)(hx:Rx (fun j=>nh<=j) H us x)(hl:l.length<1000000000)(FK: ∀b,YQ xv=some b->Rx (fun j=>nh<=j/\j≠b) H us x/\b≠w): ∃H',Xr Tryz.prog H 66 66 xv (.slice (some ⟨w,0,none⟩) 1 1)=some (.slice (some ⟨H.n,0,none⟩) (l.length+1) (l.length+1),H')/\H'.n=H.n+1/\UL nh H H'/\(∀j,j<H.n->YQ xv≠some j->H'.blk j=H.blk j)/\OC nh H' (.slice (some ⟨H.n,0,none⟩) (l.length+1) (l.length+1)) (l++[x])/\(YQ xv=none->H'.lw=H.lw)/\(∀b,YQ xv=some b->H'.lw<=b/\b<H.n):=by
 have hul:=hx.len;have huo:=hx.ones;have hc:H.read w 0 6=some us:=by
  rw[AH.read_def];have:H.cells w=some us:=by unfold AH.cells;rw[hb]
  simp only[this,Nat.zero_add];rw[Nat.ble_eq.mpr (by omega),cond_true,List.drop_zero,List.take_of_length_le (by omega)]
 rcases h with⟨rfl,rfl⟩|⟨b,cs,rfl,Ze,Zp,ZH,Yt,Ui⟩
 ·refine⟨H.new 6 us,?_,rfl,(Zh.new H 6 us).kat nh,fun j hj _=>?_,.inr ⟨H.n,us,rfl,hn,Nat.lt_succ_self _,by rw[AH.blk_new,if_pos rfl],by simp[hul],fun j u hu=>?_⟩,fun _=>rfl,fun b hb=>by cases hb⟩;·unfold Xr;simp only[sEs,zE,XM,hc];rfl
  ·rw[AH.blk_new,if_neg (by omega)]
  ·match j,hu with|0,hu=>cases hu;rw[Nat.zero_mul,List.drop_zero,List.take_of_length_le (by omega)];exact hx.agr ⟨Nat.le_succ _,fun j _ hj=>by rw[AH.blk_new,if_neg (by omega)]⟩ fun j hj hq=>⟨hq,by omega⟩
 ·obtain⟨hxq,kl⟩:=FK b rfl;have eH:(H.kill b).n=H.n:=rfl;have e1:Nat.ble ((l.length+1)*96) 140737488355328=true:=Nat.ble_eq.mpr (by omega);have e2:Nat.ble (l.length+1) 281474976710656=true:=Nat.ble_eq.mpr (by omega);have e3:Nat.ble (0+l.length*6) cs.length=true:=Nat.ble_eq.mpr (by omega);have HL: ∀j,j<H.n->j≠b->((H.kill b).new 6 (cs++us)).blk j=H.blk j:=fun j hj C5=>by rw[AH.blk_new,if_neg (by rw[eH];omega),AH.blk_kill,if_neg C5]
  refine⟨(H.kill b).new 6 (cs++us),?_,rfl,Fa Ze,fun j hj C5=>HL j hj (fun e=>C5 (by rw[e];rfl)),.inr ⟨H.n,cs++us,by simp,hn,Nat.lt_succ_self _,by rw[AH.blk_new,if_pos eH.symm],by simp[hul,Yt];omega,fun j u hu=>?_⟩,(fun h=>by cases h),(fun b' WV=>by cases WV;exact⟨Nat.min_le_right _ _,Zp⟩)⟩;·unfold Xr;simp only[sEs,zE,XM,hc,ZH,e1,e2,e3,huo];rw[List.drop_zero,List.take_of_length_le (by omega)];rfl
  ·rw[List.getElem?_append]at hu;split at hu
   ·rename_i hj;have:((cs++us).drop (j*6)).take 6=(cs.drop (j*6)).take 6:=by rw[List.drop_append_of_le_length (by omega),List.take_append_of_le_length (by rw[List.length_drop];omega)]
    rw[this];exact(Ui j u hu).agr ⟨Nat.le_succ _,fun i hi Ir=>HL i Ir hi.2⟩ fun i Ir hi=>⟨hi.1,by omega⟩
   ·rename_i hj;obtain rfl:j=l.length:=by have:=List.getElem?_eq_some_iff.mp hu;obtain⟨h,_⟩:=this;simp at h;omega
    simp at hu;subst hu;have:((cs++us).drop (l.length*6)).take 6=us:=by rw[<-Yt,List.drop_left,List.take_of_length_le (by omega)]
    rw[this];exact hxq.agr ⟨Nat.le_succ _,fun i hi Ir=>HL i Ir hi.2⟩ fun i Ir hi=>⟨hi.1,by omega⟩
theorem OC.agr{nh:Nat}{H H':AH}{xv:Value}{l:List RT}(h:OC nh H xv l)(hn:H.n<=H'.n)(k: ∀j,nh<=j->j<H.n->H'.blk j=H.blk j):OC nh H' xv l:=by
 rcases h with h|⟨b,cs,h1,h2,h3,h4,h5,h6⟩;·exact .inl h
 ·exact .inr ⟨b,cs,h1,h2,by omega,by rw[k b h2 h3];exact h4,h5,fun j u hu=>(h6 j u hu).agr ⟨hn,fun i hi Ir=>k i hi.1 Ir⟩ fun _ _ h=>h⟩
theorem OC.blk{nh:Nat}{H:AH}{xv:Value}{l:List RT}(h:OC nh H xv l){b:Nat}(hb:YQ xv=some b):nh<=b/\b<H.n:=by
 rcases h with⟨rfl,_⟩|⟨b',cs,rfl,h2,h3,_⟩;·cases hb
 ·cases hb;exact⟨h2,h3⟩
theorem OC.rxs{nh n0:Nat}(h0:n0<=nh){H:AH}{xv:Value}{l:List RT}(h:OC nh H xv l):ee (fun j=>n0<=j) H xv l:=by
 rcases h with⟨rfl,rfl⟩|⟨b,cs,rfl,h2,h3,h4,h5,h6⟩;·exact .nil
 ·exact .mk b l.length (cs:=cs) (by omega) h3 h4 (Nat.le_refl _) fun j u hu=>(h6 j u hu).agr ⟨Nat.le_refl _,fun _ _ _=>rfl⟩ fun i _ hi=>by have:=hi.1;omega
def eh(H:AH)(t:ET)(v:Value)(H':AH):Prop:=Zh H H'/\ ∃us:List Value,v= .agg us.toArray/\Rx (fun j=>H.n<=j) H' us t.ref
theorem aBs:XR Tryz.prog 4=some false:=by kernel_rfl
structure HeadIs (H : AH) (vs : List Value) (op : Int) (r : (Bool × Nat × Nat) × Bool) (c nh : Nat) (vn vd : Value) (s : St) : Prop where
  k : s.k = 70
  keep : Zh H s.H
  hc : H.n + 2 <= c
  r7 : c < nh
  hn : nh = s.H.n
  blk : s.H.blk c = .rw 1 [.int .i64 op, .bool r.1.1, vn, vd, .bool r.2, .slice none 0 0]
  box : s.H.blk H.n = .rw 1 vs
  res : s.H.blk (H.n + 1) = .rw 1 [.int .i64 0, .bool false, .slice none 0 0, .slice none 0 0, .bool false, .slice none 0 0]
  sn : ri (fun j => H.n + 2 <= j /\ j ≠ c) s.H vn (ds Z4 r.1.2.1)
  sd : ri (fun j => H.n + 2 <= j /\ j ≠ c) s.H vd (ds Z4 r.1.2.2)
  t1 : s.tm.get 1 = some (.pointer (some ⟨H.n, 0, none⟩))
  t2 : s.tm.get 2 = some (.pointer (some ⟨H.n + 1, 0, none⟩))
  t5 : s.tm.get 5 = some (.pointer (some ⟨c, 0, none⟩))
theorem or3(a b c:Bool):(a||b||c)=(a||(b||c)):=Bool.or_assoc ..
theorem oV: ∀n(t:ET),t.nodes<=n-> ∀(H:AH)(vs:List Value),Ex H vs t->t.wide 1048576->t.nodes<=100000000->CW Tryz.prog Zw 30 [.agg vs.toArray] H (eh H t):=by intro n;induction n with
 |zero=>intro t h;have:=Xu t;omega
 |succ n ih=>intro t ht H vs hE hw hb;obtain⟨op,neg,abs,den,args⟩:=t;have hEk:=hE;obtain⟨la,ld,da,dd,ws⟩:=hw;simp only[ET.nodes]at ht hb;cases hEk with
  |@mk _ _ va vd vx _ _ _ h1 h2 h3=>
   unfold eh;simp only[ET.ref];obtain⟨r,hr⟩:=hid (WR op neg abs den);rw[<-hr];unfold WR at hr;refine Z8 70 Tryz.func30 ?_;obtain⟨vs,OO⟩:=hid ([Value.int .i64 op,.bool neg,va,vd,vx]);obtain⟨zs,im⟩:=hid ([Value.int .i64 0,.bool false,.slice none 0 0,.slice none 0 0,.bool false,.slice none 0 0]);have kB:=Zh.new H 1 vs;have cB:=Vy H 1 vs;have bB:(H.new 1 vs).blk H.n= .rw 1 vs:=by rw[AH.blk_new,if_pos rfl]
   have nB:(H.new 1 vs).n=H.n+1:=rfl;obtain⟨HB,MS⟩:=hid (H.new 1 vs);rw[<-MS]at kB cB bB nB;have kC:=Zh.new HB 1 zs;have bC:(HB.new 1 zs).blk HB.n= .rw 1 zs:=by rw[AH.blk_new,if_pos rfl]
   have nC:(HB.new 1 zs).n=H.n+2:=by show HB.n+1=_;omega
   obtain⟨H1,hH1⟩:=hid (HB.new 1 zs);rw[<-hH1]at kC bC nC;rw[nB]at bC;have bB1:H1.blk H.n= .rw 1 vs:=by rw[kC.blk _ (by omega)];exact bB
   have k1:=kB.trans kC;obtain⟨v1,H2,c1,k2,o1,l1⟩:=Fo (H:=H1.top) ((h1.keep k1).top) da (by show _<=2000000000000;omega);obtain⟨G1,UO⟩:=hid (grown H1 H2);have WO:Zh H1 G1:=by rw[UO];exact Yc (.refl H1) k2
   have kW:Yl H1.n G1 v1 (ds Z4 (dv Zd abs)):=by rw[UO];exact o1.same (Yo k2)
   have n2:H1.n<=H2.n:=k2.n;have dS:G1.n=H2.n:=by rw[UO];rfl
   obtain⟨v2,H3,c2,k3,o2,l2⟩:=Fo (H:=G1.top) ((h2.keep (k1.trans WO)).top) dd (by show _<=2000000000000;omega);obtain⟨G2,Kf⟩:=hid (grown G1 H3);have Ih:Zh G1 G2:=by rw[Kf];exact Yc (.refl G1) k3
   have tN:Yl G1.n G2 v2 (ds Z4 (dv Zd den)):=by rw[Kf];exact o2.same (Yo k3)
   have n3:G1.n<=H3.n:=k3.n;have nG2:G2.n=H3.n:=by rw[Kf];rfl
   have box: ∀{H':AH}(k:Zh H1 H'),H'.cells H.n=some vs:=fun k=>by unfold AH.cells;rw[k.blk _ (by omega),bB1]
   have a2:Z7 Tryz.prog H1.top 30 (.pointer (some ⟨H.n,2,none⟩))=some va:=Z0 MN (box (Tm H1)) (by rw[OO];rfl);have a3: ∀bits ms,(∀x∈ms,H1.n<=x.2.1)->Z7 Tryz.prog (P0 G1 bits ms) 30 (.pointer (some ⟨H.n,3,none⟩))=some vd:=fun bits ms h=>Z0 MN (box (Xp WO h)) (by rw[OO];rfl);apply Zb;intro b1 Ze;simp[Value.cells,zE,<-OO,<-im,<-MS,<-hH1];subst Ze;apply Zf;intro b1 Ze;apply YI (by kernel_rfl);simp[PY,fG,NC];refine ZK (v:=va) rfl rfl rfl (by rw[ZN rfl];simp[a2]) ?_;simp;refine YW (v:=v1) (H2:=H2) rfl rfl rfl (by rw[ZN rfl];simp[c1]) n2 (YM k2) ?_;rw[<-UO];generalize PO:cond (Nat.blt H1.n H2.n) _ _=ms;have X1:=Ug PO;simp[PY,pS];refine ZK (v:=vd) rfl rfl rfl (by simp[a3 _ ms fun x hx=>(X1 x hx).2]) ?_;simp;refine YW (v:=v2) (H2:=H3) rfl rfl rfl ?_ n3 (YM k3) ?_;·rw[ZN (Yq fun x hx=>by rw[(X1 x hx).1];kernel_rfl)];simp[c2]
   rw[<-Kf];simp;rw[nB];subst Ze;have iv:=k1.trans (WO.trans Ih);have mH:=WO.trans Ih;have nH:=mH.n;obtain⟨H4,W4,k4,Ij,n4⟩:=Xe (H:=G2) (sz:=1) (zs:=zs) sE (by rw[im];rfl) (v:= .agg #[.int .i64 op,.bool false,.slice none 0 0,.slice none 0 0,.bool false,.slice none 0 0]) (ws:=[.int .i64 op,.bool false,.slice none 0 0,.slice none 0 0,.bool false,.slice none 0 0]) rfl rfl rfl;have ld0:Z7 Tryz.prog G2 50 (.pointer (some ⟨H.n,0,none⟩))=some (.int .i64 op):=Z0 aOp (box mH) (by rw[OO];rfl);apply Zb;intro b1 Ze;simp[En,ld0,bE,zE,Value.cells,<-im,W4];subst Ze;have S6:=mH.trans k4;have Re:=k1.trans S6;have o14:Yl H1.n H4 v1 (ds Z4 (dv Zd abs)):=kW.mono (Nat.le_refl _) (Ih.trans k4);have o24:Yl H1.n H4 v2 (ds Z4 (dv Zd den)):=tN.mono (by have:=WO.n;omega) k4;have jB: ∀c,YQ v1=some c->c<G2.n:=fun c hc=>(kW.m Ih).blk_lo hc|>.2;have b24: ∀c,YQ v2=some c->c<G2.n:=fun c hc=>(tN.blk_lo hc).2;have ld4:Z7 Tryz.prog H4 50 (.pointer (some ⟨H.n,0,none⟩))=some (.int .i64 op):=Z0 aOp (box S6) (by rw[OO];rfl);have iN:Z7 Tryz.prog H4 4 (.pointer (some ⟨H.n,1,none⟩))=some (.bool neg):=Z0 aBs (box S6) (by rw[OO];rfl);have zI:Z7 Tryz.prog H4 30 (.pointer (some ⟨H.n,2,none⟩))=some va:=Z0 MN (box S6) (by rw[OO];rfl);have lde:Z7 Tryz.prog H4 30 (.pointer (some ⟨H.n,3,none⟩))=some vd:=Z0 MN (box S6) (by rw[OO];rfl);have wE:H4.blk (H.n+1)= .rw 1 zs:=by rw[S6.blk _ (by omega)];exact bC
   have wD:H4.blk H.n= .rw 1 vs:=by rw[S6.blk _ (by omega)];exact bB1
   obtain⟨c,hc⟩:=hid (G2.n);rw[<-hc]at Ij n4 jB b24⊢;have r7:H.n+2<=c:=by omega
   have e0:Zc .eql .i64 op 0=some (.bool (decide (op=0))):=T1;refine Y6 (fun s'=> ∃nh vn FJ,HeadIs H vs op r c nh vn FJ s') ?_ ?_
   ·intro Q' YF;have fin: ∀(H5 H6:AH)(tm:Tr Value)(vn FJ:Value),Zh H4 H5->(∀j,j≠c->H6.blk j=H5.blk j)->H6.n=H5.n->UL c H5 H6->H6.blk c= .rw 1 [.int .i64 op,.bool r.1.1,vn,FJ,.bool r.2,.slice none 0 0]->ri (fun j=>H.n+2<=j/\j≠c) H5 vn (ds Z4 r.1.2.1)->ri (fun j=>H.n+2<=j/\j≠c) H5 FJ (ds Z4 r.1.2.2)->tm.get 1=some (.pointer (some ⟨H.n,0,none⟩))->tm.get 2=some (.pointer (some ⟨H.n+1,0,none⟩))->tm.get 5=some (.pointer (some ⟨c,0,none⟩))->Q' .norm ⟨70,tm,H6⟩:=fun H5 H6 tm vn FJ k5 HL n6 ka bl sn sd t1 t2 t5=>by
     have n5:=k5.n;have ag:kO (fun j=>H.n+2<=j/\j≠c) H5 H6:=⟨Nat.le_of_eq n6.symm,fun j hj _=>HL j hj.2⟩;refine YF _ ⟨H6.n,vn,FJ,rfl,ka H (Re.trans k5) (by omega),r7,by show c<H6.n;omega,rfl,bl,?_,?_,⟨sn.1.agr sn.2 ag,sn.2⟩,⟨sd.1.agr sd.2 ag,sd.2⟩,t1,t2,t5⟩;·show H6.blk H.n=_;rw[HL _ (by omega),k5.blk _ (by omega)];exact wD
     ·show H6.blk (H.n+1)=_;rw[HL _ (by omega),k5.blk _ (by omega),wE,im]
    have nr:ri (fun j=>H.n+2<=j/\j≠c) H4 (.slice none 0 0) (ds Z4 0):=⟨by rw[XT];exact .nil,fun b hb=>by cases hb⟩;apply Zb;intro b2 Zp;simp[En,ld4,e0];subst Zp;by_cases h0:op=0
    ·refine Za (t:=true) (by simp[h0]) ?_;rw[if_pos h0]at hr;have z:=Ov o24.sl;apply Zb;intro b2 Zp;simp[z];subst Zp;by_cases mY:dv Zd den=0;·refine Za (t:=true) (by simp[mY]) ?_;rw[if_pos mY]at hr;obtain⟨H5,Xz,KD,n5,nW,WN,_⟩:=WB (b:=c) (o:=4) (v:= .bool true) (ws:=[.bool true]) sB Ij rfl rfl (by simp) rfl;apply Zg;simp[Jj,Xz];exact fin H4 H5 _ (.slice none 0 0) (.slice none 0 0) (.refl H4) nW n5 WN (by rw[KD,hr];rfl) (by rw[hr];exact nr) (by rw[hr];exact nr) (by simp) (by simp) (by simp)
     ·refine Za (t:=false) (by simp[mY]) ?_;rw[if_neg mY]at hr;obtain⟨us,H5,c5,k5,QY⟩:=Of (H:=H4) neg o14.sl o24.sl l1 l2 (by omega);obtain⟨x,y,rfl,ox,oy⟩:=QY;have n5:=k5.n;obtain⟨H6,WU,lK,n6,oth6,Vg,_⟩:=WB (H:=H5) (b:=c) (o:=1) (cs:=[.int .i64 op,.bool false,.slice none 0 0,.slice none 0 0,.bool false,.slice none 0 0]) (sz:=1) (v:= .agg #[.bool (Ya neg (dv Zd abs) (dv Zd den)).1,x,y]) (ws:=[.bool (Ya neg (dv Zd abs) (dv Zd den)).1,x,y]) sR (by rw[k5.blk _ (by omega)];exact Ij) rfl rfl (by simp) (by obtain⟨_,_,_,rfl⟩:=ox.shape;obtain⟨_,_,_,rfl⟩:=oy.shape;rfl);have c5:ZY Tryz.prog Zw 22 [.bool neg,v1,v2] H4=some (.agg #[.bool (Ya neg (dv Zd abs) (dv Zd den)).1,x,y],H5):=c5;apply Zg;simp[PY,fG,VQ,iN,c5,Ar,WU];exact fin H5 H6 _ x y k5 oth6 n6 Vg (by rw[lK,hr];rfl) (by rw[hr];exact⟨ox.sl,fun b hb=>by have:=(ox.blk_lo hb).1;exact⟨by omega,by omega⟩⟩) (by rw[hr];exact⟨oy.sl,fun b hb=>by have:=(oy.blk_lo hb).1;exact⟨by omega,by omega⟩⟩) (by simp) (by simp) (by simp)
    ·refine Za (t:=false) (by simp[h0]) ?_;rw[if_neg h0]at hr;have f1:Zc .gtr .i64 (abs.length:Int) 0=some (.bool (decide (0<abs.length))):=rL;have f2:Zc .gtr .i64 (den.length:Int) 0=some (.bool (decide (0<den.length))):=rL;have vJ:=(h1.keep Re).len Zv;have zG:=(h2.keep Re).len Zv;obtain⟨R,hR⟩: ∃R:Bool,R=(neg||decide (0<abs.length)||decide (0<den.length)):=⟨_,rfl⟩;rw[<-hR]at hr;obtain⟨H5,Xz,KD,n5,nW,WN,_⟩:=WB (b:=c) (o:=4) (v:= .bool R) (ws:=[.bool R]) sB Ij rfl rfl (by simp) rfl;have done: ∀tm:Tr Value,tm.get 1=some (.pointer (some ⟨H.n,0,none⟩))->tm.get 2=some (.pointer (some ⟨H.n+1,0,none⟩))->tm.get 5=some (.pointer (some ⟨c,0,none⟩))->Q' .norm ⟨70,tm,H5⟩:=fun tm t1 t2 t5=>fin H4 H5 tm (.slice none 0 0) (.slice none 0 0) (.refl H4) nW n5 WN (by rw[KD,hr];rfl) (by rw[hr];exact nr) (by rw[hr];exact nr) t1 t2 t5;apply Zg;cases neg with
     |true=>rw[show R=true by rw[hR];simp]at Xz;simp[PY,fG,VQ,iN,Jj,Xz];exact done _ (by simp) (by simp) (by simp)
     |false=>
      by_cases g1:0<abs.length;·rw[decide_eq_true g1]at f1;rw[show R=true by rw[hR,decide_eq_true g1];simp]at Xz;simp[PY,fG,VQ,NC,iN,zI,vJ,f1,Jj,Xz];exact done _ (by simp) (by simp) (by simp)
      ·rw[decide_eq_false g1]at f1 hR;rw[Bool.false_or,Bool.false_or]at hR;rw[<-hR]at f2;simp[PY,fG,VQ,NC,pS,iN,zI,vJ,f1,lde,zG,f2,Jj,Xz];exact done _ (by simp) (by simp) (by simp)
   rintro⟨k,tm,HH⟩ ⟨nh,vn,FJ,hh⟩;obtain⟨hk,keep,N7,r7,hn,blk,bx,res,sn,sd,t1,t2,t5⟩:=hh;simp only at hk keep hn blk bx res sn sd t1 t2 t5;subst hk;clear W4 k4 Ij ld0 S6 Re o14 o24 jB b24 ld4 iN zI lde wE wD n4 WO Ih iv mH kW tN a2 a3 box;have lx:Z7 Tryz.prog HH 51 (.pointer (some ⟨H.n,4,none⟩))=some vx:=Z0 Gw (o:=4) (cs:=vs) (by unfold AH.cells;rw[bx]) (by rw[OO];rfl);have ln:=h3.len;obtain⟨m0,M6⟩:=hid (args.length);have la:=U1 args;rw[<-M6]at ln la;have hH2n:H.n<=H.n+2:=by omega
   apply Zf;intro b1 Ze;apply Zb;intro b2 Zp;simp[t1,Ji,lx,ln];subst Zp;apply Zu;refine Yv (fun m s'=>s'.k=70/\Zh H s'.H/\nh<=s'.H.n/\(∀j,j<nh->j≠c->s'.H.blk j=HH.blk j)/\ ∃(i:Nat) (xv:Value),m+i=m0/\s'.H.blk c= .rw 1 [.int .i64 op,.bool r.1.1,vn,FJ,.bool r.2,xv]/\OC nh s'.H xv (WL (args.take i))/\s'.tm.get 2=some (.pointer (some ⟨H.n+1,0,none⟩))/\s'.tm.get 5=some (.pointer (some ⟨c,0,none⟩))/\s'.tm.get 55=some vx/\s'.tm.get 56=some (.int .i64 (m0:Int))/\s'.tm.get 57=some (.int .i64 (i:Int))) ?_ m0 _ ⟨rfl,keep,Nat.le_of_eq hn,fun _ _ _=>rfl,0,.slice none 0 0,by omega,blk,.inl ⟨rfl,by simp[WL]⟩,by simp[t2],by simp[t5],by simp,by simp,by simp⟩;rintro m ⟨k,Y8,Ha⟩ ⟨hk,kH,hna,HL,i,xv,NR,lJ,own,t2,t5,t55,t56,t57⟩ Q' YF;simp only at hk kH hna HL lJ own t2 t5 t55 t56 t57;subst hk;apply Zb;intro b3 ZH;simp[t56,t57,Nn];subst ZH;by_cases hi:i<m0
   ·refine Y6 (fun s'=>s'=⟨70,Y8.set 58 (.bool (decide (i<m0))),Ha⟩) ?_ ?_;·intro KI XW;refine Za (t:=true) (by simp[hi]) ?_;apply Zl;exact XW _ rfl
    rintro _ rfl;obtain⟨x,hx⟩: ∃x,args[i]?=some x:=⟨_,List.getElem?_eq_getElem (by omega)⟩;have vT:=So hx;obtain⟨p,us,ha5,hl5,gq⟩: ∃(p:Value) (us:List Value),ZC Tryz.prog 51 vx (.int .i64 (i:Int))=some p/\Z7 Tryz.prog Ha 53 p=some (.agg us.toArray)/\Ex Ha us x:=by obtain⟨p,us,e1,e2,e3⟩:=h3.at hx;exact⟨p,us,e1,e2 _ kH,e3.keep kH⟩
    obtain⟨Hb,Xz,k5,KD,n5⟩:=Xe (H:=Ha) (sz:=1) (zs:=[.int .i64 0,.bool false,.slice none 0 0,.slice none 0 0,.slice none 0 0]) JB rfl (v:= .agg us.toArray) (ws:=us) (by simp[Value.cells]) gq.len gq.ones;have l5:Z7 Tryz.prog Hb.top 53 (.pointer (some ⟨Ha.n,0,none⟩))=some (.agg us.toArray):=R4 (o:=0) (cs:=us) (show Hb.cells Ha.n=_ by unfold AH.cells;rw[KD]) (by rw[List.drop_zero,List.take_of_length_le (by rw[gq.len];omega)]) gq.len;have wC:Hb.blk c= .rw 1 [.int .i64 op,.bool r.1.1,vn,FJ,.bool r.2,xv]:=by rw[k5.blk _ (by omega)];exact lJ
    have lX:Z7 Tryz.prog Hb.top 66 (.pointer (some ⟨c,5,none⟩))=some xv:=Z0 uJ (o:=5) (show Hb.cells c=some _ by unfold AH.cells;rw[wC]) rfl;obtain⟨_,H6,c6,k6,PA,rfl,rx6⟩:=ih x (by omega) Hb.top us ((gq.keep k5).keep (Tm Hb)) (UR ws hx) (by omega);have rlen:=rx6.len;obtain⟨u0,u1,u2,u3,u4,u5,rfl⟩: ∃u0 u1 u2 u3 u4 u5,PA=[u0,u1,u2,u3,u4,u5]:=by match PA,rlen with|[u0,u1,u2,u3,u4,u5],_=>exact⟨u0,u1,u2,u3,u4,u5,rfl⟩
    have c6:ZY Tryz.prog Zw 30 [.agg us.toArray] Hb.top=some (.agg #[u0,u1,u2,u3,u4,u5],H6):=c6;have n6:Hb.n<=H6.n:=k6.n;obtain⟨Gb,hGb⟩:=hid (grown Hb H6);have kGb:Zh Hb Gb:=by rw[hGb];exact Yc (.refl Hb) k6
    have nGb:Gb.n=H6.n:=by rw[hGb];rfl
    have rxb:Rx (fun j=>Hb.n<=j) Gb [u0,u1,u2,u3,u4,u5] x.ref:=by rw[hGb];exact rx6.agr ⟨Nat.le_refl _,fun j _ hj=>(Yo k6).blk j hj (fun e=>by cases e)⟩ fun j _ h=>h
    have bs:=bEs Gb.top u0 u1 u2 u3 u4 u5;obtain⟨Gc,ml⟩:=hid (grown Gb (Gb.top.new 6 [u0,u1,u2,u3,u4,u5]));have s6:Zh Gb Gc:=by rw[ml];exact Yc (.refl Gb) (Zh.new _ _ _)
    have nGc:Gc.n=Gb.n+1:=by rw[ml];rfl
    have blkw:Gc.blk Gb.n= .rw 6 [u0,u1,u2,u3,u4,u5]:=by have:=(Yo (Zh.new Gb.top 6 [u0,u1,u2,u3,u4,u5])).blk Gb.n (Nat.lt_succ_self _) (fun e=>by cases e);rw[ml,this,AH.blk_new,if_pos (show Gb.n=Gb.top.n from rfl)]
    have iz:Zh Ha Gc:=(k5.trans kGb).trans s6;have n5':Ha.n<=Hb.n:=k5.n;have ownT:OC nh Gc.top xv (WL (args.take i)):=own.agr (by have:=iz.n;exact this) fun j _ hj=>iz.blk j hj;have rxT:Rx (fun j=>Hb.n<=j) Gc.top [u0,u1,u2,u3,u4,u5] x.ref:=(rxb.keep s6).keep (Tm Gc);have hlen:(WL (args.take i)).length=i:=by rw[Nx,List.length_take];omega
    obtain⟨Hd,Oz,nd,kad,nV,tF,hlw0,hlw1⟩:=ownT.append (H:=Gc.top) (nh:=nh) (us:=[u0,u1,u2,u3,u4,u5]) (x:=x.ref) (w:=Gb.n) (by show nh<=Gc.n;omega) (by omega) (by show Gb.n<Gc.n;omega) blkw (rxT.agr ⟨Nat.le_refl _,fun _ _ _=>rfl⟩ fun j _ hj=>by omega) (by omega) fun b hb=>by have:=own.blk hb;exact⟨rxT.agr ⟨Nat.le_refl _,fun _ _ _=>rfl⟩ fun j _ hj=>⟨by omega,by omega⟩,by omega⟩
    have zo:WL (args.take i)++[x.ref]=WL (args.take (i+1)):=by rw[QJ hx,QV,QV];simp
    rw[zo]at tF;rw[hlen]at Oz tF;have nd':Hd.n=Gc.n+1:=nd;have blkd:Hd.blk c= .rw 1 [.int .i64 op,.bool r.1.1,vn,FJ,.bool r.2,xv]:=by rw[nV c (by show c<Gc.n;omega) (fun e=>by have:=own.blk e;omega)];show Gc.blk c=_;rw[iz.blk _ (by omega)];exact lJ
    have fin: ∀(G3:AH),Tp none Hd G3->UL nh Gc G3-> ∃H8,YX Tryz.prog G3.top 66 (.pointer (some ⟨c,5,none⟩)) (.slice (some ⟨Gc.n,0,none⟩) (i+1) (i+1))=some H8/\G3.n<=H8.n/\H8.lw<G3.n/\Zh H (low G3 H8)/\nh<=H8.n/\(∀j,j<nh->j≠c->(low G3 H8).blk j=HH.blk j)/\(low G3 H8).blk c= .rw 1 [.int .i64 op,.bool r.1.1,vn,FJ,.bool r.2,.slice (some ⟨Gc.n,0,none⟩) (i+1) (i+1)]/\OC nh (low G3 H8) (.slice (some ⟨Gc.n,0,none⟩) (i+1) (i+1)) (WL (args.take (i+1))):=fun G3 bt ka=>by
     have b3:G3.blk c= .rw 1 [.int .i64 op,.bool r.1.1,vn,FJ,.bool r.2,xv]:=by rw[bt.blk c (by omega) (fun e=>by cases e)];exact blkd
     obtain⟨H8,KQ,blk8,n8,bD,bq,zA⟩:=WB (H:=G3.top) (b:=c) (o:=5) (v:= .slice (some ⟨Gc.n,0,none⟩) (i+1) (i+1)) (ws:=[.slice (some ⟨Gc.n,0,none⟩) (i+1) (i+1)]) sEsl b3 rfl rfl (by simp) rfl;have n8':H8.n=G3.n:=n8;have e3:=bt.n;refine⟨H8,KQ,by omega,?_,?_,by omega,fun j hj hjc=>?_,?_,?_⟩;·rw[zA];show min G3.n c<G3.n;omega
     ·have:Zh H G3:=ka H (kH.trans iz) (by omega);exact Qw bq H this (by omega)
     ·show H8.blk j=_;rw[bD j hjc];show G3.blk j=_;have e1:=(bt.blk j (by omega) (fun e=>by cases e)).trans (nV j (by show j<Gc.n;omega) (fun e=>by have:=own.blk e;omega));rw[e1];show Gc.blk j=_;rw[iz.blk _ (by omega)];exact HL j hj hjc
     ·show H8.blk c=_;rw[blk8];rfl
     ·refine tF.agr (by show Hd.n<=H8.n;omega) fun j hj1 hj2=>?_;show H8.blk j=_;rw[bD j (by omega)];exact bt.blk j hj2 (fun e=>by cases e)
    refine Y6 (fun s'=>s'.k=70/\ ∃G3 H8,YX Tryz.prog G3.top 66 (.pointer (some ⟨c,5,none⟩)) (.slice (some ⟨Gc.n,0,none⟩) (i+1) (i+1))=some H8/\Tp none Hd G3/\UL nh Gc G3/\s'.H=low G3 H8/\s'.tm.get 2=some (.pointer (some ⟨H.n+1,0,none⟩))/\s'.tm.get 5=some (.pointer (some ⟨c,0,none⟩))/\s'.tm.get 55=some vx/\s'.tm.get 56=some (.int .i64 (m0:Int))/\s'.tm.get 57=some (.int .i64 (i:Int))) ?_ ?_
    ·intro KI XW;apply Zu;apply Zb;intro b4 Yt;simp[t55,t57,ha5,hl5,J7,Value.cells,Xz];subst Yt;apply YI (by kernel_rfl);simp[t5,Qp];refine ZK (v:=xv) rfl rfl rfl (by rw[ZN rfl];simp[lX]) ?_;simp;refine ZK (v:= .agg us.toArray) rfl rfl rfl (by rw[ZN rfl];simp[l5]) ?_;simp;refine YW (v:= .agg #[u0,u1,u2,u3,u4,u5]) (H2:=H6) rfl rfl rfl (by rw[ZN rfl];simp[c6]) n6 (YM k6) ?_;rw[<-hGb];generalize PO:cond (Nat.blt Hb.n H6.n) _ _=ms;have X1:=Ug PO;simp;refine YW (v:= .slice (some ⟨Gb.n,0,none⟩) 1 1) (H2:=Gb.top.new 6 [u0,u1,u2,u3,u4,u5]) rfl rfl rfl ?_ (Nat.le_succ _) (Nat.le_refl _) ?_;·rw[ZN (Yq fun x hx=>by rw[(X1 x hx).1];kernel_rfl)];simp[bs];rfl
     rw[<-ml];have pD:Nat.blt Gb.n (Gb.top.new 6 [u0,u1,u2,u3,u4,u5]).n=true:=by rw[Nat.blt_eq];exact Nat.lt_succ_self _
     rw[pD,cond_true];have hid: ∀bits:Nat,bits.testBit 3=true->bits.testBit 4=true-> ∀x∈((4,Gb.n,(Gb.top.new 6 [u0,u1,u2,u3,u4,u5]).n)::ms),bits.testBit x.1=true:=fun bits b3 b4 x hx=>by
      rcases List.mem_cons.mp hx with e|e;·rw[e];exact b4
      ·rw[(X1 x e).1];exact b3
     simp;cases FK:YQ xv with
      |none=>
       refine YW (v:= .slice (some ⟨Gc.n,0,none⟩) (i+1) (i+1)) (H2:=Hd) rfl rfl rfl ?_ (by omega) (by rw[hlw0 FK];exact Nat.le_refl _) ?_;·rw[ZN (Yq (hid _ (by kernel_rfl) (by kernel_rfl)))];simp[Oz]
       have bt:Tp none Hd (grown Gc Hd):=⟨rfl,fun j hj _=>by
        unfold AH.blk grown;simp only[Pk];by_cases cj:Gc.n<=j;·rw[if_pos (by omega)];rfl
        ·rw[if_neg (by omega)];exact(nV j (by show j<Gc.n;omega) (by rw[FK];intro e;cases e)).symm⟩;have iZ:UL nh Gc (grown Gc Hd):=(show Zh Gc (grown Gc Hd)from⟨by show Gc.n<=Hd.n;omega,Nat.min_le_left _ _,fun j hj=>by rw[bt.blk j (by omega) (fun e=>by cases e)];exact nV j hj (by rw[FK];intro e;cases e)⟩).kat nh;obtain⟨H8,KQ,n8,zA,_⟩:=fin _ bt iZ;have CA:Nat.blt Gc.n Hd.n=true:=by rw[Nat.blt_eq];omega
       rw[CA,cond_true];simp[t5,Qp];refine YE (v:= .tuple #[]) (H2:=H8) rfl rfl (by kernel_rfl) (Yq fun x hx=>?_) ?_ n8 zA ?_
       ·rcases List.mem_cons.mp hx with e|e;·rw[e];kernel_rfl
        ·exact hid _ (by kernel_rfl) (by kernel_rfl) x e
       ·show Z6 _ _ _ _ (grown Gc Hd).top _=_;simp[KQ]
       simp;exact XW _ ⟨rfl,_,H8,KQ,bt,iZ,rfl,by simp[t2],by simp[t5],by simp[t55],by simp[t56],by simp[t57]⟩
      |some b=>
       have Ze:=hlw1 b FK;refine YE (v:= .slice (some ⟨Gc.n,0,none⟩) (i+1) (i+1)) (H2:=Hd) rfl rfl (by kernel_rfl) (Yq (hid _ (by kernel_rfl) (by kernel_rfl))) ?_ (by omega) (by have h2:b<Gc.n:=Ze.2;omega) ?_;·show Z6 _ _ _ _ Gc.top _=_;simp[Oz]
       have bt:Tp none Hd (low Gc Hd):=Mh Gc Hd;have iZ:UL nh Gc (low Gc Hd):=Qw kad;obtain⟨H8,KQ,n8,zA,_⟩:=fin _ bt iZ;have CA:Nat.blt Gc.n Hd.n=true:=by rw[Nat.blt_eq];omega
       rw[CA,cond_true];simp[t5,Qp];refine YE (v:= .tuple #[]) (H2:=H8) rfl rfl (by kernel_rfl) (Yq fun x hx=>?_) ?_ n8 zA ?_
       ·rcases List.mem_cons.mp hx with e|e;·rw[e];kernel_rfl
        ·exact hid _ (by kernel_rfl) (by kernel_rfl) x e
       ·show Z6 _ _ _ _ (low Gc Hd).top _=_;simp[KQ]
       simp;exact XW _ ⟨rfl,_,H8,KQ,bt,iZ,by simp[low,Nat.min_assoc],by simp[t2],by simp[t5],by simp[t55],by simp[t56],by simp[t57]⟩
    rintro⟨k,D7,HX⟩ ⟨hk,G3,H8,KQ,bt,ka,hX,u2',u5',u55,u56,u57⟩;simp only at hk hX u2' u5' u55 u56 u57;subst hk;subst hX;obtain⟨H8',st8',q1,q2,q3,q4,q5,q6,q7⟩:=fin G3 bt ka;obtain rfl:H8'=H8:=Option.some.inj (st8'.symm.trans KQ);apply Zg;simp[u57,Vv (x:=i) (by omega)];apply YF;exact⟨m-1,by omega,rfl,q3,q4,q5,i+1,.slice (some ⟨Gc.n,0,none⟩) (i+1) (i+1),by omega,q6,q7,by simp[u2'],by simp[u5'],by simp[u55],by simp[u56],by simp⟩
   ·refine Zf fun b3 ZH=>?_;refine Za (t:=false) (by simp[hi]) ?_;apply YZ;apply YF;left;refine⟨rfl,?_⟩;obtain rfl:i=m0:=by omega
    rw[List.take_of_length_le (by omega)]at own;have lF:Z7 Tryz.prog Ha 68 (.pointer (some ⟨c,0,none⟩))=some (.agg #[.int .i64 op,.bool r.1.1,vn,FJ,.bool r.2,xv]):=JS (o:=0) (vs:=[.int .i64 op,.bool r.1.1,vn,FJ,.bool r.2,xv]) (by unfold AH.cells;rw[lJ]) rfl rfl;have on1:=own.one1.1;have resb:Ha.blk (H.n+1)= .rw 1 [.int .i64 0,.bool false,.slice none 0 0,.slice none 0 0,.bool false,.slice none 0 0]:=by rw[HL _ (by omega) (by omega)];exact res
    obtain⟨H9,jW,blk9,n9,Zae,zO,_⟩:=WB (H:=Ha) (b:=H.n+1) (o:=0) (v:= .agg #[.int .i64 op,.bool r.1.1,vn,FJ,.bool r.2,xv]) (ws:=[.int .i64 op,.bool r.1.1,vn,FJ,.bool r.2,xv]) sE resb rfl rfl (by simp) (by simp only[List.all_cons,List.all_nil,sn.1.one1,sd.1.one1,on1,Bool.and_true];rfl);have lR:Z7 Tryz.prog H9 68 (.pointer (some ⟨H.n+1,0,none⟩))=some (.agg #[.int .i64 op,.bool r.1.1,vn,FJ,.bool r.2,xv]):=JS (o:=0) (vs:=[.int .i64 op,.bool r.1.1,vn,FJ,.bool r.2,xv]) (by unfold AH.cells;rw[blk9]) rfl rfl;subst Ze;apply Zb;intro b1 Ze;simp[t5,lF,t2,jW];subst Ze;apply Zq;simp[t2,lR];have ag:kO (fun j=>H.n+2<=j/\j≠c) HH H9:=by refine⟨by omega,fun j hj hjn=>?_⟩;rw[Zae j (by omega)];exact HL j (by omega) hj.2
    refine⟨zO H kH (by omega),.mk ⟨sn.1.agr sn.2 ag,fun b hb=>by have:=(sn.2 b hb).1;omega⟩ ⟨sd.1.agr sd.2 ag,fun b hb=>by have:=(sd.2 b hb).1;omega⟩ ?_⟩;exact(own.agr (H':=H9) (by omega) fun j hj _=>Zae j (by omega)).rxs (by omega)
theorem Mo{H:AH}{va vb:Value}{xs ys:List Nat}(ha:Sl H va xs)(hb:Sl H vb ys)(dx:YD Zd xs)(dy:YD Zd ys)(lx:xs.length<=WT)(ly:ys.length<=WT): ∃v1 v2 H1 H2,ZY Tryz.prog Zw 120 [va] H=some (v1,H1)/\ZY Tryz.prog Zw 120 [vb] H1=some (v2,H2)/\Zh H H2/\Yl H.n H2 v1 (ds Zd (dv Zd xs))/\Yl H.n H2 v2 (ds Zd (dv Zd ys))/\Wq v1 v2:=by obtain⟨v1,H1,h1,k1,o1⟩:=Vz ha (Nat.le_trans lx (by decide));obtain⟨v2,H2,h2,k2,o2⟩:=Vz (hb.keep k1) (Nat.le_trans ly (by decide));rw[Xl Z9 dx]at o1;rw[Xl Z9 dy]at o2;exact⟨v1,v2,H1,H2,h1,h2,k1.trans k2,o1.m k2,o2.mono k1.n (.refl _),Uy o1 o2 (Nat.le_refl _)⟩
theorem Pu{n0:Nat}{H:AH}{va vb:Value}{A B:Nat}(ha:Yl n0 H va (ds Zd A))(hb:Sl H vb (ds Zd B))(RC:n0<=H.n)(lA:(ds Zd A).length<=WT)(lB:(ds Zd B).length<=WT)(hB:0<B): ∃q r H',ZY Tryz.prog Zw 193 [va,vb] H=some (.tuple #[q,r],H')/\Zh H H'/\Yl H.n H' q (ds Zd (A/B))/\Yl n0 H' r (ds Zd (A%B))/\Wq q r:=by obtain⟨v,H',hc,k,q,r,e,o1,o2,ap⟩:=Ec ha hb RC (Yu Z9 A) (Yu Z9 B) (Tu Z9 A) (Tu Z9 B) (Nat.le_trans lA (by decide)) (Nat.le_trans lB (by decide)) ((Vn Z9).mpr hB);subst e;rw[YP Z9,YP Z9]at o1 o2;exact⟨q,r,H',hc,k,o1,o2,ap⟩
theorem X6{H:AH}{v:Value}{A:Nat}(h:Sl H v (ds Zd A))(lA:(ds Zd A).length<=WT):ZY Tryz.prog Zw 123 [v] H=some (.int .i64 (Zn A:Int),H):=by obtain⟨_,_,hc,rfl,rfl⟩:=Vk h (Yu Z9 A) (Nat.le_trans lA (by decide));rw[YP Z9]at hc;exact hc
theorem PT{x:Nat} :Zc .gtr .i64 (x:Int) 67108864=some (.bool (decide (67108864<x))):=Vp (y:=67108864)
section
variable {H : AH} {va vb : Value} {xs ys : List Nat}
def qA(n0:Nat)(A B:Nat)(v:Value)(H':AH):Prop:=(B=0/\v= .tuple #[.slice none 0 0,.slice none 0 0,.int .i64 30])\/(0<B/\(67108864<Zn (A/B)\/67108864<Zn (A%B))/\v= .tuple #[.slice none 0 0,.slice none 0 0,.int .i64 3])\/(0<B/\Zn (A/B)<=67108864/\Zn (A%B)<=67108864/\ ∃q r,v= .tuple #[q,r,.int .i64 0]/\Yl n0 H' q (ds Zd (A/B))/\Yl n0 H' r (ds Zd (A%B))/\Wq q r)
theorem aV(ha:Sl H va xs)(hb:Sl H vb ys)(dx:YD Zd xs)(dy:YD Zd ys)(lx:xs.length<=WT)(ly:ys.length<=WT):CW Tryz.prog Zw 200 [va,vb] H fun v H'=>Zh H H'/\qA H.n (dv Zd xs) (dv Zd ys) v H':=by
 refine Z8 32 Tryz.func200 ?_;obtain⟨v1,v2,H1,H2,c1,c2,k2,o1,o2,ap⟩:=Mo ha hb dx dy lx ly;have lA:=Nat.le_trans (VM dx) lx;have lB:=Nat.le_trans (VM dy) ly;generalize dv Zd xs=A at*;generalize dv Zd ys=B at*;have l2:=o2.sl.len Zv;apply Zb;intro b1 Ze;simp;subst Ze;apply Zb;intro b1 Ze;simp[c1,c2];subst Ze;apply Zf;intro b1 Ze;apply Zb;intro b2 Zp;simp[l2,Wo,Wr Z9];subst Zp;by_cases hB:B=0;·refine Za (t:=true) (by simp[hB]) ?_;apply Zb;intro b2 Zp;simp;subst Zp;apply Zq;simp[Ys];exact⟨k2,.inl ⟨hB,rfl⟩⟩
 ·refine Za (t:=false) (by simp[hB]) ?_;apply Zl;subst Ze;have MT:0<B:=by omega
  obtain⟨q,r,H3,c3,k3,oq,tH,apq⟩:=Pu o1 o2.sl k2.n lA lB MT;have lq:(ds Zd (A/B)).length<=WT:=Nat.le_trans (Uz Z9 (Nat.div_le_self A B)) lA;have lr:(ds Zd (A%B)).length<=WT:=Nat.le_trans (Uz Z9 (Nat.mod_le A B)) lA;have c4:=X6 oq.sl lq;have c5:=X6 tH.sl lr;apply Zb;intro b1 Ze;simp[c3];subst Ze;apply Zf;intro b1 Ze;apply Zb;intro b2 Zp;by_cases h1:67108864<Zn (A/B);·simp[c4,PT,h1];subst Zp;refine Za (t:=true) (by simp) ?_;apply Zb;intro b2 Zp;simp;subst Zp;apply Zq;simp[Ys];exact⟨k2.trans k3,.inr (.inl ⟨MT,.inl h1,rfl⟩)⟩
  ·by_cases h2:67108864<Zn (A%B);·simp[c4,c5,PT,h1,h2];subst Zp;refine Za (t:=true) (by simp) ?_;apply Zb;intro b2 Zp;simp;subst Zp;apply Zq;simp[Ys];exact⟨k2.trans k3,.inr (.inl ⟨MT,.inr h2,rfl⟩)⟩
   ·simp[c4,c5,PT,h1,h2];subst Zp;refine Za (t:=false) (by simp) ?_;apply Zl;subst Ze;apply Zb;intro b2 Zp;simp;subst Zp;apply Zq;simp;exact⟨k2.trans k3,.inr (.inr ⟨MT,by omega,by omega,q,r,rfl,oq.mono k2.n (.refl _),tH,apq⟩)⟩
def wz(n0:Nat)(B Z:Nat)(v:Value)(H':AH):Prop:=(B=0/\v= .tuple #[.slice none 0 0,.int .i64 30])\/(0<B/\67108864<Zn Z/\v= .tuple #[.slice none 0 0,.int .i64 3])\/(0<B/\Zn Z<=67108864/\ ∃q,v= .tuple #[q,.int .i64 0]/\Yl n0 H' q (ds Zd Z))
theorem jl(ha:Sl H va xs)(hb:Sl H vb ys)(dx:YD Zd xs)(dy:YD Zd ys)(lx:xs.length<=WT)(ly:ys.length<=WT):CW Tryz.prog Zw 141 [va,vb] H fun v H'=>Zh H H'/\wz H.n (dv Zd ys) (dv Zd xs/dv Zd ys) v H':=by
 refine Z8 25 Tryz.func141 ?_;obtain⟨v1,v2,H1,H2,c1,c2,k2,o1,o2,ap⟩:=Mo ha hb dx dy lx ly;have lA:=Nat.le_trans (VM dx) lx;have lB:=Nat.le_trans (VM dy) ly;generalize dv Zd xs=A at*;generalize dv Zd ys=B at*;have l2:=o2.sl.len Zv;apply Zb;intro b1 Ze;simp;subst Ze;apply Zb;intro b1 Ze;simp[c1,c2];subst Ze;apply Zf;intro b1 Ze;apply Zb;intro b2 Zp;simp[l2,Wo,Wr Z9];subst Zp;by_cases hB:B=0;·refine Za (t:=true) (by simp[hB]) ?_;apply Zb;intro b2 Zp;simp;subst Zp;apply Zq;simp[Ys];exact⟨k2,.inl ⟨hB,rfl⟩⟩
 ·refine Za (t:=false) (by simp[hB]) ?_;apply Zl;subst Ze;have MT:0<B:=by omega
  obtain⟨q,r,H3,c3,k3,oq,tH,apq⟩:=Pu o1 o2.sl k2.n lA lB MT;have lq:(ds Zd (A/B)).length<=WT:=Nat.le_trans (Uz Z9 (Nat.div_le_self A B)) lA;have c4:=X6 oq.sl lq;apply Zb;intro b1 Ze;simp[c3];subst Ze;apply Zf;intro b1 Ze;apply Zb;intro b2 Zp;simp[c4,PT];subst Zp;by_cases h1:67108864<Zn (A/B);·refine Za (t:=true) (by simp[h1]) ?_;apply Zb;intro b2 Zp;simp;subst Zp;apply Zq;simp[Ys];exact⟨k2.trans k3,.inr (.inl ⟨MT,h1,rfl⟩)⟩
  ·refine Za (t:=false) (by simp[h1]) ?_;apply Zl;subst Ze;apply Zb;intro b2 Zp;simp;subst Zp;apply Zq;simp;exact⟨k2.trans k3,.inr (.inr ⟨MT,by omega,q,rfl,oq.mono k2.n (.refl _)⟩)⟩
theorem gd(ha:Sl H va xs)(hb:Sl H vb ys)(dx:YD Zd xs)(dy:YD Zd ys)(lx:xs.length<=WT)(ly:ys.length<=WT):CW Tryz.prog Zw 139 [va,vb] H fun v H'=>Zh H H'/\Yl H.n H' v (ds Zd (Nat.gcd (dv Zd xs) (dv Zd ys))):=by
 refine Z8 23 Tryz.func139 ?_;obtain⟨v1,v2,H1,H2,c1,c2,k2,o1,o2,ap⟩:=Mo ha hb dx dy lx ly;have lA:=Nat.le_trans (VM dx) lx;have lB:=Nat.le_trans (VM dy) ly;generalize dv Zd xs=A at*;generalize dv Zd ys=B at*;apply Zb;intro b1 Ze;simp;subst Ze;apply Zb;intro b1 Ze;simp[c1,c2];subst Ze;apply Zf;intro b1 Ze;apply Zu;refine Yv (fun m s'=>s'.k=23/\Zh H s'.H/\ ∃(a:Nat) (av bv:Value),Nat.gcd a m=Nat.gcd A B/\(ds Zd a).length<=WT/\(ds Zd m).length<=WT/\Yl H.n s'.H av (ds Zd a)/\Yl H.n s'.H bv (ds Zd m)/\s'.tm.get 0=some av/\s'.tm.get 1=some bv) ?_ B _ ⟨rfl,k2,A,v1,v2,rfl,lA,lB,o1,o2,by simp,by simp⟩;rintro m ⟨k,tm,H3⟩ ⟨hk,k3,a,av,bv,hg,la,lm,oa,ob,t0,t1⟩ Q' YF;simp only at hk k3 oa ob t0 t1;subst hk;have lb:=ob.sl.len Zv;apply Zf;intro b3 ZH;apply Zb;intro b4 Yt;simp[t1,lb,Jp,Vn Z9];subst Yt;by_cases hm:0<m;·refine Za (t:=true) (by simp[hm]) ?_;apply Zl;subst ZH;obtain⟨q,r,H4,c4,k4,oq,tH,apq⟩:=Pu oa ob.sl k3.n la lm hm;apply Zu;apply Zb;intro b3 ZH;simp[t0,t1,c4];subst ZH;apply Zg;simp[t1];apply YF;refine⟨a%m,Nat.mod_lt _ hm,rfl,k3.trans k4,m,bv,r,?_,lm,Nat.le_trans (Uz Z9 (Nat.mod_le a m)) la,ob.m k4,tH,by simp,by simp⟩;show Nat.gcd m (a%m)=_;rw[<-hg,Nat.gcd_comm a m,Nat.gcd_rec m a,Nat.gcd_comm]
 ·refine Za (t:=false) (by simp[hm]) ?_;apply YZ;apply YF;left;refine⟨rfl,?_⟩;obtain rfl:m=0:=by omega
  rw[Nat.gcd_zero_right]at hg;subst Ze;apply Zb;intro b4 Yt;simp[t0];subst Yt;apply Zq;simp;rw[<-hg];exact⟨k3,oa⟩
end
theorem Sl.part'{H:AH}{v:Value}{xs:List Nat}(h:Sl H v xs){t:TypeId}(ht:LT t){j m:Nat}(hm:j+m<=xs.length)(h0:j<xs.length): ∃w,Vu Tryz.prog H t v (some (.int .i64 (j:Int))) (some (.int .i64 ((j+m:Nat):Int))) none=some w/\Sl H w ((xs.drop j).take m)/\YQ w=YQ v:=by cases h with
 |nil=>simp at h0
 |emp b=>simp at h0
 |mk b o cap xs h1 h2=>
  have hl:((xs.drop j).take m).length=m:=by rw[List.length_take,List.length_drop];omega
  obtain⟨mi,cs,h3,h4,h5⟩:=h2;refine⟨.slice (some ⟨b,o+j,none⟩) ((xs.drop j).take m).length (cap-j),?_,.mk b (o+j) (cap-j) _ (by omega) ⟨mi,cs,h3,h4,fun i x hx=>?_,by have:=(List.getElem?_eq_some_iff.mp (h5.1 j _ (List.getElem?_eq_getElem h0))).1;omega⟩,rfl⟩
  ·unfold Vu;simp only[ht.1,Mz];unfold Il Xo;simp only[h4,Option.isSome_some,Option.isNone_none,Bool.true_or];rw[if_pos (by omega)];have e1:Nat.ble (j+m) cap=true:=Nat.ble_eq.mpr (by omega);have e2:Nat.blt j cap=true:=by rw[Nat.blt_eq];omega
   simp only[Xo,Int.toNat_natCast];rw[if_pos (by omega)];simp[e1,e2,hl]
  ·rw[List.getElem?_take]at hx;split at hx;·rw[List.getElem?_drop]at hx;have:=h5.1 (j+i) x hx;rwa[<-Nat.add_assoc]at this
   ·cases hx
theorem MG(B:Nat): ∀(xs:List Nat)(i y:Nat)(h:i<xs.length),dv B (xs.set i y)+B^i*xs[i]=dv B xs+B^i*y
 |x::xs,0,y,_=>by simp[dv];omega
 |x::xs,i+1,y,h=>by
  have h':i<xs.length:=by simpa using h
  have ih:=MG B xs i y h';simp only[List.set_cons_succ,dv,List.getElem_cons_succ,Nat.pow_succ];have e:B*(dv B (xs.set i y)+B^i*xs[i])=B*(dv B xs+B^i*y):=by rw[ih]
  rw[Nat.mul_add,Nat.mul_add]at e;rw[Nat.mul_comm (B^i) B,Nat.mul_assoc,Nat.mul_assoc];omega
theorem YD.set{B:Nat}{xs:List Nat}(h:YD B xs){i y:Nat}(hy:y<B):YD B (xs.set i y):=fun x hx=>by
 rcases List.mem_or_eq_of_mem_set hx with h'|h';·exact h x h'
 ·rw[h'];exact hy
theorem Ja{B:Nat} : ∀{xs:List Nat},(∀x∈xs,x=0)->dv B xs=0|[],_=>rfl|x::xs,h=>by simp only[dv];rw[h x (List.mem_cons_self ..),Ja fun y hy=>h y (List.mem_cons_of_mem _ hy)];simp
theorem KU{xs:List Nat}{i j y:Nat}(h:i≠j):nth (xs.set i y) j=nth xs j:=by unfold nth;rw[List.getElem?_set,if_neg h]
theorem Sl.partAny{H:AH}{v:Value}{xs:List Nat}(h:Sl H v xs){t:TypeId}(ht:LT t){f m:Nat}(hm:f+m<=xs.length)(h0:0<xs.length): ∃w,Vu Tryz.prog H t v (some (.int .i64 (f:Int))) (some (.int .i64 ((f+m:Nat):Int))) none=some w/\Sl H w ((xs.drop f).take m):=by
 by_cases hf:f<xs.length;·obtain⟨w,h1,h2,_⟩:=h.part' ht hm hf;exact⟨w,h1,h2⟩
 ·have mX:f=xs.length:=by omega
  have M6:m=0:=by omega
  subst M6;rw[List.take_zero];cases h with
   |nil=>simp at h0
   |emp b=>simp at h0
   |mk b o cap xs h1 h2=>
    obtain⟨mi,cs,h3,h4,h5⟩:=h2;by_cases hc:f<cap
    ·refine⟨.slice (some ⟨b,o+f,none⟩) 0 (cap-f),?_,.mk b (o+f) (cap-f) [] (Nat.zero_le _) ⟨mi,cs,h3,h4,fun i x hx=>by simp at hx,by have:=(KX h0 h5.1).1;omega⟩⟩;unfold Vu;simp only[ht.1,Mz];unfold Il Xo;simp only[h4,Option.isSome_some,Option.isNone_none,Bool.true_or];rw[if_pos (by omega)];have e1:Nat.ble f cap=true:=Nat.ble_eq.mpr (by omega);have e2:Nat.blt f cap=true:=by rw[Nat.blt_eq];omega
     simp only[Xo,Int.toNat_natCast];rw[if_pos (by omega)];simp[e1,e2]
    ·refine⟨.slice (some ⟨b,0,some 0⟩) 0 0,?_,.emp b⟩;unfold Vu;simp only[ht.1,Mz];unfold Il Xo;simp only[h4,Option.isSome_some,Option.isNone_none,Bool.true_or];rw[if_pos (by omega)];have e1:Nat.ble f cap=true:=Nat.ble_eq.mpr (by omega);have e2:Nat.blt f cap=false:=by cases hb:Nat.blt f cap with|false=>rfl|true=>rw[Nat.blt_eq]at hb;omega
     have e3:Nat.beq f 0=false:=Y9 (by omega);simp only[Xo,Int.toNat_natCast];rw[if_pos (by omega)];simp[e1,e2,e3]
theorem Yl.copy{n:Nat}{H:AH}{v w:Value}{zs xs:List Nat}(h:Yl n H v zs)(hw:Sl H w xs)(hl:xs.length<=zs.length){t t2:TypeId}(ht:LT t)(AO:LT t2): ∃u H',copyV Tryz.prog H t t2 v w=some (u,H')/\Yl n H' v (xs++zs.drop xs.length)/\Tp (YQ v) H H'/\KA n H H':=by
 have hc:XM H 1 w xs.length=some (xs.map Vr):=by
  rcases Nat.eq_zero_or_pos xs.length with h0|h0;·obtain rfl:xs=[]:=List.length_eq_zero_iff.mp h0;generalize hz:([]:List Nat)=ys at hw;cases hw with|nil=>rfl|emp b=>rfl|mk b o cap xs h1 h2=>subst hz;obtain⟨_,cs,h3,h4,h5⟩:=h2;have:Nat.ble o cs.length=true:=Nat.ble_eq.mpr h5.2;simp[XM,AH.read_def,h3,this]
  ·exact hw.cells h0
 obtain⟨a2,xe,rfl⟩: ∃a cap,w= .slice a xs.length cap:=by cases hw<;>exact⟨_,_,rfl⟩
 cases h with
  |nil=>obtain rfl:xs=[]:=List.length_eq_zero_iff.mp (by simpa using hl);refine⟨.int .i64 0,H,?_,by simpa using Yl.nil,.refl _ _,.refl _ _⟩;simp[copyV,ht.2,AO.2]
  |mk b o cap zs cs h1 h2 h3 h4 h5 h6=>
   have hmin:Nat.min xs.length zs.length=xs.length:=Nat.min_eq_left hl;have hle:Nat.ble (o+xs.length) cs.length=true:=Nat.ble_eq.mpr (by omega);have qu:H.write b o (xs.map Vr)=some { n:=H.n,lw:=min H.lw b,t:=H.t.set b (.rw 1 (cs.take o++xs.map Vr++cs.drop (o+xs.length))) } :=by rw[AH.write_def,h4];simp only[List.length_map,hle,bI,Bool.and_self,cond_true]
   obtain⟨H',hH'⟩: ∃H':AH,H'= { n:=H.n,lw:=min H.lw b,t:=H.t.set b (.rw 1 (cs.take o++xs.map Vr++cs.drop (o+xs.length))) } :=⟨_,rfl⟩;rw[<-hH']at qu;have W2: ∀j,H'.blk j=if j=b then .rw 1 (cs.take o++xs.map Vr++cs.drop (o+xs.length))else H.blk j:=fun j=>by
    rw[hH'];show(match(H.t.set b _).get j with|some b=>b|none=>MV.dead)=_;rw[Tr.get_set];by_cases e:j=b;·rw[if_pos e,if_pos e]
    ·rw[if_neg e,if_neg e];rfl
   have hn:H'.n=H.n:=by rw[hH']
   refine⟨.int .i64 (Nat.min xs.length zs.length),H',?_,?_,⟨hn,fun j _ hj=>?_⟩,?_⟩;·unfold copyV;simp only[ht.2,AO.2,hmin,hc,qu]
   ·have hlen:(xs++zs.drop xs.length).length=zs.length:=by simp;omega
    rw[<-hlen];refine .mk b o cap _ (cs.take o++xs.map Vr++cs.drop (o+xs.length)) (by omega) h2 (by rw[hn];exact h3) (by rw[W2,if_pos rfl]) ?_ ?_;·simp only[List.length_append,List.length_take,List.length_drop,List.length_map];omega
    ·intro i x hi;rw[List.append_assoc,List.getElem?_append_right (by rw[List.length_take];omega),List.length_take,show o+i-min o cs.length=i by omega];rw[List.getElem?_append]at hi;rw[List.getElem?_append,List.length_map];by_cases hix:i<xs.length;·rw[if_pos hix]at hi⊢;rw[List.getElem?_map,hi];rfl
     ·rw[if_neg hix]at hi⊢;rw[List.getElem?_drop]at hi⊢;have:=h6 _ x hi;rw[show o+xs.length+(i-xs.length)=o+(xs.length+(i-xs.length)) by omega];exact this
   ·rw[W2,if_neg (fun e=>hj (by rw[e];rfl))]
   ·intro H0 k RC;have:=k.lw;refine⟨by rw[hn];exact k.n,by rw[hH'];show min H0.lw H0.n<=min H.lw b;omega,fun j hj=>?_⟩;rw[W2,if_neg (by omega)];exact k.blk j hj
theorem A2(a b:Nat):Tv false [.int .i64 (a:Int),.int .i64 (b:Int)]=some (.int .i64 ((min a b:Nat):Int)):=by
 unfold Tv;simp only[sameKind];show some (Value.int .i64 (if(b:Int)<(a:Int)then(b:Int)else(a:Int)))=_;by_cases h:b<a;·rw[if_pos (by omega),Nat.min_eq_right (by omega)]
 ·rw[if_neg (by omega),Nat.min_eq_left (by omega)]
theorem ni(a b:Nat):Tv true [.int .i64 (a:Int),.int .i64 (b:Int)]=some (.int .i64 ((max a b:Nat):Int)):=by
 unfold Tv;simp only[sameKind];show some (Value.int .i64 (if(a:Int)<(b:Int)then(b:Int)else(a:Int)))=_;by_cases h:a<b;·rw[if_pos (by omega),Nat.max_eq_right (by omega)]
 ·rw[if_neg (by omega),Nat.max_eq_left (by omega)]
theorem Yl.fillAt{n:Nat}{H:AH}{v:Value}{L zs:List Nat}{i:Nat}(h:Yl n H v (L++zs.drop i))(hL:L.length=i)(hi:i<zs.length)(y:Nat): ∃H',YX Tryz.prog H 101 (adr v i) (.int .u64 (y:Int))=some H'/\Yl n H' v ((L++[y])++zs.drop (i+1))/\Tp (YQ v) H H'/\KA n H H':=by obtain⟨H',h1,h2,h3,h4,h5⟩:=h.put (i:=i) (by simp;omega) y;refine⟨H',h1,?_,⟨h3,fun j _ hj=>h4 j hj⟩,h5⟩;rw[List.drop_eq_getElem_cons hi,WC _ _ _ _ hL]at h2;simpa using h2
theorem Yl.loadAt{n:Nat}{H:AH}{v:Value}{L zs:List Nat}{i:Nat}(h:Yl n H v (L++zs.drop i))(hL:L.length=i)(hi:i<zs.length):Z7 Tryz.prog H 101 (adr v i)=some (.int .u64 (nth zs i:Int)):=by have:=h.sl.load (i:=i) (by simp;omega);rw[this,XF hi];congr 3;rw[List.getElem_append_right (by omega)];simp[hL]
def RP(xs:List Nat)(f t:Nat):List Nat:=YS ((xs.drop (min f xs.length)).take (min t xs.length-min f xs.length))
theorem cr{H:AH}{v:Value}{xs:List Nat}(hv:Sl H v xs)(h0:0<xs.length)(lx:xs.length<=17592186044416){f t:Nat}(hft:f<=t):CW Tryz.prog Zw 225 [v,.int .i64 (f:Int),.int .i64 (t:Int)] H fun v' H'=>H'=H/\Sl H v' (RP xs f t):=by
 refine Z8 32 Tryz.func225 ?_;have l1:=hv.len Zv;obtain⟨f',OZ⟩: ∃f',f'=min f xs.length:=⟨_,rfl⟩;obtain⟨t',Bc⟩: ∃t',t'=min t xs.length:=⟨_,rfl⟩;have m1:=A2 f xs.length;have m2:=A2 t xs.length;rw[<-OZ]at m1;rw[<-Bc]at m2;have hle:f'<=t':=by omega
 have htl:t'<=xs.length:=by omega
 unfold RP;rw[<-OZ,<-Bc];apply Zb;intro b1 Ze;simp;subst Ze;apply Zb;intro b1 Ze;simp[l1,m1,m2];subst Ze;apply Zf;intro b1 Ze;apply Zu;refine Yv (fun m s=>s.k=32/\s.H=H/\f'+m<=t'/\YS ((xs.drop f').take m)=YS ((xs.drop f').take (t'-f'))/\s.tm.get 0=some v/\s.tm.get 1=some (.int .i64 (f':Int))/\s.tm.get 2=some (.int .i64 ((f'+m:Nat):Int))) ?_ (t'-f') _ ⟨rfl,rfl,by omega,rfl,by simp,by simp,by simp;omega⟩;rintro m ⟨k,tm,H'⟩ ⟨hk,hH,hm,ht,t0,t1,t2⟩ Q' YF;simp only at hk hH t0 t1 t2;subst hk;subst hH;apply Zf;intro b2 Zp;apply Zb;intro b3 ZH;have fin: ∀Y8:Tr Value,Y8.get 0=some v->Y8.get 1=some (.int .i64 (f':Int))->Y8.get 2=some (.int .i64 ((f'+m:Nat):Int))->YS ((xs.drop f').take m)=(xs.drop f').take m->Q' (.exit 0) ⟨32,Y8,H'⟩:=fun Y8 t0 t1 t2 he=>by apply YF;left;refine⟨rfl,?_⟩;subst Ze;obtain⟨w,c1,c2⟩:=hv.partAny Zv (f:=f') (m:=m) (by omega) h0;apply Zb;intro b4 Yt;simp[t0,t1,t2,c1];subst Yt;apply Zq;simp;rw[<-ht,he];exact c2
 by_cases hz:m=0
 ·have g0:Zc .gtr .i64 ((f'+m:Nat):Int) (f':Int)=some (.bool false):=by rw[Vp,decide_eq_false];omega
  simp[t1,t2,g0];subst ZH;refine Za (t:=false) (by simp) ?_;apply YZ;exact fin _ (by simp[t0]) (by simp[t1]) (by simp[t2]) (by rw[hz];rfl)
 ·have g0:Zc .gtr .i64 ((f'+m:Nat):Int) (f':Int)=some (.bool true):=by rw[Vp,decide_eq_true];omega
  have hi:f'+m-1<xs.length:=by omega
  have a1:=hv.adr Zv (k:= .i64) hi;have d1:=hv.load hi;have PN:(xs.drop f').take m=(xs.drop f').take (m-1)++[xs[f'+m-1]]:=by have:=Xk (xs:=xs.drop f') (i:=m-1) (by rw[List.length_drop];omega);rw[show m-1+1=m by omega]at this;rw[this,List.getElem_drop];congr 3;omega
  have s1:Zc .sub .i64 ((f'+m:Nat):Int) 1=some (.int .i64 ((f'+m-1:Nat):Int)):=Um (by omega) (by omega);simp[t0,t1,t2,g0,s1,a1,d1,Wo];subst ZH;by_cases h0:xs[f'+m-1]=0;·refine Za (t:=true) (by simp[h0]) ?_;apply Zl;subst Zp;apply Zu;apply Zg;simp[t2,s1];apply YF;refine⟨m-1,by omega,rfl,rfl,by show f'+(m-1)<=t';omega,?_,by simp[t0],by simp[t1],by simp;omega⟩;rw[<-ht,PN,h0,VB]
  ·refine Za (t:=false) (by simp[h0]) ?_;apply YZ;exact fin _ (by simp[t0]) (by simp[t1]) (by simp[t2]) (by rw[PN];exact SC _ _ h0)
theorem Tf{n0:Nat}{H:AH}{va vb:Value}{zs ys:List Nat}{a:Nat}(ha:Yl n0 H va zs)(hb:Sl H vb ys)(ap:Wq va vb)(dz:YD Zd zs)(dy:YD Zd ys)(lz:zs.length<=17592186044416)(ly:ys.length<=17592186044416)(haz:a<=zs.length)(room:dv Zd zs+Zd^a*dv Zd ys<Zd^zs.length):CW Tryz.prog Zw 224 [va,vb,.int .i64 (a:Int)] H fun v' H'=>Tp (YQ va) H H'/\KA n0 H H'/\ ∃zs',zs'.length=zs.length/\YD Zd zs'/\dv Zd zs'=dv Zd zs+Zd^a*dv Zd ys/\Yl n0 H' va zs':=by
 refine Z8 53 Tryz.func224 ?_;have l2:=hb.len Zv;apply Zb;intro b1 Ze;simp;subst Ze;apply Zb;intro b1 Ze;simp;subst Ze;apply Zu;refine Yv (fun m s=>s.k=53/\Tp (YQ va) H s.H/\KA n0 H s.H/\ ∃(i c:Nat) (L:List Nat),m+i=zs.length/\a<=i/\L.length=i/\c<=1/\YD Zd L/\dv Zd L+Zd^i*c=dv Zd (zs.take i)+Zd^a*dv Zd (ys.take (i-a))/\Yl n0 s.H va (L++zs.drop i)/\s.tm.get 0=some va/\s.tm.get 1=some vb/\s.tm.get 2=some (.int .i64 (a:Int))/\s.tm.get 6=some (.int .u64 (c:Int))/\s.tm.get 7=some (.int .i64 (i:Int))) ?_ (zs.length-a) _ ⟨rfl,.refl _ _,.refl _ _,a,0,zs.take a,by omega,Nat.le_refl _,by rw[List.length_take];omega,by omega,dz.take a,by simp[dv],by rw[List.take_append_drop];exact ha,by simp,by simp,by simp,by simp,by simp⟩;rintro m ⟨k,tm,H2⟩ ⟨hk,bt,ka,i,c,L,NR,hai,hL,hc,dL,heq,own,t0,t1,t2,t6,t7⟩ Q' YF;simp only at hk bt ka own t0 t1 t2 t6 t7;subst hk;have sb:=hb.but bt ap;have l1:=own.sl.len Zv;rw[show(L++zs.drop i).length=zs.length by simp;omega]at l1;have s1:Zc .sub .i64 (i:Int) (a:Int)=some (.int .i64 ((i-a:Nat):Int)):=Oq (by omega) hai;apply Zf;intro b2 Zp;apply Zb;intro b3 ZH;have on: ∀Y8:Tr Value,i<zs.length->Y8.get 25=some (.bool true)->Y8.get 0=some va->Y8.get 1=some vb->Y8.get 2=some (.int .i64 (a:Int))->Y8.get 6=some (.int .u64 (c:Int))->Y8.get 7=some (.int .i64 (i:Int))->W Tryz.prog Zw b3 ⟨53,Y8,H2⟩ (Ys Tryz.prog Zw b2 Q'):=fun Y8 hi t25 t0 t1 t2 t6 t7=>by
  subst ZH;refine Za (t:=true) (by simp[t25]) ?_;apply Zl;subst Zp;obtain⟨y,hy⟩:=hid (nth ys (i-a));have bk:y<Zd:=by rw[hy];exact U2 dy (by decide) _
  obtain⟨x,hx⟩:=hid (nth zs i);have Cp:x<Zd:=by rw[hx];exact U2 dz (by decide) _
  have d0:=own.loadAt hL hi;rw[<-hx]at d0;have a0:=own.sl.adr Zv (k:= .i64) (i:=i) (by simp;omega);obtain⟨z,hz⟩:=hid ((x+y+c)%Zd);obtain⟨c',OQ⟩: ∃c',c'=(x+y+c)/Zd:=⟨_,rfl⟩;have hzc:Zd*c'+z=x+y+c:=by rw[hz,OQ];exact Nat.div_add_mod _ _
  have Be:z<Zd:=by rw[hz];exact Nat.mod_lt _ (by decide)
  have Q9:c'<=1:=by
   have:c'<2:=by rw[OQ,Nat.div_lt_iff_lt_mul (by decide)];omega
   omega
  have ac:ZY Tryz.prog Zw 203 [.int .u64 (x:Int),.int .u64 (y:Int),.int .u64 (c:Int)] H2=some (.tuple #[.int .u64 (z:Int),.int .u64 (c':Int)],H2):=by rw[hz,OQ];exact Qd x y c H2 hc
  obtain⟨H3,S7,RS,ff,Nk⟩:=own.fillAt hL hi z;apply Zf;intro b2 Zp;apply Zu;apply Zb;intro b3 ZH;simp;subst ZH;refine Y6 (fun s'=>s'.k=53/\s'.H=H2/\s'.tm.get 0=some va/\s'.tm.get 1=some vb/\s'.tm.get 2=some (.int .i64 (a:Int))/\s'.tm.get 6=some (.int .u64 (c:Int))/\s'.tm.get 7=some (.int .i64 (i:Int))/\s'.tm.get 8=some (.int .u64 (y:Int))) ?_ ?_
  ·intro KI XW;apply Zb;intro b3 ZH;simp[t1,t2,t7,s1,l2];subst ZH;by_cases WV:i-a<ys.length;·refine Za (t:=true) (by simp[WV]) ?_;have a1:=sb.adr Zv (k:= .i64) WV;have d1:=sb.load WV;rw[<-XF WV,<-hy]at d1;apply Zg;simp[t1,t2,t7,s1,a1,d1];apply XW;exact⟨rfl,rfl,by simp[t0],by simp[t1],by simp[t2],by simp[t6],by simp[t7],by simp⟩
   ·refine Za (t:=false) (by simp[WV]) ?_;apply Zl;apply XW;rw[V8 (by omega)]at hy;subst hy;exact⟨rfl,rfl,by simp[t0],by simp[t1],by simp[t2],by simp[t6],by simp[t7],by simp⟩
  clear t0 t1 t2 t6 t7;rintro⟨k,tm,H4⟩ ⟨hk,hH,t0,t1,t2,t6,t7,t8⟩;simp only at hk hH t0 t1 t2 t6 t7 t8;subst hk;subst hH;apply Zg;simp[t0,t6,t7,t8,a0,d0,ac,S7];subst Zp;apply Zg;simp[t7,Yy (x:=i) (by omega)];apply YF;refine⟨m-1,by omega,rfl,bt.trans ff,ka.trans Nk,i+1,c',L++[z],by omega,by omega,by simp[hL],Q9,dL.append (.cons Be (.nil _)),?_,RS,by simp[t0],by simp[t1],by simp[t2],by simp,by simp⟩;rw[Yr,hL,XY,show i+1-a=(i-a)+1 by omega,XY,<-hx,<-hy];simp only[dv,Nat.mul_zero,Nat.add_zero];have e1:Zd^i*(Zd*c'+z)=Zd^i*(x+y+c):=by rw[hzc]
  rw[Nat.mul_add,<-Nat.mul_assoc,show Zd^i*Zd=Zd^(i+1)from rfl,Nat.mul_add,Nat.mul_add]at e1;have e2:Zd^a*(Zd^(i-a)*y)=Zd^i*y:=by rw[<-Nat.mul_assoc,<-Nat.pow_add,show a+(i-a)=i by omega]
  rw[Nat.mul_add (Zd^a),e2];omega
 have stop: ∀Y8:Tr Value,(i=zs.length\/(ys.length<=i-a/\c=0))->Y8.get 25=some (.bool false)->W Tryz.prog Zw b3 ⟨53,Y8,H2⟩ (Ys Tryz.prog Zw b2 Q'):=fun Y8 he t25=>by
  subst ZH;refine Za (t:=false) (by simp[t25]) ?_;apply YZ;apply YF;left;refine⟨rfl,.inl rfl,bt,ka,L++zs.drop i,by simp;omega,dL.append (dz.drop _),?_,own⟩;have e1:=Sx Zd zs i (by omega);rw[Yr,hL];rcases he with rfl|⟨hy,rfl⟩
  ·rw[List.drop_length,List.take_length]at*;simp only[dv,Nat.mul_zero,Nat.add_zero]at*;have hys:dv Zd ys<Zd^(zs.length-a):=by
    have h1:Zd^a*dv Zd ys<Zd^a*Zd^(zs.length-a):=by rw[<-Nat.pow_add,show a+(zs.length-a)=zs.length by omega];omega
    exact Nat.lt_of_mul_lt_mul_left h1
   rw[Pw (by decide) hys]at heq;rcases Nat.lt_or_ge c 1 with h0|h0
   ·obtain rfl:c=0:=by omega
    rw[Nat.mul_zero]at heq;omega
   ·obtain rfl:c=1:=by omega
    rw[Nat.mul_one]at heq;omega
  ·rw[List.take_of_length_le hy]at heq;rw[Nat.mul_zero]at heq;omega
 by_cases hi:i<zs.length
 ·by_cases hy:i-a<ys.length;·simp[t0,t1,t2,t6,t7,l1,l2,hi,s1,hy];show W _ _ b3 _ _;exact on _ hi (by simp) (by simp[t0]) (by simp[t1]) (by simp[t2]) (by simp[t6]) (by simp[t7])
  ·by_cases M3:0<c;·simp[t0,t1,t2,t6,t7,l1,l2,hi,s1,hy,Jp,M3];show W _ _ b3 _ _;exact on _ hi (by simp) (by simp[t0]) (by simp[t1]) (by simp[t2]) (by simp[t6]) (by simp[t7])
   ·simp[t0,t1,t2,t6,t7,l1,l2,hi,s1,hy,Jp,M3];show W _ _ b3 _ _;exact stop _ (.inr ⟨by omega,by omega⟩) (by simp)
 ·simp[t0,t1,t2,t6,t7,l1,l2,hi];show W _ _ b3 _ _;exact stop _ (.inl (by omega)) (by simp)
end
end
end Go.Proofs.YtmkfecoeghokfaaGreatDoor
