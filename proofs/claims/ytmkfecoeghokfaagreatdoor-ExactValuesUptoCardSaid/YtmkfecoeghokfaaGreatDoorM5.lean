/-
  The engine and the walks that the claim's last text leans on, part 5 of 9: Of, Og, Ta, Tb, Tc, Td, Te, Ref, Rt, Make, Rc, Rd, Re, Rf, Rg, Oh, Ok, Pa, Pb, Pc, Pd, Pe.
-/
import Derived.Test.YtmkfecoeghokfaaGreatDoorM4
namespace Go.Proofs.YtmkfecoeghokfaaGreatDoor
open Go Ev
set_option linter.unusedVariables false
set_option linter.unusedSimpArgs false
noncomputable section
set_option maxHeartbeats 2000000
set_option maxRecDepth 20000
section
attribute [-simp] Int.natCast_add Int.natCast_mul Int.natCast_ediv Int.natCast_emod Int.natCast_pow
attribute [local simp] strip ZR Xm LR gW Z2 Ye ZW Yf ZK Yg Zs Zt Zi ZJ Ya ZP ZA Zl ZI Zj Zf ZB ZC YV Zo Yd YE Yy ZL plain ZO Tr.get_set Yw Zp Ys ZT sameKind undef Zw ZH Z5 Zv Z1 Yl ZU parts Z3 XZ DW Yh Zz LX ZZ Zq ZD ZQ XM Yk Zn ZN ZV ZM
theorem Hh{H:AH}{bits:Nat}{ms:List (Nat×Nat×Nat)}{sz:Nat}{cs:List Value} :T0 none (H.new sz cs) (grown H ((RP H bits ms).new sz cs)):=by
 refine⟨rfl,fun j hj _=>?_⟩;have AX:j<H.n+1:=hj;rw[AH.blk_new];have e:(grown H ((RP H bits ms).new sz cs)).blk j=if H.n<=j then((RP H bits ms).new sz cs).blk j else H.blk j:=by
  unfold grown;show(match(Nr H.t ((RP H bits ms).new sz cs) H.n (H.n+1-H.n)).get j with|some b=>b|none=>Ou.dead)=_;rw[Q6];by_cases c:H.n<=j;·rw[if_pos (by omega),if_pos c]
  ·rw[if_neg (by omega),if_neg c];rfl
 rw[e];by_cases c:j=H.n;·rw[if_pos (by omega),if_pos c,AH.blk_new,if_pos (show j=(RP H bits ms).n from c)]
 ·rw[if_neg (by omega),if_neg c]
theorem K6{H:AH}{bits:Nat}{ms:List (Nat×Nat×Nat)}{sz:Nat}{cs:List Value} :Zg H (grown H ((RP H bits ms).new sz cs)):=by refine⟨Nat.le_succ _,Nat.min_le_left _ _,fun j hj=>?_⟩;have:=(Hh (H:=H) (bits:=bits) (ms:=ms) (sz:=sz) (cs:=cs)).blk j (show j<H.n+1 by omega) (fun e=>by cases e);rw[this,AH.blk_new,if_neg (by omega)]
theorem ax{X:Xs}{P:Program}{C:Cfg}{ops:Array Oper}{k i:Nat}{q:Bool}{ms:List (Nat×Nat×Nat)}{tm:Tr Value}{H:AH}{K:Tr Value->AH->Prop}{o:Oper}{r:List Oper}(x:Nat)(hg:gW tm (Yh ops o)=some true)(hh:Zz o.op=true)(hq:q=false)(he: ∀Hv:AH,Z2 P C (ZY P C) tm Hv o.op=some (.slice (some ⟨Hv.n,0,none⟩) 1 1,Hv.new 1 [Uc x]))(h: ∀G2:AH,Ym H.n G2 (.slice (some ⟨H.n,0,none⟩) 1 1) [x]->Zg H G2->G2.n=H.n+1->match o.dst with|none=>DW X P C ops k (i+1) q ((i,H.n,H.n+1)::ms) r tm G2 K|some d=>d<k/\DW X P C ops k (i+1) q ((i,H.n,H.n+1)::ms) r (tm.set d (.slice (some ⟨H.n,0,none⟩) 1 1)) G2 K)(hf:X.fv i=none:=by first|rfl|kernel_rfl):DG X P C ops k i q ms (o::r) tm H K:=by
 refine YU (v:= .slice (some ⟨H.n,0,none⟩) 1 1) (H2:=(RP H ((before ops).getD i 0) ms).new 1 [Uc x]) hg hh hq (he _) (Nat.le_succ _) (Nat.le_refl _) ?_ hf;have sj:Nat.blt H.n ((RP H ((before ops).getD i 0) ms).new 1 [Uc x]).n=true:=by rw[Nat.blt_eq];exact Nat.lt_succ_self _
 rw[sj];exact h _ ((Ym.new H [x]).same Hh) K6 rfl
theorem V8{i a b:Nat}{ms:List (Nat×Nat×Nat)}(h:cond (Nat.blt a b) [(i,a,b)] []=ms): ∀x∈ms,x.1=i/\a<=x.2.1:=by intro x hx;rw[<-h]at hx;cases mY:Nat.blt a b with|true=>rw[mY,cond_true]at hx;simp at hx;subst hx;exact⟨rfl,Nat.le_refl _⟩|false=>rw[mY,cond_false]at hx;cases hx
theorem CU{B R q r k:Nat}(e:R=B*q+r)(hr:r<B*2^(k+1))(hq:q+2^(k+1)<=4294967296):(B*2^k<=r->R=B*(q+2^k)+(r-B*2^k)/\r-B*2^k<B*2^k/\q+2^k+2^k<=4294967296)/\(r<B*2^k->q+2^k<=4294967296):=by
 have e2:2^(k+1)=2^k+2^k:=by rw[Nat.pow_succ];omega
 rw[e2]at hq;rw[e2,Nat.mul_add]at hr;have hp:=Nat.two_pow_pos k;refine⟨fun h=>⟨?_,by omega,by omega⟩,fun h=>by omega⟩;rw[e,Nat.mul_add];omega
theorem TM{m:Nat}(h:m<9223372036854775807):Zd .sub .i64 (m:Int) 1=some (.int .i64 ((m:Int)-1)):=by show some (Value.int .i64 (IntKind.i64.wrap ((m:Int)-1)))=_;congr 2;rw[IntKind.wrap_i64];omega
theorem NU{m:Nat} :Zd .geq .i64 ((m:Int)-1) 0=some (.bool (decide (0<m))):=by show some (Value.bool (decide ((m:Int)-1≥0)))=_;congr 2;apply decide_eq_decide.mpr;omega
theorem Gy{a b:Nat} :Zd .geq .i64 (XL a b) 0=some (.bool (decide (b<=a))):=by
 show some (Value.bool (decide (XL a b≥0)))=_;congr 2;apply decide_eq_decide.mpr;unfold XL;split;·omega
 ·split<;>omega
theorem Dp{H:AH}{va vb:Value}{xs ys:List Nat}(ha:Sl H va xs)(hb:Sl H vb ys)(dx:YG ZF xs)(dy:YG ZF ys)(ty:YS ys=ys)(lx:xs.length<=4000000000000)(ly:ys.length<=4000000000000)(hy:0<dv ZF ys):CW Tryz.prog Zy 64 [va,vb] H fun v' H'=>Zg H H'/\ ∃q r,v'= .tuple #[q,r]/\Ym H.n H' q (ds ZF (dv ZF xs/dv ZF ys))/\Ym H.n H' r (ds ZF (dv ZF xs%dv ZF ys)):=by
 refine Z8 60 Tryz.func64 ?_;have l1:=ha.len Z1;obtain⟨n,hn⟩:=hid (xs.length);rw[<-hn]at l1;obtain⟨B,hB⟩:=hid (dv ZF ys);rw[<-hB]at hy;have mo:B<ZF^ys.length:=by have h1:=X3 dy;rwa[<-hB]at h1
 obtain⟨c0,H1,RC,k1,o1,n1⟩:=YL (H:=H) Z1 (n:=n) (by omega);apply Zb;intro b1 Ze;simp;subst Ze;apply Zb;intro b1 Ze;simp;subst Ze;apply Zb;intro b1 Ze;simp[l1,RC];subst Ze;apply Zh;intro b1 Ze;apply Zb;intro b2 Zx;simp[l1,TM (m:=n) (by omega)];subst Zx;apply ZS;refine YQ (fun m s'=>s'.k=60/\Zg H s'.H/\m<=n/\ ∃(L:List Nat) (R:Nat) (rv:Value),L.length+m=n/\YG ZF L/\R<B/\dv ZF (xs.drop m)=B*dv ZF L+R/\Ym H.n s'.H c0 (List.replicate m 0++L)/\H1.n<=s'.H.n/\Ym H1.n s'.H rv (ds ZF R)/\s'.tm.get 0=some va/\s'.tm.get 1=some vb/\s'.tm.get 6=some rv/\s'.tm.get 7=some c0/\s'.tm.get 8=some (.int .i64 ((m:Int)-1))) ?_ n _ ⟨rfl,k1,Nat.le_refl _,[],0,.slice none 0 0,by simp,.nil _,hy,by simp[hn,dv],by simpa using o1,Nat.le_refl _,by rw[XY];exact .nil,by simp,by simp,by simp,by simp,by simp⟩;rintro m ⟨k,tm,H2⟩ ⟨hk,kH,hm,L,R,rv,hL,dL,hR,heq,own,hn1,ro,t0,t1,t6,t7,t8⟩ Q' Y4;simp only at hk kH own hn1 ro t0 t1 t6 t7 t8;subst hk;apply Zh;intro b3 Z9;apply Zb;intro b4 Yz;simp[t8,NU];subst Yz;by_cases Ho:m=0
 ·subst Ho;refine Za (t:=false) (by simp) ?_;apply YP;apply Y4;left;refine⟨rfl,?_⟩;simp at own heq;have hdiv:dv ZF xs/B=dv ZF L:=by rw[heq,Nat.mul_add_div hy,Nat.div_eq_of_lt hR,Nat.add_zero]
  have EX:dv ZF xs%B=R:=by rw[heq,Nat.mul_add_mod,Nat.mod_eq_of_lt hR]
  obtain⟨v5,H5,MR,e5,o5,_⟩:=Vi own (by omega);subst e5;rw[Xl two32 dL]at o5;subst Ze;apply Zb;intro b4 Yz;simp[t6,t7,MR];subst Yz;apply Zu;simp;rw[<-hB,hdiv,EX];exact⟨kH,v5,rv,⟨rfl,rfl⟩,o5,ro.mono k1.n (.refl _)⟩
 ·refine Za (t:=true) (by simp;omega) ?_;apply Zr;subst Z9;obtain⟨i,rfl⟩: ∃i,m=i+1:=⟨m-1,by omega⟩;have em:((i+1:Nat):Int)-1=(i:Int):=by omega
  rw[em]at t8;have hi:i<xs.length:=by omega
  have hx:xs[i]<ZF:=dx.get (List.getElem?_eq_getElem hi);have Az:xs.drop i=xs[i]::xs.drop (i+1):=List.drop_eq_getElem_cons hi;have lR:(ds ZF R).length<=ys.length:=XB two32 (Nat.lt_trans hR mo);obtain⟨v1,H3,NR,k3,o3⟩:=Ru (H:=H2.top) ro.sl.top (Yv two32 R) (by omega) (n:=32) (by decide);have hc1':ZY Tryz.prog Zy 92 [rv,.int .i64 32] H2.top=some (v1,H3):=NR;rw[YT two32]at o3;obtain⟨G1,UO⟩:=hid (grown H2 H3);have WQ:Zg H2 G1:=by rw[UO];exact Yi (.refl H2) k3
  have kL:Ym H2.n G1 v1 (ds ZF (R*2^32)):=by rw[UO];exact o3.same (Yo k3)
  have h3n:H2.n<=H3.n:=k3.n;have dH:G1.n=H3.n:=by rw[UO];rfl
  obtain⟨x,MK⟩:=hid (xs[i]);rw[<-MK]at hx Az;have a1:Yj Tryz.prog 37 va (.int .i64 (i:Int))=some (adr va i):=ha.adr Z1 hi;apply Zh;intro b3 Z9;apply ZS;apply Zh;intro b4 Yz;apply YI (by kernel_rfl);simp[t6];refine YU (v:=v1) (H2:=H3) rfl rfl rfl (by rw[ZG rfl];simp[t6,hc1']) h3n (YO k3) ?_;rw[<-UO];generalize Pz:cond (Nat.blt H2.n H3.n) _ _=ms;have X8:=V8 Pz;simp[t0,t8,a1];have YD:=fun bits=>(ha.keep (kH.trans (Y1 (bits:=bits) WQ fun x hx=>(X8 x hx).2))).load hi;rw[<-MK]at YD;refine Z0 (v:= .int .u64 (x:Int)) rfl rfl rfl (by simp[YD]) ?_;simp;refine ax x rfl rfl rfl (fun Hv=>by simp[OH _ Z1]) ?_;intro G2 oG2 J7 nG2;obtain⟨v7,H7,hc7,e7,o7,_⟩:=Vi oG2.top (by simp);subst e7;have o3'':Ym H2.n G2 v1 (ds ZF (R*2^32)):=kL.m J7;have h1x:YG ZF [x]:= .cons hx (.nil _);have hR32:R*2^32<ZF^(ys.length+1):=by have:R*2^32<ZF^ys.length*2^32:=Nat.mul_lt_mul_of_pos_right (Nat.lt_trans hR mo) (by decide);rw[show ZF^(ys.length+1)=ZF^ys.length*ZF from rfl,show ZF=2^32 by decide];exact this
  obtain⟨v8,H8,hc8,k8,o8⟩:=Lx (H:=G2.top) o3''.sl.top o7.sl (Yv two32 _) (XH h1x) (Nat.le_trans (XB two32 (k:=ys.length+1) hR32) (by omega)) (by have:=XG [x];simp at this;omega);rw[YT two32,WX,show dv ZF [x]=x by simp[dv]]at o8;obtain⟨G3,xL⟩:=hid (grown G2 H8);have kG3:Zg G2 G3:=by rw[xL];exact Yi (.refl G2) k8
  obtain⟨R1,hR1⟩:=hid (R*2^32+x);rw[<-hR1]at o8;have o8':Ym G2.n G3 v8 (ds ZF R1):=by rw[xL];exact o8.same (Yo k8)
  have h8n:G2.n<=H8.n:=k8.n;simp;refine Z0 (v:=v7) rfl rfl rfl ?_ ?_
  ·rw[ZG (Yr fun x hx=>?_)];·simp[hc7]
   ·rcases List.mem_cons.mp hx with e|e;·rw[e];kernel_rfl
    ·rw[(X8 x e).1];kernel_rfl
  simp;refine YU (v:=v8) (H2:=H8) rfl rfl rfl ?_ h8n (YO k8) ?_
  ·rw[ZG (Yr fun x hx=>?_)];·simp[hc8]
   ·rcases List.mem_cons.mp hx with e|e;·rw[e];kernel_rfl
    ·rw[(X8 x e).1];kernel_rfl
  rw[<-xL];simp;subst Yz;have J8:Zg H G3:=((kH.trans WQ).trans J7).trans kG3;have Sh:=own.mono (Nat.le_refl _) ((WQ.trans J7).trans kG3);have or3:Ym H1.n G3 v8 (ds ZF R1):=o8'.mono (by have:=WQ.n;have:=J7.n;omega) (.refl G3);have wX:R1<B*2^32:=by have h1:(R+1)*2^32<=B*2^32:=Nat.mul_le_mul_right _ hR;have h2:x<2^32:=hx;rw[Nat.succ_mul]at h1;omega
  apply Zb;intro b4 Yz;simp;subst Yz;refine Y8 (fun s'=>s'.k=60/\Zg G3 s'.H/\ ∃(q r:Nat) (jV:Value),q<4294967296/\R1=B*q+r/\r<B/\Ym H1.n s'.H jV (ds ZF r)/\s'.tm.get 0=some va/\s'.tm.get 1=some vb/\s'.tm.get 6=some jV/\s'.tm.get 7=some c0/\s'.tm.get 8=some (.int .i64 (i:Int))/\s'.tm.get 9=some (.int .u64 (q:Int))) ?_ ?_
  ·intro Gd We;have hbG:=hb.keep J8;have hB1:(ds ZF R1).length<=ys.length+1:=XB two32 (by have h2:B*2^32<ZF^ys.length*2^32:=Nat.mul_lt_mul_of_pos_right mo (by decide);rw[show ZF^(ys.length+1)=ZF^ys.length*ZF from rfl,show ZF=2^32 by decide];rw[show ZF=2^32 by decide]at h2;exact Nat.lt_trans wX h2);obtain⟨v9,H9,hc9,e9,e9'⟩:=Rs or3.sl hbG (Yv two32 R1) dy (Ts two32 R1) ty (by omega) (by omega);subst e9;subst e9';rw[YT two32,<-hB]at hc9;apply Zb;intro b4 Yz;simp[t1,hc9,Gy];subst Yz;by_cases Sa:B<=R1
   ·refine Za (t:=true) (by simp[Sa]) ?_;apply Zb;intro b4 Yz;simp;subst Yz;apply ZS;refine YQ (fun kk s'=>s'.k=60/\Zg H9 s'.H/\kk<=32/\ ∃(q r:Nat) (jV:Value),q+2^kk<=4294967296/\R1=B*q+r/\r<B*2^kk/\Ym H1.n s'.H jV (ds ZF r)/\s'.tm.get 0=some va/\s'.tm.get 1=some vb/\s'.tm.get 6=some jV/\s'.tm.get 7=some c0/\s'.tm.get 8=some (.int .i64 (i:Int))/\s'.tm.get 9=some (.int .u64 (q:Int))/\s'.tm.get 10=some (.int .i64 ((kk:Int)-1))) ?_ 32 _ ⟨rfl,.refl _,Nat.le_refl _,0,R1,v8,by decide,by simp,wX,or3,by simp[t0],by simp[t1],by simp,by simp[t7],by simp[t8],by simp,by simp⟩;clear t0 t1 t6 t7 t8;rintro kk ⟨k,tm,H4⟩ ⟨hk,k4,PA,q,r,jV,hq,gD,hr,ui,t0,t1,t6,t7,t8,t9,t10⟩ Q5 mw;simp only at hk k4 ui t0 t1 t6 t7 t8 t9 t10;subst hk;apply Zh;intro b5 SP;apply Zb;intro b6 Px;simp[t10,NU];subst Px;by_cases Li:kk=0;·subst Li;refine Za (t:=false) (by simp) ?_;apply YP;apply mw;left;exact⟨rfl,We _ ⟨rfl,k4,q,r,jV,by omega,gD,by simpa using hr,ui,by simp[t0],by simp[t1],by simp[t6],by simp[t7],by simp[t8],by simp[t9]⟩⟩
    ·refine Za (t:=true) (by simp;omega) ?_;apply Zr;subst SP;obtain⟨s,rfl⟩: ∃s,kk=s+1:=⟨kk-1,by omega⟩;have es:((s+1:Nat):Int)-1=(s:Int):=by omega
     rw[es]at t10;obtain⟨SB,TK⟩:=CU gD hr hq;have hb4':=hbG.keep k4;obtain⟨v5,H5,MR,k5,o5⟩:=Ru (H:=H4) hb4' dy (by omega) (n:=s) (by omega);rw[<-hB]at o5;have or5:=ui.m k5;have rlt:r<=R1:=by rw[gD];omega
     have lr:(ds ZF r).length<=ys.length+1:=by have h1:=F3 two32 R1;have h2:ZF^(ds ZF R1).length<=ZF^(ys.length+1):=Nat.pow_le_pow_right (by decide) hB1;exact XB two32 (by omega)
     have lbs:(ds ZF (B*2^s)).length<=ys.length+1:=XB two32 (by have h1:B*2^s<=B*2^32:=Nat.mul_le_mul_left _ (Nat.pow_le_pow_right (by decide) (by omega));have h2:B*2^32<ZF^ys.length*2^32:=Nat.mul_lt_mul_of_pos_right mo (by decide);rw[show ZF^(ys.length+1)=ZF^ys.length*ZF from rfl,show ZF=2^32 by decide];rw[show ZF=2^32 by decide]at h2;exact Nat.lt_of_le_of_lt h1 h2);obtain⟨v6,H6,hc6,e6,e6'⟩:=Rs or5.sl o5.sl (Yv two32 r) (Yv two32 _) (Ts two32 r) (Ts two32 _) (by omega) (by omega);subst e6;subst e6';rw[YT two32,YT two32]at hc6;apply Zh;intro b5 SP;apply ZS;apply Zb;intro b6 Px;simp[t1,t10,MR];subst Px;apply Zb;intro b6 Px;simp[t6,hc6,Gy];subst Px;by_cases hs:B*2^s<=r
     ·obtain⟨g1,g2,g3⟩:=SB hs;obtain⟨v7,H7,hc7,k7,o7⟩:=Lz or5.sl o5.sl (Yv two32 r) (Yv two32 _) (by omega) (by rw[YT two32,YT two32];exact hs);rw[YT two32,YT two32]at o7;have sp:=Nat.two_pow_pos s;have m1:Y0 .shl .u64 1 (s:Int)=some (.int .u64 ((2^s:Nat):Int)):=by have:=Sm (x:=1) (s:=s) (by omega);rw[Nat.one_mul,Nat.mod_eq_of_lt (by show _<18446744073709551616;omega)]at this;exact this
      have m2:Zd .add .u64 (q:Int) ((2^s:Nat):Int)=some (.int .u64 ((q+2^s:Nat):Int)):=XD (by show _<18446744073709551616;omega);refine Za (t:=true) (by simp[hs]) ?_;apply Zb;intro b6 Px;simp[t6,hc7];subst Px;apply Zk;simp[t9,t10,m1,m2];subst SP;apply Zk;simp[t10,TM (m:=s) (by omega)];apply mw;exact⟨s,Nat.lt_succ_self s,rfl,(k4.trans k5).trans k7,by show s<=32;omega,q+2^s,r-B*2^s,v7,g3,g1,g2,o7.mono (by have:=WQ.n;have:=J7.n;have:=kG3.n;have:=k4.n;have:=k5.n;omega) (.refl _),by simp[t0],by simp[t1],by simp,by simp[t7],by simp[t8],by simp,by simp⟩
     ·refine Za (t:=false) (by simp[hs]) ?_;apply Zr;subst SP;apply Zk;simp[t10,TM (m:=s) (by omega)];apply mw;exact⟨s,Nat.lt_succ_self s,rfl,k4.trans k5,by show s<=32;omega,q,r,jV,TK (by omega),gD,by omega,or5,by simp[t0],by simp[t1],by simp[t6],by simp[t7],by simp[t8],by simp[t9],by simp⟩
   ·refine Za (t:=false) (by simp[Sa]) ?_;apply Zr;apply We;exact⟨rfl,.refl _,0,R1,v8,by decide,by simp,by omega,or3,by simp[t0],by simp[t1],by simp,by simp[t7],by simp[t8],by simp⟩
  clear t0 t1 t6 t7 t8;rintro⟨k,tm,H4⟩ ⟨hk,k4,q,r,jV,hq,gD,hr,ui,t0,t1,t6,t7,t8,t9⟩;simp only at hk k4 ui t0 t1 t6 t7 t8 t9;subst hk;have Vz:=Sh.m k4;have gC:List.replicate (i+1) 0++L=List.replicate i 0++0::L:=by rw[List.replicate_succ'];simp
  rw[gC]at Vz;have a3:=Vz.sl.adr Z1 (k:= .i64) (i:=i) (by simp);obtain⟨H5,Wo,Qw,n5,b5,WH⟩:=Vz.put (i:=i) (by simp) q;rw[WG _ _ _ _ (by simp)]at Qw;have pT:T0 (YJ c0) H4 H5:=⟨n5,fun j _ hj=>b5 j hj⟩;have ap:Vq c0 jV:=Uv o1 ui (Nat.le_refl _);apply Zk;simp[t7,t8,t9,a3,Wo];subst Z9;apply Zk;simp[t8,TM (m:=i) (by omega)];apply Y4;refine⟨i,Nat.lt_succ_self i,rfl,WH H (J8.trans k4) (Nat.le_refl _),by show i<=n;omega,q::L,r,jV,by simp;omega,.cons hq dL,hr,?_,Qw,by rw[n5];have:=WQ.n;have:=J7.n;have:=kG3.n;have:=k4.n;omega,ui.but pT ap,by simp[t0],by simp[t1],by simp[t6],by simp[t7],by simp⟩;rw[Az];simp only[dv];rw[heq,Nat.mul_add ZF,Nat.mul_add B,Nat.mul_left_comm B ZF];rw[gD]at hR1;have e1:R*2^32=ZF*R:=by rw[Nat.mul_comm]
  omega
theorem uLL:Tryz.prog.underlying 91=some (.slice 25):=by kernel_rfl
theorem sLst:Xk Tryz.prog 25=some 1:=by kernel_rfl
theorem aLst:Xx Tryz.prog 25=some false:=by kernel_rfl
structure qC (n0 : Nat) (H : AH) (b : Nat) (vs : List Value) (f : Nat -> List Nat) : Prop where
  lo : n0 <= b
  hi : b < H.n
  blk : H.blk b = .rw 1 vs
  own : ∀ (i : Nat) (v : Value), vs[i]? = some v -> Ym n0 H v (f i)
  ap : ∀ (i j : Nat) (v w : Value), i ≠ j -> vs[i]? = some v -> vs[j]? = some w -> Vq v w
  out : ∀ (i : Nat) (v : Value), vs[i]? = some v -> YJ v ≠ some b
theorem Ym.isSlice{n0:Nat}{H:AH}{v:Value}{xs:List Nat}(h:Ym n0 H v xs):v.cells=#[v]/\one v=true:=by cases h<;>exact⟨rfl,rfl⟩
section
variable {n0 : Nat} {H : AH} {b : Nat} {vs : List Value} {f : Nat -> List Nat}
theorem qC.adr(g:qC n0 H b vs f){k:IntKind}{i:Nat}(hi:i<vs.length):Yj Tryz.prog 91 (.slice (some ⟨b,0,none⟩) vs.length vs.length) (.int k (i:Int))=some (.pointer (some ⟨b,i,none⟩)):=by unfold Yj;simp only[uLL,sLst];rw[if_pos (by omega)];simp
theorem qC.load(g:qC n0 H b vs f){i:Nat}(hi:i<vs.length):Z4 Tryz.prog H 25 (.pointer (some ⟨b,i,none⟩))=some vs[i]:=by unfold Z4;simp only[aLst];unfold AH.cells;rw[g.blk];exact List.getElem?_eq_getElem hi
theorem qC.step(g:qC n0 H b vs f){H':AH}{i:Nat}(hi:i<vs.length){ys:List Nat}(bt:T0 (YJ vs[i]) H H')(o:Ym n0 H' vs[i] ys):qC n0 H' b vs (fun j=>if j=i then ys else f j):=by
 have gi:vs[i]?=some vs[i]:=List.getElem?_eq_getElem hi;refine⟨g.lo,by rw[bt.n];exact g.hi,by rw[bt.blk b g.hi (g.out i _ gi)];exact g.blk,fun j v hj=>?_,g.ap,g.out⟩;by_cases e:j=i;·subst e;rw[if_pos rfl];obtain rfl:=Option.some.inj (gi.symm.trans hj);exact o
 ·rw[if_neg e];exact(g.own j v hj).but bt fun c hc=>g.ap i j _ _ (Ne.symm e) gi hj c hc
end
def Ia(b:Nat)(vs:List Value)(H H':AH):Prop:=H.n<=H'.n/\ ∀j,j<H.n->j≠b->(∀v∈vs,YJ v≠some j)->H'.blk j=H.blk j
theorem Ia.refl(b:Nat)(vs:List Value)(H:AH):Ia b vs H H:=⟨Nat.le_refl _,fun _ _ _ _=>rfl⟩
theorem Ia.trans{b:Nat}{vs:List Value}{H H1 H2:AH}(x:Ia b vs H H1)(y:Ia b vs H1 H2):Ia b vs H H2:=⟨Nat.le_trans x.1 y.1,fun j hj h1 h2=>(y.2 j (Nat.lt_of_lt_of_le hj x.1) h1 h2).trans (x.2 j hj h1 h2)⟩
theorem Ia.but{b i:Nat}{vs:List Value}{v:Value}{H H':AH}(hi:vs[i]?=some v)(bt:T0 (YJ v) H H'):Ia b vs H H':=⟨Nat.le_of_eq bt.n.symm,fun j hj _ h2=>bt.blk j hj (h2 v (List.mem_of_getElem? hi))⟩
theorem Ia.mod{b i:Nat}{vs:List Value}{v:Value}{H H4 H5:AH}(hi:vs[i]?=some v)(md:Mod (YJ v) H H4)(h5:H5.n=H4.n/\ ∀j,j≠b->H5.blk j=H4.blk j):Ia b vs H H5:=⟨by have:=md.n;omega,fun j hj h1 h2=>(h5.2 j h1).trans (md.blk j hj (h2 v (List.mem_of_getElem? hi)))⟩
theorem PF{n:Nat}(h:n<Zc):TY Tryz.prog 3 101 (.int .i64 (n:Int))=some (.int .u64 (n:Int)):=by
 have h:n<18446744073709551616:=h;have e:IntKind.u64.wrap (n:Int)=(n:Int):=by rw[IntKind.wrap_u64];omega
 unfold TY;simp only[Tryz.underlying3,Tryz.underlying101,e]
theorem addu{x y:Nat}(h:x+y<Zc):Zd .add .u64 (x:Int) (y:Int)=some (.int .u64 ((x+y:Nat):Int)):=XD h
end
section
attribute [-simp] Int.natCast_add Int.natCast_mul Int.natCast_ediv Int.natCast_emod Int.natCast_pow
attribute [local simp] strip ZR Xm LR gW Z2 Ye ZW Yf ZK Yg Zs Zt Zi ZJ Ya ZP ZA Zl ZI Zj Zf ZB ZC YV Zo Yd YE Yy ZL plain ZO Tr.get_set Yw Zp Ys ZT sameKind undef Zw ZH Z5 Zv Z1 Yl ZU parts XZ DW Yh Zz LX ZZ Zq ZD ZQ XM Yk Zn ZN ZV ZM
inductive ET where|node(op:Int)(neg:Bool)(abs den:List Nat)(args:List ET)
mutual def ET.nodes:ET->Nat| .node _ _ _ _ args=>1+Yp args def Yp:List ET->Nat|[]=>0|t::ts=>t.nodes+Yp ts end
mutual def ET.depth:ET->Nat| .node _ _ _ _ args=>max 1 (WI args) def WI:List ET->Nat|[]=>0|t::ts=>max (t.depth+1) (WI ts) end
def arity(n:Nat):Nat:=[0,0,1,2,2,2,2,1,2,2,1,1,1,1,1,1][n]?.getD 0
def ET.good:ET->Bool| .node op neg abs den args=>decide (0<=op/\op<16/\args.length=arity op.toNat)&&(if op=0 then decide (0<dv Zc den)else decide (abs.length=0)&&decide (den.length=0)&&!neg)
mutual def ET.allGood:ET->Bool| .node op neg abs den args=>(ET.node op neg abs den args).good&&W3 args def W3:List ET->Bool|[]=>true|t::ts=>t.allGood&&W3 ts end
mutual def ET.wide(L:Nat):ET->Prop| .node _ _ abs den args=>abs.length<=L/\den.length<=L/\YG Zc abs/\YG Zc den/\Og L args def Og(L:Nat):List ET->Prop|[]=>True|t::ts=>t.wide L/\Og L ts end
theorem Wg(t:ET):0<t.nodes:=by cases t;simp only[ET.nodes];omega
theorem Vs(xs ys:List ET):Yp (xs++ys)=Yp xs+Yp ys:=by induction xs with|nil=>simp[Yp]|cons x xs ih=>simp[Yp,ih,Nat.add_assoc]
theorem Pr(xs ys:List ET):W3 (xs++ys)=(W3 xs&&W3 ys):=by induction xs with|nil=>simp[W3]|cons x xs ih=>simp[W3,ih,Bool.and_assoc]
theorem QR(xs ys:List ET):WI (xs++ys)=max (WI xs) (WI ys):=by induction xs with|nil=>simp[WI]|cons x xs ih=>simp[WI,ih,Nat.max_assoc]
theorem TL{L:Nat}{xs:List ET}(h:Og L xs){i:Nat}{t:ET}(hi:xs[i]?=some t):t.wide L:=by induction xs generalizing i with
 |nil=>simp at hi
 |cons x xs ih=>cases i with|zero=>simp at hi;subst hi;exact h.1|succ i=>simp at hi;exact ih h.2 hi
theorem Sg{xs:List ET}{i:Nat}{t:ET}(hi:xs[i]?=some t):t.nodes<=Yp xs:=by induction xs generalizing i with
 |nil=>simp at hi
 |cons x xs ih=>cases i with|zero=>simp at hi;subst hi;simp[Yp]|succ i=>simp at hi;have:=ih hi;simp only[Yp];omega
theorem UB(xs:List ET):xs.length<=Yp xs:=by induction xs with|nil=>simp|cons x xs ih=>have:=Wg x;simp only[Yp,List.length_cons];omega
theorem Pb: ∀n(t:ET),t.nodes<=n->t.depth<=t.nodes:=by intro n;induction n with
 |zero=>intro t h;have:=Wg t;omega
 |succ n ih=>
  intro t h;obtain⟨op,neg,abs,den,args⟩:=t;simp only[ET.nodes]at h;simp only[ET.nodes,ET.depth];have key: ∀l:List ET,Yp l<=n->WI l<=1+Yp l:=by intro l;induction l with|nil=>intro _;simp[WI]|cons x xs tY=>intro hl;simp only[Yp]at hl;simp only[WI,Yp];have h1:=ih x (by omega);have h2:=tY (by omega);have:=Wg x;omega
  have:=key args (by omega);omega
mutual inductive Ex(H:AH):List Value->ET->Prop|mk{op:Int}{neg:Bool}{va vd vx:Value}{abs den:List Nat}{args:List ET} :Sl H va abs->Sl H vd den->Xs H vx args->Ex H [.int .i64 op,.bool neg,va,vd,vx] (.node op neg abs den args) inductive Xs(H:AH):Value->List ET->Prop|nil:Xs H (.slice none 0 0) []|emp(b:Nat):Xs H (.slice (some ⟨b,0,some 0⟩) 0 0) []|mk(b o cap:Nat){cs:List Value}{args:List ET} :b<H.n->H.cells b=some cs->args.length<=cap->(∀(i:Nat)(t:ET),args[i]?=some t->Ex H ((cs.drop (o+i*5)).take 5) t)->Xs H (.slice (some ⟨b,o,none⟩) args.length cap) args end
theorem R0(H:AH):Zg H H.top:=⟨Nat.le_refl _,by show min H.lw H.n<=H.n;omega,fun _ _=>rfl⟩
theorem VS{H H':AH}(k:Zg H H'){b:Nat}(hb:b<H.n):H'.cells b=H.cells b:=by unfold AH.cells;rw[k.blk b hb]
theorem m8{H H':AH}(k:Zg H H'): ∀n(t:ET),t.nodes<=n-> ∀vs,Ex H vs t->Ex H' vs t:=by intro n;induction n with
 |zero=>intro t h;have:=Wg t;omega
 |succ n ih=>intro t h vs hx;cases hx with
  |mk h1 h2 h3=>simp only[ET.nodes]at h;refine .mk (h1.keep k) (h2.keep k) ?_;cases h3 with
   |nil=>exact .nil
   |emp b=>exact .emp b
   |mk b o cap hb hc hl hf=>
    rename_i cs;refine .mk b o cap (cs:=cs) (Nat.lt_of_lt_of_le hb k.n) ?_ hl fun i t hi=>?_;·rw[VS k hb];exact hc
    ·have:=Sg hi;exact ih t (by omega) _ (hf i t hi)
theorem Ex.keep{H H':AH}{vs:List Value}{t:ET}(h:Ex H vs t)(k:Zg H H'):Ex H' vs t:=m8 k _ t (Nat.le_refl _) vs h
theorem Xs.len{H:AH}{v:Value}{args:List ET}(h:Xs H v args):QE Tryz.prog 51 v=some args.length:=by
 have u:Tryz.prog.underlying 51=some (.slice 53):=by kernel_rfl
 unfold QE;rw[u];cases h<;>rfl
theorem pn:Xx Tryz.prog 53=some true:=by kernel_rfl
theorem JK:Xk Tryz.prog 53=some 5:=by kernel_rfl
theorem aOp:Xx Tryz.prog 50=some false:=by kernel_rfl
theorem KY:Xx Tryz.prog 30=some false:=by kernel_rfl
theorem Gi:Xx Tryz.prog 51=some false:=by kernel_rfl
theorem LN:Xx Tryz.prog 3=some false:=by kernel_rfl
theorem Kz:Xx Tryz.prog 4=some false:=by kernel_rfl
theorem Yb{H:AH}{t:TypeId}(ht:Xx Tryz.prog t=some false){b o:Nat}{cs:List Value}{v:Value}(h:H.cells b=some cs)(hk:cs[o]?=some v):Z4 Tryz.prog H t (.pointer (some ⟨b,o,none⟩))=some v:=by unfold Z4;simp only[ht,h,hk]
theorem R4{H:AH}{b o:Nat}{cs vs:List Value}(h:H.cells b=some cs)(hk:(cs.drop o).take 5=vs)(hl:vs.length=5):Z4 Tryz.prog H 53 (.pointer (some ⟨b,o,none⟩))=some (.agg vs.toArray):=by
 unfold Z4;simp only[pn,JK,AH.read_def,h];have:o+5<=cs.length:=by have:=congrArg List.length hk;rw[List.length_take,List.length_drop,hl]at this;omega
 rw[Nat.ble_eq.mpr this,cond_true,hk]
theorem Ex.len{H:AH}{vs:List Value}{t:ET}(h:Ex H vs t):vs.length=5:=by cases h;rfl
theorem Xs.at{H:AH}{v:Value}{args:List ET}(h:Xs H v args){i:Nat}{t:ET}(hi:args[i]?=some t): ∃(p:Value) (vs:List Value),Yj Tryz.prog 51 v (.int .i64 (i:Int))=some p/\(∀H',Zg H H'->Z4 Tryz.prog H' 53 p=some (.agg vs.toArray))/\Ex H vs t:=by
 have u:Tryz.prog.underlying 51=some (.slice 53):=by kernel_rfl
 have YW:i<args.length:=by
  rcases Nat.lt_or_ge i args.length with h'|h';·exact h'
  ·rw[List.getElem?_eq_none h']at hi;cases hi
 cases h with|nil=>simp at hi|emp b=>simp at hi|mk b o cap hb hc hl hf=>have hE:=hf i t hi;refine⟨.pointer (some ⟨b,o+i*5,none⟩),_,?_,fun H' k=>R4 ((VS k hb).trans hc) rfl hE.len,hE⟩;unfold Yj;simp only[u,JK];rw[if_pos (by omega)];simp
theorem Ed(b o:Nat):Yc Tryz.prog 53 (.pointer (some ⟨b,o,none⟩)) 0=some (.pointer (some ⟨b,o,none⟩)):=by kernel_rfl
theorem Pj(b o:Nat):Yc Tryz.prog 53 (.pointer (some ⟨b,o,none⟩)) 1=some (.pointer (some ⟨b,o+1,none⟩)):=by kernel_rfl
theorem KD(b o:Nat):Yc Tryz.prog 53 (.pointer (some ⟨b,o,none⟩)) 2=some (.pointer (some ⟨b,o+4,none⟩)):=by kernel_rfl
theorem ky(b o:Nat):Yc Tryz.prog 34 (.pointer (some ⟨b,o,none⟩)) 0=some (.pointer (some ⟨b,o,none⟩)):=by kernel_rfl
theorem rT(b o:Nat):Yc Tryz.prog 34 (.pointer (some ⟨b,o,none⟩)) 1=some (.pointer (some ⟨b,o+2,none⟩)):=by kernel_rfl
theorem VY(b o:Nat):Yc Tryz.prog 32 (.pointer (some ⟨b,o,none⟩)) 0=some (.pointer (some ⟨b,o,none⟩)):=by kernel_rfl
theorem Ld(b o:Nat):Yc Tryz.prog 32 (.pointer (some ⟨b,o,none⟩)) 1=some (.pointer (some ⟨b,o+1,none⟩)):=by kernel_rfl
theorem Sx(H:AH)(sz:Nat)(cs:List Value)(hz:sz≠0:=by decide):(H.new sz cs).cells H.n=some cs:=AH.cells_rw' (by rw[AH.blk_new,if_pos rfl]) hz
theorem Y6{H:AH}{sz:Nat}{zs ws:List Value}{t:TypeId}{n:Nat}(ht:Xk Tryz.prog t=some n)(hz:zs.length=n){v:Value}(hv:v.cells.toList=ws)(hw:ws.length=n)(h1:ws.all one=true)(zp:sz≠0:=by decide): ∃H',YZ Tryz.prog (H.new sz zs) t (.pointer (some ⟨H.n,0,none⟩)) v=some H'/\Zg H H'/\H'.blk H.n= .rw sz ws/\H'.n=H.n+1:=by
 obtain⟨sz,rfl⟩: ∃k,sz=k+1:=⟨sz-1,by omega⟩;have hb:(H.new (sz+1) zs).blk H.n= .rw (sz+1) zs:=by rw[AH.blk_new,if_pos rfl]
 have hs:v.cells.size=n:=by rw[<-hw,<-hv];simp
 have hle:Nat.ble (0+ws.length) zs.length=true:=Nat.ble_eq.mpr (by omega);refine⟨{ n:=H.n+1,lw:=min H.lw H.n,t:=(H.new (sz+1) zs).t.set H.n (.rw (sz+1) ws) },?_,⟨Nat.le_succ _,Nat.le_refl _,fun j hj=>?_⟩,?_,rfl⟩;·unfold YZ;simp only[ht,hs,hv];rw[show Nat.beq n n=true from by simp,cond_true,AH.write_def,hb];simp only[hle,h1,Bool.and_self,cond_true,List.take_zero,List.nil_append];rw[List.drop_of_length_le (by omega),List.append_nil];rfl
 ·unfold AH.blk AH.new;simp only[Tr.get_set];rw[if_neg (by omega),if_neg (by omega)]
 ·unfold AH.blk;simp only[Tr.get_set,if_true]
def RowsIn(H:AH):Prop:=0<H.n/\H.cells 0=some WL
theorem RowsIn.keep{H H':AH}(h:RowsIn H)(k:Zg H H'):RowsIn H':=⟨Nat.lt_of_lt_of_le h.1 k.n,by rw[VS k h.1];exact h.2⟩
theorem BW: ∀(n:Nat),n<16->WL[n*3+2]?=some (.int .i64 (arity n:Int)):=by intro n hn;match n,hn with|0,_=>rfl|1,_=>rfl|2,_=>rfl|3,_=>rfl|4,_=>rfl|5,_=>rfl|6,_=>rfl|7,_=>rfl|8,_=>rfl|9,_=>rfl|10,_=>rfl|11,_=>rfl|12,_=>rfl|13,_=>rfl|14,_=>rfl|15,_=>rfl|n+16,h=>omega
theorem il{k:IntKind}{n:Nat}(hn:n<16):Yj Tryz.prog 181 (.pointer (some ⟨0,0,none⟩)) (.int k (n:Int))=some (.pointer (some ⟨0,n*3,none⟩)):=by
 have u:Tryz.prog.underlying 181=some (.array 16 180):=by kernel_rfl
 have s:Xk Tryz.prog 180=some 3:=by kernel_rfl
 unfold Yj;simp only[u,s];rw[if_pos (by omega)];simp
theorem pL(b o:Nat):Yc Tryz.prog 180 (.pointer (some ⟨b,o,none⟩)) 2=some (.pointer (some ⟨b,o+2,none⟩)):=by kernel_rfl
theorem Av:Nat.blt 0 Zy.ng=true:=rfl
theorem Bd{H:AH}(h:H.cells 0=some WL){n:Nat}(hn:n<16):Z4 Tryz.prog H 3 (.pointer (some ⟨0,n*3+2,none⟩))=some (.int .i64 (arity n:Int)):=Yb LN h (BW n hn)
theorem Sf{H:AH}{v:Value}{xs:List Nat}(h:Sl H v xs)(dx:YG Zc xs)(lx:xs.length<=17592186044416):ZY Tryz.prog Zy 123 [v] H=some (.int .i64 (Zm (dv Zc xs):Int),H):=by obtain⟨_,_,hc,rfl,rfl⟩:=Vh h dx lx;exact hc
theorem Tc{n:Nat} :Zm n=0↔n=0:=by unfold Zm;split<;>simp_all
theorem KU{xs:List Nat}(dx:YG Zc xs){L:Nat}(lx:xs.length<=L):Zm (dv Zc xs)<=64*L:=by
 rcases Nat.eq_zero_or_pos (dv Zc xs)with h0|h0;·rw[h0];exact Nat.zero_le _
 ·have h1:=W1 (n:=dv Zc xs) (by omega);have h2:=X3 dx;have h3:Zc^xs.length<=Zc^L:=Nat.pow_le_pow_right (by decide) lx;have h4:Zc^L=2^(64*L):=(Nat.pow_mul 2 64 L).symm;rw[h4]at h3;have:=(Nat.pow_lt_pow_iff_right (a:=2) (by decide)).mp (Nat.lt_of_le_of_lt h1 (Nat.lt_of_lt_of_le h2 h3));omega
theorem xU{x:Nat} :Zd .gtr .i64 (x:Int) 67108864=some (.bool (decide (67108864<x))):=by show some (Value.bool (decide ((x:Int)>67108864)))=_;congr 2;exact decide_eq_decide.mpr (by omega)
theorem rL{k:IntKind}{x:Nat} :Zd .gtr k (x:Int) 0=some (.bool (decide (0<x))):=by show some (Value.bool (decide ((x:Int)>0)))=_;congr 2;exact decide_eq_decide.mpr (by omega)
theorem rV{k:IntKind}{x:Nat} :Zd .eql k (x:Int) 0=some (.bool (decide (x=0))):=by
 show some (Value.bool ((x:Int)==0))=_;congr 2;by_cases h:x=0;·subst h;rfl
 ·rw[decide_eq_false h];simp;omega
theorem neqN{k:IntKind}{x y:Nat} :Zd .neq k (x:Int) (y:Int)=some (.bool (decide (x≠y))):=by
 show some (Value.bool ((x:Int) !=(y:Int)))=_;congr 2;by_cases h:x=y;·subst h;simp
 ·rw[decide_eq_true h];simp[bne];omega
theorem BT{H:AH}{vs:List Value}{op:Int}{neg:Bool}{abs den:List Nat}{args:List ET}(hE:Ex H vs (.node op neg abs den args))(hR:RowsIn H)(da:YG Zc abs)(dd:YG Zc den)(la:abs.length<=1048576)(ld:den.length<=1048576):CW Tryz.prog Zy 96 [.agg vs.toArray] H fun v H'=>Zg H H'/\v= .bool (ET.node op neg abs den args).good:=by cases hE with
 |@mk _ _ va vd vx _ _ _ h1 h2 h3=>
  refine Z8 74 Tryz.func96 ?_;have hN: ∀H':AH,Zg (H.new 1 [.int .i64 op,.bool neg,va,vd,vx]) H'->Zg H H':=fun H' k=>(Zg.new H 1 _).trans k;have kB:=Zg.new H 1 [.int .i64 op,.bool neg,va,vd,vx];have Ay:=Sx H 1 [.int .i64 op,.bool neg,va,vd,vx];have vC:=(h1.keep kB).len Zv;have zP:=(h2.keep kB).len Zv;have hRB:=hR.keep kB;have c1:=Sf (h1.keep kB) da (by omega);have c2:=Sf (h2.keep kB) dd (by omega);have c1t:=Sf ((h1.keep kB).keep (R0 _)) da (by omega);have c2t:=Sf ((h2.keep kB).keep (R0 _)) dd (by omega);have b1:=KU da la;have b2:=KU dd ld;have lx:=h3.len;obtain⟨HB,bg⟩:=hid (H.new 1 [.int .i64 op,.bool neg,va,vd,vx]);rw[<-bg]at kB Ay hRB c1 c2 c1t c2t;have f0:=Yb aOp (o:=0) Ay rfl;have f1:=Yb Kz (o:=1) Ay rfl;have f2:=Yb KY (o:=2) Ay rfl;have f3:=Yb KY (o:=3) Ay rfl;have f4:=Yb Gi (o:=4) Ay rfl;have g2:Z4 Tryz.prog HB.top 30 (.pointer (some ⟨H.n,2,none⟩))=some va:=Yb KY (show HB.top.cells H.n=some _ from Ay) rfl;have g3:Z4 Tryz.prog HB.top 30 (.pointer (some ⟨H.n,3,none⟩))=some vd:=Yb KY (show HB.top.cells H.n=some _ from Ay) rfl;obtain⟨R,NS⟩: ∃R:Bool,R=(ET.node op neg abs den args).good:=⟨_,rfl⟩;rw[<-NS];simp only[ET.good]at NS;apply Zb;intro d1 Ih;simp[Value.cells,<-bg];subst Ih;apply Zh;intro d1 Ih;apply Zh;intro d2 Kj;have no: ∀tm:Tr Value,tm.get 25=some (.bool true)->R=false->W Tryz.prog Zy d2 ⟨74,tm,HB⟩ (Yx Tryz.prog Zy d1 fun ex s=>(ex= .norm\/ex= .ret)/\ ∃vs,Zw Tryz.prog s [.tmp 2]=some vs/\Zg H s.H/\Z5 vs= .bool R):=fun tm ht hno=>by rw[hno];subst Kj;refine Za (t:=true) (by simp[ht]) ?_;apply Zb;intro b2 Zx;simp;subst Zx;apply Zu;simp[Yx];exact kB
  apply Ri (by kernel_rfl);have e0:Zd .lss .i64 op 0=some (.bool (decide (op<0))):=rfl;have e1:Zd .geq .i64 op 16=some (.bool (decide (op≥16))):=rfl;by_cases o1:op<0;·rw[decide_eq_true o1]at e0;simp[Ed,f0,e0];show W _ _ d2 _ _;exact no _ (by simp) (by rw[NS,decide_eq_false (by omega),Bool.false_and])
  rw[decide_eq_false o1]at e0;by_cases o2:op≥16;·rw[decide_eq_true o2]at e1;simp[Ed,f0,e0,e1];show W _ _ d2 _ _;exact no _ (by simp) (by rw[NS,decide_eq_false (by omega),Bool.false_and])
  rw[decide_eq_false o2]at e1;obtain⟨n,rfl⟩: ∃n:Nat,op=(n:Int):=⟨op.toNat,by omega⟩;have hn:n<16:=by omega
  rw[Int.toNat_natCast]at NS;have ld2:=Bd hRB.2 hn;have e2:Zd .neq .i64 (args.length:Int) (arity n:Int)=some (.bool (decide (args.length≠arity n))):=neqN;by_cases o3:args.length=arity n
  ·rw[decide_eq_false (fun h=>h o3)]at e2;simp[Ed,KD,f0,f4,e0,e1,lx,Av,il hn,pL,ld2,e2];subst Kj;refine Za (t:=false) (by simp) ?_;apply Zr;subst Ih;rw[decide_eq_true (show 0<=(n:Int)/\(n:Int)<16/\args.length=arity n from⟨by omega,by omega,o3⟩),Bool.true_and]at NS;clear no;have e3:Zd .eql .i64 (n:Int) 0=some (.bool (decide (n=0))):=rV;apply Zh;intro d1 Ih;apply Zb;intro d2 Kj;simp[Ed,f0,e3];subst Kj;by_cases h0:n=0
   ·refine Za (t:=true) (by simp[h0]) ?_;rw[if_pos (by omega)]at NS;have g1:Zd .gtr .i64 (Zm (dv Zc abs):Int) 67108864=some (.bool false):=by rw[xU,decide_eq_false (by omega)]
    have g4:Zd .gtr .i64 (Zm (dv Zc den):Int) 67108864=some (.bool false):=by rw[xU,decide_eq_false (by omega)]
    have g5:Zd .gtr .i64 (Zm (dv Zc den):Int) 0=some (.bool R):=by rw[rL,NS];congr 2;exact decide_eq_decide.mpr (by have:=Tc (n:=dv Zc den);omega)
    apply Zh;intro d3 Ii;apply Nq (by kernel_rfl);simp[Pj,ky,rT,Ld,g2,g3,c1t,c2t];subst Ii;apply Zh;intro d3 Ii;apply Zb;intro d4 dU;simp[g1,g4];subst dU;refine Za (t:=false) (by simp) ?_;apply Zr;subst Ii;apply Zb;intro d4 dU;simp[g5];subst dU;apply Zu;simp[Yx];exact kB
   ·refine Za (t:=false) (by simp[h0]) ?_;rw[if_neg (by omega)]at NS;apply Zr;subst Ih;apply Zb;intro d3 Ii;have e5:Zd .eql .i64 (abs.length:Int) 0=some (.bool (decide (abs.length=0))):=rV;have e6:Zd .eql .i64 (den.length:Int) 0=some (.bool (decide (den.length=0))):=rV;by_cases i1:abs.length=0
    ·rw[decide_eq_true i1]at e5;by_cases i2:den.length=0;·rw[decide_eq_true i2]at e6;simp[Pj,ky,rT,Ld,VY,f1,f2,f3,vC,zP,e5,e6];subst Ii;apply Zu;simp;exact⟨kB,by rw[NS];simp[i1,i2]⟩
     ·rw[decide_eq_false i2]at e6;simp[Pj,ky,rT,Ld,VY,f1,f2,f3,vC,zP,e5,e6];subst Ii;apply Zu;simp;exact⟨kB,by rw[NS];simp[i1,i2]⟩
    ·rw[decide_eq_false i1]at e5;simp[Pj,ky,rT,Ld,VY,f1,f2,f3,vC,zP,e5];subst Ii;apply Zu;simp;exact⟨kB,by rw[NS];simp[i1]⟩
  ·rw[decide_eq_true o3]at e2;simp[Ed,KD,f0,f4,e0,e1,lx,Av,il hn,pL,ld2,e2];show W _ _ d2 _ _;exact no _ (by simp) (by rw[NS,decide_eq_false (by omega),Bool.false_and])
def UR(n0:Nat)(H H1:AH):Prop:= ∀H0,Zg H0 H->H0.n<=n0->Zg H0 H1
theorem UR.refl(n0:Nat)(H:AH):UR n0 H H:=fun _ k _=>k
theorem UR.trans{n0:Nat}{H H1 H2:AH}(a:UR n0 H H1)(b:UR n0 H1 H2):UR n0 H H2:=fun H0 k h=>b H0 (a H0 k h) h
theorem Zg.kat{H H':AH}(k:Zg H H')(n0:Nat):UR n0 H H':=fun H0 k0 _=>k0.trans k
theorem cH:Xk Tryz.prog 3=some 1:=by kernel_rfl
theorem BQ{H:AH}{t:TypeId}(ht:Xk Tryz.prog t=some 1){b sz:Nat}{x y:Value}(h:H.blk b= .rw sz [x])(hy:y.cells=#[y])(h1:one y=true)(zp:sz≠0:=by decide): ∃H',YZ Tryz.prog H t (.pointer (some ⟨b,0,none⟩)) y=some H'/\H'.blk b= .rw sz [y]/\H'.n=H.n/\(∀j,j≠b->H'.blk j=H.blk j)/\UR b H H':=by
 obtain⟨sz,rfl⟩: ∃k,sz=k+1:=⟨sz-1,by omega⟩;refine⟨{ n:=H.n,lw:=min H.lw b,t:=H.t.set b (.rw (sz+1) [y]) },?_,?_,rfl,fun j hj=>?_,fun H0 k hn=>⟨k.n,?_,fun j hj=>?_⟩⟩;·unfold YZ;simp only[ht,hy];rw[show Nat.beq (#[y]:Array Value).size 1=true from rfl,cond_true,AH.write_def,h];simp[h1];rfl
 ·unfold AH.blk;simp only[Tr.get_set,if_true]
 ·unfold AH.blk;simp only[Tr.get_set];rw[if_neg hj]
 ·have:=k.lw;show min H0.lw H0.n<=min H.lw b;omega
 ·unfold AH.blk;simp only[Tr.get_set];rw[if_neg (by omega)];exact k.blk j hj
theorem zG(a b:Nat):Tt true [.int .i64 (a:Int),.int .i64 (b:Int)]=some (.int .i64 ((max a b:Nat):Int)):=by
 unfold Tt;simp only[sameKind,BEq.rfl,cond_true];congr 2;by_cases h:(a:Int)<b;·rw[if_pos h];omega
 ·rw[if_neg h];omega
theorem addN{x y:Nat}(h:x+y<9223372036854775808):Zd .add .i64 (x:Int) (y:Int)=some (.int .i64 ((x+y:Nat):Int)):=by show some (Value.int .i64 (IntKind.i64.wrap ((x:Int)+y)))=_;rw[<-Int.natCast_add,R7 h]
theorem Tx{x:Nat}(h:x+1<9223372036854775808):Zd .add .i64 (x:Int) 1=some (.int .i64 ((x+1:Nat):Int)):=addN (y:=1) h
theorem JF:WA Tryz.prog 53=some (.agg #[.int .i64 0,.bool false,.slice none 0 0,.slice none 0 0,.slice none 0 0]):=by kernel_rfl
theorem Ex.ones{H:AH}{vs:List Value}{t:ET}(h:Ex H vs t):vs.all one=true:=by
 have hs: ∀{v:Value}{xs:List Nat},Sl H v xs->one v=true:=fun h=>by cases h<;>rfl
 cases h with
  |mk h1 h2 h3=>
   have h4: ∀{v:Value}{l:List ET},Xs H v l->one v=true:=fun h=>by cases h<;>rfl
   simp only[List.all_cons,List.all_nil,hs h1,hs h2,h4 h3,Bool.and_true];rfl
def ef(H:AH)(b c:Nat)(t:ET)(v:Value)(H':AH):Prop:=v= .tuple #[.bool t.allGood,.int .i64 (t.depth:Int)]/\UR b H H'/\H.n<=H'.n/\H'.blk b= .rw 1 [.int .i64 ((c+t.nodes:Nat):Int)]
theorem Iq{k:IntKind}{x y:Nat} :Zd .lss k (x:Int) (y:Int)=some (.bool (decide (x<y))):=by show some (Value.bool (decide ((x:Int)<y)))=_;congr 2;exact decide_eq_decide.mpr (by omega)
theorem A4{x:Nat}(h:x<=4611686018427387903):Zd .gtr .i64 (x:Int) 4611686018427387903=some (.bool false):=by show some (Value.bool (decide ((x:Int)>4611686018427387903)))=_;congr 2;exact decide_eq_false (by omega)
theorem nZ: ∀n(t:ET),t.nodes<=n-> ∀(H0 H:AH)(vs:List Value)(b c deep:Nat),Ex H0 vs t->RowsIn H0->t.wide 1048576->Zg H0 H->H0.n<=b->b<H.n->H.blk b= .rw 1 [.int .i64 (c:Int)]->c+t.nodes<=1000000000->deep+t.nodes<=1000000000->CW Tryz.prog Zy 68 [.agg vs.toArray,.int .i64 (deep:Int),.pointer (some ⟨b,0,none⟩),.int .i64 4611686018427387903] H (ef H b c t):=by intro n;induction n with
 |zero=>intro t h;have:=Wg t;omega
 |succ n ih=>
  intro t ht H0 H vs b c deep hE hR hw k0 hb JB XO hc hdp;obtain⟨op,neg,abs,den,args⟩:=t;have hEk:=hE;have hlen:=hE.len;have QN:=hE.ones;obtain⟨wa,wd,da,dd,ws⟩:=hw;simp only[ET.nodes]at ht hc hdp;unfold ef;simp only[ET.nodes];refine Z8 60 Tryz.func68 ?_;have kB:=Zg.new H 1 vs;have eE:(H.new 1 vs).blk H.n= .rw 1 vs:=by rw[AH.blk_new,if_pos rfl]
  have rm:(H.new 1 vs).blk b= .rw 1 [.int .i64 (c:Int)]:=by rw[AH.blk_new,if_neg (by omega)];exact XO
  have nB:(H.new 1 vs).n=H.n+1:=rfl;obtain⟨HB,bg⟩:=hid (H.new 1 vs);rw[<-bg]at kB eE rm nB;have cb:HB.cells b=some [.int .i64 (c:Int)]:=by unfold AH.cells;rw[rm]
  have l1:=Yb LN (o:=0) cb rfl;obtain⟨H2,TK,eF,n2,oth2,kN⟩:=BQ cH (y:= .int .i64 ((c+1:Nat):Int)) rm rfl rfl;have cb2:H2.cells b=some [.int .i64 ((c+1:Nat):Int)]:=by unfold AH.cells;rw[eF]
  have l2:=Yb LN (o:=0) cb2 rfl;have cB2:H2.cells H.n=some vs:=by unfold AH.cells;rw[oth2 H.n (by omega),eE]
  have l3:=R4 (o:=0) cB2 (vs:=vs) (by rw[List.drop_zero,List.take_of_length_le (by omega)]) hlen;have k02:Zg H0 H2:=kN H0 (k0.trans kB) hb;obtain⟨_,H3,c3,k3,rfl⟩:=BT (hEk.keep k02) (hR.keep k02) da dd wa wd;obtain⟨g,hg⟩: ∃g:Bool,g=(ET.node op neg abs den args).good:=⟨_,rfl⟩;rw[<-hg]at c3;have im:=k02.trans k3;have cB3:H3.cells H.n=some vs:=by rw[VS k3 (by omega)];exact cB2
  cases hEk with
   |@mk _ _ va vd vx _ _ _ h1 h2 h3=>
    have l4:=Yb Gi (o:=4) cB3 rfl;have lx:=h3.len;have la:=UB args;have q1:=A4 (x:=c+1) (by omega);have q2:=A4 (x:=deep) (by omega);have lI:H3.blk b= .rw 1 [.int .i64 ((c+1:Nat):Int)]:=by rw[k3.blk b (by omega)];exact eF
    have O5:UR b H H3:=((kB.kat b).trans kN).trans (k3.kat b);have n3:=k3.n;apply Zb;intro d1 Ih;simp[Value.cells,<-bg];subst Ih;apply Zb;intro d1 Ih;simp[l1,Tx (x:=c) (by omega),TK];subst Ih;apply Zh;intro d1 Ih;apply Zb;intro d2 Kj;simp[l2,q1,q2];subst Kj;refine Za (t:=false) (by simp) ?_;apply Zr;subst Ih;apply Zb;intro d1 Ih;simp only[List.toArray]at c3 l3;simp[l3,c3];subst Ih;apply Zb;intro d1 Ih;simp;subst Ih;apply Zh;intro d1 Ih;apply Zb;intro d2 Kj;simp[KD,l4,lx];subst Kj;apply ZS;obtain⟨m0,Ho⟩:=hid (args.length);rw[<-Ho]at lx la;refine YQ (fun m s'=>s'.k=60/\Zg H0 s'.H/\UR b H s'.H/\H3.n<=s'.H.n/\ ∃(i:Nat) (ok:Bool) (d:Nat),m+i=m0/\ok=(g&&W3 (args.take i))/\d=max 1 (WI (args.take i))/\s'.H.blk b= .rw 1 [.int .i64 ((c+1+Yp (args.take i):Nat):Int)]/\s'.tm.get 1=some (.int .i64 (deep:Int))/\s'.tm.get 2=some (.pointer (some ⟨b,0,none⟩))/\s'.tm.get 3=some (.int .i64 4611686018427387903)/\s'.tm.get 10=some (.bool ok)/\s'.tm.get 11=some (.int .i64 (d:Int))/\s'.tm.get 34=some vx/\s'.tm.get 35=some (.int .i64 (m0:Int))/\s'.tm.get 36=some (.int .i64 (i:Int))) ?_ m0 _ ⟨rfl,im,O5,Nat.le_refl _,0,g,1,by omega,by simp[W3],by simp[WI],by simpa[Yp]using lI,by simp,by simp,by simp,by simp,by simp,by simp,by simp[Ho],by simp⟩;rintro m ⟨k,tm,H4⟩ ⟨hk,kH,kaH,hn4,i,ok,d,Kk,GW,hd,Ib,t1,t2,t3,t10,t11,t34,t35,t36⟩ Q' Y4;simp only at hk kH kaH hn4 Ib t1 t2 t3 t10 t11 t34 t35 t36;subst hk;apply Zb;intro d3 Ii;simp[t35,t36,Iq];subst Ii;apply Zh;intro d3 Ii;by_cases hi:i<m0
    ·refine Za (t:=true) (by simp[hi]) ?_;apply Zr;subst Ii;obtain⟨x,hx⟩: ∃x,args[i]?=some x:=⟨_,List.getElem?_eq_getElem (by omega)⟩;have mJ:args.take (i+1)=args.take i++[x]:=by rw[List.take_add_one,hx];rfl
     have Qn:Yp (args.take (i+1))=Yp (args.take i)+x.nodes:=by rw[mJ,Vs];simp[Yp]
     have hle:Yp (args.take (i+1))<=Yp args:=by have:=Vs (args.take (i+1)) (args.drop (i+1));rw[List.take_append_drop]at this;omega
     obtain⟨p,us,ha5,hl5,fA⟩: ∃(p:Value) (us:List Value),Yj Tryz.prog 51 vx (.int .i64 (i:Int))=some p/\Z4 Tryz.prog H4 53 p=some (.agg us.toArray)/\Ex H0 us x:=by obtain⟨p,us,e1,e2,e3⟩:=h3.at hx;exact⟨p,us,e1,e2 _ kH,e3⟩
     obtain⟨H5,Wo,k5,Gk,n5⟩:=Y6 (H:=H4) (sz:=1) (zs:=[.int .i64 0,.bool false,.slice none 0 0,.slice none 0 0,.slice none 0 0]) JK rfl (v:= .agg us.toArray) (ws:=us) (by simp[Value.cells]) fA.len fA.ones;have c5:H5.cells H4.n=some us:=by unfold AH.cells;rw[Gk]
     have l5:=R4 (o:=0) c5 (vs:=us) (by rw[List.drop_zero,List.take_of_length_le (by rw[fA.len];omega)]) fA.len;have SP:H5.blk b= .rw 1 [.int .i64 ((c+1+Yp (args.take i):Nat):Int)]:=by rw[k5.blk b (by omega)];exact Ib
     have hxn:=Sg hx;obtain⟨_,H6,c6,rfl,V1,n6,lH⟩:=ih x (by omega) H0 H5 us b (c+1+Yp (args.take i)) (deep+1) fA hR (TL ws hx) (kH.trans k5) hb (by omega) SP (by omega) (by omega);have k06:Zg H0 H6:=V1 H0 (kH.trans k5) hb;have zY:UR b H H6:=(kaH.trans (k5.kat b)).trans V1;apply Zh;intro d3 Ii;apply ZS;apply Zb;intro d4 dU;simp[t34,t36,ha5,hl5,JF,Value.cells,Wo];subst dU;apply Zb;intro d4 dU;simp[t1,t2,t3,l5,Tx (x:=deep) (by omega),c6];subst dU;apply Zb;intro d4 dU;cases ok with
      |true=>
       simp[t10];subst dU;have xd:=Pb _ x (Nat.le_refl _);apply Zk;simp[t11,Tx (x:=x.depth) (by omega),zG];subst Ii;apply Zk;simp[t36,Tx (x:=i) (by omega)];apply Y4;refine⟨m-1,by omega,rfl,k06,zY,by simp;omega,i+1,x.allGood,max d (x.depth+1),by omega,?_,?_,?_,by simp[t1],by simp[t2],by simp[t3],by simp,by simp,by simp[t34],by simp[t35],by simp⟩;·rw[mJ,Pr,<-Bool.and_assoc,<-GW];simp[W3]
       ·rw[mJ,QR,hd];simp[WI,Nat.max_assoc]
       ·show H6.blk b=_;rw[lH,Qn];congr 4;omega
      |false=>
       simp[t10];subst dU;have xd:=Pb _ x (Nat.le_refl _);apply Zk;simp[t11,Tx (x:=x.depth) (by omega),zG];subst Ii;apply Zk;simp[t36,Tx (x:=i) (by omega)];apply Y4;refine⟨m-1,by omega,rfl,k06,zY,by simp;omega,i+1,false,max d (x.depth+1),by omega,?_,?_,?_,by simp[t1],by simp[t2],by simp[t3],by simp,by simp,by simp[t34],by simp[t35],by simp⟩;·rw[mJ,Pr,<-Bool.and_assoc,<-GW];simp
       ·rw[mJ,QR,hd];simp[WI,Nat.max_assoc]
       ·show H6.blk b=_;rw[lH,Qn];congr 4;omega
    ·refine Za (t:=false) (by simp[hi]) ?_;apply YP;apply Y4;left;refine⟨rfl,?_⟩;obtain rfl:i=m0:=by omega
     rw[List.take_of_length_le (by omega)]at GW hd Ib;subst Ih;apply Zb;intro d4 dU;simp[t10,t11];subst dU;apply Zu;simp;refine⟨⟨?_,?_⟩,kaH,by omega,?_⟩;·rw[GW,hg];simp[ET.allGood]
     ·rw[hd];simp[ET.depth]
     ·rw[Ib];congr 4;omega
structure Q4 (H : AH) (vs : List Value) (t : ET) : Prop where
  ex : Ex H vs t
  rows : RowsIn H
  wide : t.wide 1048576
  nodes : t.nodes <= 2000000
theorem Q4.keep{H H':AH}{vs:List Value}{t:ET}(h:Q4 H vs t)(k:Zg H H'):Q4 H' vs t:=⟨h.ex.keep k,h.rows.keep k,h.wide,h.nodes⟩
theorem uF:WA Tryz.prog 3=some (.int .i64 0):=by kernel_rfl
def Tf(t:ET):Nat:=if t.allGood=false then 152 else if 4000<t.nodes\/200<t.depth then 151 else 0
theorem ck{H:AH}{vs:List Value}{t:ET}(h:Q4 H vs t): ∃H2,YZ Tryz.prog ((H.new 1 vs).new 1 [.int .i64 0]) 3 (.pointer (some ⟨H.n+1,0,none⟩)) (.int .i64 0)=some H2/\Z4 Tryz.prog H2 53 (.pointer (some ⟨H.n,0,none⟩))=some (.agg vs.toArray)/\ ∃H3,ZY Tryz.prog Zy 68 [.agg vs.toArray,.int .i64 1,.pointer (some ⟨H.n+1,0,none⟩),.int .i64 4611686018427387903] H2=some (.tuple #[.bool t.allGood,.int .i64 (t.depth:Int)],H3)/\Zg H H3/\Z4 Tryz.prog H3 3 (.pointer (some ⟨H.n+1,0,none⟩))=some (.int .i64 (t.nodes:Int)):=by
 have kB:=Zg.new H 1 vs;have eE:(H.new 1 vs).blk H.n= .rw 1 vs:=by rw[AH.blk_new,if_pos rfl]
 have nB:(H.new 1 vs).n=H.n+1:=rfl;obtain⟨HB,bg⟩:=hid (H.new 1 vs);rw[<-bg]at kB eE nB⊢;obtain⟨H2,TK,k2,eF,n2⟩:=Y6 (H:=HB) (sz:=1) (zs:=[.int .i64 0]) cH rfl (v:= .int .i64 0) (ws:=[.int .i64 0]) rfl rfl rfl;rw[nB]at TK eF;have cB2:H2.cells H.n=some vs:=by rw[VS k2 (by omega)];unfold AH.cells;rw[eE]
 have l2:=R4 (o:=0) cB2 (vs:=vs) (by rw[List.drop_zero,List.take_of_length_le (by rw[h.ex.len];omega)]) h.ex.len;obtain⟨_,H3,c3,rfl,O5,n3,lI⟩:=nZ _ t (Nat.le_refl _) H H2 vs (H.n+1) 0 1 h.ex h.rows h.wide (kB.trans k2) (Nat.le_succ _) (by omega) eF (by have:=h.nodes;omega) (by have:=h.nodes;omega);rw[Nat.zero_add]at lI;have c3:ZY Tryz.prog Zy 68 [.agg vs.toArray,.int .i64 1,.pointer (some ⟨H.n+1,0,none⟩),.int .i64 4611686018427387903] H2=some (.tuple #[.bool t.allGood,.int .i64 (t.depth:Int)],H3):=c3;refine⟨H2,TK,l2,H3,c3,O5 H (kB.trans k2) (Nat.le_succ _),Yb LN (cs:=[.int .i64 (t.nodes:Int)]) ?_ rfl⟩;unfold AH.cells;rw[lI]
section
variable {H : AH} {vs : List Value} {t : ET}
theorem Za0(H:AH)(sz:Nat)(cs:List Value):(H.new sz cs).n=H.n+1:=rfl
theorem xT{k:IntKind}{x y:Nat}{z:Int}(hz:z=(y:Int)):Zd .gtr k (x:Int) z=some (.bool (decide (y<x))):=by subst hz;show some (Value.bool (decide ((x:Int)>(y:Int))))=_;congr 2;exact decide_eq_decide.mpr (by omega)
theorem OG(h:Q4 H vs t): ∃H',ZY Tryz.prog Zy 28 [.agg vs.toArray] H=some (.int .i64 (Tf t:Int),H')/\Zg H H':=by
 suffices hs:CW Tryz.prog Zy 28 [.agg vs.toArray] H fun v H'=>v= .int .i64 (Tf t:Int)/\Zg H H' by obtain⟨_,H',hc,rfl,k⟩:=hs;exact⟨H',hc,k⟩
 obtain⟨H2,st,ld,H3,lc,k3,ln⟩:=ck h;obtain⟨C,hC⟩:=hid (Tf t);rw[<-hC];unfold Tf at hC;refine Z8 21 Tryz.func28 ?_;apply Zb;intro b1 Ze;simp[Value.cells];subst Ze;apply Zb;intro b1 Ze;simp[uF,Value.cells,Za0,st];subst Ze;apply Zb;intro b1 Ze;simp[ld,lc];subst Ze;apply Zh;intro b1 Ze;apply ZS;apply Zb;intro b2 Zx;simp;subst Zx;obtain⟨g,hg⟩:=hid (t.allGood);rw[<-hg]at hC⊢;cases g with
  |false=>rw[if_pos rfl]at hC;subst hC;refine Za (t:=true) (by simp) ?_;apply Zb;intro b2 Zx;simp;subst Zx;apply Zu;simp[Yx,Yn];exact k3
  |true=>
   rw[if_neg (by decide)]at hC;refine Za (t:=false) (by simp) ?_;have g1:Zd .gtr .i64 (t.nodes:Int) 4000=some (.bool (decide (4000<t.nodes))):=xT (y:=4000) rfl;have g2:Zd .gtr .i64 (t.depth:Int) 200=some (.bool (decide (200<t.depth))):=xT (y:=200) rfl;apply Zb;intro b2 Zx;by_cases h1:4000<t.nodes;·rw[decide_eq_true h1]at g1;rw[if_pos (.inl h1)]at hC;subst hC;simp[ln,g1];subst Zx;refine Za (t:=true) (by simp) ?_;apply Zb;intro b2 Zx;simp;subst Zx;apply Zu;simp[Yx,Yn];exact k3
   ·rw[decide_eq_false h1]at g1;by_cases h2:200<t.depth;·rw[decide_eq_true h2]at g2;rw[if_pos (.inr h2)]at hC;subst hC;simp[ln,g1,g2];subst Zx;refine Za (t:=true) (by simp) ?_;apply Zb;intro b2 Zx;simp;subst Zx;apply Zu;simp[Yx,Yn];exact k3
    ·rw[decide_eq_false h2]at g2;rw[if_neg (by omega)]at hC;subst hC;simp[ln,g1,g2];subst Zx;refine Za (t:=false) (by simp) ?_;apply Zr;subst Ze;apply Zb;intro b2 Zx;simp;subst Zx;apply Zu;simp;exact k3
end
theorem mulN{x y:Nat}(h:x*y<9223372036854775808):Zd .mul .i64 (x:Int) (y:Int)=some (.int .i64 ((x*y:Nat):Int)):=by show some (Value.int .i64 (IntKind.i64.wrap ((x:Int)*y)))=_;rw[<-Int.natCast_mul,R7 h]
theorem aO{n:Nat}(h:n<9223372036854775808):TY Tryz.prog 3 228 (.int .i64 (n:Int))=some (.int .u64 (n:Int)):=by
 have e:IntKind.u64.wrap (n:Int)=(n:Int):=by rw[IntKind.wrap_u64];omega
 unfold TY;simp only[Tryz.underlying3,Tryz.underlying228,e]
section
variable {H : AH} {vs : List Value} {t : ET}
end
end
section
attribute [-simp] Int.natCast_add Int.natCast_mul Int.natCast_ediv Int.natCast_emod Int.natCast_pow
attribute [local simp] strip ZR Xm LR gW Z2 Ye ZW Yf ZK Yg Zs Zt Zi ZJ Ya ZP ZA Zl ZI Zj Zf ZB ZC YV Zo Yd YE Yy ZL plain ZO Tr.get_set Yw Zp Ys ZT sameKind undef Zw ZH Z5 Zv Z1 Yl ZU parts Z3 XZ DW Yh Zz LX ZZ Zq ZD ZQ XM Yk Zn ZN ZV ZM
abbrev WU:Nat:=2000000000000
theorem VQ{xs:List Nat}(dx:YG Zc xs):(ds Zc (dv Zc xs)).length<=xs.length:=XB Z7 (X3 dx)
theorem Ux{B:Nat}(hB:2<=B){n m:Nat}(h:n<=m):(ds B n).length<=(ds B m).length:=XB hB (Nat.lt_of_le_of_lt h (F3 hB m))
theorem Vj{B n:Nat}(hB:2<=B):0<(ds B n).length↔0<n:=by
 constructor
 ·intro h;rcases Nat.eq_zero_or_pos n with h0|h0;·subst h0;rw[XY]at h;cases h
  ·exact h0
 ·intro h;rw[TG hB (by omega)];simp
theorem Wu{B n:Nat}(hB:2<=B):(ds B n).length=0↔n=0:=by have:=Vj (n:=n) hB;omega
theorem rl{N:Nat}(h:0<(ds ZF N).length):Zm N=32*((ds ZF N).length-1)+Zm ((ds ZF N)[(ds ZF N).length-1])/\(ds ZF N)[(ds ZF N).length-1]<ZF:=by
 have hN:0<N:=(Vj two32).mp h;obtain⟨k,hk⟩:=hid ((ds ZF N).length-1);have YW:k<(ds ZF N).length:=by omega
 have e:=Uy ZF (ds ZF N) k (by omega);rw[YT two32,List.drop_eq_getElem_cons YW,List.drop_eq_nil_of_le (by omega)]at e;simp only[dv,Nat.mul_zero,Nat.add_zero]at e;have hl:=X3 ((Yv two32 N).take k);rw[List.length_take,Nat.min_eq_left (by omega)]at hl;have hd:(ds ZF N)[k]<ZF:=(Yv two32 N).get (List.getElem?_eq_getElem YW);have Sa:=fY two32 (n:=N) (by omega);rw[<-hk]at Sa;have hp:ZF^k=2^(32*k):=by rw[Nat.pow_mul]
 rw[hp]at Sa e hl;have e2:(ds ZF N)[(ds ZF N).length-1]=(ds ZF N)[k]:=by simp only[hk]
 rw[e2,<-hk];refine⟨?_,hd⟩;have hs:=Tb Sa;have hq:N/2^(32*k)=(ds ZF N)[k]:=by generalize(ds ZF N)[k]=t at*;generalize dv ZF ((ds ZF N).take k)=u at*;rw[e,Nat.add_mul_div_left _ _ (Nat.two_pow_pos _),Nat.div_eq_of_lt hl,Nat.zero_add]
 rw[hq]at hs;exact hs
theorem aX{x:Nat}(h:x<ZF):Zm x<=32:=by
 rcases Nat.lt_or_ge 32 (Zm x)with h1|h1
 ·have h0:x≠0:=by rintro rfl;simp[Zm]at h1
  have a:=W1 h0;have b:2^32<=2^(Zm x-1):=Nat.pow_le_pow_right (by decide) (by omega);have hx:x<4294967296:=h;omega
 ·exact h1
theorem dig1{x:Nat}(h:x<Zc):YG Zc [x]:= .cons h (.nil _)
theorem dv1(x:Nat):dv Zc [x]=x:=by simp[dv]
theorem ds1{x:Nat}(h0:x≠0)(h:x<Zc):ds Zc x=[x]:=by rw[TG Z7 h0,Nat.mod_eq_of_lt h,Nat.div_eq_of_lt h,XY]
theorem Q8(H:AH){t:TypeId}(ht:LT t)(x:Nat): ∃v N,YX Tryz.prog H t 1 [(0,.int .u64 (x:Int))]=some (v,N)/\Zg H N/\Ym H.n N v [x]:=⟨_,_,OH H ht x,.new _ _ _,Ym.new H [x]⟩
theorem Dr{H:AH}{v:Value}{N:Nat}(h:Sl H v (ds ZF N))(hl:(ds ZF N).length<=2*WU):CW Tryz.prog Zy 23 [v] H fun v' H'=>H'=H/\v'= .int .i64 (Zm N:Int):=by
 refine Z8 25 Tryz.func23 ?_;have l1:=h.len Z1;obtain⟨L,hL⟩:=hid ((ds ZF N).length);rw[<-hL]at l1;have hl:L<=4000000000000:=by rw[hL];exact hl
 apply Zb;intro b1 Ze;simp;subst Ze;apply Zh;intro b1 Ze;apply Zb;intro b2 Zx;simp[l1,Ws];subst Zx;by_cases h0:L=0
 ·refine Za (t:=true) (by simp[h0]) ?_;apply Zb;intro b2 Zx;simp;subst Zx;apply Zu;have:N=0:=by rw[h0]at hL;exact(Wu two32).mp hL.symm
  subst this;simp[Yx,Zm]
 ·refine Za (t:=false) (by simp[h0]) ?_;apply Zr;subst Ze;obtain⟨e,hd⟩:=rl (N:=N) (by omega);have a1:=h.adr Z1 (k:= .i64) (i:=(ds ZF N).length-1) (by omega);have d1:=h.load (i:=(ds ZF N).length-1) (by omega);obtain⟨x,hx⟩:=hid ((ds ZF N)[(ds ZF N).length-1]'(by omega));rw[<-hx]at d1 hd e;rw[<-hL]at a1 d1 e;have hx32:=aX hd;have s1:Zd .sub .i64 (L:Int) 1=some (.int .i64 ((L-1:Nat):Int)):=Uf (by omega) (by omega);have s2:Zd .mul .i64 32 ((L-1:Nat):Int)=some (.int .i64 ((32*(L-1):Nat):Int)):=cu (by omega);apply Zb;intro b1 Ze;simp[l1,s1,s2];subst Ze;apply Zh;intro b1 Ze;apply Zb;intro b2 Zx;simp[l1,s1,a1,d1];subst Zx;apply ZS;refine YQ (fun y s'=>s'.k=25/\s'.H=H/\y<ZF/\ ∃n:Nat,n+Zm y=Zm N/\s'.tm.get 3=some (.int .i64 (n:Int))/\s'.tm.get 4=some (.int .u64 (y:Int))) ?_ x _ ⟨rfl,rfl,hd,32*(L-1),e.symm,by simp,by simp⟩;rintro y ⟨k,tm,H2⟩ ⟨hk,hH,hy,n,hn,t3,t4⟩ Q' Y4;simp only at hk hH t3 t4;subst hk;subst hH;apply Zh;intro b3 Z9;apply Zb;intro b4 Yz;simp[t4,K7];subst Yz;by_cases LC:0<y;·refine Za (t:=true) (by simp[LC]) ?_;apply Zr;subst Z9;have hbh:=aY LC;apply Zh;intro b3 Z9;apply ZS;apply Zk;simp[t3,YR (x:=n) (by omega)];subst Z9;apply Zk;simp[t4,quo2 (Cj hy)];apply Y4;exact⟨y/2,Nat.div_lt_self LC (by decide),rfl,rfl,Nat.lt_of_le_of_lt (Nat.div_le_self y 2) hy,n+1,by omega,by simp,by simp⟩
  ·refine Za (t:=false) (by simp[LC]) ?_;apply YP;apply Y4;left;refine⟨rfl,?_⟩;obtain rfl:y=0:=by omega
   have vQ:n=Zm N:=by rw[<-hn];rfl
   subst Ze;apply Zb;intro b4 Yz;simp[t3];subst Yz;apply Zu;simp[vQ]
theorem TO{H:AH}{v:Value}{N:Nat}(h:Sl H v (ds ZF N))(hl:(ds ZF N).length<=2*WU):ZY Tryz.prog Zy 23 [v] H=some (.int .i64 (Zm N:Int),H):=by obtain⟨_,_,hc,rfl,rfl⟩:=Dr h hl;exact hc
theorem Sy{H:AH}{v:Value}{N:Nat}(h:Sl H v (ds ZF N)):ZY Tryz.prog Zy 19 [v] H=some (.bool (decide (N=0)),H):=by obtain⟨_,_,hc,rfl,rfl⟩:=dZ h;rw[hc];congr 3;exact decide_eq_decide.mpr (Wu two32)
theorem Rt{H:AH}{va vb:Value}{A B:Nat}(ha:Sl H va (ds ZF A))(hb:Sl H vb (ds ZF B))(lA:(ds ZF A).length<=2*WU)(lB:(ds ZF B).length<=2*WU)(hB:0<B): ∃q r H',ZY Tryz.prog Zy 64 [va,vb] H=some (.tuple #[q,r],H')/\Zg H H'/\Ym H.n H' q (ds ZF (A/B))/\Ym H.n H' r (ds ZF (A%B)):=by obtain⟨v,H',hc,k,q,r,e,o1,o2⟩:=Dp ha hb (Yv two32 A) (Yv two32 B) (Ts two32 B) (Nat.le_trans lA (by decide)) (Nat.le_trans lB (by decide)) (by rw[YT two32];exact hB);subst e;rw[YT two32,YT two32]at o1 o2;exact⟨q,r,H',hc,k,o1,o2⟩
section
variable {H : AH} {va vb : Value} {A B : Nat}
theorem Dq(ha:Sl H va (ds ZF A))(hb:Sl H vb (ds ZF B))(lA:(ds ZF A).length<=2*WU)(lB:(ds ZF B).length<=2*WU):CW Tryz.prog Zy 63 [va,vb] H fun v H'=>Zg H H'/\Sl H' v (ds ZF (Nat.gcd A B)):=by
 refine Z8 19 Tryz.func63 ?_;apply Zb;intro b1 Ze;simp;subst Ze;apply Zh;intro b1 Ze;apply ZS;refine YQ (fun m s'=>s'.k=19/\Zg H s'.H/\ ∃(a:Nat) (av bv:Value),Nat.gcd a m=Nat.gcd A B/\(ds ZF a).length<=2*WU/\(ds ZF m).length<=2*WU/\Sl s'.H av (ds ZF a)/\Sl s'.H bv (ds ZF m)/\s'.tm.get 0=some av/\s'.tm.get 1=some bv) ?_ B _ ⟨rfl,.refl H,A,va,vb,rfl,lA,lB,ha,hb,by simp,by simp⟩;rintro m ⟨k,tm,H3⟩ ⟨hk,k3,a,av,bv,hg,la,lm,oa,ob,t0,t1⟩ Q' Y4;simp only at hk k3 oa ob t0 t1;subst hk;have z:=Sy ob;apply Zh;intro b3 Z9;apply Zb;intro b4 Yz;simp[t1,z];subst Yz;by_cases hm:m=0;·refine Za (t:=false) (by simp[hm]) ?_;apply YP;apply Y4;left;refine⟨rfl,?_⟩;subst hm;rw[Nat.gcd_zero_right]at hg;subst Ze;apply Zb;intro b4 Yz;simp[t0];subst Yz;apply Zu;simp;rw[<-hg];exact⟨k3,oa⟩
 ·refine Za (t:=true) (by simp[hm]) ?_;apply Zr;subst Z9;obtain⟨q,r,H4,c4,k4,oq,uj⟩:=Rt oa ob la lm (by omega);apply ZS;apply Zb;intro b3 Z9;simp[t0,t1,c4];subst Z9;apply Zk;simp[t1];apply Y4;refine⟨a%m,Nat.mod_lt _ (by omega),rfl,k3.trans k4,m,bv,r,?_,lm,Nat.le_trans (Ux two32 (Nat.mod_le a m)) la,ob.keep k4,uj.sl,by simp,by simp⟩;rw[<-hg,Nat.gcd_comm a m,Nat.gcd_rec m a,Nat.gcd_comm]
theorem GA{H:AH}{v:Value}{xs:List Nat}(h:Sl H v xs)(dx:YG Zc xs)(hl:xs.length<=WU): ∃v' H',ZY Tryz.prog Zy 17 [v] H=some (v',H')/\Zg H H'/\Ym H.n H' v' (ds ZF (dv Zc xs))/\(ds ZF (dv Zc xs)).length<=2*WU:=by
 obtain⟨v',H',hc,k,o⟩:=nO h dx (Nat.le_trans hl (by decide));refine⟨v',H',hc,k,o,?_⟩;have h1:dv Zc xs<ZF^(2*xs.length):=by have:=X3 (O1 dx);rwa[MT,Qm]at this
 have:=XB two32 h1;have hl:xs.length<=2000000000000:=hl;show _<=2*2000000000000;omega
end
inductive RT where|node(op:Int)(neg:Bool)(N D:Nat)(bad:Bool)(args:List RT)
mutual def RT.nodes:RT->Nat| .node _ _ _ _ _ args=>1+Tm args def Tm:List RT->Nat|[]=>0|t::ts=>t.nodes+Tm ts end
mutual def RT.depth:RT->Nat| .node _ _ _ _ _ args=>HS args+1 def HS:List RT->Nat|[]=>0|t::ts=>max t.depth (HS ts) end
def Zah(op:Int)(bad:Bool)(n:Nat):Bool:=!bad&&decide (0<=op/\op<16/\n=arity op.toNat)
mutual def RT.right:RT->Bool| .node op _ _ _ bad args=>Zah op bad args.length&&HP args def HP:List RT->Bool|[]=>true|t::ts=>t.right&&HP ts end
mutual def RT.fit:RT->Prop| .node _ _ N D _ args=>Zm N<=67108864/\Zm D<=67108864/\ai args def ai:List RT->Prop|[]=>True|t::ts=>t.fit/\ai ts end
def Z6(neg:Bool)(n d:Nat):Bool×Nat×Nat:=if n=0 then(false,0,1)else(neg,n/Nat.gcd n d,d/Nat.gcd n d)
def VV(op:Int)(neg:Bool)(abs den:List Nat):(Bool×Nat×Nat)×Bool:=if op=0 then(if dv Zc den=0 then((false,0,0),true)else(Z6 neg (dv Zc abs) (dv Zc den),false))else((false,0,0),neg||decide (0<abs.length)||decide (0<den.length))
mutual def ET.ref:ET->RT| .node op neg abs den args=> .node op (VV op neg abs den).1.1 (VV op neg abs den).1.2.1 (VV op neg abs den).1.2.2 (VV op neg abs den).2 (Ub args) def Ub:List ET->List RT|[]=>[]|t::ts=>t.ref::Ub ts end
theorem Qy(l:List ET):Ub l=l.map ET.ref:=by induction l with|nil=>rfl|cons x xs ih=>simp[Ub,ih]
theorem JQ(l:List ET):(Ub l).length=l.length:=by rw[Qy];simp
theorem JM(t:RT):0<t.nodes:=by cases t;simp only[RT.nodes];omega
theorem OO{xs:List RT}{i:Nat}{t:RT}(hi:xs[i]?=some t):t.nodes<=Tm xs:=by induction xs generalizing i with
 |nil=>simp at hi
 |cons x xs ih=>cases i with|zero=>simp at hi;subst hi;simp[Tm]|succ i=>simp at hi;have:=ih hi;simp only[Tm];omega
theorem cK: ∀n(t:ET),t.nodes<=n->t.ref.nodes=t.nodes:=by intro n;induction n with
 |zero=>intro t h;have:=Wg t;omega
 |succ n ih=>
  intro t h;obtain⟨op,neg,abs,den,args⟩:=t;simp only[ET.nodes]at h;simp only[ET.ref,RT.nodes,ET.nodes];have key: ∀l:List ET,Yp l<=n->Tm (Ub l)=Yp l:=by intro l;induction l with|nil=>intro _;rfl|cons x xs tY=>intro hl;simp only[Yp]at hl;simp only[Ub,Tm,Yp];rw[ih x (by omega),tY (by omega)]
  rw[key args (by omega)]
theorem ZE{n m:Nat}(h:n<=m):Zm n<=Zm m:=by
 rcases Nat.eq_zero_or_pos n with h0|h0;·subst h0;exact Nat.zero_le _
 ·have h1:=W1 (n:=n) (by omega);have h2:=Wq m;have:=(Nat.pow_lt_pow_iff_right (a:=2) (by decide)).mp (Nat.lt_of_le_of_lt (Nat.le_trans h1 h) h2);omega
def rf(Q:Nat->Prop)(H:AH)(v:Value)(xs:List Nat):Prop:=Sl H v xs/\ ∀c,YJ v=some c->Q c
def uE(Q:Nat->Prop)(H H':AH):Prop:=H.n<=H'.n/\ ∀j,Q j->j<H.n->H'.blk j=H.blk j
theorem Sl.agr{Q:Nat->Prop}{H H':AH}{v:Value}{xs:List Nat}(h:Sl H v xs)(hq: ∀c,YJ v=some c->Q c)(k:uE Q H H'):Sl H' v xs:=by cases h with|nil=>exact .nil|emp b=>exact .emp b|mk b o cap xs h1 h2=>obtain⟨h3,cs,h4,h5,h6⟩:=h2;have e:=k.2 b (hq b rfl) h3;exact .mk b o cap xs h1 ⟨Nat.lt_of_lt_of_le h3 k.1,cs,by unfold AH.cells;rw[e];exact h4,by unfold AH.size;rw[e];exact h5,h6⟩
mutual inductive Rx(Q:Nat->Prop)(H:AH):List Value->RT->Prop|mk{op:Int}{neg bad:Bool}{vn vd vx:Value}{N D:Nat}{args:List RT} :rf Q H vn (ds ZF N)->rf Q H vd (ds ZF D)->kl Q H vx args->Rx Q H [.int .i64 op,.bool neg,vn,vd,.bool bad,vx] (.node op neg N D bad args) inductive kl(Q:Nat->Prop)(H:AH):Value->List RT->Prop|nil:kl Q H (.slice none 0 0) []|mk(b cap:Nat){cs:List Value}{args:List RT} :Q b->b<H.n->H.blk b= .rw 6 cs->args.length<=cap->(∀(i:Nat)(t:RT),args[i]?=some t->Rx Q H ((cs.drop (i*6)).take 6) t)->kl Q H (.slice (some ⟨b,0,none⟩) args.length cap) args end
theorem jU{Q Q':Nat->Prop}{H H':AH}(k:uE Q H H')(hQ: ∀j,j<H.n->Q j->Q' j): ∀n(t:RT),t.nodes<=n-> ∀vs,Rx Q H vs t->Rx Q' H' vs t:=by intro n;induction n with
 |zero=>intro t h;have:=JM t;omega
 |succ n ih=>intro t h vs hx;cases hx with
  |mk h1 h2 h3=>simp only[RT.nodes]at h;refine .mk ⟨h1.1.agr h1.2 k,fun c hc=>hQ c (h1.1.blk_lt hc) (h1.2 c hc)⟩ ⟨h2.1.agr h2.2 k,fun c hc=>hQ c (h2.1.blk_lt hc) (h2.2 c hc)⟩ ?_;cases h3 with
   |nil=>exact .nil
   |mk b cap hq hb hc hl hf=>
    rename_i cs;refine .mk b cap (cs:=cs) (hQ b hb hq) (Nat.lt_of_lt_of_le hb k.1) ?_ hl fun i t hi=>?_;·rw[k.2 b hq hb];exact hc
    ·have:=OO hi;exact ih t (by omega) _ (hf i t hi)
theorem Rx.agr{Q Q':Nat->Prop}{H H':AH}{vs:List Value}{t:RT}(h:Rx Q H vs t)(k:uE Q H H')(hQ: ∀j,j<H.n->Q j->Q' j):Rx Q' H' vs t:=jU k hQ _ t (Nat.le_refl _) vs h
theorem Zg.agr{H H':AH}(k:Zg H H')(Q:Nat->Prop):uE Q H H':=⟨k.n,fun j _ hj=>k.blk j hj⟩
theorem Rx.keep{Q:Nat->Prop}{H H':AH}{vs:List Value}{t:RT}(h:Rx Q H vs t)(k:Zg H H'):Rx Q H' vs t:=h.agr (k.agr Q) fun _ _ h=>h
theorem Rx.len{Q:Nat->Prop}{H:AH}{vs:List Value}{t:RT}(h:Rx Q H vs t):vs.length=6:=by cases h;rfl
theorem Sl.one1{H:AH}{v:Value}{xs:List Nat}(h:Sl H v xs):one v=true:=by cases h<;>rfl
theorem kl.one1{Q:Nat->Prop}{H:AH}{v:Value}{l:List RT}(h:kl Q H v l):one v=true:=by cases h<;>rfl
theorem Rx.ones{Q:Nat->Prop}{H:AH}{vs:List Value}{t:RT}(h:Rx Q H vs t):vs.all one=true:=by cases h with|mk h1 h2 h3=>simp only[List.all_cons,List.all_nil,h1.1.one1,h2.1.one1,h3.one1,Bool.and_true];rfl
theorem aE:Xx Tryz.prog 68=some true:=by kernel_rfl
theorem sE:Xk Tryz.prog 68=some 6:=by kernel_rfl
theorem aEs:Xx Tryz.prog 66=some false:=by kernel_rfl
theorem lV:Xx Tryz.prog 37=some false:=by kernel_rfl
theorem zE:WA Tryz.prog 68=some (.agg #[.int .i64 0,.bool false,.slice none 0 0,.slice none 0 0,.bool false,.slice none 0 0]):=by kernel_rfl
theorem uEs:Tryz.prog.underlying 66=some (.slice 68):=by kernel_rfl
theorem sEs:WO Tryz.prog 66=some (68,6,96):=by kernel_rfl
theorem kl.len{Q:Nat->Prop}{H:AH}{v:Value}{args:List RT}(h:kl Q H v args):QE Tryz.prog 66 v=some args.length:=by unfold QE;rw[uEs];cases h<;>rfl
theorem Be{H:AH}{b o:Nat}{cs vs:List Value}(h:H.cells b=some cs)(hk:(cs.drop o).take 6=vs)(hl:vs.length=6):Z4 Tryz.prog H 68 (.pointer (some ⟨b,o,none⟩))=some (.agg vs.toArray):=by
 unfold Z4;simp only[aE,sE,AH.read_def,h];have:o+6<=cs.length:=by have:=congrArg List.length hk;rw[List.length_take,List.length_drop,hl]at this;omega
 rw[Nat.ble_eq.mpr this,cond_true,hk]
theorem kl.at{Q:Nat->Prop}{H:AH}{v:Value}{args:List RT}(h:kl Q H v args){i:Nat}{t:RT}(hi:args[i]?=some t): ∃(p:Value) (vs:List Value),Yj Tryz.prog 66 v (.int .i64 (i:Int))=some p/\(∀H',Zg H H'->Z4 Tryz.prog H' 68 p=some (.agg vs.toArray))/\Rx Q H vs t:=by
 have YW:i<args.length:=by
  rcases Nat.lt_or_ge i args.length with h'|h';·exact h'
  ·rw[List.getElem?_eq_none h']at hi;cases hi
 cases h with
  |nil=>simp at hi
  |mk b cap hq hb hc hl hf=>
   rename_i cs;have hE:=hf i t hi;have Mn:H.cells b=some cs:=by unfold AH.cells;rw[hc]
   refine⟨.pointer (some ⟨b,i*6,none⟩),_,?_,fun H' k=>Be ((VS k hb).trans Mn) rfl hE.len,hE⟩;unfold Yj;simp only[uEs,sE];rw[if_pos (by omega)];simp
theorem feOp(b o:Nat):Yc Tryz.prog 68 (.pointer (some ⟨b,o,none⟩)) 0=some (.pointer (some ⟨b,o,none⟩)):=by kernel_rfl
theorem pJ(b o:Nat):Yc Tryz.prog 68 (.pointer (some ⟨b,o,none⟩)) 1=some (.pointer (some ⟨b,o+1,none⟩)):=by kernel_rfl
theorem Aq(b o:Nat):Yc Tryz.prog 68 (.pointer (some ⟨b,o,none⟩)) 2=some (.pointer (some ⟨b,o+4,none⟩)):=by kernel_rfl
theorem Gw(b o:Nat):Yc Tryz.prog 68 (.pointer (some ⟨b,o,none⟩)) 3=some (.pointer (some ⟨b,o+5,none⟩)):=by kernel_rfl
theorem feN(b o:Nat):Yc Tryz.prog 42 (.pointer (some ⟨b,o,none⟩)) 1=some (.pointer (some ⟨b,o+1,none⟩)):=by kernel_rfl
theorem feD(b o:Nat):Yc Tryz.prog 42 (.pointer (some ⟨b,o,none⟩)) 2=some (.pointer (some ⟨b,o+2,none⟩)):=by kernel_rfl
theorem Sl.shape{H:AH}{v:Value}{xs:List Nat}(h:Sl H v xs): ∃a l c,v= .slice a l c:=by cases h<;>exact⟨_,_,_,rfl⟩
theorem Ym.shape{n:Nat}{H:AH}{v:Value}{xs:List Nat}(h:Ym n H v xs): ∃a l c,v= .slice a l c:=h.sl.shape
theorem l7(a:Option Addr)(l c:Nat):Wi Tryz.prog 42 [(2,.slice a l c)]=some (.agg #[.bool false,.slice none 0 0,.slice a l c]):=by kernel_rfl
theorem Ac(n:Bool)(a a':Option Addr)(l c l' c':Nat):Wi Tryz.prog 42 [(0,.bool n),(1,.slice a l c),(2,.slice a' l' c')]=some (.agg #[.bool n,.slice a l c,.slice a' l' c']):=by kernel_rfl
theorem zR:WA Tryz.prog 42=some (.agg #[.bool false,.slice none 0 0,.slice none 0 0]):=by kernel_rfl
theorem sR:Xk Tryz.prog 42=some 3:=by kernel_rfl
theorem aR:Xx Tryz.prog 42=some true:=by kernel_rfl
theorem Bf{H:AH}{b o:Nat}{cs vs:List Value}(h:H.cells b=some cs)(hk:(cs.drop o).take 3=vs)(hl:vs.length=3):Z4 Tryz.prog H 42 (.pointer (some ⟨b,o,none⟩))=some (.agg vs.toArray):=by
 unfold Z4;simp only[aR,sR,AH.read_def,h];have:o+3<=cs.length:=by have:=congrArg List.length hk;rw[List.length_take,List.length_drop,hl]at this;omega
 rw[Nat.ble_eq.mpr this,cond_true,hk]
theorem WE{H:AH}{sz:Nat}{cs ws:List Value}{t:TypeId}{n b o:Nat}(ht:Xk Tryz.prog t=some n)(hb:H.blk b= .rw sz cs){v:Value}(hv:v.cells.toList=ws)(hw:ws.length=n)(ho:o+n<=cs.length)(h1:ws.all one=true)(zp:sz≠0:=by decide): ∃H',YZ Tryz.prog H t (.pointer (some ⟨b,o,none⟩)) v=some H'/\H'.blk b= .rw sz (cs.take o++ws++cs.drop (o+n))/\H'.n=H.n/\(∀j,j≠b->H'.blk j=H.blk j)/\UR b H H'/\H'.lw=min H.lw b:=by
 obtain⟨sz,rfl⟩: ∃k,sz=k+1:=⟨sz-1,by omega⟩;have hs:v.cells.size=n:=by rw[<-hw,<-hv];simp
 have hle:Nat.ble (o+n) cs.length=true:=Nat.ble_eq.mpr ho;refine⟨{ n:=H.n,lw:=min H.lw b,t:=H.t.set b (.rw (sz+1) (cs.take o++ws++cs.drop (o+n))) },?_,?_,rfl,fun j hj=>?_,fun H0 k hn=>⟨k.n,?_,fun j hj=>?_⟩,rfl⟩;·unfold YZ;simp only[ht,hs,hv];rw[show Nat.beq n n=true from by simp,cond_true,AH.write_def,hb];simp only[hw,hle,h1,Bool.and_self,cond_true]
 ·unfold AH.blk;simp only[Tr.get_set,if_true]
 ·unfold AH.blk;simp only[Tr.get_set];rw[if_neg hj]
 ·have:=k.lw;show min H0.lw H0.n<=min H.lw b;omega
 ·unfold AH.blk;simp only[Tr.get_set];rw[if_neg (by omega)];exact k.blk j hj
section
variable {H : AH} {va vb vm : Value}
theorem TP(x:Nat)(hx:x<Zc): ∃v H',ZY Tryz.prog Zy 62 [.int .i64 (x:Int)] H=some (v,H')/\Zg H H'/\Ym H.n H' v (ds ZF x)/\(ds ZF x).length<=2*WU:=by
 obtain⟨v1,H1,c1,k1,o1⟩:=Q8 H Yl x;obtain⟨v2,H2,c2,k2,o2,l2⟩:=GA o1.sl (dig1 hx) (show 1<=2000000000000 by decide);rw[dv1]at o2 l2;suffices hs:CW Tryz.prog Zy 62 [.int .i64 (x:Int)] H fun v H'=>v=v2/\H'=H2 by obtain⟨_,_,hc,rfl,rfl⟩:=hs;exact⟨_,_,hc,k1.trans k2,o2.mono k1.n (.refl _),l2⟩
 refine Z8 7 Tryz.func62 ?_;apply Zb;intro b1 Ze;simp;subst Ze;apply Zb;intro b1 Ze;simp[PF hx,c1,c2];subst Ze;apply Zu;simp
def LO(n:Nat)(H:AH)(us:List Value)(r:Bool×Nat×Nat):Prop:= ∃a b,us=[.bool r.1,a,b]/\Ym n H a (ds ZF r.2.1)/\Ym n H b (ds ZF r.2.2)
theorem P6{vn vd:Value}{N D:Nat}(neg:Bool)(hn:Sl H vn (ds ZF N))(hd:Sl H vd (ds ZF D))(lN:(ds ZF N).length<=2*WU)(lD:(ds ZF D).length<=2*WU)(h0:0<D): ∃us H',ZY Tryz.prog Zy 22 [.bool neg,vn,vd] H=some (.agg us.toArray,H')/\Zg H H'/\LO H.n H' us (Z6 neg N D):=by
 suffices hs:CW Tryz.prog Zy 22 [.bool neg,vn,vd] H fun v H'=> ∃us:List Value,v= .agg us.toArray/\Zg H H'/\LO H.n H' us (Z6 neg N D) by obtain⟨_,H',hc,us,rfl,h⟩:=hs;exact⟨us,H',hc,h⟩
 obtain⟨r,hr⟩:=hid (Z6 neg N D);rw[<-hr];unfold Z6 at hr;refine Z8 31 Tryz.func22 ?_;have kB:=Zg.new H 1 [.bool false,.slice none 0 0,.slice none 0 0];have bB:(H.new 1 [.bool false,.slice none 0 0,.slice none 0 0]).blk H.n= .rw 1 [.bool false,.slice none 0 0,.slice none 0 0]:=by rw[AH.blk_new,if_pos rfl]
 have nB:(H.new 1 [.bool false,.slice none 0 0,.slice none 0 0]).n=H.n+1:=rfl;obtain⟨HB,bg⟩:=hid (H.new 1 [.bool false,.slice none 0 0,.slice none 0 0]);rw[<-bg]at kB bB nB;have z:=Sy (hn.keep kB);apply Zb;intro b1 Ze;simp[zR,Value.cells,<-bg];subst Ze;apply Zh;intro b1 Ze;apply Zb;intro b2 Zx;simp[z];subst Zx;by_cases hN:N=0;·refine Za (t:=true) (by simp[hN]) ?_;rw[if_pos hN]at hr;obtain⟨v1,H1,c1,k1,o1,_⟩:=TP (H:=HB) 1 (by decide);obtain⟨x,l,c,rfl⟩:=o1.shape;obtain⟨H2,st,blk,n2,Fx,ka,_⟩:=WE (H:=H1) (b:=H.n) (cs:=[.bool false,.slice none 0 0,.slice none 0 0]) (sz:=1) (o:=0) sR (by rw[k1.blk _ (by omega)];exact bB) (v:= .agg #[.bool false,.slice none 0 0,.slice x l c]) (ws:=[.bool false,.slice none 0 0,.slice x l c]) rfl rfl (by simp) rfl;have c1:ZY Tryz.prog Zy 62 [.int .i64 1] HB=some (.slice x l c,H1):=c1;apply Zb;intro b1 Ze;simp[c1,l7,st];subst Ze;apply Zu;have ld:Z4 Tryz.prog H2 42 (.pointer (some ⟨H.n,0,none⟩))=some (.agg #[.bool false,.slice none 0 0,.slice x l c]):=Bf (vs:=[.bool false,.slice none 0 0,.slice x l c]) (by unfold AH.cells;rw[blk]) rfl rfl;simp[Yx,ld];refine⟨ka H (kB.trans k1) (Nat.le_refl _),_,_,by rw[hr],by rw[hr,XY];exact .nil,?_⟩;rw[hr];exact(o1.mono (m:=H.n) (by omega) (.refl _)).but (b:=some H.n) ⟨n2,fun j _ hj=>Fx j (fun e=>hj (by rw[e]))⟩ fun c' e h=>by cases e;have:=o1.blk_lo h;omega
 ·refine Za (t:=false) (by simp[hN]) ?_;rw[if_neg hN]at hr;apply Zr;subst Ze;obtain⟨_,H1,c1,k1,s1⟩:=Dq (hn.keep kB) (hd.keep kB) lN lD;obtain⟨g,hg⟩:=hid (Nat.gcd N D);rw[<-hg]at s1 hr;have g0:0<g:=by rw[hg];exact Nat.gcd_pos_of_pos_right _ h0
  have gl:(ds ZF g).length<=2*WU:=Nat.le_trans (Ux two32 (by rw[hg];exact Nat.le_of_dvd h0 (Nat.gcd_dvd_right N D))) lD;obtain⟨q1,r1,H2,c2,k2,o2,_⟩:=Rt (hn.keep (kB.trans k1)) s1 lN gl g0;obtain⟨q2,r2,H3,c3,k3,o3,_⟩:=Rt (hd.keep ((kB.trans k1).trans k2)) (s1.keep k2) lD gl g0;have n1:=k1.n;have n2:=k2.n;obtain⟨x,l,c,rfl⟩:=o2.shape;obtain⟨x',l',c',rfl⟩:=o3.shape;obtain⟨H4,st,blk,n4,Fx,ka,_⟩:=WE (H:=H3) (b:=H.n) (cs:=[.bool false,.slice none 0 0,.slice none 0 0]) (sz:=1) (o:=0) sR (by rw[k3.blk _ (by omega),k2.blk _ (by omega),k1.blk _ (by omega)];exact bB) (v:= .agg #[.bool neg,.slice x l c,.slice x' l' c']) (ws:=[.bool neg,.slice x l c,.slice x' l' c']) rfl rfl (by simp) rfl;apply Zb;intro b1 Ze;simp[c1];subst Ze;apply Zb;intro b1 Ze;simp[c2];subst Ze;apply Zb;intro b1 Ze;simp[c3];subst Ze;apply Zb;intro b1 Ze;simp[Ac,st];subst Ze;apply Zu;have ld:Z4 Tryz.prog H4 42 (.pointer (some ⟨H.n,0,none⟩))=some (.agg #[.bool neg,.slice x l c,.slice x' l' c']):=Bf (vs:=[.bool neg,.slice x l c,.slice x' l' c']) (by unfold AH.cells;rw[blk]) rfl rfl;simp[ld];have bt:T0 (some H.n) H3 H4:=⟨n4,fun j _ hj=>Fx j (fun e=>hj (by rw[e]))⟩;refine⟨ka H (((kB.trans k1).trans k2).trans k3) (Nat.le_refl _),_,_,by rw[hr],?_,?_⟩;·rw[hr];exact(o2.mono (m:=H.n) (by omega) k3).but bt fun c' e h=>by cases e;have:=o2.blk_lo h;omega
  ·rw[hr];exact(o3.mono (m:=H.n) (by omega) (.refl _)).but bt fun c' e h=>by cases e;have:=o3.blk_lo h;omega
end
theorem BN{α:Type}{l:List α}{i:Nat}{x:α}(hx:l[i]?=some x):l.take (i+1)=l.take i++[x]:=by rw[List.take_add_one,hx];rfl
theorem Rq{x y:Int} :Zd .neq .i64 x y=some (.bool (decide (x≠y))):=by
 show some (Value.bool (x !=y))=_;congr 2;by_cases h:x=y;·subst h;simp
 ·rw[decide_eq_true h];simp[bne];omega
section
variable {Q : Nat -> Prop}
end
section
variable {Q : Nat -> Prop}
section
variable {H : AH} {vs : List Value} {t : RT}
end
end
theorem bE(op:Int):Wi Tryz.prog 68 [(0,.int .i64 op)]=some (.agg #[.int .i64 op,.bool false,.slice none 0 0,.slice none 0 0,.bool false,.slice none 0 0]):=by kernel_rfl
theorem sB:Xk Tryz.prog 4=some 1:=by kernel_rfl
theorem sEsl:Xk Tryz.prog 66=some 1:=by kernel_rfl
theorem bEs(H:AH)(v0 v1 v2 v3 v4 v5:Value):YX Tryz.prog H 66 1 [(0,.agg #[v0,v1,v2,v3,v4,v5])]=some (.slice (some ⟨H.n,0,none⟩) 1 1,H.new 6 [v0,v1,v2,v3,v4,v5]):=by unfold YX;simp only[sEs,zE];kernel_rfl
theorem AM{n0 b:Nat}{H:AH}{sz:Nat}{cs:List Value}(h:n0<=b):UR n0 H ((H.kill b).new sz cs):=fun H0 k Sw=>by
 have:=k.n;have eH:(H.kill b).n=H.n:=rfl;refine⟨by show H0.n<=H.n+1;omega,?_,fun j hj=>?_⟩;·have:=k.lw;show min H0.lw H0.n<=min H.lw b;omega
 ·rw[AH.blk_new,if_neg (by rw[eH];omega),AH.blk_kill,if_neg (by omega)];exact k.blk j hj
theorem NG{n0:Nat}{H H2:AH}(h:UR n0 H.top H2):UR n0 H (low H H2):=iD h
theorem WR{x y:Int} :Zd .eql .i64 x y=some (.bool (decide (x=y))):=by show some (Value.bool (x==y))=_;rfl
def OL(nh:Nat)(H:AH)(xv:Value)(l:List RT):Prop:=(xv= .slice none 0 0/\l=[])\/ ∃b cs,xv= .slice (some ⟨b,0,none⟩) l.length l.length/\nh<=b/\b<H.n/\H.blk b= .rw 6 cs/\cs.length=l.length*6/\ ∀(j:Nat)(u:RT),l[j]?=some u->Rx (fun j=>nh<=j/\j≠b) H ((cs.drop (j*6)).take 6) u
theorem OL.one1{nh:Nat}{H:AH}{xv:Value}{l:List RT}(h:OL nh H xv l):one xv=true/\xv.cells.toList=[xv]:=by rcases h with⟨rfl,_⟩|⟨b,cs,rfl,_⟩<;>exact⟨rfl,rfl⟩
theorem OL.append{nh:Nat}{H:AH}{xv:Value}{l:List RT}(h:OL nh H xv l)(hn:nh<=H.n){w:Nat}(hw:nh<=w)(hwn:w<H.n){us:List Value}{x:RT}(hb:H.blk w= .rw 6 us)(hx:Rx (fun j=>nh<=j) H us x)(hl:l.length<1000000000)(AP: ∀b,YJ xv=some b->Rx (fun j=>nh<=j/\j≠b) H us x/\b≠w): ∃H',Wp Tryz.prog H 66 66 xv (.slice (some ⟨w,0,none⟩) 1 1)=some (.slice (some ⟨H.n,0,none⟩) (l.length+1) (l.length+1),H')/\H'.n=H.n+1/\UR nh H H'/\(∀j,j<H.n->YJ xv≠some j->H'.blk j=H.blk j)/\OL nh H' (.slice (some ⟨H.n,0,none⟩) (l.length+1) (l.length+1)) (l++[x])/\(YJ xv=none->H'.lw=H.lw)/\(∀b,YJ xv=some b->H'.lw<=b/\b<H.n):=by
 have hul:=hx.len;have huo:=hx.ones;have hc:H.read w 0 6=some us:=by
  rw[AH.read_def];have:H.cells w=some us:=by unfold AH.cells;rw[hb]
  simp only[this,Nat.zero_add];rw[Nat.ble_eq.mpr (by omega),cond_true,List.drop_zero,List.take_of_length_le (by omega)]
 rcases h with⟨rfl,rfl⟩|⟨b,cs,rfl,Ze,Zx,Z9,Yz,SP⟩
 ·refine⟨H.new 6 us,?_,rfl,(Zg.new H 6 us).kat nh,fun j hj _=>?_,.inr ⟨H.n,us,rfl,hn,Nat.lt_succ_self _,by rw[AH.blk_new,if_pos rfl],by simp[hul],fun j u hu=>?_⟩,fun _=>rfl,fun b hb=>by cases hb⟩;·unfold Wp;simp only[sEs,zE,Wm,hc];rfl
  ·rw[AH.blk_new,if_neg (by omega)]
  ·match j,hu with|0,hu=>cases hu;rw[Nat.zero_mul,List.drop_zero,List.take_of_length_le (by omega)];exact hx.agr ⟨Nat.le_succ _,fun j _ hj=>by rw[AH.blk_new,if_neg (by omega)]⟩ fun j hj hq=>⟨hq,by omega⟩
 ·obtain⟨hxq,mX⟩:=AP b rfl;have eH:(H.kill b).n=H.n:=rfl;have e1:Nat.ble ((l.length+1)*96) 140737488355328=true:=Nat.ble_eq.mpr (by omega);have e2:Nat.ble (l.length+1) 281474976710656=true:=Nat.ble_eq.mpr (by omega);have e3:Nat.ble (0+l.length*6) cs.length=true:=Nat.ble_eq.mpr (by omega);have Fx: ∀j,j<H.n->j≠b->((H.kill b).new 6 (cs++us)).blk j=H.blk j:=fun j hj gT=>by rw[AH.blk_new,if_neg (by rw[eH];omega),AH.blk_kill,if_neg gT]
  refine⟨(H.kill b).new 6 (cs++us),?_,rfl,AM Ze,fun j hj gT=>Fx j hj (fun e=>gT (by rw[e];rfl)),.inr ⟨H.n,cs++us,by simp,hn,Nat.lt_succ_self _,by rw[AH.blk_new,if_pos eH.symm],by simp[hul,Yz];omega,fun j u hu=>?_⟩,(fun h=>by cases h),(fun b' Wk=>by cases Wk;exact⟨Nat.min_le_right _ _,Zx⟩)⟩;·unfold Wp;simp only[sEs,zE,Wm,hc,Z9,e1,e2,e3,huo];rw[List.drop_zero,List.take_of_length_le (by omega)];rfl
  ·rw[List.getElem?_append]at hu;split at hu
   ·rename_i hj;have:((cs++us).drop (j*6)).take 6=(cs.drop (j*6)).take 6:=by rw[List.drop_append_of_le_length (by omega),List.take_append_of_le_length (by rw[List.length_drop];omega)]
    rw[this];exact(SP j u hu).agr ⟨Nat.le_succ _,fun i hi Ij=>Fx i Ij hi.2⟩ fun i Ij hi=>⟨hi.1,by omega⟩
   ·rename_i hj;obtain rfl:j=l.length:=by have:=List.getElem?_eq_some_iff.mp hu;obtain⟨h,_⟩:=this;simp at h;omega
    simp at hu;subst hu;have:((cs++us).drop (l.length*6)).take 6=us:=by rw[<-Yz,List.drop_left,List.take_of_length_le (by omega)]
    rw[this];exact hxq.agr ⟨Nat.le_succ _,fun i hi Ij=>Fx i Ij hi.2⟩ fun i Ij hi=>⟨hi.1,by omega⟩
theorem OL.agr{nh:Nat}{H H':AH}{xv:Value}{l:List RT}(h:OL nh H xv l)(hn:H.n<=H'.n)(k: ∀j,nh<=j->j<H.n->H'.blk j=H.blk j):OL nh H' xv l:=by
 rcases h with h|⟨b,cs,h1,h2,h3,h4,h5,h6⟩;·exact .inl h
 ·exact .inr ⟨b,cs,h1,h2,by omega,by rw[k b h2 h3];exact h4,h5,fun j u hu=>(h6 j u hu).agr ⟨hn,fun i hi Ij=>k i hi.1 Ij⟩ fun _ _ h=>h⟩
theorem OL.blk{nh:Nat}{H:AH}{xv:Value}{l:List RT}(h:OL nh H xv l){b:Nat}(hb:YJ xv=some b):nh<=b/\b<H.n:=by
 rcases h with⟨rfl,_⟩|⟨b',cs,rfl,h2,h3,_⟩;·cases hb
 ·cases hb;exact⟨h2,h3⟩
theorem OL.rxs{nh n0:Nat}(h0:n0<=nh){H:AH}{xv:Value}{l:List RT}(h:OL nh H xv l):kl (fun j=>n0<=j) H xv l:=by
 rcases h with⟨rfl,rfl⟩|⟨b,cs,rfl,h2,h3,h4,h5,h6⟩;·exact .nil
 ·exact .mk b l.length (cs:=cs) (by omega) h3 h4 (Nat.le_refl _) fun j u hu=>(h6 j u hu).agr ⟨Nat.le_refl _,fun _ _ _=>rfl⟩ fun i _ hi=>by have:=hi.1;omega
def eu(H:AH)(t:ET)(v:Value)(H':AH):Prop:=Zg H H'/\ ∃us:List Value,v= .agg us.toArray/\Rx (fun j=>H.n<=j) H' us t.ref
theorem aBs:Xx Tryz.prog 4=some false:=by kernel_rfl
structure HeadIs (H : AH) (vs : List Value) (op : Int) (r : (Bool × Nat × Nat) × Bool) (c nh : Nat) (vn vd : Value) (s : St) : Prop where
  k : s.k = 70
  keep : Zg H s.H
  hc : H.n + 2 <= c
  hcn : c < nh
  hn : nh = s.H.n
  blk : s.H.blk c = .rw 1 [.int .i64 op, .bool r.1.1, vn, vd, .bool r.2, .slice none 0 0]
  box : s.H.blk H.n = .rw 1 vs
  res : s.H.blk (H.n + 1) = .rw 1 [.int .i64 0, .bool false, .slice none 0 0, .slice none 0 0, .bool false, .slice none 0 0]
  sn : rf (fun j => H.n + 2 <= j /\ j ≠ c) s.H vn (ds ZF r.1.2.1)
  sd : rf (fun j => H.n + 2 <= j /\ j ≠ c) s.H vd (ds ZF r.1.2.2)
  t1 : s.tm.get 1 = some (.pointer (some ⟨H.n, 0, none⟩))
  t2 : s.tm.get 2 = some (.pointer (some ⟨H.n + 1, 0, none⟩))
  t5 : s.tm.get 5 = some (.pointer (some ⟨c, 0, none⟩))
theorem or3(a b c:Bool):(a||b||c)=(a||(b||c)):=Bool.or_assoc ..
theorem ar: ∀n(t:ET),t.nodes<=n-> ∀(H:AH)(vs:List Value),Ex H vs t->t.wide 1048576->t.nodes<=100000000->CW Tryz.prog Zy 30 [.agg vs.toArray] H (eu H t):=by intro n;induction n with
 |zero=>intro t h;have:=Wg t;omega
 |succ n ih=>intro t ht H vs hE hw hb;obtain⟨op,neg,abs,den,args⟩:=t;have hEk:=hE;obtain⟨la,ld,da,dd,ws⟩:=hw;simp only[ET.nodes]at ht hb;cases hEk with
  |@mk _ _ va vd vx _ _ _ h1 h2 h3=>
   unfold eu;simp only[ET.ref];obtain⟨r,hr⟩:=hid (VV op neg abs den);rw[<-hr];unfold VV at hr;refine Z8 70 Tryz.func30 ?_;obtain⟨vs,Jm⟩:=hid ([Value.int .i64 op,.bool neg,va,vd,vx]);obtain⟨zs,mE⟩:=hid ([Value.int .i64 0,.bool false,.slice none 0 0,.slice none 0 0,.bool false,.slice none 0 0]);have kB:=Zg.new H 1 vs;have cB:=Sx H 1 vs;have bB:(H.new 1 vs).blk H.n= .rw 1 vs:=by rw[AH.blk_new,if_pos rfl]
   have nB:(H.new 1 vs).n=H.n+1:=rfl;obtain⟨HB,bg⟩:=hid (H.new 1 vs);rw[<-bg]at kB cB bB nB;have kC:=Zg.new HB 1 zs;have bC:(HB.new 1 zs).blk HB.n= .rw 1 zs:=by rw[AH.blk_new,if_pos rfl]
   have nC:(HB.new 1 zs).n=H.n+2:=by show HB.n+1=_;omega
   obtain⟨H1,hH1⟩:=hid (HB.new 1 zs);rw[<-hH1]at kC bC nC;rw[nB]at bC;have bB1:H1.blk H.n= .rw 1 vs:=by rw[kC.blk _ (by omega)];exact bB
   have k1:=kB.trans kC;obtain⟨v1,H2,c1,k2,o1,l1⟩:=GA (H:=H1.top) ((h1.keep k1).top) da (by show _<=2000000000000;omega);obtain⟨G1,UO⟩:=hid (grown H1 H2);have WQ:Zg H1 G1:=by rw[UO];exact Yi (.refl H1) k2
   have kM:Ym H1.n G1 v1 (ds ZF (dv Zc abs)):=by rw[UO];exact o1.same (Yo k2)
   have n2:H1.n<=H2.n:=k2.n;have dH:G1.n=H2.n:=by rw[UO];rfl
   obtain⟨v2,H3,c2,k3,o2,l2⟩:=GA (H:=G1.top) ((h2.keep (k1.trans WQ)).top) dd (by show _<=2000000000000;omega);obtain⟨G2,LK⟩:=hid (grown G1 H3);have J7:Zg G1 G2:=by rw[LK];exact Yi (.refl G1) k3
   have uf:Ym G1.n G2 v2 (ds ZF (dv Zc den)):=by rw[LK];exact o2.same (Yo k3)
   have n3:G1.n<=H3.n:=k3.n;have nG2:G2.n=H3.n:=by rw[LK];rfl
   have box: ∀{H':AH}(k:Zg H1 H'),H'.cells H.n=some vs:=fun k=>by unfold AH.cells;rw[k.blk _ (by omega),bB1]
   have a2:Z4 Tryz.prog H1.top 30 (.pointer (some ⟨H.n,2,none⟩))=some va:=Yb KY (box (R0 H1)) (by rw[Jm];rfl);have a3: ∀bits ms,(∀x∈ms,H1.n<=x.2.1)->Z4 Tryz.prog (RP G1 bits ms) 30 (.pointer (some ⟨H.n,3,none⟩))=some vd:=fun bits ms h=>Yb KY (box (Y1 WQ h)) (by rw[Jm];rfl);apply Zb;intro b1 Ze;simp[Value.cells,zE,<-Jm,<-mE,<-bg,<-hH1];subst Ze;apply Zh;intro b1 Ze;apply YI (by kernel_rfl);simp[Pj,ky,Ld];refine Z0 (v:=va) rfl rfl rfl (by rw[ZG rfl];simp[a2]) ?_;simp;refine YU (v:=v1) (H2:=H2) rfl rfl rfl (by rw[ZG rfl];simp[c1]) n2 (YO k2) ?_;rw[<-UO];generalize Pz:cond (Nat.blt H1.n H2.n) _ _=ms;have X8:=V8 Pz;simp[Pj,rT];refine Z0 (v:=vd) rfl rfl rfl (by simp[a3 _ ms fun x hx=>(X8 x hx).2]) ?_;simp;refine YU (v:=v2) (H2:=H3) rfl rfl rfl ?_ n3 (YO k3) ?_;·rw[ZG (Yr fun x hx=>by rw[(X8 x hx).1];kernel_rfl)];simp[c2]
   rw[<-LK];simp;rw[nB];subst Ze;have ir:=k1.trans (WQ.trans J7);have mA:=WQ.trans J7;have nH:=mA.n;obtain⟨H4,Wx,k4,Ib,n4⟩:=Y6 (H:=G2) (sz:=1) (zs:=zs) sE (by rw[mE];rfl) (v:= .agg #[.int .i64 op,.bool false,.slice none 0 0,.slice none 0 0,.bool false,.slice none 0 0]) (ws:=[.int .i64 op,.bool false,.slice none 0 0,.slice none 0 0,.bool false,.slice none 0 0]) rfl rfl rfl;have ld0:Z4 Tryz.prog G2 50 (.pointer (some ⟨H.n,0,none⟩))=some (.int .i64 op):=Yb aOp (box mA) (by rw[Jm];rfl);apply Zb;intro b1 Ze;simp[Ed,ld0,bE,zE,Value.cells,<-mE,Wx];subst Ze;have Ra:=mA.trans k4;have Rf:=k1.trans Ra;have o14:Ym H1.n H4 v1 (ds ZF (dv Zc abs)):=kM.mono (Nat.le_refl _) (J7.trans k4);have o24:Ym H1.n H4 v2 (ds ZF (dv Zc den)):=uf.mono (by have:=WQ.n;omega) k4;have ko: ∀c,YJ v1=some c->c<G2.n:=fun c hc=>(kM.m J7).blk_lo hc|>.2;have b24: ∀c,YJ v2=some c->c<G2.n:=fun c hc=>(uf.blk_lo hc).2;have ld4:Z4 Tryz.prog H4 50 (.pointer (some ⟨H.n,0,none⟩))=some (.int .i64 op):=Yb aOp (box Ra) (by rw[Jm];rfl);have iP:Z4 Tryz.prog H4 4 (.pointer (some ⟨H.n,1,none⟩))=some (.bool neg):=Yb aBs (box Ra) (by rw[Jm];rfl);have zQ:Z4 Tryz.prog H4 30 (.pointer (some ⟨H.n,2,none⟩))=some va:=Yb KY (box Ra) (by rw[Jm];rfl);have lde:Z4 Tryz.prog H4 30 (.pointer (some ⟨H.n,3,none⟩))=some vd:=Yb KY (box Ra) (by rw[Jm];rfl);have wE:H4.blk (H.n+1)= .rw 1 zs:=by rw[Ra.blk _ (by omega)];exact bC
   have wD:H4.blk H.n= .rw 1 vs:=by rw[Ra.blk _ (by omega)];exact bB1
   obtain⟨c,hc⟩:=hid (G2.n);rw[<-hc]at Ib n4 ko b24⊢;have hcn:H.n+2<=c:=by omega
   have e0:Zd .eql .i64 op 0=some (.bool (decide (op=0))):=WR;refine Y8 (fun s'=> ∃nh vn FZ,HeadIs H vs op r c nh vn FZ s') ?_ ?_
   ·intro Q' Y4;have fin: ∀(H5 H6:AH)(tm:Tr Value)(vn FZ:Value),Zg H4 H5->(∀j,j≠c->H6.blk j=H5.blk j)->H6.n=H5.n->UR c H5 H6->H6.blk c= .rw 1 [.int .i64 op,.bool r.1.1,vn,FZ,.bool r.2,.slice none 0 0]->rf (fun j=>H.n+2<=j/\j≠c) H5 vn (ds ZF r.1.2.1)->rf (fun j=>H.n+2<=j/\j≠c) H5 FZ (ds ZF r.1.2.2)->tm.get 1=some (.pointer (some ⟨H.n,0,none⟩))->tm.get 2=some (.pointer (some ⟨H.n+1,0,none⟩))->tm.get 5=some (.pointer (some ⟨c,0,none⟩))->Q' .norm ⟨70,tm,H6⟩:=fun H5 H6 tm vn FZ k5 Fx n6 ka bl sn sd t1 t2 t5=>by
     have n5:=k5.n;have ag:uE (fun j=>H.n+2<=j/\j≠c) H5 H6:=⟨Nat.le_of_eq n6.symm,fun j hj _=>Fx j hj.2⟩;refine Y4 _ ⟨H6.n,vn,FZ,rfl,ka H (Rf.trans k5) (by omega),hcn,by show c<H6.n;omega,rfl,bl,?_,?_,⟨sn.1.agr sn.2 ag,sn.2⟩,⟨sd.1.agr sd.2 ag,sd.2⟩,t1,t2,t5⟩;·show H6.blk H.n=_;rw[Fx _ (by omega),k5.blk _ (by omega)];exact wD
     ·show H6.blk (H.n+1)=_;rw[Fx _ (by omega),k5.blk _ (by omega),wE,mE]
    have nQ:rf (fun j=>H.n+2<=j/\j≠c) H4 (.slice none 0 0) (ds ZF 0):=⟨by rw[XY];exact .nil,fun b hb=>by cases hb⟩;apply Zb;intro b2 Zx;simp[Ed,ld4,e0];subst Zx;by_cases h0:op=0
    ·refine Za (t:=true) (by simp[h0]) ?_;rw[if_pos h0]at hr;have z:=Sy o24.sl;apply Zb;intro b2 Zx;simp[z];subst Zx;by_cases mU:dv Zc den=0;·refine Za (t:=true) (by simp[mU]) ?_;rw[if_pos mU]at hr;obtain⟨H5,Wo,Gk,n5,nN,WH,_⟩:=WE (b:=c) (o:=4) (v:= .bool true) (ws:=[.bool true]) sB Ib rfl rfl (by simp) rfl;apply Zk;simp[Aq,Wo];exact fin H4 H5 _ (.slice none 0 0) (.slice none 0 0) (.refl H4) nN n5 WH (by rw[Gk,hr];rfl) (by rw[hr];exact nQ) (by rw[hr];exact nQ) (by simp) (by simp) (by simp)
     ·refine Za (t:=false) (by simp[mU]) ?_;rw[if_neg mU]at hr;obtain⟨us,H5,c5,k5,Qw⟩:=P6 (H:=H4) neg o14.sl o24.sl l1 l2 (by omega);obtain⟨x,y,rfl,ox,oy⟩:=Qw;have n5:=k5.n;obtain⟨H6,Vp,lH,n6,oth6,V1,_⟩:=WE (H:=H5) (b:=c) (o:=1) (cs:=[.int .i64 op,.bool false,.slice none 0 0,.slice none 0 0,.bool false,.slice none 0 0]) (sz:=1) (v:= .agg #[.bool (Z6 neg (dv Zc abs) (dv Zc den)).1,x,y]) (ws:=[.bool (Z6 neg (dv Zc abs) (dv Zc den)).1,x,y]) sR (by rw[k5.blk _ (by omega)];exact Ib) rfl rfl (by simp) (by obtain⟨_,_,_,rfl⟩:=ox.shape;obtain⟨_,_,_,rfl⟩:=oy.shape;rfl);have c5:ZY Tryz.prog Zy 22 [.bool neg,v1,v2] H4=some (.agg #[.bool (Z6 neg (dv Zc abs) (dv Zc den)).1,x,y],H5):=c5;apply Zk;simp[Pj,ky,VY,iP,c5,pJ,Vp];exact fin H5 H6 _ x y k5 oth6 n6 V1 (by rw[lH,hr];rfl) (by rw[hr];exact⟨ox.sl,fun b hb=>by have:=(ox.blk_lo hb).1;exact⟨by omega,by omega⟩⟩) (by rw[hr];exact⟨oy.sl,fun b hb=>by have:=(oy.blk_lo hb).1;exact⟨by omega,by omega⟩⟩) (by simp) (by simp) (by simp)
    ·refine Za (t:=false) (by simp[h0]) ?_;rw[if_neg h0]at hr;have f1:Zd .gtr .i64 (abs.length:Int) 0=some (.bool (decide (0<abs.length))):=rL;have f2:Zd .gtr .i64 (den.length:Int) 0=some (.bool (decide (0<den.length))):=rL;have vC:=(h1.keep Rf).len Zv;have zP:=(h2.keep Rf).len Zv;obtain⟨R,hR⟩: ∃R:Bool,R=(neg||decide (0<abs.length)||decide (0<den.length)):=⟨_,rfl⟩;rw[<-hR]at hr;obtain⟨H5,Wo,Gk,n5,nN,WH,_⟩:=WE (b:=c) (o:=4) (v:= .bool R) (ws:=[.bool R]) sB Ib rfl rfl (by simp) rfl;have done: ∀tm:Tr Value,tm.get 1=some (.pointer (some ⟨H.n,0,none⟩))->tm.get 2=some (.pointer (some ⟨H.n+1,0,none⟩))->tm.get 5=some (.pointer (some ⟨c,0,none⟩))->Q' .norm ⟨70,tm,H5⟩:=fun tm t1 t2 t5=>fin H4 H5 tm (.slice none 0 0) (.slice none 0 0) (.refl H4) nN n5 WH (by rw[Gk,hr];rfl) (by rw[hr];exact nQ) (by rw[hr];exact nQ) t1 t2 t5;apply Zk;cases neg with
     |true=>rw[show R=true by rw[hR];simp]at Wo;simp[Pj,ky,VY,iP,Aq,Wo];exact done _ (by simp) (by simp) (by simp)
     |false=>
      by_cases g1:0<abs.length;·rw[decide_eq_true g1]at f1;rw[show R=true by rw[hR,decide_eq_true g1];simp]at Wo;simp[Pj,ky,VY,Ld,iP,zQ,vC,f1,Aq,Wo];exact done _ (by simp) (by simp) (by simp)
      ·rw[decide_eq_false g1]at f1 hR;rw[Bool.false_or,Bool.false_or]at hR;rw[<-hR]at f2;simp[Pj,ky,VY,Ld,rT,iP,zQ,vC,f1,lde,zP,f2,Aq,Wo];exact done _ (by simp) (by simp) (by simp)
   rintro⟨k,tm,HH⟩ ⟨nh,vn,FZ,hh⟩;obtain⟨hk,keep,Jd,hcn,hn,blk,bx,res,sn,sd,t1,t2,t5⟩:=hh;simp only at hk keep hn blk bx res sn sd t1 t2 t5;subst hk;clear Wx k4 Ib ld0 Ra Rf o14 o24 ko b24 ld4 iP zQ lde wE wD n4 WQ J7 ir mA kM uf a2 a3 box;have lx:Z4 Tryz.prog HH 51 (.pointer (some ⟨H.n,4,none⟩))=some vx:=Yb Gi (o:=4) (cs:=vs) (by unfold AH.cells;rw[bx]) (by rw[Jm];rfl);have ln:=h3.len;obtain⟨m0,Ho⟩:=hid (args.length);have la:=UB args;rw[<-Ho]at ln la;have hH2n:H.n<=H.n+2:=by omega
   apply Zh;intro b1 Ze;apply Zb;intro b2 Zx;simp[t1,KD,lx,ln];subst Zx;apply ZS;refine YQ (fun m s'=>s'.k=70/\Zg H s'.H/\nh<=s'.H.n/\(∀j,j<nh->j≠c->s'.H.blk j=HH.blk j)/\ ∃(i:Nat) (xv:Value),m+i=m0/\s'.H.blk c= .rw 1 [.int .i64 op,.bool r.1.1,vn,FZ,.bool r.2,xv]/\OL nh s'.H xv (Ub (args.take i))/\s'.tm.get 2=some (.pointer (some ⟨H.n+1,0,none⟩))/\s'.tm.get 5=some (.pointer (some ⟨c,0,none⟩))/\s'.tm.get 55=some vx/\s'.tm.get 56=some (.int .i64 (m0:Int))/\s'.tm.get 57=some (.int .i64 (i:Int))) ?_ m0 _ ⟨rfl,keep,Nat.le_of_eq hn,fun _ _ _=>rfl,0,.slice none 0 0,by omega,blk,.inl ⟨rfl,by simp[Ub]⟩,by simp[t2],by simp[t5],by simp,by simp,by simp⟩;rintro m ⟨k,Xg,Ha⟩ ⟨hk,kH,hna,Fx,i,xv,Kk,lG,own,t2,t5,t55,t56,t57⟩ Q' Y4;simp only at hk kH hna Fx lG own t2 t5 t55 t56 t57;subst hk;apply Zb;intro b3 Z9;simp[t56,t57,Iq];subst Z9;by_cases hi:i<m0
   ·refine Y8 (fun s'=>s'=⟨70,Xg.set 58 (.bool (decide (i<m0))),Ha⟩) ?_ ?_;·intro Gd We;refine Za (t:=true) (by simp[hi]) ?_;apply Zr;exact We _ rfl
    rintro _ rfl;obtain⟨x,hx⟩: ∃x,args[i]?=some x:=⟨_,List.getElem?_eq_getElem (by omega)⟩;have hxn:=Sg hx;obtain⟨p,us,ha5,hl5,fA⟩: ∃(p:Value) (us:List Value),Yj Tryz.prog 51 vx (.int .i64 (i:Int))=some p/\Z4 Tryz.prog Ha 53 p=some (.agg us.toArray)/\Ex Ha us x:=by obtain⟨p,us,e1,e2,e3⟩:=h3.at hx;exact⟨p,us,e1,e2 _ kH,e3.keep kH⟩
    obtain⟨Hb,Wo,k5,Gk,n5⟩:=Y6 (H:=Ha) (sz:=1) (zs:=[.int .i64 0,.bool false,.slice none 0 0,.slice none 0 0,.slice none 0 0]) JK rfl (v:= .agg us.toArray) (ws:=us) (by simp[Value.cells]) fA.len fA.ones;have l5:Z4 Tryz.prog Hb.top 53 (.pointer (some ⟨Ha.n,0,none⟩))=some (.agg us.toArray):=R4 (o:=0) (cs:=us) (show Hb.cells Ha.n=_ by unfold AH.cells;rw[Gk]) (by rw[List.drop_zero,List.take_of_length_le (by rw[fA.len];omega)]) fA.len;have wC:Hb.blk c= .rw 1 [.int .i64 op,.bool r.1.1,vn,FZ,.bool r.2,xv]:=by rw[k5.blk _ (by omega)];exact lG
    have lX:Z4 Tryz.prog Hb.top 66 (.pointer (some ⟨c,5,none⟩))=some xv:=Yb aEs (o:=5) (show Hb.cells c=some _ by unfold AH.cells;rw[wC]) rfl;obtain⟨_,H6,c6,k6,QA,rfl,rx6⟩:=ih x (by omega) Hb.top us ((fA.keep k5).keep (R0 Hb)) (TL ws hx) (by omega);have rlen:=rx6.len;obtain⟨u0,u1,u2,u3,u4,u5,rfl⟩: ∃u0 u1 u2 u3 u4 u5,QA=[u0,u1,u2,u3,u4,u5]:=by match QA,rlen with|[u0,u1,u2,u3,u4,u5],_=>exact⟨u0,u1,u2,u3,u4,u5,rfl⟩
    have c6:ZY Tryz.prog Zy 30 [.agg us.toArray] Hb.top=some (.agg #[u0,u1,u2,u3,u4,u5],H6):=c6;have n6:Hb.n<=H6.n:=k6.n;obtain⟨Gb,hGb⟩:=hid (grown Hb H6);have kGb:Zg Hb Gb:=by rw[hGb];exact Yi (.refl Hb) k6
    have nGb:Gb.n=H6.n:=by rw[hGb];rfl
    have rxb:Rx (fun j=>Hb.n<=j) Gb [u0,u1,u2,u3,u4,u5] x.ref:=by rw[hGb];exact rx6.agr ⟨Nat.le_refl _,fun j _ hj=>(Yo k6).blk j hj (fun e=>by cases e)⟩ fun j _ h=>h
    have bs:=bEs Gb.top u0 u1 u2 u3 u4 u5;obtain⟨Gc,mq⟩:=hid (grown Gb (Gb.top.new 6 [u0,u1,u2,u3,u4,u5]));have tX:Zg Gb Gc:=by rw[mq];exact Yi (.refl Gb) (Zg.new _ _ _)
    have nGc:Gc.n=Gb.n+1:=by rw[mq];rfl
    have blkw:Gc.blk Gb.n= .rw 6 [u0,u1,u2,u3,u4,u5]:=by have:=(Yo (Zg.new Gb.top 6 [u0,u1,u2,u3,u4,u5])).blk Gb.n (Nat.lt_succ_self _) (fun e=>by cases e);rw[mq,this,AH.blk_new,if_pos (show Gb.n=Gb.top.n from rfl)]
    have iy:Zg Ha Gc:=(k5.trans kGb).trans tX;have n5':Ha.n<=Hb.n:=k5.n;have ownT:OL nh Gc.top xv (Ub (args.take i)):=own.agr (by have:=iy.n;exact this) fun j _ hj=>iy.blk j hj;have rxT:Rx (fun j=>Hb.n<=j) Gc.top [u0,u1,u2,u3,u4,u5] x.ref:=(rxb.keep tX).keep (R0 Gc);have hlen:(Ub (args.take i)).length=i:=by rw[JQ,List.length_take];omega
    obtain⟨Hd,Jc,nd,kad,nM,uk,hlw0,hlw1⟩:=ownT.append (H:=Gc.top) (nh:=nh) (us:=[u0,u1,u2,u3,u4,u5]) (x:=x.ref) (w:=Gb.n) (by show nh<=Gc.n;omega) (by omega) (by show Gb.n<Gc.n;omega) blkw (rxT.agr ⟨Nat.le_refl _,fun _ _ _=>rfl⟩ fun j _ hj=>by omega) (by omega) fun b hb=>by have:=own.blk hb;exact⟨rxT.agr ⟨Nat.le_refl _,fun _ _ _=>rfl⟩ fun j _ hj=>⟨by omega,by omega⟩,by omega⟩
    have ze:Ub (args.take i)++[x.ref]=Ub (args.take (i+1)):=by rw[BN hx,Qy,Qy];simp
    rw[ze]at uk;rw[hlen]at Jc uk;have nd':Hd.n=Gc.n+1:=nd;have blkd:Hd.blk c= .rw 1 [.int .i64 op,.bool r.1.1,vn,FZ,.bool r.2,xv]:=by rw[nM c (by show c<Gc.n;omega) (fun e=>by have:=own.blk e;omega)];show Gc.blk c=_;rw[iy.blk _ (by omega)];exact lG
    have fin: ∀(G3:AH),T0 none Hd G3->UR nh Gc G3-> ∃H8,YZ Tryz.prog G3.top 66 (.pointer (some ⟨c,5,none⟩)) (.slice (some ⟨Gc.n,0,none⟩) (i+1) (i+1))=some H8/\G3.n<=H8.n/\H8.lw<G3.n/\Zg H (low G3 H8)/\nh<=H8.n/\(∀j,j<nh->j≠c->(low G3 H8).blk j=HH.blk j)/\(low G3 H8).blk c= .rw 1 [.int .i64 op,.bool r.1.1,vn,FZ,.bool r.2,.slice (some ⟨Gc.n,0,none⟩) (i+1) (i+1)]/\OL nh (low G3 H8) (.slice (some ⟨Gc.n,0,none⟩) (i+1) (i+1)) (Ub (args.take (i+1))):=fun G3 bt ka=>by
     have b3:G3.blk c= .rw 1 [.int .i64 op,.bool r.1.1,vn,FZ,.bool r.2,xv]:=by rw[bt.blk c (by omega) (fun e=>by cases e)];exact blkd
     obtain⟨H8,J9,blk8,n8,E8,iw,zI⟩:=WE (H:=G3.top) (b:=c) (o:=5) (v:= .slice (some ⟨Gc.n,0,none⟩) (i+1) (i+1)) (ws:=[.slice (some ⟨Gc.n,0,none⟩) (i+1) (i+1)]) sEsl b3 rfl rfl (by simp) rfl;have n8':H8.n=G3.n:=n8;have e3:=bt.n;refine⟨H8,J9,by omega,?_,?_,by omega,fun j hj hjc=>?_,?_,?_⟩;·rw[zI];show min G3.n c<G3.n;omega
     ·have:Zg H G3:=ka H (kH.trans iy) (by omega);exact NG iw H this (by omega)
     ·show H8.blk j=_;rw[E8 j hjc];show G3.blk j=_;have e1:=(bt.blk j (by omega) (fun e=>by cases e)).trans (nM j (by show j<Gc.n;omega) (fun e=>by have:=own.blk e;omega));rw[e1];show Gc.blk j=_;rw[iy.blk _ (by omega)];exact Fx j hj hjc
     ·show H8.blk c=_;rw[blk8];rfl
     ·refine uk.agr (by show Hd.n<=H8.n;omega) fun j hj1 hj2=>?_;show H8.blk j=_;rw[E8 j (by omega)];exact bt.blk j hj2 (fun e=>by cases e)
    refine Y8 (fun s'=>s'.k=70/\ ∃G3 H8,YZ Tryz.prog G3.top 66 (.pointer (some ⟨c,5,none⟩)) (.slice (some ⟨Gc.n,0,none⟩) (i+1) (i+1))=some H8/\T0 none Hd G3/\UR nh Gc G3/\s'.H=low G3 H8/\s'.tm.get 2=some (.pointer (some ⟨H.n+1,0,none⟩))/\s'.tm.get 5=some (.pointer (some ⟨c,0,none⟩))/\s'.tm.get 55=some vx/\s'.tm.get 56=some (.int .i64 (m0:Int))/\s'.tm.get 57=some (.int .i64 (i:Int))) ?_ ?_
    ·intro Gd We;apply ZS;apply Zb;intro b4 Yz;simp[t55,t57,ha5,hl5,JF,Value.cells,Wo];subst Yz;apply YI (by kernel_rfl);simp[t5,Gw];refine Z0 (v:=xv) rfl rfl rfl (by rw[ZG rfl];simp[lX]) ?_;simp;refine Z0 (v:= .agg us.toArray) rfl rfl rfl (by rw[ZG rfl];simp[l5]) ?_;simp;refine YU (v:= .agg #[u0,u1,u2,u3,u4,u5]) (H2:=H6) rfl rfl rfl (by rw[ZG rfl];simp[c6]) n6 (YO k6) ?_;rw[<-hGb];generalize Pz:cond (Nat.blt Hb.n H6.n) _ _=ms;have X8:=V8 Pz;simp;refine YU (v:= .slice (some ⟨Gb.n,0,none⟩) 1 1) (H2:=Gb.top.new 6 [u0,u1,u2,u3,u4,u5]) rfl rfl rfl ?_ (Nat.le_succ _) (Nat.le_refl _) ?_;·rw[ZG (Yr fun x hx=>by rw[(X8 x hx).1];kernel_rfl)];simp[bs];rfl
     rw[<-mq];have sj:Nat.blt Gb.n (Gb.top.new 6 [u0,u1,u2,u3,u4,u5]).n=true:=by rw[Nat.blt_eq];exact Nat.lt_succ_self _
     rw[sj,cond_true];have hid: ∀bits:Nat,bits.testBit 3=true->bits.testBit 4=true-> ∀x∈((4,Gb.n,(Gb.top.new 6 [u0,u1,u2,u3,u4,u5]).n)::ms),bits.testBit x.1=true:=fun bits b3 b4 x hx=>by
      rcases List.mem_cons.mp hx with e|e;·rw[e];exact b4
      ·rw[(X8 x e).1];exact b3
     simp;cases AP:YJ xv with
      |none=>
       refine YU (v:= .slice (some ⟨Gc.n,0,none⟩) (i+1) (i+1)) (H2:=Hd) rfl rfl rfl ?_ (by omega) (by rw[hlw0 AP];exact Nat.le_refl _) ?_;·rw[ZG (Yr (hid _ (by kernel_rfl) (by kernel_rfl)))];simp[Jc]
       have bt:T0 none Hd (grown Gc Hd):=⟨rfl,fun j hj _=>by
        unfold AH.blk grown;simp only[Q6];by_cases cj:Gc.n<=j;·rw[if_pos (by omega)];rfl
        ·rw[if_neg (by omega)];exact(nM j (by show j<Gc.n;omega) (by rw[AP];intro e;cases e)).symm⟩;have iz:UR nh Gc (grown Gc Hd):=(show Zg Gc (grown Gc Hd)from⟨by show Gc.n<=Hd.n;omega,Nat.min_le_left _ _,fun j hj=>by rw[bt.blk j (by omega) (fun e=>by cases e)];exact nM j hj (by rw[AP];intro e;cases e)⟩).kat nh;obtain⟨H8,J9,n8,zI,_⟩:=fin _ bt iz;have CT:Nat.blt Gc.n Hd.n=true:=by rw[Nat.blt_eq];omega
       rw[CT,cond_true];simp[t5,Gw];refine YH (v:= .tuple #[]) (H2:=H8) rfl rfl (by kernel_rfl) (Yr fun x hx=>?_) ?_ n8 zI ?_
       ·rcases List.mem_cons.mp hx with e|e;·rw[e];kernel_rfl
        ·exact hid _ (by kernel_rfl) (by kernel_rfl) x e
       ·show Z2 _ _ _ _ (grown Gc Hd).top _=_;simp[J9]
       simp;exact We _ ⟨rfl,_,H8,J9,bt,iz,rfl,by simp[t2],by simp[t5],by simp[t55],by simp[t56],by simp[t57]⟩
      |some b=>
       have Ze:=hlw1 b AP;refine YH (v:= .slice (some ⟨Gc.n,0,none⟩) (i+1) (i+1)) (H2:=Hd) rfl rfl (by kernel_rfl) (Yr (hid _ (by kernel_rfl) (by kernel_rfl))) ?_ (by omega) (by have h2:b<Gc.n:=Ze.2;omega) ?_;·show Z2 _ _ _ _ Gc.top _=_;simp[Jc]
       have bt:T0 none Hd (low Gc Hd):=Kn Gc Hd;have iz:UR nh Gc (low Gc Hd):=NG kad;obtain⟨H8,J9,n8,zI,_⟩:=fin _ bt iz;have CT:Nat.blt Gc.n Hd.n=true:=by rw[Nat.blt_eq];omega
       rw[CT,cond_true];simp[t5,Gw];refine YH (v:= .tuple #[]) (H2:=H8) rfl rfl (by kernel_rfl) (Yr fun x hx=>?_) ?_ n8 zI ?_
       ·rcases List.mem_cons.mp hx with e|e;·rw[e];kernel_rfl
        ·exact hid _ (by kernel_rfl) (by kernel_rfl) x e
       ·show Z2 _ _ _ _ (low Gc Hd).top _=_;simp[J9]
       simp;exact We _ ⟨rfl,_,H8,J9,bt,iz,by simp[low,Nat.min_assoc],by simp[t2],by simp[t5],by simp[t55],by simp[t56],by simp[t57]⟩
    rintro⟨k,db,HX⟩ ⟨hk,G3,H8,J9,bt,ka,hX,u2',u5',u55,u56,u57⟩;simp only at hk hX u2' u5' u55 u56 u57;subst hk;subst hX;obtain⟨H8',st8',q1,q2,q3,q4,q5,q6,q7⟩:=fin G3 bt ka;obtain rfl:H8'=H8:=Option.some.inj (st8'.symm.trans J9);apply Zk;simp[u57,Tx (x:=i) (by omega)];apply Y4;exact⟨m-1,by omega,rfl,q3,q4,q5,i+1,.slice (some ⟨Gc.n,0,none⟩) (i+1) (i+1),by omega,q6,q7,by simp[u2'],by simp[u5'],by simp[u55],by simp[u56],by simp⟩
   ·refine Zh fun b3 Z9=>?_;refine Za (t:=false) (by simp[hi]) ?_;apply YP;apply Y4;left;refine⟨rfl,?_⟩;obtain rfl:i=m0:=by omega
    rw[List.take_of_length_le (by omega)]at own;have lF:Z4 Tryz.prog Ha 68 (.pointer (some ⟨c,0,none⟩))=some (.agg #[.int .i64 op,.bool r.1.1,vn,FZ,.bool r.2,xv]):=Be (o:=0) (vs:=[.int .i64 op,.bool r.1.1,vn,FZ,.bool r.2,xv]) (by unfold AH.cells;rw[lG]) rfl rfl;have on1:=own.one1.1;have resb:Ha.blk (H.n+1)= .rw 1 [.int .i64 0,.bool false,.slice none 0 0,.slice none 0 0,.bool false,.slice none 0 0]:=by rw[Fx _ (by omega) (by omega)];exact res
    obtain⟨H9,jK,blk9,n9,Za4,zX,_⟩:=WE (H:=Ha) (b:=H.n+1) (o:=0) (v:= .agg #[.int .i64 op,.bool r.1.1,vn,FZ,.bool r.2,xv]) (ws:=[.int .i64 op,.bool r.1.1,vn,FZ,.bool r.2,xv]) sE resb rfl rfl (by simp) (by simp only[List.all_cons,List.all_nil,sn.1.one1,sd.1.one1,on1,Bool.and_true];rfl);have lR:Z4 Tryz.prog H9 68 (.pointer (some ⟨H.n+1,0,none⟩))=some (.agg #[.int .i64 op,.bool r.1.1,vn,FZ,.bool r.2,xv]):=Be (o:=0) (vs:=[.int .i64 op,.bool r.1.1,vn,FZ,.bool r.2,xv]) (by unfold AH.cells;rw[blk9]) rfl rfl;subst Ze;apply Zb;intro b1 Ze;simp[t5,lF,t2,jK];subst Ze;apply Zu;simp[t2,lR];have ag:uE (fun j=>H.n+2<=j/\j≠c) HH H9:=by refine⟨by omega,fun j hj hjn=>?_⟩;rw[Za4 j (by omega)];exact Fx j (by omega) hj.2
    refine⟨zX H kH (by omega),.mk ⟨sn.1.agr sn.2 ag,fun b hb=>by have:=(sn.2 b hb).1;omega⟩ ⟨sd.1.agr sd.2 ag,fun b hb=>by have:=(sd.2 b hb).1;omega⟩ ?_⟩;exact(own.agr (H':=H9) (by omega) fun j hj _=>Za4 j (by omega)).rxs (by omega)
theorem N5{H:AH}{va vb:Value}{xs ys:List Nat}(ha:Sl H va xs)(hb:Sl H vb ys)(dx:YG Zc xs)(dy:YG Zc ys)(lx:xs.length<=WU)(ly:ys.length<=WU): ∃v1 v2 H1 H2,ZY Tryz.prog Zy 120 [va] H=some (v1,H1)/\ZY Tryz.prog Zy 120 [vb] H1=some (v2,H2)/\Zg H H2/\Ym H.n H2 v1 (ds Zc (dv Zc xs))/\Ym H.n H2 v2 (ds Zc (dv Zc ys))/\Vq v1 v2:=by obtain⟨v1,H1,h1,k1,o1⟩:=Vu ha (Nat.le_trans lx (by decide));obtain⟨v2,H2,h2,k2,o2⟩:=Vu (hb.keep k1) (Nat.le_trans ly (by decide));rw[Xl Z7 dx]at o1;rw[Xl Z7 dy]at o2;exact⟨v1,v2,H1,H2,h1,h2,k1.trans k2,o1.m k2,o2.mono k1.n (.refl _),Uv o1 o2 (Nat.le_refl _)⟩
theorem Pc{n0:Nat}{H:AH}{va vb:Value}{A B:Nat}(ha:Ym n0 H va (ds Zc A))(hb:Sl H vb (ds Zc B))(Sw:n0<=H.n)(lA:(ds Zc A).length<=WU)(lB:(ds Zc B).length<=WU)(hB:0<B): ∃q r H',ZY Tryz.prog Zy 193 [va,vb] H=some (.tuple #[q,r],H')/\Zg H H'/\Ym H.n H' q (ds Zc (A/B))/\Ym n0 H' r (ds Zc (A%B))/\Vq q r:=by obtain⟨v,H',hc,k,q,r,e,o1,o2,ap⟩:=FA ha hb Sw (Yv Z7 A) (Yv Z7 B) (Ts Z7 A) (Ts Z7 B) (Nat.le_trans lA (by decide)) (Nat.le_trans lB (by decide)) ((Vj Z7).mpr hB);subst e;rw[YT Z7,YT Z7]at o1 o2;exact⟨q,r,H',hc,k,o1,o2,ap⟩
theorem Wd{H:AH}{v:Value}{A:Nat}(h:Sl H v (ds Zc A))(lA:(ds Zc A).length<=WU):ZY Tryz.prog Zy 123 [v] H=some (.int .i64 (Zm A:Int),H):=by obtain⟨_,_,hc,rfl,rfl⟩:=Vh h (Yv Z7 A) (Nat.le_trans lA (by decide));rw[YT Z7]at hc;exact hc
theorem Pt{x:Nat} :Zd .gtr .i64 (x:Int) 67108864=some (.bool (decide (67108864<x))):=WW (y:=67108864)
section
variable {H : AH} {va vb : Value} {xs ys : List Nat}
def qF(n0:Nat)(A B:Nat)(v:Value)(H':AH):Prop:=(B=0/\v= .tuple #[.slice none 0 0,.slice none 0 0,.int .i64 30])\/(0<B/\(67108864<Zm (A/B)\/67108864<Zm (A%B))/\v= .tuple #[.slice none 0 0,.slice none 0 0,.int .i64 3])\/(0<B/\Zm (A/B)<=67108864/\Zm (A%B)<=67108864/\ ∃q r,v= .tuple #[q,r,.int .i64 0]/\Ym n0 H' q (ds Zc (A/B))/\Ym n0 H' r (ds Zc (A%B))/\Vq q r)
theorem aT(ha:Sl H va xs)(hb:Sl H vb ys)(dx:YG Zc xs)(dy:YG Zc ys)(lx:xs.length<=WU)(ly:ys.length<=WU):CW Tryz.prog Zy 200 [va,vb] H fun v H'=>Zg H H'/\qF H.n (dv Zc xs) (dv Zc ys) v H':=by
 refine Z8 32 Tryz.func200 ?_;obtain⟨v1,v2,H1,H2,c1,c2,k2,o1,o2,ap⟩:=N5 ha hb dx dy lx ly;have lA:=Nat.le_trans (VQ dx) lx;have lB:=Nat.le_trans (VQ dy) ly;generalize dv Zc xs=A at*;generalize dv Zc ys=B at*;have l2:=o2.sl.len Zv;apply Zb;intro b1 Ze;simp;subst Ze;apply Zb;intro b1 Ze;simp[c1,c2];subst Ze;apply Zh;intro b1 Ze;apply Zb;intro b2 Zx;simp[l2,Ws,Wu Z7];subst Zx;by_cases hB:B=0;·refine Za (t:=true) (by simp[hB]) ?_;apply Zb;intro b2 Zx;simp;subst Zx;apply Zu;simp[Yx];exact⟨k2,.inl ⟨hB,rfl⟩⟩
 ·refine Za (t:=false) (by simp[hB]) ?_;apply Zr;subst Ze;have Ml:0<B:=by omega
  obtain⟨q,r,H3,c3,k3,oq,uj,apq⟩:=Pc o1 o2.sl k2.n lA lB Ml;have lq:(ds Zc (A/B)).length<=WU:=Nat.le_trans (Ux Z7 (Nat.div_le_self A B)) lA;have lr:(ds Zc (A%B)).length<=WU:=Nat.le_trans (Ux Z7 (Nat.mod_le A B)) lA;have c4:=Wd oq.sl lq;have c5:=Wd uj.sl lr;apply Zb;intro b1 Ze;simp[c3];subst Ze;apply Zh;intro b1 Ze;apply Zb;intro b2 Zx;by_cases h1:67108864<Zm (A/B);·simp[c4,Pt,h1];subst Zx;refine Za (t:=true) (by simp) ?_;apply Zb;intro b2 Zx;simp;subst Zx;apply Zu;simp[Yx];exact⟨k2.trans k3,.inr (.inl ⟨Ml,.inl h1,rfl⟩)⟩
  ·by_cases h2:67108864<Zm (A%B);·simp[c4,c5,Pt,h1,h2];subst Zx;refine Za (t:=true) (by simp) ?_;apply Zb;intro b2 Zx;simp;subst Zx;apply Zu;simp[Yx];exact⟨k2.trans k3,.inr (.inl ⟨Ml,.inr h2,rfl⟩)⟩
   ·simp[c4,c5,Pt,h1,h2];subst Zx;refine Za (t:=false) (by simp) ?_;apply Zr;subst Ze;apply Zb;intro b2 Zx;simp;subst Zx;apply Zu;simp;exact⟨k2.trans k3,.inr (.inr ⟨Ml,by omega,by omega,q,r,rfl,oq.mono k2.n (.refl _),uj,apq⟩)⟩
def wZ(n0:Nat)(B Z:Nat)(v:Value)(H':AH):Prop:=(B=0/\v= .tuple #[.slice none 0 0,.int .i64 30])\/(0<B/\67108864<Zm Z/\v= .tuple #[.slice none 0 0,.int .i64 3])\/(0<B/\Zm Z<=67108864/\ ∃q,v= .tuple #[q,.int .i64 0]/\Ym n0 H' q (ds Zc Z))
theorem jZ(ha:Sl H va xs)(hb:Sl H vb ys)(dx:YG Zc xs)(dy:YG Zc ys)(lx:xs.length<=WU)(ly:ys.length<=WU):CW Tryz.prog Zy 141 [va,vb] H fun v H'=>Zg H H'/\wZ H.n (dv Zc ys) (dv Zc xs/dv Zc ys) v H':=by
 refine Z8 25 Tryz.func141 ?_;obtain⟨v1,v2,H1,H2,c1,c2,k2,o1,o2,ap⟩:=N5 ha hb dx dy lx ly;have lA:=Nat.le_trans (VQ dx) lx;have lB:=Nat.le_trans (VQ dy) ly;generalize dv Zc xs=A at*;generalize dv Zc ys=B at*;have l2:=o2.sl.len Zv;apply Zb;intro b1 Ze;simp;subst Ze;apply Zb;intro b1 Ze;simp[c1,c2];subst Ze;apply Zh;intro b1 Ze;apply Zb;intro b2 Zx;simp[l2,Ws,Wu Z7];subst Zx;by_cases hB:B=0;·refine Za (t:=true) (by simp[hB]) ?_;apply Zb;intro b2 Zx;simp;subst Zx;apply Zu;simp[Yx];exact⟨k2,.inl ⟨hB,rfl⟩⟩
 ·refine Za (t:=false) (by simp[hB]) ?_;apply Zr;subst Ze;have Ml:0<B:=by omega
  obtain⟨q,r,H3,c3,k3,oq,uj,apq⟩:=Pc o1 o2.sl k2.n lA lB Ml;have lq:(ds Zc (A/B)).length<=WU:=Nat.le_trans (Ux Z7 (Nat.div_le_self A B)) lA;have c4:=Wd oq.sl lq;apply Zb;intro b1 Ze;simp[c3];subst Ze;apply Zh;intro b1 Ze;apply Zb;intro b2 Zx;simp[c4,Pt];subst Zx;by_cases h1:67108864<Zm (A/B);·refine Za (t:=true) (by simp[h1]) ?_;apply Zb;intro b2 Zx;simp;subst Zx;apply Zu;simp[Yx];exact⟨k2.trans k3,.inr (.inl ⟨Ml,h1,rfl⟩)⟩
  ·refine Za (t:=false) (by simp[h1]) ?_;apply Zr;subst Ze;apply Zb;intro b2 Zx;simp;subst Zx;apply Zu;simp;exact⟨k2.trans k3,.inr (.inr ⟨Ml,by omega,q,rfl,oq.mono k2.n (.refl _)⟩)⟩
theorem fE(ha:Sl H va xs)(hb:Sl H vb ys)(dx:YG Zc xs)(dy:YG Zc ys)(lx:xs.length<=WU)(ly:ys.length<=WU):CW Tryz.prog Zy 139 [va,vb] H fun v H'=>Zg H H'/\Ym H.n H' v (ds Zc (Nat.gcd (dv Zc xs) (dv Zc ys))):=by
 refine Z8 23 Tryz.func139 ?_;obtain⟨v1,v2,H1,H2,c1,c2,k2,o1,o2,ap⟩:=N5 ha hb dx dy lx ly;have lA:=Nat.le_trans (VQ dx) lx;have lB:=Nat.le_trans (VQ dy) ly;generalize dv Zc xs=A at*;generalize dv Zc ys=B at*;apply Zb;intro b1 Ze;simp;subst Ze;apply Zb;intro b1 Ze;simp[c1,c2];subst Ze;apply Zh;intro b1 Ze;apply ZS;refine YQ (fun m s'=>s'.k=23/\Zg H s'.H/\ ∃(a:Nat) (av bv:Value),Nat.gcd a m=Nat.gcd A B/\(ds Zc a).length<=WU/\(ds Zc m).length<=WU/\Ym H.n s'.H av (ds Zc a)/\Ym H.n s'.H bv (ds Zc m)/\s'.tm.get 0=some av/\s'.tm.get 1=some bv) ?_ B _ ⟨rfl,k2,A,v1,v2,rfl,lA,lB,o1,o2,by simp,by simp⟩;rintro m ⟨k,tm,H3⟩ ⟨hk,k3,a,av,bv,hg,la,lm,oa,ob,t0,t1⟩ Q' Y4;simp only at hk k3 oa ob t0 t1;subst hk;have lb:=ob.sl.len Zv;apply Zh;intro b3 Z9;apply Zb;intro b4 Yz;simp[t1,lb,K7,Vj Z7];subst Yz;by_cases hm:0<m;·refine Za (t:=true) (by simp[hm]) ?_;apply Zr;subst Z9;obtain⟨q,r,H4,c4,k4,oq,uj,apq⟩:=Pc oa ob.sl k3.n la lm hm;apply ZS;apply Zb;intro b3 Z9;simp[t0,t1,c4];subst Z9;apply Zk;simp[t1];apply Y4;refine⟨a%m,Nat.mod_lt _ hm,rfl,k3.trans k4,m,bv,r,?_,lm,Nat.le_trans (Ux Z7 (Nat.mod_le a m)) la,ob.m k4,uj,by simp,by simp⟩;show Nat.gcd m (a%m)=_;rw[<-hg,Nat.gcd_comm a m,Nat.gcd_rec m a,Nat.gcd_comm]
 ·refine Za (t:=false) (by simp[hm]) ?_;apply YP;apply Y4;left;refine⟨rfl,?_⟩;obtain rfl:m=0:=by omega
  rw[Nat.gcd_zero_right]at hg;subst Ze;apply Zb;intro b4 Yz;simp[t0];subst Yz;apply Zu;simp;rw[<-hg];exact⟨k3,oa⟩
end
theorem Sl.part'{H:AH}{v:Value}{xs:List Nat}(h:Sl H v xs){t:TypeId}(ht:LT t){j m:Nat}(hm:j+m<=xs.length)(h0:j<xs.length): ∃w,Vo Tryz.prog H t v (some (.int .i64 (j:Int))) (some (.int .i64 ((j+m:Nat):Int))) none=some w/\Sl H w ((xs.drop j).take m)/\YJ w=YJ v:=by cases h with
 |nil=>simp at h0
 |emp b=>simp at h0
 |mk b o cap xs h1 h2=>
  have hl:((xs.drop j).take m).length=m:=by rw[List.length_take,List.length_drop];omega
  obtain⟨mn,cs,h3,h4,h5⟩:=h2;refine⟨.slice (some ⟨b,o+j,none⟩) ((xs.drop j).take m).length (cap-j),?_,.mk b (o+j) (cap-j) _ (by omega) ⟨mn,cs,h3,h4,fun i x hx=>?_,by have:=(List.getElem?_eq_some_iff.mp (h5.1 j _ (List.getElem?_eq_getElem h0))).1;omega⟩,rfl⟩
  ·unfold Vo;simp only[ht.1,Mg];unfold Mz Xu;simp only[h4,Option.isSome_some,Option.isNone_none,Bool.true_or];rw[if_pos (by omega)];have e1:Nat.ble (j+m) cap=true:=Nat.ble_eq.mpr (by omega);have e2:Nat.blt j cap=true:=by rw[Nat.blt_eq];omega
   simp only[Xu,Int.toNat_natCast];rw[if_pos (by omega)];simp[e1,e2,hl]
  ·rw[List.getElem?_take]at hx;split at hx;·rw[List.getElem?_drop]at hx;have:=h5.1 (j+i) x hx;rwa[<-Nat.add_assoc]at this
   ·cases hx
theorem MY(B:Nat): ∀(xs:List Nat)(i y:Nat)(h:i<xs.length),dv B (xs.set i y)+B^i*xs[i]=dv B xs+B^i*y
 |x::xs,0,y,_=>by simp[dv];omega
 |x::xs,i+1,y,h=>by
  have h':i<xs.length:=by simpa using h
  have ih:=MY B xs i y h';simp only[List.set_cons_succ,dv,List.getElem_cons_succ,Nat.pow_succ];have e:B*(dv B (xs.set i y)+B^i*xs[i])=B*(dv B xs+B^i*y):=by rw[ih]
  rw[Nat.mul_add,Nat.mul_add]at e;rw[Nat.mul_comm (B^i) B,Nat.mul_assoc,Nat.mul_assoc];omega
theorem YG.set{B:Nat}{xs:List Nat}(h:YG B xs){i y:Nat}(hy:y<B):YG B (xs.set i y):=fun x hx=>by
 rcases List.mem_or_eq_of_mem_set hx with h'|h';·exact h x h'
 ·rw[h'];exact hy
theorem KL{B:Nat} : ∀{xs:List Nat},(∀x∈xs,x=0)->dv B xs=0|[],_=>rfl|x::xs,h=>by simp only[dv];rw[h x (List.mem_cons_self ..),KL fun y hy=>h y (List.mem_cons_of_mem _ hy)];simp
theorem Kq{xs:List Nat}{i j y:Nat}(h:i≠j):nth (xs.set i y) j=nth xs j:=by unfold nth;rw[List.getElem?_set,if_neg h]
theorem Sl.partAny{H:AH}{v:Value}{xs:List Nat}(h:Sl H v xs){t:TypeId}(ht:LT t){f m:Nat}(hm:f+m<=xs.length)(h0:0<xs.length): ∃w,Vo Tryz.prog H t v (some (.int .i64 (f:Int))) (some (.int .i64 ((f+m:Nat):Int))) none=some w/\Sl H w ((xs.drop f).take m):=by
 by_cases hf:f<xs.length;·obtain⟨w,h1,h2,_⟩:=h.part' ht hm hf;exact⟨w,h1,h2⟩
 ·have mT:f=xs.length:=by omega
  have Ho:m=0:=by omega
  subst Ho;rw[List.take_zero];cases h with
   |nil=>simp at h0
   |emp b=>simp at h0
   |mk b o cap xs h1 h2=>
    obtain⟨mn,cs,h3,h4,h5⟩:=h2;by_cases hc:f<cap
    ·refine⟨.slice (some ⟨b,o+f,none⟩) 0 (cap-f),?_,.mk b (o+f) (cap-f) [] (Nat.zero_le _) ⟨mn,cs,h3,h4,fun i x hx=>by simp at hx,by have:=(GL h0 h5.1).1;omega⟩⟩;unfold Vo;simp only[ht.1,Mg];unfold Mz Xu;simp only[h4,Option.isSome_some,Option.isNone_none,Bool.true_or];rw[if_pos (by omega)];have e1:Nat.ble f cap=true:=Nat.ble_eq.mpr (by omega);have e2:Nat.blt f cap=true:=by rw[Nat.blt_eq];omega
     simp only[Xu,Int.toNat_natCast];rw[if_pos (by omega)];simp[e1,e2]
    ·refine⟨.slice (some ⟨b,0,some 0⟩) 0 0,?_,.emp b⟩;unfold Vo;simp only[ht.1,Mg];unfold Mz Xu;simp only[h4,Option.isSome_some,Option.isNone_none,Bool.true_or];rw[if_pos (by omega)];have e1:Nat.ble f cap=true:=Nat.ble_eq.mpr (by omega);have e2:Nat.blt f cap=false:=by cases hb:Nat.blt f cap with|false=>rfl|true=>rw[Nat.blt_eq]at hb;omega
     have e3:Nat.beq f 0=false:=Xh (by omega);simp only[Xu,Int.toNat_natCast];rw[if_pos (by omega)];simp[e1,e2,e3]
theorem Ym.copy{n:Nat}{H:AH}{v w:Value}{zs xs:List Nat}(h:Ym n H v zs)(hw:Sl H w xs)(hl:xs.length<=zs.length){t t2:TypeId}(ht:LT t)(ie:LT t2): ∃u H',copyV Tryz.prog H t t2 v w=some (u,H')/\Ym n H' v (xs++zs.drop xs.length)/\T0 (YJ v) H H'/\KA n H H':=by
 have hc:Wm H 1 w xs.length=some (xs.map Uc):=by
  rcases Nat.eq_zero_or_pos xs.length with h0|h0;·obtain rfl:xs=[]:=List.length_eq_zero_iff.mp h0;generalize hz:([]:List Nat)=ys at hw;cases hw with|nil=>rfl|emp b=>rfl|mk b o cap xs h1 h2=>subst hz;obtain⟨_,cs,h3,h4,h5⟩:=h2;have:Nat.ble o cs.length=true:=Nat.ble_eq.mpr h5.2;simp[Wm,AH.read_def,h3,this]
  ·exact hw.cells h0
 obtain⟨a2,cap2,rfl⟩: ∃a cap,w= .slice a xs.length cap:=by cases hw<;>exact⟨_,_,rfl⟩
 cases h with
  |nil=>obtain rfl:xs=[]:=List.length_eq_zero_iff.mp (by simpa using hl);refine⟨.int .i64 0,H,?_,by simpa using Ym.nil,.refl _ _,.refl _ _⟩;simp[copyV,ht.2,ie.2]
  |mk b o cap zs cs h1 h2 h3 h4 h5 h6=>
   have hmin:Nat.min xs.length zs.length=xs.length:=Nat.min_eq_left hl;have hle:Nat.ble (o+xs.length) cs.length=true:=Nat.ble_eq.mpr (by omega);have tp:H.write b o (xs.map Uc)=some { n:=H.n,lw:=min H.lw b,t:=H.t.set b (.rw 1 (cs.take o++xs.map Uc++cs.drop (o+xs.length))) } :=by rw[AH.write_def,h4];simp only[List.length_map,hle,cX,Bool.and_self,cond_true]
   obtain⟨H',hH'⟩: ∃H':AH,H'= { n:=H.n,lw:=min H.lw b,t:=H.t.set b (.rw 1 (cs.take o++xs.map Uc++cs.drop (o+xs.length))) } :=⟨_,rfl⟩;rw[<-hH']at tp;have XO: ∀j,H'.blk j=if j=b then .rw 1 (cs.take o++xs.map Uc++cs.drop (o+xs.length))else H.blk j:=fun j=>by
    rw[hH'];show(match(H.t.set b _).get j with|some b=>b|none=>Ou.dead)=_;rw[Tr.get_set];by_cases e:j=b;·rw[if_pos e,if_pos e]
    ·rw[if_neg e,if_neg e];rfl
   have hn:H'.n=H.n:=by rw[hH']
   refine⟨.int .i64 (Nat.min xs.length zs.length),H',?_,?_,⟨hn,fun j _ hj=>?_⟩,?_⟩;·unfold copyV;simp only[ht.2,ie.2,hmin,hc,tp]
   ·have hlen:(xs++zs.drop xs.length).length=zs.length:=by simp;omega
    rw[<-hlen];refine .mk b o cap _ (cs.take o++xs.map Uc++cs.drop (o+xs.length)) (by omega) h2 (by rw[hn];exact h3) (by rw[XO,if_pos rfl]) ?_ ?_;·simp only[List.length_append,List.length_take,List.length_drop,List.length_map];omega
    ·intro i x hi;rw[List.append_assoc,List.getElem?_append_right (by rw[List.length_take];omega),List.length_take,show o+i-min o cs.length=i by omega];rw[List.getElem?_append]at hi;rw[List.getElem?_append,List.length_map];by_cases hix:i<xs.length;·rw[if_pos hix]at hi⊢;rw[List.getElem?_map,hi];rfl
     ·rw[if_neg hix]at hi⊢;rw[List.getElem?_drop]at hi⊢;have:=h6 _ x hi;rw[show o+xs.length+(i-xs.length)=o+(xs.length+(i-xs.length)) by omega];exact this
   ·rw[XO,if_neg (fun e=>hj (by rw[e];rfl))]
   ·intro H0 k Sw;have:=k.lw;refine⟨by rw[hn];exact k.n,by rw[hH'];show min H0.lw H0.n<=min H.lw b;omega,fun j hj=>?_⟩;rw[XO,if_neg (by omega)];exact k.blk j hj
theorem AA(a b:Nat):Tt false [.int .i64 (a:Int),.int .i64 (b:Int)]=some (.int .i64 ((min a b:Nat):Int)):=by
 unfold Tt;simp only[sameKind];show some (Value.int .i64 (if(b:Int)<(a:Int)then(b:Int)else(a:Int)))=_;by_cases h:b<a;·rw[if_pos (by omega),Nat.min_eq_right (by omega)]
 ·rw[if_neg (by omega),Nat.min_eq_left (by omega)]
theorem nX(a b:Nat):Tt true [.int .i64 (a:Int),.int .i64 (b:Int)]=some (.int .i64 ((max a b:Nat):Int)):=by
 unfold Tt;simp only[sameKind];show some (Value.int .i64 (if(a:Int)<(b:Int)then(b:Int)else(a:Int)))=_;by_cases h:a<b;·rw[if_pos (by omega),Nat.max_eq_right (by omega)]
 ·rw[if_neg (by omega),Nat.max_eq_left (by omega)]
theorem Ym.fillAt{n:Nat}{H:AH}{v:Value}{L zs:List Nat}{i:Nat}(h:Ym n H v (L++zs.drop i))(hL:L.length=i)(hi:i<zs.length)(y:Nat): ∃H',YZ Tryz.prog H 101 (adr v i) (.int .u64 (y:Int))=some H'/\Ym n H' v ((L++[y])++zs.drop (i+1))/\T0 (YJ v) H H'/\KA n H H':=by obtain⟨H',h1,h2,h3,h4,h5⟩:=h.put (i:=i) (by simp;omega) y;refine⟨H',h1,?_,⟨h3,fun j _ hj=>h4 j hj⟩,h5⟩;rw[List.drop_eq_getElem_cons hi,WG _ _ _ _ hL]at h2;simpa using h2
theorem Ym.loadAt{n:Nat}{H:AH}{v:Value}{L zs:List Nat}{i:Nat}(h:Ym n H v (L++zs.drop i))(hL:L.length=i)(hi:i<zs.length):Z4 Tryz.prog H 101 (adr v i)=some (.int .u64 (nth zs i:Int)):=by have:=h.sl.load (i:=i) (by simp;omega);rw[this,XQ hi];congr 3;rw[List.getElem_append_right (by omega)];simp[hL]
def RQ(xs:List Nat)(f t:Nat):List Nat:=YS ((xs.drop (min f xs.length)).take (min t xs.length-min f xs.length))
theorem cT{H:AH}{v:Value}{xs:List Nat}(hv:Sl H v xs)(h0:0<xs.length)(lx:xs.length<=17592186044416){f t:Nat}(hft:f<=t):CW Tryz.prog Zy 225 [v,.int .i64 (f:Int),.int .i64 (t:Int)] H fun v' H'=>H'=H/\Sl H v' (RQ xs f t):=by
 refine Z8 32 Tryz.func225 ?_;have l1:=hv.len Zv;obtain⟨f',sX⟩: ∃f',f'=min f xs.length:=⟨_,rfl⟩;obtain⟨t',bT⟩: ∃t',t'=min t xs.length:=⟨_,rfl⟩;have m1:=AA f xs.length;have m2:=AA t xs.length;rw[<-sX]at m1;rw[<-bT]at m2;have hle:f'<=t':=by omega
 have mI:t'<=xs.length:=by omega
 unfold RQ;rw[<-sX,<-bT];apply Zb;intro b1 Ze;simp;subst Ze;apply Zb;intro b1 Ze;simp[l1,m1,m2];subst Ze;apply Zh;intro b1 Ze;apply ZS;refine YQ (fun m s=>s.k=32/\s.H=H/\f'+m<=t'/\YS ((xs.drop f').take m)=YS ((xs.drop f').take (t'-f'))/\s.tm.get 0=some v/\s.tm.get 1=some (.int .i64 (f':Int))/\s.tm.get 2=some (.int .i64 ((f'+m:Nat):Int))) ?_ (t'-f') _ ⟨rfl,rfl,by omega,rfl,by simp,by simp,by simp;omega⟩;rintro m ⟨k,tm,H'⟩ ⟨hk,hH,hm,ht,t0,t1,t2⟩ Q' Y4;simp only at hk hH t0 t1 t2;subst hk;subst hH;apply Zh;intro b2 Zx;apply Zb;intro b3 Z9;have fin: ∀Xg:Tr Value,Xg.get 0=some v->Xg.get 1=some (.int .i64 (f':Int))->Xg.get 2=some (.int .i64 ((f'+m:Nat):Int))->YS ((xs.drop f').take m)=(xs.drop f').take m->Q' (.exit 0) ⟨32,Xg,H'⟩:=fun Xg t0 t1 t2 he=>by apply Y4;left;refine⟨rfl,?_⟩;subst Ze;obtain⟨w,c1,c2⟩:=hv.partAny Zv (f:=f') (m:=m) (by omega) h0;apply Zb;intro b4 Yz;simp[t0,t1,t2,c1];subst Yz;apply Zu;simp;rw[<-ht,he];exact c2
 by_cases hz:m=0
 ·have g0:Zd .gtr .i64 ((f'+m:Nat):Int) (f':Int)=some (.bool false):=by rw[WW,decide_eq_false];omega
  simp[t1,t2,g0];subst Z9;refine Za (t:=false) (by simp) ?_;apply YP;exact fin _ (by simp[t0]) (by simp[t1]) (by simp[t2]) (by rw[hz];rfl)
 ·have g0:Zd .gtr .i64 ((f'+m:Nat):Int) (f':Int)=some (.bool true):=by rw[WW,decide_eq_true];omega
  have hi:f'+m-1<xs.length:=by omega
  have a1:=hv.adr Zv (k:= .i64) hi;have d1:=hv.load hi;have PZ:(xs.drop f').take m=(xs.drop f').take (m-1)++[xs[f'+m-1]]:=by have:=Xo (xs:=xs.drop f') (i:=m-1) (by rw[List.length_drop];omega);rw[show m-1+1=m by omega]at this;rw[this,List.getElem_drop];congr 3;omega
  have s1:Zd .sub .i64 ((f'+m:Nat):Int) 1=some (.int .i64 ((f'+m-1:Nat):Int)):=Uf (by omega) (by omega);simp[t0,t1,t2,g0,s1,a1,d1,Ws];subst Z9;by_cases h0:xs[f'+m-1]=0;·refine Za (t:=true) (by simp[h0]) ?_;apply Zr;subst Zx;apply ZS;apply Zk;simp[t2,s1];apply Y4;refine⟨m-1,by omega,rfl,rfl,by show f'+(m-1)<=t';omega,?_,by simp[t0],by simp[t1],by simp;omega⟩;rw[<-ht,PZ,h0,VE]
  ·refine Za (t:=false) (by simp[h0]) ?_;apply YP;exact fin _ (by simp[t0]) (by simp[t1]) (by simp[t2]) (by rw[PZ];exact S6 _ _ h0)
theorem Ta{n0:Nat}{H:AH}{va vb:Value}{zs ys:List Nat}{a:Nat}(ha:Ym n0 H va zs)(hb:Sl H vb ys)(ap:Vq va vb)(dz:YG Zc zs)(dy:YG Zc ys)(lz:zs.length<=17592186044416)(ly:ys.length<=17592186044416)(haz:a<=zs.length)(room:dv Zc zs+Zc^a*dv Zc ys<Zc^zs.length):CW Tryz.prog Zy 224 [va,vb,.int .i64 (a:Int)] H fun v' H'=>T0 (YJ va) H H'/\KA n0 H H'/\ ∃zs',zs'.length=zs.length/\YG Zc zs'/\dv Zc zs'=dv Zc zs+Zc^a*dv Zc ys/\Ym n0 H' va zs':=by
 refine Z8 53 Tryz.func224 ?_;have l2:=hb.len Zv;apply Zb;intro b1 Ze;simp;subst Ze;apply Zb;intro b1 Ze;simp;subst Ze;apply ZS;refine YQ (fun m s=>s.k=53/\T0 (YJ va) H s.H/\KA n0 H s.H/\ ∃(i c:Nat) (L:List Nat),m+i=zs.length/\a<=i/\L.length=i/\c<=1/\YG Zc L/\dv Zc L+Zc^i*c=dv Zc (zs.take i)+Zc^a*dv Zc (ys.take (i-a))/\Ym n0 s.H va (L++zs.drop i)/\s.tm.get 0=some va/\s.tm.get 1=some vb/\s.tm.get 2=some (.int .i64 (a:Int))/\s.tm.get 6=some (.int .u64 (c:Int))/\s.tm.get 7=some (.int .i64 (i:Int))) ?_ (zs.length-a) _ ⟨rfl,.refl _ _,.refl _ _,a,0,zs.take a,by omega,Nat.le_refl _,by rw[List.length_take];omega,by omega,dz.take a,by simp[dv],by rw[List.take_append_drop];exact ha,by simp,by simp,by simp,by simp,by simp⟩;rintro m ⟨k,tm,H2⟩ ⟨hk,bt,ka,i,c,L,Kk,hai,hL,hc,dL,heq,own,t0,t1,t2,t6,t7⟩ Q' Y4;simp only at hk bt ka own t0 t1 t2 t6 t7;subst hk;have sb:=hb.but bt ap;have l1:=own.sl.len Zv;rw[show(L++zs.drop i).length=zs.length by simp;omega]at l1;have s1:Zd .sub .i64 (i:Int) (a:Int)=some (.int .i64 ((i-a:Nat):Int)):=Oe (by omega) hai;apply Zh;intro b2 Zx;apply Zb;intro b3 Z9;have on: ∀Xg:Tr Value,i<zs.length->Xg.get 25=some (.bool true)->Xg.get 0=some va->Xg.get 1=some vb->Xg.get 2=some (.int .i64 (a:Int))->Xg.get 6=some (.int .u64 (c:Int))->Xg.get 7=some (.int .i64 (i:Int))->W Tryz.prog Zy b3 ⟨53,Xg,H2⟩ (Yx Tryz.prog Zy b2 Q'):=fun Xg hi t25 t0 t1 t2 t6 t7=>by
  subst Z9;refine Za (t:=true) (by simp[t25]) ?_;apply Zr;subst Zx;obtain⟨y,hy⟩:=hid (nth ys (i-a));have CF:y<Zc:=by rw[hy];exact V9 dy (by decide) _
  obtain⟨x,hx⟩:=hid (nth zs i);have Fu:x<Zc:=by rw[hx];exact V9 dz (by decide) _
  have d0:=own.loadAt hL hi;rw[<-hx]at d0;have a0:=own.sl.adr Zv (k:= .i64) (i:=i) (by simp;omega);obtain⟨z,hz⟩:=hid ((x+y+c)%Zc);obtain⟨c',Mn⟩: ∃c',c'=(x+y+c)/Zc:=⟨_,rfl⟩;have hzc:Zc*c'+z=x+y+c:=by rw[hz,Mn];exact Nat.div_add_mod _ _
  have CE:z<Zc:=by rw[hz];exact Nat.mod_lt _ (by decide)
  have NR:c'<=1:=by
   have:c'<2:=by rw[Mn,Nat.div_lt_iff_lt_mul (by decide)];omega
   omega
  have ac:ZY Tryz.prog Zy 203 [.int .u64 (x:Int),.int .u64 (y:Int),.int .u64 (c:Int)] H2=some (.tuple #[.int .u64 (z:Int),.int .u64 (c':Int)],H2):=by rw[hz,Mn];exact Qa x y c H2 hc
  obtain⟨H3,TJ,Sh,rp,O5⟩:=own.fillAt hL hi z;apply Zh;intro b2 Zx;apply ZS;apply Zb;intro b3 Z9;simp;subst Z9;refine Y8 (fun s'=>s'.k=53/\s'.H=H2/\s'.tm.get 0=some va/\s'.tm.get 1=some vb/\s'.tm.get 2=some (.int .i64 (a:Int))/\s'.tm.get 6=some (.int .u64 (c:Int))/\s'.tm.get 7=some (.int .i64 (i:Int))/\s'.tm.get 8=some (.int .u64 (y:Int))) ?_ ?_
  ·intro Gd We;apply Zb;intro b3 Z9;simp[t1,t2,t7,s1,l2];subst Z9;by_cases Wk:i-a<ys.length;·refine Za (t:=true) (by simp[Wk]) ?_;have a1:=sb.adr Zv (k:= .i64) Wk;have d1:=sb.load Wk;rw[<-XQ Wk,<-hy]at d1;apply Zk;simp[t1,t2,t7,s1,a1,d1];apply We;exact⟨rfl,rfl,by simp[t0],by simp[t1],by simp[t2],by simp[t6],by simp[t7],by simp⟩
   ·refine Za (t:=false) (by simp[Wk]) ?_;apply Zr;apply We;rw[Vn (by omega)]at hy;subst hy;exact⟨rfl,rfl,by simp[t0],by simp[t1],by simp[t2],by simp[t6],by simp[t7],by simp⟩
  clear t0 t1 t2 t6 t7;rintro⟨k,tm,H4⟩ ⟨hk,hH,t0,t1,t2,t6,t7,t8⟩;simp only at hk hH t0 t1 t2 t6 t7 t8;subst hk;subst hH;apply Zk;simp[t0,t6,t7,t8,a0,d0,ac,TJ];subst Zx;apply Zk;simp[t7,YR (x:=i) (by omega)];apply Y4;refine⟨m-1,by omega,rfl,bt.trans rp,ka.trans O5,i+1,c',L++[z],by omega,by omega,by simp[hL],NR,dL.append (.cons CE (.nil _)),?_,Sh,by simp[t0],by simp[t1],by simp[t2],by simp,by simp⟩;rw[Yt,hL,XS,show i+1-a=(i-a)+1 by omega,XS,<-hx,<-hy];simp only[dv,Nat.mul_zero,Nat.add_zero];have e1:Zc^i*(Zc*c'+z)=Zc^i*(x+y+c):=by rw[hzc]
  rw[Nat.mul_add,<-Nat.mul_assoc,show Zc^i*Zc=Zc^(i+1)from rfl,Nat.mul_add,Nat.mul_add]at e1;have e2:Zc^a*(Zc^(i-a)*y)=Zc^i*y:=by rw[<-Nat.mul_assoc,<-Nat.pow_add,show a+(i-a)=i by omega]
  rw[Nat.mul_add (Zc^a),e2];omega
 have stop: ∀Xg:Tr Value,(i=zs.length\/(ys.length<=i-a/\c=0))->Xg.get 25=some (.bool false)->W Tryz.prog Zy b3 ⟨53,Xg,H2⟩ (Yx Tryz.prog Zy b2 Q'):=fun Xg he t25=>by
  subst Z9;refine Za (t:=false) (by simp[t25]) ?_;apply YP;apply Y4;left;refine⟨rfl,.inl rfl,bt,ka,L++zs.drop i,by simp;omega,dL.append (dz.drop _),?_,own⟩;have e1:=Uy Zc zs i (by omega);rw[Yt,hL];rcases he with rfl|⟨hy,rfl⟩
  ·rw[List.drop_length,List.take_length]at*;simp only[dv,Nat.mul_zero,Nat.add_zero]at*;have tZ:dv Zc ys<Zc^(zs.length-a):=by
    have h1:Zc^a*dv Zc ys<Zc^a*Zc^(zs.length-a):=by rw[<-Nat.pow_add,show a+(zs.length-a)=zs.length by omega];omega
    exact Nat.lt_of_mul_lt_mul_left h1
   rw[Pd (by decide) tZ]at heq;rcases Nat.lt_or_ge c 1 with h0|h0
   ·obtain rfl:c=0:=by omega
    rw[Nat.mul_zero]at heq;omega
   ·obtain rfl:c=1:=by omega
    rw[Nat.mul_one]at heq;omega
  ·rw[List.take_of_length_le hy]at heq;rw[Nat.mul_zero]at heq;omega
 by_cases hi:i<zs.length
 ·by_cases hy:i-a<ys.length;·simp[t0,t1,t2,t6,t7,l1,l2,hi,s1,hy];show W _ _ b3 _ _;exact on _ hi (by simp) (by simp[t0]) (by simp[t1]) (by simp[t2]) (by simp[t6]) (by simp[t7])
  ·by_cases J0:0<c;·simp[t0,t1,t2,t6,t7,l1,l2,hi,s1,hy,K7,J0];show W _ _ b3 _ _;exact on _ hi (by simp) (by simp[t0]) (by simp[t1]) (by simp[t2]) (by simp[t6]) (by simp[t7])
   ·simp[t0,t1,t2,t6,t7,l1,l2,hi,s1,hy,K7,J0];show W _ _ b3 _ _;exact stop _ (.inr ⟨by omega,by omega⟩) (by simp)
 ·simp[t0,t1,t2,t6,t7,l1,l2,hi];show W _ _ b3 _ _;exact stop _ (.inl (by omega)) (by simp)
def lW(n0:Nat)(H':AH)(v:Value)(len N:Nat):Prop:= ∃zs,zs.length=len/\YG Zc zs/\dv Zc zs=N/\Ym n0 H' v zs
section
variable {H : AH} {va vb : Value} {xs ys : List Nat}
theorem QQ(xs:List Nat)(n:Nat):dv Zc (xs++List.replicate n 0)=dv Zc xs:=by rw[Yt,UF,Nat.mul_zero,Nat.add_zero]
theorem Sr{B:Nat}(hB:0<B)(n:Nat):YG B (List.replicate n 0):=fun x hx=>by rw[List.eq_of_mem_replicate hx];exact hB
theorem DJ(ha:Sl H va xs)(hb:Sl H vb ys)(dx:YG Zc xs)(dy:YG Zc ys)(lx:xs.length<=17592186000000)(ly:ys.length<=17592186000000):CW Tryz.prog Zy 227 [va,vb] H fun v H'=>Zg H H'/\lW H.n H' v (max xs.length ys.length+1) (dv Zc xs+dv Zc ys):=by
 refine Z8 20 Tryz.func227 ?_;have l1:=ha.len Zv;have l2:=hb.len Zv;obtain⟨n,hn⟩:=hid (max xs.length ys.length);have mx:=nX xs.length ys.length;rw[<-hn]at mx⊢;obtain⟨c0,H1,RC,k1,o1,n1⟩:=YL (H:=H) Zv (n:=n+1) (by omega);obtain⟨u,H2,mV,o2,bt2,kN⟩:=o1.copy (ha.keep k1) (by simp;omega) Zv Zv;have k2:Zg H H2:=kN H k1 (Nat.le_refl _);rw[List.drop_replicate]at o2;have apc:Vq c0 vb:=fun c hc Mn=>by have a:=(o1.blk_lo hc).1;have b:=hb.blk_lt Mn;omega
 have hlen:(xs++List.replicate (n+1-xs.length) 0).length=n+1:=by simp;omega
 obtain⟨w,H3,yo,rp,O5,zs,lz,dz,vz,oz⟩:=Ta (a:=0) o2 ((hb.keep k1).but bt2 apc) apc (dx.append (Sr (by decide) _)) dy (by omega) (by omega) (Nat.zero_le _) (by rw[hlen,QQ,Nat.pow_zero,Nat.one_mul];have h1:=X3 dx;have h2:=X3 dy;have h3:Zc^xs.length<=Zc^n:=Nat.pow_le_pow_right (by decide) (by omega);have h4:Zc^ys.length<=Zc^n:=Nat.pow_le_pow_right (by decide) (by omega);have h5:Zc^(n+1)=Zc^n*18446744073709551616:=rfl;omega);rw[hlen]at lz;rw[QQ,Nat.pow_zero,Nat.one_mul]at vz;have yo:ZY Tryz.prog Zy 224 [c0,vb,.int .i64 0] H2=some (w,H3):=yo;apply Zb;intro b1 Ze;simp;subst Ze;apply Zb;intro b1 Ze;simp[l1,l2,mx,YR (x:=n) (by omega),RC];subst Ze;apply Zb;intro b1 Ze;simp[mV];subst Ze;apply Zb;intro b1 Ze;simp[yo];subst Ze;apply Zb;intro b1 Ze;simp;subst Ze;apply Zu;simp;exact⟨O5 H k2 (Nat.le_refl _),zs,lz,dz,vz,oz⟩
theorem Ht(ha:Sl H va xs)(hb:Sl H vb ys)(dx:YG Zc xs)(dy:YG Zc ys)(lx:xs.length<=17592186000000)(ly:ys.length<=17592186000000)(hle:dv Zc ys<=dv Zc xs):CW Tryz.prog Zy 226 [va,vb] H fun v H'=>Zg H H'/\lW H.n H' v xs.length (dv Zc xs-dv Zc ys):=by
 refine Z8 43 Tryz.func226 ?_;have l1:=ha.len Zv;have l2:=hb.len Zv;obtain⟨n,hn⟩:=hid (xs.length);rw[<-hn]at l1⊢;obtain⟨c0,H1,RC,k1,o1,n1⟩:=YL (H:=H) Zv (n:=n) (by omega);obtain⟨u,H2,mV,o2,bt2,kN⟩:=o1.copy (ha.keep k1) (by simp;omega) Zv Zv;have k2:Zg H H2:=kN H k1 (Nat.le_refl _);rw[List.drop_replicate,hn,Nat.sub_self,List.replicate_zero,List.append_nil]at o2;have l0:=o2.sl.len Zv;rw[<-hn]at l0;apply Zb;intro b1 Ze;simp;subst Ze;apply Zb;intro b1 Ze;simp[l1,RC];subst Ze;apply Zb;intro b1 Ze;simp[mV];subst Ze;apply Zb;intro b1 Ze;simp;subst Ze;apply Zh;intro b1 Ze;apply Zb;intro b2 Zx;simp[l0];subst Zx;apply ZS;refine YQ (fun m s'=>s'.k=43/\Zg H s'.H/\ ∃(i SY:Nat) (L:List Nat),m+i=n/\L.length=i/\SY<=1/\YG Zc L/\dv Zc L+dv Zc (ys.take i)=dv Zc (xs.take i)+Zc^i*SY/\Ym H.n s'.H c0 (L++xs.drop i)/\s'.tm.get 1=some vb/\s'.tm.get 5=some c0/\s'.tm.get 6=some (.int .u64 (SY:Int))/\s'.tm.get 16=some (.int .i64 (n:Int))/\s'.tm.get 17=some (.int .i64 (i:Int))) ?_ n _ ⟨rfl,k2,0,0,[],by omega,rfl,by omega,.nil _,by simp[dv],by simpa using o2,by simp,by simp,by simp,by simp,by simp⟩;rintro m ⟨k,tm,H3⟩ ⟨hk,kH,i,SY,L,Kk,hL,hbr,dL,heq,own,t1,t5,t6,t16,t17⟩ Q' Y4;simp only at hk kH own t1 t5 t6 t16 t17;subst hk;apply Zb;intro b3 Z9;simp[t16,t17];subst Z9;apply Zh;intro b3 Z9;by_cases hi:i<n
 ·refine Za (t:=true) (by simp[hi]) ?_;apply Zr;subst Z9;have UN:i<xs.length:=by omega
  have sb:=hb.keep kH;obtain⟨y,hy⟩:=hid (nth ys i);have CF:y<Zc:=by rw[hy];exact V9 dy (by decide) _
  obtain⟨x,hx⟩:=hid (nth xs i);have Fu:x<Zc:=by rw[hx];exact V9 dx (by decide) _
  have d0:=own.loadAt hL UN;rw[<-hx]at d0;have a0:=own.sl.adr Zv (k:= .i64) (i:=i) (by simp;omega);obtain⟨z,hz⟩:=hid ((x+Zc-y-SY)%Zc);obtain⟨b',Wk⟩: ∃b',b'=(if x<y+SY then 1 else 0):=⟨_,rfl⟩;have CE:z<Zc:=by rw[hz];exact Nat.mod_lt _ (by decide)
  have MS:b'<=1:=by rw[Wk];split<;>omega
  have Re:z+y+SY=x+Zc*b':=by
   by_cases h:x<y+SY;·rw[hz,Wk,if_pos h,Nat.mod_eq_of_lt (by omega)];omega
   ·rw[hz,Wk,if_neg h];have:x+Zc-y-SY=(x-y-SY)+Zc:=by omega
    rw[this,Nat.add_mod_right,Nat.mod_eq_of_lt (by omega)];omega
  have sc:ZY Tryz.prog Zy 206 [.int .u64 (x:Int),.int .u64 (y:Int),.int .u64 (SY:Int)] H3=some (.tuple #[.int .u64 (z:Int),.int .u64 (b':Int)],H3):=by rw[hz,Wk];exact QW x y SY H3 hbr
  obtain⟨H4,Wx,Vz,ru,VX⟩:=own.fillAt hL UN z;apply Zh;intro b3 Z9;apply ZS;apply Zb;intro b4 Yz;simp[t17];subst Yz;apply Zb;intro b4 Yz;simp;subst Yz;refine Y8 (fun s'=>s'.k=43/\s'.H=H3/\s'.tm.get 1=some vb/\s'.tm.get 5=some c0/\s'.tm.get 6=some (.int .u64 (SY:Int))/\s'.tm.get 7=some (.int .i64 (i:Int))/\s'.tm.get 8=some (.int .u64 (y:Int))/\s'.tm.get 16=some (.int .i64 (n:Int))/\s'.tm.get 17=some (.int .i64 (i:Int))) ?_ ?_
  ·intro Gd We;apply Zb;intro b4 Yz;simp[t1,l2];subst Yz;by_cases JA:i<ys.length;·refine Za (t:=true) (by simp[JA]) ?_;have a1:=sb.adr Zv (k:= .i64) JA;have d1:=sb.load JA;rw[<-XQ JA,<-hy]at d1;apply Zk;simp[t1,a1,d1];apply We;exact⟨rfl,rfl,by simp[t1],by simp[t5],by simp[t6],by simp,by simp,by simp[t16],by simp[t17]⟩
   ·refine Za (t:=false) (by simp[JA]) ?_;apply Zr;apply We;rw[Vn (by omega)]at hy;subst hy;exact⟨rfl,rfl,by simp[t1],by simp[t5],by simp[t6],by simp,by simp,by simp[t16],by simp[t17]⟩
  clear t1 t5 t6 t16 t17;rintro⟨k,tm,H5⟩ ⟨hk,hH,t1,t5,t6,t7,t8,t16,t17⟩;simp only at hk hH t1 t5 t6 t7 t8 t16 t17;subst hk;subst hH;apply Zk;simp[t5,t6,t7,t8,a0,d0,sc,Wx];subst Z9;apply Zk;simp[t17,YR (x:=i) (by omega)];apply Y4;refine⟨m-1,by omega,rfl,VX H kH (Nat.le_refl _),i+1,b',L++[z],by omega,by simp[hL],MS,dL.append (.cons CE (.nil _)),?_,Vz,by simp[t1],by simp[t5],by simp,by simp[t16],by simp⟩;rw[Yt,hL,XS,XS,<-hx,<-hy];simp only[dv,Nat.mul_zero,Nat.add_zero];have e1:Zc^i*(z+y+SY)=Zc^i*(x+Zc*b'):=by rw[Re]
  rw[Nat.mul_add (Zc^i) x,<-Nat.mul_assoc,show Zc^i*Zc=Zc^(i+1)from rfl,Nat.mul_add,Nat.mul_add]at e1;omega
 ·refine Za (t:=false) (by simp[hi]) ?_;apply YP;apply Y4;left;refine⟨rfl,?_⟩;obtain rfl:i=n:=by omega
  have tu:=X3 dx;rw[<-hn]at tu;rw[List.take_of_length_le (l:=xs) (by omega),Pd (by decide) (Nat.lt_of_le_of_lt hle tu)]at heq;have pF:=X3 dL;rw[hL]at pF;have hval:dv Zc L=dv Zc xs-dv Zc ys:=by
   rcases Nat.lt_or_ge SY 1 with h0|h0
   ·obtain rfl:SY=0:=by omega
    rw[Nat.mul_zero]at heq;omega
   ·obtain rfl:SY=1:=by omega
    rw[Nat.mul_one]at heq;omega
  rw[List.drop_of_length_le (by omega),List.append_nil]at own;subst Ze;apply Zb;intro b4 Yz;simp[t5];subst Yz;apply Zu;simp;exact⟨kH,L,hL,dL,hval,own⟩
theorem jf {x y o c : Nat} (hx : x < Zc) (hy : y < Zc) (ho : o < Zc) (hc : c < Zc) :
    let p := x * y; let l := (p % Zc + c) % Zc; let h := p / Zc + (p % Zc + c) / Zc
    h < Zc /\ h + (o + l) / Zc < Zc /\ (o + l) % Zc + Zc * (h + (o + l) / Zc) = o + x * y + c := by
  intro p l h
  have hx : x < 18446744073709551616 := hx
  have hy : y < 18446744073709551616 := hy
  have ho : o < 18446744073709551616 := ho
  have hc : c < 18446744073709551616 := hc
  have hp : p <= 18446744073709551615 * 18446744073709551615 := Nat.mul_le_mul (by omega) (by omega)
  show p / 18446744073709551616 + (p % 18446744073709551616 + c) / 18446744073709551616 < 18446744073709551616 /\ p / 18446744073709551616 + (p % 18446744073709551616 + c) / 18446744073709551616 + (o + (p % 18446744073709551616 + c) % 18446744073709551616) / 18446744073709551616 < 18446744073709551616 /\
    (o + (p % 18446744073709551616 + c) % 18446744073709551616) % 18446744073709551616 + 18446744073709551616 * (p / 18446744073709551616 + (p % 18446744073709551616 + c) / 18446744073709551616 + (o + (p % 18446744073709551616 + c) % 18446744073709551616) / 18446744073709551616) = o + p + c
  clear_value p
  omega
theorem Dz(ha:Sl H va xs)(hb:Sl H vb ys)(dx:YG Zc xs)(dy:YG Zc ys)(lx:xs.length<=8000000000000)(ly:ys.length<=8000000000000):CW Tryz.prog Zy 223 [va,vb] H fun v H'=>Zg H H'/\lW H.n H' v (xs.length+ys.length) (dv Zc xs*dv Zc ys):=by
 refine Z8 78 Tryz.func223 ?_;have l1:=ha.len Zv;have l2:=hb.len Zv;obtain⟨la,kS⟩:=hid (xs.length);obtain⟨lb,AW⟩:=hid (ys.length);rw[<-kS]at l1⊢;rw[<-AW]at l2⊢;obtain⟨c0,H1,RC,k1,o1,n1⟩:=YL (H:=H) Zv (n:=la+lb) (by omega);have ad:Zd .add .i64 (la:Int) (lb:Int)=some (.int .i64 ((la+lb:Nat):Int)):=WK (by omega);apply Zb;intro b1 Ze;simp;subst Ze;apply Zb;intro b1 Ze;simp[l1,l2,ad,RC];subst Ze;apply Zh;intro b1 Ze;apply Zb;intro b2 Zx;simp[l1];subst Zx;apply ZS;refine YQ (fun m s'=>s'.k=78/\Zg H s'.H/\ ∃(i:Nat) (O:List Nat),m+i=la/\O.length=la+lb/\YG Zc O/\(∀j,i+lb<=j->nth O j=0)/\dv Zc O=dv Zc (xs.take i)*dv Zc ys/\Ym H.n s'.H c0 O/\s'.tm.get 1=some vb/\s'.tm.get 5=some c0/\s'.tm.get 20=some va/\s'.tm.get 21=some (.int .i64 (la:Int))/\s'.tm.get 22=some (.int .i64 (i:Int))) ?_ la _ ⟨rfl,k1,0,List.replicate (la+lb) 0,by omega,by simp,Sr (by decide) _,fun j _=>by
  by_cases hj:j<(List.replicate (la+lb) 0).length;·rw[XQ hj];simp
  ·exact Vn (by omega),by simp[dv,UF],o1,by simp,by simp,by simp,by simp,by simp⟩;rintro m ⟨k,tm,H2⟩ ⟨hk,kH,i,O,Kk,hO,dO,hz,heq,own,t1,t5,t20,t21,t22⟩ Q' Y4;simp only at hk kH own t1 t5 t20 t21 t22;subst hk;apply Zb;intro b3 Z9;simp[t21,t22];subst Z9;apply Zh;intro b3 Z9;by_cases hi:i<la
 ·refine Za (t:=true) (by simp[hi]) ?_;apply Zr;subst Z9;have UN:i<xs.length:=by omega
  have sa:=ha.keep kH;have a1:=sa.adr Zv (k:= .i64) UN;have d1:=sa.load UN;obtain⟨x,hx⟩:=hid (xs[i]);have Fu:x<Zc:=by rw[hx];exact dx.get (List.getElem?_eq_getElem UN)
  rw[<-hx]at d1;apply Zh;intro b3 Z9;apply ZS;apply Zb;intro b4 Yz;simp[t20,t22,a1,d1];subst Yz;apply Zb;intro b4 Yz;simp;subst Yz;refine Y8 (fun s'=>s'.k=78/\Zg H s'.H/\ ∃(c:Nat) (O2:List Nat),c<Zc/\O2.length=la+lb/\YG Zc O2/\(∀j,i+lb<=j->nth O2 j=0)/\dv Zc O2+Zc^(i+lb)*c=dv Zc O+Zc^i*(x*dv Zc ys)/\Ym H.n s'.H c0 O2/\s'.tm.get 1=some vb/\s'.tm.get 5=some c0/\s'.tm.get 6=some (.int .i64 (i:Int))/\s'.tm.get 8=some (.int .u64 (c:Int))/\s'.tm.get 20=some va/\s'.tm.get 21=some (.int .i64 (la:Int))/\s'.tm.get 22=some (.int .i64 (i:Int))) ?_ ?_
  ·intro Gd We;apply Zb;intro b4 Yz;simp[t1,l2];subst Yz;apply ZS;refine YQ (fun m s'=>s'.k=78/\Zg H s'.H/\ ∃(j c:Nat) (O2:List Nat),m+j=lb/\c<Zc/\O2.length=la+lb/\YG Zc O2/\(∀j,i+lb<=j->nth O2 j=0)/\dv Zc O2+Zc^(i+j)*c=dv Zc O+Zc^i*(x*dv Zc (ys.take j))/\Ym H.n s'.H c0 O2/\s'.tm.get 1=some vb/\s'.tm.get 5=some c0/\s'.tm.get 6=some (.int .i64 (i:Int))/\s'.tm.get 7=some (.int .u64 (x:Int))/\s'.tm.get 8=some (.int .u64 (c:Int))/\s'.tm.get 20=some va/\s'.tm.get 21=some (.int .i64 (la:Int))/\s'.tm.get 22=some (.int .i64 (i:Int))/\s'.tm.get 27=some vb/\s'.tm.get 28=some (.int .i64 (lb:Int))/\s'.tm.get 29=some (.int .i64 (j:Int))) ?_ lb _ ⟨rfl,kH,0,0,O,by omega,by decide,hO,dO,hz,by simp[dv],own,by simp[t1],by simp[t5],by simp,by simp,by simp,by simp[t20],by simp[t21],by simp[t22],by simp[t1],by simp,by simp⟩;clear t1 t5 t20 t21 t22;rintro m2 ⟨k,tm,H3⟩ ⟨hk,J8,j,c,O2,hmj,hc,mv,fq,EP,MP,Qv,t1,t5,t6,t7,t8,t20,t21,t22,t27,t28,t29⟩ Q5 mw;simp only at hk J8 Qv t1 t5 t6 t7 t8 t20 t21 t22 t27 t28 t29;subst hk;apply Zb;intro b5 SP;simp[t28,t29];subst SP;apply Zh;intro b5 SP;by_cases hj:j<lb
   ·refine Za (t:=true) (by simp[hj]) ?_;apply Zr;subst SP;have AX:j<ys.length:=by omega
    have sb3:=hb.keep J8;have a2:=sb3.adr Zv (k:= .i64) AX;have d2:=sb3.load AX;obtain⟨y,hy⟩:=hid (ys[j]);have CF:y<Zc:=by rw[hy];exact dy.get (List.getElem?_eq_getElem AX)
    rw[<-hy]at d2;have Jj:i+j<O2.length:=by omega
    have a3:=Qv.sl.adr Zv (k:= .i64) Jj;have d3:=Qv.sl.load Jj;obtain⟨o,ho⟩:=hid (O2[i+j]);have hoB:o<Zc:=by rw[ho];exact fq.get (List.getElem?_eq_getElem Jj)
    rw[<-ho]at d3;have step:=jf Fu CF hoB hc;simp only at step;obtain⟨ph,yG⟩:=hid (x*y/Zc);obtain⟨pl,bU⟩:=hid (x*y%Zc);rw[<-yG,<-bU]at step;obtain⟨l,hl⟩:=hid ((pl+c)%Zc);obtain⟨c1,NR⟩:=hid ((pl+c)/Zc);rw[<-hl,<-NR]at step;obtain⟨o',mM⟩: ∃o',o'=(o+l)%Zc:=⟨_,rfl⟩;obtain⟨c2,Jd⟩:=hid ((o+l)/Zc);rw[<-mM,<-Jd]at step;obtain⟨SB,TK,TJ⟩:=step;have ho'B:o'<Zc:=by rw[mM];exact Nat.mod_lt _ (by decide)
    have e1:ZY Tryz.prog Zy 202 [.int .u64 (x:Int),.int .u64 (y:Int)] H3=some (.tuple #[.int .u64 (ph:Int),.int .u64 (pl:Int)],H3):=by rw[yG,bU];exact Qs Fu CF H3
    have e2:ZY Tryz.prog Zy 203 [.int .u64 (pl:Int),.int .u64 (c:Int),.int .u64 0] H3=some (.tuple #[.int .u64 (l:Int),.int .u64 (c1:Int)],H3):=by rw[hl,NR];exact Uu pl c H3
    have e3:Zd .add .u64 (ph:Int) (c1:Int)=some (.int .u64 ((ph+c1:Nat):Int)):=XD SB;have e4:ZY Tryz.prog Zy 203 [.int .u64 (o:Int),.int .u64 (l:Int),.int .u64 0] H3=some (.tuple #[.int .u64 (o':Int),.int .u64 (c2:Int)],H3):=by rw[mM,Jd];exact Uu o l H3
    have e5:Zd .add .u64 ((ph+c1:Nat):Int) (c2:Int)=some (.int .u64 ((ph+c1+c2:Nat):Int)):=XD TK;have e6:Zd .add .i64 (i:Int) (j:Int)=some (.int .i64 ((i+j:Nat):Int)):=WK (by omega);obtain⟨H4,Wx,Vz,n4,ru,VX⟩:=Qv.put (i:=i+j) Jj o';apply Zh;intro b5 SP;apply ZS;apply Zb;intro b6 Px;simp[t27,t29,a2,d2];subst Px;apply Zb;intro b6 Px;simp[t7,e1];subst Px;apply Zb;intro b6 Px;simp;subst Px;apply Zb;intro b6 Px;simp[t8,e2];subst Px;apply Zb;intro b6 Px;simp[e3];subst Px;apply Zb;intro b6 Px;simp[t5,t6,e6,a3,d3,e4,Wx];subst Px;apply Zk;simp[e5];subst SP;apply Zk;simp[t29,YR (x:=j) (by omega)];apply mw;refine⟨m2-1,by omega,rfl,VX H J8 (Nat.le_refl _),j+1,ph+c1+c2,O2.set (i+j) o',by omega,TK,by simp[mv],fq.set ho'B,fun q hq=>by rw[Kq (by omega)];exact EP q hq,?_,Vz,by simp[t1],by simp[t5],by simp[t6],by simp[t7],by simp,by simp[t20],by simp[t21],by simp[t22],by simp[t27],by simp[t28],by simp⟩;have ds:=MY Zc O2 (i+j) o' Jj;rw[<-ho]at ds;rw[Xo AX,Yt,List.length_take,Nat.min_eq_left (by omega),<-hy];simp only[dv,Nat.mul_zero,Nat.add_zero];generalize ph+c1+c2=cc at*;have f1:Zc^(i+j)*(o'+Zc*cc)=Zc^(i+j)*(o+x*y+c):=by rw[TJ]
    rw[Nat.mul_add,<-Nat.mul_assoc (Zc^(i+j)) Zc,show Zc^(i+j)*Zc=Zc^(i+(j+1))from rfl,Nat.mul_add,Nat.mul_add]at f1;have f2:Zc^i*(x*(dv Zc (ys.take j)+Zc^j*y))=Zc^i*(x*dv Zc (ys.take j))+Zc^(i+j)*(x*y):=by rw[Nat.mul_add x,Nat.mul_add (Zc^i),Nat.pow_add,Nat.mul_left_comm x (Zc^j) y,Nat.mul_assoc (Zc^i)]
    rw[f2];omega
   ·refine Za (t:=false) (by simp[hj]) ?_;apply YP;apply mw;left;obtain rfl:j=lb:=by omega
    rw[List.take_of_length_le (by omega)]at MP;exact⟨rfl,We _ ⟨rfl,J8,c,O2,hc,mv,fq,EP,MP,Qv,by simp[t1],by simp[t5],by simp[t6],by simp[t8],by simp[t20],by simp[t21],by simp[t22]⟩⟩
  clear t1 t5 t20 t21 t22;rintro⟨k,tm,H3⟩ ⟨hk,J8,c,O2,hc,mv,fq,EP,MP,Qv,t1,t5,t6,t8,t20,t21,t22⟩;simp only at hk J8 Qv t1 t5 t6 t8 t20 t21 t22;subst hk;have Jj:i+lb<O2.length:=by omega
  have a3:=Qv.sl.adr Zv (k:= .i64) Jj;have e6:Zd .add .i64 (i:Int) (lb:Int)=some (.int .i64 ((i+lb:Nat):Int)):=WK (by omega);obtain⟨H4,Wx,Vz,n4,ru,VX⟩:=Qv.put (i:=i+lb) Jj c;apply Zk;simp[t1,t5,t6,t8,l2,e6,a3,Wx];subst Z9;apply Zk;simp[t22,YR (x:=i) (by omega)];apply Y4;refine⟨m-1,by omega,rfl,VX H J8 (Nat.le_refl _),i+1,O2.set (i+lb) c,by omega,by simp[mv],fq.set hc,fun q hq=>by rw[Kq (by omega)];exact EP q (by omega),?_,Vz,by simp[t1],by simp[t5],by simp[t20],by simp[t21],by simp⟩;have ds:=MY Zc O2 (i+lb) c Jj;have h0:=EP (i+lb) (Nat.le_refl _);rw[XQ Jj]at h0;rw[h0,Nat.mul_zero,Nat.add_zero]at ds;rw[ds,MP,heq,Xo UN,Yt,List.length_take,Nat.min_eq_left (by omega),<-hx,Nat.add_mul];simp only[dv,Nat.mul_zero,Nat.add_zero];rw[Nat.mul_assoc (Zc^i)]
 ·refine Za (t:=false) (by simp[hi]) ?_;apply YP;apply Y4;left;refine⟨rfl,?_⟩;obtain rfl:i=la:=by omega
  rw[List.take_of_length_le (by omega)]at heq;subst Ze;apply Zb;intro b4 Yz;simp[t5];subst Yz;apply Zu;simp;exact⟨kH,O,hO,dO,heq,own⟩
end
theorem JJ{xs:List Nat}(dx:YG Zc xs)(k:Nat):dv Zc (RQ xs 0 k)=dv Zc (xs.take k)/\(RQ xs 0 k).length<=min k xs.length/\YG Zc (RQ xs 0 k):=by
 unfold RQ;have e:(xs.drop (min 0 xs.length)).take (min k xs.length-min 0 xs.length)=xs.take k:=by
  rw[Nat.zero_min,List.drop_zero,Nat.sub_zero];rcases Nat.le_total k xs.length with h|h;·rw[Nat.min_eq_left h]
  ·rw[Nat.min_eq_right h,List.take_length,List.take_of_length_le h]
 rw[e];refine⟨WX _ _,?_,XH (dx.take k)⟩;have:=XG (xs.take k);rwa[List.length_take]at this
theorem cG{xs:List Nat}(dx:YG Zc xs){k:Nat}(hk:k<=xs.length):dv Zc (RQ xs k xs.length)=dv Zc (xs.drop k)/\(RQ xs k xs.length).length<=xs.length-k/\YG Zc (RQ xs k xs.length):=by unfold RQ;rw[Nat.min_eq_left hk,Nat.min_self,List.take_of_length_le (l:=xs.drop k) (by rw[List.length_drop];omega)];refine⟨WX _ _,?_,XH (dx.drop k)⟩;have:=XG (xs.drop k);rwa[List.length_drop]at this
theorem Nh{xs:List Nat}(dx:YG Zc xs)(k:Nat):dv Zc (RQ xs k xs.length)=dv Zc (xs.drop k)/\(RQ xs k xs.length).length<=xs.length-k/\YG Zc (RQ xs k xs.length):=by
 rcases Nat.lt_or_ge xs.length k with h|h;·unfold RQ;rw[Nat.min_eq_right (a:=k) (by omega),Nat.min_self,Nat.sub_self,List.take_zero,List.drop_eq_nil_of_le (by omega)];exact⟨rfl,Nat.zero_le _,.nil _⟩
 ·exact cG dx h
theorem kara{al ah bl bh:Nat} :(al+ah)*(bl+bh)-al*bl-ah*bh=al*bh+ah*bl/\al*bl<=(al+ah)*(bl+bh)/\ah*bh<=(al+ah)*(bl+bh)-al*bl:=by
 have e:(al+ah)*(bl+bh)=al*bl+al*bh+(ah*bl+ah*bh):=by rw[Nat.add_mul,Nat.mul_add,Nat.mul_add]
 omega
theorem jx{x:Nat}(h:x<9223372036854775808):Zd .quo .i64 (x:Int) 2=some (.int .i64 ((x/2:Nat):Int)):=Ks (y:=2) h (by decide)
def Ky(n0:Nat)(zQ N:Nat)(v:Value)(H':AH):Prop:= ∃len,len<=zQ+1/\lW n0 H' v len N
def dB(N:Nat):Prop:= ∀(H:AH)(va vb:Value)(xs ys:List Nat),Sl H va xs->Sl H vb ys->YG Zc xs->YG Zc ys->xs.length+ys.length<=N-> ∃v H',ZY Tryz.prog Zy 199 [va,vb,.int .i64 40] H=some (v,H')/\Zg H H'/\Ky H.n (xs.length+ys.length) (dv Zc xs*dv Zc ys) v H'
theorem aL{xs ys:List Nat}(dx:YG Zc xs)(dy:YG Zc ys):dv Zc xs*dv Zc ys<Zc^(xs.length+ys.length+1):=by have h1:=X3 dx;have h2:=X3 dy;have h3:dv Zc xs*dv Zc ys<=Zc^xs.length*Zc^ys.length:=Nat.mul_le_mul (Nat.le_of_lt h1) (Nat.le_of_lt h2);rw[<-Nat.pow_add]at h3;have h4:Zc^(xs.length+ys.length)<Zc^(xs.length+ys.length+1):=Nat.pow_lt_pow_right (by decide) (Nat.lt_succ_self _);omega
theorem bm: ∀N,N<=4000000000000->dB N:=by intro N;induction N using Nat.strongRecOn with
 |_ N ih=>
  intro hN H va vb xs ys ha hb dx dy hl;suffices h:CW Tryz.prog Zy 199 [va,vb,.int .i64 40] H fun v H'=>Zg H H'/\Ky H.n (xs.length+ys.length) (dv Zc xs*dv Zc ys) v H' by obtain⟨v,H',h1,h2,h3⟩:=h;exact⟨v,H',h1,h2,h3⟩
  refine Z8 124 Tryz.func199 ?_;apply Zb;intro b1 Ze;simp;subst Ze;refine Y8 (fun s'=>s'.k=124/\s'.H=H/\ ∃(a b:Value) (xa xb:List Nat),Sl H a xa/\Sl H b xb/\YG Zc xa/\YG Zc xb/\xb.length<=xa.length/\xa.length+xb.length=xs.length+ys.length/\dv Zc xa*dv Zc xb=dv Zc xs*dv Zc ys/\s'.tm.get 0=some a/\s'.tm.get 1=some b/\s'.tm.get 2=some (.int .i64 40)) ?_ ?_
  ·intro Q' Y4;have l1:=ha.len Zv;have l2:=hb.len Zv;apply Zb;intro b1 Ze;simp[l1,l2];subst Ze;by_cases h:xs.length<ys.length;·refine Za (t:=true) (by simp[h]) ?_;apply Zk;simp;apply Y4;exact⟨rfl,rfl,vb,va,ys,xs,hb,ha,dy,dx,by omega,by omega,Nat.mul_comm _ _,by simp,by simp,by simp⟩
   ·refine Za (t:=false) (by simp[h]) ?_;apply Zr;apply Y4;exact⟨rfl,rfl,va,vb,xs,ys,ha,hb,dx,dy,by omega,rfl,rfl,by simp,by simp,by simp⟩
  clear ha hb dx dy;rintro⟨k,tm,H0⟩ ⟨hk,hH,a,b,xa,xb,ha,hb,dx,dy,hba,Nl,qs,t0,t1,t2⟩;simp only at hk hH t0 t1 t2;subst hk;subst hH;rw[<-qs,<-Nl];rw[<-Nl]at hl;clear qs Nl;have l1:=ha.len Zv;have l2:=hb.len Zv;obtain⟨la,kS⟩:=hid (xa.length);obtain⟨lb,AW⟩:=hid (xb.length);rw[<-kS]at l1 hl hba⊢;rw[<-AW]at l2 hl hba⊢;have lt40:Zd .lss .i64 (lb:Int) 40=some (.bool (decide (lb<40))):=Z3 (y:=40);have bU:=aL dx dy;rw[<-kS,<-AW]at bU;apply Zh;intro b1 Ze;apply Zb;intro b2 Zx;simp[t1,t2,l2,lt40];subst Zx;by_cases h40:lb<40;·obtain⟨v,H',hc,k,hn⟩:=Dz ha hb dx dy (by omega) (by omega);rw[<-kS,<-AW]at hn;refine Za (t:=true) (by simp[h40]) ?_;apply Zb;intro b2 Zx;simp[t0,t1,hc];subst Zx;apply Zu;simp[Yx];exact⟨k,_,Nat.le_succ _,hn⟩
  ·refine Za (t:=false) (by simp[h40]) ?_;apply Zr;subst Ze;obtain⟨k,hk⟩:=hid ((la+1)/2);have q2:=jx (x:=la+1) (by omega);rw[<-hk]at q2;have ps: ∀{Hx:AH}{f t:Nat}{c:Value}{cs:List Nat},Sl Hx c cs->40<=cs.length->cs.length<=4000000000000->f<=t-> ∃w,ZY Tryz.prog Zy 225 [c,.int .i64 (f:Int),.int .i64 (t:Int)] Hx=some (w,Hx)/\Sl Hx w (RQ cs f t):=fun{Hx f t c cs} hs h1 h2 h3=>by obtain⟨w,H',hc,e,hw⟩:=cT hs (by omega) (by omega) h3;subst e;exact⟨w,hc,hw⟩
   have po:Zd .add .i64 (la:Int) (lb:Int)=some (.int .i64 ((la+lb:Nat):Int)):=WK (by omega);apply Zb;intro b1 Ze;simp[t0,l1,YR (x:=la) (by omega),q2];subst Ze;apply Zh;intro b1 Ze;apply Zb;intro b2 Zx;simp[t1,l2,P0];subst Zx;by_cases vX:lb<=k
   ·obtain⟨c0,H1,RC,k1,o1,n1⟩:=YL (H:=H0) Zv (n:=la+lb+1) (by omega);have a1:=ha.keep k1;have b1':=hb.keep k1;obtain⟨w1,e1,s1⟩:=ps (f:=0) (t:=k) a1 (by omega) (by omega) (Nat.zero_le _);have e1:ZY Tryz.prog Zy 225 [a,.int .i64 0,.int .i64 (k:Int)] H1=some (w1,H1):=e1;obtain⟨v1,z1,d1⟩:=JJ dx k;obtain⟨p1,H2,e2,k2,bI,gR,zs1,lz1,dz1,qH,we⟩:=ih (k+lb) (by omega) (by omega) H1 w1 b (RQ xa 0 k) xb s1 b1' d1 dy (by omega);rw[v1]at qH;have o2:=o1.m k2;have prod:dv Zc (xa.take k)*dv Zc xb+Zc^k*(dv Zc (xa.drop k)*dv Zc xb)=dv Zc xa*dv Zc xb:=by rw[Uy Zc xa k (by omega),Nat.add_mul,Nat.mul_assoc]
    obtain⟨u3,H3,e3,rp,O5,zs3,lz3,dz3,wh,oz3⟩:=Ta (a:=0) o2 we.sl (Uv o1 we (Nat.le_refl _)) (Sr (by decide) _) dz1 (by simp;omega) (by omega) (Nat.zero_le _) (by rw[UF,List.length_replicate,Nat.pow_zero,Nat.one_mul,qH];omega);have e3:ZY Tryz.prog Zy 224 [c0,p1,.int .i64 0] H2=some (u3,H3):=e3;rw[List.length_replicate]at lz3;rw[UF,Nat.pow_zero,Nat.one_mul,Nat.zero_add,qH]at wh;have k3:Zg H0 H3:=O5 H0 (k1.trans k2) (Nat.le_refl _);have a3:=ha.keep k3;have b3':=hb.keep k3;obtain⟨w4,e4,s4⟩:=ps (f:=k) (t:=la) a3 (by omega) (by omega) (by omega);obtain⟨v4,z4,d4⟩:=Nh dx k;rw[<-kS]at v4 z4 d4;obtain⟨p5,H5,e5,k5,len5,hlen5,zs5,lz5,dz5,wi,oz5⟩:=ih (la-k+lb) (by omega) (by omega) H3 w4 b (RQ xa k la) xb s4 b3' d4 dy (by omega);rw[v4]at wi;have o5:=oz3.m k5;obtain⟨u6,H6,e6,bt6,V1,zs6,lz6,dz6,vz6,oz6⟩:=Ta (a:=k) o5 oz5.sl (Uv oz3 oz5 (Nat.le_refl _)) dz3 dz5 (by omega) (by omega) (by omega) (by rw[wh,wi,lz3,prod];exact bU);have k6:Zg H0 H6:=V1 H0 (k3.trans k5) (Nat.le_refl _);refine Za (t:=true) (by simp[vX]) ?_;apply Zb;intro b2 Zx;simp[t0,t1,l1,l2,po,YR (x:=la+lb) (by omega),RC];subst Zx;apply Zb;intro b2 Zx;simp[t0,t1,t2,e1,e2,e3];subst Zx;apply Zb;intro b2 Zx;simp[t0,t1,t2,l1,e4,e5,e6];subst Zx;apply Zb;intro b2 Zx;simp;subst Zx;apply Zu;simp[Yx];exact⟨k6,la+lb+1,Nat.le_refl _,zs6,by omega,dz6,by rw[vz6,wh,wi,prod],oz6⟩
   ·refine Za (t:=false) (by simp[vX]) ?_;apply Zr;subst Ze;obtain⟨wal,eal,sal⟩:=ps (f:=0) (t:=k) ha (by omega) (by omega) (Nat.zero_le _);have eal:ZY Tryz.prog Zy 225 [a,.int .i64 0,.int .i64 (k:Int)] H0=some (wal,H0):=eal;obtain⟨wah,eah,sah⟩:=ps (f:=k) (t:=la) ha (by omega) (by omega) (by omega);obtain⟨wbl,ebl,sbl⟩:=ps (f:=0) (t:=k) hb (by omega) (by omega) (Nat.zero_le _);have ebl:ZY Tryz.prog Zy 225 [b,.int .i64 0,.int .i64 (k:Int)] H0=some (wbl,H0):=ebl;obtain⟨wbh,ebh,sbh⟩:=ps (f:=k) (t:=lb) hb (by omega) (by omega) (by omega);obtain⟨val,zal,dal⟩:=JJ dx k;obtain⟨vah,zah,dah⟩:=Nh dx k;obtain⟨vbl,zbl,dbl⟩:=JJ dy k;obtain⟨vbh,zbh,dbh⟩:=Nh dy k;rw[<-kS]at vah zah dah zal;rw[<-AW]at vbh zbh dbh zbl;have ea:=Uy Zc xa k (by omega);have eb:=Uy Zc xb k (by omega);rw[<-val,<-vah]at ea;rw[<-vbl,<-vbh]at eb;generalize hAL:RQ xa 0 k=AL at*;generalize hAH:RQ xa k la=oE at*;generalize hBL:RQ xb 0 k=BL at*;generalize hBH:RQ xb k lb=BH at*;have hlal:AL.length<=k:=by omega
    have hlah:oE.length<=la-k:=by omega
    have hlbl:BL.length<=k:=by omega
    have hlbh:BH.length<=lb-k:=by omega
    clear zal zah zbl zbh val vah vbl vbh hAL hAH hBL hBH;obtain⟨p1,H1,e1,k1,bI,gR,zs1,lz1,dz1,qH,we⟩:=ih (k+k) (by omega) (by omega) H0 wal wbl AL BL sal sbl dal dbl (by omega);obtain⟨p2,H2,e2,k2,EM,EY,zs2,lz2,dz2,vz2,oz2⟩:=ih (la-k+(lb-k)) (by omega) (by omega) H1 wah wbh oE BH (sah.keep k1) (sbh.keep k1) dah dbh (by omega);have LB:=k1.trans k2;obtain⟨s3,H3,e3,k3,zs3,lz3,dz3,wh,oz3⟩:=DJ (sal.keep LB) (sah.keep LB) dal dah (by omega) (by omega);have Sd:=LB.trans k3;obtain⟨n4,H4,e4,k4,o4⟩:=Vu oz3.sl (by omega);rw[Xl Z7 dz3,wh]at o4;have Ra:=Sd.trans k4;obtain⟨s5,H5,e5,k5,zs5,lz5,dz5,wi,oz5⟩:=DJ (sbl.keep Ra) (sbh.keep Ra) dbl dbh (by omega) (by omega);obtain⟨n6,H6,e6,k6,o6⟩:=Vu oz5.sl (by omega);rw[Xl Z7 dz5,wi]at o6;have l4:(ds Zc (dv Zc AL+dv Zc oE)).length<=k+1:=by rw[<-wh];exact Nat.le_trans (VQ dz3) (by omega)
    have l6:(ds Zc (dv Zc BL+dv Zc BH)).length<=k+1:=by rw[<-wi];exact Nat.le_trans (VQ dz5) (by omega)
    obtain⟨p7,H7,e7,k7,len7,hlen7,zs7,lz7,dz7,vz7,oz7⟩:=ih (k+1+(k+1)) (by omega) (by omega) H6 n4 n6 _ _ ((o4.sl.keep k5).keep k6) o6.sl (Yv Z7 _) (Yv Z7 _) (by omega);rw[YT Z7,YT Z7]at vz7;obtain⟨kr1,kr2,kr3⟩:=kara (al:=dv Zc AL) (ah:=dv Zc oE) (bl:=dv Zc BL) (bh:=dv Zc BH);have k27:=(((k3.trans k4).trans k5).trans k6).trans k7;have Oo:=k2.trans k27;obtain⟨p8,H8,e8,k8,zs8,lz8,dz8,vz8,oz8⟩:=Ht oz7.sl (we.sl.keep Oo) dz7 dz1 (by omega) (by omega) (by rw[vz7,qH];exact kr2);rw[vz7,qH]at vz8;have k28:=k27.trans k8;obtain⟨p9,H9,e9,k9,zs9,lz9,dz9,vz9,oz9⟩:=Ht oz8.sl (oz2.sl.keep k28) dz8 dz2 (by omega) (by omega) (by rw[vz8,vz2];exact kr3);rw[vz8,vz2,kr1]at vz9;have k29:=k28.trans k9;obtain⟨c0,dY,RC,Sc,o10,vA⟩:=YL (H:=H9) Zv (n:=la+lb+1) (by omega);have zx:=k29.trans Sc;have zw:=k2.trans zx;have K10:=k1.trans zw;have Mu: ∀{n0:Nat}{Hx:AH}{p:Value}{zs:List Nat},Ym n0 Hx p zs->Hx.n<=H9.n->Vq c0 p:=fun{n0 Hx p zs} o hn c hc Mn=>by have x1:=(o10.blk_lo hc).1;have x2:=(o.blk_lo Mn).2;omega
    have n1':=k2.n;have n2':=k29.n;have prod:dv Zc AL*dv Zc BL+Zc^k*(dv Zc AL*dv Zc BH+dv Zc oE*dv Zc BL)+Zc^(2*k)*(dv Zc oE*dv Zc BH)=dv Zc xa*dv Zc xb:=by
     rw[ea,eb,Nat.add_mul,Nat.mul_add,Nat.mul_add,Nat.mul_add,Nat.two_mul,Nat.pow_add];generalize dv Zc AL=x at*;generalize dv Zc oE=y at*;generalize dv Zc BL=z at*;generalize dv Zc BH=w at*;generalize Zc^k=q at*;have f1:x*(q*w)=q*(x*w):=by rw[Nat.mul_left_comm]
     have f2:q*y*z=q*(y*z):=by rw[Nat.mul_assoc]
     have f3:q*y*(q*w)=q*q*(y*w):=by rw[Nat.mul_mul_mul_comm]
     rw[f1,f2,f3];omega
    have p1le:dv Zc AL*dv Zc BL<Zc^(la+lb+1):=by omega
    have p2le:dv Zc AL*dv Zc BL+Zc^k*(dv Zc AL*dv Zc BH+dv Zc oE*dv Zc BL)<Zc^(la+lb+1):=by omega
    obtain⟨Fy,Ce,e11,wB,ka11,zs11,tG,dz11,oG,oz11⟩:=Ta (a:=0) o10 (we.sl.keep zw) (Mu we (by omega)) (Sr (by decide) _) dz1 (by simp;omega) (by omega) (Nat.zero_le _) (by rw[UF,List.length_replicate,Nat.pow_zero,Nat.one_mul,qH];omega);have e11:ZY Tryz.prog Zy 224 [c0,p1,.int .i64 0] dY=some (Fy,Ce):=e11;rw[List.length_replicate]at tG;rw[UF,Nat.pow_zero,Nat.one_mul,Nat.zero_add,qH]at oG;have sp9:=(oz9.sl.keep Sc).but wB (Mu oz9 (Nat.le_refl _));obtain⟨BK,ay,xj,bt12,tO,zs12,lz12,dz12,Zaq,oz12⟩:=Ta (a:=k) oz11 sp9 (Mu oz9 (Nat.le_refl _)) dz11 dz9 (by omega) (by omega) (by omega) (by rw[oG,vz9,tG];exact p2le);have sp2:=((oz2.sl.keep zx).but wB (Mu oz2 n2')).but bt12 (Mu oz2 n2');obtain⟨Fz,H13,e13,bt13,ka13,zs13,lz13,dz13,vz13,oz13⟩:=Ta (a:=2*k) oz12 sp2 (Mu oz2 n2') dz12 dz2 (by omega) (by omega) (by omega) (by rw[Zaq,oG,vz9,vz2,lz12,tG,prod];exact bU);have K13:Zg H0 H13:=by
     have n9:H0.n<=H9.n:=by have:=(k1.trans (k2.trans k29)).n;exact this
     exact ka13 H0 (tO H0 (ka11 H0 K10 n9) n9) n9
    apply Zb;intro b1 Ze;simp[t0,t1,l1,l2,eal,eah,ebl,ebh];subst Ze;apply Zb;intro b1 Ze;simp[t2,e1,e2];subst Ze;apply Zb;intro b1 Ze;simp[t2,e3,e4,e5,e6,e7,e8,e9];subst Ze;apply Zb;intro b1 Ze;simp[t0,t1,l1,l2,po,YR (x:=la+lb) (by omega),RC];subst Ze;apply Zb;intro b1 Ze;simp[e11];subst Ze;apply Zb;intro b1 Ze;simp[xj];subst Ze;apply Zb;intro b1 Ze;simp[Aj (x:=k) (by omega),e13];subst Ze;apply Zb;intro b1 Ze;simp;subst Ze;apply Zu;simp;refine⟨K13,la+lb+1,Nat.le_refl _,zs13,by omega,dz13,by rw[vz13,Zaq,oG,vz9,vz2,prod],oz13.mono ?_ (.refl _)⟩;exact(k1.trans (k2.trans k29)).n
theorem RK{n:Nat} :0<Zm n↔0<n:=by
 unfold Zm;by_cases h:n=0;·rw[if_pos h];omega
 ·rw[if_neg h];omega
theorem eI{A B:Nat}(hA:0<A)(hB:0<B):Zm A+Zm B-1<=Zm (A*B):=by have h1:=W1 (n:=A) (by omega);have h2:=W1 (n:=B) (by omega);have h3:=Wq (A*B);have h4:2^(Zm A-1)*2^(Zm B-1)<=A*B:=Nat.mul_le_mul h1 h2;rw[<-Nat.pow_add]at h4;have h5:=(Nat.pow_lt_pow_iff_right (a:=2) (by decide)).mp (Nat.lt_of_le_of_lt h4 h3);have:=RK.mpr hA;have:=RK.mpr hB;omega
theorem KV{A:Nat}{L:Nat}(h:(ds Zc A).length<=L):Zm A<=64*L:=by
 rcases Nat.eq_zero_or_pos A with h0|h0;·subst h0;exact Nat.zero_le _
 ·have h1:=F3 Z7 A;have h2:Zc^(ds Zc A).length<=Zc^L:=Nat.pow_le_pow_right (by decide) h;have h4:Zc^L=2^(64*L):=by rw[Nat.pow_mul]
  have h3:=W1 (n:=A) (by omega);have h5:2^(Zm A-1)<2^(64*L):=by rw[<-h4];omega
  have:=(Nat.pow_lt_pow_iff_right (a:=2) (by decide)).mp h5;omega
section
variable {H : AH} {va vb : Value} {xs ys : List Nat}
def Ov(n0:Nat)(N:Nat)(v:Value)(H':AH):Prop:=(67108864<Zm N/\v= .tuple #[.slice none 0 0,.int .i64 3])\/(Zm N<=67108864/\ ∃u,v= .tuple #[u,.int .i64 0]/\Ym n0 H' u (ds Zc N))
theorem Cz{A B:Nat}(ha:Sl H va (ds Zc A))(hb:Sl H vb (ds Zc B))(lA:(ds Zc A).length<=WU)(lB:(ds Zc B).length<=WU):CW Tryz.prog Zy 221 [va,vb] H fun v H'=>H'=H/\v= .bool (decide (0<A/\0<B/\67108864<Zm A+Zm B-1)):=by
 refine Z8 24 Tryz.func221 ?_;have c1:=Wd ha lA;have c2:=Wd hb lB;have bA:Zm A<=64*2000000000000:=KV lA;have bB:Zm B<=64*2000000000000:=KV lB;apply Zb;intro b1 Ze;simp;subst Ze;apply Zb;intro b1 Ze;simp[c1,c2];subst Ze;apply Zb;intro b1 Ze;by_cases hA:0<Zm A
 ·by_cases hB:0<Zm B;·have s1:Zd .add .i64 (Zm A:Int) (Zm B:Int)=some (.int .i64 ((Zm A+Zm B:Nat):Int)):=WK (by omega);have s2:Zd .sub .i64 ((Zm A+Zm B:Nat):Int) 1=some (.int .i64 ((Zm A+Zm B-1:Nat):Int)):=Uf (by omega) (by omega);simp[K7,hA,hB,s1,s2,Pt];subst Ze;apply Zu;have hA':=RK.mp hA;have hB':=RK.mp hB;simp[hA',hB']
  ·have hB': ¬0<B:=fun h=>hB (RK.mpr h);simp[K7,hA,hB];subst Ze;apply Zu;simp;omega
 ·have hA': ¬0<A:=fun h=>hA (RK.mpr h);simp[K7,hA];subst Ze;apply Zu;simp;omega
theorem aB(ha:Sl H va xs)(dx:YG Zc xs)(lx:xs.length<=2*WU+1):CW Tryz.prog Zy 222 [va] H fun v H'=>Zg H H'/\Ov H.n (dv Zc xs) v H':=by
 refine Z8 10 Tryz.func222 ?_;obtain⟨v1,H1,c1,k1,o1⟩:=Vu ha (Nat.le_trans lx (by decide));rw[Xl Z7 dx]at o1;have lN:=VQ dx;have c2:ZY Tryz.prog Zy 123 [v1] H1=some (.int .i64 (Zm (dv Zc xs):Int),H1):=by obtain⟨_,_,hc,rfl,rfl⟩:=Vh o1.sl (Yv Z7 _) (Nat.le_trans (Nat.le_trans lN lx) (by decide));rw[YT Z7]at hc;exact hc
 generalize dv Zc xs=N at*;apply Zb;intro b1 Ze;simp;subst Ze;apply Zb;intro b1 Ze;simp[c1];subst Ze;apply Zh;intro b1 Ze;apply Zb;intro b2 Zx;simp[c2,Pt];subst Zx;by_cases h:67108864<Zm N;·refine Za (t:=true) (by simp[h]) ?_;apply Zb;intro b2 Zx;simp;subst Zx;apply Zu;simp[Yx];exact⟨k1,.inl ⟨h,rfl⟩⟩
 ·refine Za (t:=false) (by simp[h]) ?_;apply Zr;subst Ze;apply Zb;intro b2 Zx;simp;subst Zx;apply Zu;simp;exact⟨k1,.inr ⟨by omega,v1,rfl,o1⟩⟩
theorem EE{A B:Nat}(ha:Sl H va (ds Zc A))(hb:Sl H vb (ds Zc B))(lA:(ds Zc A).length<=WU)(lB:(ds Zc B).length<=WU): ∃v H',ZY Tryz.prog Zy 198 [va,vb] H=some (v,H')/\Zg H H'/\Ky H.n ((ds Zc A).length+(ds Zc B).length) (A*B) v H':=by
 obtain⟨v,H',hc,k,h⟩:=bm ((ds Zc A).length+(ds Zc B).length) (by have:WU=2000000000000:=rfl;omega) H va vb _ _ ha hb (Yv Z7 A) (Yv Z7 B) (Nat.le_refl _);rw[YT Z7,YT Z7]at h;suffices hs:CW Tryz.prog Zy 198 [va,vb] H fun v' H''=>v'=v/\H''=H' by obtain⟨_,_,Jd,rfl,rfl⟩:=hs;exact⟨_,_,Jd,k,h⟩
 refine Z8 8 Tryz.func198 ?_;apply Zb;intro b1 Ze;simp;subst Ze;apply Zb;intro b1 Ze;simp[hc];subst Ze;apply Zu;simp
theorem je(ha:Sl H va xs)(hb:Sl H vb ys)(dx:YG Zc xs)(dy:YG Zc ys)(lx:xs.length<=WU)(ly:ys.length<=WU):CW Tryz.prog Zy 146 [va,vb] H fun v H'=>Zg H H'/\Ov H.n (dv Zc xs*dv Zc ys) v H':=by
 suffices hp:CW Tryz.prog Zy 197 [va,vb,.func (.func 198) #[] #[]] H fun v H'=>Zg H H'/\Ov H.n (dv Zc xs*dv Zc ys) v H'/\ ∃a b,v= .tuple #[a,b] by obtain⟨_,H1,hc,k1,h1,a,b,rfl⟩:=hp;refine Z8 11 Tryz.func146 ?_;apply Zb;intro b1 Ze;simp;subst Ze;apply Zb;intro b1 Ze;simp[hc];subst Ze;apply Zu;simp;exact⟨k1,h1⟩
 refine Z8 22 Tryz.func197 ?_;obtain⟨v1,v2,H1,H2,c1,c2,k2,o1,o2,ap⟩:=N5 ha hb dx dy lx ly;have lA:=Nat.le_trans (VQ dx) lx;have lB:=Nat.le_trans (VQ dy) ly;generalize dv Zc xs=A at*;generalize dv Zc ys=B at*;have c3:ZY Tryz.prog Zy 221 [v1,v2] H2=some (.bool (decide (0<A/\0<B/\67108864<Zm A+Zm B-1)),H2):=by obtain⟨_,_,hc,rfl,rfl⟩:=Cz o1.sl o2.sl lA lB;exact hc
 apply Zb;intro b1 Ze;simp;subst Ze;apply Zb;intro b1 Ze;simp[c1,c2];subst Ze;apply Zh;intro b1 Ze;apply Zh;intro b2 Zx;by_cases hg:0<A/\0<B/\67108864<Zm A+Zm B-1;·rw[decide_eq_true hg]at c3;apply Zk;simp[c3];subst Zx;refine Za (t:=true) (by simp) ?_;apply Zb;intro b2 Zx;simp;subst Zx;apply Zu;simp[Yx];have:=eI hg.1 hg.2.1;exact⟨k2,.inl ⟨by omega,rfl⟩⟩
 ·rw[decide_eq_false hg]at c3;obtain⟨v3,H3,c4,k3,len,hlen,zs,lz,dz,vz,oz⟩:=EE o1.sl o2.sl lA lB;obtain⟨v5,H5,c5,k5,h5⟩:=aB oz.sl dz (by have:WU=2000000000000:=rfl;omega);rw[vz]at h5;have hn:H.n<=H3.n:=(k2.trans k3).n;have h6:Ov H.n (A*B) v5 H5/\ ∃a b,v5= .tuple #[a,b]:=by
   rcases h5 with⟨h,rfl⟩|⟨h,u,rfl,o⟩;·exact⟨.inl ⟨h,rfl⟩,_,_,rfl⟩
   ·exact⟨.inr ⟨h,u,rfl,o.mono hn (.refl _)⟩,_,_,rfl⟩
  obtain⟨h6,a,b,rfl⟩:=h6;apply Zk;simp[c3];subst Zx;refine Za (t:=false) (by simp) ?_;apply Zr;subst Ze;apply Zb;intro b2 Zx;simp[c4,c5];subst Zx;apply Zu;simp;exact⟨(k2.trans k3).trans k5,h6⟩
end
end
end
end Go.Proofs.YtmkfecoeghokfaaGreatDoor
