/-
  The engine and the walks that the claim's last text leans on, part 5 of 10: Of, Og, Ta, Tb, Tc, Td, Te, Ref, Rt, Make, Rc, Rd, Re, Rf, Rg, Oh, Ok, Pa, Pb, Pc.
-/
import Derived.Test.YtmkfecoeghokfaaGreatDoorM4
namespace Go.Proofs.YtmkfecoeghokfaaGreatDoor
open Go Ev
set_option linter.unusedVariables false
set_option linter.unusedSimpArgs false
noncomputable section
set_option maxHeartbeats 2000000
set_option maxRecDepth 20000
section
attribute [-simp] Int.natCast_add Int.natCast_mul Int.natCast_ediv Int.natCast_emod Int.natCast_pow
attribute [local simp] strip ZN Xr LR gW ZB Yj ZU Yk ZG Yl Zw Zx Zj ZF Yd ZL Z1 Zl ZE Zk Zi Z0 ZA YK Zs Yf Y2 YW ZH plain ZM Tr.get_set Yz Zt Yt ZS sameKind undef ZZ ZD Yc Zv ZC Yh ZT parts ZJ XI DW Ym ZX LX ZV Zr ZI ZO XT Yi Zm ZP ZY ZR
theorem HL{H:AH}{bits:Nat}{ms:List (Nat×Nat×Nat)}{sz:Nat}{cs:List Value} :TF none (H.new sz cs) (grown H ((OY H bits ms).new sz cs)):=by
 refine⟨rfl,fun j hj _=>?_⟩;have A3:j<H.n+1:=hj;rw[AH.blk_new];have e:(grown H ((OY H bits ms).new sz cs)).blk j=if H.n<=j then((OY H bits ms).new sz cs).blk j else H.blk j:=by
  unfold grown;show(match(NO H.t ((OY H bits ms).new sz cs) H.n (H.n+1-H.n)).get j with|some b=>b|none=>OT.dead)=_;rw[Py];by_cases c:H.n<=j;·rw[if_pos (by omega),if_pos c]
  ·rw[if_neg (by omega),if_neg c];rfl
 rw[e];by_cases c:j=H.n;·rw[if_pos (by omega),if_pos c,AH.blk_new,if_pos (show j=(OY H bits ms).n from c)]
 ·rw[if_neg (by omega),if_neg c]
theorem JY{H:AH}{bits:Nat}{ms:List (Nat×Nat×Nat)}{sz:Nat}{cs:List Value} :Zg H (grown H ((OY H bits ms).new sz cs)):=by refine⟨Nat.le_succ _,Nat.min_le_left _ _,fun j hj=>?_⟩;have:=(HL (H:=H) (bits:=bits) (ms:=ms) (sz:=sz) (cs:=cs)).blk j (show j<H.n+1 by omega) (fun e=>by cases e);rw[this,AH.blk_new,if_neg (by omega)]
theorem aI{X:Xs}{P:Program}{C:Cfg}{ops:Array Oper}{k i:Nat}{q:Bool}{ms:List (Nat×Nat×Nat)}{tm:Tr Value}{H:AH}{K:Tr Value->AH->Prop}{o:Oper}{r:List Oper}(x:Nat)(hg:gW tm (Ym ops o)=some true)(hh:ZX o.op=true)(hq:q=false)(he: ∀Hv:AH,ZB P C (Zy P C) tm Hv o.op=some (.slice (some ⟨Hv.n,0,none⟩) 1 1,Hv.new 1 [Uq x]))(h: ∀G2:AH,Yo H.n G2 (.slice (some ⟨H.n,0,none⟩) 1 1) [x]->Zg H G2->G2.n=H.n+1->match o.dst with|none=>DW X P C ops k (i+1) q ((i,H.n,H.n+1)::ms) r tm G2 K|some d=>d<k/\DW X P C ops k (i+1) q ((i,H.n,H.n+1)::ms) r (tm.set d (.slice (some ⟨H.n,0,none⟩) 1 1)) G2 K)(hf:X.fv i=none:=by first|rfl|kernel_rfl):DG X P C ops k i q ms (o::r) tm H K:=by
 refine Yy (v:= .slice (some ⟨H.n,0,none⟩) 1 1) (H2:=(OY H ((before ops).getD i 0) ms).new 1 [Uq x]) hg hh hq (he _) (Nat.le_succ _) (Nat.le_refl _) ?_ hf;have rN:Nat.blt H.n ((OY H ((before ops).getD i 0) ms).new 1 [Uq x]).n=true:=by rw[Nat.blt_eq];exact Nat.lt_succ_self _
 rw[rN];exact h _ ((Yo.new H [x]).same HL) JY rfl
theorem Un{i a b:Nat}{ms:List (Nat×Nat×Nat)}(h:cond (Nat.blt a b) [(i,a,b)] []=ms): ∀x∈ms,x.1=i/\a<=x.2.1:=by intro x hx;rw[<-h]at hx;cases ml:Nat.blt a b with|true=>rw[ml,cond_true]at hx;simp at hx;subst hx;exact⟨rfl,Nat.le_refl _⟩|false=>rw[ml,cond_false]at hx;cases hx
theorem Bh{B R q r k:Nat}(e:R=B*q+r)(hr:r<B*2^(k+1))(hq:q+2^(k+1)<=4294967296):(B*2^k<=r->R=B*(q+2^k)+(r-B*2^k)/\r-B*2^k<B*2^k/\q+2^k+2^k<=4294967296)/\(r<B*2^k->q+2^k<=4294967296):=by
 have e2:2^(k+1)=2^k+2^k:=by rw[Nat.pow_succ];omega
 rw[e2]at hq;rw[e2,Nat.mul_add]at hr;have hp:=Nat.two_pow_pos k;refine⟨fun h=>⟨?_,by omega,by omega⟩,fun h=>by omega⟩;rw[e,Nat.mul_add];omega
theorem TH{m:Nat}(h:m<9223372036854775807):Zc .sub .i64 (m:Int) 1=some (.int .i64 ((m:Int)-1)):=by show some (Value.int .i64 (IntKind.i64.wrap ((m:Int)-1)))=_;congr 2;rw[IntKind.wrap_i64];omega
theorem N3{m:Nat} :Zc .geq .i64 ((m:Int)-1) 0=some (.bool (decide (0<m))):=by show some (Value.bool (decide ((m:Int)-1≥0)))=_;congr 2;apply decide_eq_decide.mpr;omega
theorem G7{a b:Nat} :Zc .geq .i64 (XR a b) 0=some (.bool (decide (b<=a))):=by
 show some (Value.bool (decide (XR a b≥0)))=_;congr 2;apply decide_eq_decide.mpr;unfold XR;split;·omega
 ·split<;>omega
theorem DI{H:AH}{va vb:Value}{xs ys:List Nat}(ha:Sl H va xs)(hb:Sl H vb ys)(dx:YC Z5 xs)(dy:YC Z5 ys)(ty:YT ys=ys)(lx:xs.length<=4000000000000)(ly:ys.length<=4000000000000)(hy:0<dv Z5 ys):CW Tryz.prog Zu 64 [va,vb] H fun v' H'=>Zg H H'/\ ∃q r,v'= .tuple #[q,r]/\Yo H.n H' q (ds Z5 (dv Z5 xs/dv Z5 ys))/\Yo H.n H' r (ds Z5 (dv Z5 xs%dv Z5 ys)):=by
 refine Z2 60 Tryz.func64 ?_;have l1:=ha.len ZC;obtain⟨n,hn⟩:=hid (xs.length);rw[<-hn]at l1;obtain⟨B,hB⟩:=hid (dv Z5 ys);rw[<-hB]at hy;have lI:B<Z5^ys.length:=by have h1:=Ww dy;rwa[<-hB]at h1
 obtain⟨c0,H1,QV,k1,o1,n1⟩:=YG (H:=H) ZC (n:=n) (by omega);apply Zb;intro b1 Ze;simp;subst Ze;apply Zb;intro b1 Ze;simp;subst Ze;apply Zb;intro b1 Ze;simp[l1,QV];subst Ze;apply Zf;intro b1 Ze;apply Zb;intro b2 Zp;simp[l1,TH (m:=n) (by omega)];subst Zp;apply Zz;refine YU (fun m s'=>s'.k=60/\Zg H s'.H/\m<=n/\ ∃(L:List Nat) (R:Nat) (rv:Value),L.length+m=n/\YC Z5 L/\R<B/\dv Z5 (xs.drop m)=B*dv Z5 L+R/\Yo H.n s'.H c0 (List.replicate m 0++L)/\H1.n<=s'.H.n/\Yo H1.n s'.H rv (ds Z5 R)/\s'.tm.get 0=some va/\s'.tm.get 1=some vb/\s'.tm.get 6=some rv/\s'.tm.get 7=some c0/\s'.tm.get 8=some (.int .i64 ((m:Int)-1))) ?_ n _ ⟨rfl,k1,Nat.le_refl _,[],0,.slice none 0 0,by simp,.nil _,hy,by simp[hn,dv],by simpa using o1,Nat.le_refl _,by rw[Xg];exact .nil,by simp,by simp,by simp,by simp,by simp⟩;rintro m ⟨k,tm,H2⟩ ⟨hk,kH,hm,L,R,rv,hL,dL,hR,heq,own,hn1,ro,t0,t1,t6,t7,t8⟩ Q' Y0;simp only at hk kH own hn1 ro t0 t1 t6 t7 t8;subst hk;apply Zf;intro b3 Z3;apply Zb;intro b4 Yx;simp[t8,N3];subst Yx;by_cases M3:m=0
 ·subst M3;refine Za (t:=false) (by simp) ?_;apply YQ;apply Y0;left;refine⟨rfl,?_⟩;simp at own heq;have hdiv:dv Z5 xs/B=dv Z5 L:=by rw[heq,Nat.mul_add_div hy,Nat.div_eq_of_lt hR,Nat.add_zero]
  have E3:dv Z5 xs%B=R:=by rw[heq,Nat.mul_add_mod,Nat.mod_eq_of_lt hR]
  obtain⟨v5,H5,MA,e5,o5,_⟩:=VB own (by omega);subst e5;rw[Xo two32 dL]at o5;subst Ze;apply Zb;intro b4 Yx;simp[t6,t7,MA];subst Yx;apply Zq;simp;rw[<-hB,hdiv,E3];exact⟨kH,v5,rv,⟨rfl,rfl⟩,o5,ro.mono k1.n (.refl _)⟩
 ·refine Za (t:=true) (by simp;omega) ?_;apply Zn;subst Z3;obtain⟨i,rfl⟩: ∃i,m=i+1:=⟨m-1,by omega⟩;have em:((i+1:Nat):Int)-1=(i:Int):=by omega
  rw[em]at t8;have hi:i<xs.length:=by omega
  have hx:xs[i]<Z5:=dx.get (List.getElem?_eq_getElem hi);have AA:xs.drop i=xs[i]::xs.drop (i+1):=List.drop_eq_getElem_cons hi;have lR:(ds Z5 R).length<=ys.length:=X8 two32 (Nat.lt_trans hR lI);obtain⟨v1,H3,N7,k3,o3⟩:=P4 (H:=H2.top) ro.sl.top (Yv two32 R) (by omega) (n:=32) (by decide);have hc1':Zy Tryz.prog Zu 92 [rv,.int .i64 32] H2.top=some (v1,H3):=N7;rw[YL two32]at o3;obtain⟨G1,UC⟩:=hid (grown H2 H3);have WH:Zg H2 G1:=by rw[UC];exact Yb (.refl H2) k3
  have kZ:Yo H2.n G1 v1 (ds Z5 (R*2^32)):=by rw[UC];exact o3.same (Yn k3)
  have h3n:H2.n<=H3.n:=k3.n;have dC:G1.n=H3.n:=by rw[UC];rfl
  obtain⟨x,Nj⟩:=hid (xs[i]);rw[<-Nj]at hx AA;have a1:Yg Tryz.prog 37 va (.int .i64 (i:Int))=some (adr va i):=ha.adr ZC hi;apply Zf;intro b3 Z3;apply Zz;apply Zf;intro b4 Yx;apply YH (by kernel_rfl);simp[t6];refine Yy (v:=v1) (H2:=H3) rfl rfl rfl (by rw[ZQ rfl];simp[t6,hc1']) h3n (YN k3) ?_;rw[<-UC];generalize PG:cond (Nat.blt H2.n H3.n) _ _=ms;have XA:=Un PG;simp[t0,t8,a1];have YS:=fun bits=>(ha.keep (kH.trans (Xx (bits:=bits) WH fun x hx=>(XA x hx).2))).load hi;rw[<-Nj]at YS;refine ZK (v:= .int .u64 (x:Int)) rfl rfl rfl (by simp[YS]) ?_;simp;refine aI x rfl rfl rfl (fun Hv=>by simp[O7 _ ZC]) ?_;intro G2 oG2 Ix nG2;obtain⟨v7,H7,hc7,e7,o7,_⟩:=VB oG2.top (by simp);subst e7;have o3'':Yo H2.n G2 v1 (ds Z5 (R*2^32)):=kZ.m Ix;have h1x:YC Z5 [x]:= .cons hx (.nil _);have hR32:R*2^32<Z5^(ys.length+1):=by have:R*2^32<Z5^ys.length*2^32:=Nat.mul_lt_mul_of_pos_right (Nat.lt_trans hR lI) (by decide);rw[show Z5^(ys.length+1)=Z5^ys.length*Z5 from rfl,show Z5=2^32 by decide];exact this
  obtain⟨v8,H8,hc8,k8,o8⟩:=L5 (H:=G2.top) o3''.sl.top o7.sl (Yv two32 _) (XK h1x) (Nat.le_trans (X8 two32 (k:=ys.length+1) hR32) (by omega)) (by have:=XJ [x];simp at this;omega);rw[YL two32,WR,show dv Z5 [x]=x by simp[dv]]at o8;obtain⟨G3,xw⟩:=hid (grown G2 H8);have kG3:Zg G2 G3:=by rw[xw];exact Yb (.refl G2) k8
  obtain⟨R1,hR1⟩:=hid (R*2^32+x);rw[<-hR1]at o8;have o8':Yo G2.n G3 v8 (ds Z5 R1):=by rw[xw];exact o8.same (Yn k8)
  have h8n:G2.n<=H8.n:=k8.n;simp;refine ZK (v:=v7) rfl rfl rfl ?_ ?_
  ·rw[ZQ (Yp fun x hx=>?_)];·simp[hc7]
   ·rcases List.mem_cons.mp hx with e|e;·rw[e];kernel_rfl
    ·rw[(XA x e).1];kernel_rfl
  simp;refine Yy (v:=v8) (H2:=H8) rfl rfl rfl ?_ h8n (YN k8) ?_
  ·rw[ZQ (Yp fun x hx=>?_)];·simp[hc8]
   ·rcases List.mem_cons.mp hx with e|e;·rw[e];kernel_rfl
    ·rw[(XA x e).1];kernel_rfl
  rw[<-xw];simp;subst Yx;have Iy:Zg H G3:=((kH.trans WH).trans Ix).trans kG3;have RN:=own.mono (Nat.le_refl _) ((WH.trans Ix).trans kG3);have or3:Yo H1.n G3 v8 (ds Z5 R1):=o8'.mono (by have:=WH.n;have:=Ix.n;omega) (.refl G3);have vD:R1<B*2^32:=by have h1:(R+1)*2^32<=B*2^32:=Nat.mul_le_mul_right _ hR;have h2:x<2^32:=hx;rw[Nat.succ_mul]at h1;omega
  apply Zb;intro b4 Yx;simp;subst Yx;refine Xe (fun s'=>s'.k=60/\Zg G3 s'.H/\ ∃(q r:Nat) (jt:Value),q<4294967296/\R1=B*q+r/\r<B/\Yo H1.n s'.H jt (ds Z5 r)/\s'.tm.get 0=some va/\s'.tm.get 1=some vb/\s'.tm.get 6=some jt/\s'.tm.get 7=some c0/\s'.tm.get 8=some (.int .i64 (i:Int))/\s'.tm.get 9=some (.int .u64 (q:Int))) ?_ ?_
  ·intro IY XG;have hbG:=hb.keep Iy;have hB1:(ds Z5 R1).length<=ys.length+1:=X8 two32 (by have h2:B*2^32<Z5^ys.length*2^32:=Nat.mul_lt_mul_of_pos_right lI (by decide);rw[show Z5^(ys.length+1)=Z5^ys.length*Z5 from rfl,show Z5=2^32 by decide];rw[show Z5=2^32 by decide]at h2;exact Nat.lt_trans vD h2);obtain⟨v9,H9,hc9,e9,e9'⟩:=Rt or3.sl hbG (Yv two32 R1) dy (TY two32 R1) ty (by omega) (by omega);subst e9;subst e9';rw[YL two32,<-hB]at hc9;apply Zb;intro b4 Yx;simp[t1,hc9,G7];subst Yx;by_cases SL:B<=R1
   ·refine Za (t:=true) (by simp[SL]) ?_;apply Zb;intro b4 Yx;simp;subst Yx;apply Zz;refine YU (fun kk s'=>s'.k=60/\Zg H9 s'.H/\kk<=32/\ ∃(q r:Nat) (jt:Value),q+2^kk<=4294967296/\R1=B*q+r/\r<B*2^kk/\Yo H1.n s'.H jt (ds Z5 r)/\s'.tm.get 0=some va/\s'.tm.get 1=some vb/\s'.tm.get 6=some jt/\s'.tm.get 7=some c0/\s'.tm.get 8=some (.int .i64 (i:Int))/\s'.tm.get 9=some (.int .u64 (q:Int))/\s'.tm.get 10=some (.int .i64 ((kk:Int)-1))) ?_ 32 _ ⟨rfl,.refl _,Nat.le_refl _,0,R1,v8,by decide,by simp,vD,or3,by simp[t0],by simp[t1],by simp,by simp[t7],by simp[t8],by simp,by simp⟩;clear t0 t1 t6 t7 t8;rintro kk ⟨k,tm,H4⟩ ⟨hk,k4,N9,q,r,jt,hq,ia,hr,tT,t0,t1,t6,t7,t8,t9,t10⟩ Q5 mf;simp only at hk k4 tT t0 t1 t6 t7 t8 t9 t10;subst hk;apply Zf;intro b5 Sh;apply Zb;intro b6 PH;simp[t10,N3];subst PH;by_cases Ni:kk=0;·subst Ni;refine Za (t:=false) (by simp) ?_;apply YQ;apply mf;left;exact⟨rfl,XG _ ⟨rfl,k4,q,r,jt,by omega,ia,by simpa using hr,tT,by simp[t0],by simp[t1],by simp[t6],by simp[t7],by simp[t8],by simp[t9]⟩⟩
    ·refine Za (t:=true) (by simp;omega) ?_;apply Zn;subst Sh;obtain⟨s,rfl⟩: ∃s,kk=s+1:=⟨kk-1,by omega⟩;have es:((s+1:Nat):Int)-1=(s:Int):=by omega
     rw[es]at t10;obtain⟨SF,TE⟩:=Bh ia hr hq;have hb4':=hbG.keep k4;obtain⟨v5,H5,MA,k5,o5⟩:=P4 (H:=H4) hb4' dy (by omega) (n:=s) (by omega);rw[<-hB]at o5;have or5:=tT.m k5;have rlt:r<=R1:=by rw[ia];omega
     have lr:(ds Z5 r).length<=ys.length+1:=by have h1:=En two32 R1;have h2:Z5^(ds Z5 R1).length<=Z5^(ys.length+1):=Nat.pow_le_pow_right (by decide) hB1;exact X8 two32 (by omega)
     have lbs:(ds Z5 (B*2^s)).length<=ys.length+1:=X8 two32 (by have h1:B*2^s<=B*2^32:=Nat.mul_le_mul_left _ (Nat.pow_le_pow_right (by decide) (by omega));have h2:B*2^32<Z5^ys.length*2^32:=Nat.mul_lt_mul_of_pos_right lI (by decide);rw[show Z5^(ys.length+1)=Z5^ys.length*Z5 from rfl,show Z5=2^32 by decide];rw[show Z5=2^32 by decide]at h2;exact Nat.lt_of_le_of_lt h1 h2);obtain⟨v6,H6,hc6,e6,e6'⟩:=Rt or5.sl o5.sl (Yv two32 r) (Yv two32 _) (TY two32 r) (TY two32 _) (by omega) (by omega);subst e6;subst e6';rw[YL two32,YL two32]at hc6;apply Zf;intro b5 Sh;apply Zz;apply Zb;intro b6 PH;simp[t1,t10,MA];subst PH;apply Zb;intro b6 PH;simp[t6,hc6,G7];subst PH;by_cases hs:B*2^s<=r
     ·obtain⟨g1,g2,g3⟩:=SF hs;obtain⟨v7,H7,hc7,k7,o7⟩:=Kb or5.sl o5.sl (Yv two32 r) (Yv two32 _) (by omega) (by rw[YL two32,YL two32];exact hs);rw[YL two32,YL two32]at o7;have sp:=Nat.two_pow_pos s;have m1:Y4 .shl .u64 1 (s:Int)=some (.int .u64 ((2^s:Nat):Int)):=by have:=Sr (x:=1) (s:=s) (by omega);rw[Nat.one_mul,Nat.mod_eq_of_lt (by show _<18446744073709551616;omega)]at this;exact this
      have m2:Zc .add .u64 (q:Int) ((2^s:Nat):Int)=some (.int .u64 ((q+2^s:Nat):Int)):=We (by show _<18446744073709551616;omega);refine Za (t:=true) (by simp[hs]) ?_;apply Zb;intro b6 PH;simp[t6,hc7];subst PH;apply Zh;simp[t9,t10,m1,m2];subst Sh;apply Zh;simp[t10,TH (m:=s) (by omega)];apply mf;exact⟨s,Nat.lt_succ_self s,rfl,(k4.trans k5).trans k7,by show s<=32;omega,q+2^s,r-B*2^s,v7,g3,g1,g2,o7.mono (by have:=WH.n;have:=Ix.n;have:=kG3.n;have:=k4.n;have:=k5.n;omega) (.refl _),by simp[t0],by simp[t1],by simp,by simp[t7],by simp[t8],by simp,by simp⟩
     ·refine Za (t:=false) (by simp[hs]) ?_;apply Zn;subst Sh;apply Zh;simp[t10,TH (m:=s) (by omega)];apply mf;exact⟨s,Nat.lt_succ_self s,rfl,k4.trans k5,by show s<=32;omega,q,r,jt,TE (by omega),ia,by omega,or5,by simp[t0],by simp[t1],by simp[t6],by simp[t7],by simp[t8],by simp[t9],by simp⟩
   ·refine Za (t:=false) (by simp[SL]) ?_;apply Zn;apply XG;exact⟨rfl,.refl _,0,R1,v8,by decide,by simp,by omega,or3,by simp[t0],by simp[t1],by simp,by simp[t7],by simp[t8],by simp⟩
  clear t0 t1 t6 t7 t8;rintro⟨k,tm,H4⟩ ⟨hk,k4,q,r,jt,hq,ia,hr,tT,t0,t1,t6,t7,t8,t9⟩;simp only at hk k4 tT t0 t1 t6 t7 t8 t9;subst hk;have VM:=RN.m k4;have ib:List.replicate (i+1) 0++L=List.replicate i 0++0::L:=by rw[List.replicate_succ'];simp
  rw[ib]at VM;have a3:=VM.sl.adr ZC (k:= .i64) (i:=i) (by simp);obtain⟨H5,Xy,QI,n5,b5,WJ⟩:=VM.put (i:=i) (by simp) q;rw[Vd _ _ _ _ (by simp)]at QI;have pq:TF (Yw c0) H4 H5:=⟨n5,fun j _ hj=>b5 j hj⟩;have ap:Vz c0 jt:=US o1 tT (Nat.le_refl _);apply Zh;simp[t7,t8,t9,a3,Xy];subst Z3;apply Zh;simp[t8,TH (m:=i) (by omega)];apply Y0;refine⟨i,Nat.lt_succ_self i,rfl,WJ H (Iy.trans k4) (Nat.le_refl _),by show i<=n;omega,q::L,r,jt,by simp;omega,.cons hq dL,hr,?_,QI,by rw[n5];have:=WH.n;have:=Ix.n;have:=kG3.n;have:=k4.n;omega,tT.but pq ap,by simp[t0],by simp[t1],by simp[t6],by simp[t7],by simp⟩;rw[AA];simp only[dv];rw[heq,Nat.mul_add Z5,Nat.mul_add B,Nat.mul_left_comm B Z5];rw[ia]at hR1;have e1:R*2^32=Z5*R:=by rw[Nat.mul_comm]
  omega
theorem uLL:Tryz.prog.underlying 91=some (.slice 25):=by kernel_rfl
theorem sLst:Xn Tryz.prog 25=some 1:=by kernel_rfl
theorem aLst:XQ Tryz.prog 25=some false:=by kernel_rfl
structure qK (n0 : Nat) (H : AH) (b : Nat) (vs : List Value) (f : Nat -> List Nat) : Prop where
  lo : n0 <= b
  hi : b < H.n
  blk : H.blk b = .rw 1 vs
  own : ∀ (i : Nat) (v : Value), vs[i]? = some v -> Yo n0 H v (f i)
  ap : ∀ (i j : Nat) (v w : Value), i ≠ j -> vs[i]? = some v -> vs[j]? = some w -> Vz v w
  out : ∀ (i : Nat) (v : Value), vs[i]? = some v -> Yw v ≠ some b
theorem Yo.isSlice{n0:Nat}{H:AH}{v:Value}{xs:List Nat}(h:Yo n0 H v xs):v.cells=#[v]/\one v=true:=by cases h<;>exact⟨rfl,rfl⟩
section
variable {n0 : Nat} {H : AH} {b : Nat} {vs : List Value} {f : Nat -> List Nat}
theorem qK.adr(g:qK n0 H b vs f){k:IntKind}{i:Nat}(hi:i<vs.length):Yg Tryz.prog 91 (.slice (some ⟨b,0,none⟩) vs.length vs.length) (.int k (i:Int))=some (.pointer (some ⟨b,i,none⟩)):=by unfold Yg;simp only[uLL,sLst];rw[if_pos (by omega)];simp
theorem qK.load(g:qK n0 H b vs f){i:Nat}(hi:i<vs.length):Z9 Tryz.prog H 25 (.pointer (some ⟨b,i,none⟩))=some vs[i]:=by unfold Z9;simp only[aLst];unfold AH.cells;rw[g.blk];exact List.getElem?_eq_getElem hi
theorem qK.step(g:qK n0 H b vs f){H':AH}{i:Nat}(hi:i<vs.length){ys:List Nat}(bt:TF (Yw vs[i]) H H')(o:Yo n0 H' vs[i] ys):qK n0 H' b vs (fun j=>if j=i then ys else f j):=by
 have gi:vs[i]?=some vs[i]:=List.getElem?_eq_getElem hi;refine⟨g.lo,by rw[bt.n];exact g.hi,by rw[bt.blk b g.hi (g.out i _ gi)];exact g.blk,fun j v hj=>?_,g.ap,g.out⟩;by_cases e:j=i;·subst e;rw[if_pos rfl];obtain rfl:=Option.some.inj (gi.symm.trans hj);exact o
 ·rw[if_neg e];exact(g.own j v hj).but bt fun c hc=>g.ap i j _ _ (Ne.symm e) gi hj c hc
end
def IZ(b:Nat)(vs:List Value)(H H':AH):Prop:=H.n<=H'.n/\ ∀j,j<H.n->j≠b->(∀v∈vs,Yw v≠some j)->H'.blk j=H.blk j
theorem IZ.refl(b:Nat)(vs:List Value)(H:AH):IZ b vs H H:=⟨Nat.le_refl _,fun _ _ _ _=>rfl⟩
theorem IZ.trans{b:Nat}{vs:List Value}{H H1 H2:AH}(x:IZ b vs H H1)(y:IZ b vs H1 H2):IZ b vs H H2:=⟨Nat.le_trans x.1 y.1,fun j hj h1 h2=>(y.2 j (Nat.lt_of_lt_of_le hj x.1) h1 h2).trans (x.2 j hj h1 h2)⟩
theorem IZ.but{b i:Nat}{vs:List Value}{v:Value}{H H':AH}(hi:vs[i]?=some v)(bt:TF (Yw v) H H'):IZ b vs H H':=⟨Nat.le_of_eq bt.n.symm,fun j hj _ h2=>bt.blk j hj (h2 v (List.mem_of_getElem? hi))⟩
theorem IZ.mod{b i:Nat}{vs:List Value}{v:Value}{H H4 H5:AH}(hi:vs[i]?=some v)(md:Mod (Yw v) H H4)(h5:H5.n=H4.n/\ ∀j,j≠b->H5.blk j=H4.blk j):IZ b vs H H5:=⟨by have:=md.n;omega,fun j hj h1 h2=>(h5.2 j h1).trans (md.blk j hj (h2 v (List.mem_of_getElem? hi)))⟩
theorem Of{n:Nat}(h:n<Zd):SS Tryz.prog 3 101 (.int .i64 (n:Int))=some (.int .u64 (n:Int)):=by
 have h:n<18446744073709551616:=h;have e:IntKind.u64.wrap (n:Int)=(n:Int):=by rw[IntKind.wrap_u64];omega
 unfold SS;simp only[Tryz.underlying3,Tryz.underlying101,e]
theorem addu{x y:Nat}(h:x+y<Zd):Zc .add .u64 (x:Int) (y:Int)=some (.int .u64 ((x+y:Nat):Int)):=We h
end
section
attribute [-simp] Int.natCast_add Int.natCast_mul Int.natCast_ediv Int.natCast_emod Int.natCast_pow
attribute [local simp] strip ZN Xr LR gW ZB Yj ZU Yk ZG Yl Zw Zx Zj ZF Yd ZL Z1 Zl ZE Zk Zi Z0 ZA YK Zs Yf Y2 YW ZH plain ZM Tr.get_set Yz Zt Yt ZS sameKind undef ZZ ZD Yc Zv ZC Yh ZT parts XI DW Ym ZX LX ZV Zr ZI ZO XT Yi Zm ZP ZY ZR
inductive ET where|node(op:Int)(neg:Bool)(abs den:List Nat)(args:List ET)
mutual def ET.nodes:ET->Nat| .node _ _ _ _ args=>1+Z4 args def Z4:List ET->Nat|[]=>0|t::ts=>t.nodes+Z4 ts end
mutual def ET.depth:ET->Nat| .node _ _ _ _ args=>max 1 (XN args) def XN:List ET->Nat|[]=>0|t::ts=>max (t.depth+1) (XN ts) end
def arity(n:Nat):Nat:=[0,0,1,2,2,2,2,1,2,2,1,1,1,1,1,1][n]?.getD 0
def ET.good:ET->Bool| .node op neg abs den args=>decide (0<=op/\op<16/\args.length=arity op.toNat)&&(if op=0 then decide (0<dv Zd den)else decide (abs.length=0)&&decide (den.length=0)&&!neg)
mutual def ET.allGood:ET->Bool| .node op neg abs den args=>(ET.node op neg abs den args).good&&Wa args def Wa:List ET->Bool|[]=>true|t::ts=>t.allGood&&Wa ts end
mutual def ET.wide(L:Nat):ET->Prop| .node _ _ abs den args=>abs.length<=L/\den.length<=L/\YC Zd abs/\YC Zd den/\RX L args def RX(L:Nat):List ET->Prop|[]=>True|t::ts=>t.wide L/\RX L ts end
theorem Y5(t:ET):0<t.nodes:=by cases t;simp only[ET.nodes];omega
theorem Uv(xs ys:List ET):Z4 (xs++ys)=Z4 xs+Z4 ys:=by induction xs with|nil=>simp[Z4]|cons x xs ih=>simp[Z4,ih,Nat.add_assoc]
theorem PK(xs ys:List ET):Wa (xs++ys)=(Wa xs&&Wa ys):=by induction xs with|nil=>simp[Wa]|cons x xs ih=>simp[Wa,ih,Bool.and_assoc]
theorem Pb(xs ys:List ET):XN (xs++ys)=max (XN xs) (XN ys):=by induction xs with|nil=>simp[XN]|cons x xs ih=>simp[XN,ih,Nat.max_assoc]
theorem Vo{L:Nat}{xs:List ET}(h:RX L xs){i:Nat}{t:ET}(hi:xs[i]?=some t):t.wide L:=by induction xs generalizing i with
 |nil=>simp at hi
 |cons x xs ih=>cases i with|zero=>simp at hi;subst hi;exact h.1|succ i=>simp at hi;exact ih h.2 hi
theorem Tb{xs:List ET}{i:Nat}{t:ET}(hi:xs[i]?=some t):t.nodes<=Z4 xs:=by induction xs generalizing i with
 |nil=>simp at hi
 |cons x xs ih=>cases i with|zero=>simp at hi;subst hi;simp[Z4]|succ i=>simp at hi;have:=ih hi;simp only[Z4];omega
theorem Vw(xs:List ET):xs.length<=Z4 xs:=by induction xs with|nil=>simp|cons x xs ih=>have:=Y5 x;simp only[Z4,List.length_cons];omega
theorem PW: ∀n(t:ET),t.nodes<=n->t.depth<=t.nodes:=by intro n;induction n with
 |zero=>intro t h;have:=Y5 t;omega
 |succ n ih=>
  intro t h;obtain⟨op,neg,abs,den,args⟩:=t;simp only[ET.nodes]at h;simp only[ET.nodes,ET.depth];have key: ∀l:List ET,Z4 l<=n->XN l<=1+Z4 l:=by intro l;induction l with|nil=>intro _;simp[XN]|cons x xs Fj=>intro hl;simp only[Z4]at hl;simp only[XN,Z4];have h1:=ih x (by omega);have h2:=Fj (by omega);have:=Y5 x;omega
  have:=key args (by omega);omega
mutual inductive Ex(H:AH):List Value->ET->Prop|mk{op:Int}{neg:Bool}{va vd vx:Value}{abs den:List Nat}{args:List ET} :Sl H va abs->Sl H vd den->Xs H vx args->Ex H [.int .i64 op,.bool neg,va,vd,vx] (.node op neg abs den args) inductive Xs(H:AH):Value->List ET->Prop|nil:Xs H (.slice none 0 0) []|emp(b:Nat):Xs H (.slice (some ⟨b,0,some 0⟩) 0 0) []|mk(b o cap:Nat){cs:List Value}{args:List ET} :b<H.n->H.cells b=some cs->args.length<=cap->(∀(i:Nat)(t:ET),args[i]?=some t->Ex H ((cs.drop (o+i*5)).take 5) t)->Xs H (.slice (some ⟨b,o,none⟩) args.length cap) args end
theorem Tw(H:AH):Zg H H.top:=⟨Nat.le_refl _,by show min H.lw H.n<=H.n;omega,fun _ _=>rfl⟩
theorem Vp{H H':AH}(k:Zg H H'){b:Nat}(hb:b<H.n):H'.cells b=H.cells b:=by unfold AH.cells;rw[k.blk b hb]
theorem mI{H H':AH}(k:Zg H H'): ∀n(t:ET),t.nodes<=n-> ∀vs,Ex H vs t->Ex H' vs t:=by intro n;induction n with
 |zero=>intro t h;have:=Y5 t;omega
 |succ n ih=>intro t h vs hx;cases hx with
  |mk h1 h2 h3=>simp only[ET.nodes]at h;refine .mk (h1.keep k) (h2.keep k) ?_;cases h3 with
   |nil=>exact .nil
   |emp b=>exact .emp b
   |mk b o cap hb hc hl hf=>
    rename_i cs;refine .mk b o cap (cs:=cs) (Nat.lt_of_lt_of_le hb k.n) ?_ hl fun i t hi=>?_;·rw[Vp k hb];exact hc
    ·have:=Tb hi;exact ih t (by omega) _ (hf i t hi)
theorem Ex.keep{H H':AH}{vs:List Value}{t:ET}(h:Ex H vs t)(k:Zg H H'):Ex H' vs t:=mI k _ t (Nat.le_refl _) vs h
theorem Xs.len{H:AH}{v:Value}{args:List ET}(h:Xs H v args):R9 Tryz.prog 51 v=some args.length:=by
 have u:Tryz.prog.underlying 51=some (.slice 53):=by kernel_rfl
 unfold R9;rw[u];cases h<;>rfl
theorem eU:XQ Tryz.prog 53=some true:=by kernel_rfl
theorem Rz:Xn Tryz.prog 53=some 5:=by kernel_rfl
theorem aOp:XQ Tryz.prog 50=some false:=by kernel_rfl
theorem Jb:XQ Tryz.prog 30=some false:=by kernel_rfl
theorem GS:XQ Tryz.prog 51=some false:=by kernel_rfl
theorem Ja:XQ Tryz.prog 3=some false:=by kernel_rfl
theorem Hq:XQ Tryz.prog 4=some false:=by kernel_rfl
theorem Z7{H:AH}{t:TypeId}(ht:XQ Tryz.prog t=some false){b o:Nat}{cs:List Value}{v:Value}(h:H.cells b=some cs)(hk:cs[o]?=some v):Z9 Tryz.prog H t (.pointer (some ⟨b,o,none⟩))=some v:=by unfold Z9;simp only[ht,h,hk]
theorem Qb{H:AH}{b o:Nat}{cs vs:List Value}(h:H.cells b=some cs)(hk:(cs.drop o).take 5=vs)(hl:vs.length=5):Z9 Tryz.prog H 53 (.pointer (some ⟨b,o,none⟩))=some (.agg vs.toArray):=by
 unfold Z9;simp only[eU,Rz,AH.read_def,h];have:o+5<=cs.length:=by have:=congrArg List.length hk;rw[List.length_take,List.length_drop,hl]at this;omega
 rw[Nat.ble_eq.mpr this,cond_true,hk]
theorem Ex.len{H:AH}{vs:List Value}{t:ET}(h:Ex H vs t):vs.length=5:=by cases h;rfl
theorem Xs.at{H:AH}{v:Value}{args:List ET}(h:Xs H v args){i:Nat}{t:ET}(hi:args[i]?=some t): ∃(p:Value) (vs:List Value),Yg Tryz.prog 51 v (.int .i64 (i:Int))=some p/\(∀H',Zg H H'->Z9 Tryz.prog H' 53 p=some (.agg vs.toArray))/\Ex H vs t:=by
 have u:Tryz.prog.underlying 51=some (.slice 53):=by kernel_rfl
 have YP:i<args.length:=by
  rcases Nat.lt_or_ge i args.length with h'|h';·exact h'
  ·rw[List.getElem?_eq_none h']at hi;cases hi
 cases h with|nil=>simp at hi|emp b=>simp at hi|mk b o cap hb hc hl hf=>have hE:=hf i t hi;refine⟨.pointer (some ⟨b,o+i*5,none⟩),_,?_,fun H' k=>Qb ((Vp k hb).trans hc) rfl hE.len,hE⟩;unfold Yg;simp only[u,Rz];rw[if_pos (by omega)];simp
theorem Ez(b o:Nat):Ys Tryz.prog 53 (.pointer (some ⟨b,o,none⟩)) 0=some (.pointer (some ⟨b,o,none⟩)):=by kernel_rfl
theorem PQ(b o:Nat):Ys Tryz.prog 53 (.pointer (some ⟨b,o,none⟩)) 1=some (.pointer (some ⟨b,o+1,none⟩)):=by kernel_rfl
theorem Jw(b o:Nat):Ys Tryz.prog 53 (.pointer (some ⟨b,o,none⟩)) 2=some (.pointer (some ⟨b,o+4,none⟩)):=by kernel_rfl
theorem jD(b o:Nat):Ys Tryz.prog 34 (.pointer (some ⟨b,o,none⟩)) 0=some (.pointer (some ⟨b,o,none⟩)):=by kernel_rfl
theorem ru(b o:Nat):Ys Tryz.prog 34 (.pointer (some ⟨b,o,none⟩)) 1=some (.pointer (some ⟨b,o+2,none⟩)):=by kernel_rfl
theorem VZ(b o:Nat):Ys Tryz.prog 32 (.pointer (some ⟨b,o,none⟩)) 0=some (.pointer (some ⟨b,o,none⟩)):=by kernel_rfl
theorem LZ(b o:Nat):Ys Tryz.prog 32 (.pointer (some ⟨b,o,none⟩)) 1=some (.pointer (some ⟨b,o+1,none⟩)):=by kernel_rfl
theorem VT(H:AH)(sz:Nat)(cs:List Value)(hz:sz≠0:=by decide):(H.new sz cs).cells H.n=some cs:=AH.cells_rw' (by rw[AH.blk_new,if_pos rfl]) hz
theorem Xi{H:AH}{sz:Nat}{zs ws:List Value}{t:TypeId}{n:Nat}(ht:Xn Tryz.prog t=some n)(hz:zs.length=n){v:Value}(hv:v.cells.toList=ws)(hw:ws.length=n)(h1:ws.all one=true)(zi:sz≠0:=by decide): ∃H',YX Tryz.prog (H.new sz zs) t (.pointer (some ⟨H.n,0,none⟩)) v=some H'/\Zg H H'/\H'.blk H.n= .rw sz ws/\H'.n=H.n+1:=by
 obtain⟨sz,rfl⟩: ∃k,sz=k+1:=⟨sz-1,by omega⟩;have hb:(H.new (sz+1) zs).blk H.n= .rw (sz+1) zs:=by rw[AH.blk_new,if_pos rfl]
 have hs:v.cells.size=n:=by rw[<-hw,<-hv];simp
 have hle:Nat.ble (0+ws.length) zs.length=true:=Nat.ble_eq.mpr (by omega);refine⟨{ n:=H.n+1,lw:=min H.lw H.n,t:=(H.new (sz+1) zs).t.set H.n (.rw (sz+1) ws) },?_,⟨Nat.le_succ _,Nat.le_refl _,fun j hj=>?_⟩,?_,rfl⟩;·unfold YX;simp only[ht,hs,hv];rw[show Nat.beq n n=true from by simp,cond_true,AH.write_def,hb];simp only[hle,h1,Bool.and_self,cond_true,List.take_zero,List.nil_append];rw[List.drop_of_length_le (by omega),List.append_nil];rfl
 ·unfold AH.blk AH.new;simp only[Tr.get_set];rw[if_neg (by omega),if_neg (by omega)]
 ·unfold AH.blk;simp only[Tr.get_set,if_true]
def RowsIn(H:AH):Prop:=0<H.n/\H.cells 0=some WD
theorem RowsIn.keep{H H':AH}(h:RowsIn H)(k:Zg H H'):RowsIn H':=⟨Nat.lt_of_lt_of_le h.1 k.n,by rw[Vp k h.1];exact h.2⟩
theorem Aa: ∀(n:Nat),n<16->WD[n*3+2]?=some (.int .i64 (arity n:Int)):=by intro n hn;match n,hn with|0,_=>rfl|1,_=>rfl|2,_=>rfl|3,_=>rfl|4,_=>rfl|5,_=>rfl|6,_=>rfl|7,_=>rfl|8,_=>rfl|9,_=>rfl|10,_=>rfl|11,_=>rfl|12,_=>rfl|13,_=>rfl|14,_=>rfl|15,_=>rfl|n+16,h=>omega
theorem iv{k:IntKind}{n:Nat}(hn:n<16):Yg Tryz.prog 181 (.pointer (some ⟨0,0,none⟩)) (.int k (n:Int))=some (.pointer (some ⟨0,n*3,none⟩)):=by
 have u:Tryz.prog.underlying 181=some (.array 16 180):=by kernel_rfl
 have s:Xn Tryz.prog 180=some 3:=by kernel_rfl
 unfold Yg;simp only[u,s];rw[if_pos (by omega)];simp
theorem pZ(b o:Nat):Ys Tryz.prog 180 (.pointer (some ⟨b,o,none⟩)) 2=some (.pointer (some ⟨b,o+2,none⟩)):=by kernel_rfl
theorem AG:Nat.blt 0 Zu.ng=true:=rfl
theorem BK{H:AH}(h:H.cells 0=some WD){n:Nat}(hn:n<16):Z9 Tryz.prog H 3 (.pointer (some ⟨0,n*3+2,none⟩))=some (.int .i64 (arity n:Int)):=Z7 Ja h (Aa n hn)
theorem Sn{H:AH}{v:Value}{xs:List Nat}(h:Sl H v xs)(dx:YC Zd xs)(lx:xs.length<=17592186044416):Zy Tryz.prog Zu 123 [v] H=some (.int .i64 (Zo (dv Zd xs):Int),H):=by obtain⟨_,_,hc,rfl,rfl⟩:=Vm h dx lx;exact hc
theorem Tq{n:Nat} :Zo n=0↔n=0:=by unfold Zo;split<;>simp_all
theorem Qp{xs:List Nat}(dx:YC Zd xs){L:Nat}(lx:xs.length<=L):Zo (dv Zd xs)<=64*L:=by
 rcases Nat.eq_zero_or_pos (dv Zd xs)with h0|h0;·rw[h0];exact Nat.zero_le _
 ·have h1:=Vb (n:=dv Zd xs) (by omega);have h2:=Ww dx;have h3:Zd^xs.length<=Zd^L:=Nat.pow_le_pow_right (by decide) lx;have h4:Zd^L=2^(64*L):=(Nat.pow_mul 2 64 L).symm;rw[h4]at h3;have:=(Nat.pow_lt_pow_iff_right (a:=2) (by decide)).mp (Nat.lt_of_le_of_lt h1 (Nat.lt_of_lt_of_le h2 h3));omega
theorem rZ{x:Nat} :Zc .gtr .i64 (x:Int) 67108864=some (.bool (decide (67108864<x))):=by show some (Value.bool (decide ((x:Int)>67108864)))=_;congr 2;exact decide_eq_decide.mpr (by omega)
theorem rY{k:IntKind}{x:Nat} :Zc .gtr k (x:Int) 0=some (.bool (decide (0<x))):=by show some (Value.bool (decide ((x:Int)>0)))=_;congr 2;exact decide_eq_decide.mpr (by omega)
theorem rl{k:IntKind}{x:Nat} :Zc .eql k (x:Int) 0=some (.bool (decide (x=0))):=by
 show some (Value.bool ((x:Int)==0))=_;congr 2;by_cases h:x=0;·subst h;rfl
 ·rw[decide_eq_false h];simp;omega
theorem neqN{k:IntKind}{x y:Nat} :Zc .neq k (x:Int) (y:Int)=some (.bool (decide (x≠y))):=by
 show some (Value.bool ((x:Int) !=(y:Int)))=_;congr 2;by_cases h:x=y;·subst h;simp
 ·rw[decide_eq_true h];simp[bne];omega
theorem Ac{H:AH}{vs:List Value}{op:Int}{neg:Bool}{abs den:List Nat}{args:List ET}(hE:Ex H vs (.node op neg abs den args))(hR:RowsIn H)(da:YC Zd abs)(dd:YC Zd den)(la:abs.length<=1048576)(ld:den.length<=1048576):CW Tryz.prog Zu 96 [.agg vs.toArray] H fun v H'=>Zg H H'/\v= .bool (ET.node op neg abs den args).good:=by cases hE with
 |@mk _ _ va vd vx _ _ _ h1 h2 h3=>
  refine Z2 74 Tryz.func96 ?_;have hN: ∀H':AH,Zg (H.new 1 [.int .i64 op,.bool neg,va,vd,vx]) H'->Zg H H':=fun H' k=>(Zg.new H 1 _).trans k;have kB:=Zg.new H 1 [.int .i64 op,.bool neg,va,vd,vx];have AB:=VT H 1 [.int .i64 op,.bool neg,va,vd,vx];have vX:=(h1.keep kB).len Zv;have zX:=(h2.keep kB).len Zv;have hRB:=hR.keep kB;have c1:=Sn (h1.keep kB) da (by omega);have c2:=Sn (h2.keep kB) dd (by omega);have c1t:=Sn ((h1.keep kB).keep (Tw _)) da (by omega);have c2t:=Sn ((h2.keep kB).keep (Tw _)) dd (by omega);have b1:=Qp da la;have b2:=Qp dd ld;have lx:=h3.len;obtain⟨HB,MR⟩:=hid (H.new 1 [.int .i64 op,.bool neg,va,vd,vx]);rw[<-MR]at kB AB hRB c1 c2 c1t c2t;have f0:=Z7 aOp (o:=0) AB rfl;have f1:=Z7 Hq (o:=1) AB rfl;have f2:=Z7 Jb (o:=2) AB rfl;have f3:=Z7 Jb (o:=3) AB rfl;have f4:=Z7 GS (o:=4) AB rfl;have g2:Z9 Tryz.prog HB.top 30 (.pointer (some ⟨H.n,2,none⟩))=some va:=Z7 Jb (show HB.top.cells H.n=some _ from AB) rfl;have g3:Z9 Tryz.prog HB.top 30 (.pointer (some ⟨H.n,3,none⟩))=some vd:=Z7 Jb (show HB.top.cells H.n=some _ from AB) rfl;obtain⟨R,N6⟩: ∃R:Bool,R=(ET.node op neg abs den args).good:=⟨_,rfl⟩;rw[<-N6];simp only[ET.good]at N6;apply Zb;intro d1 IJ;simp[Value.cells,<-MR];subst IJ;apply Zf;intro d1 IJ;apply Zf;intro d2 Iv;have no: ∀tm:Tr Value,tm.get 25=some (.bool true)->R=false->W Tryz.prog Zu d2 ⟨74,tm,HB⟩ (Yq Tryz.prog Zu d1 fun ex s=>(ex= .norm\/ex= .ret)/\ ∃vs,ZZ Tryz.prog s [.tmp 2]=some vs/\Zg H s.H/\Yc vs= .bool R):=fun tm ht hno=>by rw[hno];subst Iv;refine Za (t:=true) (by simp[ht]) ?_;apply Zb;intro b2 Zp;simp;subst Zp;apply Zq;simp[Yq];exact kB
  apply Rg (by kernel_rfl);have e0:Zc .lss .i64 op 0=some (.bool (decide (op<0))):=rfl;have e1:Zc .geq .i64 op 16=some (.bool (decide (op≥16))):=rfl;by_cases o1:op<0;·rw[decide_eq_true o1]at e0;simp[Ez,f0,e0];show W _ _ d2 _ _;exact no _ (by simp) (by rw[N6,decide_eq_false (by omega),Bool.false_and])
  rw[decide_eq_false o1]at e0;by_cases o2:op≥16;·rw[decide_eq_true o2]at e1;simp[Ez,f0,e0,e1];show W _ _ d2 _ _;exact no _ (by simp) (by rw[N6,decide_eq_false (by omega),Bool.false_and])
  rw[decide_eq_false o2]at e1;obtain⟨n,rfl⟩: ∃n:Nat,op=(n:Int):=⟨op.toNat,by omega⟩;have hn:n<16:=by omega
  rw[Int.toNat_natCast]at N6;have ld2:=BK hRB.2 hn;have e2:Zc .neq .i64 (args.length:Int) (arity n:Int)=some (.bool (decide (args.length≠arity n))):=neqN;by_cases o3:args.length=arity n
  ·rw[decide_eq_false (fun h=>h o3)]at e2;simp[Ez,Jw,f0,f4,e0,e1,lx,AG,iv hn,pZ,ld2,e2];subst Iv;refine Za (t:=false) (by simp) ?_;apply Zn;subst IJ;rw[decide_eq_true (show 0<=(n:Int)/\(n:Int)<16/\args.length=arity n from⟨by omega,by omega,o3⟩),Bool.true_and]at N6;clear no;have e3:Zc .eql .i64 (n:Int) 0=some (.bool (decide (n=0))):=rl;apply Zf;intro d1 IJ;apply Zb;intro d2 Iv;simp[Ez,f0,e3];subst Iv;by_cases h0:n=0
   ·refine Za (t:=true) (by simp[h0]) ?_;rw[if_pos (by omega)]at N6;have g1:Zc .gtr .i64 (Zo (dv Zd abs):Int) 67108864=some (.bool false):=by rw[rZ,decide_eq_false (by omega)]
    have g4:Zc .gtr .i64 (Zo (dv Zd den):Int) 67108864=some (.bool false):=by rw[rZ,decide_eq_false (by omega)]
    have g5:Zc .gtr .i64 (Zo (dv Zd den):Int) 0=some (.bool R):=by rw[rY,N6];congr 2;exact decide_eq_decide.mpr (by have:=Tq (n:=dv Zd den);omega)
    apply Zf;intro d3 II;apply NP (by kernel_rfl);simp[PQ,jD,ru,LZ,g2,g3,c1t,c2t];subst II;apply Zf;intro d3 II;apply Zb;intro d4 dM;simp[g1,g4];subst dM;refine Za (t:=false) (by simp) ?_;apply Zn;subst II;apply Zb;intro d4 dM;simp[g5];subst dM;apply Zq;simp[Yq];exact kB
   ·refine Za (t:=false) (by simp[h0]) ?_;rw[if_neg (by omega)]at N6;apply Zn;subst IJ;apply Zb;intro d3 II;have e5:Zc .eql .i64 (abs.length:Int) 0=some (.bool (decide (abs.length=0))):=rl;have e6:Zc .eql .i64 (den.length:Int) 0=some (.bool (decide (den.length=0))):=rl;by_cases i1:abs.length=0
    ·rw[decide_eq_true i1]at e5;by_cases i2:den.length=0;·rw[decide_eq_true i2]at e6;simp[PQ,jD,ru,LZ,VZ,f1,f2,f3,vX,zX,e5,e6];subst II;apply Zq;simp;exact⟨kB,by rw[N6];simp[i1,i2]⟩
     ·rw[decide_eq_false i2]at e6;simp[PQ,jD,ru,LZ,VZ,f1,f2,f3,vX,zX,e5,e6];subst II;apply Zq;simp;exact⟨kB,by rw[N6];simp[i1,i2]⟩
    ·rw[decide_eq_false i1]at e5;simp[PQ,jD,ru,LZ,VZ,f1,f2,f3,vX,zX,e5];subst II;apply Zq;simp;exact⟨kB,by rw[N6];simp[i1]⟩
  ·rw[decide_eq_true o3]at e2;simp[Ez,Jw,f0,f4,e0,e1,lx,AG,iv hn,pZ,ld2,e2];show W _ _ d2 _ _;exact no _ (by simp) (by rw[N6,decide_eq_false (by omega),Bool.false_and])
def Ui(n0:Nat)(H H1:AH):Prop:= ∀H0,Zg H0 H->H0.n<=n0->Zg H0 H1
theorem Ui.refl(n0:Nat)(H:AH):Ui n0 H H:=fun _ k _=>k
theorem Ui.trans{n0:Nat}{H H1 H2:AH}(a:Ui n0 H H1)(b:Ui n0 H1 H2):Ui n0 H H2:=fun H0 k h=>b H0 (a H0 k h) h
theorem Zg.kat{H H':AH}(k:Zg H H')(n0:Nat):Ui n0 H H':=fun H0 k0 _=>k0.trans k
theorem cC:Xn Tryz.prog 3=some 1:=by kernel_rfl
theorem Af{H:AH}{t:TypeId}(ht:Xn Tryz.prog t=some 1){b sz:Nat}{x y:Value}(h:H.blk b= .rw sz [x])(hy:y.cells=#[y])(h1:one y=true)(zi:sz≠0:=by decide): ∃H',YX Tryz.prog H t (.pointer (some ⟨b,0,none⟩)) y=some H'/\H'.blk b= .rw sz [y]/\H'.n=H.n/\(∀j,j≠b->H'.blk j=H.blk j)/\Ui b H H':=by
 obtain⟨sz,rfl⟩: ∃k,sz=k+1:=⟨sz-1,by omega⟩;refine⟨{ n:=H.n,lw:=min H.lw b,t:=H.t.set b (.rw (sz+1) [y]) },?_,?_,rfl,fun j hj=>?_,fun H0 k hn=>⟨k.n,?_,fun j hj=>?_⟩⟩;·unfold YX;simp only[ht,hy];rw[show Nat.beq (#[y]:Array Value).size 1=true from rfl,cond_true,AH.write_def,h];simp[h1];rfl
 ·unfold AH.blk;simp only[Tr.get_set,if_true]
 ·unfold AH.blk;simp only[Tr.get_set];rw[if_neg hj]
 ·have:=k.lw;show min H0.lw H0.n<=min H.lw b;omega
 ·unfold AH.blk;simp only[Tr.get_set];rw[if_neg (by omega)];exact k.blk j hj
theorem zQ(a b:Nat):TW true [.int .i64 (a:Int),.int .i64 (b:Int)]=some (.int .i64 ((max a b:Nat):Int)):=by
 unfold TW;simp only[sameKind,BEq.rfl,cond_true];congr 2;by_cases h:(a:Int)<b;·rw[if_pos h];omega
 ·rw[if_neg h];omega
theorem wm{x y:Nat}(h:x+y<9223372036854775808):Zc .add .i64 (x:Int) (y:Int)=some (.int .i64 ((x+y:Nat):Int)):=by show some (Value.int .i64 (IntKind.i64.wrap ((x:Int)+y)))=_;rw[<-Int.natCast_add,P9 h]
theorem VF{x:Nat}(h:x+1<9223372036854775808):Zc .add .i64 (x:Int) 1=some (.int .i64 ((x+1:Nat):Int)):=wm (y:=1) h
theorem Te:VV Tryz.prog 53=some (.agg #[.int .i64 0,.bool false,.slice none 0 0,.slice none 0 0,.slice none 0 0]):=by kernel_rfl
theorem Ex.ones{H:AH}{vs:List Value}{t:ET}(h:Ex H vs t):vs.all one=true:=by
 have hs: ∀{v:Value}{xs:List Nat},Sl H v xs->one v=true:=fun h=>by cases h<;>rfl
 cases h with
  |mk h1 h2 h3=>
   have h4: ∀{v:Value}{l:List ET},Xs H v l->one v=true:=fun h=>by cases h<;>rfl
   simp only[List.all_cons,List.all_nil,hs h1,hs h2,h4 h3,Bool.and_true];rfl
def er(H:AH)(b c:Nat)(t:ET)(v:Value)(H':AH):Prop:=v= .tuple #[.bool t.allGood,.int .i64 (t.depth:Int)]/\Ui b H H'/\H.n<=H'.n/\H'.blk b= .rw 1 [.int .i64 ((c+t.nodes:Nat):Int)]
theorem Mk{k:IntKind}{x y:Nat} :Zc .lss k (x:Int) (y:Int)=some (.bool (decide (x<y))):=by show some (Value.bool (decide ((x:Int)<y)))=_;congr 2;exact decide_eq_decide.mpr (by omega)
theorem az{x:Nat}(h:x<=4611686018427387903):Zc .gtr .i64 (x:Int) 4611686018427387903=some (.bool false):=by show some (Value.bool (decide ((x:Int)>4611686018427387903)))=_;congr 2;exact decide_eq_false (by omega)
theorem mD: ∀n(t:ET),t.nodes<=n-> ∀(H0 H:AH)(vs:List Value)(b c deep:Nat),Ex H0 vs t->RowsIn H0->t.wide 1048576->Zg H0 H->H0.n<=b->b<H.n->H.blk b= .rw 1 [.int .i64 (c:Int)]->c+t.nodes<=1000000000->deep+t.nodes<=1000000000->CW Tryz.prog Zu 68 [.agg vs.toArray,.int .i64 (deep:Int),.pointer (some ⟨b,0,none⟩),.int .i64 4611686018427387903] H (er H b c t):=by intro n;induction n with
 |zero=>intro t h;have:=Y5 t;omega
 |succ n ih=>
  intro t ht H0 H vs b c deep hE hR hw k0 hb Iu W3 hc hdp;obtain⟨op,neg,abs,den,args⟩:=t;have hEk:=hE;have hlen:=hE.len;have Rn:=hE.ones;obtain⟨wa,wd,da,dd,ws⟩:=hw;simp only[ET.nodes]at ht hc hdp;unfold er;simp only[ET.nodes];refine Z2 60 Tryz.func68 ?_;have kB:=Zg.new H 1 vs;have fm:(H.new 1 vs).blk H.n= .rw 1 vs:=by rw[AH.blk_new,if_pos rfl]
  have qE:(H.new 1 vs).blk b= .rw 1 [.int .i64 (c:Int)]:=by rw[AH.blk_new,if_neg (by omega)];exact W3
  have nB:(H.new 1 vs).n=H.n+1:=rfl;obtain⟨HB,MR⟩:=hid (H.new 1 vs);rw[<-MR]at kB fm qE nB;have cb:HB.cells b=some [.int .i64 (c:Int)]:=by unfold AH.cells;rw[qE]
  have l1:=Z7 Ja (o:=0) cb rfl;obtain⟨H2,TE,fj,n2,oth2,ks⟩:=Af cC (y:= .int .i64 ((c+1:Nat):Int)) qE rfl rfl;have cb2:H2.cells b=some [.int .i64 ((c+1:Nat):Int)]:=by unfold AH.cells;rw[fj]
  have l2:=Z7 Ja (o:=0) cb2 rfl;have cB2:H2.cells H.n=some vs:=by unfold AH.cells;rw[oth2 H.n (by omega),fm]
  have l3:=Qb (o:=0) cB2 (vs:=vs) (by rw[List.drop_zero,List.take_of_length_le (by omega)]) hlen;have k02:Zg H0 H2:=ks H0 (k0.trans kB) hb;obtain⟨_,H3,c3,k3,rfl⟩:=Ac (hEk.keep k02) (hR.keep k02) da dd wa wd;obtain⟨g,hg⟩: ∃g:Bool,g=(ET.node op neg abs den args).good:=⟨_,rfl⟩;rw[<-hg]at c3;have iw:=k02.trans k3;have cB3:H3.cells H.n=some vs:=by rw[Vp k3 (by omega)];exact cB2
  cases hEk with
   |@mk _ _ va vd vx _ _ _ h1 h2 h3=>
    have l4:=Z7 GS (o:=4) cB3 rfl;have lx:=h3.len;have la:=Vw args;have q1:=az (x:=c+1) (by omega);have q2:=az (x:=deep) (by omega);have lf:H3.blk b= .rw 1 [.int .i64 ((c+1:Nat):Int)]:=by rw[k3.blk b (by omega)];exact fj
    have M6:Ui b H H3:=((kB.kat b).trans ks).trans (k3.kat b);have n3:=k3.n;apply Zb;intro d1 IJ;simp[Value.cells,<-MR];subst IJ;apply Zb;intro d1 IJ;simp[l1,VF (x:=c) (by omega),TE];subst IJ;apply Zf;intro d1 IJ;apply Zb;intro d2 Iv;simp[l2,q1,q2];subst Iv;refine Za (t:=false) (by simp) ?_;apply Zn;subst IJ;apply Zb;intro d1 IJ;simp only[List.toArray]at c3 l3;simp[l3,c3];subst IJ;apply Zb;intro d1 IJ;simp;subst IJ;apply Zf;intro d1 IJ;apply Zb;intro d2 Iv;simp[Jw,l4,lx];subst Iv;apply Zz;obtain⟨m0,M3⟩:=hid (args.length);rw[<-M3]at lx la;refine YU (fun m s'=>s'.k=60/\Zg H0 s'.H/\Ui b H s'.H/\H3.n<=s'.H.n/\ ∃(i:Nat) (ok:Bool) (d:Nat),m+i=m0/\ok=(g&&Wa (args.take i))/\d=max 1 (XN (args.take i))/\s'.H.blk b= .rw 1 [.int .i64 ((c+1+Z4 (args.take i):Nat):Int)]/\s'.tm.get 1=some (.int .i64 (deep:Int))/\s'.tm.get 2=some (.pointer (some ⟨b,0,none⟩))/\s'.tm.get 3=some (.int .i64 4611686018427387903)/\s'.tm.get 10=some (.bool ok)/\s'.tm.get 11=some (.int .i64 (d:Int))/\s'.tm.get 34=some vx/\s'.tm.get 35=some (.int .i64 (m0:Int))/\s'.tm.get 36=some (.int .i64 (i:Int))) ?_ m0 _ ⟨rfl,iw,M6,Nat.le_refl _,0,g,1,by omega,by simp[Wa],by simp[XN],by simpa[Z4]using lf,by simp,by simp,by simp,by simp,by simp,by simp,by simp[M3],by simp⟩;rintro m ⟨k,tm,H4⟩ ⟨hk,kH,kaH,uH,i,ok,d,M5,SB,hd,IX,t1,t2,t3,t10,t11,t34,t35,t36⟩ Q' Y0;simp only at hk kH kaH uH IX t1 t2 t3 t10 t11 t34 t35 t36;subst hk;apply Zb;intro d3 II;simp[t35,t36,Mk];subst II;apply Zf;intro d3 II;by_cases hi:i<m0
    ·refine Za (t:=true) (by simp[hi]) ?_;apply Zn;subst II;obtain⟨x,hx⟩: ∃x,args[i]?=some x:=⟨_,List.getElem?_eq_getElem (by omega)⟩;have JN:args.take (i+1)=args.take i++[x]:=by rw[List.take_add_one,hx];rfl
     have RP:Z4 (args.take (i+1))=Z4 (args.take i)+x.nodes:=by rw[JN,Uv];simp[Z4]
     have hle:Z4 (args.take (i+1))<=Z4 args:=by have:=Uv (args.take (i+1)) (args.drop (i+1));rw[List.take_append_drop]at this;omega
     obtain⟨p,us,ha5,hl5,gw⟩: ∃(p:Value) (us:List Value),Yg Tryz.prog 51 vx (.int .i64 (i:Int))=some p/\Z9 Tryz.prog H4 53 p=some (.agg us.toArray)/\Ex H0 us x:=by obtain⟨p,us,e1,e2,e3⟩:=h3.at hx;exact⟨p,us,e1,e2 _ kH,e3⟩
     obtain⟨H5,Xy,k5,Jf,n5⟩:=Xi (H:=H4) (sz:=1) (zs:=[.int .i64 0,.bool false,.slice none 0 0,.slice none 0 0,.slice none 0 0]) Rz rfl (v:= .agg us.toArray) (ws:=us) (by simp[Value.cells]) gw.len gw.ones;have c5:H5.cells H4.n=some us:=by unfold AH.cells;rw[Jf]
     have l5:=Qb (o:=0) c5 (vs:=us) (by rw[List.drop_zero,List.take_of_length_le (by rw[gw.len];omega)]) gw.len;have Sh:H5.blk b= .rw 1 [.int .i64 ((c+1+Z4 (args.take i):Nat):Int)]:=by rw[k5.blk b (by omega)];exact IX
     have uC:=Tb hx;obtain⟨_,H6,c6,rfl,Vu,n6,lj⟩:=ih x (by omega) H0 H5 us b (c+1+Z4 (args.take i)) (deep+1) gw hR (Vo ws hx) (kH.trans k5) hb (by omega) Sh (by omega) (by omega);have k06:Zg H0 H6:=Vu H0 (kH.trans k5) hb;have zt:Ui b H H6:=(kaH.trans (k5.kat b)).trans Vu;apply Zf;intro d3 II;apply Zz;apply Zb;intro d4 dM;simp[t34,t36,ha5,hl5,Te,Value.cells,Xy];subst dM;apply Zb;intro d4 dM;simp[t1,t2,t3,l5,VF (x:=deep) (by omega),c6];subst dM;apply Zb;intro d4 dM;cases ok with
      |true=>
       simp[t10];subst dM;have xd:=PW _ x (Nat.le_refl _);apply Zh;simp[t11,VF (x:=x.depth) (by omega),zQ];subst II;apply Zh;simp[t36,VF (x:=i) (by omega)];apply Y0;refine⟨m-1,by omega,rfl,k06,zt,by simp;omega,i+1,x.allGood,max d (x.depth+1),by omega,?_,?_,?_,by simp[t1],by simp[t2],by simp[t3],by simp,by simp,by simp[t34],by simp[t35],by simp⟩;·rw[JN,PK,<-Bool.and_assoc,<-SB];simp[Wa]
       ·rw[JN,Pb,hd];simp[XN,Nat.max_assoc]
       ·show H6.blk b=_;rw[lj,RP];congr 4;omega
      |false=>
       simp[t10];subst dM;have xd:=PW _ x (Nat.le_refl _);apply Zh;simp[t11,VF (x:=x.depth) (by omega),zQ];subst II;apply Zh;simp[t36,VF (x:=i) (by omega)];apply Y0;refine⟨m-1,by omega,rfl,k06,zt,by simp;omega,i+1,false,max d (x.depth+1),by omega,?_,?_,?_,by simp[t1],by simp[t2],by simp[t3],by simp,by simp,by simp[t34],by simp[t35],by simp⟩;·rw[JN,PK,<-Bool.and_assoc,<-SB];simp
       ·rw[JN,Pb,hd];simp[XN,Nat.max_assoc]
       ·show H6.blk b=_;rw[lj,RP];congr 4;omega
    ·refine Za (t:=false) (by simp[hi]) ?_;apply YQ;apply Y0;left;refine⟨rfl,?_⟩;obtain rfl:i=m0:=by omega
     rw[List.take_of_length_le (by omega)]at SB hd IX;subst IJ;apply Zb;intro d4 dM;simp[t10,t11];subst dM;apply Zq;simp;refine⟨⟨?_,?_⟩,kaH,by omega,?_⟩;·rw[SB,hg];simp[ET.allGood]
     ·rw[hd];simp[ET.depth]
     ·rw[IX];congr 4;omega
structure Ql (H : AH) (vs : List Value) (t : ET) : Prop where
  ex : Ex H vs t
  rows : RowsIn H
  wide : t.wide 1048576
  nodes : t.nodes <= 2000000
theorem Ql.keep{H H':AH}{vs:List Value}{t:ET}(h:Ql H vs t)(k:Zg H H'):Ql H' vs t:=⟨h.ex.keep k,h.rows.keep k,h.wide,h.nodes⟩
theorem uq:VV Tryz.prog 3=some (.int .i64 0):=by kernel_rfl
def X4(t:ET):Nat:=if t.allGood=false then 152 else if 4000<t.nodes\/200<t.depth then 151 else 0
theorem cq{H:AH}{vs:List Value}{t:ET}(h:Ql H vs t): ∃H2,YX Tryz.prog ((H.new 1 vs).new 1 [.int .i64 0]) 3 (.pointer (some ⟨H.n+1,0,none⟩)) (.int .i64 0)=some H2/\Z9 Tryz.prog H2 53 (.pointer (some ⟨H.n,0,none⟩))=some (.agg vs.toArray)/\ ∃H3,Zy Tryz.prog Zu 68 [.agg vs.toArray,.int .i64 1,.pointer (some ⟨H.n+1,0,none⟩),.int .i64 4611686018427387903] H2=some (.tuple #[.bool t.allGood,.int .i64 (t.depth:Int)],H3)/\Zg H H3/\Z9 Tryz.prog H3 3 (.pointer (some ⟨H.n+1,0,none⟩))=some (.int .i64 (t.nodes:Int)):=by
 have kB:=Zg.new H 1 vs;have fm:(H.new 1 vs).blk H.n= .rw 1 vs:=by rw[AH.blk_new,if_pos rfl]
 have nB:(H.new 1 vs).n=H.n+1:=rfl;obtain⟨HB,MR⟩:=hid (H.new 1 vs);rw[<-MR]at kB fm nB⊢;obtain⟨H2,TE,k2,fj,n2⟩:=Xi (H:=HB) (sz:=1) (zs:=[.int .i64 0]) cC rfl (v:= .int .i64 0) (ws:=[.int .i64 0]) rfl rfl rfl;rw[nB]at TE fj;have cB2:H2.cells H.n=some vs:=by rw[Vp k2 (by omega)];unfold AH.cells;rw[fm]
 have l2:=Qb (o:=0) cB2 (vs:=vs) (by rw[List.drop_zero,List.take_of_length_le (by rw[h.ex.len];omega)]) h.ex.len;obtain⟨_,H3,c3,rfl,M6,n3,lf⟩:=mD _ t (Nat.le_refl _) H H2 vs (H.n+1) 0 1 h.ex h.rows h.wide (kB.trans k2) (Nat.le_succ _) (by omega) fj (by have:=h.nodes;omega) (by have:=h.nodes;omega);rw[Nat.zero_add]at lf;have c3:Zy Tryz.prog Zu 68 [.agg vs.toArray,.int .i64 1,.pointer (some ⟨H.n+1,0,none⟩),.int .i64 4611686018427387903] H2=some (.tuple #[.bool t.allGood,.int .i64 (t.depth:Int)],H3):=c3;refine⟨H2,TE,l2,H3,c3,M6 H (kB.trans k2) (Nat.le_succ _),Z7 Ja (cs:=[.int .i64 (t.nodes:Int)]) ?_ rfl⟩;unfold AH.cells;rw[lf]
section
variable {H : AH} {vs : List Value} {t : ET}
theorem zI(H:AH)(sz:Nat)(cs:List Value):(H.new sz cs).n=H.n+1:=rfl
theorem gj{k:IntKind}{x y:Nat}{z:Int}(hz:z=(y:Int)):Zc .gtr k (x:Int) z=some (.bool (decide (y<x))):=by subst hz;show some (Value.bool (decide ((x:Int)>(y:Int))))=_;congr 2;exact decide_eq_decide.mpr (by omega)
theorem Jl(h:Ql H vs t): ∃H',Zy Tryz.prog Zu 28 [.agg vs.toArray] H=some (.int .i64 (X4 t:Int),H')/\Zg H H':=by
 suffices hs:CW Tryz.prog Zu 28 [.agg vs.toArray] H fun v H'=>v= .int .i64 (X4 t:Int)/\Zg H H' by obtain⟨_,H',hc,rfl,k⟩:=hs;exact⟨H',hc,k⟩
 obtain⟨H2,st,ld,H3,lc,k3,ln⟩:=cq h;obtain⟨C,hC⟩:=hid (X4 t);rw[<-hC];unfold X4 at hC;refine Z2 21 Tryz.func28 ?_;apply Zb;intro b1 Ze;simp[Value.cells];subst Ze;apply Zb;intro b1 Ze;simp[uq,Value.cells,zI,st];subst Ze;apply Zb;intro b1 Ze;simp[ld,lc];subst Ze;apply Zf;intro b1 Ze;apply Zz;apply Zb;intro b2 Zp;simp;subst Zp;obtain⟨g,hg⟩:=hid (t.allGood);rw[<-hg]at hC⊢;cases g with
  |false=>rw[if_pos rfl]at hC;subst hC;refine Za (t:=true) (by simp) ?_;apply Zb;intro b2 Zp;simp;subst Zp;apply Zq;simp[Yq,Ye];exact k3
  |true=>
   rw[if_neg (by decide)]at hC;refine Za (t:=false) (by simp) ?_;have g1:Zc .gtr .i64 (t.nodes:Int) 4000=some (.bool (decide (4000<t.nodes))):=gj (y:=4000) rfl;have g2:Zc .gtr .i64 (t.depth:Int) 200=some (.bool (decide (200<t.depth))):=gj (y:=200) rfl;apply Zb;intro b2 Zp;by_cases h1:4000<t.nodes;·rw[decide_eq_true h1]at g1;rw[if_pos (.inl h1)]at hC;subst hC;simp[ln,g1];subst Zp;refine Za (t:=true) (by simp) ?_;apply Zb;intro b2 Zp;simp;subst Zp;apply Zq;simp[Yq,Ye];exact k3
   ·rw[decide_eq_false h1]at g1;by_cases h2:200<t.depth;·rw[decide_eq_true h2]at g2;rw[if_pos (.inr h2)]at hC;subst hC;simp[ln,g1,g2];subst Zp;refine Za (t:=true) (by simp) ?_;apply Zb;intro b2 Zp;simp;subst Zp;apply Zq;simp[Yq,Ye];exact k3
    ·rw[decide_eq_false h2]at g2;rw[if_neg (by omega)]at hC;subst hC;simp[ln,g1,g2];subst Zp;refine Za (t:=false) (by simp) ?_;apply Zn;subst Ze;apply Zb;intro b2 Zp;simp;subst Zp;apply Zq;simp;exact k3
end
theorem mulN{x y:Nat}(h:x*y<9223372036854775808):Zc .mul .i64 (x:Int) (y:Int)=some (.int .i64 ((x*y:Nat):Int)):=by show some (Value.int .i64 (IntKind.i64.wrap ((x:Int)*y)))=_;rw[<-Int.natCast_mul,P9 h]
theorem bf{n:Nat}(h:n<9223372036854775808):SS Tryz.prog 3 228 (.int .i64 (n:Int))=some (.int .u64 (n:Int)):=by
 have e:IntKind.u64.wrap (n:Int)=(n:Int):=by rw[IntKind.wrap_u64];omega
 unfold SS;simp only[Tryz.underlying3,Tryz.underlying228,e]
section
variable {H : AH} {vs : List Value} {t : ET}
end
end
section
attribute [-simp] Int.natCast_add Int.natCast_mul Int.natCast_ediv Int.natCast_emod Int.natCast_pow
attribute [local simp] strip ZN Xr LR gW ZB Yj ZU Yk ZG Yl Zw Zx Zj ZF Yd ZL Z1 Zl ZE Zk Zi Z0 ZA YK Zs Yf Y2 YW ZH plain ZM Tr.get_set Yz Zt Yt ZS sameKind undef ZZ ZD Yc Zv ZC Yh ZT parts ZJ XI DW Ym ZX LX ZV Zr ZI ZO XT Yi Zm ZP ZY ZR
abbrev WM:Nat:=2000000000000
theorem VD{xs:List Nat}(dx:YC Zd xs):(ds Zd (dv Zd xs)).length<=xs.length:=X8 Ya (Ww dx)
theorem UR{B:Nat}(hB:2<=B){n m:Nat}(h:n<=m):(ds B n).length<=(ds B m).length:=X8 hB (Nat.lt_of_le_of_lt h (En hB m))
theorem Vq{B n:Nat}(hB:2<=B):0<(ds B n).length↔0<n:=by
 constructor
 ·intro h;rcases Nat.eq_zero_or_pos n with h0|h0;·subst h0;rw[Xg]at h;cases h
  ·exact h0
 ·intro h;rw[TC hB (by omega)];simp
theorem Wv{B n:Nat}(hB:2<=B):(ds B n).length=0↔n=0:=by have:=Vq (n:=n) hB;omega
theorem ff{N:Nat}(h:0<(ds Z5 N).length):Zo N=32*((ds Z5 N).length-1)+Zo ((ds Z5 N)[(ds Z5 N).length-1])/\(ds Z5 N)[(ds Z5 N).length-1]<Z5:=by
 have hN:0<N:=(Vq two32).mp h;obtain⟨k,hk⟩:=hid ((ds Z5 N).length-1);have YP:k<(ds Z5 N).length:=by omega
 have e:=Sz Z5 (ds Z5 N) k (by omega);rw[YL two32,List.drop_eq_getElem_cons YP,List.drop_eq_nil_of_le (by omega)]at e;simp only[dv,Nat.mul_zero,Nat.add_zero]at e;have hl:=Ww ((Yv two32 N).take k);rw[List.length_take,Nat.min_eq_left (by omega)]at hl;have hd:(ds Z5 N)[k]<Z5:=(Yv two32 N).get (List.getElem?_eq_getElem YP);have SL:=fT two32 (n:=N) (by omega);rw[<-hk]at SL;have hp:Z5^k=2^(32*k):=by rw[Nat.pow_mul]
 rw[hp]at SL e hl;have e2:(ds Z5 N)[(ds Z5 N).length-1]=(ds Z5 N)[k]:=by simp only[hk]
 rw[e2,<-hk];refine⟨?_,hd⟩;have hs:=Tp SL;have hq:N/2^(32*k)=(ds Z5 N)[k]:=by generalize(ds Z5 N)[k]=t at*;generalize dv Z5 ((ds Z5 N).take k)=u at*;rw[e,Nat.add_mul_div_left _ _ (Nat.two_pow_pos _),Nat.div_eq_of_lt hl,Nat.zero_add]
 rw[hq]at hs;exact hs
theorem aD{x:Nat}(h:x<Z5):Zo x<=32:=by
 rcases Nat.lt_or_ge 32 (Zo x)with h1|h1
 ·have h0:x≠0:=by rintro rfl;simp[Zo]at h1
  have a:=Vb h0;have b:2^32<=2^(Zo x-1):=Nat.pow_le_pow_right (by decide) (by omega);have hx:x<4294967296:=h;omega
 ·exact h1
theorem dig1{x:Nat}(h:x<Zd):YC Zd [x]:= .cons h (.nil _)
theorem dv1(x:Nat):dv Zd [x]=x:=by simp[dv]
theorem ds1{x:Nat}(h0:x≠0)(h:x<Zd):ds Zd x=[x]:=by rw[TC Ya h0,Nat.mod_eq_of_lt h,Nat.div_eq_of_lt h,Xg]
theorem PZ(H:AH){t:TypeId}(ht:LT t)(x:Nat): ∃v N,YV Tryz.prog H t 1 [(0,.int .u64 (x:Int))]=some (v,N)/\Zg H N/\Yo H.n N v [x]:=⟨_,_,O7 H ht x,.new _ _ _,Yo.new H [x]⟩
theorem DF{H:AH}{v:Value}{N:Nat}(h:Sl H v (ds Z5 N))(hl:(ds Z5 N).length<=2*WM):CW Tryz.prog Zu 23 [v] H fun v' H'=>H'=H/\v'= .int .i64 (Zo N:Int):=by
 refine Z2 25 Tryz.func23 ?_;have l1:=h.len ZC;obtain⟨L,hL⟩:=hid ((ds Z5 N).length);rw[<-hL]at l1;have hl:L<=4000000000000:=by rw[hL];exact hl
 apply Zb;intro b1 Ze;simp;subst Ze;apply Zf;intro b1 Ze;apply Zb;intro b2 Zp;simp[l1,Wo];subst Zp;by_cases h0:L=0
 ·refine Za (t:=true) (by simp[h0]) ?_;apply Zb;intro b2 Zp;simp;subst Zp;apply Zq;have:N=0:=by rw[h0]at hL;exact(Wv two32).mp hL.symm
  subst this;simp[Yq,Zo]
 ·refine Za (t:=false) (by simp[h0]) ?_;apply Zn;subst Ze;obtain⟨e,hd⟩:=ff (N:=N) (by omega);have a1:=h.adr ZC (k:= .i64) (i:=(ds Z5 N).length-1) (by omega);have d1:=h.load (i:=(ds Z5 N).length-1) (by omega);obtain⟨x,hx⟩:=hid ((ds Z5 N)[(ds Z5 N).length-1]'(by omega));rw[<-hx]at d1 hd e;rw[<-hL]at a1 d1 e;have hx32:=aD hd;have s1:Zc .sub .i64 (L:Int) 1=some (.int .i64 ((L-1:Nat):Int)):=Ut (by omega) (by omega);have s2:Zc .mul .i64 32 ((L-1:Nat):Int)=some (.int .i64 ((32*(L-1):Nat):Int)):=ct (by omega);apply Zb;intro b1 Ze;simp[l1,s1,s2];subst Ze;apply Zf;intro b1 Ze;apply Zb;intro b2 Zp;simp[l1,s1,a1,d1];subst Zp;apply Zz;refine YU (fun y s'=>s'.k=25/\s'.H=H/\y<Z5/\ ∃n:Nat,n+Zo y=Zo N/\s'.tm.get 3=some (.int .i64 (n:Int))/\s'.tm.get 4=some (.int .u64 (y:Int))) ?_ x _ ⟨rfl,rfl,hd,32*(L-1),e.symm,by simp,by simp⟩;rintro y ⟨k,tm,H2⟩ ⟨hk,hH,hy,n,hn,t3,t4⟩ Q' Y0;simp only at hk hH t3 t4;subst hk;subst hH;apply Zf;intro b3 Z3;apply Zb;intro b4 Yx;simp[t4,JX];subst Yx;by_cases Kt:0<y;·refine Za (t:=true) (by simp[Kt]) ?_;apply Zn;subst Z3;have hbh:=aF Kt;apply Zf;intro b3 Z3;apply Zz;apply Zh;simp[t3,YO (x:=n) (by omega)];subst Z3;apply Zh;simp[t4,quo2 (eG hy)];apply Y0;exact⟨y/2,Nat.div_lt_self Kt (by decide),rfl,rfl,Nat.lt_of_le_of_lt (Nat.div_le_self y 2) hy,n+1,by omega,by simp,by simp⟩
  ·refine Za (t:=false) (by simp[Kt]) ?_;apply YQ;apply Y0;left;refine⟨rfl,?_⟩;obtain rfl:y=0:=by omega
   have uI:n=Zo N:=by rw[<-hn];rfl
   subst Ze;apply Zb;intro b4 Yx;simp[t3];subst Yx;apply Zq;simp[uI]
theorem TK{H:AH}{v:Value}{N:Nat}(h:Sl H v (ds Z5 N))(hl:(ds Z5 N).length<=2*WM):Zy Tryz.prog Zu 23 [v] H=some (.int .i64 (Zo N:Int),H):=by obtain⟨_,_,hc,rfl,rfl⟩:=DF h hl;exact hc
theorem OU{H:AH}{v:Value}{N:Nat}(h:Sl H v (ds Z5 N)):Zy Tryz.prog Zu 19 [v] H=some (.bool (decide (N=0)),H):=by obtain⟨_,_,hc,rfl,rfl⟩:=dU h;rw[hc];congr 3;exact decide_eq_decide.mpr (Wv two32)
theorem P3{H:AH}{va vb:Value}{A B:Nat}(ha:Sl H va (ds Z5 A))(hb:Sl H vb (ds Z5 B))(lA:(ds Z5 A).length<=2*WM)(lB:(ds Z5 B).length<=2*WM)(hB:0<B): ∃q r H',Zy Tryz.prog Zu 64 [va,vb] H=some (.tuple #[q,r],H')/\Zg H H'/\Yo H.n H' q (ds Z5 (A/B))/\Yo H.n H' r (ds Z5 (A%B)):=by obtain⟨v,H',hc,k,q,r,e,o1,o2⟩:=DI ha hb (Yv two32 A) (Yv two32 B) (TY two32 B) (Nat.le_trans lA (by decide)) (Nat.le_trans lB (by decide)) (by rw[YL two32];exact hB);subst e;rw[YL two32,YL two32]at o1 o2;exact⟨q,r,H',hc,k,o1,o2⟩
section
variable {H : AH} {va vb : Value} {A B : Nat}
theorem DH(ha:Sl H va (ds Z5 A))(hb:Sl H vb (ds Z5 B))(lA:(ds Z5 A).length<=2*WM)(lB:(ds Z5 B).length<=2*WM):CW Tryz.prog Zu 63 [va,vb] H fun v H'=>Zg H H'/\Sl H' v (ds Z5 (Nat.gcd A B)):=by
 refine Z2 19 Tryz.func63 ?_;apply Zb;intro b1 Ze;simp;subst Ze;apply Zf;intro b1 Ze;apply Zz;refine YU (fun m s'=>s'.k=19/\Zg H s'.H/\ ∃(a:Nat) (av bv:Value),Nat.gcd a m=Nat.gcd A B/\(ds Z5 a).length<=2*WM/\(ds Z5 m).length<=2*WM/\Sl s'.H av (ds Z5 a)/\Sl s'.H bv (ds Z5 m)/\s'.tm.get 0=some av/\s'.tm.get 1=some bv) ?_ B _ ⟨rfl,.refl H,A,va,vb,rfl,lA,lB,ha,hb,by simp,by simp⟩;rintro m ⟨k,tm,H3⟩ ⟨hk,k3,a,av,bv,hg,la,lm,oa,ob,t0,t1⟩ Q' Y0;simp only at hk k3 oa ob t0 t1;subst hk;have z:=OU ob;apply Zf;intro b3 Z3;apply Zb;intro b4 Yx;simp[t1,z];subst Yx;by_cases hm:m=0;·refine Za (t:=false) (by simp[hm]) ?_;apply YQ;apply Y0;left;refine⟨rfl,?_⟩;subst hm;rw[Nat.gcd_zero_right]at hg;subst Ze;apply Zb;intro b4 Yx;simp[t0];subst Yx;apply Zq;simp;rw[<-hg];exact⟨k3,oa⟩
 ·refine Za (t:=true) (by simp[hm]) ?_;apply Zn;subst Z3;obtain⟨q,r,H4,c4,k4,oq,tS⟩:=P3 oa ob la lm (by omega);apply Zz;apply Zb;intro b3 Z3;simp[t0,t1,c4];subst Z3;apply Zh;simp[t1];apply Y0;refine⟨a%m,Nat.mod_lt _ (by omega),rfl,k3.trans k4,m,bv,r,?_,lm,Nat.le_trans (UR two32 (Nat.mod_le a m)) la,ob.keep k4,tS.sl,by simp,by simp⟩;rw[<-hg,Nat.gcd_comm a m,Nat.gcd_rec m a,Nat.gcd_comm]
theorem FY{H:AH}{v:Value}{xs:List Nat}(h:Sl H v xs)(dx:YC Zd xs)(hl:xs.length<=WM): ∃v' H',Zy Tryz.prog Zu 17 [v] H=some (v',H')/\Zg H H'/\Yo H.n H' v' (ds Z5 (dv Zd xs))/\(ds Z5 (dv Zd xs)).length<=2*WM:=by
 obtain⟨v',H',hc,k,o⟩:=nj h dx (Nat.le_trans hl (by decide));refine⟨v',H',hc,k,o,?_⟩;have h1:dv Zd xs<Z5^(2*xs.length):=by have:=Ww (Nh dx);rwa[MC,QW]at this
 have:=X8 two32 h1;have hl:xs.length<=2000000000000:=hl;show _<=2*2000000000000;omega
end
inductive RT where|node(op:Int)(neg:Bool)(N D:Nat)(bad:Bool)(args:List RT)
mutual def RT.nodes:RT->Nat| .node _ _ _ _ _ args=>1+YF args def YF:List RT->Nat|[]=>0|t::ts=>t.nodes+YF ts end
mutual def RT.depth:RT->Nat| .node _ _ _ _ _ args=>Xh args+1 def Xh:List RT->Nat|[]=>0|t::ts=>max t.depth (Xh ts) end
def aQ(op:Int)(bad:Bool)(n:Nat):Bool:=!bad&&decide (0<=op/\op<16/\n=arity op.toNat)
mutual def RT.right:RT->Bool| .node op _ _ _ bad args=>aQ op bad args.length&&Wc args def Wc:List RT->Bool|[]=>true|t::ts=>t.right&&Wc ts end
mutual def RT.fit:RT->Prop| .node _ _ N D _ args=>Zo N<=67108864/\Zo D<=67108864/\KC args def KC:List RT->Prop|[]=>True|t::ts=>t.fit/\KC ts end
def Z8(neg:Bool)(n d:Nat):Bool×Nat×Nat:=if n=0 then(false,0,1)else(neg,n/Nat.gcd n d,d/Nat.gcd n d)
def Wt(op:Int)(neg:Bool)(abs den:List Nat):(Bool×Nat×Nat)×Bool:=if op=0 then(if dv Zd den=0 then((false,0,0),true)else(Z8 neg (dv Zd abs) (dv Zd den),false))else((false,0,0),neg||decide (0<abs.length)||decide (0<den.length))
mutual def ET.ref:ET->RT| .node op neg abs den args=> .node op (Wt op neg abs den).1.1 (Wt op neg abs den).1.2.1 (Wt op neg abs den).1.2.2 (Wt op neg abs den).2 (WN args) def WN:List ET->List RT|[]=>[]|t::ts=>t.ref::WN ts end
theorem SH(l:List ET):WN l=l.map ET.ref:=by induction l with|nil=>rfl|cons x xs ih=>simp[WN,ih]
theorem QF(l:List ET):(WN l).length=l.length:=by rw[SH];simp
theorem Qg(xs ys:List RT):YF (xs++ys)=YF xs+YF ys:=by induction xs with|nil=>simp[YF]|cons x xs ih=>simp[YF,ih,Nat.add_assoc]
theorem Lk(xs ys:List RT):Xh (xs++ys)=max (Xh xs) (Xh ys):=by induction xs with|nil=>simp[Xh]|cons x xs ih=>simp[Xh,ih,Nat.max_assoc]
theorem Qh(xs ys:List RT):Wc (xs++ys)=(Wc xs&&Wc ys):=by induction xs with|nil=>simp[Wc]|cons x xs ih=>simp[Wc,ih,Bool.and_assoc]
theorem Vx(t:RT):0<t.nodes:=by cases t;simp only[RT.nodes];omega
theorem W5{xs:List RT}{i:Nat}{t:RT}(hi:xs[i]?=some t):t.nodes<=YF xs:=by induction xs generalizing i with
 |nil=>simp at hi
 |cons x xs ih=>cases i with|zero=>simp at hi;subst hi;simp[YF]|succ i=>simp at hi;have:=ih hi;simp only[YF];omega
theorem DA{xs:List RT}(h:KC xs){i:Nat}{t:RT}(hi:xs[i]?=some t):t.fit:=by induction xs generalizing i with
 |nil=>simp at hi
 |cons x xs ih=>cases i with|zero=>simp at hi;subst hi;exact h.1|succ i=>simp at hi;exact ih h.2 hi
theorem TV(xs:List RT):xs.length<=YF xs:=by induction xs with|nil=>simp|cons x xs ih=>have:=Vx x;simp only[YF,List.length_cons];omega
theorem Ky: ∀n(t:RT),t.nodes<=n->t.depth<=t.nodes:=by intro n;induction n with
 |zero=>intro t h;have:=Vx t;omega
 |succ n ih=>
  intro t h;obtain⟨op,neg,N,D,bad,args⟩:=t;simp only[RT.nodes]at h;simp only[RT.nodes,RT.depth];have key: ∀l:List RT,YF l<=n->Xh l<=YF l:=by intro l;induction l with|nil=>intro _;simp[Xh]|cons x xs Fj=>intro hl;simp only[YF]at hl;simp only[Xh,YF];have h1:=ih x (by omega);have h2:=Fj (by omega);omega
  have:=key args (by omega);omega
theorem Lm: ∀n(t:ET),t.nodes<=n->t.ref.nodes=t.nodes:=by intro n;induction n with
 |zero=>intro t h;have:=Y5 t;omega
 |succ n ih=>
  intro t h;obtain⟨op,neg,abs,den,args⟩:=t;simp only[ET.nodes]at h;simp only[ET.ref,RT.nodes,ET.nodes];have key: ∀l:List ET,Z4 l<=n->YF (WN l)=Z4 l:=by intro l;induction l with|nil=>intro _;rfl|cons x xs Fj=>intro hl;simp only[Z4]at hl;simp only[WN,YF,Z4];rw[ih x (by omega),Fj (by omega)]
  rw[key args (by omega)]
theorem cI: ∀n(t:ET),t.nodes<=n->t.ref.depth=t.depth:=by intro n;induction n with
 |zero=>intro t h;have:=Y5 t;omega
 |succ n ih=>
  intro t h;obtain⟨op,neg,abs,den,args⟩:=t;simp only[ET.nodes]at h;simp only[ET.ref,RT.depth,ET.depth];have key: ∀l:List ET,Z4 l<=n->(l=[]/\Xh (WN l)=0/\XN l=0)\/XN l=Xh (WN l)+1:=by intro l;induction l with
   |nil=>intro _;exact .inl ⟨rfl,rfl,rfl⟩
   |cons x xs Fj=>
    intro hl;simp only[Z4]at hl;simp only[WN,Xh,XN];rw[ih x (by omega)];rcases Fj (by omega)with⟨_,h1,h2⟩|h1;·right;rw[h1,h2];omega
    ·right;rw[h1];omega
  rcases key args (by omega)with⟨_,h1,h2⟩|h1;·rw[h1,h2];omega
  ·rw[h1];omega
theorem cH: ∀n(t:ET),t.nodes<=n->t.ref.right=t.allGood:=by intro n;induction n with
 |zero=>intro t h;have:=Y5 t;omega
 |succ n ih=>
  intro t h;obtain⟨op,neg,abs,den,args⟩:=t;simp only[ET.nodes]at h;simp only[ET.ref,RT.right,ET.allGood,ET.good,aQ,QF];have key: ∀l:List ET,Z4 l<=n->Wc (WN l)=Wa l:=by intro l;induction l with|nil=>intro _;rfl|cons x xs Fj=>intro hl;simp only[Z4]at hl;simp only[WN,Wc,Wa];rw[ih x (by omega),Fj (by omega)]
  rw[key args (by omega)];congr 1;rw[Bool.and_comm];congr 1;unfold Wt;split
  ·split;·rename_i h;rw[h];rfl
   ·rename_i h;show true=_;exact(decide_eq_true (by omega)).symm
  ·cases neg<;>cases abs<;>cases den<;>simp
theorem Gp(neg:Bool)(n d:Nat)(hd:0<d):(Z8 neg n d).2.1<=n/\(Z8 neg n d).2.2<=d:=by
 unfold Z8;split;·exact⟨Nat.zero_le _,hd⟩
 ·exact⟨Nat.div_le_self _ _,Nat.div_le_self _ _⟩
theorem Z6{n m:Nat}(h:n<=m):Zo n<=Zo m:=by
 rcases Nat.eq_zero_or_pos n with h0|h0;·subst h0;exact Nat.zero_le _
 ·have h1:=Vb (n:=n) (by omega);have h2:=WC m;have:=(Nat.pow_lt_pow_iff_right (a:=2) (by decide)).mp (Nat.lt_of_le_of_lt (Nat.le_trans h1 h) h2);omega
theorem MZ: ∀n(t:ET),t.nodes<=n->t.wide 1048576->t.ref.fit:=by intro n;induction n with
 |zero=>intro t h;have:=Y5 t;omega
 |succ n ih=>
  intro t h hw;obtain⟨op,neg,abs,den,args⟩:=t;simp only[ET.nodes]at h;obtain⟨la,ld,da,dd,ws⟩:=hw;simp only[ET.ref,RT.fit];have key: ∀l:List ET,Z4 l<=n->RX 1048576 l->KC (WN l):=by intro l;induction l with|nil=>intro _ _;trivial|cons x xs Fj=>intro hl uE;simp only[Z4]at hl;exact⟨ih x (by omega) uE.1,Fj (by omega) uE.2⟩
  have h1:=Qp da la;have h2:=Qp dd ld;have h0:Zo 0=0:=rfl;refine⟨?_,?_,key args (by omega) ws⟩
  ·unfold Wt;split
   ·split;·show Zo 0<=_;omega
    ·exact Nat.le_trans (Z6 (Gp _ _ _ (by omega)).1) (by omega)
   ·show Zo 0<=_;omega
  ·unfold Wt;split
   ·split;·show Zo 0<=_;omega
    ·exact Nat.le_trans (Z6 (Gp _ _ _ (by omega)).2) (by omega)
   ·show Zo 0<=_;omega
def qJ(Q:Nat->Prop)(H:AH)(v:Value)(xs:List Nat):Prop:=Sl H v xs/\ ∀c,Yw v=some c->Q c
def ur(Q:Nat->Prop)(H H':AH):Prop:=H.n<=H'.n/\ ∀j,Q j->j<H.n->H'.blk j=H.blk j
theorem Sl.agr{Q:Nat->Prop}{H H':AH}{v:Value}{xs:List Nat}(h:Sl H v xs)(hq: ∀c,Yw v=some c->Q c)(k:ur Q H H'):Sl H' v xs:=by cases h with|nil=>exact .nil|emp b=>exact .emp b|mk b o cap xs h1 h2=>obtain⟨h3,cs,h4,h5,h6⟩:=h2;have e:=k.2 b (hq b rfl) h3;exact .mk b o cap xs h1 ⟨Nat.lt_of_lt_of_le h3 k.1,cs,by unfold AH.cells;rw[e];exact h4,by unfold AH.size;rw[e];exact h5,h6⟩
mutual inductive Rx(Q:Nat->Prop)(H:AH):List Value->RT->Prop|mk{op:Int}{neg bad:Bool}{vn vd vx:Value}{N D:Nat}{args:List RT} :qJ Q H vn (ds Z5 N)->qJ Q H vd (ds Z5 D)->eZ Q H vx args->Rx Q H [.int .i64 op,.bool neg,vn,vd,.bool bad,vx] (.node op neg N D bad args) inductive eZ(Q:Nat->Prop)(H:AH):Value->List RT->Prop|nil:eZ Q H (.slice none 0 0) []|mk(b cap:Nat){cs:List Value}{args:List RT} :Q b->b<H.n->H.blk b= .rw 6 cs->args.length<=cap->(∀(i:Nat)(t:RT),args[i]?=some t->Rx Q H ((cs.drop (i*6)).take 6) t)->eZ Q H (.slice (some ⟨b,0,none⟩) args.length cap) args end
theorem tH{Q Q':Nat->Prop}{H H':AH}(k:ur Q H H')(hQ: ∀j,j<H.n->Q j->Q' j): ∀n(t:RT),t.nodes<=n-> ∀vs,Rx Q H vs t->Rx Q' H' vs t:=by intro n;induction n with
 |zero=>intro t h;have:=Vx t;omega
 |succ n ih=>intro t h vs hx;cases hx with
  |mk h1 h2 h3=>simp only[RT.nodes]at h;refine .mk ⟨h1.1.agr h1.2 k,fun c hc=>hQ c (h1.1.blk_lt hc) (h1.2 c hc)⟩ ⟨h2.1.agr h2.2 k,fun c hc=>hQ c (h2.1.blk_lt hc) (h2.2 c hc)⟩ ?_;cases h3 with
   |nil=>exact .nil
   |mk b cap hq hb hc hl hf=>
    rename_i cs;refine .mk b cap (cs:=cs) (hQ b hb hq) (Nat.lt_of_lt_of_le hb k.1) ?_ hl fun i t hi=>?_;·rw[k.2 b hq hb];exact hc
    ·have:=W5 hi;exact ih t (by omega) _ (hf i t hi)
theorem Rx.agr{Q Q':Nat->Prop}{H H':AH}{vs:List Value}{t:RT}(h:Rx Q H vs t)(k:ur Q H H')(hQ: ∀j,j<H.n->Q j->Q' j):Rx Q' H' vs t:=tH k hQ _ t (Nat.le_refl _) vs h
theorem Zg.agr{H H':AH}(k:Zg H H')(Q:Nat->Prop):ur Q H H':=⟨k.n,fun j _ hj=>k.blk j hj⟩
theorem Rx.keep{Q:Nat->Prop}{H H':AH}{vs:List Value}{t:RT}(h:Rx Q H vs t)(k:Zg H H'):Rx Q H' vs t:=h.agr (k.agr Q) fun _ _ h=>h
theorem Rx.len{Q:Nat->Prop}{H:AH}{vs:List Value}{t:RT}(h:Rx Q H vs t):vs.length=6:=by cases h;rfl
theorem Sl.one1{H:AH}{v:Value}{xs:List Nat}(h:Sl H v xs):one v=true:=by cases h<;>rfl
theorem eZ.one1{Q:Nat->Prop}{H:AH}{v:Value}{l:List RT}(h:eZ Q H v l):one v=true:=by cases h<;>rfl
theorem Rx.ones{Q:Nat->Prop}{H:AH}{vs:List Value}{t:RT}(h:Rx Q H vs t):vs.all one=true:=by cases h with|mk h1 h2 h3=>simp only[List.all_cons,List.all_nil,h1.1.one1,h2.1.one1,h3.one1,Bool.and_true];rfl
theorem aE:XQ Tryz.prog 68=some true:=by kernel_rfl
theorem sE:Xn Tryz.prog 68=some 6:=by kernel_rfl
theorem uZ:XQ Tryz.prog 66=some false:=by kernel_rfl
theorem kQ:XQ Tryz.prog 37=some false:=by kernel_rfl
theorem zE:VV Tryz.prog 68=some (.agg #[.int .i64 0,.bool false,.slice none 0 0,.slice none 0 0,.bool false,.slice none 0 0]):=by kernel_rfl
theorem uEs:Tryz.prog.underlying 66=some (.slice 68):=by kernel_rfl
theorem sEs:W6 Tryz.prog 66=some (68,6,96):=by kernel_rfl
theorem eZ.len{Q:Nat->Prop}{H:AH}{v:Value}{args:List RT}(h:eZ Q H v args):R9 Tryz.prog 66 v=some args.length:=by unfold R9;rw[uEs];cases h<;>rfl
theorem JD{H:AH}{b o:Nat}{cs vs:List Value}(h:H.cells b=some cs)(hk:(cs.drop o).take 6=vs)(hl:vs.length=6):Z9 Tryz.prog H 68 (.pointer (some ⟨b,o,none⟩))=some (.agg vs.toArray):=by
 unfold Z9;simp only[aE,sE,AH.read_def,h];have:o+6<=cs.length:=by have:=congrArg List.length hk;rw[List.length_take,List.length_drop,hl]at this;omega
 rw[Nat.ble_eq.mpr this,cond_true,hk]
theorem eZ.at{Q:Nat->Prop}{H:AH}{v:Value}{args:List RT}(h:eZ Q H v args){i:Nat}{t:RT}(hi:args[i]?=some t): ∃(p:Value) (vs:List Value),Yg Tryz.prog 66 v (.int .i64 (i:Int))=some p/\(∀H',Zg H H'->Z9 Tryz.prog H' 68 p=some (.agg vs.toArray))/\Rx Q H vs t:=by
 have YP:i<args.length:=by
  rcases Nat.lt_or_ge i args.length with h'|h';·exact h'
  ·rw[List.getElem?_eq_none h']at hi;cases hi
 cases h with
  |nil=>simp at hi
  |mk b cap hq hb hc hl hf=>
   rename_i cs;have hE:=hf i t hi;have LQ:H.cells b=some cs:=by unfold AH.cells;rw[hc]
   refine⟨.pointer (some ⟨b,i*6,none⟩),_,?_,fun H' k=>JD ((Vp k hb).trans LQ) rfl hE.len,hE⟩;unfold Yg;simp only[uEs,sE];rw[if_pos (by omega)];simp
theorem ry(b o:Nat):Ys Tryz.prog 68 (.pointer (some ⟨b,o,none⟩)) 0=some (.pointer (some ⟨b,o,none⟩)):=by kernel_rfl
theorem AM(b o:Nat):Ys Tryz.prog 68 (.pointer (some ⟨b,o,none⟩)) 1=some (.pointer (some ⟨b,o+1,none⟩)):=by kernel_rfl
theorem Jx(b o:Nat):Ys Tryz.prog 68 (.pointer (some ⟨b,o,none⟩)) 2=some (.pointer (some ⟨b,o+4,none⟩)):=by kernel_rfl
theorem Qy(b o:Nat):Ys Tryz.prog 68 (.pointer (some ⟨b,o,none⟩)) 3=some (.pointer (some ⟨b,o+5,none⟩)):=by kernel_rfl
theorem feN(b o:Nat):Ys Tryz.prog 42 (.pointer (some ⟨b,o,none⟩)) 1=some (.pointer (some ⟨b,o+1,none⟩)):=by kernel_rfl
theorem feD(b o:Nat):Ys Tryz.prog 42 (.pointer (some ⟨b,o,none⟩)) 2=some (.pointer (some ⟨b,o+2,none⟩)):=by kernel_rfl
theorem Sl.shape{H:AH}{v:Value}{xs:List Nat}(h:Sl H v xs): ∃a l c,v= .slice a l c:=by cases h<;>exact⟨_,_,_,rfl⟩
theorem Yo.shape{n:Nat}{H:AH}{v:Value}{xs:List Nat}(h:Yo n H v xs): ∃a l c,v= .slice a l c:=h.sl.shape
theorem lW(a:Option Addr)(l c:Nat):Wn Tryz.prog 42 [(2,.slice a l c)]=some (.agg #[.bool false,.slice none 0 0,.slice a l c]):=by kernel_rfl
theorem lV(n:Bool)(a a':Option Addr)(l c l' c':Nat):Wn Tryz.prog 42 [(0,.bool n),(1,.slice a l c),(2,.slice a' l' c')]=some (.agg #[.bool n,.slice a l c,.slice a' l' c']):=by kernel_rfl
theorem zR:VV Tryz.prog 42=some (.agg #[.bool false,.slice none 0 0,.slice none 0 0]):=by kernel_rfl
theorem sR:Xn Tryz.prog 42=some 3:=by kernel_rfl
theorem aR:XQ Tryz.prog 42=some true:=by kernel_rfl
theorem BJ{H:AH}{b o:Nat}{cs vs:List Value}(h:H.cells b=some cs)(hk:(cs.drop o).take 3=vs)(hl:vs.length=3):Z9 Tryz.prog H 42 (.pointer (some ⟨b,o,none⟩))=some (.agg vs.toArray):=by
 unfold Z9;simp only[aR,sR,AH.read_def,h];have:o+3<=cs.length:=by have:=congrArg List.length hk;rw[List.length_take,List.length_drop,hl]at this;omega
 rw[Nat.ble_eq.mpr this,cond_true,hk]
theorem Wk{H:AH}{sz:Nat}{cs ws:List Value}{t:TypeId}{n b o:Nat}(ht:Xn Tryz.prog t=some n)(hb:H.blk b= .rw sz cs){v:Value}(hv:v.cells.toList=ws)(hw:ws.length=n)(ho:o+n<=cs.length)(h1:ws.all one=true)(zi:sz≠0:=by decide): ∃H',YX Tryz.prog H t (.pointer (some ⟨b,o,none⟩)) v=some H'/\H'.blk b= .rw sz (cs.take o++ws++cs.drop (o+n))/\H'.n=H.n/\(∀j,j≠b->H'.blk j=H.blk j)/\Ui b H H'/\H'.lw=min H.lw b:=by
 obtain⟨sz,rfl⟩: ∃k,sz=k+1:=⟨sz-1,by omega⟩;have hs:v.cells.size=n:=by rw[<-hw,<-hv];simp
 have hle:Nat.ble (o+n) cs.length=true:=Nat.ble_eq.mpr ho;refine⟨{ n:=H.n,lw:=min H.lw b,t:=H.t.set b (.rw (sz+1) (cs.take o++ws++cs.drop (o+n))) },?_,?_,rfl,fun j hj=>?_,fun H0 k hn=>⟨k.n,?_,fun j hj=>?_⟩,rfl⟩;·unfold YX;simp only[ht,hs,hv];rw[show Nat.beq n n=true from by simp,cond_true,AH.write_def,hb];simp only[hw,hle,h1,Bool.and_self,cond_true]
 ·unfold AH.blk;simp only[Tr.get_set,if_true]
 ·unfold AH.blk;simp only[Tr.get_set];rw[if_neg hj]
 ·have:=k.lw;show min H0.lw H0.n<=min H.lw b;omega
 ·unfold AH.blk;simp only[Tr.get_set];rw[if_neg (by omega)];exact k.blk j hj
def O4(op:Int):Int:=if 0<=op/\op<16 then(arity op.toNat:Int)else-1
theorem eK(H:AH): ∀n:Nat,n<16->Zy Tryz.prog Zu 101 [.int .i64 (n:Int)] H=some (.int .i64 (arity n:Int),H):=by intro n hn;match n,hn with|0,_=>exact Wj 20 _ _ _ _ (by kernel_rfl)|1,_=>exact Wj 20 _ _ _ _ (by kernel_rfl)|2,_=>exact Wj 20 _ _ _ _ (by kernel_rfl)|3,_=>exact Wj 20 _ _ _ _ (by kernel_rfl)|4,_=>exact Wj 20 _ _ _ _ (by kernel_rfl)|5,_=>exact Wj 20 _ _ _ _ (by kernel_rfl)|6,_=>exact Wj 20 _ _ _ _ (by kernel_rfl)|7,_=>exact Wj 20 _ _ _ _ (by kernel_rfl)|8,_=>exact Wj 20 _ _ _ _ (by kernel_rfl)|9,_=>exact Wj 20 _ _ _ _ (by kernel_rfl)|10,_=>exact Wj 20 _ _ _ _ (by kernel_rfl)|11,_=>exact Wj 20 _ _ _ _ (by kernel_rfl)|12,_=>exact Wj 20 _ _ _ _ (by kernel_rfl)|13,_=>exact Wj 20 _ _ _ _ (by kernel_rfl)|14,_=>exact Wj 20 _ _ _ _ (by kernel_rfl)|15,_=>exact Wj 20 _ _ _ _ (by kernel_rfl)|n+16,h=>omega
section
variable {H : AH} {va vb vm : Value}
theorem CK(op:Int):Zy Tryz.prog Zu 101 [.int .i64 op] H=some (.int .i64 (O4 op),H):=by
 unfold O4;split;·rename_i h;have:=eK H op.toNat (by omega);rwa[Int.toNat_of_nonneg h.1]at this
 ·rename_i h;suffices hs:CW Tryz.prog Zu 101 [.int .i64 op] H fun v H'=>v= .int .i64 (-1)/\H'=H by obtain⟨_,_,hc,rfl,rfl⟩:=hs;exact hc
  refine Z2 36 Tryz.func101 ?_;have f1:Zc .lss .i64 op 0=some (.bool (decide (op<0))):=rfl;have f2:Zc .gtr .i64 op 15=some (.bool (decide (op>15))):=rfl;apply Zb;intro b1 Ze;simp;subst Ze;apply Zf;intro b1 Ze;apply Zz;apply Zb;intro b2 Zp;by_cases h0:op<0;·rw[decide_eq_true h0]at f1;simp[f1];subst Zp;refine Za (t:=true) (by simp) ?_;apply Zb;intro b1 Ze;simp;subst Ze;apply Zq;simp[Yq,Ye]
  ·rw[decide_eq_false h0]at f1;rw[decide_eq_true (show op>15 by omega)]at f2;simp[f1,f2];subst Zp;refine Za (t:=true) (by simp) ?_;apply Zb;intro b1 Ze;simp;subst Ze;apply Zq;simp[Yq,Ye]
theorem Ru(x:Nat)(hx:x<Zd): ∃v H',Zy Tryz.prog Zu 62 [.int .i64 (x:Int)] H=some (v,H')/\Zg H H'/\Yo H.n H' v (ds Z5 x)/\(ds Z5 x).length<=2*WM:=by
 obtain⟨v1,H1,c1,k1,o1⟩:=PZ H Yh x;obtain⟨v2,H2,c2,k2,o2,l2⟩:=FY o1.sl (dig1 hx) (show 1<=2000000000000 by decide);rw[dv1]at o2 l2;suffices hs:CW Tryz.prog Zu 62 [.int .i64 (x:Int)] H fun v H'=>v=v2/\H'=H2 by obtain⟨_,_,hc,rfl,rfl⟩:=hs;exact⟨_,_,hc,k1.trans k2,o2.mono k1.n (.refl _),l2⟩
 refine Z2 7 Tryz.func62 ?_;apply Zb;intro b1 Ze;simp;subst Ze;apply Zb;intro b1 Ze;simp[Of hx,c1,c2];subst Ze;apply Zq;simp
def Ki(n:Nat)(H:AH)(us:List Value)(r:Bool×Nat×Nat):Prop:= ∃a b,us=[.bool r.1,a,b]/\Yo n H a (ds Z5 r.2.1)/\Yo n H b (ds Z5 r.2.2)
theorem Oo{vn vd:Value}{N D:Nat}(neg:Bool)(hn:Sl H vn (ds Z5 N))(hd:Sl H vd (ds Z5 D))(lN:(ds Z5 N).length<=2*WM)(lD:(ds Z5 D).length<=2*WM)(h0:0<D): ∃us H',Zy Tryz.prog Zu 22 [.bool neg,vn,vd] H=some (.agg us.toArray,H')/\Zg H H'/\Ki H.n H' us (Z8 neg N D):=by
 suffices hs:CW Tryz.prog Zu 22 [.bool neg,vn,vd] H fun v H'=> ∃us:List Value,v= .agg us.toArray/\Zg H H'/\Ki H.n H' us (Z8 neg N D) by obtain⟨_,H',hc,us,rfl,h⟩:=hs;exact⟨us,H',hc,h⟩
 obtain⟨r,hr⟩:=hid (Z8 neg N D);rw[<-hr];unfold Z8 at hr;refine Z2 31 Tryz.func22 ?_;have kB:=Zg.new H 1 [.bool false,.slice none 0 0,.slice none 0 0];have bB:(H.new 1 [.bool false,.slice none 0 0,.slice none 0 0]).blk H.n= .rw 1 [.bool false,.slice none 0 0,.slice none 0 0]:=by rw[AH.blk_new,if_pos rfl]
 have nB:(H.new 1 [.bool false,.slice none 0 0,.slice none 0 0]).n=H.n+1:=rfl;obtain⟨HB,MR⟩:=hid (H.new 1 [.bool false,.slice none 0 0,.slice none 0 0]);rw[<-MR]at kB bB nB;have z:=OU (hn.keep kB);apply Zb;intro b1 Ze;simp[zR,Value.cells,<-MR];subst Ze;apply Zf;intro b1 Ze;apply Zb;intro b2 Zp;simp[z];subst Zp;by_cases hN:N=0;·refine Za (t:=true) (by simp[hN]) ?_;rw[if_pos hN]at hr;obtain⟨v1,H1,c1,k1,o1,_⟩:=Ru (H:=HB) 1 (by decide);obtain⟨x,l,c,rfl⟩:=o1.shape;obtain⟨H2,st,blk,n2,Gi,ka,_⟩:=Wk (H:=H1) (b:=H.n) (cs:=[.bool false,.slice none 0 0,.slice none 0 0]) (sz:=1) (o:=0) sR (by rw[k1.blk _ (by omega)];exact bB) (v:= .agg #[.bool false,.slice none 0 0,.slice x l c]) (ws:=[.bool false,.slice none 0 0,.slice x l c]) rfl rfl (by simp) rfl;have c1:Zy Tryz.prog Zu 62 [.int .i64 1] HB=some (.slice x l c,H1):=c1;apply Zb;intro b1 Ze;simp[c1,lW,st];subst Ze;apply Zq;have ld:Z9 Tryz.prog H2 42 (.pointer (some ⟨H.n,0,none⟩))=some (.agg #[.bool false,.slice none 0 0,.slice x l c]):=BJ (vs:=[.bool false,.slice none 0 0,.slice x l c]) (by unfold AH.cells;rw[blk]) rfl rfl;simp[Yq,ld];refine⟨ka H (kB.trans k1) (Nat.le_refl _),_,_,by rw[hr],by rw[hr,Xg];exact .nil,?_⟩;rw[hr];exact(o1.mono (m:=H.n) (by omega) (.refl _)).but (b:=some H.n) ⟨n2,fun j _ hj=>Gi j (fun e=>hj (by rw[e]))⟩ fun c' e h=>by cases e;have:=o1.blk_lo h;omega
 ·refine Za (t:=false) (by simp[hN]) ?_;rw[if_neg hN]at hr;apply Zn;subst Ze;obtain⟨_,H1,c1,k1,s1⟩:=DH (hn.keep kB) (hd.keep kB) lN lD;obtain⟨g,hg⟩:=hid (Nat.gcd N D);rw[<-hg]at s1 hr;have g0:0<g:=by rw[hg];exact Nat.gcd_pos_of_pos_right _ h0
  have gl:(ds Z5 g).length<=2*WM:=Nat.le_trans (UR two32 (by rw[hg];exact Nat.le_of_dvd h0 (Nat.gcd_dvd_right N D))) lD;obtain⟨q1,r1,H2,c2,k2,o2,_⟩:=P3 (hn.keep (kB.trans k1)) s1 lN gl g0;obtain⟨q2,r2,H3,c3,k3,o3,_⟩:=P3 (hd.keep ((kB.trans k1).trans k2)) (s1.keep k2) lD gl g0;have n1:=k1.n;have n2:=k2.n;obtain⟨x,l,c,rfl⟩:=o2.shape;obtain⟨x',l',c',rfl⟩:=o3.shape;obtain⟨H4,st,blk,n4,Gi,ka,_⟩:=Wk (H:=H3) (b:=H.n) (cs:=[.bool false,.slice none 0 0,.slice none 0 0]) (sz:=1) (o:=0) sR (by rw[k3.blk _ (by omega),k2.blk _ (by omega),k1.blk _ (by omega)];exact bB) (v:= .agg #[.bool neg,.slice x l c,.slice x' l' c']) (ws:=[.bool neg,.slice x l c,.slice x' l' c']) rfl rfl (by simp) rfl;apply Zb;intro b1 Ze;simp[c1];subst Ze;apply Zb;intro b1 Ze;simp[c2];subst Ze;apply Zb;intro b1 Ze;simp[c3];subst Ze;apply Zb;intro b1 Ze;simp[lV,st];subst Ze;apply Zq;have ld:Z9 Tryz.prog H4 42 (.pointer (some ⟨H.n,0,none⟩))=some (.agg #[.bool neg,.slice x l c,.slice x' l' c']):=BJ (vs:=[.bool neg,.slice x l c,.slice x' l' c']) (by unfold AH.cells;rw[blk]) rfl rfl;simp[ld];have bt:TF (some H.n) H3 H4:=⟨n4,fun j _ hj=>Gi j (fun e=>hj (by rw[e]))⟩;refine⟨ka H (((kB.trans k1).trans k2).trans k3) (Nat.le_refl _),_,_,by rw[hr],?_,?_⟩;·rw[hr];exact(o2.mono (m:=H.n) (by omega) k3).but bt fun c' e h=>by cases e;have:=o2.blk_lo h;omega
  ·rw[hr];exact(o3.mono (m:=H.n) (by omega) (.refl _)).but bt fun c' e h=>by cases e;have:=o3.blk_lo h;omega
end
theorem Lg{Q:Nat->Prop}{H0 H:AH}{vx:Value}{args:List RT}(h3:eZ Q H0 vx args)(k:Zg H0 H){i:Nat}{x:RT}(hx:args[i]?=some x): ∃(p:Value) (us:List Value) (H5:AH),Yg Tryz.prog 66 vx (.int .i64 (i:Int))=some p/\Z9 Tryz.prog H 68 p=some (.agg us.toArray)/\YX Tryz.prog (H.new 1 [.int .i64 0,.bool false,.slice none 0 0,.slice none 0 0,.bool false,.slice none 0 0]) 68 (.pointer (some ⟨H.n,0,none⟩)) (.agg us.toArray)=some H5/\Zg H H5/\Z9 Tryz.prog H5 68 (.pointer (some ⟨H.n,0,none⟩))=some (.agg us.toArray)/\Rx Q H5 us x:=by obtain⟨p,us,e1,e2,e3⟩:=h3.at hx;obtain⟨H5,Xy,k5,Jf,n5⟩:=Xi (H:=H) (sz:=1) (zs:=[.int .i64 0,.bool false,.slice none 0 0,.slice none 0 0,.bool false,.slice none 0 0]) sE rfl (v:= .agg us.toArray) (ws:=us) (by simp[Value.cells]) e3.len e3.ones;refine⟨p,us,H5,e1,e2 _ k,Xy,k5,JD (o:=0) (cs:=us) (by unfold AH.cells;rw[Jf]) (by rw[List.drop_zero,List.take_of_length_le (by rw[e3.len];omega)]) e3.len,e3.keep (k.trans k5)⟩
theorem Q7{α:Type}{l:List α}{i:Nat}{x:α}(hx:l[i]?=some x):l.take (i+1)=l.take i++[x]:=by rw[List.take_add_one,hx];rfl
theorem gtrN{k:IntKind}{x y:Nat} :Zc .gtr k (x:Int) (y:Int)=some (.bool (decide (y<x))):=gj rfl
theorem Ta{x y:Int} :Zc .neq .i64 x y=some (.bool (decide (x≠y))):=by
 show some (Value.bool (x !=y))=_;congr 2;by_cases h:x=y;·subst h;simp
 ·rw[decide_eq_true h];simp[bne];omega
section
variable {Q : Nat -> Prop}
theorem cG: ∀n(t:RT),t.nodes<=n-> ∀(H:AH)(vs:List Value),Rx Q H vs t->t.nodes<=1000000000->CW Tryz.prog Zu 102 [.agg vs.toArray] H (fun v H'=>v= .int .i64 (t.nodes:Int)/\Zg H H'):=by intro n;induction n with
 |zero=>intro t h;have:=Vx t;omega
 |succ n ih=>intro t ht H vs hE hb;obtain⟨op,neg,N,D,bad,args⟩:=t;cases hE with
  |@mk _ _ _ vn vd vx _ _ _ h1 h2 h3=>
   simp only[RT.nodes]at ht hb⊢;refine Z2 19 Tryz.func102 ?_;have kB:=Zg.new H 1 [.int .i64 op,.bool neg,vn,vd,.bool bad,vx];have cB:=VT H 1 [.int .i64 op,.bool neg,vn,vd,.bool bad,vx];obtain⟨HB,MR⟩:=hid (H.new 1 [.int .i64 op,.bool neg,vn,vd,.bool bad,vx]);rw[<-MR]at kB cB;have l5:=Z7 uZ (o:=5) cB rfl;have lx:=h3.len;obtain⟨m0,M3⟩:=hid (args.length);have la:=TV args;rw[<-M3]at lx la;apply Zb;intro b1 Ze;simp[Value.cells,<-MR];subst Ze;apply Zb;intro b1 Ze;simp;subst Ze;apply Zf;intro b1 Ze;apply Zb;intro b2 Zp;simp[Qy,l5,lx];subst Zp;apply Zz;refine YU (fun m s'=>s'.k=19/\Zg HB s'.H/\ ∃i:Nat,m+i=m0/\s'.tm.get 3=some (.int .i64 ((1+YF (args.take i):Nat):Int))/\s'.tm.get 7=some vx/\s'.tm.get 8=some (.int .i64 (m0:Int))/\s'.tm.get 9=some (.int .i64 (i:Int))) ?_ m0 _ ⟨rfl,.refl HB,0,by omega,by simp[YF],by simp,by simp,by simp⟩;rintro m ⟨k,tm,H4⟩ ⟨hk,kH,i,M5,t3,t7,t8,t9⟩ Q' Y0;simp only at hk kH t3 t7 t8 t9;subst hk;apply Zb;intro b3 Z3;simp[t8,t9,Mk];subst Z3;apply Zf;intro b3 Z3;by_cases hi:i<m0
   ·refine Za (t:=true) (by simp[hi]) ?_;apply Zn;subst Z3;obtain⟨x,hx⟩: ∃x,args[i]?=some x:=⟨_,List.getElem?_eq_getElem (by omega)⟩;have RP:YF (args.take (i+1))=YF (args.take i)+x.nodes:=by rw[Q7 hx,Qg];simp[YF]
    have hle:YF (args.take (i+1))<=YF args:=by have:=Qg (args.take (i+1)) (args.drop (i+1));rw[List.take_append_drop]at this;omega
    obtain⟨p,us,H5,e1,e2,e3,k5,e5,r5⟩:=Lg h3 (kB.trans kH) hx;have uC:=W5 hx;obtain⟨_,H6,c6,rfl,k6⟩:=ih x (by omega) H5 us r5 (by omega);apply Zf;intro b3 Z3;apply Zz;apply Zb;intro b4 Yx;simp[t7,t9,e1,e2,zE,Value.cells,e3];subst Yx;apply Zh;simp[t3,e5,c6,wm (x:=1+YF (args.take i)) (y:=x.nodes) (by omega)];subst Z3;apply Zh;simp[t9,VF (x:=i) (by omega)];apply Y0;refine⟨m-1,by omega,rfl,(kH.trans k5).trans k6,i+1,by omega,?_,by simp[t7],by simp[t8],by simp⟩;simp;rw[RP,Nat.add_assoc]
   ·refine Za (t:=false) (by simp[hi]) ?_;apply YQ;apply Y0;left;refine⟨rfl,?_⟩;obtain rfl:i=m0:=by omega
    rw[List.take_of_length_le (by omega)]at t3;subst Ze;apply Zb;intro b1 Ze;simp[t3];subst Ze;apply Zq;simp;exact kB.trans kH
theorem cL: ∀n(t:RT),t.nodes<=n-> ∀(H:AH)(vs:List Value),Rx Q H vs t->t.nodes<=1000000000->CW Tryz.prog Zu 103 [.agg vs.toArray] H (fun v H'=>v= .int .i64 (t.depth:Int)/\Zg H H'):=by intro n;induction n with
 |zero=>intro t h;have:=Vx t;omega
 |succ n ih=>intro t ht H vs hE hb;have hdn:=Ky _ t (Nat.le_refl _);obtain⟨op,neg,N,D,bad,args⟩:=t;cases hE with
  |@mk _ _ _ vn vd vx _ _ _ h1 h2 h3=>
   simp only[RT.nodes,RT.depth]at ht hb hdn⊢;refine Z2 23 Tryz.func103 ?_;have kB:=Zg.new H 1 [.int .i64 op,.bool neg,vn,vd,.bool bad,vx];have cB:=VT H 1 [.int .i64 op,.bool neg,vn,vd,.bool bad,vx];obtain⟨HB,MR⟩:=hid (H.new 1 [.int .i64 op,.bool neg,vn,vd,.bool bad,vx]);rw[<-MR]at kB cB;have l5:=Z7 uZ (o:=5) cB rfl;have lx:=h3.len;obtain⟨m0,M3⟩:=hid (args.length);have la:=TV args;rw[<-M3]at lx la;apply Zb;intro b1 Ze;simp[Value.cells,<-MR];subst Ze;apply Zb;intro b1 Ze;simp;subst Ze;apply Zf;intro b1 Ze;apply Zb;intro b2 Zp;simp[Qy,l5,lx];subst Zp;apply Zz;refine YU (fun m s'=>s'.k=23/\Zg HB s'.H/\ ∃i:Nat,m+i=m0/\s'.tm.get 3=some (.int .i64 ((Xh (args.take i):Nat):Int))/\s'.tm.get 8=some vx/\s'.tm.get 9=some (.int .i64 (m0:Int))/\s'.tm.get 10=some (.int .i64 (i:Int))) ?_ m0 _ ⟨rfl,.refl HB,0,by omega,by simp[Xh],by simp,by simp,by simp⟩;rintro m ⟨k,tm,H4⟩ ⟨hk,kH,i,M5,t3,t8,t9,t10⟩ Q' Y0;simp only at hk kH t3 t8 t9 t10;subst hk;apply Zb;intro b3 Z3;simp[t9,t10,Mk];subst Z3;apply Zf;intro b3 Z3;by_cases hi:i<m0
   ·refine Za (t:=true) (by simp[hi]) ?_;apply Zn;subst Z3;obtain⟨x,hx⟩: ∃x,args[i]?=some x:=⟨_,List.getElem?_eq_getElem (by omega)⟩;have mZ:Xh (args.take (i+1))=max (Xh (args.take i)) x.depth:=by rw[Q7 hx,Lk];simp[Xh]
    obtain⟨p,us,H5,e1,e2,e3,k5,e5,r5⟩:=Lg h3 (kB.trans kH) hx;have uC:=W5 hx;obtain⟨_,H6,c6,rfl,k6⟩:=ih x (by omega) H5 us r5 (by omega);apply Zf;intro b3 Z3;apply Zz;apply Zb;intro b4 Yx;simp[t8,t10,e1,e2,zE,Value.cells,e3];subst Yx;apply Zb;intro b4 Yx;simp[e5,c6];subst Yx;apply Zb;intro b4 Yx;simp[t3,gtrN (x:=x.depth) (y:=Xh (args.take i))];subst Yx;by_cases hg:Xh (args.take i)<x.depth;·refine Za (t:=true) (by simp[hg]) ?_;apply Zh;simp;subst Z3;apply Zh;simp[t10,VF (x:=i) (by omega)];apply Y0;refine⟨m-1,by omega,rfl,(kH.trans k5).trans k6,i+1,by omega,?_,by simp[t8],by simp[t9],by simp⟩;simp;rw[mZ];omega
    ·refine Za (t:=false) (by simp[hg]) ?_;apply Zn;subst Z3;apply Zh;simp[t10,VF (x:=i) (by omega)];apply Y0;refine⟨m-1,by omega,rfl,(kH.trans k5).trans k6,i+1,by omega,?_,by simp[t8],by simp[t9],by simp⟩;simp;rw[mZ,Nat.max_eq_left (by omega)];exact t3
   ·refine Za (t:=false) (by simp[hi]) ?_;apply YQ;apply Y0;left;refine⟨rfl,?_⟩;obtain rfl:i=m0:=by omega
    rw[List.take_of_length_le (by omega)]at t3;subst Ze;apply Zb;intro b1 Ze;simp[t3,VF (x:=Xh args) (by omega)];subst Ze;apply Zq;simp;exact kB.trans kH
end
theorem af{N:Nat}(h:Zo N<=67108864):(ds Z5 N).length<=2*WM:=by
 obtain⟨k,hk⟩:=hid ((ds Z5 N).length);rcases Nat.eq_zero_or_pos k with h0|h0;·omega
 ·have:=(ff (N:=N) (by omega)).1;show _<=2*2000000000000;omega
section
variable {Q : Nat -> Prop}
theorem gh{x:Nat}(h:x<=67108864):Zc .gtr .i64 (x:Int) 67108864=some (.bool false):=by rw[rZ,decide_eq_false (by omega)]
theorem cD: ∀n(t:RT),t.nodes<=n-> ∀(H:AH)(vs:List Value),Rx Q H vs t->t.fit->t.nodes<=1000000000->CW Tryz.prog Zu 71 [.agg vs.toArray] H (fun v H'=>v= .bool t.right/\Zg H H'):=by intro n;induction n with
 |zero=>intro t h;have:=Vx t;omega
 |succ n ih=>intro t ht H vs hE hf hb;obtain⟨op,neg,N,D,bad,args⟩:=t;obtain⟨fN,fD,fA⟩:=hf;cases hE with
  |@mk _ _ _ vn vd vx _ _ _ h1 h2 h3=>
   simp only[RT.nodes]at ht hb;obtain⟨R,hR⟩:=hid ((RT.node op neg N D bad args).right);rw[<-hR];simp only[RT.right]at hR;obtain⟨g,hg⟩:=hid (aQ op bad args.length);rw[<-hg]at hR;unfold aQ at hg;refine Z2 41 Tryz.func71 ?_;have kB:=Zg.new H 1 [.int .i64 op,.bool neg,vn,vd,.bool bad,vx];have cB:=VT H 1 [.int .i64 op,.bool neg,vn,vd,.bool bad,vx];obtain⟨HB,MR⟩:=hid (H.new 1 [.int .i64 op,.bool neg,vn,vd,.bool bad,vx]);rw[<-MR]at kB cB;have cT:HB.top.cells H.n=some _:=cB;have l0:=Z7 Ja (o:=0) cT rfl;have l2:=Z7 kQ (o:=2) cT rfl;have l3:=Z7 kQ (o:=3) cT rfl;have l4:=Z7 Hq (o:=4) cT rfl;have l5:=Z7 uZ (o:=5) cT rfl;have l5':=Z7 uZ (o:=5) cB rfl;have lx:=h3.len;have c1:=CK (H:=HB.top) op;have c2:=TK ((h1.1.keep kB).keep (Tw _)) (af fN);have c3:=TK ((h2.1.keep kB).keep (Tw _)) (af fD);have e1:=gh fN;have e2:=gh fD;obtain⟨m0,M3⟩:=hid (args.length);have la:=TV args;rw[<-M3]at lx la hg;have e0:Zc .neq .i64 (O4 op) (m0:Int)=some (.bool (decide (O4 op≠(m0:Int)))):=Ta;apply Zb;intro b1 Ze;simp[Value.cells,<-MR];subst Ze;apply Zf;intro b1 Ze;apply Zf;intro b2 Zp;have no: ∀tm:Tr Value,tm.get 29=some (.bool true)->R=false->W Tryz.prog Zu b2 ⟨41,tm,HB⟩ (Yq Tryz.prog Zu b1 fun ex s=>(ex= .norm\/ex= .ret)/\ ∃vs,ZZ Tryz.prog s [.tmp 2]=some vs/\Yc vs= .bool R/\Zg H s.H):=fun tm ht hno=>by rw[hno];subst Zp;refine Za (t:=true) (by simp[ht]) ?_;apply Zb;intro b2 Zp;simp;subst Zp;apply Zq;simp[Yq];exact kB
   apply NP (by kernel_rfl);by_cases mj:bad=true;·subst mj;simp[Jx,l4];show W _ _ b2 _ _;exact no _ (by simp) (by rw[hR,hg];rfl)
   have mj:bad=false:=by simpa using mj
   subst mj;by_cases ha:O4 op=(m0:Int)
   ·rw[decide_eq_false (by omega)]at e0;simp[ry,Jx,Qy,AM,feN,feD,l0,l2,l3,l4,l5,lx,c1,c2,c3,e0,e1,e2];subst Zp;refine Za (t:=false) (by simp) ?_;apply Zn;subst Ze;clear no;have yo:g=true:=by
     rw[hg];unfold O4 at ha;split at ha;·rename_i h;rw[decide_eq_true ⟨h.1,h.2,by omega⟩];rfl
     ·omega
    rw[yo,Bool.true_and]at hR;apply Zf;intro b1 Ze;apply Zb;intro b2 Zp;simp[Qy,l5',lx];subst Zp;apply Zz;refine YU (fun m s'=>s'.k=41/\Zg HB s'.H/\ ∃i:Nat,m+i=m0/\Wc (args.take i)=true/\s'.tm.get 31=some vx/\s'.tm.get 32=some (.int .i64 (m0:Int))/\s'.tm.get 33=some (.int .i64 (i:Int))) ?_ m0 _ ⟨rfl,.refl HB,0,by omega,by simp[Wc],by simp,by simp,by simp⟩;rintro m ⟨k,tm,H4⟩ ⟨hk,kH,i,M5,SB,t31,t32,t33⟩ Q' Y0;simp only at hk kH t31 t32 t33;subst hk;apply Zb;intro b3 Z3;simp[t32,t33,Mk];subst Z3;apply Zf;intro b3 Z3;by_cases hi:i<m0
    ·refine Za (t:=true) (by simp[hi]) ?_;apply Zn;subst Z3;obtain⟨x,hx⟩: ∃x,args[i]?=some x:=⟨_,List.getElem?_eq_getElem (by omega)⟩;have gH:Wc (args.take (i+1))=x.right:=by rw[Q7 hx,Qh,SB];simp[Wc]
     obtain⟨p,us,H5,e1,e2,e3,k5,e5,r5⟩:=Lg h3 (kB.trans kH) hx;have uC:=W5 hx;obtain⟨_,H6,c6,rfl,k6⟩:=ih x (by omega) H5 us r5 (DA fA hx) (by omega);obtain⟨r,hr⟩:=hid (x.right);rw[<-hr]at c6 gH;apply Zf;intro b3 Z3;apply Zz;apply Zb;intro b4 Yx;simp[t31,t33,e1,e2,zE,Value.cells,e3];subst Yx;apply Zb;intro b4 Yx;simp[e5,c6];subst Yx;cases r with
      |true=>refine Za (t:=false) (by simp) ?_;apply Zn;subst Z3;apply Zh;simp[t33,VF (x:=i) (by omega)];apply Y0;exact⟨m-1,by omega,rfl,(kH.trans k5).trans k6,i+1,by omega,gH,by simp[t31],by simp[t32],by simp⟩
      |false=>
       refine Za (t:=true) (by simp) ?_;apply Zb;intro b1 Ze;simp;subst Ze;apply Zq;apply Y0;have:Wc args=false:=by have h:=Qh (args.take (i+1)) (args.drop (i+1));rw[List.take_append_drop,gH,Bool.false_and]at h;exact h
       rw[this]at hR;simp[TN,Ye,Yq,hR];exact((kB.trans kH).trans k5).trans k6
    ·refine Za (t:=false) (by simp[hi]) ?_;apply YQ;apply Y0;left;refine⟨rfl,?_⟩;obtain rfl:i=m0:=by omega
     rw[List.take_of_length_le (by omega)]at SB;rw[SB]at hR;subst Ze;apply Zb;intro b1 Ze;simp;subst Ze;apply Zq;simp[hR];exact kB.trans kH
   ·rw[decide_eq_true ha]at e0;simp[ry,Jx,Qy,AM,feN,feD,l0,l2,l3,l4,l5,lx,c1,c2,c3,e0,e1,e2];show W _ _ b2 _ _;refine no _ (by simp) ?_;rw[hR,hg];have:decide (0<=op/\op<16/\m0=arity op.toNat)=false:=decide_eq_false fun h=>by unfold O4 at ha;rw[if_pos ⟨h.1,h.2.1⟩]at ha;omega
    rw[this];rfl
section
variable {H : AH} {vs : List Value} {t : RT}
theorem Dk{Q:Nat->Prop}{H H':AH}{vs:List Value}{t:RT}(h:Rx Q H vs t)(k:Zg (H.new 1 vs) H'):Z9 Tryz.prog H' 68 (.pointer (some ⟨H.n,0,none⟩))=some (.agg vs.toArray):=JD (o:=0) (cs:=vs) ((Vp k (Nat.lt_succ_self _)).trans (VT H 1 vs)) (by rw[List.drop_zero,List.take_of_length_le (by rw[h.len];omega)]) h.len
theorem D2(h:Rx Q H vs t)(hb:t.nodes<=1000000000): ∃H',Zy Tryz.prog Zu 102 [.agg vs.toArray] H=some (.int .i64 (t.nodes:Int),H')/\Zg H H':=by obtain⟨_,H',hc,rfl,k⟩:=cG _ t (Nat.le_refl _) H vs h hb;exact⟨H',hc,k⟩
theorem DK(h:Rx Q H vs t)(hb:t.nodes<=1000000000): ∃H',Zy Tryz.prog Zu 103 [.agg vs.toArray] H=some (.int .i64 (t.depth:Int),H')/\Zg H H':=by obtain⟨_,H',hc,rfl,k⟩:=cL _ t (Nat.le_refl _) H vs h hb;exact⟨H',hc,k⟩
theorem D4(h:Rx Q H vs t)(hf:t.fit)(hb:t.nodes<=1000000000): ∃H',Zy Tryz.prog Zu 71 [.agg vs.toArray] H=some (.bool t.right,H')/\Zg H H':=by obtain⟨_,H',hc,rfl,k⟩:=cD _ t (Nat.le_refl _) H vs h hf hb;exact⟨H',hc,k⟩
theorem D1(h:Rx Q H vs t)(hb:t.nodes<=1000000000): ∃H',Zy Tryz.prog Zu 72 [.agg vs.toArray] H=some (.bool (decide (4000<t.nodes\/200<t.depth)),H')/\Zg H H':=by
 suffices hs:CW Tryz.prog Zu 72 [.agg vs.toArray] H fun v H'=>v= .bool (decide (4000<t.nodes\/200<t.depth))/\Zg H H' by obtain⟨_,H',hc,rfl,k⟩:=hs;exact⟨H',hc,k⟩
 obtain⟨R,hR⟩:=hid (decide (4000<t.nodes\/200<t.depth));rw[<-hR];refine Z2 11 Tryz.func72 ?_;have kB:=Zg.new H 1 vs;have lb:=fun{H'} (k:Zg (H.new 1 vs) H')=>Dk h k;obtain⟨HB,MR⟩:=hid (H.new 1 vs);rw[<-MR]at kB lb;obtain⟨H2,c2,k2⟩:=D2 (h.keep kB) hb;obtain⟨H3,c3,k3⟩:=DK ((h.keep kB).keep k2) hb;have l1:=lb (.refl HB);have l2:=lb k2;have g1:Zc .gtr .i64 (t.nodes:Int) 4000=some (.bool (decide (4000<t.nodes))):=gj (y:=4000) rfl;have g2:Zc .gtr .i64 (t.depth:Int) 200=some (.bool (decide (200<t.depth))):=gj (y:=200) rfl;apply Zb;intro b1 Ze;simp[Value.cells,<-MR];subst Ze;apply Zb;intro b1 Ze;by_cases h1:4000<t.nodes;·rw[decide_eq_true h1]at g1;simp[l1,c2,g1];subst Ze;apply Zq;simp;exact⟨by rw[hR];simp[h1],kB.trans k2⟩
 ·rw[decide_eq_false h1]at g1;simp[l1,c2,g1,l2,c3,g2];subst Ze;apply Zq;simp;exact⟨by rw[hR];simp[h1],(kB.trans k2).trans k3⟩
def Ox(t:RT):Nat:=if t.right=false then 152 else if 4000<t.nodes\/200<t.depth then 151 else 0
theorem Rq(h:Rx Q H vs t)(hf:t.fit)(hb:t.nodes<=1000000000): ∃H',Zy Tryz.prog Zu 35 [.agg vs.toArray] H=some (.int .i64 (Ox t:Int),H')/\Zg H H':=by
 suffices hs:CW Tryz.prog Zu 35 [.agg vs.toArray] H fun v H'=>v= .int .i64 (Ox t:Int)/\Zg H H' by obtain⟨_,H',hc,rfl,k⟩:=hs;exact⟨H',hc,k⟩
 obtain⟨R,hR⟩:=hid (Ox t);rw[<-hR];unfold Ox at hR;refine Z2 8 Tryz.func35 ?_;have kB:=Zg.new H 1 vs;have lb:=fun{H'} (k:Zg (H.new 1 vs) H')=>Dk h k;obtain⟨HB,MR⟩:=hid (H.new 1 vs);rw[<-MR]at kB lb;obtain⟨H2,c2,k2⟩:=D4 (h.keep kB) hf hb;obtain⟨H3,c3,k3⟩:=D1 ((h.keep kB).keep k2) hb;have l1:=lb (.refl HB);have l2:=lb k2;obtain⟨g,hg⟩:=hid (t.right);rw[<-hg]at c2 hR;obtain⟨p,hp⟩:=hid (decide (4000<t.nodes\/200<t.depth));rw[<-hp]at c3;apply Zb;intro b1 Ze;simp[Value.cells,<-MR];subst Ze;apply Zf;intro b1 Ze;apply Zb;intro b2 Zp;simp[l1,c2];subst Zp;cases g with
  |false=>rw[if_pos rfl]at hR;subst hR;refine Za (t:=true) (by simp) ?_;apply Zb;intro b1 Ze;simp;subst Ze;apply Zq;simp[Yq];exact kB.trans k2
  |true=>rw[if_neg (by decide)]at hR;refine Za (t:=false) (by simp) ?_;apply Zn;subst Ze;apply Zf;intro b1 Ze;apply Zb;intro b2 Zp;simp[l2,c3];subst Zp;cases p with|true=>rw[if_pos (of_decide_eq_true hp.symm)]at hR;subst hR;refine Za (t:=true) (by simp) ?_;apply Zb;intro b1 Ze;simp;subst Ze;apply Zq;simp[Yq];exact(kB.trans k2).trans k3|false=>rw[if_neg (of_decide_eq_false hp.symm)]at hR;subst hR;refine Za (t:=false) (by simp) ?_;apply Zn;subst Ze;apply Zb;intro b1 Ze;simp;subst Ze;apply Zq;simp;exact(kB.trans k2).trans k3
end
end
theorem QG(t:ET):Ox t.ref=X4 t:=by unfold Ox X4;rw[cH _ t (Nat.le_refl _),Lm _ t (Nat.le_refl _),cI _ t (Nat.le_refl _)]
theorem bE(op:Int):Wn Tryz.prog 68 [(0,.int .i64 op)]=some (.agg #[.int .i64 op,.bool false,.slice none 0 0,.slice none 0 0,.bool false,.slice none 0 0]):=by kernel_rfl
theorem sB:Xn Tryz.prog 4=some 1:=by kernel_rfl
theorem Zab:Xn Tryz.prog 66=some 1:=by kernel_rfl
theorem bEs(H:AH)(v0 v1 v2 v3 v4 v5:Value):YV Tryz.prog H 66 1 [(0,.agg #[v0,v1,v2,v3,v4,v5])]=some (.slice (some ⟨H.n,0,none⟩) 1 1,H.new 6 [v0,v1,v2,v3,v4,v5]):=by unfold YV;simp only[sEs,zE];kernel_rfl
theorem Fm{n0 b:Nat}{H:AH}{sz:Nat}{cs:List Value}(h:n0<=b):Ui n0 H ((H.kill b).new sz cs):=fun H0 k Qi=>by
 have:=k.n;have eH:(H.kill b).n=H.n:=rfl;refine⟨by show H0.n<=H.n+1;omega,?_,fun j hj=>?_⟩;·have:=k.lw;show min H0.lw H0.n<=min H.lw b;omega
 ·rw[AH.blk_new,if_neg (by rw[eH];omega),AH.blk_kill,if_neg (by omega)];exact k.blk j hj
theorem So{n0:Nat}{H H2:AH}(h:Ui n0 H.top H2):Ui n0 H (low H H2):=iL h
theorem UQ{x y:Int} :Zc .eql .i64 x y=some (.bool (decide (x=y))):=by show some (Value.bool (x==y))=_;rfl
def O1(nh:Nat)(H:AH)(xv:Value)(l:List RT):Prop:=(xv= .slice none 0 0/\l=[])\/ ∃b cs,xv= .slice (some ⟨b,0,none⟩) l.length l.length/\nh<=b/\b<H.n/\H.blk b= .rw 6 cs/\cs.length=l.length*6/\ ∀(j:Nat)(u:RT),l[j]?=some u->Rx (fun j=>nh<=j/\j≠b) H ((cs.drop (j*6)).take 6) u
theorem O1.one1{nh:Nat}{H:AH}{xv:Value}{l:List RT}(h:O1 nh H xv l):one xv=true/\xv.cells.toList=[xv]:=by rcases h with⟨rfl,_⟩|⟨b,cs,rfl,_⟩<;>exact⟨rfl,rfl⟩
theorem O1.append{nh:Nat}{H:AH}{xv:Value}{l:List RT}(h:O1 nh H xv l)(hn:nh<=H.n){w:Nat}(hw:nh<=w)(hwn:w<H.n){us:List Value}{x:RT}(hb:H.blk w= .rw 6 us)(hx:Rx (fun j=>nh<=j) H us x)(hl:l.length<1000000000)(FC: ∀b,Yw xv=some b->Rx (fun j=>nh<=j/\j≠b) H us x/\b≠w): ∃H',XS Tryz.prog H 66 66 xv (.slice (some ⟨w,0,none⟩) 1 1)=some (.slice (some ⟨H.n,0,none⟩) (l.length+1) (l.length+1),H')/\H'.n=H.n+1/\Ui nh H H'/\(∀j,j<H.n->Yw xv≠some j->H'.blk j=H.blk j)/\O1 nh H' (.slice (some ⟨H.n,0,none⟩) (l.length+1) (l.length+1)) (l++[x])/\(Yw xv=none->H'.lw=H.lw)/\(∀b,Yw xv=some b->H'.lw<=b/\b<H.n):=by
 have hul:=hx.len;have huo:=hx.ones;have hc:H.read w 0 6=some us:=by
  rw[AH.read_def];have:H.cells w=some us:=by unfold AH.cells;rw[hb]
  simp only[this,Nat.zero_add];rw[Nat.ble_eq.mpr (by omega),cond_true,List.drop_zero,List.take_of_length_le (by omega)]
 rcases h with⟨rfl,rfl⟩|⟨b,cs,rfl,Ze,Zp,Z3,Yx,Sh⟩
 ·refine⟨H.new 6 us,?_,rfl,(Zg.new H 6 us).kat nh,fun j hj _=>?_,.inr ⟨H.n,us,rfl,hn,Nat.lt_succ_self _,by rw[AH.blk_new,if_pos rfl],by simp[hul],fun j u hu=>?_⟩,fun _=>rfl,fun b hb=>by cases hb⟩;·unfold XS;simp only[sEs,zE,XL,hc];rfl
  ·rw[AH.blk_new,if_neg (by omega)]
  ·match j,hu with|0,hu=>cases hu;rw[Nat.zero_mul,List.drop_zero,List.take_of_length_le (by omega)];exact hx.agr ⟨Nat.le_succ _,fun j _ hj=>by rw[AH.blk_new,if_neg (by omega)]⟩ fun j hj hq=>⟨hq,by omega⟩
 ·obtain⟨hxq,ke⟩:=FC b rfl;have eH:(H.kill b).n=H.n:=rfl;have e1:Nat.ble ((l.length+1)*96) 140737488355328=true:=Nat.ble_eq.mpr (by omega);have e2:Nat.ble (l.length+1) 281474976710656=true:=Nat.ble_eq.mpr (by omega);have e3:Nat.ble (0+l.length*6) cs.length=true:=Nat.ble_eq.mpr (by omega);have Gi: ∀j,j<H.n->j≠b->((H.kill b).new 6 (cs++us)).blk j=H.blk j:=fun j hj Bn=>by rw[AH.blk_new,if_neg (by rw[eH];omega),AH.blk_kill,if_neg Bn]
  refine⟨(H.kill b).new 6 (cs++us),?_,rfl,Fm Ze,fun j hj Bn=>Gi j hj (fun e=>Bn (by rw[e];rfl)),.inr ⟨H.n,cs++us,by simp,hn,Nat.lt_succ_self _,by rw[AH.blk_new,if_pos eH.symm],by simp[hul,Yx];omega,fun j u hu=>?_⟩,(fun h=>by cases h),(fun b' WO=>by cases WO;exact⟨Nat.min_le_right _ _,Zp⟩)⟩;·unfold XS;simp only[sEs,zE,XL,hc,Z3,e1,e2,e3,huo];rw[List.drop_zero,List.take_of_length_le (by omega)];rfl
  ·rw[List.getElem?_append]at hu;split at hu
   ·rename_i hj;have:((cs++us).drop (j*6)).take 6=(cs.drop (j*6)).take 6:=by rw[List.drop_append_of_le_length (by omega),List.take_append_of_le_length (by rw[List.length_drop];omega)]
    rw[this];exact(Sh j u hu).agr ⟨Nat.le_succ _,fun i hi IH=>Gi i IH hi.2⟩ fun i IH hi=>⟨hi.1,by omega⟩
   ·rename_i hj;obtain rfl:j=l.length:=by have:=List.getElem?_eq_some_iff.mp hu;obtain⟨h,_⟩:=this;simp at h;omega
    simp at hu;subst hu;have:((cs++us).drop (l.length*6)).take 6=us:=by rw[<-Yx,List.drop_left,List.take_of_length_le (by omega)]
    rw[this];exact hxq.agr ⟨Nat.le_succ _,fun i hi IH=>Gi i IH hi.2⟩ fun i IH hi=>⟨hi.1,by omega⟩
theorem O1.agr{nh:Nat}{H H':AH}{xv:Value}{l:List RT}(h:O1 nh H xv l)(hn:H.n<=H'.n)(k: ∀j,nh<=j->j<H.n->H'.blk j=H.blk j):O1 nh H' xv l:=by
 rcases h with h|⟨b,cs,h1,h2,h3,h4,h5,h6⟩;·exact .inl h
 ·exact .inr ⟨b,cs,h1,h2,by omega,by rw[k b h2 h3];exact h4,h5,fun j u hu=>(h6 j u hu).agr ⟨hn,fun i hi IH=>k i hi.1 IH⟩ fun _ _ h=>h⟩
theorem O1.blk{nh:Nat}{H:AH}{xv:Value}{l:List RT}(h:O1 nh H xv l){b:Nat}(hb:Yw xv=some b):nh<=b/\b<H.n:=by
 rcases h with⟨rfl,_⟩|⟨b',cs,rfl,h2,h3,_⟩;·cases hb
 ·cases hb;exact⟨h2,h3⟩
theorem O1.rxs{nh n0:Nat}(h0:n0<=nh){H:AH}{xv:Value}{l:List RT}(h:O1 nh H xv l):eZ (fun j=>n0<=j) H xv l:=by
 rcases h with⟨rfl,rfl⟩|⟨b,cs,rfl,h2,h3,h4,h5,h6⟩;·exact .nil
 ·exact .mk b l.length (cs:=cs) (by omega) h3 h4 (Nat.le_refl _) fun j u hu=>(h6 j u hu).agr ⟨Nat.le_refl _,fun _ _ _=>rfl⟩ fun i _ hi=>by have:=hi.1;omega
def eX(H:AH)(t:ET)(v:Value)(H':AH):Prop:=Zg H H'/\ ∃us:List Value,v= .agg us.toArray/\Rx (fun j=>H.n<=j) H' us t.ref
theorem aBs:XQ Tryz.prog 4=some false:=by kernel_rfl
structure HeadIs (H : AH) (vs : List Value) (op : Int) (r : (Bool × Nat × Nat) × Bool) (c nh : Nat) (vn vd : Value) (s : St) : Prop where
  k : s.k = 70
  keep : Zg H s.H
  hc : H.n + 2 <= c
  hcn : c < nh
  hn : nh = s.H.n
  blk : s.H.blk c = .rw 1 [.int .i64 op, .bool r.1.1, vn, vd, .bool r.2, .slice none 0 0]
  box : s.H.blk H.n = .rw 1 vs
  res : s.H.blk (H.n + 1) = .rw 1 [.int .i64 0, .bool false, .slice none 0 0, .slice none 0 0, .bool false, .slice none 0 0]
  sn : qJ (fun j => H.n + 2 <= j /\ j ≠ c) s.H vn (ds Z5 r.1.2.1)
  sd : qJ (fun j => H.n + 2 <= j /\ j ≠ c) s.H vd (ds Z5 r.1.2.2)
  t1 : s.tm.get 1 = some (.pointer (some ⟨H.n, 0, none⟩))
  t2 : s.tm.get 2 = some (.pointer (some ⟨H.n + 1, 0, none⟩))
  t5 : s.tm.get 5 = some (.pointer (some ⟨c, 0, none⟩))
theorem or3(a b c:Bool):(a||b||c)=(a||(b||c)):=Bool.or_assoc ..
theorem oZ: ∀n(t:ET),t.nodes<=n-> ∀(H:AH)(vs:List Value),Ex H vs t->t.wide 1048576->t.nodes<=100000000->CW Tryz.prog Zu 30 [.agg vs.toArray] H (eX H t):=by intro n;induction n with
 |zero=>intro t h;have:=Y5 t;omega
 |succ n ih=>intro t ht H vs hE hw hb;obtain⟨op,neg,abs,den,args⟩:=t;have hEk:=hE;obtain⟨la,ld,da,dd,ws⟩:=hw;simp only[ET.nodes]at ht hb;cases hEk with
  |@mk _ _ va vd vx _ _ _ h1 h2 h3=>
   unfold eX;simp only[ET.ref];obtain⟨r,hr⟩:=hid (Wt op neg abs den);rw[<-hr];unfold Wt at hr;refine Z2 70 Tryz.func30 ?_;obtain⟨vs,JL⟩:=hid ([Value.int .i64 op,.bool neg,va,vd,vx]);obtain⟨zs,iu⟩:=hid ([Value.int .i64 0,.bool false,.slice none 0 0,.slice none 0 0,.bool false,.slice none 0 0]);have kB:=Zg.new H 1 vs;have cB:=VT H 1 vs;have bB:(H.new 1 vs).blk H.n= .rw 1 vs:=by rw[AH.blk_new,if_pos rfl]
   have nB:(H.new 1 vs).n=H.n+1:=rfl;obtain⟨HB,MR⟩:=hid (H.new 1 vs);rw[<-MR]at kB cB bB nB;have kC:=Zg.new HB 1 zs;have bC:(HB.new 1 zs).blk HB.n= .rw 1 zs:=by rw[AH.blk_new,if_pos rfl]
   have nC:(HB.new 1 zs).n=H.n+2:=by show HB.n+1=_;omega
   obtain⟨H1,hH1⟩:=hid (HB.new 1 zs);rw[<-hH1]at kC bC nC;rw[nB]at bC;have bB1:H1.blk H.n= .rw 1 vs:=by rw[kC.blk _ (by omega)];exact bB
   have k1:=kB.trans kC;obtain⟨v1,H2,c1,k2,o1,l1⟩:=FY (H:=H1.top) ((h1.keep k1).top) da (by show _<=2000000000000;omega);obtain⟨G1,UC⟩:=hid (grown H1 H2);have WH:Zg H1 G1:=by rw[UC];exact Yb (.refl H1) k2
   have kz:Yo H1.n G1 v1 (ds Z5 (dv Zd abs)):=by rw[UC];exact o1.same (Yn k2)
   have n2:H1.n<=H2.n:=k2.n;have dC:G1.n=H2.n:=by rw[UC];rfl
   obtain⟨v2,H3,c2,k3,o2,l2⟩:=FY (H:=G1.top) ((h2.keep (k1.trans WH)).top) dd (by show _<=2000000000000;omega);obtain⟨G2,Kn⟩:=hid (grown G1 H3);have Ix:Zg G1 G2:=by rw[Kn];exact Yb (.refl G1) k3
   have tZ:Yo G1.n G2 v2 (ds Z5 (dv Zd den)):=by rw[Kn];exact o2.same (Yn k3)
   have n3:G1.n<=H3.n:=k3.n;have nG2:G2.n=H3.n:=by rw[Kn];rfl
   have box: ∀{H':AH}(k:Zg H1 H'),H'.cells H.n=some vs:=fun k=>by unfold AH.cells;rw[k.blk _ (by omega),bB1]
   have a2:Z9 Tryz.prog H1.top 30 (.pointer (some ⟨H.n,2,none⟩))=some va:=Z7 Jb (box (Tw H1)) (by rw[JL];rfl);have a3: ∀bits ms,(∀x∈ms,H1.n<=x.2.1)->Z9 Tryz.prog (OY G1 bits ms) 30 (.pointer (some ⟨H.n,3,none⟩))=some vd:=fun bits ms h=>Z7 Jb (box (Xx WH h)) (by rw[JL];rfl);apply Zb;intro b1 Ze;simp[Value.cells,zE,<-JL,<-iu,<-MR,<-hH1];subst Ze;apply Zf;intro b1 Ze;apply YH (by kernel_rfl);simp[PQ,jD,LZ];refine ZK (v:=va) rfl rfl rfl (by rw[ZQ rfl];simp[a2]) ?_;simp;refine Yy (v:=v1) (H2:=H2) rfl rfl rfl (by rw[ZQ rfl];simp[c1]) n2 (YN k2) ?_;rw[<-UC];generalize PG:cond (Nat.blt H1.n H2.n) _ _=ms;have XA:=Un PG;simp[PQ,ru];refine ZK (v:=vd) rfl rfl rfl (by simp[a3 _ ms fun x hx=>(XA x hx).2]) ?_;simp;refine Yy (v:=v2) (H2:=H3) rfl rfl rfl ?_ n3 (YN k3) ?_;·rw[ZQ (Yp fun x hx=>by rw[(XA x hx).1];kernel_rfl)];simp[c2]
   rw[<-Kn];simp;rw[nB];subst Ze;have iy:=k1.trans (WH.trans Ix);have mM:=WH.trans Ix;have nH:=mM.n;obtain⟨H4,WW,k4,IX,n4⟩:=Xi (H:=G2) (sz:=1) (zs:=zs) sE (by rw[iu];rfl) (v:= .agg #[.int .i64 op,.bool false,.slice none 0 0,.slice none 0 0,.bool false,.slice none 0 0]) (ws:=[.int .i64 op,.bool false,.slice none 0 0,.slice none 0 0,.bool false,.slice none 0 0]) rfl rfl rfl;have ld0:Z9 Tryz.prog G2 50 (.pointer (some ⟨H.n,0,none⟩))=some (.int .i64 op):=Z7 aOp (box mM) (by rw[JL];rfl);apply Zb;intro b1 Ze;simp[Ez,ld0,bE,zE,Value.cells,<-iu,WW];subst Ze;have SA:=mM.trans k4;have Rc:=k1.trans SA;have o14:Yo H1.n H4 v1 (ds Z5 (dv Zd abs)):=kz.mono (Nat.le_refl _) (Ix.trans k4);have o24:Yo H1.n H4 v2 (ds Z5 (dv Zd den)):=tZ.mono (by have:=WH.n;omega) k4;have jH: ∀c,Yw v1=some c->c<G2.n:=fun c hc=>(kz.m Ix).blk_lo hc|>.2;have b24: ∀c,Yw v2=some c->c<G2.n:=fun c hc=>(tZ.blk_lo hc).2;have ld4:Z9 Tryz.prog H4 50 (.pointer (some ⟨H.n,0,none⟩))=some (.int .i64 op):=Z7 aOp (box SA) (by rw[JL];rfl);have iQ:Z9 Tryz.prog H4 4 (.pointer (some ⟨H.n,1,none⟩))=some (.bool neg):=Z7 aBs (box SA) (by rw[JL];rfl);have zY:Z9 Tryz.prog H4 30 (.pointer (some ⟨H.n,2,none⟩))=some va:=Z7 Jb (box SA) (by rw[JL];rfl);have lde:Z9 Tryz.prog H4 30 (.pointer (some ⟨H.n,3,none⟩))=some vd:=Z7 Jb (box SA) (by rw[JL];rfl);have wQ:H4.blk (H.n+1)= .rw 1 zs:=by rw[SA.blk _ (by omega)];exact bC
   have wP:H4.blk H.n= .rw 1 vs:=by rw[SA.blk _ (by omega)];exact bB1
   obtain⟨c,hc⟩:=hid (G2.n);rw[<-hc]at IX n4 jH b24⊢;have hcn:H.n+2<=c:=by omega
   have e0:Zc .eql .i64 op 0=some (.bool (decide (op=0))):=UQ;refine Xe (fun s'=> ∃nh vn FB,HeadIs H vs op r c nh vn FB s') ?_ ?_
   ·intro Q' Y0;have fin: ∀(H5 H6:AH)(tm:Tr Value)(vn FB:Value),Zg H4 H5->(∀j,j≠c->H6.blk j=H5.blk j)->H6.n=H5.n->Ui c H5 H6->H6.blk c= .rw 1 [.int .i64 op,.bool r.1.1,vn,FB,.bool r.2,.slice none 0 0]->qJ (fun j=>H.n+2<=j/\j≠c) H5 vn (ds Z5 r.1.2.1)->qJ (fun j=>H.n+2<=j/\j≠c) H5 FB (ds Z5 r.1.2.2)->tm.get 1=some (.pointer (some ⟨H.n,0,none⟩))->tm.get 2=some (.pointer (some ⟨H.n+1,0,none⟩))->tm.get 5=some (.pointer (some ⟨c,0,none⟩))->Q' .norm ⟨70,tm,H6⟩:=fun H5 H6 tm vn FB k5 Gi n6 ka bl sn sd t1 t2 t5=>by
     have n5:=k5.n;have ag:ur (fun j=>H.n+2<=j/\j≠c) H5 H6:=⟨Nat.le_of_eq n6.symm,fun j hj _=>Gi j hj.2⟩;refine Y0 _ ⟨H6.n,vn,FB,rfl,ka H (Rc.trans k5) (by omega),hcn,by show c<H6.n;omega,rfl,bl,?_,?_,⟨sn.1.agr sn.2 ag,sn.2⟩,⟨sd.1.agr sd.2 ag,sd.2⟩,t1,t2,t5⟩;·show H6.blk H.n=_;rw[Gi _ (by omega),k5.blk _ (by omega)];exact wP
     ·show H6.blk (H.n+1)=_;rw[Gi _ (by omega),k5.blk _ (by omega),wQ,iu]
    have nf:qJ (fun j=>H.n+2<=j/\j≠c) H4 (.slice none 0 0) (ds Z5 0):=⟨by rw[Xg];exact .nil,fun b hb=>by cases hb⟩;apply Zb;intro b2 Zp;simp[Ez,ld4,e0];subst Zp;by_cases h0:op=0
    ·refine Za (t:=true) (by simp[h0]) ?_;rw[if_pos h0]at hr;have z:=OU o24.sl;apply Zb;intro b2 Zp;simp[z];subst Zp;by_cases mr:dv Zd den=0;·refine Za (t:=true) (by simp[mr]) ?_;rw[if_pos mr]at hr;obtain⟨H5,Xy,Jf,n5,ny,WJ,_⟩:=Wk (b:=c) (o:=4) (v:= .bool true) (ws:=[.bool true]) sB IX rfl rfl (by simp) rfl;apply Zh;simp[Jx,Xy];exact fin H4 H5 _ (.slice none 0 0) (.slice none 0 0) (.refl H4) ny n5 WJ (by rw[Jf,hr];rfl) (by rw[hr];exact nf) (by rw[hr];exact nf) (by simp) (by simp) (by simp)
     ·refine Za (t:=false) (by simp[mr]) ?_;rw[if_neg mr]at hr;obtain⟨us,H5,c5,k5,QI⟩:=Oo (H:=H4) neg o14.sl o24.sl l1 l2 (by omega);obtain⟨x,y,rfl,ox,oy⟩:=QI;have n5:=k5.n;obtain⟨H6,Wl,lj,n6,oth6,Vu,_⟩:=Wk (H:=H5) (b:=c) (o:=1) (cs:=[.int .i64 op,.bool false,.slice none 0 0,.slice none 0 0,.bool false,.slice none 0 0]) (sz:=1) (v:= .agg #[.bool (Z8 neg (dv Zd abs) (dv Zd den)).1,x,y]) (ws:=[.bool (Z8 neg (dv Zd abs) (dv Zd den)).1,x,y]) sR (by rw[k5.blk _ (by omega)];exact IX) rfl rfl (by simp) (by obtain⟨_,_,_,rfl⟩:=ox.shape;obtain⟨_,_,_,rfl⟩:=oy.shape;rfl);have c5:Zy Tryz.prog Zu 22 [.bool neg,v1,v2] H4=some (.agg #[.bool (Z8 neg (dv Zd abs) (dv Zd den)).1,x,y],H5):=c5;apply Zh;simp[PQ,jD,VZ,iQ,c5,AM,Wl];exact fin H5 H6 _ x y k5 oth6 n6 Vu (by rw[lj,hr];rfl) (by rw[hr];exact⟨ox.sl,fun b hb=>by have:=(ox.blk_lo hb).1;exact⟨by omega,by omega⟩⟩) (by rw[hr];exact⟨oy.sl,fun b hb=>by have:=(oy.blk_lo hb).1;exact⟨by omega,by omega⟩⟩) (by simp) (by simp) (by simp)
    ·refine Za (t:=false) (by simp[h0]) ?_;rw[if_neg h0]at hr;have f1:Zc .gtr .i64 (abs.length:Int) 0=some (.bool (decide (0<abs.length))):=rY;have f2:Zc .gtr .i64 (den.length:Int) 0=some (.bool (decide (0<den.length))):=rY;have vX:=(h1.keep Rc).len Zv;have zX:=(h2.keep Rc).len Zv;obtain⟨R,hR⟩: ∃R:Bool,R=(neg||decide (0<abs.length)||decide (0<den.length)):=⟨_,rfl⟩;rw[<-hR]at hr;obtain⟨H5,Xy,Jf,n5,ny,WJ,_⟩:=Wk (b:=c) (o:=4) (v:= .bool R) (ws:=[.bool R]) sB IX rfl rfl (by simp) rfl;have done: ∀tm:Tr Value,tm.get 1=some (.pointer (some ⟨H.n,0,none⟩))->tm.get 2=some (.pointer (some ⟨H.n+1,0,none⟩))->tm.get 5=some (.pointer (some ⟨c,0,none⟩))->Q' .norm ⟨70,tm,H5⟩:=fun tm t1 t2 t5=>fin H4 H5 tm (.slice none 0 0) (.slice none 0 0) (.refl H4) ny n5 WJ (by rw[Jf,hr];rfl) (by rw[hr];exact nf) (by rw[hr];exact nf) t1 t2 t5;apply Zh;cases neg with
     |true=>rw[show R=true by rw[hR];simp]at Xy;simp[PQ,jD,VZ,iQ,Jx,Xy];exact done _ (by simp) (by simp) (by simp)
     |false=>
      by_cases g1:0<abs.length;·rw[decide_eq_true g1]at f1;rw[show R=true by rw[hR,decide_eq_true g1];simp]at Xy;simp[PQ,jD,VZ,LZ,iQ,zY,vX,f1,Jx,Xy];exact done _ (by simp) (by simp) (by simp)
      ·rw[decide_eq_false g1]at f1 hR;rw[Bool.false_or,Bool.false_or]at hR;rw[<-hR]at f2;simp[PQ,jD,VZ,LZ,ru,iQ,zY,vX,f1,lde,zX,f2,Jx,Xy];exact done _ (by simp) (by simp) (by simp)
   rintro⟨k,tm,HH⟩ ⟨nh,vn,FB,hh⟩;obtain⟨hk,keep,IL,hcn,hn,blk,bx,res,sn,sd,t1,t2,t5⟩:=hh;simp only at hk keep hn blk bx res sn sd t1 t2 t5;subst hk;clear WW k4 IX ld0 SA Rc o14 o24 jH b24 ld4 iQ zY lde wQ wP n4 WH Ix iy mM kz tZ a2 a3 box;have lx:Z9 Tryz.prog HH 51 (.pointer (some ⟨H.n,4,none⟩))=some vx:=Z7 GS (o:=4) (cs:=vs) (by unfold AH.cells;rw[bx]) (by rw[JL];rfl);have ln:=h3.len;obtain⟨m0,M3⟩:=hid (args.length);have la:=Vw args;rw[<-M3]at ln la;have hH2n:H.n<=H.n+2:=by omega
   apply Zf;intro b1 Ze;apply Zb;intro b2 Zp;simp[t1,Jw,lx,ln];subst Zp;apply Zz;refine YU (fun m s'=>s'.k=70/\Zg H s'.H/\nh<=s'.H.n/\(∀j,j<nh->j≠c->s'.H.blk j=HH.blk j)/\ ∃(i:Nat) (xv:Value),m+i=m0/\s'.H.blk c= .rw 1 [.int .i64 op,.bool r.1.1,vn,FB,.bool r.2,xv]/\O1 nh s'.H xv (WN (args.take i))/\s'.tm.get 2=some (.pointer (some ⟨H.n+1,0,none⟩))/\s'.tm.get 5=some (.pointer (some ⟨c,0,none⟩))/\s'.tm.get 55=some vx/\s'.tm.get 56=some (.int .i64 (m0:Int))/\s'.tm.get 57=some (.int .i64 (i:Int))) ?_ m0 _ ⟨rfl,keep,Nat.le_of_eq hn,fun _ _ _=>rfl,0,.slice none 0 0,by omega,blk,.inl ⟨rfl,by simp[WN]⟩,by simp[t2],by simp[t5],by simp,by simp,by simp⟩;rintro m ⟨k,Xb,Ha⟩ ⟨hk,kH,hna,Gi,i,xv,M5,lk,own,t2,t5,t55,t56,t57⟩ Q' Y0;simp only at hk kH hna Gi lk own t2 t5 t55 t56 t57;subst hk;apply Zb;intro b3 Z3;simp[t56,t57,Mk];subst Z3;by_cases hi:i<m0
   ·refine Xe (fun s'=>s'=⟨70,Xb.set 58 (.bool (decide (i<m0))),Ha⟩) ?_ ?_;·intro IY XG;refine Za (t:=true) (by simp[hi]) ?_;apply Zn;exact XG _ rfl
    rintro _ rfl;obtain⟨x,hx⟩: ∃x,args[i]?=some x:=⟨_,List.getElem?_eq_getElem (by omega)⟩;have uC:=Tb hx;obtain⟨p,us,ha5,hl5,gw⟩: ∃(p:Value) (us:List Value),Yg Tryz.prog 51 vx (.int .i64 (i:Int))=some p/\Z9 Tryz.prog Ha 53 p=some (.agg us.toArray)/\Ex Ha us x:=by obtain⟨p,us,e1,e2,e3⟩:=h3.at hx;exact⟨p,us,e1,e2 _ kH,e3.keep kH⟩
    obtain⟨Hb,Xy,k5,Jf,n5⟩:=Xi (H:=Ha) (sz:=1) (zs:=[.int .i64 0,.bool false,.slice none 0 0,.slice none 0 0,.slice none 0 0]) Rz rfl (v:= .agg us.toArray) (ws:=us) (by simp[Value.cells]) gw.len gw.ones;have l5:Z9 Tryz.prog Hb.top 53 (.pointer (some ⟨Ha.n,0,none⟩))=some (.agg us.toArray):=Qb (o:=0) (cs:=us) (show Hb.cells Ha.n=_ by unfold AH.cells;rw[Jf]) (by rw[List.drop_zero,List.take_of_length_le (by rw[gw.len];omega)]) gw.len;have wO:Hb.blk c= .rw 1 [.int .i64 op,.bool r.1.1,vn,FB,.bool r.2,xv]:=by rw[k5.blk _ (by omega)];exact lk
    have lX:Z9 Tryz.prog Hb.top 66 (.pointer (some ⟨c,5,none⟩))=some xv:=Z7 uZ (o:=5) (show Hb.cells c=some _ by unfold AH.cells;rw[wO]) rfl;obtain⟨_,H6,c6,k6,Pn,rfl,rx6⟩:=ih x (by omega) Hb.top us ((gw.keep k5).keep (Tw Hb)) (Vo ws hx) (by omega);have rlen:=rx6.len;obtain⟨u0,u1,u2,u3,u4,u5,rfl⟩: ∃u0 u1 u2 u3 u4 u5,Pn=[u0,u1,u2,u3,u4,u5]:=by match Pn,rlen with|[u0,u1,u2,u3,u4,u5],_=>exact⟨u0,u1,u2,u3,u4,u5,rfl⟩
    have c6:Zy Tryz.prog Zu 30 [.agg us.toArray] Hb.top=some (.agg #[u0,u1,u2,u3,u4,u5],H6):=c6;have n6:Hb.n<=H6.n:=k6.n;obtain⟨Gb,hGb⟩:=hid (grown Hb H6);have kGb:Zg Hb Gb:=by rw[hGb];exact Yb (.refl Hb) k6
    have nGb:Gb.n=H6.n:=by rw[hGb];rfl
    have rxb:Rx (fun j=>Hb.n<=j) Gb [u0,u1,u2,u3,u4,u5] x.ref:=by rw[hGb];exact rx6.agr ⟨Nat.le_refl _,fun j _ hj=>(Yn k6).blk j hj (fun e=>by cases e)⟩ fun j _ h=>h
    have bs:=bEs Gb.top u0 u1 u2 u3 u4 u5;obtain⟨Gc,l7⟩:=hid (grown Gb (Gb.top.new 6 [u0,u1,u2,u3,u4,u5]));have sK:Zg Gb Gc:=by rw[l7];exact Yb (.refl Gb) (Zg.new _ _ _)
    have nGc:Gc.n=Gb.n+1:=by rw[l7];rfl
    have blkw:Gc.blk Gb.n= .rw 6 [u0,u1,u2,u3,u4,u5]:=by have:=(Yn (Zg.new Gb.top 6 [u0,u1,u2,u3,u4,u5])).blk Gb.n (Nat.lt_succ_self _) (fun e=>by cases e);rw[l7,this,AH.blk_new,if_pos (show Gb.n=Gb.top.n from rfl)]
    have CS:Zg Ha Gc:=(k5.trans kGb).trans sK;have n5':Ha.n<=Hb.n:=k5.n;have ownT:O1 nh Gc.top xv (WN (args.take i)):=own.agr (by have:=CS.n;exact this) fun j _ hj=>CS.blk j hj;have rxT:Rx (fun j=>Hb.n<=j) Gc.top [u0,u1,u2,u3,u4,u5] x.ref:=(rxb.keep sK).keep (Tw Gc);have hlen:(WN (args.take i)).length=i:=by rw[QF,List.length_take];omega
    obtain⟨Hd,Oj,nd,s8,nz,tR,hlw0,hlw1⟩:=ownT.append (H:=Gc.top) (nh:=nh) (us:=[u0,u1,u2,u3,u4,u5]) (x:=x.ref) (w:=Gb.n) (by show nh<=Gc.n;omega) (by omega) (by show Gb.n<Gc.n;omega) blkw (rxT.agr ⟨Nat.le_refl _,fun _ _ _=>rfl⟩ fun j _ hj=>by omega) (by omega) fun b hb=>by have:=own.blk hb;exact⟨rxT.agr ⟨Nat.le_refl _,fun _ _ _=>rfl⟩ fun j _ hj=>⟨by omega,by omega⟩,by omega⟩
    have yA:WN (args.take i)++[x.ref]=WN (args.take (i+1)):=by rw[Q7 hx,SH,SH];simp
    rw[yA]at tR;rw[hlen]at Oj tR;have nd':Hd.n=Gc.n+1:=nd;have blkd:Hd.blk c= .rw 1 [.int .i64 op,.bool r.1.1,vn,FB,.bool r.2,xv]:=by rw[nz c (by show c<Gc.n;omega) (fun e=>by have:=own.blk e;omega)];show Gc.blk c=_;rw[CS.blk _ (by omega)];exact lk
    have fin: ∀(G3:AH),TF none Hd G3->Ui nh Gc G3-> ∃H8,YX Tryz.prog G3.top 66 (.pointer (some ⟨c,5,none⟩)) (.slice (some ⟨Gc.n,0,none⟩) (i+1) (i+1))=some H8/\G3.n<=H8.n/\H8.lw<G3.n/\Zg H (low G3 H8)/\nh<=H8.n/\(∀j,j<nh->j≠c->(low G3 H8).blk j=HH.blk j)/\(low G3 H8).blk c= .rw 1 [.int .i64 op,.bool r.1.1,vn,FB,.bool r.2,.slice (some ⟨Gc.n,0,none⟩) (i+1) (i+1)]/\O1 nh (low G3 H8) (.slice (some ⟨Gc.n,0,none⟩) (i+1) (i+1)) (WN (args.take (i+1))):=fun G3 bt ka=>by
     have b3:G3.blk c= .rw 1 [.int .i64 op,.bool r.1.1,vn,FB,.bool r.2,xv]:=by rw[bt.blk c (by omega) (fun e=>by cases e)];exact blkd
     obtain⟨H8,OC,blk8,n8,cV,Dc,qn⟩:=Wk (H:=G3.top) (b:=c) (o:=5) (v:= .slice (some ⟨Gc.n,0,none⟩) (i+1) (i+1)) (ws:=[.slice (some ⟨Gc.n,0,none⟩) (i+1) (i+1)]) Zab b3 rfl rfl (by simp) rfl;have n8':H8.n=G3.n:=n8;have e3:=bt.n;refine⟨H8,OC,by omega,?_,?_,by omega,fun j hj hjc=>?_,?_,?_⟩;·rw[qn];show min G3.n c<G3.n;omega
     ·have:Zg H G3:=ka H (kH.trans CS) (by omega);exact So Dc H this (by omega)
     ·show H8.blk j=_;rw[cV j hjc];show G3.blk j=_;have e1:=(bt.blk j (by omega) (fun e=>by cases e)).trans (nz j (by show j<Gc.n;omega) (fun e=>by have:=own.blk e;omega));rw[e1];show Gc.blk j=_;rw[CS.blk _ (by omega)];exact Gi j hj hjc
     ·show H8.blk c=_;rw[blk8];rfl
     ·refine tR.agr (by show Hd.n<=H8.n;omega) fun j hj1 hj2=>?_;show H8.blk j=_;rw[cV j (by omega)];exact bt.blk j hj2 (fun e=>by cases e)
    refine Xe (fun s'=>s'.k=70/\ ∃G3 H8,YX Tryz.prog G3.top 66 (.pointer (some ⟨c,5,none⟩)) (.slice (some ⟨Gc.n,0,none⟩) (i+1) (i+1))=some H8/\TF none Hd G3/\Ui nh Gc G3/\s'.H=low G3 H8/\s'.tm.get 2=some (.pointer (some ⟨H.n+1,0,none⟩))/\s'.tm.get 5=some (.pointer (some ⟨c,0,none⟩))/\s'.tm.get 55=some vx/\s'.tm.get 56=some (.int .i64 (m0:Int))/\s'.tm.get 57=some (.int .i64 (i:Int))) ?_ ?_
    ·intro IY XG;apply Zz;apply Zb;intro b4 Yx;simp[t55,t57,ha5,hl5,Te,Value.cells,Xy];subst Yx;apply YH (by kernel_rfl);simp[t5,Qy];refine ZK (v:=xv) rfl rfl rfl (by rw[ZQ rfl];simp[lX]) ?_;simp;refine ZK (v:= .agg us.toArray) rfl rfl rfl (by rw[ZQ rfl];simp[l5]) ?_;simp;refine Yy (v:= .agg #[u0,u1,u2,u3,u4,u5]) (H2:=H6) rfl rfl rfl (by rw[ZQ rfl];simp[c6]) n6 (YN k6) ?_;rw[<-hGb];generalize PG:cond (Nat.blt Hb.n H6.n) _ _=ms;have XA:=Un PG;simp;refine Yy (v:= .slice (some ⟨Gb.n,0,none⟩) 1 1) (H2:=Gb.top.new 6 [u0,u1,u2,u3,u4,u5]) rfl rfl rfl ?_ (Nat.le_succ _) (Nat.le_refl _) ?_;·rw[ZQ (Yp fun x hx=>by rw[(XA x hx).1];kernel_rfl)];simp[bs];rfl
     rw[<-l7];have rN:Nat.blt Gb.n (Gb.top.new 6 [u0,u1,u2,u3,u4,u5]).n=true:=by rw[Nat.blt_eq];exact Nat.lt_succ_self _
     rw[rN,cond_true];have hid: ∀bits:Nat,bits.testBit 3=true->bits.testBit 4=true-> ∀x∈((4,Gb.n,(Gb.top.new 6 [u0,u1,u2,u3,u4,u5]).n)::ms),bits.testBit x.1=true:=fun bits b3 b4 x hx=>by
      rcases List.mem_cons.mp hx with e|e;·rw[e];exact b4
      ·rw[(XA x e).1];exact b3
     simp;cases FC:Yw xv with
      |none=>
       refine Yy (v:= .slice (some ⟨Gc.n,0,none⟩) (i+1) (i+1)) (H2:=Hd) rfl rfl rfl ?_ (by omega) (by rw[hlw0 FC];exact Nat.le_refl _) ?_;·rw[ZQ (Yp (hid _ (by kernel_rfl) (by kernel_rfl)))];simp[Oj]
       have bt:TF none Hd (grown Gc Hd):=⟨rfl,fun j hj _=>by
        unfold AH.blk grown;simp only[Py];by_cases cj:Gc.n<=j;·rw[if_pos (by omega)];rfl
        ·rw[if_neg (by omega)];exact(nz j (by show j<Gc.n;omega) (by rw[FC];intro e;cases e)).symm⟩;have bF:Ui nh Gc (grown Gc Hd):=(show Zg Gc (grown Gc Hd)from⟨by show Gc.n<=Hd.n;omega,Nat.min_le_left _ _,fun j hj=>by rw[bt.blk j (by omega) (fun e=>by cases e)];exact nz j hj (by rw[FC];intro e;cases e)⟩).kat nh;obtain⟨H8,OC,n8,qn,_⟩:=fin _ bt bF;have Bj:Nat.blt Gc.n Hd.n=true:=by rw[Nat.blt_eq];omega
       rw[Bj,cond_true];simp[t5,Qy];refine YI (v:= .tuple #[]) (H2:=H8) rfl rfl (by kernel_rfl) (Yp fun x hx=>?_) ?_ n8 qn ?_
       ·rcases List.mem_cons.mp hx with e|e;·rw[e];kernel_rfl
        ·exact hid _ (by kernel_rfl) (by kernel_rfl) x e
       ·show ZB _ _ _ _ (grown Gc Hd).top _=_;simp[OC]
       simp;exact XG _ ⟨rfl,_,H8,OC,bt,bF,rfl,by simp[t2],by simp[t5],by simp[t55],by simp[t56],by simp[t57]⟩
      |some b=>
       have Ze:=hlw1 b FC;refine YI (v:= .slice (some ⟨Gc.n,0,none⟩) (i+1) (i+1)) (H2:=Hd) rfl rfl (by kernel_rfl) (Yp (hid _ (by kernel_rfl) (by kernel_rfl))) ?_ (by omega) (by have h2:b<Gc.n:=Ze.2;omega) ?_;·show ZB _ _ _ _ Gc.top _=_;simp[Oj]
       have bt:TF none Hd (low Gc Hd):=Mj Gc Hd;have bF:Ui nh Gc (low Gc Hd):=So s8;obtain⟨H8,OC,n8,qn,_⟩:=fin _ bt bF;have Bj:Nat.blt Gc.n Hd.n=true:=by rw[Nat.blt_eq];omega
       rw[Bj,cond_true];simp[t5,Qy];refine YI (v:= .tuple #[]) (H2:=H8) rfl rfl (by kernel_rfl) (Yp fun x hx=>?_) ?_ n8 qn ?_
       ·rcases List.mem_cons.mp hx with e|e;·rw[e];kernel_rfl
        ·exact hid _ (by kernel_rfl) (by kernel_rfl) x e
       ·show ZB _ _ _ _ (low Gc Hd).top _=_;simp[OC]
       simp;exact XG _ ⟨rfl,_,H8,OC,bt,bF,by simp[low,Nat.min_assoc],by simp[t2],by simp[t5],by simp[t55],by simp[t56],by simp[t57]⟩
    rintro⟨k,CR,HX⟩ ⟨hk,G3,H8,OC,bt,ka,hX,u2',u5',u55,u56,u57⟩;simp only at hk hX u2' u5' u55 u56 u57;subst hk;subst hX;obtain⟨H8',st8',q1,q2,q3,q4,q5,q6,q7⟩:=fin G3 bt ka;obtain rfl:H8'=H8:=Option.some.inj (st8'.symm.trans OC);apply Zh;simp[u57,VF (x:=i) (by omega)];apply Y0;exact⟨m-1,by omega,rfl,q3,q4,q5,i+1,.slice (some ⟨Gc.n,0,none⟩) (i+1) (i+1),by omega,q6,q7,by simp[u2'],by simp[u5'],by simp[u55],by simp[u56],by simp⟩
   ·refine Zf fun b3 Z3=>?_;refine Za (t:=false) (by simp[hi]) ?_;apply YQ;apply Y0;left;refine⟨rfl,?_⟩;obtain rfl:i=m0:=by omega
    rw[List.take_of_length_le (by omega)]at own;have lF:Z9 Tryz.prog Ha 68 (.pointer (some ⟨c,0,none⟩))=some (.agg #[.int .i64 op,.bool r.1.1,vn,FB,.bool r.2,xv]):=JD (o:=0) (vs:=[.int .i64 op,.bool r.1.1,vn,FB,.bool r.2,xv]) (by unfold AH.cells;rw[lk]) rfl rfl;have on1:=own.one1.1;have resb:Ha.blk (H.n+1)= .rw 1 [.int .i64 0,.bool false,.slice none 0 0,.slice none 0 0,.bool false,.slice none 0 0]:=by rw[Gi _ (by omega) (by omega)];exact res
    obtain⟨H9,FI,blk9,n9,zA,BS,_⟩:=Wk (H:=Ha) (b:=H.n+1) (o:=0) (v:= .agg #[.int .i64 op,.bool r.1.1,vn,FB,.bool r.2,xv]) (ws:=[.int .i64 op,.bool r.1.1,vn,FB,.bool r.2,xv]) sE resb rfl rfl (by simp) (by simp only[List.all_cons,List.all_nil,sn.1.one1,sd.1.one1,on1,Bool.and_true];rfl);have lR:Z9 Tryz.prog H9 68 (.pointer (some ⟨H.n+1,0,none⟩))=some (.agg #[.int .i64 op,.bool r.1.1,vn,FB,.bool r.2,xv]):=JD (o:=0) (vs:=[.int .i64 op,.bool r.1.1,vn,FB,.bool r.2,xv]) (by unfold AH.cells;rw[blk9]) rfl rfl;subst Ze;apply Zb;intro b1 Ze;simp[t5,lF,t2,FI];subst Ze;apply Zq;simp[t2,lR];have ag:ur (fun j=>H.n+2<=j/\j≠c) HH H9:=by refine⟨by omega,fun j hj hjn=>?_⟩;rw[zA j (by omega)];exact Gi j (by omega) hj.2
    refine⟨BS H kH (by omega),.mk ⟨sn.1.agr sn.2 ag,fun b hb=>by have:=(sn.2 b hb).1;omega⟩ ⟨sd.1.agr sd.2 ag,fun b hb=>by have:=(sd.2 b hb).1;omega⟩ ?_⟩;exact(own.agr (H':=H9) (by omega) fun j hj _=>zA j (by omega)).rxs (by omega)
theorem Mt{H:AH}{va vb:Value}{xs ys:List Nat}(ha:Sl H va xs)(hb:Sl H vb ys)(dx:YC Zd xs)(dy:YC Zd ys)(lx:xs.length<=WM)(ly:ys.length<=WM): ∃v1 v2 H1 H2,Zy Tryz.prog Zu 120 [va] H=some (v1,H1)/\Zy Tryz.prog Zu 120 [vb] H1=some (v2,H2)/\Zg H H2/\Yo H.n H2 v1 (ds Zd (dv Zd xs))/\Yo H.n H2 v2 (ds Zd (dv Zd ys))/\Vz v1 v2:=by obtain⟨v1,H1,h1,k1,o1⟩:=VS ha (Nat.le_trans lx (by decide));obtain⟨v2,H2,h2,k2,o2⟩:=VS (hb.keep k1) (Nat.le_trans ly (by decide));rw[Xo Ya dx]at o1;rw[Xo Ya dy]at o2;exact⟨v1,v2,H1,H2,h1,h2,k1.trans k2,o1.m k2,o2.mono k1.n (.refl _),US o1 o2 (Nat.le_refl _)⟩
theorem PV{n0:Nat}{H:AH}{va vb:Value}{A B:Nat}(ha:Yo n0 H va (ds Zd A))(hb:Sl H vb (ds Zd B))(Qi:n0<=H.n)(lA:(ds Zd A).length<=WM)(lB:(ds Zd B).length<=WM)(hB:0<B): ∃q r H',Zy Tryz.prog Zu 193 [va,vb] H=some (.tuple #[q,r],H')/\Zg H H'/\Yo H.n H' q (ds Zd (A/B))/\Yo n0 H' r (ds Zd (A%B))/\Vz q r:=by obtain⟨v,H',hc,k,q,r,e,o1,o2,ap⟩:=Em ha hb Qi (Yv Ya A) (Yv Ya B) (TY Ya A) (TY Ya B) (Nat.le_trans lA (by decide)) (Nat.le_trans lB (by decide)) ((Vq Ya).mpr hB);subst e;rw[YL Ya,YL Ya]at o1 o2;exact⟨q,r,H',hc,k,o1,o2,ap⟩
theorem X6{H:AH}{v:Value}{A:Nat}(h:Sl H v (ds Zd A))(lA:(ds Zd A).length<=WM):Zy Tryz.prog Zu 123 [v] H=some (.int .i64 (Zo A:Int),H):=by obtain⟨_,_,hc,rfl,rfl⟩:=Vm h (Yv Ya A) (Nat.le_trans lA (by decide));rw[YL Ya]at hc;exact hc
theorem PJ{x:Nat} :Zc .gtr .i64 (x:Int) 67108864=some (.bool (decide (67108864<x))):=Vs (y:=67108864)
section
variable {H : AH} {va vb : Value} {xs ys : List Nat}
def qN(n0:Nat)(A B:Nat)(v:Value)(H':AH):Prop:=(B=0/\v= .tuple #[.slice none 0 0,.slice none 0 0,.int .i64 30])\/(0<B/\(67108864<Zo (A/B)\/67108864<Zo (A%B))/\v= .tuple #[.slice none 0 0,.slice none 0 0,.int .i64 3])\/(0<B/\Zo (A/B)<=67108864/\Zo (A%B)<=67108864/\ ∃q r,v= .tuple #[q,r,.int .i64 0]/\Yo n0 H' q (ds Zd (A/B))/\Yo n0 H' r (ds Zd (A%B))/\Vz q r)
theorem a8(ha:Sl H va xs)(hb:Sl H vb ys)(dx:YC Zd xs)(dy:YC Zd ys)(lx:xs.length<=WM)(ly:ys.length<=WM):CW Tryz.prog Zu 200 [va,vb] H fun v H'=>Zg H H'/\qN H.n (dv Zd xs) (dv Zd ys) v H':=by
 refine Z2 32 Tryz.func200 ?_;obtain⟨v1,v2,H1,H2,c1,c2,k2,o1,o2,ap⟩:=Mt ha hb dx dy lx ly;have lA:=Nat.le_trans (VD dx) lx;have lB:=Nat.le_trans (VD dy) ly;generalize dv Zd xs=A at*;generalize dv Zd ys=B at*;have l2:=o2.sl.len Zv;apply Zb;intro b1 Ze;simp;subst Ze;apply Zb;intro b1 Ze;simp[c1,c2];subst Ze;apply Zf;intro b1 Ze;apply Zb;intro b2 Zp;simp[l2,Wo,Wv Ya];subst Zp;by_cases hB:B=0;·refine Za (t:=true) (by simp[hB]) ?_;apply Zb;intro b2 Zp;simp;subst Zp;apply Zq;simp[Yq];exact⟨k2,.inl ⟨hB,rfl⟩⟩
 ·refine Za (t:=false) (by simp[hB]) ?_;apply Zn;subst Ze;have MS:0<B:=by omega
  obtain⟨q,r,H3,c3,k3,oq,tS,apq⟩:=PV o1 o2.sl k2.n lA lB MS;have lq:(ds Zd (A/B)).length<=WM:=Nat.le_trans (UR Ya (Nat.div_le_self A B)) lA;have lr:(ds Zd (A%B)).length<=WM:=Nat.le_trans (UR Ya (Nat.mod_le A B)) lA;have c4:=X6 oq.sl lq;have c5:=X6 tS.sl lr;apply Zb;intro b1 Ze;simp[c3];subst Ze;apply Zf;intro b1 Ze;apply Zb;intro b2 Zp;by_cases h1:67108864<Zo (A/B);·simp[c4,PJ,h1];subst Zp;refine Za (t:=true) (by simp) ?_;apply Zb;intro b2 Zp;simp;subst Zp;apply Zq;simp[Yq];exact⟨k2.trans k3,.inr (.inl ⟨MS,.inl h1,rfl⟩)⟩
  ·by_cases h2:67108864<Zo (A%B);·simp[c4,c5,PJ,h1,h2];subst Zp;refine Za (t:=true) (by simp) ?_;apply Zb;intro b2 Zp;simp;subst Zp;apply Zq;simp[Yq];exact⟨k2.trans k3,.inr (.inl ⟨MS,.inr h2,rfl⟩)⟩
   ·simp[c4,c5,PJ,h1,h2];subst Zp;refine Za (t:=false) (by simp) ?_;apply Zn;subst Ze;apply Zb;intro b2 Zp;simp;subst Zp;apply Zq;simp;exact⟨k2.trans k3,.inr (.inr ⟨MS,by omega,by omega,q,r,rfl,oq.mono k2.n (.refl _),tS,apq⟩)⟩
def vF(n0:Nat)(B Z:Nat)(v:Value)(H':AH):Prop:=(B=0/\v= .tuple #[.slice none 0 0,.int .i64 30])\/(0<B/\67108864<Zo Z/\v= .tuple #[.slice none 0 0,.int .i64 3])\/(0<B/\Zo Z<=67108864/\ ∃q,v= .tuple #[q,.int .i64 0]/\Yo n0 H' q (ds Zd Z))
theorem jk(ha:Sl H va xs)(hb:Sl H vb ys)(dx:YC Zd xs)(dy:YC Zd ys)(lx:xs.length<=WM)(ly:ys.length<=WM):CW Tryz.prog Zu 141 [va,vb] H fun v H'=>Zg H H'/\vF H.n (dv Zd ys) (dv Zd xs/dv Zd ys) v H':=by
 refine Z2 25 Tryz.func141 ?_;obtain⟨v1,v2,H1,H2,c1,c2,k2,o1,o2,ap⟩:=Mt ha hb dx dy lx ly;have lA:=Nat.le_trans (VD dx) lx;have lB:=Nat.le_trans (VD dy) ly;generalize dv Zd xs=A at*;generalize dv Zd ys=B at*;have l2:=o2.sl.len Zv;apply Zb;intro b1 Ze;simp;subst Ze;apply Zb;intro b1 Ze;simp[c1,c2];subst Ze;apply Zf;intro b1 Ze;apply Zb;intro b2 Zp;simp[l2,Wo,Wv Ya];subst Zp;by_cases hB:B=0;·refine Za (t:=true) (by simp[hB]) ?_;apply Zb;intro b2 Zp;simp;subst Zp;apply Zq;simp[Yq];exact⟨k2,.inl ⟨hB,rfl⟩⟩
 ·refine Za (t:=false) (by simp[hB]) ?_;apply Zn;subst Ze;have MS:0<B:=by omega
  obtain⟨q,r,H3,c3,k3,oq,tS,apq⟩:=PV o1 o2.sl k2.n lA lB MS;have lq:(ds Zd (A/B)).length<=WM:=Nat.le_trans (UR Ya (Nat.div_le_self A B)) lA;have c4:=X6 oq.sl lq;apply Zb;intro b1 Ze;simp[c3];subst Ze;apply Zf;intro b1 Ze;apply Zb;intro b2 Zp;simp[c4,PJ];subst Zp;by_cases h1:67108864<Zo (A/B);·refine Za (t:=true) (by simp[h1]) ?_;apply Zb;intro b2 Zp;simp;subst Zp;apply Zq;simp[Yq];exact⟨k2.trans k3,.inr (.inl ⟨MS,h1,rfl⟩)⟩
  ·refine Za (t:=false) (by simp[h1]) ?_;apply Zn;subst Ze;apply Zb;intro b2 Zp;simp;subst Zp;apply Zq;simp;exact⟨k2.trans k3,.inr (.inr ⟨MS,by omega,q,rfl,oq.mono k2.n (.refl _)⟩)⟩
theorem gf(ha:Sl H va xs)(hb:Sl H vb ys)(dx:YC Zd xs)(dy:YC Zd ys)(lx:xs.length<=WM)(ly:ys.length<=WM):CW Tryz.prog Zu 139 [va,vb] H fun v H'=>Zg H H'/\Yo H.n H' v (ds Zd (Nat.gcd (dv Zd xs) (dv Zd ys))):=by
 refine Z2 23 Tryz.func139 ?_;obtain⟨v1,v2,H1,H2,c1,c2,k2,o1,o2,ap⟩:=Mt ha hb dx dy lx ly;have lA:=Nat.le_trans (VD dx) lx;have lB:=Nat.le_trans (VD dy) ly;generalize dv Zd xs=A at*;generalize dv Zd ys=B at*;apply Zb;intro b1 Ze;simp;subst Ze;apply Zb;intro b1 Ze;simp[c1,c2];subst Ze;apply Zf;intro b1 Ze;apply Zz;refine YU (fun m s'=>s'.k=23/\Zg H s'.H/\ ∃(a:Nat) (av bv:Value),Nat.gcd a m=Nat.gcd A B/\(ds Zd a).length<=WM/\(ds Zd m).length<=WM/\Yo H.n s'.H av (ds Zd a)/\Yo H.n s'.H bv (ds Zd m)/\s'.tm.get 0=some av/\s'.tm.get 1=some bv) ?_ B _ ⟨rfl,k2,A,v1,v2,rfl,lA,lB,o1,o2,by simp,by simp⟩;rintro m ⟨k,tm,H3⟩ ⟨hk,k3,a,av,bv,hg,la,lm,oa,ob,t0,t1⟩ Q' Y0;simp only at hk k3 oa ob t0 t1;subst hk;have lb:=ob.sl.len Zv;apply Zf;intro b3 Z3;apply Zb;intro b4 Yx;simp[t1,lb,JX,Vq Ya];subst Yx;by_cases hm:0<m;·refine Za (t:=true) (by simp[hm]) ?_;apply Zn;subst Z3;obtain⟨q,r,H4,c4,k4,oq,tS,apq⟩:=PV oa ob.sl k3.n la lm hm;apply Zz;apply Zb;intro b3 Z3;simp[t0,t1,c4];subst Z3;apply Zh;simp[t1];apply Y0;refine⟨a%m,Nat.mod_lt _ hm,rfl,k3.trans k4,m,bv,r,?_,lm,Nat.le_trans (UR Ya (Nat.mod_le a m)) la,ob.m k4,tS,by simp,by simp⟩;show Nat.gcd m (a%m)=_;rw[<-hg,Nat.gcd_comm a m,Nat.gcd_rec m a,Nat.gcd_comm]
 ·refine Za (t:=false) (by simp[hm]) ?_;apply YQ;apply Y0;left;refine⟨rfl,?_⟩;obtain rfl:m=0:=by omega
  rw[Nat.gcd_zero_right]at hg;subst Ze;apply Zb;intro b4 Yx;simp[t0];subst Yx;apply Zq;simp;rw[<-hg];exact⟨k3,oa⟩
end
theorem Sl.part'{H:AH}{v:Value}{xs:List Nat}(h:Sl H v xs){t:TypeId}(ht:LT t){j m:Nat}(hm:j+m<=xs.length)(h0:j<xs.length): ∃w,Vy Tryz.prog H t v (some (.int .i64 (j:Int))) (some (.int .i64 ((j+m:Nat):Int))) none=some w/\Sl H w ((xs.drop j).take m)/\Yw w=Yw v:=by cases h with
 |nil=>simp at h0
 |emp b=>simp at h0
 |mk b o cap xs h1 h2=>
  have hl:((xs.drop j).take m).length=m:=by rw[List.length_take,List.length_drop];omega
  obtain⟨lJ,cs,h3,h4,h5⟩:=h2;refine⟨.slice (some ⟨b,o+j,none⟩) ((xs.drop j).take m).length (cap-j),?_,.mk b (o+j) (cap-j) _ (by omega) ⟨lJ,cs,h3,h4,fun i x hx=>?_,by have:=(List.getElem?_eq_some_iff.mp (h5.1 j _ (List.getElem?_eq_getElem h0))).1;omega⟩,rfl⟩
  ·unfold Vy;simp only[ht.1,MX];unfold IV Xq;simp only[h4,Option.isSome_some,Option.isNone_none,Bool.true_or];rw[if_pos (by omega)];have e1:Nat.ble (j+m) cap=true:=Nat.ble_eq.mpr (by omega);have e2:Nat.blt j cap=true:=by rw[Nat.blt_eq];omega
   simp only[Xq,Int.toNat_natCast];rw[if_pos (by omega)];simp[e1,e2,hl]
  ·rw[List.getElem?_take]at hx;split at hx;·rw[List.getElem?_drop]at hx;have:=h5.1 (j+i) x hx;rwa[<-Nat.add_assoc]at this
   ·cases hx
theorem MH(B:Nat): ∀(xs:List Nat)(i y:Nat)(h:i<xs.length),dv B (xs.set i y)+B^i*xs[i]=dv B xs+B^i*y
 |x::xs,0,y,_=>by simp[dv];omega
 |x::xs,i+1,y,h=>by
  have h':i<xs.length:=by simpa using h
  have ih:=MH B xs i y h';simp only[List.set_cons_succ,dv,List.getElem_cons_succ,Nat.pow_succ];have e:B*(dv B (xs.set i y)+B^i*xs[i])=B*(dv B xs+B^i*y):=by rw[ih]
  rw[Nat.mul_add,Nat.mul_add]at e;rw[Nat.mul_comm (B^i) B,Nat.mul_assoc,Nat.mul_assoc];omega
theorem YC.set{B:Nat}{xs:List Nat}(h:YC B xs){i y:Nat}(hy:y<B):YC B (xs.set i y):=fun x hx=>by
 rcases List.mem_or_eq_of_mem_set hx with h'|h';·exact h x h'
 ·rw[h'];exact hy
theorem Jo{B:Nat} : ∀{xs:List Nat},(∀x∈xs,x=0)->dv B xs=0|[],_=>rfl|x::xs,h=>by simp only[dv];rw[h x (List.mem_cons_self ..),Jo fun y hy=>h y (List.mem_cons_of_mem _ hy)];simp
theorem KF{xs:List Nat}{i j y:Nat}(h:i≠j):nth (xs.set i y) j=nth xs j:=by unfold nth;rw[List.getElem?_set,if_neg h]
theorem Sl.partAny{H:AH}{v:Value}{xs:List Nat}(h:Sl H v xs){t:TypeId}(ht:LT t){f m:Nat}(hm:f+m<=xs.length)(h0:0<xs.length): ∃w,Vy Tryz.prog H t v (some (.int .i64 (f:Int))) (some (.int .i64 ((f+m:Nat):Int))) none=some w/\Sl H w ((xs.drop f).take m):=by
 by_cases hf:f<xs.length;·obtain⟨w,h1,h2,_⟩:=h.part' ht hm hf;exact⟨w,h1,h2⟩
 ·have mu:f=xs.length:=by omega
  have M3:m=0:=by omega
  subst M3;rw[List.take_zero];cases h with
   |nil=>simp at h0
   |emp b=>simp at h0
   |mk b o cap xs h1 h2=>
    obtain⟨lJ,cs,h3,h4,h5⟩:=h2;by_cases hc:f<cap
    ·refine⟨.slice (some ⟨b,o+f,none⟩) 0 (cap-f),?_,.mk b (o+f) (cap-f) [] (Nat.zero_le _) ⟨lJ,cs,h3,h4,fun i x hx=>by simp at hx,by have:=(Fs h0 h5.1).1;omega⟩⟩;unfold Vy;simp only[ht.1,MX];unfold IV Xq;simp only[h4,Option.isSome_some,Option.isNone_none,Bool.true_or];rw[if_pos (by omega)];have e1:Nat.ble f cap=true:=Nat.ble_eq.mpr (by omega);have e2:Nat.blt f cap=true:=by rw[Nat.blt_eq];omega
     simp only[Xq,Int.toNat_natCast];rw[if_pos (by omega)];simp[e1,e2]
    ·refine⟨.slice (some ⟨b,0,some 0⟩) 0 0,?_,.emp b⟩;unfold Vy;simp only[ht.1,MX];unfold IV Xq;simp only[h4,Option.isSome_some,Option.isNone_none,Bool.true_or];rw[if_pos (by omega)];have e1:Nat.ble f cap=true:=Nat.ble_eq.mpr (by omega);have e2:Nat.blt f cap=false:=by cases hb:Nat.blt f cap with|false=>rfl|true=>rw[Nat.blt_eq]at hb;omega
     have e3:Nat.beq f 0=false:=Xj (by omega);simp only[Xq,Int.toNat_natCast];rw[if_pos (by omega)];simp[e1,e2,e3]
theorem Yo.copy{n:Nat}{H:AH}{v w:Value}{zs xs:List Nat}(h:Yo n H v zs)(hw:Sl H w xs)(hl:xs.length<=zs.length){t t2:TypeId}(ht:LT t)(ij:LT t2): ∃u H',copyV Tryz.prog H t t2 v w=some (u,H')/\Yo n H' v (xs++zs.drop xs.length)/\TF (Yw v) H H'/\KA n H H':=by
 have hc:XL H 1 w xs.length=some (xs.map Uq):=by
  rcases Nat.eq_zero_or_pos xs.length with h0|h0;·obtain rfl:xs=[]:=List.length_eq_zero_iff.mp h0;generalize hz:([]:List Nat)=ys at hw;cases hw with|nil=>rfl|emp b=>rfl|mk b o cap xs h1 h2=>subst hz;obtain⟨_,cs,h3,h4,h5⟩:=h2;have:Nat.ble o cs.length=true:=Nat.ble_eq.mpr h5.2;simp[XL,AH.read_def,h3,this]
  ·exact hw.cells h0
 obtain⟨a2,cap2,rfl⟩: ∃a cap,w= .slice a xs.length cap:=by cases hw<;>exact⟨_,_,rfl⟩
 cases h with
  |nil=>obtain rfl:xs=[]:=List.length_eq_zero_iff.mp (by simpa using hl);refine⟨.int .i64 0,H,?_,by simpa using Yo.nil,.refl _ _,.refl _ _⟩;simp[copyV,ht.2,ij.2]
  |mk b o cap zs cs h1 h2 h3 h4 h5 h6=>
   have hmin:Nat.min xs.length zs.length=xs.length:=Nat.min_eq_left hl;have hle:Nat.ble (o+xs.length) cs.length=true:=Nat.ble_eq.mpr (by omega);have qe:H.write b o (xs.map Uq)=some { n:=H.n,lw:=min H.lw b,t:=H.t.set b (.rw 1 (cs.take o++xs.map Uq++cs.drop (o+xs.length))) } :=by rw[AH.write_def,h4];simp only[List.length_map,hle,cY,Bool.and_self,cond_true]
   obtain⟨H',hH'⟩: ∃H':AH,H'= { n:=H.n,lw:=min H.lw b,t:=H.t.set b (.rw 1 (cs.take o++xs.map Uq++cs.drop (o+xs.length))) } :=⟨_,rfl⟩;rw[<-hH']at qe;have W3: ∀j,H'.blk j=if j=b then .rw 1 (cs.take o++xs.map Uq++cs.drop (o+xs.length))else H.blk j:=fun j=>by
    rw[hH'];show(match(H.t.set b _).get j with|some b=>b|none=>OT.dead)=_;rw[Tr.get_set];by_cases e:j=b;·rw[if_pos e,if_pos e]
    ·rw[if_neg e,if_neg e];rfl
   have hn:H'.n=H.n:=by rw[hH']
   refine⟨.int .i64 (Nat.min xs.length zs.length),H',?_,?_,⟨hn,fun j _ hj=>?_⟩,?_⟩;·unfold copyV;simp only[ht.2,ij.2,hmin,hc,qe]
   ·have hlen:(xs++zs.drop xs.length).length=zs.length:=by simp;omega
    rw[<-hlen];refine .mk b o cap _ (cs.take o++xs.map Uq++cs.drop (o+xs.length)) (by omega) h2 (by rw[hn];exact h3) (by rw[W3,if_pos rfl]) ?_ ?_;·simp only[List.length_append,List.length_take,List.length_drop,List.length_map];omega
    ·intro i x hi;rw[List.append_assoc,List.getElem?_append_right (by rw[List.length_take];omega),List.length_take,show o+i-min o cs.length=i by omega];rw[List.getElem?_append]at hi;rw[List.getElem?_append,List.length_map];by_cases hix:i<xs.length;·rw[if_pos hix]at hi⊢;rw[List.getElem?_map,hi];rfl
     ·rw[if_neg hix]at hi⊢;rw[List.getElem?_drop]at hi⊢;have:=h6 _ x hi;rw[show o+xs.length+(i-xs.length)=o+(xs.length+(i-xs.length)) by omega];exact this
   ·rw[W3,if_neg (fun e=>hj (by rw[e];rfl))]
   ·intro H0 k Qi;have:=k.lw;refine⟨by rw[hn];exact k.n,by rw[hH'];show min H0.lw H0.n<=min H.lw b;omega,fun j hj=>?_⟩;rw[W3,if_neg (by omega)];exact k.blk j hj
theorem ax(a b:Nat):TW false [.int .i64 (a:Int),.int .i64 (b:Int)]=some (.int .i64 ((min a b:Nat):Int)):=by
 unfold TW;simp only[sameKind];show some (Value.int .i64 (if(b:Int)<(a:Int)then(b:Int)else(a:Int)))=_;by_cases h:b<a;·rw[if_pos (by omega),Nat.min_eq_right (by omega)]
 ·rw[if_neg (by omega),Nat.min_eq_left (by omega)]
theorem mA(a b:Nat):TW true [.int .i64 (a:Int),.int .i64 (b:Int)]=some (.int .i64 ((max a b:Nat):Int)):=by
 unfold TW;simp only[sameKind];show some (Value.int .i64 (if(a:Int)<(b:Int)then(b:Int)else(a:Int)))=_;by_cases h:a<b;·rw[if_pos (by omega),Nat.max_eq_right (by omega)]
 ·rw[if_neg (by omega),Nat.max_eq_left (by omega)]
theorem Yo.fillAt{n:Nat}{H:AH}{v:Value}{L zs:List Nat}{i:Nat}(h:Yo n H v (L++zs.drop i))(hL:L.length=i)(hi:i<zs.length)(y:Nat): ∃H',YX Tryz.prog H 101 (adr v i) (.int .u64 (y:Int))=some H'/\Yo n H' v ((L++[y])++zs.drop (i+1))/\TF (Yw v) H H'/\KA n H H':=by obtain⟨H',h1,h2,h3,h4,h5⟩:=h.put (i:=i) (by simp;omega) y;refine⟨H',h1,?_,⟨h3,fun j _ hj=>h4 j hj⟩,h5⟩;rw[List.drop_eq_getElem_cons hi,Vd _ _ _ _ hL]at h2;simpa using h2
theorem Yo.loadAt{n:Nat}{H:AH}{v:Value}{L zs:List Nat}{i:Nat}(h:Yo n H v (L++zs.drop i))(hL:L.length=i)(hi:i<zs.length):Z9 Tryz.prog H 101 (adr v i)=some (.int .u64 (nth zs i:Int)):=by have:=h.sl.load (i:=i) (by simp;omega);rw[this,XF hi];congr 3;rw[List.getElem_append_right (by omega)];simp[hL]
def RK(xs:List Nat)(f t:Nat):List Nat:=YT ((xs.drop (min f xs.length)).take (min t xs.length-min f xs.length))
theorem cS{H:AH}{v:Value}{xs:List Nat}(hv:Sl H v xs)(h0:0<xs.length)(lx:xs.length<=17592186044416){f t:Nat}(hft:f<=t):CW Tryz.prog Zu 225 [v,.int .i64 (f:Int),.int .i64 (t:Int)] H fun v' H'=>H'=H/\Sl H v' (RK xs f t):=by
 refine Z2 32 Tryz.func225 ?_;have l1:=hv.len Zv;obtain⟨f',rI⟩: ∃f',f'=min f xs.length:=⟨_,rfl⟩;obtain⟨t',Bw⟩: ∃t',t'=min t xs.length:=⟨_,rfl⟩;have m1:=ax f xs.length;have m2:=ax t xs.length;rw[<-rI]at m1;rw[<-Bw]at m2;have hle:f'<=t':=by omega
 have htl:t'<=xs.length:=by omega
 unfold RK;rw[<-rI,<-Bw];apply Zb;intro b1 Ze;simp;subst Ze;apply Zb;intro b1 Ze;simp[l1,m1,m2];subst Ze;apply Zf;intro b1 Ze;apply Zz;refine YU (fun m s=>s.k=32/\s.H=H/\f'+m<=t'/\YT ((xs.drop f').take m)=YT ((xs.drop f').take (t'-f'))/\s.tm.get 0=some v/\s.tm.get 1=some (.int .i64 (f':Int))/\s.tm.get 2=some (.int .i64 ((f'+m:Nat):Int))) ?_ (t'-f') _ ⟨rfl,rfl,by omega,rfl,by simp,by simp,by simp;omega⟩;rintro m ⟨k,tm,H'⟩ ⟨hk,hH,hm,ht,t0,t1,t2⟩ Q' Y0;simp only at hk hH t0 t1 t2;subst hk;subst hH;apply Zf;intro b2 Zp;apply Zb;intro b3 Z3;have fin: ∀Xb:Tr Value,Xb.get 0=some v->Xb.get 1=some (.int .i64 (f':Int))->Xb.get 2=some (.int .i64 ((f'+m:Nat):Int))->YT ((xs.drop f').take m)=(xs.drop f').take m->Q' (.exit 0) ⟨32,Xb,H'⟩:=fun Xb t0 t1 t2 he=>by apply Y0;left;refine⟨rfl,?_⟩;subst Ze;obtain⟨w,c1,c2⟩:=hv.partAny Zv (f:=f') (m:=m) (by omega) h0;apply Zb;intro b4 Yx;simp[t0,t1,t2,c1];subst Yx;apply Zq;simp;rw[<-ht,he];exact c2
 by_cases hz:m=0
 ·have g0:Zc .gtr .i64 ((f'+m:Nat):Int) (f':Int)=some (.bool false):=by rw[Vs,decide_eq_false];omega
  simp[t1,t2,g0];subst Z3;refine Za (t:=false) (by simp) ?_;apply YQ;exact fin _ (by simp[t0]) (by simp[t1]) (by simp[t2]) (by rw[hz];rfl)
 ·have g0:Zc .gtr .i64 ((f'+m:Nat):Int) (f':Int)=some (.bool true):=by rw[Vs,decide_eq_true];omega
  have hi:f'+m-1<xs.length:=by omega
  have a1:=hv.adr Zv (k:= .i64) hi;have d1:=hv.load hi;have PE:(xs.drop f').take m=(xs.drop f').take (m-1)++[xs[f'+m-1]]:=by have:=Xm (xs:=xs.drop f') (i:=m-1) (by rw[List.length_drop];omega);rw[show m-1+1=m by omega]at this;rw[this,List.getElem_drop];congr 3;omega
  have s1:Zc .sub .i64 ((f'+m:Nat):Int) 1=some (.int .i64 ((f'+m-1:Nat):Int)):=Ut (by omega) (by omega);simp[t0,t1,t2,g0,s1,a1,d1,Wo];subst Z3;by_cases h0:xs[f'+m-1]=0;·refine Za (t:=true) (by simp[h0]) ?_;apply Zn;subst Zp;apply Zz;apply Zh;simp[t2,s1];apply Y0;refine⟨m-1,by omega,rfl,rfl,by show f'+(m-1)<=t';omega,?_,by simp[t0],by simp[t1],by simp;omega⟩;rw[<-ht,PE,h0,V6]
  ·refine Za (t:=false) (by simp[h0]) ?_;apply YQ;exact fin _ (by simp[t0]) (by simp[t1]) (by simp[t2]) (by rw[PE];exact SC _ _ h0)
theorem To{n0:Nat}{H:AH}{va vb:Value}{zs ys:List Nat}{a:Nat}(ha:Yo n0 H va zs)(hb:Sl H vb ys)(ap:Vz va vb)(dz:YC Zd zs)(dy:YC Zd ys)(lz:zs.length<=17592186044416)(ly:ys.length<=17592186044416)(haz:a<=zs.length)(room:dv Zd zs+Zd^a*dv Zd ys<Zd^zs.length):CW Tryz.prog Zu 224 [va,vb,.int .i64 (a:Int)] H fun v' H'=>TF (Yw va) H H'/\KA n0 H H'/\ ∃zs',zs'.length=zs.length/\YC Zd zs'/\dv Zd zs'=dv Zd zs+Zd^a*dv Zd ys/\Yo n0 H' va zs':=by
 refine Z2 53 Tryz.func224 ?_;have l2:=hb.len Zv;apply Zb;intro b1 Ze;simp;subst Ze;apply Zb;intro b1 Ze;simp;subst Ze;apply Zz;refine YU (fun m s=>s.k=53/\TF (Yw va) H s.H/\KA n0 H s.H/\ ∃(i c:Nat) (L:List Nat),m+i=zs.length/\a<=i/\L.length=i/\c<=1/\YC Zd L/\dv Zd L+Zd^i*c=dv Zd (zs.take i)+Zd^a*dv Zd (ys.take (i-a))/\Yo n0 s.H va (L++zs.drop i)/\s.tm.get 0=some va/\s.tm.get 1=some vb/\s.tm.get 2=some (.int .i64 (a:Int))/\s.tm.get 6=some (.int .u64 (c:Int))/\s.tm.get 7=some (.int .i64 (i:Int))) ?_ (zs.length-a) _ ⟨rfl,.refl _ _,.refl _ _,a,0,zs.take a,by omega,Nat.le_refl _,by rw[List.length_take];omega,by omega,dz.take a,by simp[dv],by rw[List.take_append_drop];exact ha,by simp,by simp,by simp,by simp,by simp⟩;rintro m ⟨k,tm,H2⟩ ⟨hk,bt,ka,i,c,L,M5,hai,hL,hc,dL,heq,own,t0,t1,t2,t6,t7⟩ Q' Y0;simp only at hk bt ka own t0 t1 t2 t6 t7;subst hk;have sb:=hb.but bt ap;have l1:=own.sl.len Zv;rw[show(L++zs.drop i).length=zs.length by simp;omega]at l1;have s1:Zc .sub .i64 (i:Int) (a:Int)=some (.int .i64 ((i-a:Nat):Int)):=KB (by omega) hai;apply Zf;intro b2 Zp;apply Zb;intro b3 Z3;have on: ∀Xb:Tr Value,i<zs.length->Xb.get 25=some (.bool true)->Xb.get 0=some va->Xb.get 1=some vb->Xb.get 2=some (.int .i64 (a:Int))->Xb.get 6=some (.int .u64 (c:Int))->Xb.get 7=some (.int .i64 (i:Int))->W Tryz.prog Zu b3 ⟨53,Xb,H2⟩ (Yq Tryz.prog Zu b2 Q'):=fun Xb hi t25 t0 t1 t2 t6 t7=>by
  subst Z3;refine Za (t:=true) (by simp[t25]) ?_;apply Zn;subst Zp;obtain⟨y,hy⟩:=hid (nth ys (i-a));have bK:y<Zd:=by rw[hy];exact Tc dy (by decide) _
  obtain⟨x,hx⟩:=hid (nth zs i);have CT:x<Zd:=by rw[hx];exact Tc dz (by decide) _
  have d0:=own.loadAt hL hi;rw[<-hx]at d0;have a0:=own.sl.adr Zv (k:= .i64) (i:=i) (by simp;omega);obtain⟨z,hz⟩:=hid ((x+y+c)%Zd);obtain⟨c',LQ⟩: ∃c',c'=(x+y+c)/Zd:=⟨_,rfl⟩;have hzc:Zd*c'+z=x+y+c:=by rw[hz,LQ];exact Nat.div_add_mod _ _
  have Bx:z<Zd:=by rw[hz];exact Nat.mod_lt _ (by decide)
  have N7:c'<=1:=by
   have:c'<2:=by rw[LQ,Nat.div_lt_iff_lt_mul (by decide)];omega
   omega
  have ac:Zy Tryz.prog Zu 203 [.int .u64 (x:Int),.int .u64 (y:Int),.int .u64 (c:Int)] H2=some (.tuple #[.int .u64 (z:Int),.int .u64 (c':Int)],H2):=by rw[hz,LQ];exact Qm x y c H2 hc
  obtain⟨H3,S5,RN,uX,M6⟩:=own.fillAt hL hi z;apply Zf;intro b2 Zp;apply Zz;apply Zb;intro b3 Z3;simp;subst Z3;refine Xe (fun s'=>s'.k=53/\s'.H=H2/\s'.tm.get 0=some va/\s'.tm.get 1=some vb/\s'.tm.get 2=some (.int .i64 (a:Int))/\s'.tm.get 6=some (.int .u64 (c:Int))/\s'.tm.get 7=some (.int .i64 (i:Int))/\s'.tm.get 8=some (.int .u64 (y:Int))) ?_ ?_
  ·intro IY XG;apply Zb;intro b3 Z3;simp[t1,t2,t7,s1,l2];subst Z3;by_cases WO:i-a<ys.length;·refine Za (t:=true) (by simp[WO]) ?_;have a1:=sb.adr Zv (k:= .i64) WO;have d1:=sb.load WO;rw[<-XF WO,<-hy]at d1;apply Zh;simp[t1,t2,t7,s1,a1,d1];apply XG;exact⟨rfl,rfl,by simp[t0],by simp[t1],by simp[t2],by simp[t6],by simp[t7],by simp⟩
   ·refine Za (t:=false) (by simp[WO]) ?_;apply Zn;apply XG;rw[Uf (by omega)]at hy;subst hy;exact⟨rfl,rfl,by simp[t0],by simp[t1],by simp[t2],by simp[t6],by simp[t7],by simp⟩
  clear t0 t1 t2 t6 t7;rintro⟨k,tm,H4⟩ ⟨hk,hH,t0,t1,t2,t6,t7,t8⟩;simp only at hk hH t0 t1 t2 t6 t7 t8;subst hk;subst hH;apply Zh;simp[t0,t6,t7,t8,a0,d0,ac,S5];subst Zp;apply Zh;simp[t7,YO (x:=i) (by omega)];apply Y0;refine⟨m-1,by omega,rfl,bt.trans uX,ka.trans M6,i+1,c',L++[z],by omega,by omega,by simp[hL],N7,dL.append (.cons Bx (.nil _)),?_,RN,by simp[t0],by simp[t1],by simp[t2],by simp,by simp⟩;rw[Yr,hL,XW,show i+1-a=(i-a)+1 by omega,XW,<-hx,<-hy];simp only[dv,Nat.mul_zero,Nat.add_zero];have e1:Zd^i*(Zd*c'+z)=Zd^i*(x+y+c):=by rw[hzc]
  rw[Nat.mul_add,<-Nat.mul_assoc,show Zd^i*Zd=Zd^(i+1)from rfl,Nat.mul_add,Nat.mul_add]at e1;have e2:Zd^a*(Zd^(i-a)*y)=Zd^i*y:=by rw[<-Nat.mul_assoc,<-Nat.pow_add,show a+(i-a)=i by omega]
  rw[Nat.mul_add (Zd^a),e2];omega
 have stop: ∀Xb:Tr Value,(i=zs.length\/(ys.length<=i-a/\c=0))->Xb.get 25=some (.bool false)->W Tryz.prog Zu b3 ⟨53,Xb,H2⟩ (Yq Tryz.prog Zu b2 Q'):=fun Xb he t25=>by
  subst Z3;refine Za (t:=false) (by simp[t25]) ?_;apply YQ;apply Y0;left;refine⟨rfl,.inl rfl,bt,ka,L++zs.drop i,by simp;omega,dL.append (dz.drop _),?_,own⟩;have e1:=Sz Zd zs i (by omega);rw[Yr,hL];rcases he with rfl|⟨hy,rfl⟩
  ·rw[List.drop_length,List.take_length]at*;simp only[dv,Nat.mul_zero,Nat.add_zero]at*;have hys:dv Zd ys<Zd^(zs.length-a):=by
    have h1:Zd^a*dv Zd ys<Zd^a*Zd^(zs.length-a):=by rw[<-Nat.pow_add,show a+(zs.length-a)=zs.length by omega];omega
    exact Nat.lt_of_mul_lt_mul_left h1
   rw[PU (by decide) hys]at heq;rcases Nat.lt_or_ge c 1 with h0|h0
   ·obtain rfl:c=0:=by omega
    rw[Nat.mul_zero]at heq;omega
   ·obtain rfl:c=1:=by omega
    rw[Nat.mul_one]at heq;omega
  ·rw[List.take_of_length_le hy]at heq;rw[Nat.mul_zero]at heq;omega
 by_cases hi:i<zs.length
 ·by_cases hy:i-a<ys.length;·simp[t0,t1,t2,t6,t7,l1,l2,hi,s1,hy];show W _ _ b3 _ _;exact on _ hi (by simp) (by simp[t0]) (by simp[t1]) (by simp[t2]) (by simp[t6]) (by simp[t7])
  ·by_cases NS:0<c;·simp[t0,t1,t2,t6,t7,l1,l2,hi,s1,hy,JX,NS];show W _ _ b3 _ _;exact on _ hi (by simp) (by simp[t0]) (by simp[t1]) (by simp[t2]) (by simp[t6]) (by simp[t7])
   ·simp[t0,t1,t2,t6,t7,l1,l2,hi,s1,hy,JX,NS];show W _ _ b3 _ _;exact stop _ (.inr ⟨by omega,by omega⟩) (by simp)
 ·simp[t0,t1,t2,t6,t7,l1,l2,hi];show W _ _ b3 _ _;exact stop _ (.inl (by omega)) (by simp)
def kS(n0:Nat)(H':AH)(v:Value)(len N:Nat):Prop:= ∃zs,zs.length=len/\YC Zd zs/\dv Zd zs=N/\Yo n0 H' v zs
section
variable {H : AH} {va vb : Value} {xs ys : List Nat}
theorem Pc(xs:List Nat)(n:Nat):dv Zd (xs++List.replicate n 0)=dv Zd xs:=by rw[Yr,U5,Nat.mul_zero,Nat.add_zero]
theorem Sy{B:Nat}(hB:0<B)(n:Nat):YC B (List.replicate n 0):=fun x hx=>by rw[List.eq_of_mem_replicate hx];exact hB
theorem Cl(ha:Sl H va xs)(hb:Sl H vb ys)(dx:YC Zd xs)(dy:YC Zd ys)(lx:xs.length<=17592186000000)(ly:ys.length<=17592186000000):CW Tryz.prog Zu 227 [va,vb] H fun v H'=>Zg H H'/\kS H.n H' v (max xs.length ys.length+1) (dv Zd xs+dv Zd ys):=by
 refine Z2 20 Tryz.func227 ?_;have l1:=ha.len Zv;have l2:=hb.len Zv;obtain⟨n,hn⟩:=hid (max xs.length ys.length);have mx:=mA xs.length ys.length;rw[<-hn]at mx⊢;obtain⟨c0,H1,QV,k1,o1,n1⟩:=YG (H:=H) Zv (n:=n+1) (by omega);obtain⟨u,H2,mq,o2,bt2,ks⟩:=o1.copy (ha.keep k1) (by simp;omega) Zv Zv;have k2:Zg H H2:=ks H k1 (Nat.le_refl _);rw[List.drop_replicate]at o2;have apc:Vz c0 vb:=fun c hc LQ=>by have a:=(o1.blk_lo hc).1;have b:=hb.blk_lt LQ;omega
 have hlen:(xs++List.replicate (n+1-xs.length) 0).length=n+1:=by simp;omega
 obtain⟨w,H3,ya,uX,M6,zs,lz,dz,vz,oz⟩:=To (a:=0) o2 ((hb.keep k1).but bt2 apc) apc (dx.append (Sy (by decide) _)) dy (by omega) (by omega) (Nat.zero_le _) (by rw[hlen,Pc,Nat.pow_zero,Nat.one_mul];have h1:=Ww dx;have h2:=Ww dy;have h3:Zd^xs.length<=Zd^n:=Nat.pow_le_pow_right (by decide) (by omega);have h4:Zd^ys.length<=Zd^n:=Nat.pow_le_pow_right (by decide) (by omega);have h5:Zd^(n+1)=Zd^n*18446744073709551616:=rfl;omega);rw[hlen]at lz;rw[Pc,Nat.pow_zero,Nat.one_mul]at vz;have ya:Zy Tryz.prog Zu 224 [c0,vb,.int .i64 0] H2=some (w,H3):=ya;apply Zb;intro b1 Ze;simp;subst Ze;apply Zb;intro b1 Ze;simp[l1,l2,mx,YO (x:=n) (by omega),QV];subst Ze;apply Zb;intro b1 Ze;simp[mq];subst Ze;apply Zb;intro b1 Ze;simp[ya];subst Ze;apply Zb;intro b1 Ze;simp;subst Ze;apply Zq;simp;exact⟨M6 H k2 (Nat.le_refl _),zs,lz,dz,vz,oz⟩
theorem Ga(ha:Sl H va xs)(hb:Sl H vb ys)(dx:YC Zd xs)(dy:YC Zd ys)(lx:xs.length<=17592186000000)(ly:ys.length<=17592186000000)(hle:dv Zd ys<=dv Zd xs):CW Tryz.prog Zu 226 [va,vb] H fun v H'=>Zg H H'/\kS H.n H' v xs.length (dv Zd xs-dv Zd ys):=by
 refine Z2 43 Tryz.func226 ?_;have l1:=ha.len Zv;have l2:=hb.len Zv;obtain⟨n,hn⟩:=hid (xs.length);rw[<-hn]at l1⊢;obtain⟨c0,H1,QV,k1,o1,n1⟩:=YG (H:=H) Zv (n:=n) (by omega);obtain⟨u,H2,mq,o2,bt2,ks⟩:=o1.copy (ha.keep k1) (by simp;omega) Zv Zv;have k2:Zg H H2:=ks H k1 (Nat.le_refl _);rw[List.drop_replicate,hn,Nat.sub_self,List.replicate_zero,List.append_nil]at o2;have l0:=o2.sl.len Zv;rw[<-hn]at l0;apply Zb;intro b1 Ze;simp;subst Ze;apply Zb;intro b1 Ze;simp[l1,QV];subst Ze;apply Zb;intro b1 Ze;simp[mq];subst Ze;apply Zb;intro b1 Ze;simp;subst Ze;apply Zf;intro b1 Ze;apply Zb;intro b2 Zp;simp[l0];subst Zp;apply Zz;refine YU (fun m s'=>s'.k=43/\Zg H s'.H/\ ∃(i SU:Nat) (L:List Nat),m+i=n/\L.length=i/\SU<=1/\YC Zd L/\dv Zd L+dv Zd (ys.take i)=dv Zd (xs.take i)+Zd^i*SU/\Yo H.n s'.H c0 (L++xs.drop i)/\s'.tm.get 1=some vb/\s'.tm.get 5=some c0/\s'.tm.get 6=some (.int .u64 (SU:Int))/\s'.tm.get 16=some (.int .i64 (n:Int))/\s'.tm.get 17=some (.int .i64 (i:Int))) ?_ n _ ⟨rfl,k2,0,0,[],by omega,rfl,by omega,.nil _,by simp[dv],by simpa using o2,by simp,by simp,by simp,by simp,by simp⟩;rintro m ⟨k,tm,H3⟩ ⟨hk,kH,i,SU,L,M5,hL,hbr,dL,heq,own,t1,t5,t6,t16,t17⟩ Q' Y0;simp only at hk kH own t1 t5 t6 t16 t17;subst hk;apply Zb;intro b3 Z3;simp[t16,t17];subst Z3;apply Zf;intro b3 Z3;by_cases hi:i<n
 ·refine Za (t:=true) (by simp[hi]) ?_;apply Zn;subst Z3;have UB:i<xs.length:=by omega
  have sb:=hb.keep kH;obtain⟨y,hy⟩:=hid (nth ys i);have bK:y<Zd:=by rw[hy];exact Tc dy (by decide) _
  obtain⟨x,hx⟩:=hid (nth xs i);have CT:x<Zd:=by rw[hx];exact Tc dx (by decide) _
  have d0:=own.loadAt hL UB;rw[<-hx]at d0;have a0:=own.sl.adr Zv (k:= .i64) (i:=i) (by simp;omega);obtain⟨z,hz⟩:=hid ((x+Zd-y-SU)%Zd);obtain⟨b',WO⟩: ∃b',b'=(if x<y+SU then 1 else 0):=⟨_,rfl⟩;have Bx:z<Zd:=by rw[hz];exact Nat.mod_lt _ (by decide)
  have MB:b'<=1:=by rw[WO];split<;>omega
  have Rb:z+y+SU=x+Zd*b':=by
   by_cases h:x<y+SU;·rw[hz,WO,if_pos h,Nat.mod_eq_of_lt (by omega)];omega
   ·rw[hz,WO,if_neg h];have:x+Zd-y-SU=(x-y-SU)+Zd:=by omega
    rw[this,Nat.add_mod_right,Nat.mod_eq_of_lt (by omega)];omega
  have sc:Zy Tryz.prog Zu 206 [.int .u64 (x:Int),.int .u64 (y:Int),.int .u64 (SU:Int)] H3=some (.tuple #[.int .u64 (z:Int),.int .u64 (b':Int)],H3):=by rw[hz,WO];exact Q4 x y SU H3 hbr
  obtain⟨H4,WW,VM,qD,VO⟩:=own.fillAt hL UB z;apply Zf;intro b3 Z3;apply Zz;apply Zb;intro b4 Yx;simp[t17];subst Yx;apply Zb;intro b4 Yx;simp;subst Yx;refine Xe (fun s'=>s'.k=43/\s'.H=H3/\s'.tm.get 1=some vb/\s'.tm.get 5=some c0/\s'.tm.get 6=some (.int .u64 (SU:Int))/\s'.tm.get 7=some (.int .i64 (i:Int))/\s'.tm.get 8=some (.int .u64 (y:Int))/\s'.tm.get 16=some (.int .i64 (n:Int))/\s'.tm.get 17=some (.int .i64 (i:Int))) ?_ ?_
  ·intro IY XG;apply Zb;intro b4 Yx;simp[t1,l2];subst Yx;by_cases KN:i<ys.length;·refine Za (t:=true) (by simp[KN]) ?_;have a1:=sb.adr Zv (k:= .i64) KN;have d1:=sb.load KN;rw[<-XF KN,<-hy]at d1;apply Zh;simp[t1,a1,d1];apply XG;exact⟨rfl,rfl,by simp[t1],by simp[t5],by simp[t6],by simp,by simp,by simp[t16],by simp[t17]⟩
   ·refine Za (t:=false) (by simp[KN]) ?_;apply Zn;apply XG;rw[Uf (by omega)]at hy;subst hy;exact⟨rfl,rfl,by simp[t1],by simp[t5],by simp[t6],by simp,by simp,by simp[t16],by simp[t17]⟩
  clear t1 t5 t6 t16 t17;rintro⟨k,tm,H5⟩ ⟨hk,hH,t1,t5,t6,t7,t8,t16,t17⟩;simp only at hk hH t1 t5 t6 t7 t8 t16 t17;subst hk;subst hH;apply Zh;simp[t5,t6,t7,t8,a0,d0,sc,WW];subst Z3;apply Zh;simp[t17,YO (x:=i) (by omega)];apply Y0;refine⟨m-1,by omega,rfl,VO H kH (Nat.le_refl _),i+1,b',L++[z],by omega,by simp[hL],MB,dL.append (.cons Bx (.nil _)),?_,VM,by simp[t1],by simp[t5],by simp,by simp[t16],by simp⟩;rw[Yr,hL,XW,XW,<-hx,<-hy];simp only[dv,Nat.mul_zero,Nat.add_zero];have e1:Zd^i*(z+y+SU)=Zd^i*(x+Zd*b'):=by rw[Rb]
  rw[Nat.mul_add (Zd^i) x,<-Nat.mul_assoc,show Zd^i*Zd=Zd^(i+1)from rfl,Nat.mul_add,Nat.mul_add]at e1;omega
 ·refine Za (t:=false) (by simp[hi]) ?_;apply YQ;apply Y0;left;refine⟨rfl,?_⟩;obtain rfl:i=n:=by omega
  have km:=Ww dx;rw[<-hn]at km;rw[List.take_of_length_le (l:=xs) (by omega),PU (by decide) (Nat.lt_of_le_of_lt hle km)]at heq;have j8:=Ww dL;rw[hL]at j8;have hval:dv Zd L=dv Zd xs-dv Zd ys:=by
   rcases Nat.lt_or_ge SU 1 with h0|h0
   ·obtain rfl:SU=0:=by omega
    rw[Nat.mul_zero]at heq;omega
   ·obtain rfl:SU=1:=by omega
    rw[Nat.mul_one]at heq;omega
  rw[List.drop_of_length_le (by omega),List.append_nil]at own;subst Ze;apply Zb;intro b4 Yx;simp[t5];subst Yx;apply Zq;simp;exact⟨kH,L,hL,dL,hval,own⟩
theorem iF {x y o c : Nat} (hx : x < Zd) (hy : y < Zd) (ho : o < Zd) (hc : c < Zd) :
    let p := x * y; let l := (p % Zd + c) % Zd; let h := p / Zd + (p % Zd + c) / Zd
    h < Zd /\ h + (o + l) / Zd < Zd /\ (o + l) % Zd + Zd * (h + (o + l) / Zd) = o + x * y + c := by
  intro p l h
  have hx : x < 18446744073709551616 := hx
  have hy : y < 18446744073709551616 := hy
  have ho : o < 18446744073709551616 := ho
  have hc : c < 18446744073709551616 := hc
  have hp : p <= 18446744073709551615 * 18446744073709551615 := Nat.mul_le_mul (by omega) (by omega)
  show p / 18446744073709551616 + (p % 18446744073709551616 + c) / 18446744073709551616 < 18446744073709551616 /\ p / 18446744073709551616 + (p % 18446744073709551616 + c) / 18446744073709551616 + (o + (p % 18446744073709551616 + c) % 18446744073709551616) / 18446744073709551616 < 18446744073709551616 /\
    (o + (p % 18446744073709551616 + c) % 18446744073709551616) % 18446744073709551616 + 18446744073709551616 * (p / 18446744073709551616 + (p % 18446744073709551616 + c) / 18446744073709551616 + (o + (p % 18446744073709551616 + c) % 18446744073709551616) / 18446744073709551616) = o + p + c
  clear_value p
  omega
theorem D7(ha:Sl H va xs)(hb:Sl H vb ys)(dx:YC Zd xs)(dy:YC Zd ys)(lx:xs.length<=8000000000000)(ly:ys.length<=8000000000000):CW Tryz.prog Zu 223 [va,vb] H fun v H'=>Zg H H'/\kS H.n H' v (xs.length+ys.length) (dv Zd xs*dv Zd ys):=by
 refine Z2 78 Tryz.func223 ?_;have l1:=ha.len Zv;have l2:=hb.len Zv;obtain⟨la,ki⟩:=hid (xs.length);obtain⟨lb,A4⟩:=hid (ys.length);rw[<-ki]at l1⊢;rw[<-A4]at l2⊢;obtain⟨c0,H1,QV,k1,o1,n1⟩:=YG (H:=H) Zv (n:=la+lb) (by omega);have ad:Zc .add .i64 (la:Int) (lb:Int)=some (.int .i64 ((la+lb:Nat):Int)):=Va (by omega);apply Zb;intro b1 Ze;simp;subst Ze;apply Zb;intro b1 Ze;simp[l1,l2,ad,QV];subst Ze;apply Zf;intro b1 Ze;apply Zb;intro b2 Zp;simp[l1];subst Zp;apply Zz;refine YU (fun m s'=>s'.k=78/\Zg H s'.H/\ ∃(i:Nat) (O:List Nat),m+i=la/\O.length=la+lb/\YC Zd O/\(∀j,i+lb<=j->nth O j=0)/\dv Zd O=dv Zd (xs.take i)*dv Zd ys/\Yo H.n s'.H c0 O/\s'.tm.get 1=some vb/\s'.tm.get 5=some c0/\s'.tm.get 20=some va/\s'.tm.get 21=some (.int .i64 (la:Int))/\s'.tm.get 22=some (.int .i64 (i:Int))) ?_ la _ ⟨rfl,k1,0,List.replicate (la+lb) 0,by omega,by simp,Sy (by decide) _,fun j _=>by
  by_cases hj:j<(List.replicate (la+lb) 0).length;·rw[XF hj];simp
  ·exact Uf (by omega),by simp[dv,U5],o1,by simp,by simp,by simp,by simp,by simp⟩;rintro m ⟨k,tm,H2⟩ ⟨hk,kH,i,O,M5,hO,dO,hz,heq,own,t1,t5,t20,t21,t22⟩ Q' Y0;simp only at hk kH own t1 t5 t20 t21 t22;subst hk;apply Zb;intro b3 Z3;simp[t21,t22];subst Z3;apply Zf;intro b3 Z3;by_cases hi:i<la
 ·refine Za (t:=true) (by simp[hi]) ?_;apply Zn;subst Z3;have UB:i<xs.length:=by omega
  have sa:=ha.keep kH;have a1:=sa.adr Zv (k:= .i64) UB;have d1:=sa.load UB;obtain⟨x,hx⟩:=hid (xs[i]);have CT:x<Zd:=by rw[hx];exact dx.get (List.getElem?_eq_getElem UB)
  rw[<-hx]at d1;apply Zf;intro b3 Z3;apply Zz;apply Zb;intro b4 Yx;simp[t20,t22,a1,d1];subst Yx;apply Zb;intro b4 Yx;simp;subst Yx;refine Xe (fun s'=>s'.k=78/\Zg H s'.H/\ ∃(c:Nat) (O2:List Nat),c<Zd/\O2.length=la+lb/\YC Zd O2/\(∀j,i+lb<=j->nth O2 j=0)/\dv Zd O2+Zd^(i+lb)*c=dv Zd O+Zd^i*(x*dv Zd ys)/\Yo H.n s'.H c0 O2/\s'.tm.get 1=some vb/\s'.tm.get 5=some c0/\s'.tm.get 6=some (.int .i64 (i:Int))/\s'.tm.get 8=some (.int .u64 (c:Int))/\s'.tm.get 20=some va/\s'.tm.get 21=some (.int .i64 (la:Int))/\s'.tm.get 22=some (.int .i64 (i:Int))) ?_ ?_
  ·intro IY XG;apply Zb;intro b4 Yx;simp[t1,l2];subst Yx;apply Zz;refine YU (fun m s'=>s'.k=78/\Zg H s'.H/\ ∃(j c:Nat) (O2:List Nat),m+j=lb/\c<Zd/\O2.length=la+lb/\YC Zd O2/\(∀j,i+lb<=j->nth O2 j=0)/\dv Zd O2+Zd^(i+j)*c=dv Zd O+Zd^i*(x*dv Zd (ys.take j))/\Yo H.n s'.H c0 O2/\s'.tm.get 1=some vb/\s'.tm.get 5=some c0/\s'.tm.get 6=some (.int .i64 (i:Int))/\s'.tm.get 7=some (.int .u64 (x:Int))/\s'.tm.get 8=some (.int .u64 (c:Int))/\s'.tm.get 20=some va/\s'.tm.get 21=some (.int .i64 (la:Int))/\s'.tm.get 22=some (.int .i64 (i:Int))/\s'.tm.get 27=some vb/\s'.tm.get 28=some (.int .i64 (lb:Int))/\s'.tm.get 29=some (.int .i64 (j:Int))) ?_ lb _ ⟨rfl,kH,0,0,O,by omega,by decide,hO,dO,hz,by simp[dv],own,by simp[t1],by simp[t5],by simp,by simp,by simp,by simp[t20],by simp[t21],by simp[t22],by simp[t1],by simp,by simp⟩;clear t1 t5 t20 t21 t22;rintro m2 ⟨k,tm,H3⟩ ⟨hk,Iy,j,c,O2,hmj,hc,me,fX,E8,M1,QJ,t1,t5,t6,t7,t8,t20,t21,t22,t27,t28,t29⟩ Q5 mf;simp only at hk Iy QJ t1 t5 t6 t7 t8 t20 t21 t22 t27 t28 t29;subst hk;apply Zb;intro b5 Sh;simp[t28,t29];subst Sh;apply Zf;intro b5 Sh;by_cases hj:j<lb
   ·refine Za (t:=true) (by simp[hj]) ?_;apply Zn;subst Sh;have A3:j<ys.length:=by omega
    have sb3:=hb.keep Iy;have a2:=sb3.adr Zv (k:= .i64) A3;have d2:=sb3.load A3;obtain⟨y,hy⟩:=hid (ys[j]);have bK:y<Zd:=by rw[hy];exact dy.get (List.getElem?_eq_getElem A3)
    rw[<-hy]at d2;have JS:i+j<O2.length:=by omega
    have a3:=QJ.sl.adr Zv (k:= .i64) JS;have d3:=QJ.sl.load JS;obtain⟨o,ho⟩:=hid (O2[i+j]);have hoB:o<Zd:=by rw[ho];exact fX.get (List.getElem?_eq_getElem JS)
    rw[<-ho]at d3;have step:=iF CT bK hoB hc;simp only at step;obtain⟨ph,yQ⟩:=hid (x*y/Zd);obtain⟨pl,CV⟩:=hid (x*y%Zd);rw[<-yQ,<-CV]at step;obtain⟨l,hl⟩:=hid ((pl+c)%Zd);obtain⟨c1,N7⟩:=hid ((pl+c)/Zd);rw[<-hl,<-N7]at step;obtain⟨o',mY⟩: ∃o',o'=(o+l)%Zd:=⟨_,rfl⟩;obtain⟨c2,IL⟩:=hid ((o+l)/Zd);rw[<-mY,<-IL]at step;obtain⟨SF,TE,S5⟩:=step;have ho'B:o'<Zd:=by rw[mY];exact Nat.mod_lt _ (by decide)
    have e1:Zy Tryz.prog Zu 202 [.int .u64 (x:Int),.int .u64 (y:Int)] H3=some (.tuple #[.int .u64 (ph:Int),.int .u64 (pl:Int)],H3):=by rw[yQ,CV];exact QM CT bK H3
    have e2:Zy Tryz.prog Zu 203 [.int .u64 (pl:Int),.int .u64 (c:Int),.int .u64 0] H3=some (.tuple #[.int .u64 (l:Int),.int .u64 (c1:Int)],H3):=by rw[hl,N7];exact UT pl c H3
    have e3:Zc .add .u64 (ph:Int) (c1:Int)=some (.int .u64 ((ph+c1:Nat):Int)):=We SF;have e4:Zy Tryz.prog Zu 203 [.int .u64 (o:Int),.int .u64 (l:Int),.int .u64 0] H3=some (.tuple #[.int .u64 (o':Int),.int .u64 (c2:Int)],H3):=by rw[mY,IL];exact UT o l H3
    have e5:Zc .add .u64 ((ph+c1:Nat):Int) (c2:Int)=some (.int .u64 ((ph+c1+c2:Nat):Int)):=We TE;have e6:Zc .add .i64 (i:Int) (j:Int)=some (.int .i64 ((i+j:Nat):Int)):=Va (by omega);obtain⟨H4,WW,VM,n4,qD,VO⟩:=QJ.put (i:=i+j) JS o';apply Zf;intro b5 Sh;apply Zz;apply Zb;intro b6 PH;simp[t27,t29,a2,d2];subst PH;apply Zb;intro b6 PH;simp[t7,e1];subst PH;apply Zb;intro b6 PH;simp;subst PH;apply Zb;intro b6 PH;simp[t8,e2];subst PH;apply Zb;intro b6 PH;simp[e3];subst PH;apply Zb;intro b6 PH;simp[t5,t6,e6,a3,d3,e4,WW];subst PH;apply Zh;simp[e5];subst Sh;apply Zh;simp[t29,YO (x:=j) (by omega)];apply mf;refine⟨m2-1,by omega,rfl,VO H Iy (Nat.le_refl _),j+1,ph+c1+c2,O2.set (i+j) o',by omega,TE,by simp[me],fX.set ho'B,fun q hq=>by rw[KF (by omega)];exact E8 q hq,?_,VM,by simp[t1],by simp[t5],by simp[t6],by simp[t7],by simp,by simp[t20],by simp[t21],by simp[t22],by simp[t27],by simp[t28],by simp⟩;have ds:=MH Zd O2 (i+j) o' JS;rw[<-ho]at ds;rw[Xm A3,Yr,List.length_take,Nat.min_eq_left (by omega),<-hy];simp only[dv,Nat.mul_zero,Nat.add_zero];generalize ph+c1+c2=cc at*;have f1:Zd^(i+j)*(o'+Zd*cc)=Zd^(i+j)*(o+x*y+c):=by rw[S5]
    rw[Nat.mul_add,<-Nat.mul_assoc (Zd^(i+j)) Zd,show Zd^(i+j)*Zd=Zd^(i+(j+1))from rfl,Nat.mul_add,Nat.mul_add]at f1;have f2:Zd^i*(x*(dv Zd (ys.take j)+Zd^j*y))=Zd^i*(x*dv Zd (ys.take j))+Zd^(i+j)*(x*y):=by rw[Nat.mul_add x,Nat.mul_add (Zd^i),Nat.pow_add,Nat.mul_left_comm x (Zd^j) y,Nat.mul_assoc (Zd^i)]
    rw[f2];omega
   ·refine Za (t:=false) (by simp[hj]) ?_;apply YQ;apply mf;left;obtain rfl:j=lb:=by omega
    rw[List.take_of_length_le (by omega)]at M1;exact⟨rfl,XG _ ⟨rfl,Iy,c,O2,hc,me,fX,E8,M1,QJ,by simp[t1],by simp[t5],by simp[t6],by simp[t8],by simp[t20],by simp[t21],by simp[t22]⟩⟩
  clear t1 t5 t20 t21 t22;rintro⟨k,tm,H3⟩ ⟨hk,Iy,c,O2,hc,me,fX,E8,M1,QJ,t1,t5,t6,t8,t20,t21,t22⟩;simp only at hk Iy QJ t1 t5 t6 t8 t20 t21 t22;subst hk;have JS:i+lb<O2.length:=by omega
  have a3:=QJ.sl.adr Zv (k:= .i64) JS;have e6:Zc .add .i64 (i:Int) (lb:Int)=some (.int .i64 ((i+lb:Nat):Int)):=Va (by omega);obtain⟨H4,WW,VM,n4,qD,VO⟩:=QJ.put (i:=i+lb) JS c;apply Zh;simp[t1,t5,t6,t8,l2,e6,a3,WW];subst Z3;apply Zh;simp[t22,YO (x:=i) (by omega)];apply Y0;refine⟨m-1,by omega,rfl,VO H Iy (Nat.le_refl _),i+1,O2.set (i+lb) c,by omega,by simp[me],fX.set hc,fun q hq=>by rw[KF (by omega)];exact E8 q (by omega),?_,VM,by simp[t1],by simp[t5],by simp[t20],by simp[t21],by simp⟩;have ds:=MH Zd O2 (i+lb) c JS;have h0:=E8 (i+lb) (Nat.le_refl _);rw[XF JS]at h0;rw[h0,Nat.mul_zero,Nat.add_zero]at ds;rw[ds,M1,heq,Xm UB,Yr,List.length_take,Nat.min_eq_left (by omega),<-hx,Nat.add_mul];simp only[dv,Nat.mul_zero,Nat.add_zero];rw[Nat.mul_assoc (Zd^i)]
 ·refine Za (t:=false) (by simp[hi]) ?_;apply YQ;apply Y0;left;refine⟨rfl,?_⟩;obtain rfl:i=la:=by omega
  rw[List.take_of_length_le (by omega)]at heq;subst Ze;apply Zb;intro b4 Yx;simp[t5];subst Yx;apply Zq;simp;exact⟨kH,O,hO,dO,heq,own⟩
end
end
end
end Go.Proofs.YtmkfecoeghokfaaGreatDoor
