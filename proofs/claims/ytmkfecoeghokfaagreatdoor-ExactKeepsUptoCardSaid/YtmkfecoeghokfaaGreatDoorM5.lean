/-
  The engine and the walks that the claim's last text leans on, part 5 of 9: Oe, Of, Og, Ta, Tb, Tc, Td, Te, Ref, Rt, Make, Rc, Rd, Re, Rf, Rg, Oh, Ok, Pa, Pb, Pc, Pd, Pe, Pf, Pg.
-/
import Derived.Test.YtmkfecoeghokfaaGreatDoorM4
namespace Go.Proofs.YtmkfecoeghokfaaGreatDoor
open Go Ev
set_option linter.unusedVariables false
set_option linter.unusedSimpArgs false
noncomputable section
set_option maxHeartbeats 2000000
set_option maxRecDepth 20000
section
attribute [-simp] Int.natCast_add Int.natCast_mul Int.natCast_ediv Int.natCast_emod Int.natCast_pow
attribute [local simp] strip ZQ Xj LR gW ZF Ya ZX Yb ZJ Yc Zs Zt Zg ZI Z5 ZN ZB Zk ZH Zh Ze ZC ZD YW Zo Z6 YF Yw ZK plain ZM Tr.get_set Yu Zp Yq ZV sameKind undef Zv ZG Z3 Zu ZA Yh ZW parts ZE Xw DW Yf Zw LX Zz Zn ZL ZS Xt Yg Zm ZP Zy ZO
theorem LV{x y:Nat}(hx:x<9223372036854775808)(hy:0<y):Zd .quo .i64 (x:Int) (y:Int)=some (.int .i64 ((x/y:Nat):Int)):=by
 have hle:x/y<=x:=Nat.div_le_self x y;have h0: ¬ ((y:Int)=0):=by omega
 have e:IntKind.i64.wrap ((x:Int).tdiv (y:Int))=((x/y:Nat):Int):=by rw[IntKind.wrap_i64,Int.tdiv_eq_ediv_of_nonneg (by omega),<-Int.natCast_ediv];generalize x/y=q at*;omega
 show(if(y:Int)=0 then none else some (Value.int .i64 (IntKind.i64.wrap ((x:Int).tdiv (y:Int)))))=_;rw[if_neg h0,e]
theorem BS{x y:Nat}(hy:0<y):Zd .rem .i64 (x:Int) (y:Int)=some (.int .i64 ((x%y:Nat):Int)):=by
 have h0: ¬ ((y:Int)=0):=by omega
 have e:(x:Int).tmod (y:Int)=((x%y:Nat):Int):=by rw[Int.tmod_eq_emod_of_nonneg (by omega),<-Int.natCast_emod]
 show(if(y:Int)=0 then none else some (Value.int .i64 ((x:Int).tmod (y:Int))))=_;rw[if_neg h0,e]
theorem rl{x:Nat}(hx:x<9223372036854775808):Zd .quo .i64 (x:Int) 32=some (.int .i64 ((x/32:Nat):Int)):=LV (y:=32) hx (by decide)
theorem rm{x:Nat} :Zd .rem .i64 (x:Int) 32=some (.int .i64 ((x%32:Nat):Int)):=BS (y:=32) (by decide)
theorem ub{x c s:Nat}(hx:x<Yk)(hs:s<32)(hc:c<2^s):x*2^s%Yk+c<Yk/\x*2^s/Yk<2^s/\x*2^s=x*2^s%Yk+Yk*(x*2^s/Yk)/\x*2^s<Zc:=by
 have e:Yk=2^(32-s)*2^s:=by rw[<-Nat.pow_add,show 32-s+s=32 by omega]
 have hp:=Nat.two_pow_pos s;refine⟨?_,?_,(Nat.mod_add_div _ _).symm,?_⟩
 ·have e1:x*2^s%Yk=x%2^(32-s)*2^s:=by rw[e,Nat.mul_mod_mul_right]
  have h2:x%2^(32-s)<2^(32-s):=Nat.mod_lt _ (Nat.two_pow_pos _);rw[e1];have:(x%2^(32-s)+1)*2^s<=2^(32-s)*2^s:=Nat.mul_le_mul_right _ h2;rw[<-e,Nat.succ_mul]at this;omega
 ·rw[Nat.div_lt_iff_lt_mul (by decide),Nat.mul_comm];exact Nat.mul_lt_mul_of_pos_left hx hp
 ·have h1:2^s<=2^32:=Nat.pow_le_pow_right (by decide) (by omega);have h2:x*2^s<=4294967295*2^32:=Nat.mul_le_mul (by have:x<4294967296:=hx;omega) h1;show _<18446744073709551616;omega
theorem MA{H:AH}{v:Value}{xs:List Nat}(hv:Sl H v xs)(dx:YH Yk xs)(lx:xs.length<=8000000000000){n:Nat}(hn:n<=8000000000000):CW Tryz.prog ZY 92 [v,.int .i64 (n:Int)] H fun v' H'=>Zj H H'/\Ym H.n H' v' (ds Yk (dv Yk xs*2^n)):=by
 refine Yd 55 Tryz.func92 ?_;have l1:=hv.len ZA;apply Za;intro b1 Zf;simp;subst Zf;apply Zi;intro b1 Zf;apply Za;intro b2 ZT;simp[l1,We];subst ZT;by_cases h0:xs.length=0;·obtain rfl:xs=[]:=List.length_eq_zero_iff.mp h0;refine Zb (t:=true) (by simp) ?_;apply Za;intro b2 ZT;simp;subst ZT;apply ZZ;simp[YQ,dv,Xl];exact⟨.refl H,.nil⟩
 ·refine Zb (t:=false) (by simp;intro h;exact h0 (by rw[h];rfl)) ?_;apply Zr;subst Zf;obtain⟨w,hw⟩:=hid (n/32);obtain⟨s,hs⟩:=hid (n%32);have hs32:s<32:=by omega
  have zd:n=32*w+s:=by omega
  have q1:Zd .quo .i64 (n:Int) 32=some (.int .i64 (w:Int)):=by rw[hw];exact rl (by omega)
  have q2:Zd .rem .i64 (n:Int) 32=some (.int .i64 (s:Int)):=by rw[hs];exact rm
  have q3:Zd .add .i64 (xs.length:Int) (w:Int)=some (.int .i64 ((xs.length+w:Nat):Int)):=WO (by omega);obtain⟨c0,H1,RH,k1,o1,n1⟩:=YK (H:=H) ZA (n:=xs.length+w+1) (by omega);apply Za;intro b1 Zf;simp[l1,q1,q3,YU (x:=xs.length+w) (by omega),RH];subst Zf;apply Za;intro b1 Zf;simp[q2];subst Zf;apply Zi;intro b1 Zf;apply Za;intro b2 ZT;simp[l1];subst ZT;apply ZR;refine YS (fun m s'=>s'.k=55/\Zj H s'.H/\ ∃(i c:Nat) (L:List Nat),m+i=xs.length/\L.length=i/\c<2^s/\YH Yk L/\dv Yk L+Yk^i*c=dv Yk (xs.take i)*2^s/\Ym H.n s'.H c0 ((List.replicate w 0++L)++c::List.replicate m 0)/\s'.tm.get 1=some (.int .i64 (n:Int))/\s'.tm.get 5=some c0/\s'.tm.get 6=some (.int .i64 (s:Int))/\s'.tm.get 21=some v/\s'.tm.get 22=some (.int .i64 (xs.length:Int))/\s'.tm.get 23=some (.int .i64 (i:Int))) ?_ xs.length _ ⟨rfl,k1,0,0,[],by omega,rfl,Nat.two_pow_pos s,.nil _,by simp[dv],by
   have e:List.replicate (xs.length+w+1) 0=(List.replicate w 0++[])++0::List.replicate xs.length 0:=by rw[List.append_nil,<-List.replicate_succ,List.replicate_append_replicate];congr 1;omega
   rw[<-e];exact o1,by simp,by simp,by simp,by simp,by simp,by simp⟩;rintro m ⟨k,tm,H2⟩ ⟨hk,kH,i,c,L,Kv,hL,hc,dL,heq,own,t1,t5,t6,t21,t22,t23⟩ Q' YA;simp only at hk kH own t1 t5 t6 t21 t22 t23;subst hk;apply Za;intro b3 Z4;simp[t22,t23];subst Z4;apply Zi;intro b3 Z4;by_cases hi:i<xs.length
  ·refine Zb (t:=true) (by simp[hi]) ?_;apply Zr;subst Z4;obtain⟨m',rfl⟩: ∃m',m=m'+1:=⟨m-1,by omega⟩;have sv:=hv.keep kH;have a1:=sv.adr ZA (k:= .i64) hi;have d1:=sv.load hi;have hx:xs[i]<Yk:=dx.get (List.getElem?_eq_getElem hi);obtain⟨x,Me⟩:=hid (xs[i]);rw[<-Me]at d1 hx;obtain⟨f1,f2,f3,f4⟩:=ub hx hs32 hc;obtain⟨p,hp⟩:=hid (x*2^s);rw[<-hp]at f1 f2 f3 f4;have m1:YC .shl .u64 (x:Int) (s:Int)=some (.int .u64 (p:Int)):=by rw[T0 (by omega),<-hp,Nat.mod_eq_of_lt f4]
   have m2:Zd .add .i64 (i:Int) (w:Int)=some (.int .i64 ((i+w:Nat):Int)):=WO (by omega);have lp:(List.replicate w 0++L).length=i+w:=by simp[hL];omega
   have m3:Zd .add .u64 (c:Int) ((p%4294967296:Nat):Int)=some (.int .u64 ((p%4294967296+c:Nat):Int)):=by rw[X3 (by rw[Nat.add_comm];exact bM f1),Nat.add_comm]
   have a2:=own.sl.adr ZA (k:= .i64) (i:=i+w) (by simp[hL];omega);have d2:=own.sl.load (i:=i+w) (by simp[hL];omega);rw[Nb _ _ _ lp]at d2;obtain⟨H3,Sc,Rc,n3,rC,Ll⟩:=own.put (i:=i+w) (by simp[hL];omega) (p%4294967296+c);rw[WL _ _ _ _ lp]at Rc;have a3:=Rc.sl.adr ZA (k:= .i64) (i:=i+w+1) (by simp[hL];omega);obtain⟨H4,WQ,Vr,n4,oW,Ua⟩:=Rc.put (i:=i+w+1) (by simp[hL];omega) (p/4294967296);have TU:(List.replicate w 0++L++(p%4294967296+c)::List.replicate (m'+1) 0).set (i+w+1) (p/4294967296)=(List.replicate w 0++(L++[p%4294967296+c]))++(p/4294967296)::List.replicate m' 0:=by rw[show List.replicate w 0++L++(p%4294967296+c)::List.replicate (m'+1) 0=(List.replicate w 0++(L++[p%4294967296+c]))++0::List.replicate m' 0 by simp[List.replicate_succ]];exact WL _ _ _ _ (by simp[hL];omega)
   rw[TU]at Vr;apply Zi;intro b3 Z4;apply ZR;apply Za;intro b4 Yy;simp[t21,t23,a1,d1];subst Yy;apply Zi;intro b4 Yy;apply lM (by kernel_rfl);simp[t1,t5,t6,q1,m1,m2,m3,a2,d2,Es,Sc];subst Yy;apply Zl;simp[t1,t5,t6,q1,m1,m2,YU (x:=i+w) (by omega),a3,Ei f4,WQ];subst Z4;apply Zl;simp[t23,YU (x:=i) (by omega)];apply YA;refine⟨m',by omega,rfl,Ua H (Ll H kH (Nat.le_refl _)) (Nat.le_refl _),i+1,p/4294967296,L++[p%4294967296+c],by omega,by simp[hL],f2,dL.append (.cons f1 (.nil _)),?_,Vr,by simp[t1],by simp[t5],by simp[t6],by simp[t21],by simp[t22],by simp⟩;rw[Yn,hL,Xc hi,Yn,List.length_take,Nat.min_eq_left (by omega),<-Me];simp only[dv,Nat.mul_zero,Nat.add_zero];rw[Nat.add_mul,<-heq,Nat.mul_assoc (Yk^i) x,<-hp];have e1:Yk^i*p=Yk^i*(p%Yk+Yk*(p/Yk)):=by rw[<-f3]
   rw[Nat.mul_add,<-Nat.mul_assoc,show Yk^i*Yk=Yk^(i+1)from rfl]at e1;have e2:Yk^i*(p%4294967296+c)=Yk^i*(p%Yk)+Yk^i*c:=Nat.mul_add _ _ _;have e3:Yk^(i+1)*(p/4294967296)=Yk^(i+1)*(p/Yk):=rfl;omega
  ·refine Zb (t:=false) (by simp[hi]) ?_;apply YN;apply YA;left;refine⟨rfl,?_⟩;obtain rfl:i=xs.length:=by omega
   obtain rfl:m=0:=by omega
   rw[List.take_length]at heq;obtain⟨v5,H5,N7,e5,o5,_⟩:=VQ own (by simp[hL];omega);subst e5;have dall:YH Yk ((List.replicate w 0++L)++[c]):=by
    refine YH.append (YH.append ?_ dL) (.cons ?_ (.nil _));·intro x hx;rw[List.eq_of_mem_replicate hx];decide
    ·exact Nat.lt_of_lt_of_le hc (by show 2^s<=2^32;exact Nat.pow_le_pow_right (by decide) (by omega))
   have hval:dv Yk ((List.replicate w 0++L)++[c])=dv Yk xs*2^n:=by rw[List.append_assoc,Yn,Yn,UP,List.length_replicate,hL];simp only[dv,Nat.mul_zero,Nat.add_zero];rw[heq,Nat.zero_add,zd,Nat.pow_add,Nat.pow_mul];show Yk^w*(dv Yk xs*2^s)=dv Yk xs*(Yk^w*2^s);rw[Nat.mul_left_comm]
   simp only[List.replicate_zero]at o5;rw[Xi two32 dall,hval]at o5;subst Zf;apply Za;intro b4 Yy;simp[t5,N7];subst Yy;apply ZZ;simp;exact⟨kH,o5⟩
theorem Ik{H:AH}{bits:Nat}{ms:List (Nat×Nat×Nat)}{sz:Nat}{cs:List Value} :T4 none (H.new sz cs) (grown H ((PM H bits ms).new sz cs)):=by
 refine⟨rfl,fun j hj _=>?_⟩;have Bf:j<H.n+1:=hj;rw[AH.blk_new];have e:(grown H ((PM H bits ms).new sz cs)).blk j=if H.n<=j then((PM H bits ms).new sz cs).blk j else H.blk j:=by
  unfold grown;show(match(Od H.t ((PM H bits ms).new sz cs) H.n (H.n+1-H.n)).get j with|some b=>b|none=>Qj.dead)=_;rw[OE];by_cases c:H.n<=j;·rw[if_pos (by omega),if_pos c]
  ·rw[if_neg (by omega),if_neg c];rfl
 rw[e];by_cases c:j=H.n;·rw[if_pos (by omega),if_pos c,AH.blk_new,if_pos (show j=(PM H bits ms).n from c)]
 ·rw[if_neg (by omega),if_neg c]
theorem Kk{H:AH}{bits:Nat}{ms:List (Nat×Nat×Nat)}{sz:Nat}{cs:List Value} :Zj H (grown H ((PM H bits ms).new sz cs)):=by refine⟨Nat.le_succ _,Nat.min_le_left _ _,fun j hj=>?_⟩;have:=(Ik (H:=H) (bits:=bits) (ms:=ms) (sz:=sz) (cs:=cs)).blk j (show j<H.n+1 by omega) (fun e=>by cases e);rw[this,AH.blk_new,if_neg (by omega)]
theorem BE{X:Xs}{P:Program}{C:Cfg}{ops:Array Oper}{k i:Nat}{q:Bool}{ms:List (Nat×Nat×Nat)}{tm:Tr Value}{H:AH}{K:Tr Value->AH->Prop}{o:Oper}{r:List Oper}(x:Nat)(hg:gW tm (Yf ops o)=some true)(hh:Zw o.op=true)(hq:q=false)(he: ∀Hv:AH,ZF P C (ZU P C) tm Hv o.op=some (.slice (some ⟨Hv.n,0,none⟩) 1 1,Hv.new 1 [V6 x]))(h: ∀G2:AH,Ym H.n G2 (.slice (some ⟨H.n,0,none⟩) 1 1) [x]->Zj H G2->G2.n=H.n+1->match o.dst with|none=>DW X P C ops k (i+1) q ((i,H.n,H.n+1)::ms) r tm G2 K|some d=>d<k/\DW X P C ops k (i+1) q ((i,H.n,H.n+1)::ms) r (tm.set d (.slice (some ⟨H.n,0,none⟩) 1 1)) G2 K)(hf:X.fv i=none:=by first|rfl|kernel_rfl):DG X P C ops k i q ms (o::r) tm H K:=by
 refine YJ (v:= .slice (some ⟨H.n,0,none⟩) 1 1) (H2:=(PM H ((before ops).getD i 0) ms).new 1 [V6 x]) hg hh hq (he _) (Nat.le_succ _) (Nat.le_refl _) ?_ hf;have uH:Nat.blt H.n ((PM H ((before ops).getD i 0) ms).new 1 [V6 x]).n=true:=by rw[Nat.blt_eq];exact Nat.lt_succ_self _
 rw[uH];exact h _ ((Ym.new H [x]).same Ik) Kk rfl
theorem Uh{i a b:Nat}{ms:List (Nat×Nat×Nat)}(h:cond (Nat.blt a b) [(i,a,b)] []=ms): ∀x∈ms,x.1=i/\a<=x.2.1:=by intro x hx;rw[<-h]at hx;cases jb:Nat.blt a b with|true=>rw[jb,cond_true]at hx;simp at hx;subst hx;exact⟨rfl,Nat.le_refl _⟩|false=>rw[jb,cond_false]at hx;cases hx
theorem DU{B R q r k:Nat}(e:R=B*q+r)(hr:r<B*2^(k+1))(hq:q+2^(k+1)<=4294967296):(B*2^k<=r->R=B*(q+2^k)+(r-B*2^k)/\r-B*2^k<B*2^k/\q+2^k+2^k<=4294967296)/\(r<B*2^k->q+2^k<=4294967296):=by
 have e2:2^(k+1)=2^k+2^k:=by rw[Nat.pow_succ];omega
 rw[e2]at hq;rw[e2,Nat.mul_add]at hr;have hp:=Nat.two_pow_pos k;refine⟨fun h=>⟨?_,by omega,by omega⟩,fun h=>by omega⟩;rw[e,Nat.mul_add];omega
theorem TZ{m:Nat}(h:m<9223372036854775807):Zd .sub .i64 (m:Int) 1=some (.int .i64 ((m:Int)-1)):=by show some (Value.int .i64 (IntKind.i64.wrap ((m:Int)-1)))=_;congr 2;rw[IntKind.wrap_i64];omega
theorem Na{m:Nat} :Zd .geq .i64 ((m:Int)-1) 0=some (.bool (decide (0<m))):=by show some (Value.bool (decide ((m:Int)-1≥0)))=_;congr 2;apply decide_eq_decide.mpr;omega
theorem HX{a b:Nat} :Zd .geq .i64 (Wn a b) 0=some (.bool (decide (b<=a))):=by
 show some (Value.bool (decide (Wn a b≥0)))=_;congr 2;apply decide_eq_decide.mpr;unfold Wn;split;·omega
 ·split<;>omega
theorem Em{H:AH}{va vb:Value}{xs ys:List Nat}(ha:Sl H va xs)(hb:Sl H vb ys)(dx:YH Yk xs)(dy:YH Yk ys)(ty:YZ ys=ys)(lx:xs.length<=4000000000000)(ly:ys.length<=4000000000000)(hy:0<dv Yk ys):CW Tryz.prog ZY 64 [va,vb] H fun v' H'=>Zj H H'/\ ∃q r,v'= .tuple #[q,r]/\Ym H.n H' q (ds Yk (dv Yk xs/dv Yk ys))/\Ym H.n H' r (ds Yk (dv Yk xs%dv Yk ys)):=by
 refine Yd 60 Tryz.func64 ?_;have l1:=ha.len ZA;obtain⟨n,hn⟩:=hid (xs.length);rw[<-hn]at l1;obtain⟨B,hB⟩:=hid (dv Yk ys);rw[<-hB]at hy;have iI:B<Yk^ys.length:=by have h1:=Wh dy;rwa[<-hB]at h1
 obtain⟨c0,H1,RH,k1,o1,n1⟩:=YK (H:=H) ZA (n:=n) (by omega);apply Za;intro b1 Zf;simp;subst Zf;apply Za;intro b1 Zf;simp;subst Zf;apply Za;intro b1 Zf;simp[l1,RH];subst Zf;apply Zi;intro b1 Zf;apply Za;intro b2 ZT;simp[l1,TZ (m:=n) (by omega)];subst ZT;apply ZR;refine YS (fun m s'=>s'.k=60/\Zj H s'.H/\m<=n/\ ∃(L:List Nat) (R:Nat) (rv:Value),L.length+m=n/\YH Yk L/\R<B/\dv Yk (xs.drop m)=B*dv Yk L+R/\Ym H.n s'.H c0 (List.replicate m 0++L)/\H1.n<=s'.H.n/\Ym H1.n s'.H rv (ds Yk R)/\s'.tm.get 0=some va/\s'.tm.get 1=some vb/\s'.tm.get 6=some rv/\s'.tm.get 7=some c0/\s'.tm.get 8=some (.int .i64 ((m:Int)-1))) ?_ n _ ⟨rfl,k1,Nat.le_refl _,[],0,.slice none 0 0,by simp,.nil _,hy,by simp[hn,dv],by simpa using o1,Nat.le_refl _,by rw[Xl];exact .nil,by simp,by simp,by simp,by simp,by simp⟩;rintro m ⟨k,tm,H2⟩ ⟨hk,kH,hm,L,R,rv,hL,dL,hR,heq,own,hn1,ro,t0,t1,t6,t7,t8⟩ Q' YA;simp only at hk kH own hn1 ro t0 t1 t6 t7 t8;subst hk;apply Zi;intro b3 Z4;apply Za;intro b4 Yy;simp[t8,Na];subst Yy;by_cases Gz:m=0
 ·subst Gz;refine Zb (t:=false) (by simp) ?_;apply YN;apply YA;left;refine⟨rfl,?_⟩;simp at own heq;have hdiv:dv Yk xs/B=dv Yk L:=by rw[heq,Nat.mul_add_div hy,Nat.div_eq_of_lt hR,Nat.add_zero]
  have FU:dv Yk xs%B=R:=by rw[heq,Nat.mul_add_mod,Nat.mod_eq_of_lt hR]
  obtain⟨v5,H5,N7,e5,o5,_⟩:=VQ own (by omega);subst e5;rw[Xi two32 dL]at o5;subst Zf;apply Za;intro b4 Yy;simp[t6,t7,N7];subst Yy;apply ZZ;simp;rw[<-hB,hdiv,FU];exact⟨kH,v5,rv,⟨rfl,rfl⟩,o5,ro.mono k1.n (.refl _)⟩
 ·refine Zb (t:=true) (by simp;omega) ?_;apply Zr;subst Z4;obtain⟨i,rfl⟩: ∃i,m=i+1:=⟨m-1,by omega⟩;have em:((i+1:Nat):Int)-1=(i:Int):=by omega
  rw[em]at t8;have hi:i<xs.length:=by omega
  have hx:xs[i]<Yk:=dx.get (List.getElem?_eq_getElem hi);have Be:xs.drop i=xs[i]::xs.drop (i+1):=List.drop_eq_getElem_cons hi;have lR:(ds Yk R).length<=ys.length:=XI two32 (Nat.lt_trans hR iI);obtain⟨v1,H3,Nd,k3,o3⟩:=MA (H:=H2.top) ro.sl.top (Yx two32 R) (by omega) (n:=32) (by decide);have hc1':ZU Tryz.prog ZY 92 [rv,.int .i64 32] H2.top=some (v1,H3):=Nd;rw[YL two32]at o3;obtain⟨G1,Td⟩:=hid (grown H2 H3);have WT:Zj H2 G1:=by rw[Td];exact Yo (.refl H2) k3
  have ij:Ym H2.n G1 v1 (ds Yk (R*2^32)):=by rw[Td];exact o3.same (Yz k3)
  have h3n:H2.n<=H3.n:=k3.n;have bf:G1.n=H3.n:=by rw[Td];rfl
  obtain⟨x,Me⟩:=hid (xs[i]);rw[<-Me]at hx Be;have a1:Yi Tryz.prog 37 va (.int .i64 (i:Int))=some (adr va i):=ha.adr ZA hi;apply Zi;intro b3 Z4;apply ZR;apply Zi;intro b4 Yy;apply Y8 (by kernel_rfl);simp[t6];refine YJ (v:=v1) (H2:=H3) rfl rfl rfl (by rw[Z1 rfl];simp[t6,hc1']) h3n (YD k3) ?_;rw[<-Td];generalize PO:cond (Nat.blt H2.n H3.n) _ _=ms;have X7:=Uh PO;simp[t0,t8,a1];have Y1:=fun bits=>(ha.keep (kH.trans (Wb (bits:=bits) WT fun x hx=>(X7 x hx).2))).load hi;rw[<-Me]at Y1;refine Z7 (v:= .int .u64 (x:Int)) rfl rfl rfl (by simp[Y1]) ?_;simp;refine BE x rfl rfl rfl (fun Hv=>by simp[Og _ ZA]) ?_;intro G2 oG2 Br nG2;obtain⟨v7,H7,hc7,e7,o7,_⟩:=VQ oG2.top (by simp);subst e7;have o3'':Ym H2.n G2 v1 (ds Yk (R*2^32)):=ij.m Br;have h1x:YH Yk [x]:= .cons hx (.nil _);have hR32:R*2^32<Yk^(ys.length+1):=by have:R*2^32<Yk^ys.length*2^32:=Nat.mul_lt_mul_of_pos_right (Nat.lt_trans hR iI) (by decide);rw[show Yk^(ys.length+1)=Yk^ys.length*Yk from rfl,show Yk=2^32 by decide];exact this
  obtain⟨v8,H8,hc8,k8,o8⟩:=El (H:=G2.top) o3''.sl.top o7.sl (Yx two32 _) (XT h1x) (Nat.le_trans (XI two32 (k:=ys.length+1) hR32) (by omega)) (by have:=XS [x];simp at this;omega);rw[YL two32,Wp,show dv Yk [x]=x by simp[dv]]at o8;obtain⟨G3,ur⟩:=hid (grown G2 H8);have zr:Zj G2 G3:=by rw[ur];exact Yo (.refl G2) k8
  obtain⟨R1,hR1⟩:=hid (R*2^32+x);rw[<-hR1]at o8;have o8':Ym G2.n G3 v8 (ds Yk R1):=by rw[ur];exact o8.same (Yz k8)
  have h8n:G2.n<=H8.n:=k8.n;simp;refine Z7 (v:=v7) rfl rfl rfl ?_ ?_
  ·rw[Z1 (Yr fun x hx=>?_)];·simp[hc7]
   ·rcases List.mem_cons.mp hx with e|e;·rw[e];kernel_rfl
    ·rw[(X7 x e).1];kernel_rfl
  simp;refine YJ (v:=v8) (H2:=H8) rfl rfl rfl ?_ h8n (YD k8) ?_
  ·rw[Z1 (Yr fun x hx=>?_)];·simp[hc8]
   ·rcases List.mem_cons.mp hx with e|e;·rw[e];kernel_rfl
    ·rw[(X7 x e).1];kernel_rfl
  rw[<-ur];simp;subst Yy;have Jp:Zj H G3:=((kH.trans WT).trans Br).trans zr;have Rc:=own.mono (Nat.le_refl _) ((WT.trans Br).trans zr);have zO:Ym H1.n G3 v8 (ds Yk R1):=o8'.mono (by have:=WT.n;have:=Br.n;omega) (.refl G3);have te:R1<B*2^32:=by have h1:(R+1)*2^32<=B*2^32:=Nat.mul_le_mul_right _ hR;have h2:x<2^32:=hx;rw[Nat.succ_mul]at h1;omega
  apply Za;intro b4 Yy;simp;subst Yy;refine Xd (fun s'=>s'.k=60/\Zj G3 s'.H/\ ∃(q r:Nat) (fK:Value),q<4294967296/\R1=B*q+r/\r<B/\Ym H1.n s'.H fK (ds Yk r)/\s'.tm.get 0=some va/\s'.tm.get 1=some vb/\s'.tm.get 6=some fK/\s'.tm.get 7=some c0/\s'.tm.get 8=some (.int .i64 (i:Int))/\s'.tm.get 9=some (.int .u64 (q:Int))) ?_ ?_
  ·intro Jt XR;have hbG:=hb.keep Jp;have hB1:(ds Yk R1).length<=ys.length+1:=XI two32 (by have h2:B*2^32<Yk^ys.length*2^32:=Nat.mul_lt_mul_of_pos_right iI (by decide);rw[show Yk^(ys.length+1)=Yk^ys.length*Yk from rfl,show Yk=2^32 by decide];rw[show Yk=2^32 by decide]at h2;exact Nat.lt_trans te h2);obtain⟨v9,H9,hc9,e9,e9'⟩:=ME zO.sl hbG (Yx two32 R1) dy (Pj two32 R1) ty (by omega) (by omega);subst e9;subst e9';rw[YL two32,<-hB]at hc9;apply Za;intro b4 Yy;simp[t1,hc9,HX];subst Yy;by_cases TE:B<=R1
   ·refine Zb (t:=true) (by simp[TE]) ?_;apply Za;intro b4 Yy;simp;subst Yy;apply ZR;refine YS (fun kk s'=>s'.k=60/\Zj H9 s'.H/\kk<=32/\ ∃(q r:Nat) (fK:Value),q+2^kk<=4294967296/\R1=B*q+r/\r<B*2^kk/\Ym H1.n s'.H fK (ds Yk r)/\s'.tm.get 0=some va/\s'.tm.get 1=some vb/\s'.tm.get 6=some fK/\s'.tm.get 7=some c0/\s'.tm.get 8=some (.int .i64 (i:Int))/\s'.tm.get 9=some (.int .u64 (q:Int))/\s'.tm.get 10=some (.int .i64 ((kk:Int)-1))) ?_ 32 _ ⟨rfl,.refl _,Nat.le_refl _,0,R1,v8,by decide,by simp,te,zO,by simp[t0],by simp[t1],by simp,by simp[t7],by simp[t8],by simp,by simp⟩;clear t0 t1 t6 t7 t8;rintro kk ⟨k,tm,H4⟩ ⟨hk,k4,HQ,q,r,fK,hq,dH,hr,qG,t0,t1,t6,t7,t8,t9,t10⟩ Q5 iC;simp only at hk k4 qG t0 t1 t6 t7 t8 t9 t10;subst hk;apply Zi;intro b5 SV;apply Za;intro b6 QN;simp[t10,Na];subst QN;by_cases Pn:kk=0;·subst Pn;refine Zb (t:=false) (by simp) ?_;apply YN;apply iC;left;exact⟨rfl,XR _ ⟨rfl,k4,q,r,fK,by omega,dH,by simpa using hr,qG,by simp[t0],by simp[t1],by simp[t6],by simp[t7],by simp[t8],by simp[t9]⟩⟩
    ·refine Zb (t:=true) (by simp;omega) ?_;apply Zr;subst SV;obtain⟨s,rfl⟩: ∃s,kk=s+1:=⟨kk-1,by omega⟩;have es:((s+1:Nat):Int)-1=(s:Int):=by omega
     rw[es]at t10;obtain⟨Sx,Tq⟩:=DU dH hr hq;have hb4':=hbG.keep k4;obtain⟨v5,H5,N7,k5,o5⟩:=MA (H:=H4) hb4' dy (by omega) (n:=s) (by omega);rw[<-hB]at o5;have or5:=qG.m k5;have rlt:r<=R1:=by rw[dH];omega
     have lr:(ds Yk r).length<=ys.length+1:=by have h1:=GA two32 R1;have h2:Yk^(ds Yk R1).length<=Yk^(ys.length+1):=Nat.pow_le_pow_right (by decide) hB1;exact XI two32 (by omega)
     have lbs:(ds Yk (B*2^s)).length<=ys.length+1:=XI two32 (by have h1:B*2^s<=B*2^32:=Nat.mul_le_mul_left _ (Nat.pow_le_pow_right (by decide) (by omega));have h2:B*2^32<Yk^ys.length*2^32:=Nat.mul_lt_mul_of_pos_right iI (by decide);rw[show Yk^(ys.length+1)=Yk^ys.length*Yk from rfl,show Yk=2^32 by decide];rw[show Yk=2^32 by decide]at h2;exact Nat.lt_of_le_of_lt h1 h2);obtain⟨v6,H6,hc6,e6,e6'⟩:=ME or5.sl o5.sl (Yx two32 r) (Yx two32 _) (Pj two32 r) (Pj two32 _) (by omega) (by omega);subst e6;subst e6';rw[YL two32,YL two32]at hc6;apply Zi;intro b5 SV;apply ZR;apply Za;intro b6 QN;simp[t1,t10,N7];subst QN;apply Za;intro b6 QN;simp[t6,hc6,HX];subst QN;by_cases hs:B*2^s<=r
     ·obtain⟨g1,g2,g3⟩:=Sx hs;obtain⟨v7,H7,hc7,k7,o7⟩:=Er or5.sl o5.sl (Yx two32 r) (Yx two32 _) (by omega) (by rw[YL two32,YL two32];exact hs);rw[YL two32,YL two32]at o7;have sp:=Nat.two_pow_pos s;have m1:YC .shl .u64 1 (s:Int)=some (.int .u64 ((2^s:Nat):Int)):=by have:=T0 (x:=1) (s:=s) (by omega);rw[Nat.one_mul,Nat.mod_eq_of_lt (by show _<18446744073709551616;omega)]at this;exact this
      have m2:Zd .add .u64 (q:Int) ((2^s:Nat):Int)=some (.int .u64 ((q+2^s:Nat):Int)):=X3 (by show _<18446744073709551616;omega);refine Zb (t:=true) (by simp[hs]) ?_;apply Za;intro b6 QN;simp[t6,hc7];subst QN;apply Zl;simp[t9,t10,m1,m2];subst SV;apply Zl;simp[t10,TZ (m:=s) (by omega)];apply iC;exact⟨s,Nat.lt_succ_self s,rfl,(k4.trans k5).trans k7,by show s<=32;omega,q+2^s,r-B*2^s,v7,g3,g1,g2,o7.mono (by have:=WT.n;have:=Br.n;have:=zr.n;have:=k4.n;have:=k5.n;omega) (.refl _),by simp[t0],by simp[t1],by simp,by simp[t7],by simp[t8],by simp,by simp⟩
     ·refine Zb (t:=false) (by simp[hs]) ?_;apply Zr;subst SV;apply Zl;simp[t10,TZ (m:=s) (by omega)];apply iC;exact⟨s,Nat.lt_succ_self s,rfl,k4.trans k5,by show s<=32;omega,q,r,fK,Tq (by omega),dH,by omega,or5,by simp[t0],by simp[t1],by simp[t6],by simp[t7],by simp[t8],by simp[t9],by simp⟩
   ·refine Zb (t:=false) (by simp[TE]) ?_;apply Zr;apply XR;exact⟨rfl,.refl _,0,R1,v8,by decide,by simp,by omega,zO,by simp[t0],by simp[t1],by simp,by simp[t7],by simp[t8],by simp⟩
  clear t0 t1 t6 t7 t8;rintro⟨k,tm,H4⟩ ⟨hk,k4,q,r,fK,hq,dH,hr,qG,t0,t1,t6,t7,t8,t9⟩;simp only at hk k4 qG t0 t1 t6 t7 t8 t9;subst hk;have Vr:=Rc.m k4;have dG:List.replicate (i+1) 0++L=List.replicate i 0++0::L:=by rw[List.replicate_succ'];simp
  rw[dG]at Vr;have a3:=Vr.sl.adr ZA (k:= .i64) (i:=i) (by simp);obtain⟨H5,Ui,QC,n5,b5,UK⟩:=Vr.put (i:=i) (by simp) q;rw[WL _ _ _ _ (by simp)]at QC;have mg:T4 (Yt c0) H4 H5:=⟨n5,fun j _ hj=>b5 j hj⟩;have ap:Vg c0 fK:=Un o1 qG (Nat.le_refl _);apply Zl;simp[t7,t8,t9,a3,Ui];subst Z4;apply Zl;simp[t8,TZ (m:=i) (by omega)];apply YA;refine⟨i,Nat.lt_succ_self i,rfl,UK H (Jp.trans k4) (Nat.le_refl _),by show i<=n;omega,q::L,r,fK,by simp;omega,.cons hq dL,hr,?_,QC,by rw[n5];have:=WT.n;have:=Br.n;have:=zr.n;have:=k4.n;omega,qG.but mg ap,by simp[t0],by simp[t1],by simp[t6],by simp[t7],by simp⟩;rw[Be];simp only[dv];rw[heq,Nat.mul_add Yk,Nat.mul_add B,Nat.mul_left_comm B Yk];rw[dH]at hR1;have e1:R*2^32=Yk*R:=by rw[Nat.mul_comm]
  omega
theorem uLL:Tryz.prog.underlying 91=some (.slice 25):=by kernel_rfl
theorem sLst:Xh Tryz.prog 25=some 1:=by kernel_rfl
theorem aLst:XY Tryz.prog 25=some false:=by kernel_rfl
structure nJ (n0 : Nat) (H : AH) (b : Nat) (vs : List Value) (f : Nat -> List Nat) : Prop where
  lo : n0 <= b
  hi : b < H.n
  blk : H.blk b = .rw 1 vs
  own : ∀ (i : Nat) (v : Value), vs[i]? = some v -> Ym n0 H v (f i)
  ap : ∀ (i j : Nat) (v w : Value), i ≠ j -> vs[i]? = some v -> vs[j]? = some w -> Vg v w
  out : ∀ (i : Nat) (v : Value), vs[i]? = some v -> Yt v ≠ some b
theorem Ym.isSlice{n0:Nat}{H:AH}{v:Value}{xs:List Nat}(h:Ym n0 H v xs):v.cells=#[v]/\one v=true:=by cases h<;>exact⟨rfl,rfl⟩
section
variable {n0 : Nat} {H : AH} {b : Nat} {vs : List Value} {f : Nat -> List Nat}
theorem nJ.adr(g:nJ n0 H b vs f){k:IntKind}{i:Nat}(hi:i<vs.length):Yi Tryz.prog 91 (.slice (some ⟨b,0,none⟩) vs.length vs.length) (.int k (i:Int))=some (.pointer (some ⟨b,i,none⟩)):=by unfold Yi;simp only[uLL,sLst];rw[if_pos (by omega)];simp
theorem nJ.load(g:nJ n0 H b vs f){i:Nat}(hi:i<vs.length):Z9 Tryz.prog H 25 (.pointer (some ⟨b,i,none⟩))=some vs[i]:=by unfold Z9;simp only[aLst];unfold AH.cells;rw[g.blk];exact List.getElem?_eq_getElem hi
theorem nJ.step(g:nJ n0 H b vs f){H':AH}{i:Nat}(hi:i<vs.length){ys:List Nat}(bt:T4 (Yt vs[i]) H H')(o:Ym n0 H' vs[i] ys):nJ n0 H' b vs (fun j=>if j=i then ys else f j):=by
 have gi:vs[i]?=some vs[i]:=List.getElem?_eq_getElem hi;refine⟨g.lo,by rw[bt.n];exact g.hi,by rw[bt.blk b g.hi (g.out i _ gi)];exact g.blk,fun j v hj=>?_,g.ap,g.out⟩;by_cases e:j=i;·subst e;rw[if_pos rfl];obtain rfl:=Option.some.inj (gi.symm.trans hj);exact o
 ·rw[if_neg e];exact(g.own j v hj).but bt fun c hc=>g.ap i j _ _ (Ne.symm e) gi hj c hc
end
def Jq(b:Nat)(vs:List Value)(H H':AH):Prop:=H.n<=H'.n/\ ∀j,j<H.n->j≠b->(∀v∈vs,Yt v≠some j)->H'.blk j=H.blk j
theorem Jq.refl(b:Nat)(vs:List Value)(H:AH):Jq b vs H H:=⟨Nat.le_refl _,fun _ _ _ _=>rfl⟩
theorem Jq.trans{b:Nat}{vs:List Value}{H H1 H2:AH}(x:Jq b vs H H1)(y:Jq b vs H1 H2):Jq b vs H H2:=⟨Nat.le_trans x.1 y.1,fun j hj h1 h2=>(y.2 j (Nat.lt_of_lt_of_le hj x.1) h1 h2).trans (x.2 j hj h1 h2)⟩
theorem Jq.but{b i:Nat}{vs:List Value}{v:Value}{H H':AH}(hi:vs[i]?=some v)(bt:T4 (Yt v) H H'):Jq b vs H H':=⟨Nat.le_of_eq bt.n.symm,fun j hj _ h2=>bt.blk j hj (h2 v (List.mem_of_getElem? hi))⟩
theorem Jq.mod{b i:Nat}{vs:List Value}{v:Value}{H H4 H5:AH}(hi:vs[i]?=some v)(md:Mod (Yt v) H H4)(h5:H5.n=H4.n/\ ∀j,j≠b->H5.blk j=H4.blk j):Jq b vs H H5:=⟨by have:=md.n;omega,fun j hj h1 h2=>(h5.2 j h1).trans (md.blk j hj (h2 v (List.mem_of_getElem? hi)))⟩
theorem Ph{n:Nat}(h:n<Zc):Sh Tryz.prog 3 101 (.int .i64 (n:Int))=some (.int .u64 (n:Int)):=by
 have h:n<18446744073709551616:=h;have e:IntKind.u64.wrap (n:Int)=(n:Int):=by rw[IntKind.wrap_u64];omega
 unfold Sh;simp only[Tryz.underlying3,Tryz.underlying101,e]
theorem addu{x y:Nat}(h:x+y<Zc):Zd .add .u64 (x:Int) (y:Int)=some (.int .u64 ((x+y:Nat):Int)):=X3 h
end
section
attribute [-simp] Int.natCast_add Int.natCast_mul Int.natCast_ediv Int.natCast_emod Int.natCast_pow
attribute [local simp] strip ZQ Xj LR gW ZF Ya ZX Yb ZJ Yc Zs Zt Zg ZI Z5 ZN ZB Zk ZH Zh Ze ZC ZD YW Zo Z6 YF Yw ZK plain ZM Tr.get_set Yu Zp Yq ZV sameKind undef Zv ZG Z3 Zu ZA Yh ZW parts Xw DW Yf Zw LX Zz Zn ZL ZS Xt Yg Zm ZP Zy ZO
inductive ET where|node(op:Int)(neg:Bool)(abs den:List Nat)(args:List ET)
mutual def ET.nodes:ET->Nat| .node _ _ _ _ args=>1+Z0 args def Z0:List ET->Nat|[]=>0|t::ts=>t.nodes+Z0 ts end
mutual def ET.depth:ET->Nat| .node _ _ _ _ args=>max 1 (Xx args) def Xx:List ET->Nat|[]=>0|t::ts=>max (t.depth+1) (Xx ts) end
def arity(n:Nat):Nat:=[0,0,1,2,2,2,2,1,2,2,1,1,1,1,1,1][n]?.getD 0
def ET.good:ET->Bool| .node op neg abs den args=>decide (0<=op/\op<16/\args.length=arity op.toNat)&&(if op=0 then decide (0<dv Zc den)else decide (abs.length=0)&&decide (den.length=0)&&!neg)
mutual def ET.allGood:ET->Bool| .node op neg abs den args=>(ET.node op neg abs den args).good&&XZ args def XZ:List ET->Bool|[]=>true|t::ts=>t.allGood&&XZ ts end
mutual def ET.wide(L:Nat):ET->Prop| .node _ _ abs den args=>abs.length<=L/\den.length<=L/\YH Zc abs/\YH Zc den/\UC L args def UC(L:Nat):List ET->Prop|[]=>True|t::ts=>t.wide L/\UC L ts end
theorem Xn(t:ET):0<t.nodes:=by cases t;simp only[ET.nodes];omega
theorem Uc(xs ys:List ET):Z0 (xs++ys)=Z0 xs+Z0 ys:=by induction xs with|nil=>simp[Z0]|cons x xs ih=>simp[Z0,ih,Nat.add_assoc]
theorem QQ(xs ys:List ET):XZ (xs++ys)=(XZ xs&&XZ ys):=by induction xs with|nil=>simp[XZ]|cons x xs ih=>simp[XZ,ih,Bool.and_assoc]
theorem Qb(xs ys:List ET):Xx (xs++ys)=max (Xx xs) (Xx ys):=by induction xs with|nil=>simp[Xx]|cons x xs ih=>simp[Xx,ih,Nat.max_assoc]
theorem VK{L:Nat}{xs:List ET}(h:UC L xs){i:Nat}{t:ET}(hi:xs[i]?=some t):t.wide L:=by induction xs generalizing i with
 |nil=>simp at hi
 |cons x xs ih=>cases i with|zero=>simp at hi;subst hi;exact h.1|succ i=>simp at hi;exact ih h.2 hi
theorem UJ{xs:List ET}{i:Nat}{t:ET}(hi:xs[i]?=some t):t.nodes<=Z0 xs:=by induction xs generalizing i with
 |nil=>simp at hi
 |cons x xs ih=>cases i with|zero=>simp at hi;subst hi;simp[Z0]|succ i=>simp at hi;have:=ih hi;simp only[Z0];omega
theorem VG(xs:List ET):xs.length<=Z0 xs:=by induction xs with|nil=>simp|cons x xs ih=>have:=Xn x;simp only[Z0,List.length_cons];omega
theorem Qy: ∀n(t:ET),t.nodes<=n->t.depth<=t.nodes:=by intro n;induction n with
 |zero=>intro t h;have:=Xn t;omega
 |succ n ih=>
  intro t h;obtain⟨op,neg,abs,den,args⟩:=t;simp only[ET.nodes]at h;simp only[ET.nodes,ET.depth];have key: ∀l:List ET,Z0 l<=n->Xx l<=1+Z0 l:=by intro l;induction l with|nil=>intro _;simp[Xx]|cons x xs jv=>intro hl;simp only[Z0]at hl;simp only[Xx,Z0];have h1:=ih x (by omega);have h2:=jv (by omega);have:=Xn x;omega
  have:=key args (by omega);omega
mutual inductive Ex(H:AH):List Value->ET->Prop|mk{op:Int}{neg:Bool}{va vd vx:Value}{abs den:List Nat}{args:List ET} :Sl H va abs->Sl H vd den->Xs H vx args->Ex H [.int .i64 op,.bool neg,va,vd,vx] (.node op neg abs den args) inductive Xs(H:AH):Value->List ET->Prop|nil:Xs H (.slice none 0 0) []|emp(b:Nat):Xs H (.slice (some ⟨b,0,some 0⟩) 0 0) []|mk(b o cap:Nat){cs:List Value}{args:List ET} :b<H.n->H.cells b=some cs->args.length<=cap->(∀(i:Nat)(t:ET),args[i]?=some t->Ex H ((cs.drop (o+i*5)).take 5) t)->Xs H (.slice (some ⟨b,o,none⟩) args.length cap) args end
theorem It(H:AH):Zj H H.top:=⟨Nat.le_refl _,by show min H.lw H.n<=H.n;omega,fun _ _=>rfl⟩
theorem VY{H H':AH}(k:Zj H H'){b:Nat}(hb:b<H.n):H'.cells b=H.cells b:=by unfold AH.cells;rw[k.blk b hb]
theorem jT{H H':AH}(k:Zj H H'): ∀n(t:ET),t.nodes<=n-> ∀vs,Ex H vs t->Ex H' vs t:=by intro n;induction n with
 |zero=>intro t h;have:=Xn t;omega
 |succ n ih=>intro t h vs hx;cases hx with
  |mk h1 h2 h3=>simp only[ET.nodes]at h;refine .mk (h1.keep k) (h2.keep k) ?_;cases h3 with
   |nil=>exact .nil
   |emp b=>exact .emp b
   |mk b o cap hb hc hl hf=>
    rename_i cs;refine .mk b o cap (cs:=cs) (Nat.lt_of_lt_of_le hb k.n) ?_ hl fun i t hi=>?_;·rw[VY k hb];exact hc
    ·have:=UJ hi;exact ih t (by omega) _ (hf i t hi)
theorem Ex.keep{H H':AH}{vs:List Value}{t:ET}(h:Ex H vs t)(k:Zj H H'):Ex H' vs t:=jT k _ t (Nat.le_refl _) vs h
theorem Xs.len{H:AH}{v:Value}{args:List ET}(h:Xs H v args):QI Tryz.prog 51 v=some args.length:=by
 have u:Tryz.prog.underlying 51=some (.slice 53):=by kernel_rfl
 unfold QI;rw[u];cases h<;>rfl
theorem GW:XY Tryz.prog 53=some true:=by kernel_rfl
theorem UE:Xh Tryz.prog 53=some 5:=by kernel_rfl
theorem aOp:XY Tryz.prog 50=some false:=by kernel_rfl
theorem Ju:XY Tryz.prog 30=some false:=by kernel_rfl
theorem Hh:XY Tryz.prog 51=some false:=by kernel_rfl
theorem GU:XY Tryz.prog 3=some false:=by kernel_rfl
theorem JI:XY Tryz.prog 4=some false:=by kernel_rfl
theorem Yj{H:AH}{t:TypeId}(ht:XY Tryz.prog t=some false){b o:Nat}{cs:List Value}{v:Value}(h:H.cells b=some cs)(hk:cs[o]?=some v):Z9 Tryz.prog H t (.pointer (some ⟨b,o,none⟩))=some v:=by unfold Z9;simp only[ht,h,hk]
theorem Pr{H:AH}{b o:Nat}{cs vs:List Value}(h:H.cells b=some cs)(hk:(cs.drop o).take 5=vs)(hl:vs.length=5):Z9 Tryz.prog H 53 (.pointer (some ⟨b,o,none⟩))=some (.agg vs.toArray):=by
 unfold Z9;simp only[GW,UE,AH.read_def,h];have:o+5<=cs.length:=by have:=congrArg List.length hk;rw[List.length_take,List.length_drop,hl]at this;omega
 rw[Nat.ble_eq.mpr this,cond_true,hk]
theorem Ex.len{H:AH}{vs:List Value}{t:ET}(h:Ex H vs t):vs.length=5:=by cases h;rfl
theorem Xs.at{H:AH}{v:Value}{args:List ET}(h:Xs H v args){i:Nat}{t:ET}(hi:args[i]?=some t): ∃(p:Value) (vs:List Value),Yi Tryz.prog 51 v (.int .i64 (i:Int))=some p/\(∀H',Zj H H'->Z9 Tryz.prog H' 53 p=some (.agg vs.toArray))/\Ex H vs t:=by
 have u:Tryz.prog.underlying 51=some (.slice 53):=by kernel_rfl
 have YX:i<args.length:=by
  rcases Nat.lt_or_ge i args.length with h'|h';·exact h'
  ·rw[List.getElem?_eq_none h']at hi;cases hi
 cases h with|nil=>simp at hi|emp b=>simp at hi|mk b o cap hb hc hl hf=>have hE:=hf i t hi;refine⟨.pointer (some ⟨b,o+i*5,none⟩),_,?_,fun H' k=>Pr ((VY k hb).trans hc) rfl hE.len,hE⟩;unfold Yi;simp only[u,UE];rw[if_pos (by omega)];simp
theorem An(b o:Nat):Ys Tryz.prog 53 (.pointer (some ⟨b,o,none⟩)) 0=some (.pointer (some ⟨b,o,none⟩)):=by kernel_rfl
theorem Fg(b o:Nat):Ys Tryz.prog 53 (.pointer (some ⟨b,o,none⟩)) 1=some (.pointer (some ⟨b,o+1,none⟩)):=by kernel_rfl
theorem HZ(b o:Nat):Ys Tryz.prog 53 (.pointer (some ⟨b,o,none⟩)) 2=some (.pointer (some ⟨b,o+4,none⟩)):=by kernel_rfl
theorem r7(b o:Nat):Ys Tryz.prog 34 (.pointer (some ⟨b,o,none⟩)) 0=some (.pointer (some ⟨b,o,none⟩)):=by kernel_rfl
theorem r6(b o:Nat):Ys Tryz.prog 34 (.pointer (some ⟨b,o,none⟩)) 1=some (.pointer (some ⟨b,o+2,none⟩)):=by kernel_rfl
theorem V5(b o:Nat):Ys Tryz.prog 32 (.pointer (some ⟨b,o,none⟩)) 0=some (.pointer (some ⟨b,o,none⟩)):=by kernel_rfl
theorem Ic(b o:Nat):Ys Tryz.prog 32 (.pointer (some ⟨b,o,none⟩)) 1=some (.pointer (some ⟨b,o+1,none⟩)):=by kernel_rfl
theorem Rw(H:AH)(sz:Nat)(cs:List Value)(hz:sz≠0:=by decide):(H.new sz cs).cells H.n=some cs:=AH.cells_rw' (by rw[AH.blk_new,if_pos rfl]) hz
theorem XQ{H:AH}{sz:Nat}{zs ws:List Value}{t:TypeId}{n:Nat}(ht:Xh Tryz.prog t=some n)(hz:zs.length=n){v:Value}(hv:v.cells.toList=ws)(hw:ws.length=n)(h1:ws.all one=true)(wq:sz≠0:=by decide): ∃H',YV Tryz.prog (H.new sz zs) t (.pointer (some ⟨H.n,0,none⟩)) v=some H'/\Zj H H'/\H'.blk H.n= .rw sz ws/\H'.n=H.n+1:=by
 obtain⟨sz,rfl⟩: ∃k,sz=k+1:=⟨sz-1,by omega⟩;have hb:(H.new (sz+1) zs).blk H.n= .rw (sz+1) zs:=by rw[AH.blk_new,if_pos rfl]
 have hs:v.cells.size=n:=by rw[<-hw,<-hv];simp
 have hle:Nat.ble (0+ws.length) zs.length=true:=Nat.ble_eq.mpr (by omega);refine⟨{ n:=H.n+1,lw:=min H.lw H.n,t:=(H.new (sz+1) zs).t.set H.n (.rw (sz+1) ws) },?_,⟨Nat.le_succ _,Nat.le_refl _,fun j hj=>?_⟩,?_,rfl⟩;·unfold YV;simp only[ht,hs,hv];rw[show Nat.beq n n=true from by simp,cond_true,AH.write_def,hb];simp only[hle,h1,Bool.and_self,cond_true,List.take_zero,List.nil_append];rw[List.drop_of_length_le (by omega),List.append_nil];rfl
 ·unfold AH.blk AH.new;simp only[Tr.get_set];rw[if_neg (by omega),if_neg (by omega)]
 ·unfold AH.blk;simp only[Tr.get_set,if_true]
def RowsIn(H:AH):Prop:=0<H.n/\H.cells 0=some Wv
theorem RowsIn.keep{H H':AH}(h:RowsIn H)(k:Zj H H'):RowsIn H':=⟨Nat.lt_of_lt_of_le h.1 k.n,by rw[VY k h.1];exact h.2⟩
theorem Cs: ∀(n:Nat),n<16->Wv[n*3+2]?=some (.int .i64 (arity n:Int)):=by intro n hn;match n,hn with|0,_=>rfl|1,_=>rfl|2,_=>rfl|3,_=>rfl|4,_=>rfl|5,_=>rfl|6,_=>rfl|7,_=>rfl|8,_=>rfl|9,_=>rfl|10,_=>rfl|11,_=>rfl|12,_=>rfl|13,_=>rfl|14,_=>rfl|15,_=>rfl|n+16,h=>omega
theorem eu{k:IntKind}{n:Nat}(hn:n<16):Yi Tryz.prog 181 (.pointer (some ⟨0,0,none⟩)) (.int k (n:Int))=some (.pointer (some ⟨0,n*3,none⟩)):=by
 have u:Tryz.prog.underlying 181=some (.array 16 180):=by kernel_rfl
 have s:Xh Tryz.prog 180=some 3:=by kernel_rfl
 unfold Yi;simp only[u,s];rw[if_pos (by omega)];simp
theorem mo(b o:Nat):Ys Tryz.prog 180 (.pointer (some ⟨b,o,none⟩)) 2=some (.pointer (some ⟨b,o+2,none⟩)):=by kernel_rfl
theorem C9:Nat.blt 0 ZY.ng=true:=rfl
theorem D7{H:AH}(h:H.cells 0=some Wv){n:Nat}(hn:n<16):Z9 Tryz.prog H 3 (.pointer (some ⟨0,n*3+2,none⟩))=some (.int .i64 (arity n:Int)):=Yj GU h (Cs n hn)
theorem TC{H:AH}{v:Value}{xs:List Nat}(h:Sl H v xs)(dx:YH Zc xs)(lx:xs.length<=17592186044416):ZU Tryz.prog ZY 123 [v] H=some (.int .i64 (Zq (dv Zc xs):Int),H):=by obtain⟨_,_,hc,rfl,rfl⟩:=W4 h dx lx;exact hc
theorem Uo{n:Nat} :Zq n=0↔n=0:=by unfold Zq;split<;>simp_all
theorem RR{xs:List Nat}(dx:YH Zc xs){L:Nat}(lx:xs.length<=L):Zq (dv Zc xs)<=64*L:=by
 rcases Nat.eq_zero_or_pos (dv Zc xs)with h0|h0;·rw[h0];exact Nat.zero_le _
 ·have h1:=WN (n:=dv Zc xs) (by omega);have h2:=Wh dx;have h3:Zc^xs.length<=Zc^L:=Nat.pow_le_pow_right (by decide) lx;have h4:Zc^L=2^(64*L):=(Nat.pow_mul 2 64 L).symm;rw[h4]at h3;have:=(Nat.pow_lt_pow_iff_right (a:=2) (by decide)).mp (Nat.lt_of_le_of_lt h1 (Nat.lt_of_lt_of_le h2 h3));omega
theorem uh{x:Nat} :Zd .gtr .i64 (x:Int) 67108864=some (.bool (decide (67108864<x))):=by show some (Value.bool (decide ((x:Int)>67108864)))=_;congr 2;exact decide_eq_decide.mpr (by omega)
theorem gtrZ{k:IntKind}{x:Nat} :Zd .gtr k (x:Int) 0=some (.bool (decide (0<x))):=by show some (Value.bool (decide ((x:Int)>0)))=_;congr 2;exact decide_eq_decide.mpr (by omega)
theorem oL{k:IntKind}{x:Nat} :Zd .eql k (x:Int) 0=some (.bool (decide (x=0))):=by
 show some (Value.bool ((x:Int)==0))=_;congr 2;by_cases h:x=0;·subst h;rfl
 ·rw[decide_eq_false h];simp;omega
theorem neqN{k:IntKind}{x y:Nat} :Zd .neq k (x:Int) (y:Int)=some (.bool (decide (x≠y))):=by
 show some (Value.bool ((x:Int) !=(y:Int)))=_;congr 2;by_cases h:x=y;·subst h;simp
 ·rw[decide_eq_true h];simp[bne];omega
theorem Cv{H:AH}{vs:List Value}{op:Int}{neg:Bool}{abs den:List Nat}{args:List ET}(hE:Ex H vs (.node op neg abs den args))(hR:RowsIn H)(da:YH Zc abs)(dd:YH Zc den)(la:abs.length<=1048576)(ld:den.length<=1048576):CW Tryz.prog ZY 96 [.agg vs.toArray] H fun v H'=>Zj H H'/\v= .bool (ET.node op neg abs den args).good:=by cases hE with
 |@mk _ _ va vd vx _ _ _ h1 h2 h3=>
  refine Yd 74 Tryz.func96 ?_;have hN: ∀H':AH,Zj (H.new 1 [.int .i64 op,.bool neg,va,vd,vx]) H'->Zj H H':=fun H' k=>(Zj.new H 1 _).trans k;have kB:=Zj.new H 1 [.int .i64 op,.bool neg,va,vd,vx];have Bd:=Rw H 1 [.int .i64 op,.bool neg,va,vd,vx];have la1:=(h1.keep kB).len Zu;have ld1:=(h2.keep kB).len Zu;have hRB:=hR.keep kB;have c1:=TC (h1.keep kB) da (by omega);have c2:=TC (h2.keep kB) dd (by omega);have c1t:=TC ((h1.keep kB).keep (It _)) da (by omega);have c2t:=TC ((h2.keep kB).keep (It _)) dd (by omega);have b1:=RR da la;have b2:=RR dd ld;have lx:=h3.len;obtain⟨HB,gO⟩:=hid (H.new 1 [.int .i64 op,.bool neg,va,vd,vx]);rw[<-gO]at kB Bd hRB c1 c2 c1t c2t;have f0:=Yj aOp (o:=0) Bd rfl;have f1:=Yj JI (o:=1) Bd rfl;have f2:=Yj Ju (o:=2) Bd rfl;have f3:=Yj Ju (o:=3) Bd rfl;have f4:=Yj Hh (o:=4) Bd rfl;have g2:Z9 Tryz.prog HB.top 30 (.pointer (some ⟨H.n,2,none⟩))=some va:=Yj Ju (show HB.top.cells H.n=some _ from Bd) rfl;have g3:Z9 Tryz.prog HB.top 30 (.pointer (some ⟨H.n,3,none⟩))=some vd:=Yj Ju (show HB.top.cells H.n=some _ from Bd) rfl;obtain⟨R,Nc⟩: ∃R:Bool,R=(ET.node op neg abs den args).good:=⟨_,rfl⟩;rw[<-Nc];simp only[ET.good]at Nc;apply Za;intro d1 JX;simp[Value.cells,<-gO];subst JX;apply Zi;intro d1 JX;apply Zi;intro d2 Jn;have no: ∀tm:Tr Value,tm.get 25=some (.bool true)->R=false->W Tryz.prog ZY d2 ⟨74,tm,HB⟩ (YQ Tryz.prog ZY d1 fun ex s=>(ex= .norm\/ex= .ret)/\ ∃vs,Zv Tryz.prog s [.tmp 2]=some vs/\Zj H s.H/\Z3 vs= .bool R):=fun tm ht hno=>by rw[hno];subst Jn;refine Zb (t:=true) (by simp[ht]) ?_;apply Za;intro b2 ZT;simp;subst ZT;apply ZZ;simp[YQ];exact kB
  apply SR (by kernel_rfl);have e0:Zd .lss .i64 op 0=some (.bool (decide (op<0))):=rfl;have e1:Zd .geq .i64 op 16=some (.bool (decide (op≥16))):=rfl;by_cases o1:op<0;·rw[decide_eq_true o1]at e0;simp[An,f0,e0];show W _ _ d2 _ _;exact no _ (by simp) (by rw[Nc,decide_eq_false (by omega),Bool.false_and])
  rw[decide_eq_false o1]at e0;by_cases o2:op≥16;·rw[decide_eq_true o2]at e1;simp[An,f0,e0,e1];show W _ _ d2 _ _;exact no _ (by simp) (by rw[Nc,decide_eq_false (by omega),Bool.false_and])
  rw[decide_eq_false o2]at e1;obtain⟨n,rfl⟩: ∃n:Nat,op=(n:Int):=⟨op.toNat,by omega⟩;have hn:n<16:=by omega
  rw[Int.toNat_natCast]at Nc;have zV:=D7 hRB.2 hn;have e2:Zd .neq .i64 (args.length:Int) (arity n:Int)=some (.bool (decide (args.length≠arity n))):=neqN;by_cases o3:args.length=arity n
  ·rw[decide_eq_false (fun h=>h o3)]at e2;simp[An,HZ,f0,f4,e0,e1,lx,C9,eu hn,mo,zV,e2];subst Jn;refine Zb (t:=false) (by simp) ?_;apply Zr;subst JX;rw[decide_eq_true (show 0<=(n:Int)/\(n:Int)<16/\args.length=arity n from⟨by omega,by omega,o3⟩),Bool.true_and]at Nc;clear no;have e3:Zd .eql .i64 (n:Int) 0=some (.bool (decide (n=0))):=oL;apply Zi;intro d1 JX;apply Za;intro d2 Jn;simp[An,f0,e3];subst Jn;by_cases h0:n=0
   ·refine Zb (t:=true) (by simp[h0]) ?_;rw[if_pos (by omega)]at Nc;have g1:Zd .gtr .i64 (Zq (dv Zc abs):Int) 67108864=some (.bool false):=by rw[uh,decide_eq_false (by omega)]
    have g4:Zd .gtr .i64 (Zq (dv Zc den):Int) 67108864=some (.bool false):=by rw[uh,decide_eq_false (by omega)]
    have g5:Zd .gtr .i64 (Zq (dv Zc den):Int) 0=some (.bool R):=by rw[gtrZ,Nc];congr 2;exact decide_eq_decide.mpr (by have:=Uo (n:=dv Zc den);omega)
    apply Zi;intro d3 JW;apply OG (by kernel_rfl);simp[Fg,r7,r6,Ic,g2,g3,c1t,c2t];subst JW;apply Zi;intro d3 JW;apply Za;intro d4 aB;simp[g1,g4];subst aB;refine Zb (t:=false) (by simp) ?_;apply Zr;subst JW;apply Za;intro d4 aB;simp[g5];subst aB;apply ZZ;simp[YQ];exact kB
   ·refine Zb (t:=false) (by simp[h0]) ?_;rw[if_neg (by omega)]at Nc;apply Zr;subst JX;apply Za;intro d3 JW;have e5:Zd .eql .i64 (abs.length:Int) 0=some (.bool (decide (abs.length=0))):=oL;have e6:Zd .eql .i64 (den.length:Int) 0=some (.bool (decide (den.length=0))):=oL;by_cases i1:abs.length=0
    ·rw[decide_eq_true i1]at e5;by_cases i2:den.length=0;·rw[decide_eq_true i2]at e6;simp[Fg,r7,r6,Ic,V5,f1,f2,f3,la1,ld1,e5,e6];subst JW;apply ZZ;simp;exact⟨kB,by rw[Nc];simp[i1,i2]⟩
     ·rw[decide_eq_false i2]at e6;simp[Fg,r7,r6,Ic,V5,f1,f2,f3,la1,ld1,e5,e6];subst JW;apply ZZ;simp;exact⟨kB,by rw[Nc];simp[i1,i2]⟩
    ·rw[decide_eq_false i1]at e5;simp[Fg,r7,r6,Ic,V5,f1,f2,f3,la1,ld1,e5];subst JW;apply ZZ;simp;exact⟨kB,by rw[Nc];simp[i1]⟩
  ·rw[decide_eq_true o3]at e2;simp[An,HZ,f0,f4,e0,e1,lx,C9,eu hn,mo,zV,e2];show W _ _ d2 _ _;exact no _ (by simp) (by rw[Nc,decide_eq_false (by omega),Bool.false_and])
def Vz(n0:Nat)(H H1:AH):Prop:= ∀H0,Zj H0 H->H0.n<=n0->Zj H0 H1
theorem Vz.refl(n0:Nat)(H:AH):Vz n0 H H:=fun _ k _=>k
theorem Vz.trans{n0:Nat}{H H1 H2:AH}(a:Vz n0 H H1)(b:Vz n0 H1 H2):Vz n0 H H2:=fun H0 k h=>b H0 (a H0 k h) h
theorem Zj.kat{H H':AH}(k:Zj H H')(n0:Nat):Vz n0 H H':=fun H0 k0 _=>k0.trans k
theorem Cu:Xh Tryz.prog 3=some 1:=by kernel_rfl
theorem Cy{H:AH}{t:TypeId}(ht:Xh Tryz.prog t=some 1){b sz:Nat}{x y:Value}(h:H.blk b= .rw sz [x])(hy:y.cells=#[y])(h1:one y=true)(wq:sz≠0:=by decide): ∃H',YV Tryz.prog H t (.pointer (some ⟨b,0,none⟩)) y=some H'/\H'.blk b= .rw sz [y]/\H'.n=H.n/\(∀j,j≠b->H'.blk j=H.blk j)/\Vz b H H':=by
 obtain⟨sz,rfl⟩: ∃k,sz=k+1:=⟨sz-1,by omega⟩;refine⟨{ n:=H.n,lw:=min H.lw b,t:=H.t.set b (.rw (sz+1) [y]) },?_,?_,rfl,fun j hj=>?_,fun H0 k hn=>⟨k.n,?_,fun j hj=>?_⟩⟩;·unfold YV;simp only[ht,hy];rw[show Nat.beq (#[y]:Array Value).size 1=true from rfl,cond_true,AH.write_def,h];simp[h1];rfl
 ·unfold AH.blk;simp only[Tr.get_set,if_true]
 ·unfold AH.blk;simp only[Tr.get_set];rw[if_neg hj]
 ·have:=k.lw;show min H0.lw H0.n<=min H.lw b;omega
 ·unfold AH.blk;simp only[Tr.get_set];rw[if_neg (by omega)];exact k.blk j hj
theorem w8(a b:Nat):To true [.int .i64 (a:Int),.int .i64 (b:Int)]=some (.int .i64 ((max a b:Nat):Int)):=by
 unfold To;simp only[sameKind,BEq.rfl,cond_true];congr 2;by_cases h:(a:Int)<b;·rw[if_pos h];omega
 ·rw[if_neg h];omega
theorem addN{x y:Nat}(h:x+y<9223372036854775808):Zd .add .i64 (x:Int) (y:Int)=some (.int .i64 ((x+y:Nat):Int)):=by show some (Value.int .i64 (IntKind.i64.wrap ((x:Int)+y)))=_;rw[<-Int.natCast_add,NR h]
theorem TL{x:Nat}(h:x+1<9223372036854775808):Zd .add .i64 (x:Int) 1=some (.int .i64 ((x+1:Nat):Int)):=addN (y:=1) h
theorem Vj:W0 Tryz.prog 53=some (.agg #[.int .i64 0,.bool false,.slice none 0 0,.slice none 0 0,.slice none 0 0]):=by kernel_rfl
theorem Ex.ones{H:AH}{vs:List Value}{t:ET}(h:Ex H vs t):vs.all one=true:=by
 have hs: ∀{v:Value}{xs:List Nat},Sl H v xs->one v=true:=fun h=>by cases h<;>rfl
 cases h with
  |mk h1 h2 h3=>
   have h4: ∀{v:Value}{l:List ET},Xs H v l->one v=true:=fun h=>by cases h<;>rfl
   simp only[List.all_cons,List.all_nil,hs h1,hs h2,h4 h3,Bool.and_true];rfl
def bq(H:AH)(b c:Nat)(t:ET)(v:Value)(H':AH):Prop:=v= .tuple #[.bool t.allGood,.int .i64 (t.depth:Int)]/\Vz b H H'/\H.n<=H'.n/\H'.blk b= .rw 1 [.int .i64 ((c+t.nodes:Nat):Int)]
theorem KS{k:IntKind}{x y:Nat} :Zd .lss k (x:Int) (y:Int)=some (.bool (decide (x<y))):=by show some (Value.bool (decide ((x:Int)<y)))=_;congr 2;exact decide_eq_decide.mpr (by omega)
theorem BX{x:Nat}(h:x<=4611686018427387903):Zd .gtr .i64 (x:Int) 4611686018427387903=some (.bool false):=by show some (Value.bool (decide ((x:Int)>4611686018427387903)))=_;congr 2;exact decide_eq_false (by omega)
theorem jL: ∀n(t:ET),t.nodes<=n-> ∀(H0 H:AH)(vs:List Value)(b c deep:Nat),Ex H0 vs t->RowsIn H0->t.wide 1048576->Zj H0 H->H0.n<=b->b<H.n->H.blk b= .rw 1 [.int .i64 (c:Int)]->c+t.nodes<=1000000000->deep+t.nodes<=1000000000->CW Tryz.prog ZY 68 [.agg vs.toArray,.int .i64 (deep:Int),.pointer (some ⟨b,0,none⟩),.int .i64 4611686018427387903] H (bq H b c t):=by intro n;induction n with
 |zero=>intro t h;have:=Xn t;omega
 |succ n ih=>
  intro t ht H0 H vs b c deep hE hR hw k0 hb Le Wa hc hdp;obtain⟨op,neg,abs,den,args⟩:=t;have hEk:=hE;have hlen:=hE.len;have P2:=hE.ones;obtain⟨wa,wd,da,dd,ws⟩:=hw;simp only[ET.nodes]at ht hc hdp;unfold bq;simp only[ET.nodes];refine Yd 60 Tryz.func68 ?_;have kB:=Zj.new H 1 vs;have cj:(H.new 1 vs).blk H.n= .rw 1 vs:=by rw[AH.blk_new,if_pos rfl]
  have oX:(H.new 1 vs).blk b= .rw 1 [.int .i64 (c:Int)]:=by rw[AH.blk_new,if_neg (by omega)];exact Wa
  have nB:(H.new 1 vs).n=H.n+1:=rfl;obtain⟨HB,gO⟩:=hid (H.new 1 vs);rw[<-gO]at kB cj oX nB;have cb:HB.cells b=some [.int .i64 (c:Int)]:=by unfold AH.cells;rw[oX]
  have l1:=Yj GU (o:=0) cb rfl;obtain⟨H2,Tq,bC,n2,oth2,ig⟩:=Cy Cu (y:= .int .i64 ((c+1:Nat):Int)) oX rfl rfl;have cb2:H2.cells b=some [.int .i64 ((c+1:Nat):Int)]:=by unfold AH.cells;rw[bC]
  have l2:=Yj GU (o:=0) cb2 rfl;have yx:H2.cells H.n=some vs:=by unfold AH.cells;rw[oth2 H.n (by omega),cj]
  have l3:=Pr (o:=0) yx (vs:=vs) (by rw[List.drop_zero,List.take_of_length_le (by omega)]) hlen;have k02:Zj H0 H2:=ig H0 (k0.trans kB) hb;obtain⟨_,H3,c3,k3,rfl⟩:=Cv (hEk.keep k02) (hR.keep k02) da dd wa wd;obtain⟨g,hg⟩: ∃g:Bool,g=(ET.node op neg abs den args).good:=⟨_,rfl⟩;rw[<-hg]at c3;have eZ:=k02.trans k3;have cB3:H3.cells H.n=some vs:=by rw[VY k3 (by omega)];exact yx
  cases hEk with
   |@mk _ _ va vd vx _ _ _ h1 h2 h3=>
    have l4:=Yj Hh (o:=4) cB3 rfl;have lx:=h3.len;have la:=VG args;have q1:=BX (x:=c+1) (by omega);have q2:=BX (x:=deep) (by omega);have iU:H3.blk b= .rw 1 [.int .i64 ((c+1:Nat):Int)]:=by rw[k3.blk b (by omega)];exact bC
    have Ll:Vz b H H3:=((kB.kat b).trans ig).trans (k3.kat b);have n3:=k3.n;apply Za;intro d1 JX;simp[Value.cells,<-gO];subst JX;apply Za;intro d1 JX;simp[l1,TL (x:=c) (by omega),Tq];subst JX;apply Zi;intro d1 JX;apply Za;intro d2 Jn;simp[l2,q1,q2];subst Jn;refine Zb (t:=false) (by simp) ?_;apply Zr;subst JX;apply Za;intro d1 JX;simp only[List.toArray]at c3 l3;simp[l3,c3];subst JX;apply Za;intro d1 JX;simp;subst JX;apply Zi;intro d1 JX;apply Za;intro d2 Jn;simp[HZ,l4,lx];subst Jn;apply ZR;obtain⟨m0,Gz⟩:=hid (args.length);rw[<-Gz]at lx la;refine YS (fun m s'=>s'.k=60/\Zj H0 s'.H/\Vz b H s'.H/\H3.n<=s'.H.n/\ ∃(i:Nat) (ok:Bool) (d:Nat),m+i=m0/\ok=(g&&XZ (args.take i))/\d=max 1 (Xx (args.take i))/\s'.H.blk b= .rw 1 [.int .i64 ((c+1+Z0 (args.take i):Nat):Int)]/\s'.tm.get 1=some (.int .i64 (deep:Int))/\s'.tm.get 2=some (.pointer (some ⟨b,0,none⟩))/\s'.tm.get 3=some (.int .i64 4611686018427387903)/\s'.tm.get 10=some (.bool ok)/\s'.tm.get 11=some (.int .i64 (d:Int))/\s'.tm.get 34=some vx/\s'.tm.get 35=some (.int .i64 (m0:Int))/\s'.tm.get 36=some (.int .i64 (i:Int))) ?_ m0 _ ⟨rfl,eZ,Ll,Nat.le_refl _,0,g,1,by omega,by simp[XZ],by simp[Xx],by simpa[Z0]using iU,by simp,by simp,by simp,by simp,by simp,by simp,by simp[Gz],by simp⟩;rintro m ⟨k,tm,H4⟩ ⟨hk,kH,kaH,zb,i,ok,d,Kv,MP,hd,iT,t1,t2,t3,t10,t11,t34,t35,t36⟩ Q' YA;simp only at hk kH kaH zb iT t1 t2 t3 t10 t11 t34 t35 t36;subst hk;apply Za;intro d3 JW;simp[t35,t36,KS];subst JW;apply Zi;intro d3 JW;by_cases hi:i<m0
    ·refine Zb (t:=true) (by simp[hi]) ?_;apply Zr;subst JW;obtain⟨x,hx⟩: ∃x,args[i]?=some x:=⟨_,List.getElem?_eq_getElem (by omega)⟩;have bc:args.take (i+1)=args.take i++[x]:=by rw[List.take_add_one,hx];rfl
     have RF:Z0 (args.take (i+1))=Z0 (args.take i)+x.nodes:=by rw[bc,Uc];simp[Z0]
     have hle:Z0 (args.take (i+1))<=Z0 args:=by have:=Uc (args.take (i+1)) (args.drop (i+1));rw[List.take_append_drop]at this;omega
     obtain⟨p,us,ha5,za,um⟩: ∃(p:Value) (us:List Value),Yi Tryz.prog 51 vx (.int .i64 (i:Int))=some p/\Z9 Tryz.prog H4 53 p=some (.agg us.toArray)/\Ex H0 us x:=by obtain⟨p,us,e1,e2,e3⟩:=h3.at hx;exact⟨p,us,e1,e2 _ kH,e3⟩
     obtain⟨H5,Ui,k5,cf,n5⟩:=XQ (H:=H4) (sz:=1) (zs:=[.int .i64 0,.bool false,.slice none 0 0,.slice none 0 0,.slice none 0 0]) UE rfl (v:= .agg us.toArray) (ws:=us) (by simp[Value.cells]) um.len um.ones;have c5:H5.cells H4.n=some us:=by unfold AH.cells;rw[cf]
     have l5:=Pr (o:=0) c5 (vs:=us) (by rw[List.drop_zero,List.take_of_length_le (by rw[um.len];omega)]) um.len;have SV:H5.blk b= .rw 1 [.int .i64 ((c+1+Z0 (args.take i):Nat):Int)]:=by rw[k5.blk b (by omega)];exact iT
     have hxn:=UJ hx;obtain⟨_,H6,c6,rfl,Ub,n6,tS⟩:=ih x (by omega) H0 H5 us b (c+1+Z0 (args.take i)) (deep+1) um hR (VK ws hx) (kH.trans k5) hb (by omega) SV (by omega) (by omega);have k06:Zj H0 H6:=Ub H0 (kH.trans k5) hb;have wK:Vz b H H6:=(kaH.trans (k5.kat b)).trans Ub;apply Zi;intro d3 JW;apply ZR;apply Za;intro d4 aB;simp[t34,t36,ha5,za,Vj,Value.cells,Ui];subst aB;apply Za;intro d4 aB;simp[t1,t2,t3,l5,TL (x:=deep) (by omega),c6];subst aB;apply Za;intro d4 aB;cases ok with
      |true=>
       simp[t10];subst aB;have xd:=Qy _ x (Nat.le_refl _);apply Zl;simp[t11,TL (x:=x.depth) (by omega),w8];subst JW;apply Zl;simp[t36,TL (x:=i) (by omega)];apply YA;refine⟨m-1,by omega,rfl,k06,wK,by simp;omega,i+1,x.allGood,max d (x.depth+1),by omega,?_,?_,?_,by simp[t1],by simp[t2],by simp[t3],by simp,by simp,by simp[t34],by simp[t35],by simp⟩;·rw[bc,QQ,<-Bool.and_assoc,<-MP];simp[XZ]
       ·rw[bc,Qb,hd];simp[Xx,Nat.max_assoc]
       ·show H6.blk b=_;rw[tS,RF];congr 4;omega
      |false=>
       simp[t10];subst aB;have xd:=Qy _ x (Nat.le_refl _);apply Zl;simp[t11,TL (x:=x.depth) (by omega),w8];subst JW;apply Zl;simp[t36,TL (x:=i) (by omega)];apply YA;refine⟨m-1,by omega,rfl,k06,wK,by simp;omega,i+1,false,max d (x.depth+1),by omega,?_,?_,?_,by simp[t1],by simp[t2],by simp[t3],by simp,by simp,by simp[t34],by simp[t35],by simp⟩;·rw[bc,QQ,<-Bool.and_assoc,<-MP];simp
       ·rw[bc,Qb,hd];simp[Xx,Nat.max_assoc]
       ·show H6.blk b=_;rw[tS,RF];congr 4;omega
    ·refine Zb (t:=false) (by simp[hi]) ?_;apply YN;apply YA;left;refine⟨rfl,?_⟩;obtain rfl:i=m0:=by omega
     rw[List.take_of_length_le (by omega)]at MP hd iT;subst JX;apply Za;intro d4 aB;simp[t10,t11];subst aB;apply ZZ;simp;refine⟨⟨?_,?_⟩,kaH,by omega,?_⟩;·rw[MP,hg];simp[ET.allGood]
     ·rw[hd];simp[ET.depth]
     ·rw[iT];congr 4;omega
structure TY (H : AH) (vs : List Value) (t : ET) : Prop where
  ex : Ex H vs t
  rows : RowsIn H
  wide : t.wide 1048576
  nodes : t.nodes <= 2000000
theorem TY.keep{H H':AH}{vs:List Value}{t:ET}(h:TY H vs t)(k:Zj H H'):TY H' vs t:=⟨h.ex.keep k,h.rows.keep k,h.wide,h.nodes⟩
theorem aI:W0 Tryz.prog 3=some (.int .i64 0):=by kernel_rfl
def X4(t:ET):Nat:=if t.allGood=false then 152 else if 4000<t.nodes\/200<t.depth then 151 else 0
theorem Mi{H:AH}{vs:List Value}{t:ET}(h:TY H vs t): ∃H2,YV Tryz.prog ((H.new 1 vs).new 1 [.int .i64 0]) 3 (.pointer (some ⟨H.n+1,0,none⟩)) (.int .i64 0)=some H2/\Z9 Tryz.prog H2 53 (.pointer (some ⟨H.n,0,none⟩))=some (.agg vs.toArray)/\ ∃H3,ZU Tryz.prog ZY 68 [.agg vs.toArray,.int .i64 1,.pointer (some ⟨H.n+1,0,none⟩),.int .i64 4611686018427387903] H2=some (.tuple #[.bool t.allGood,.int .i64 (t.depth:Int)],H3)/\Zj H H3/\Z9 Tryz.prog H3 3 (.pointer (some ⟨H.n+1,0,none⟩))=some (.int .i64 (t.nodes:Int)):=by
 have kB:=Zj.new H 1 vs;have cj:(H.new 1 vs).blk H.n= .rw 1 vs:=by rw[AH.blk_new,if_pos rfl]
 have nB:(H.new 1 vs).n=H.n+1:=rfl;obtain⟨HB,gO⟩:=hid (H.new 1 vs);rw[<-gO]at kB cj nB⊢;obtain⟨H2,Tq,k2,bC,n2⟩:=XQ (H:=HB) (sz:=1) (zs:=[.int .i64 0]) Cu rfl (v:= .int .i64 0) (ws:=[.int .i64 0]) rfl rfl rfl;rw[nB]at Tq bC;have yx:H2.cells H.n=some vs:=by rw[VY k2 (by omega)];unfold AH.cells;rw[cj]
 have l2:=Pr (o:=0) yx (vs:=vs) (by rw[List.drop_zero,List.take_of_length_le (by rw[h.ex.len];omega)]) h.ex.len;obtain⟨_,H3,c3,rfl,Ll,n3,iU⟩:=jL _ t (Nat.le_refl _) H H2 vs (H.n+1) 0 1 h.ex h.rows h.wide (kB.trans k2) (Nat.le_succ _) (by omega) bC (by have:=h.nodes;omega) (by have:=h.nodes;omega);rw[Nat.zero_add]at iU;have c3:ZU Tryz.prog ZY 68 [.agg vs.toArray,.int .i64 1,.pointer (some ⟨H.n+1,0,none⟩),.int .i64 4611686018427387903] H2=some (.tuple #[.bool t.allGood,.int .i64 (t.depth:Int)],H3):=c3;refine⟨H2,Tq,l2,H3,c3,Ll H (kB.trans k2) (Nat.le_succ _),Yj GU (cs:=[.int .i64 (t.nodes:Int)]) ?_ rfl⟩;unfold AH.cells;rw[iU]
section
variable {H : AH} {vs : List Value} {t : ET}
theorem fu(H:AH)(sz:Nat)(cs:List Value):(H.new sz cs).n=H.n+1:=rfl
theorem LC(h:TY H vs t): ∃H',ZU Tryz.prog ZY 50 [.agg vs.toArray] H=some (.int .i64 (t.depth:Int),H')/\Zj H H':=by
 suffices hs:CW Tryz.prog ZY 50 [.agg vs.toArray] H fun v H'=>v= .int .i64 (t.depth:Int)/\Zj H H' by obtain⟨_,H',hc,rfl,k⟩:=hs;exact⟨H',hc,k⟩
 obtain⟨H2,st,ld,H3,lc,k3,ln⟩:=Mi h;refine Yd 12 Tryz.func50 ?_;apply Za;intro b1 Zf;simp[Value.cells];subst Zf;apply Za;intro b1 Zf;simp[aI,Value.cells,fu,st];subst Zf;apply Za;intro b1 Zf;simp[ld,lc];subst Zf;apply Za;intro b1 Zf;simp;subst Zf;apply ZZ;simp;exact k3
theorem KM(h:TY H vs t): ∃H',ZU Tryz.prog ZY 49 [.agg vs.toArray] H=some (.int .i64 (t.nodes:Int),H')/\Zj H H':=by
 suffices hs:CW Tryz.prog ZY 49 [.agg vs.toArray] H fun v H'=>v= .int .i64 (t.nodes:Int)/\Zj H H' by obtain⟨_,H',hc,rfl,k⟩:=hs;exact⟨H',hc,k⟩
 obtain⟨H2,st,ld,H3,lc,k3,ln⟩:=Mi h;refine Yd 7 Tryz.func49 ?_;apply Za;intro b1 Zf;simp[Value.cells];subst Zf;apply Za;intro b1 Zf;simp[aI,Value.cells,fu,st];subst Zf;apply Za;intro b1 Zf;simp[ld,lc];subst Zf;apply Za;intro b1 Zf;simp[ln];subst Zf;apply ZZ;simp;exact k3
theorem ui{k:IntKind}{x y:Nat}{z:Int}(hz:z=(y:Int)):Zd .gtr k (x:Int) z=some (.bool (decide (y<x))):=by subst hz;show some (Value.bool (decide ((x:Int)>(y:Int))))=_;congr 2;exact decide_eq_decide.mpr (by omega)
theorem Oj(h:TY H vs t): ∃H',ZU Tryz.prog ZY 28 [.agg vs.toArray] H=some (.int .i64 (X4 t:Int),H')/\Zj H H':=by
 suffices hs:CW Tryz.prog ZY 28 [.agg vs.toArray] H fun v H'=>v= .int .i64 (X4 t:Int)/\Zj H H' by obtain⟨_,H',hc,rfl,k⟩:=hs;exact⟨H',hc,k⟩
 obtain⟨H2,st,ld,H3,lc,k3,ln⟩:=Mi h;obtain⟨C,hC⟩:=hid (X4 t);rw[<-hC];unfold X4 at hC;refine Yd 21 Tryz.func28 ?_;apply Za;intro b1 Zf;simp[Value.cells];subst Zf;apply Za;intro b1 Zf;simp[aI,Value.cells,fu,st];subst Zf;apply Za;intro b1 Zf;simp[ld,lc];subst Zf;apply Zi;intro b1 Zf;apply ZR;apply Za;intro b2 ZT;simp;subst ZT;obtain⟨g,hg⟩:=hid (t.allGood);rw[<-hg]at hC⊢;cases g with
  |false=>rw[if_pos rfl]at hC;subst hC;refine Zb (t:=true) (by simp) ?_;apply Za;intro b2 ZT;simp;subst ZT;apply ZZ;simp[YQ,Yv];exact k3
  |true=>
   rw[if_neg (by decide)]at hC;refine Zb (t:=false) (by simp) ?_;have g1:Zd .gtr .i64 (t.nodes:Int) 4000=some (.bool (decide (4000<t.nodes))):=ui (y:=4000) rfl;have g2:Zd .gtr .i64 (t.depth:Int) 200=some (.bool (decide (200<t.depth))):=ui (y:=200) rfl;apply Za;intro b2 ZT;by_cases h1:4000<t.nodes;·rw[decide_eq_true h1]at g1;rw[if_pos (.inl h1)]at hC;subst hC;simp[ln,g1];subst ZT;refine Zb (t:=true) (by simp) ?_;apply Za;intro b2 ZT;simp;subst ZT;apply ZZ;simp[YQ,Yv];exact k3
   ·rw[decide_eq_false h1]at g1;by_cases h2:200<t.depth;·rw[decide_eq_true h2]at g2;rw[if_pos (.inr h2)]at hC;subst hC;simp[ln,g1,g2];subst ZT;refine Zb (t:=true) (by simp) ?_;apply Za;intro b2 ZT;simp;subst ZT;apply ZZ;simp[YQ,Yv];exact k3
    ·rw[decide_eq_false h2]at g2;rw[if_neg (by omega)]at hC;subst hC;simp[ln,g1,g2];subst ZT;refine Zb (t:=false) (by simp) ?_;apply Zr;subst Zf;apply Za;intro b2 ZT;simp;subst ZT;apply ZZ;simp;exact k3
end
theorem mulN{x y:Nat}(h:x*y<9223372036854775808):Zd .mul .i64 (x:Int) (y:Int)=some (.int .i64 ((x*y:Nat):Int)):=by show some (Value.int .i64 (IntKind.i64.wrap ((x:Int)*y)))=_;rw[<-Int.natCast_mul,NR h]
theorem Ab{n:Nat}(h:n<9223372036854775808):Sh Tryz.prog 3 228 (.int .i64 (n:Int))=some (.int .u64 (n:Int)):=by
 have e:IntKind.u64.wrap (n:Int)=(n:Int):=by rw[IntKind.wrap_u64];omega
 unfold Sh;simp only[Tryz.underlying3,Tryz.underlying228,e]
section
variable {H : AH} {vs : List Value} {t : ET}
end
end
section
attribute [-simp] Int.natCast_add Int.natCast_mul Int.natCast_ediv Int.natCast_emod Int.natCast_pow
attribute [local simp] strip ZQ Xj LR gW ZF Ya ZX Yb ZJ Yc Zs Zt Zg ZI Z5 ZN ZB Zk ZH Zh Ze ZC ZD YW Zo Z6 YF Yw ZK plain ZM Tr.get_set Yu Zp Yq ZV sameKind undef Zv ZG Z3 Zu ZA Yh ZW parts ZE Xw DW Yf Zw LX Zz Zn ZL ZS Xt Yg Zm ZP Zy ZO
abbrev WJ:Nat:=2000000000000
theorem VX{xs:List Nat}(dx:YH Zc xs):(ds Zc (dv Zc xs)).length<=xs.length:=XI Z2 (Wh dx)
theorem Uq{B:Nat}(hB:2<=B){n m:Nat}(h:n<=m):(ds B n).length<=(ds B m).length:=XI hB (Nat.lt_of_le_of_lt h (GA hB m))
theorem W5{B n:Nat}(hB:2<=B):0<(ds B n).length↔0<n:=by
 constructor
 ·intro h;rcases Nat.eq_zero_or_pos n with h0|h0;·subst h0;rw[Xl]at h;cases h
  ·exact h0
 ·intro h;rw[TW hB (by omega)];simp
theorem Wg{B n:Nat}(hB:2<=B):(ds B n).length=0↔n=0:=by have:=W5 (n:=n) hB;omega
theorem oY{N:Nat}(h:0<(ds Yk N).length):Zq N=32*((ds Yk N).length-1)+Zq ((ds Yk N)[(ds Yk N).length-1])/\(ds Yk N)[(ds Yk N).length-1]<Yk:=by
 have hN:0<N:=(W5 two32).mp h;obtain⟨k,hk⟩:=hid ((ds Yk N).length-1);have YX:k<(ds Yk N).length:=by omega
 have e:=T7 Yk (ds Yk N) k (by omega);rw[YL two32,List.drop_eq_getElem_cons YX,List.drop_eq_nil_of_le (by omega)]at e;simp only[dv,Nat.mul_zero,Nat.add_zero]at e;have hl:=Wh ((Yx two32 N).take k);rw[List.length_take,Nat.min_eq_left (by omega)]at hl;have hd:(ds Yk N)[k]<Yk:=(Yx two32 N).get (List.getElem?_eq_getElem YX);have TE:=cX two32 (n:=N) (by omega);rw[<-hk]at TE;have hp:Yk^k=2^(32*k):=by rw[Nat.pow_mul]
 rw[hp]at TE e hl;have e2:(ds Yk N)[(ds Yk N).length-1]=(ds Yk N)[k]:=by simp only[hk]
 rw[e2,<-hk];refine⟨?_,hd⟩;have hs:=U9 TE;have hq:N/2^(32*k)=(ds Yk N)[k]:=by generalize(ds Yk N)[k]=t at*;generalize dv Yk ((ds Yk N).take k)=u at*;rw[e,Nat.add_mul_div_left _ _ (Nat.two_pow_pos _),Nat.div_eq_of_lt hl,Nat.zero_add]
 rw[hq]at hs;exact hs
theorem B3{x:Nat}(h:x<Yk):Zq x<=32:=by
 rcases Nat.lt_or_ge 32 (Zq x)with h1|h1
 ·have h0:x≠0:=by rintro rfl;simp[Zq]at h1
  have a:=WN h0;have b:2^32<=2^(Zq x-1):=Nat.pow_le_pow_right (by decide) (by omega);have hx:x<4294967296:=h;omega
 ·exact h1
theorem dig1{x:Nat}(h:x<Zc):YH Zc [x]:= .cons h (.nil _)
theorem dv1(x:Nat):dv Zc [x]=x:=by simp[dv]
theorem ds1{x:Nat}(h0:x≠0)(h:x<Zc):ds Zc x=[x]:=by rw[TW Z2 h0,Nat.mod_eq_of_lt h,Nat.div_eq_of_lt h,Xl]
theorem Qv(H:AH){t:TypeId}(ht:LT t)(x:Nat): ∃v N,YM Tryz.prog H t 1 [(0,.int .u64 (x:Int))]=some (v,N)/\Zj H N/\Ym H.n N v [x]:=⟨_,_,Og H ht x,.new _ _ _,Ym.new H [x]⟩
theorem Eo{H:AH}{v:Value}{N:Nat}(h:Sl H v (ds Yk N))(hl:(ds Yk N).length<=2*WJ):CW Tryz.prog ZY 23 [v] H fun v' H'=>H'=H/\v'= .int .i64 (Zq N:Int):=by
 refine Yd 25 Tryz.func23 ?_;have l1:=h.len ZA;obtain⟨L,hL⟩:=hid ((ds Yk N).length);rw[<-hL]at l1;have hl:L<=4000000000000:=by rw[hL];exact hl
 apply Za;intro b1 Zf;simp;subst Zf;apply Zi;intro b1 Zf;apply Za;intro b2 ZT;simp[l1,We];subst ZT;by_cases h0:L=0
 ·refine Zb (t:=true) (by simp[h0]) ?_;apply Za;intro b2 ZT;simp;subst ZT;apply ZZ;have:N=0:=by rw[h0]at hL;exact(Wg two32).mp hL.symm
  subst this;simp[YQ,Zq]
 ·refine Zb (t:=false) (by simp[h0]) ?_;apply Zr;subst Zf;obtain⟨e,hd⟩:=oY (N:=N) (by omega);have a1:=h.adr ZA (k:= .i64) (i:=(ds Yk N).length-1) (by omega);have d1:=h.load (i:=(ds Yk N).length-1) (by omega);obtain⟨x,hx⟩:=hid ((ds Yk N)[(ds Yk N).length-1]'(by omega));rw[<-hx]at d1 hd e;rw[<-hL]at a1 d1 e;have hx32:=B3 hd;have s1:Zd .sub .i64 (L:Int) 1=some (.int .i64 ((L-1:Nat):Int)):=V8 (by omega) (by omega);have s2:Zd .mul .i64 32 ((L-1:Nat):Int)=some (.int .i64 ((32*(L-1):Nat):Int)):=A3 (by omega);apply Za;intro b1 Zf;simp[l1,s1,s2];subst Zf;apply Zi;intro b1 Zf;apply Za;intro b2 ZT;simp[l1,s1,a1,d1];subst ZT;apply ZR;refine YS (fun y s'=>s'.k=25/\s'.H=H/\y<Yk/\ ∃n:Nat,n+Zq y=Zq N/\s'.tm.get 3=some (.int .i64 (n:Int))/\s'.tm.get 4=some (.int .u64 (y:Int))) ?_ x _ ⟨rfl,rfl,hd,32*(L-1),e.symm,by simp,by simp⟩;rintro y ⟨k,tm,H2⟩ ⟨hk,hH,hy,n,hn,t3,t4⟩ Q' YA;simp only at hk hH t3 t4;subst hk;subst hH;apply Zi;intro b3 Z4;apply Za;intro b4 Yy;simp[t4,Kl];subst Yy;by_cases Lk:0<y;·refine Zb (t:=true) (by simp[Lk]) ?_;apply Zr;subst Z4;have hbh:=B2 Lk;apply Zi;intro b3 Z4;apply ZR;apply Zl;simp[t3,YU (x:=n) (by omega)];subst Z4;apply Zl;simp[t4,quo2 (bM hy)];apply YA;exact⟨y/2,Nat.div_lt_self Lk (by decide),rfl,rfl,Nat.lt_of_le_of_lt (Nat.div_le_self y 2) hy,n+1,by omega,by simp,by simp⟩
  ·refine Zb (t:=false) (by simp[Lk]) ?_;apply YN;apply YA;left;refine⟨rfl,?_⟩;obtain rfl:y=0:=by omega
   have su:n=Zq N:=by rw[<-hn];rfl
   subst Zf;apply Za;intro b4 Yy;simp[t3];subst Yy;apply ZZ;simp[su]
theorem MC{H:AH}{v:Value}{N:Nat}(h:Sl H v (ds Yk N))(hl:(ds Yk N).length<=2*WJ):ZU Tryz.prog ZY 23 [v] H=some (.int .i64 (Zq N:Int),H):=by obtain⟨_,_,hc,rfl,rfl⟩:=Eo h hl;exact hc
theorem IC{H:AH}{v:Value}{N:Nat}(h:Sl H v (ds Yk N)):ZU Tryz.prog ZY 19 [v] H=some (.bool (decide (N=0)),H):=by obtain⟨_,_,hc,rfl,rfl⟩:=aH h;rw[hc];congr 3;exact decide_eq_decide.mpr (Wg two32)
theorem Q1{H:AH}{va vb:Value}{A B:Nat}(ha:Sl H va (ds Yk A))(hb:Sl H vb (ds Yk B))(lA:(ds Yk A).length<=2*WJ)(lB:(ds Yk B).length<=2*WJ)(hB:0<B): ∃q r H',ZU Tryz.prog ZY 64 [va,vb] H=some (.tuple #[q,r],H')/\Zj H H'/\Ym H.n H' q (ds Yk (A/B))/\Ym H.n H' r (ds Yk (A%B)):=by obtain⟨v,H',hc,k,q,r,e,o1,o2⟩:=Em ha hb (Yx two32 A) (Yx two32 B) (Pj two32 B) (Nat.le_trans lA (by decide)) (Nat.le_trans lB (by decide)) (by rw[YL two32];exact hB);subst e;rw[YL two32,YL two32]at o1 o2;exact⟨q,r,H',hc,k,o1,o2⟩
section
variable {H : AH} {va vb : Value} {A B : Nat}
theorem En(ha:Sl H va (ds Yk A))(hb:Sl H vb (ds Yk B))(lA:(ds Yk A).length<=2*WJ)(lB:(ds Yk B).length<=2*WJ):CW Tryz.prog ZY 63 [va,vb] H fun v H'=>Zj H H'/\Sl H' v (ds Yk (Nat.gcd A B)):=by
 refine Yd 19 Tryz.func63 ?_;apply Za;intro b1 Zf;simp;subst Zf;apply Zi;intro b1 Zf;apply ZR;refine YS (fun m s'=>s'.k=19/\Zj H s'.H/\ ∃(a:Nat) (av bv:Value),Nat.gcd a m=Nat.gcd A B/\(ds Yk a).length<=2*WJ/\(ds Yk m).length<=2*WJ/\Sl s'.H av (ds Yk a)/\Sl s'.H bv (ds Yk m)/\s'.tm.get 0=some av/\s'.tm.get 1=some bv) ?_ B _ ⟨rfl,.refl H,A,va,vb,rfl,lA,lB,ha,hb,by simp,by simp⟩;rintro m ⟨k,tm,H3⟩ ⟨hk,k3,a,av,bv,hg,la,lm,oa,ob,t0,t1⟩ Q' YA;simp only at hk k3 oa ob t0 t1;subst hk;have z:=IC ob;apply Zi;intro b3 Z4;apply Za;intro b4 Yy;simp[t1,z];subst Yy;by_cases hm:m=0;·refine Zb (t:=false) (by simp[hm]) ?_;apply YN;apply YA;left;refine⟨rfl,?_⟩;subst hm;rw[Nat.gcd_zero_right]at hg;subst Zf;apply Za;intro b4 Yy;simp[t0];subst Yy;apply ZZ;simp;rw[<-hg];exact⟨k3,oa⟩
 ·refine Zb (t:=true) (by simp[hm]) ?_;apply Zr;subst Z4;obtain⟨q,r,H4,c4,k4,oq,qF⟩:=Q1 oa ob la lm (by omega);apply ZR;apply Za;intro b3 Z4;simp[t0,t1,c4];subst Z4;apply Zl;simp[t1];apply YA;refine⟨a%m,Nat.mod_lt _ (by omega),rfl,k3.trans k4,m,bv,r,?_,lm,Nat.le_trans (Uq two32 (Nat.mod_le a m)) la,ob.keep k4,qF.sl,by simp,by simp⟩;rw[<-hg,Nat.gcd_comm a m,Nat.gcd_rec m a,Nat.gcd_comm]
theorem jC{H:AH}{v:Value}{xs:List Nat}(h:Sl H v xs)(dx:YH Zc xs)(hl:xs.length<=WJ): ∃v' H',ZU Tryz.prog ZY 17 [v] H=some (v',H')/\Zj H H'/\Ym H.n H' v' (ds Yk (dv Zc xs))/\(ds Yk (dv Zc xs)).length<=2*WJ:=by
 obtain⟨v',H',hc,k,o⟩:=jA h dx (Nat.le_trans hl (by decide));refine⟨v',H',hc,k,o,?_⟩;have h1:dv Zc xs<Yk^(2*xs.length):=by have:=Wh (Oq dx);rwa[N3,RI]at this
 have:=XI two32 h1;have hl:xs.length<=2000000000000:=hl;show _<=2*2000000000000;omega
end
inductive RT where|node(op:Int)(neg:Bool)(N D:Nat)(bad:Bool)(args:List RT)
mutual def RT.nodes:RT->Nat| .node _ _ _ _ _ args=>1+WC args def WC:List RT->Nat|[]=>0|t::ts=>t.nodes+WC ts end
mutual def RT.depth:RT->Nat| .node _ _ _ _ _ args=>IP args+1 def IP:List RT->Nat|[]=>0|t::ts=>max t.depth (IP ts) end
def xH(op:Int)(bad:Bool)(n:Nat):Bool:=!bad&&decide (0<=op/\op<16/\n=arity op.toNat)
mutual def RT.right:RT->Bool| .node op _ _ _ bad args=>xH op bad args.length&&IL args def IL:List RT->Bool|[]=>true|t::ts=>t.right&&IL ts end
mutual def RT.fit:RT->Prop| .node _ _ N D _ args=>Zq N<=67108864/\Zq D<=67108864/\BO args def BO:List RT->Prop|[]=>True|t::ts=>t.fit/\BO ts end
def Z8(neg:Bool)(n d:Nat):Bool×Nat×Nat:=if n=0 then(false,0,1)else(neg,n/Nat.gcd n d,d/Nat.gcd n d)
theorem Tg(t:RT):0<t.nodes:=by cases t;simp only[RT.nodes];omega
theorem V7{xs:List RT}{i:Nat}{t:RT}(hi:xs[i]?=some t):t.nodes<=WC xs:=by induction xs generalizing i with
 |nil=>simp at hi
 |cons x xs ih=>cases i with|zero=>simp at hi;subst hi;simp[WC]|succ i=>simp at hi;have:=ih hi;simp only[WC];omega
theorem JN(xs:List RT):xs.length<=WC xs:=by induction xs with|nil=>simp|cons x xs ih=>have:=Tg x;simp only[WC,List.length_cons];omega
theorem Ye{n m:Nat}(h:n<=m):Zq n<=Zq m:=by
 rcases Nat.eq_zero_or_pos n with h0|h0;·subst h0;exact Nat.zero_le _
 ·have h1:=WN (n:=n) (by omega);have h2:=Ww m;have:=(Nat.pow_lt_pow_iff_right (a:=2) (by decide)).mp (Nat.lt_of_le_of_lt (Nat.le_trans h1 h) h2);omega
def SlQ(Q:Nat->Prop)(H:AH)(v:Value)(xs:List Nat):Prop:=Sl H v xs/\ ∀c,Yt v=some c->Q c
def yp(Q:Nat->Prop)(H H':AH):Prop:=H.n<=H'.n/\ ∀j,Q j->j<H.n->H'.blk j=H.blk j
theorem Sl.agr{Q:Nat->Prop}{H H':AH}{v:Value}{xs:List Nat}(h:Sl H v xs)(hq: ∀c,Yt v=some c->Q c)(k:yp Q H H'):Sl H' v xs:=by cases h with|nil=>exact .nil|emp b=>exact .emp b|mk b o cap xs h1 h2=>obtain⟨h3,cs,h4,h5,h6⟩:=h2;have e:=k.2 b (hq b rfl) h3;exact .mk b o cap xs h1 ⟨Nat.lt_of_lt_of_le h3 k.1,cs,by unfold AH.cells;rw[e];exact h4,by unfold AH.size;rw[e];exact h5,h6⟩
mutual inductive Rx(Q:Nat->Prop)(H:AH):List Value->RT->Prop|mk{op:Int}{neg bad:Bool}{vn vd vx:Value}{N D:Nat}{args:List RT} :SlQ Q H vn (ds Yk N)->SlQ Q H vd (ds Yk D)->iv Q H vx args->Rx Q H [.int .i64 op,.bool neg,vn,vd,.bool bad,vx] (.node op neg N D bad args) inductive iv(Q:Nat->Prop)(H:AH):Value->List RT->Prop|nil:iv Q H (.slice none 0 0) []|mk(b cap:Nat){cs:List Value}{args:List RT} :Q b->b<H.n->H.blk b= .rw 6 cs->args.length<=cap->(∀(i:Nat)(t:RT),args[i]?=some t->Rx Q H ((cs.drop (i*6)).take 6) t)->iv Q H (.slice (some ⟨b,0,none⟩) args.length cap) args end
theorem ru{Q Q':Nat->Prop}{H H':AH}(k:yp Q H H')(hQ: ∀j,j<H.n->Q j->Q' j): ∀n(t:RT),t.nodes<=n-> ∀vs,Rx Q H vs t->Rx Q' H' vs t:=by intro n;induction n with
 |zero=>intro t h;have:=Tg t;omega
 |succ n ih=>intro t h vs hx;cases hx with
  |mk h1 h2 h3=>simp only[RT.nodes]at h;refine .mk ⟨h1.1.agr h1.2 k,fun c hc=>hQ c (h1.1.blk_lt hc) (h1.2 c hc)⟩ ⟨h2.1.agr h2.2 k,fun c hc=>hQ c (h2.1.blk_lt hc) (h2.2 c hc)⟩ ?_;cases h3 with
   |nil=>exact .nil
   |mk b cap hq hb hc hl hf=>
    rename_i cs;refine .mk b cap (cs:=cs) (hQ b hb hq) (Nat.lt_of_lt_of_le hb k.1) ?_ hl fun i t hi=>?_;·rw[k.2 b hq hb];exact hc
    ·have:=V7 hi;exact ih t (by omega) _ (hf i t hi)
theorem Rx.agr{Q Q':Nat->Prop}{H H':AH}{vs:List Value}{t:RT}(h:Rx Q H vs t)(k:yp Q H H')(hQ: ∀j,j<H.n->Q j->Q' j):Rx Q' H' vs t:=ru k hQ _ t (Nat.le_refl _) vs h
theorem Zj.agr{H H':AH}(k:Zj H H')(Q:Nat->Prop):yp Q H H':=⟨k.n,fun j _ hj=>k.blk j hj⟩
theorem Rx.keep{Q:Nat->Prop}{H H':AH}{vs:List Value}{t:RT}(h:Rx Q H vs t)(k:Zj H H'):Rx Q H' vs t:=h.agr (k.agr Q) fun _ _ h=>h
theorem Rx.len{Q:Nat->Prop}{H:AH}{vs:List Value}{t:RT}(h:Rx Q H vs t):vs.length=6:=by cases h;rfl
theorem Sl.one1{H:AH}{v:Value}{xs:List Nat}(h:Sl H v xs):one v=true:=by cases h<;>rfl
theorem iv.one1{Q:Nat->Prop}{H:AH}{v:Value}{l:List RT}(h:iv Q H v l):one v=true:=by cases h<;>rfl
theorem Rx.ones{Q:Nat->Prop}{H:AH}{vs:List Value}{t:RT}(h:Rx Q H vs t):vs.all one=true:=by cases h with|mk h1 h2 h3=>simp only[List.all_cons,List.all_nil,h1.1.one1,h2.1.one1,h3.one1,Bool.and_true];rfl
theorem aE:XY Tryz.prog 68=some true:=by kernel_rfl
theorem sE:Xh Tryz.prog 68=some 6:=by kernel_rfl
theorem tn:XY Tryz.prog 37=some false:=by kernel_rfl
theorem zE:W0 Tryz.prog 68=some (.agg #[.int .i64 0,.bool false,.slice none 0 0,.slice none 0 0,.bool false,.slice none 0 0]):=by kernel_rfl
theorem uEs:Tryz.prog.underlying 66=some (.slice 68):=by kernel_rfl
theorem sEs:Vd Tryz.prog 66=some (68,6,96):=by kernel_rfl
theorem iv.len{Q:Nat->Prop}{H:AH}{v:Value}{args:List RT}(h:iv Q H v args):QI Tryz.prog 66 v=some args.length:=by unfold QI;rw[uEs];cases h<;>rfl
theorem qT{H:AH}{b o:Nat}{cs vs:List Value}(h:H.cells b=some cs)(hk:(cs.drop o).take 6=vs)(hl:vs.length=6):Z9 Tryz.prog H 68 (.pointer (some ⟨b,o,none⟩))=some (.agg vs.toArray):=by
 unfold Z9;simp only[aE,sE,AH.read_def,h];have:o+6<=cs.length:=by have:=congrArg List.length hk;rw[List.length_take,List.length_drop,hl]at this;omega
 rw[Nat.ble_eq.mpr this,cond_true,hk]
theorem iv.at{Q:Nat->Prop}{H:AH}{v:Value}{args:List RT}(h:iv Q H v args){i:Nat}{t:RT}(hi:args[i]?=some t): ∃(p:Value) (vs:List Value),Yi Tryz.prog 66 v (.int .i64 (i:Int))=some p/\(∀H',Zj H H'->Z9 Tryz.prog H' 68 p=some (.agg vs.toArray))/\Rx Q H vs t:=by
 have YX:i<args.length:=by
  rcases Nat.lt_or_ge i args.length with h'|h';·exact h'
  ·rw[List.getElem?_eq_none h']at hi;cases hi
 cases h with
  |nil=>simp at hi
  |mk b cap hq hb hc hl hf=>
   rename_i cs;have hE:=hf i t hi;have S9:H.cells b=some cs:=by unfold AH.cells;rw[hc]
   refine⟨.pointer (some ⟨b,i*6,none⟩),_,?_,fun H' k=>qT ((VY k hb).trans S9) rfl hE.len,hE⟩;unfold Yi;simp only[uEs,sE];rw[if_pos (by omega)];simp
theorem feN(b o:Nat):Ys Tryz.prog 42 (.pointer (some ⟨b,o,none⟩)) 1=some (.pointer (some ⟨b,o+1,none⟩)):=by kernel_rfl
theorem feD(b o:Nat):Ys Tryz.prog 42 (.pointer (some ⟨b,o,none⟩)) 2=some (.pointer (some ⟨b,o+2,none⟩)):=by kernel_rfl
theorem Sl.shape{H:AH}{v:Value}{xs:List Nat}(h:Sl H v xs): ∃a l c,v= .slice a l c:=by cases h<;>exact⟨_,_,_,rfl⟩
theorem Ym.shape{n:Nat}{H:AH}{v:Value}{xs:List Nat}(h:Ym n H v xs): ∃a l c,v= .slice a l c:=h.sl.shape
theorem iS(a:Option Addr)(l c:Nat):Wt Tryz.prog 42 [(2,.slice a l c)]=some (.agg #[.bool false,.slice none 0 0,.slice a l c]):=by kernel_rfl
theorem iR(n:Bool)(a a':Option Addr)(l c l' c':Nat):Wt Tryz.prog 42 [(0,.bool n),(1,.slice a l c),(2,.slice a' l' c')]=some (.agg #[.bool n,.slice a l c,.slice a' l' c']):=by kernel_rfl
theorem zR:W0 Tryz.prog 42=some (.agg #[.bool false,.slice none 0 0,.slice none 0 0]):=by kernel_rfl
theorem sR:Xh Tryz.prog 42=some 3:=by kernel_rfl
theorem aR:XY Tryz.prog 42=some true:=by kernel_rfl
theorem D8{H:AH}{b o:Nat}{cs vs:List Value}(h:H.cells b=some cs)(hk:(cs.drop o).take 3=vs)(hl:vs.length=3):Z9 Tryz.prog H 42 (.pointer (some ⟨b,o,none⟩))=some (.agg vs.toArray):=by
 unfold Z9;simp only[aR,sR,AH.read_def,h];have:o+3<=cs.length:=by have:=congrArg List.length hk;rw[List.length_take,List.length_drop,hl]at this;omega
 rw[Nat.ble_eq.mpr this,cond_true,hk]
theorem Wz{H:AH}{sz:Nat}{cs ws:List Value}{t:TypeId}{n b o:Nat}(ht:Xh Tryz.prog t=some n)(hb:H.blk b= .rw sz cs){v:Value}(hv:v.cells.toList=ws)(hw:ws.length=n)(ho:o+n<=cs.length)(h1:ws.all one=true)(wq:sz≠0:=by decide): ∃H',YV Tryz.prog H t (.pointer (some ⟨b,o,none⟩)) v=some H'/\H'.blk b= .rw sz (cs.take o++ws++cs.drop (o+n))/\H'.n=H.n/\(∀j,j≠b->H'.blk j=H.blk j)/\Vz b H H'/\H'.lw=min H.lw b:=by
 obtain⟨sz,rfl⟩: ∃k,sz=k+1:=⟨sz-1,by omega⟩;have hs:v.cells.size=n:=by rw[<-hw,<-hv];simp
 have hle:Nat.ble (o+n) cs.length=true:=Nat.ble_eq.mpr ho;refine⟨{ n:=H.n,lw:=min H.lw b,t:=H.t.set b (.rw (sz+1) (cs.take o++ws++cs.drop (o+n))) },?_,?_,rfl,fun j hj=>?_,fun H0 k hn=>⟨k.n,?_,fun j hj=>?_⟩,rfl⟩;·unfold YV;simp only[ht,hs,hv];rw[show Nat.beq n n=true from by simp,cond_true,AH.write_def,hb];simp only[hw,hle,h1,Bool.and_self,cond_true]
 ·unfold AH.blk;simp only[Tr.get_set,if_true]
 ·unfold AH.blk;simp only[Tr.get_set];rw[if_neg hj]
 ·have:=k.lw;show min H0.lw H0.n<=min H.lw b;omega
 ·unfold AH.blk;simp only[Tr.get_set];rw[if_neg (by omega)];exact k.blk j hj
section
variable {H : AH} {va vb vm : Value}
theorem Q2(x:Nat)(hx:x<Zc): ∃v H',ZU Tryz.prog ZY 62 [.int .i64 (x:Int)] H=some (v,H')/\Zj H H'/\Ym H.n H' v (ds Yk x)/\(ds Yk x).length<=2*WJ:=by
 obtain⟨v1,H1,c1,k1,o1⟩:=Qv H Yh x;obtain⟨v2,H2,c2,k2,o2,l2⟩:=jC o1.sl (dig1 hx) (show 1<=2000000000000 by decide);rw[dv1]at o2 l2;suffices hs:CW Tryz.prog ZY 62 [.int .i64 (x:Int)] H fun v H'=>v=v2/\H'=H2 by obtain⟨_,_,hc,rfl,rfl⟩:=hs;exact⟨_,_,hc,k1.trans k2,o2.mono k1.n (.refl _),l2⟩
 refine Yd 7 Tryz.func62 ?_;apply Za;intro b1 Zf;simp;subst Zf;apply Za;intro b1 Zf;simp[Ph hx,c1,c2];subst Zf;apply ZZ;simp
def Js(n:Nat)(H:AH)(us:List Value)(r:Bool×Nat×Nat):Prop:= ∃a b,us=[.bool r.1,a,b]/\Ym n H a (ds Yk r.2.1)/\Ym n H b (ds Yk r.2.2)
theorem A1{vn vd:Value}{N D:Nat}(neg:Bool)(hn:Sl H vn (ds Yk N))(hd:Sl H vd (ds Yk D))(lN:(ds Yk N).length<=2*WJ)(lD:(ds Yk D).length<=2*WJ)(h0:0<D): ∃us H',ZU Tryz.prog ZY 22 [.bool neg,vn,vd] H=some (.agg us.toArray,H')/\Zj H H'/\Js H.n H' us (Z8 neg N D):=by
 suffices hs:CW Tryz.prog ZY 22 [.bool neg,vn,vd] H fun v H'=> ∃us:List Value,v= .agg us.toArray/\Zj H H'/\Js H.n H' us (Z8 neg N D) by obtain⟨_,H',hc,us,rfl,h⟩:=hs;exact⟨us,H',hc,h⟩
 obtain⟨r,hr⟩:=hid (Z8 neg N D);rw[<-hr];unfold Z8 at hr;refine Yd 31 Tryz.func22 ?_;have kB:=Zj.new H 1 [.bool false,.slice none 0 0,.slice none 0 0];have bB:(H.new 1 [.bool false,.slice none 0 0,.slice none 0 0]).blk H.n= .rw 1 [.bool false,.slice none 0 0,.slice none 0 0]:=by rw[AH.blk_new,if_pos rfl]
 have nB:(H.new 1 [.bool false,.slice none 0 0,.slice none 0 0]).n=H.n+1:=rfl;obtain⟨HB,gO⟩:=hid (H.new 1 [.bool false,.slice none 0 0,.slice none 0 0]);rw[<-gO]at kB bB nB;have z:=IC (hn.keep kB);apply Za;intro b1 Zf;simp[zR,Value.cells,<-gO];subst Zf;apply Zi;intro b1 Zf;apply Za;intro b2 ZT;simp[z];subst ZT;by_cases hN:N=0;·refine Zb (t:=true) (by simp[hN]) ?_;rw[if_pos hN]at hr;obtain⟨v1,H1,c1,k1,o1,_⟩:=Q2 (H:=HB) 1 (by decide);obtain⟨x,l,c,rfl⟩:=o1.shape;obtain⟨H2,st,blk,n2,j8,ka,_⟩:=Wz (H:=H1) (b:=H.n) (cs:=[.bool false,.slice none 0 0,.slice none 0 0]) (sz:=1) (o:=0) sR (by rw[k1.blk _ (by omega)];exact bB) (v:= .agg #[.bool false,.slice none 0 0,.slice x l c]) (ws:=[.bool false,.slice none 0 0,.slice x l c]) rfl rfl (by simp) rfl;have c1:ZU Tryz.prog ZY 62 [.int .i64 1] HB=some (.slice x l c,H1):=c1;apply Za;intro b1 Zf;simp[c1,iS,st];subst Zf;apply ZZ;have ld:Z9 Tryz.prog H2 42 (.pointer (some ⟨H.n,0,none⟩))=some (.agg #[.bool false,.slice none 0 0,.slice x l c]):=D8 (vs:=[.bool false,.slice none 0 0,.slice x l c]) (by unfold AH.cells;rw[blk]) rfl rfl;simp[YQ,ld];refine⟨ka H (kB.trans k1) (Nat.le_refl _),_,_,by rw[hr],by rw[hr,Xl];exact .nil,?_⟩;rw[hr];exact(o1.mono (m:=H.n) (by omega) (.refl _)).but (b:=some H.n) ⟨n2,fun j _ hj=>j8 j (fun e=>hj (by rw[e]))⟩ fun c' e h=>by cases e;have:=o1.blk_lo h;omega
 ·refine Zb (t:=false) (by simp[hN]) ?_;rw[if_neg hN]at hr;apply Zr;subst Zf;obtain⟨_,H1,c1,k1,s1⟩:=En (hn.keep kB) (hd.keep kB) lN lD;obtain⟨g,hg⟩:=hid (Nat.gcd N D);rw[<-hg]at s1 hr;have g0:0<g:=by rw[hg];exact Nat.gcd_pos_of_pos_right _ h0
  have gl:(ds Yk g).length<=2*WJ:=Nat.le_trans (Uq two32 (by rw[hg];exact Nat.le_of_dvd h0 (Nat.gcd_dvd_right N D))) lD;obtain⟨q1,r1,H2,c2,k2,o2,_⟩:=Q1 (hn.keep (kB.trans k1)) s1 lN gl g0;obtain⟨q2,r2,H3,c3,k3,o3,_⟩:=Q1 (hd.keep ((kB.trans k1).trans k2)) (s1.keep k2) lD gl g0;have n1:=k1.n;have n2:=k2.n;obtain⟨x,l,c,rfl⟩:=o2.shape;obtain⟨x',l',c',rfl⟩:=o3.shape;obtain⟨H4,st,blk,n4,j8,ka,_⟩:=Wz (H:=H3) (b:=H.n) (cs:=[.bool false,.slice none 0 0,.slice none 0 0]) (sz:=1) (o:=0) sR (by rw[k3.blk _ (by omega),k2.blk _ (by omega),k1.blk _ (by omega)];exact bB) (v:= .agg #[.bool neg,.slice x l c,.slice x' l' c']) (ws:=[.bool neg,.slice x l c,.slice x' l' c']) rfl rfl (by simp) rfl;apply Za;intro b1 Zf;simp[c1];subst Zf;apply Za;intro b1 Zf;simp[c2];subst Zf;apply Za;intro b1 Zf;simp[c3];subst Zf;apply Za;intro b1 Zf;simp[iR,st];subst Zf;apply ZZ;have ld:Z9 Tryz.prog H4 42 (.pointer (some ⟨H.n,0,none⟩))=some (.agg #[.bool neg,.slice x l c,.slice x' l' c']):=D8 (vs:=[.bool neg,.slice x l c,.slice x' l' c']) (by unfold AH.cells;rw[blk]) rfl rfl;simp[ld];have bt:T4 (some H.n) H3 H4:=⟨n4,fun j _ hj=>j8 j (fun e=>hj (by rw[e]))⟩;refine⟨ka H (((kB.trans k1).trans k2).trans k3) (Nat.le_refl _),_,_,by rw[hr],?_,?_⟩;·rw[hr];exact(o2.mono (m:=H.n) (by omega) k3).but bt fun c' e h=>by cases e;have:=o2.blk_lo h;omega
  ·rw[hr];exact(o3.mono (m:=H.n) (by omega) (.refl _)).but bt fun c' e h=>by cases e;have:=o3.blk_lo h;omega
end
theorem SJ{x y:Int} :Zd .neq .i64 x y=some (.bool (decide (x≠y))):=by
 show some (Value.bool (x !=y))=_;congr 2;by_cases h:x=y;·subst h;simp
 ·rw[decide_eq_true h];simp[bne];omega
section
variable {Q : Nat -> Prop}
end
section
variable {Q : Nat -> Prop}
section
variable {H : AH} {vs : List Value} {t : RT}
end
end
theorem Bs{n0 b:Nat}{H:AH}{sz:Nat}{cs:List Value}(h:n0<=b):Vz n0 H ((H.kill b).new sz cs):=fun H0 k Sb=>by
 have:=k.n;have eH:(H.kill b).n=H.n:=rfl;refine⟨by show H0.n<=H.n+1;omega,?_,fun j hj=>?_⟩;·have:=k.lw;show min H0.lw H0.n<=min H.lw b;omega
 ·rw[AH.blk_new,if_neg (by rw[eH];omega),AH.blk_kill,if_neg (by omega)];exact k.blk j hj
theorem Tn{n0:Nat}{H H2:AH}(h:Vz n0 H.top H2):Vz n0 H (low H H2):=eE h
theorem QX{x y:Int} :Zd .eql .i64 x y=some (.bool (decide (x=y))):=by show some (Value.bool (x==y))=_;rfl
def Jr(nh:Nat)(H:AH)(xv:Value)(l:List RT):Prop:=(xv= .slice none 0 0/\l=[])\/ ∃b cs,xv= .slice (some ⟨b,0,none⟩) l.length l.length/\nh<=b/\b<H.n/\H.blk b= .rw 6 cs/\cs.length=l.length*6/\ ∀(j:Nat)(u:RT),l[j]?=some u->Rx (fun j=>nh<=j/\j≠b) H ((cs.drop (j*6)).take 6) u
theorem Jr.one1{nh:Nat}{H:AH}{xv:Value}{l:List RT}(h:Jr nh H xv l):one xv=true/\xv.cells.toList=[xv]:=by rcases h with⟨rfl,_⟩|⟨b,cs,rfl,_⟩<;>exact⟨rfl,rfl⟩
theorem Jr.append{nh:Nat}{H:AH}{xv:Value}{l:List RT}(h:Jr nh H xv l)(hn:nh<=H.n){w:Nat}(hw:nh<=w)(hwn:w<H.n){us:List Value}{x:RT}(hb:H.blk w= .rw 6 us)(hx:Rx (fun j=>nh<=j) H us x)(hl:l.length<1000000000)(HM: ∀b,Yt xv=some b->Rx (fun j=>nh<=j/\j≠b) H us x/\b≠w): ∃H',XA Tryz.prog H 66 66 xv (.slice (some ⟨w,0,none⟩) 1 1)=some (.slice (some ⟨H.n,0,none⟩) (l.length+1) (l.length+1),H')/\H'.n=H.n+1/\Vz nh H H'/\(∀j,j<H.n->Yt xv≠some j->H'.blk j=H.blk j)/\Jr nh H' (.slice (some ⟨H.n,0,none⟩) (l.length+1) (l.length+1)) (l++[x])/\(Yt xv=none->H'.lw=H.lw)/\(∀b,Yt xv=some b->H'.lw<=b/\b<H.n):=by
 have hul:=hx.len;have huo:=hx.ones;have hc:H.read w 0 6=some us:=by
  rw[AH.read_def];have:H.cells w=some us:=by unfold AH.cells;rw[hb]
  simp only[this,Nat.zero_add];rw[Nat.ble_eq.mpr (by omega),cond_true,List.drop_zero,List.take_of_length_le (by omega)]
 rcases h with⟨rfl,rfl⟩|⟨b,cs,rfl,Zf,ZT,Z4,Yy,SV⟩
 ·refine⟨H.new 6 us,?_,rfl,(Zj.new H 6 us).kat nh,fun j hj _=>?_,.inr ⟨H.n,us,rfl,hn,Nat.lt_succ_self _,by rw[AH.blk_new,if_pos rfl],by simp[hul],fun j u hu=>?_⟩,fun _=>rfl,fun b hb=>by cases hb⟩;·unfold XA;simp only[sEs,zE,X9,hc];rfl
  ·rw[AH.blk_new,if_neg (by omega)]
  ·match j,hu with|0,hu=>cases hu;rw[Nat.zero_mul,List.drop_zero,List.take_of_length_le (by omega)];exact hx.agr ⟨Nat.le_succ _,fun j _ hj=>by rw[AH.blk_new,if_neg (by omega)]⟩ fun j hj hq=>⟨hq,by omega⟩
 ·obtain⟨hxq,gK⟩:=HM b rfl;have eH:(H.kill b).n=H.n:=rfl;have e1:Nat.ble ((l.length+1)*96) 140737488355328=true:=Nat.ble_eq.mpr (by omega);have e2:Nat.ble (l.length+1) 281474976710656=true:=Nat.ble_eq.mpr (by omega);have e3:Nat.ble (0+l.length*6) cs.length=true:=Nat.ble_eq.mpr (by omega);have j8: ∀j,j<H.n->j≠b->((H.kill b).new 6 (cs++us)).blk j=H.blk j:=fun j hj dW=>by rw[AH.blk_new,if_neg (by rw[eH];omega),AH.blk_kill,if_neg dW]
  refine⟨(H.kill b).new 6 (cs++us),?_,rfl,Bs Zf,fun j hj dW=>j8 j hj (fun e=>dW (by rw[e];rfl)),.inr ⟨H.n,cs++us,by simp,hn,Nat.lt_succ_self _,by rw[AH.blk_new,if_pos eH.symm],by simp[hul,Yy];omega,fun j u hu=>?_⟩,(fun h=>by cases h),(fun b' X6=>by cases X6;exact⟨Nat.min_le_right _ _,ZT⟩)⟩;·unfold XA;simp only[sEs,zE,X9,hc,Z4,e1,e2,e3,huo];rw[List.drop_zero,List.take_of_length_le (by omega)];rfl
  ·rw[List.getElem?_append]at hu;split at hu
   ·rename_i hj;have:((cs++us).drop (j*6)).take 6=(cs.drop (j*6)).take 6:=by rw[List.drop_append_of_le_length (by omega),List.take_append_of_le_length (by rw[List.length_drop];omega)]
    rw[this];exact(SV j u hu).agr ⟨Nat.le_succ _,fun i hi JV=>j8 i JV hi.2⟩ fun i JV hi=>⟨hi.1,by omega⟩
   ·rename_i hj;obtain rfl:j=l.length:=by have:=List.getElem?_eq_some_iff.mp hu;obtain⟨h,_⟩:=this;simp at h;omega
    simp at hu;subst hu;have:((cs++us).drop (l.length*6)).take 6=us:=by rw[<-Yy,List.drop_left,List.take_of_length_le (by omega)]
    rw[this];exact hxq.agr ⟨Nat.le_succ _,fun i hi JV=>j8 i JV hi.2⟩ fun i JV hi=>⟨hi.1,by omega⟩
theorem Jr.agr{nh:Nat}{H H':AH}{xv:Value}{l:List RT}(h:Jr nh H xv l)(hn:H.n<=H'.n)(k: ∀j,nh<=j->j<H.n->H'.blk j=H.blk j):Jr nh H' xv l:=by
 rcases h with h|⟨b,cs,h1,h2,h3,h4,h5,h6⟩;·exact .inl h
 ·exact .inr ⟨b,cs,h1,h2,by omega,by rw[k b h2 h3];exact h4,h5,fun j u hu=>(h6 j u hu).agr ⟨hn,fun i hi JV=>k i hi.1 JV⟩ fun _ _ h=>h⟩
theorem Jr.blk{nh:Nat}{H:AH}{xv:Value}{l:List RT}(h:Jr nh H xv l){b:Nat}(hb:Yt xv=some b):nh<=b/\b<H.n:=by
 rcases h with⟨rfl,_⟩|⟨b',cs,rfl,h2,h3,_⟩;·cases hb
 ·cases hb;exact⟨h2,h3⟩
theorem zO(a b c:Bool):(a||b||c)=(a||(b||c)):=Bool.or_assoc ..
theorem Nw{H:AH}{va vb:Value}{xs ys:List Nat}(ha:Sl H va xs)(hb:Sl H vb ys)(dx:YH Zc xs)(dy:YH Zc ys)(lx:xs.length<=WJ)(ly:ys.length<=WJ): ∃v1 v2 H1 H2,ZU Tryz.prog ZY 120 [va] H=some (v1,H1)/\ZU Tryz.prog ZY 120 [vb] H1=some (v2,H2)/\Zj H H2/\Ym H.n H2 v1 (ds Zc (dv Zc xs))/\Ym H.n H2 v2 (ds Zc (dv Zc ys))/\Vg v1 v2:=by obtain⟨v1,H1,h1,k1,o1⟩:=Vl ha (Nat.le_trans lx (by decide));obtain⟨v2,H2,h2,k2,o2⟩:=Vl (hb.keep k1) (Nat.le_trans ly (by decide));rw[Xi Z2 dx]at o1;rw[Xi Z2 dy]at o2;exact⟨v1,v2,H1,H2,h1,h2,k1.trans k2,o1.m k2,o2.mono k1.n (.refl _),Un o1 o2 (Nat.le_refl _)⟩
theorem Qz{n0:Nat}{H:AH}{va vb:Value}{A B:Nat}(ha:Ym n0 H va (ds Zc A))(hb:Sl H vb (ds Zc B))(Sb:n0<=H.n)(lA:(ds Zc A).length<=WJ)(lB:(ds Zc B).length<=WJ)(hB:0<B): ∃q r H',ZU Tryz.prog ZY 193 [va,vb] H=some (.tuple #[q,r],H')/\Zj H H'/\Ym H.n H' q (ds Zc (A/B))/\Ym n0 H' r (ds Zc (A%B))/\Vg q r:=by obtain⟨v,H',hc,k,q,r,e,o1,o2,ap⟩:=GB ha hb Sb (Yx Z2 A) (Yx Z2 B) (Pj Z2 A) (Pj Z2 B) (Nat.le_trans lA (by decide)) (Nat.le_trans lB (by decide)) ((W5 Z2).mpr hB);subst e;rw[YL Z2,YL Z2]at o1 o2;exact⟨q,r,H',hc,k,o1,o2,ap⟩
theorem Xm{H:AH}{v:Value}{A:Nat}(h:Sl H v (ds Zc A))(lA:(ds Zc A).length<=WJ):ZU Tryz.prog ZY 123 [v] H=some (.int .i64 (Zq A:Int),H):=by obtain⟨_,_,hc,rfl,rfl⟩:=W4 h (Yx Z2 A) (Nat.le_trans lA (by decide));rw[YL Z2]at hc;exact hc
theorem QO{x:Nat} :Zd .gtr .i64 (x:Int) 67108864=some (.bool (decide (67108864<x))):=W8 (y:=67108864)
section
variable {H : AH} {va vb : Value} {xs ys : List Nat}
def nM(n0:Nat)(A B:Nat)(v:Value)(H':AH):Prop:=(B=0/\v= .tuple #[.slice none 0 0,.slice none 0 0,.int .i64 30])\/(0<B/\(67108864<Zq (A/B)\/67108864<Zq (A%B))/\v= .tuple #[.slice none 0 0,.slice none 0 0,.int .i64 3])\/(0<B/\Zq (A/B)<=67108864/\Zq (A%B)<=67108864/\ ∃q r,v= .tuple #[q,r,.int .i64 0]/\Ym n0 H' q (ds Zc (A/B))/\Ym n0 H' r (ds Zc (A%B))/\Vg q r)
theorem B7(ha:Sl H va xs)(hb:Sl H vb ys)(dx:YH Zc xs)(dy:YH Zc ys)(lx:xs.length<=WJ)(ly:ys.length<=WJ):CW Tryz.prog ZY 200 [va,vb] H fun v H'=>Zj H H'/\nM H.n (dv Zc xs) (dv Zc ys) v H':=by
 refine Yd 32 Tryz.func200 ?_;obtain⟨v1,v2,H1,H2,c1,c2,k2,o1,o2,ap⟩:=Nw ha hb dx dy lx ly;have lA:=Nat.le_trans (VX dx) lx;have lB:=Nat.le_trans (VX dy) ly;generalize dv Zc xs=A at*;generalize dv Zc ys=B at*;have l2:=o2.sl.len Zu;apply Za;intro b1 Zf;simp;subst Zf;apply Za;intro b1 Zf;simp[c1,c2];subst Zf;apply Zi;intro b1 Zf;apply Za;intro b2 ZT;simp[l2,We,Wg Z2];subst ZT;by_cases hB:B=0;·refine Zb (t:=true) (by simp[hB]) ?_;apply Za;intro b2 ZT;simp;subst ZT;apply ZZ;simp[YQ];exact⟨k2,.inl ⟨hB,rfl⟩⟩
 ·refine Zb (t:=false) (by simp[hB]) ?_;apply Zr;subst Zf;have NP:0<B:=by omega
  obtain⟨q,r,H3,c3,k3,oq,qF,apq⟩:=Qz o1 o2.sl k2.n lA lB NP;have lq:(ds Zc (A/B)).length<=WJ:=Nat.le_trans (Uq Z2 (Nat.div_le_self A B)) lA;have lr:(ds Zc (A%B)).length<=WJ:=Nat.le_trans (Uq Z2 (Nat.mod_le A B)) lA;have c4:=Xm oq.sl lq;have c5:=Xm qF.sl lr;apply Za;intro b1 Zf;simp[c3];subst Zf;apply Zi;intro b1 Zf;apply Za;intro b2 ZT;by_cases h1:67108864<Zq (A/B);·simp[c4,QO,h1];subst ZT;refine Zb (t:=true) (by simp) ?_;apply Za;intro b2 ZT;simp;subst ZT;apply ZZ;simp[YQ];exact⟨k2.trans k3,.inr (.inl ⟨NP,.inl h1,rfl⟩)⟩
  ·by_cases h2:67108864<Zq (A%B);·simp[c4,c5,QO,h1,h2];subst ZT;refine Zb (t:=true) (by simp) ?_;apply Za;intro b2 ZT;simp;subst ZT;apply ZZ;simp[YQ];exact⟨k2.trans k3,.inr (.inl ⟨NP,.inr h2,rfl⟩)⟩
   ·simp[c4,c5,QO,h1,h2];subst ZT;refine Zb (t:=false) (by simp) ?_;apply Zr;subst Zf;apply Za;intro b2 ZT;simp;subst ZT;apply ZZ;simp;exact⟨k2.trans k3,.inr (.inr ⟨NP,by omega,by omega,q,r,rfl,oq.mono k2.n (.refl _),qF,apq⟩)⟩
def tc(n0:Nat)(B Z:Nat)(v:Value)(H':AH):Prop:=(B=0/\v= .tuple #[.slice none 0 0,.int .i64 30])\/(0<B/\67108864<Zq Z/\v= .tuple #[.slice none 0 0,.int .i64 3])\/(0<B/\Zq Z<=67108864/\ ∃q,v= .tuple #[q,.int .i64 0]/\Ym n0 H' q (ds Zc Z))
theorem fS(ha:Sl H va xs)(hb:Sl H vb ys)(dx:YH Zc xs)(dy:YH Zc ys)(lx:xs.length<=WJ)(ly:ys.length<=WJ):CW Tryz.prog ZY 141 [va,vb] H fun v H'=>Zj H H'/\tc H.n (dv Zc ys) (dv Zc xs/dv Zc ys) v H':=by
 refine Yd 25 Tryz.func141 ?_;obtain⟨v1,v2,H1,H2,c1,c2,k2,o1,o2,ap⟩:=Nw ha hb dx dy lx ly;have lA:=Nat.le_trans (VX dx) lx;have lB:=Nat.le_trans (VX dy) ly;generalize dv Zc xs=A at*;generalize dv Zc ys=B at*;have l2:=o2.sl.len Zu;apply Za;intro b1 Zf;simp;subst Zf;apply Za;intro b1 Zf;simp[c1,c2];subst Zf;apply Zi;intro b1 Zf;apply Za;intro b2 ZT;simp[l2,We,Wg Z2];subst ZT;by_cases hB:B=0;·refine Zb (t:=true) (by simp[hB]) ?_;apply Za;intro b2 ZT;simp;subst ZT;apply ZZ;simp[YQ];exact⟨k2,.inl ⟨hB,rfl⟩⟩
 ·refine Zb (t:=false) (by simp[hB]) ?_;apply Zr;subst Zf;have NP:0<B:=by omega
  obtain⟨q,r,H3,c3,k3,oq,qF,apq⟩:=Qz o1 o2.sl k2.n lA lB NP;have lq:(ds Zc (A/B)).length<=WJ:=Nat.le_trans (Uq Z2 (Nat.div_le_self A B)) lA;have c4:=Xm oq.sl lq;apply Za;intro b1 Zf;simp[c3];subst Zf;apply Zi;intro b1 Zf;apply Za;intro b2 ZT;simp[c4,QO];subst ZT;by_cases h1:67108864<Zq (A/B);·refine Zb (t:=true) (by simp[h1]) ?_;apply Za;intro b2 ZT;simp;subst ZT;apply ZZ;simp[YQ];exact⟨k2.trans k3,.inr (.inl ⟨NP,h1,rfl⟩)⟩
  ·refine Zb (t:=false) (by simp[h1]) ?_;apply Zr;subst Zf;apply Za;intro b2 ZT;simp;subst ZT;apply ZZ;simp;exact⟨k2.trans k3,.inr (.inr ⟨NP,by omega,q,rfl,oq.mono k2.n (.refl _)⟩)⟩
theorem cH(ha:Sl H va xs)(hb:Sl H vb ys)(dx:YH Zc xs)(dy:YH Zc ys)(lx:xs.length<=WJ)(ly:ys.length<=WJ):CW Tryz.prog ZY 139 [va,vb] H fun v H'=>Zj H H'/\Ym H.n H' v (ds Zc (Nat.gcd (dv Zc xs) (dv Zc ys))):=by
 refine Yd 23 Tryz.func139 ?_;obtain⟨v1,v2,H1,H2,c1,c2,k2,o1,o2,ap⟩:=Nw ha hb dx dy lx ly;have lA:=Nat.le_trans (VX dx) lx;have lB:=Nat.le_trans (VX dy) ly;generalize dv Zc xs=A at*;generalize dv Zc ys=B at*;apply Za;intro b1 Zf;simp;subst Zf;apply Za;intro b1 Zf;simp[c1,c2];subst Zf;apply Zi;intro b1 Zf;apply ZR;refine YS (fun m s'=>s'.k=23/\Zj H s'.H/\ ∃(a:Nat) (av bv:Value),Nat.gcd a m=Nat.gcd A B/\(ds Zc a).length<=WJ/\(ds Zc m).length<=WJ/\Ym H.n s'.H av (ds Zc a)/\Ym H.n s'.H bv (ds Zc m)/\s'.tm.get 0=some av/\s'.tm.get 1=some bv) ?_ B _ ⟨rfl,k2,A,v1,v2,rfl,lA,lB,o1,o2,by simp,by simp⟩;rintro m ⟨k,tm,H3⟩ ⟨hk,k3,a,av,bv,hg,la,lm,oa,ob,t0,t1⟩ Q' YA;simp only at hk k3 oa ob t0 t1;subst hk;have lb:=ob.sl.len Zu;apply Zi;intro b3 Z4;apply Za;intro b4 Yy;simp[t1,lb,Kl,W5 Z2];subst Yy;by_cases hm:0<m;·refine Zb (t:=true) (by simp[hm]) ?_;apply Zr;subst Z4;obtain⟨q,r,H4,c4,k4,oq,qF,apq⟩:=Qz oa ob.sl k3.n la lm hm;apply ZR;apply Za;intro b3 Z4;simp[t0,t1,c4];subst Z4;apply Zl;simp[t1];apply YA;refine⟨a%m,Nat.mod_lt _ hm,rfl,k3.trans k4,m,bv,r,?_,lm,Nat.le_trans (Uq Z2 (Nat.mod_le a m)) la,ob.m k4,qF,by simp,by simp⟩;show Nat.gcd m (a%m)=_;rw[<-hg,Nat.gcd_comm a m,Nat.gcd_rec m a,Nat.gcd_comm]
 ·refine Zb (t:=false) (by simp[hm]) ?_;apply YN;apply YA;left;refine⟨rfl,?_⟩;obtain rfl:m=0:=by omega
  rw[Nat.gcd_zero_right]at hg;subst Zf;apply Za;intro b4 Yy;simp[t0];subst Yy;apply ZZ;simp;rw[<-hg];exact⟨k3,oa⟩
end
theorem Sl.part'{H:AH}{v:Value}{xs:List Nat}(h:Sl H v xs){t:TypeId}(ht:LT t){j m:Nat}(hm:j+m<=xs.length)(h0:j<xs.length): ∃w,Ve Tryz.prog H t v (some (.int .i64 (j:Int))) (some (.int .i64 ((j+m:Nat):Int))) none=some w/\Sl H w ((xs.drop j).take m)/\Yt w=Yt v:=by cases h with
 |nil=>simp at h0
 |emp b=>simp at h0
 |mk b o cap xs h1 h2=>
  have hl:((xs.drop j).take m).length=m:=by rw[List.length_take,List.length_drop];omega
  obtain⟨iJ,cs,h3,h4,h5⟩:=h2;refine⟨.slice (some ⟨b,o+j,none⟩) ((xs.drop j).take m).length (cap-j),?_,.mk b (o+j) (cap-j) _ (by omega) ⟨iJ,cs,h3,h4,fun i x hx=>?_,by have:=(List.getElem?_eq_some_iff.mp (h5.1 j _ (List.getElem?_eq_getElem h0))).1;omega⟩,rfl⟩
  ·unfold Ve;simp only[ht.1,NX];unfold Jw Xk;simp only[h4,Option.isSome_some,Option.isNone_none,Bool.true_or];rw[if_pos (by omega)];have e1:Nat.ble (j+m) cap=true:=Nat.ble_eq.mpr (by omega);have e2:Nat.blt j cap=true:=by rw[Nat.blt_eq];omega
   simp only[Xk,Int.toNat_natCast];rw[if_pos (by omega)];simp[e1,e2,hl]
  ·rw[List.getElem?_take]at hx;split at hx;·rw[List.getElem?_drop]at hx;have:=h5.1 (j+i) x hx;rwa[<-Nat.add_assoc]at this
   ·cases hx
theorem NC(B:Nat): ∀(xs:List Nat)(i y:Nat)(h:i<xs.length),dv B (xs.set i y)+B^i*xs[i]=dv B xs+B^i*y
 |x::xs,0,y,_=>by simp[dv];omega
 |x::xs,i+1,y,h=>by
  have h':i<xs.length:=by simpa using h
  have ih:=NC B xs i y h';simp only[List.set_cons_succ,dv,List.getElem_cons_succ,Nat.pow_succ];have e:B*(dv B (xs.set i y)+B^i*xs[i])=B*(dv B xs+B^i*y):=by rw[ih]
  rw[Nat.mul_add,Nat.mul_add]at e;rw[Nat.mul_comm (B^i) B,Nat.mul_assoc,Nat.mul_assoc];omega
theorem YH.set{B:Nat}{xs:List Nat}(h:YH B xs){i y:Nat}(hy:y<B):YH B (xs.set i y):=fun x hx=>by
 rcases List.mem_or_eq_of_mem_set hx with h'|h';·exact h x h'
 ·rw[h'];exact hy
theorem LA{B:Nat} : ∀{xs:List Nat},(∀x∈xs,x=0)->dv B xs=0|[],_=>rfl|x::xs,h=>by simp only[dv];rw[h x (List.mem_cons_self ..),LA fun y hy=>h y (List.mem_cons_of_mem _ hy)];simp
theorem LY{xs:List Nat}{i j y:Nat}(h:i≠j):nth (xs.set i y) j=nth xs j:=by unfold nth;rw[List.getElem?_set,if_neg h]
theorem Sl.partAny{H:AH}{v:Value}{xs:List Nat}(h:Sl H v xs){t:TypeId}(ht:LT t){f m:Nat}(hm:f+m<=xs.length)(h0:0<xs.length): ∃w,Ve Tryz.prog H t v (some (.int .i64 (f:Int))) (some (.int .i64 ((f+m:Nat):Int))) none=some w/\Sl H w ((xs.drop f).take m):=by
 by_cases hf:f<xs.length;·obtain⟨w,h1,h2,_⟩:=h.part' ht hm hf;exact⟨w,h1,h2⟩
 ·have FZ:f=xs.length:=by omega
  have Gz:m=0:=by omega
  subst Gz;rw[List.take_zero];cases h with
   |nil=>simp at h0
   |emp b=>simp at h0
   |mk b o cap xs h1 h2=>
    obtain⟨iJ,cs,h3,h4,h5⟩:=h2;by_cases hc:f<cap
    ·refine⟨.slice (some ⟨b,o+f,none⟩) 0 (cap-f),?_,.mk b (o+f) (cap-f) [] (Nat.zero_le _) ⟨iJ,cs,h3,h4,fun i x hx=>by simp at hx,by have:=(HI h0 h5.1).1;omega⟩⟩;unfold Ve;simp only[ht.1,NX];unfold Jw Xk;simp only[h4,Option.isSome_some,Option.isNone_none,Bool.true_or];rw[if_pos (by omega)];have e1:Nat.ble f cap=true:=Nat.ble_eq.mpr (by omega);have e2:Nat.blt f cap=true:=by rw[Nat.blt_eq];omega
     simp only[Xk,Int.toNat_natCast];rw[if_pos (by omega)];simp[e1,e2]
    ·refine⟨.slice (some ⟨b,0,some 0⟩) 0 0,?_,.emp b⟩;unfold Ve;simp only[ht.1,NX];unfold Jw Xk;simp only[h4,Option.isSome_some,Option.isNone_none,Bool.true_or];rw[if_pos (by omega)];have e1:Nat.ble f cap=true:=Nat.ble_eq.mpr (by omega);have e2:Nat.blt f cap=false:=by cases hb:Nat.blt f cap with|false=>rfl|true=>rw[Nat.blt_eq]at hb;omega
     have e3:Nat.beq f 0=false:=Y9 (by omega);simp only[Xk,Int.toNat_natCast];rw[if_pos (by omega)];simp[e1,e2,e3]
theorem Ym.copy{n:Nat}{H:AH}{v w:Value}{zs xs:List Nat}(h:Ym n H v zs)(hw:Sl H w xs)(hl:xs.length<=zs.length){t t2:TypeId}(ht:LT t)(ef:LT t2): ∃u H',copyV Tryz.prog H t t2 v w=some (u,H')/\Ym n H' v (xs++zs.drop xs.length)/\T4 (Yt v) H H'/\KA n H H':=by
 have hc:X9 H 1 w xs.length=some (xs.map V6):=by
  rcases Nat.eq_zero_or_pos xs.length with h0|h0;·obtain rfl:xs=[]:=List.length_eq_zero_iff.mp h0;generalize hz:([]:List Nat)=ys at hw;cases hw with|nil=>rfl|emp b=>rfl|mk b o cap xs h1 h2=>subst hz;obtain⟨_,cs,h3,h4,h5⟩:=h2;have:Nat.ble o cs.length=true:=Nat.ble_eq.mpr h5.2;simp[X9,AH.read_def,h3,this]
  ·exact hw.cells h0
 obtain⟨a2,cap2,rfl⟩: ∃a cap,w= .slice a xs.length cap:=by cases hw<;>exact⟨_,_,rfl⟩
 cases h with
  |nil=>obtain rfl:xs=[]:=List.length_eq_zero_iff.mp (by simpa using hl);refine⟨.int .i64 0,H,?_,by simpa using Ym.nil,.refl _ _,.refl _ _⟩;simp[copyV,ht.2,ef.2]
  |mk b o cap zs cs h1 h2 h3 h4 h5 h6=>
   have hmin:Nat.min xs.length zs.length=xs.length:=Nat.min_eq_left hl;have hle:Nat.ble (o+xs.length) cs.length=true:=Nat.ble_eq.mpr (by omega);have jt:H.write b o (xs.map V6)=some { n:=H.n,lw:=min H.lw b,t:=H.t.set b (.rw 1 (cs.take o++xs.map V6++cs.drop (o+xs.length))) } :=by rw[AH.write_def,h4];simp only[List.length_map,hle,aa,Bool.and_self,cond_true]
   obtain⟨H',yP⟩: ∃H':AH,H'= { n:=H.n,lw:=min H.lw b,t:=H.t.set b (.rw 1 (cs.take o++xs.map V6++cs.drop (o+xs.length))) } :=⟨_,rfl⟩;rw[<-yP]at jt;have Wa: ∀j,H'.blk j=if j=b then .rw 1 (cs.take o++xs.map V6++cs.drop (o+xs.length))else H.blk j:=fun j=>by
    rw[yP];show(match(H.t.set b _).get j with|some b=>b|none=>Qj.dead)=_;rw[Tr.get_set];by_cases e:j=b;·rw[if_pos e,if_pos e]
    ·rw[if_neg e,if_neg e];rfl
   have hn:H'.n=H.n:=by rw[yP]
   refine⟨.int .i64 (Nat.min xs.length zs.length),H',?_,?_,⟨hn,fun j _ hj=>?_⟩,?_⟩;·unfold copyV;simp only[ht.2,ef.2,hmin,hc,jt]
   ·have hlen:(xs++zs.drop xs.length).length=zs.length:=by simp;omega
    rw[<-hlen];refine .mk b o cap _ (cs.take o++xs.map V6++cs.drop (o+xs.length)) (by omega) h2 (by rw[hn];exact h3) (by rw[Wa,if_pos rfl]) ?_ ?_;·simp only[List.length_append,List.length_take,List.length_drop,List.length_map];omega
    ·intro i x hi;rw[List.append_assoc,List.getElem?_append_right (by rw[List.length_take];omega),List.length_take,show o+i-min o cs.length=i by omega];rw[List.getElem?_append]at hi;rw[List.getElem?_append,List.length_map];by_cases hix:i<xs.length;·rw[if_pos hix]at hi⊢;rw[List.getElem?_map,hi];rfl
     ·rw[if_neg hix]at hi⊢;rw[List.getElem?_drop]at hi⊢;have:=h6 _ x hi;rw[show o+xs.length+(i-xs.length)=o+(xs.length+(i-xs.length)) by omega];exact this
   ·rw[Wa,if_neg (fun e=>hj (by rw[e];rfl))]
   ·intro H0 k Sb;have:=k.lw;refine⟨by rw[hn];exact k.n,by rw[yP];show min H0.lw H0.n<=min H.lw b;omega,fun j hj=>?_⟩;rw[Wa,if_neg (by omega)];exact k.blk j hj
theorem Bz(a b:Nat):To false [.int .i64 (a:Int),.int .i64 (b:Int)]=some (.int .i64 ((min a b:Nat):Int)):=by
 unfold To;simp only[sameKind];show some (Value.int .i64 (if(b:Int)<(a:Int)then(b:Int)else(a:Int)))=_;by_cases h:b<a;·rw[if_pos (by omega),Nat.min_eq_right (by omega)]
 ·rw[if_neg (by omega),Nat.min_eq_left (by omega)]
theorem jH(a b:Nat):To true [.int .i64 (a:Int),.int .i64 (b:Int)]=some (.int .i64 ((max a b:Nat):Int)):=by
 unfold To;simp only[sameKind];show some (Value.int .i64 (if(a:Int)<(b:Int)then(b:Int)else(a:Int)))=_;by_cases h:a<b;·rw[if_pos (by omega),Nat.max_eq_right (by omega)]
 ·rw[if_neg (by omega),Nat.max_eq_left (by omega)]
theorem Ym.fillAt{n:Nat}{H:AH}{v:Value}{L zs:List Nat}{i:Nat}(h:Ym n H v (L++zs.drop i))(hL:L.length=i)(hi:i<zs.length)(y:Nat): ∃H',YV Tryz.prog H 101 (adr v i) (.int .u64 (y:Int))=some H'/\Ym n H' v ((L++[y])++zs.drop (i+1))/\T4 (Yt v) H H'/\KA n H H':=by obtain⟨H',h1,h2,h3,h4,h5⟩:=h.put (i:=i) (by simp;omega) y;refine⟨H',h1,?_,⟨h3,fun j _ hj=>h4 j hj⟩,h5⟩;rw[List.drop_eq_getElem_cons hi,WL _ _ _ _ hL]at h2;simpa using h2
theorem Ym.loadAt{n:Nat}{H:AH}{v:Value}{L zs:List Nat}{i:Nat}(h:Ym n H v (L++zs.drop i))(hL:L.length=i)(hi:i<zs.length):Z9 Tryz.prog H 101 (adr v i)=some (.int .u64 (nth zs i:Int)):=by have:=h.sl.load (i:=i) (by simp;omega);rw[this,XM hi];congr 3;rw[List.getElem_append_right (by omega)];simp[hL]
def Re(xs:List Nat)(f t:Nat):List Nat:=YZ ((xs.drop (min f xs.length)).take (min t xs.length-min f xs.length))
theorem ag{H:AH}{v:Value}{xs:List Nat}(hv:Sl H v xs)(h0:0<xs.length)(lx:xs.length<=17592186044416){f t:Nat}(hft:f<=t):CW Tryz.prog ZY 225 [v,.int .i64 (f:Int),.int .i64 (t:Int)] H fun v' H'=>H'=H/\Sl H v' (Re xs f t):=by
 refine Yd 32 Tryz.func225 ?_;have l1:=hv.len Zu;obtain⟨f',pX⟩: ∃f',f'=min f xs.length:=⟨_,rfl⟩;obtain⟨t',Bm⟩: ∃t',t'=min t xs.length:=⟨_,rfl⟩;have m1:=Bz f xs.length;have m2:=Bz t xs.length;rw[<-pX]at m1;rw[<-Bm]at m2;have hle:f'<=t':=by omega
 have htl:t'<=xs.length:=by omega
 unfold Re;rw[<-pX,<-Bm];apply Za;intro b1 Zf;simp;subst Zf;apply Za;intro b1 Zf;simp[l1,m1,m2];subst Zf;apply Zi;intro b1 Zf;apply ZR;refine YS (fun m s=>s.k=32/\s.H=H/\f'+m<=t'/\YZ ((xs.drop f').take m)=YZ ((xs.drop f').take (t'-f'))/\s.tm.get 0=some v/\s.tm.get 1=some (.int .i64 (f':Int))/\s.tm.get 2=some (.int .i64 ((f'+m:Nat):Int))) ?_ (t'-f') _ ⟨rfl,rfl,by omega,rfl,by simp,by simp,by simp;omega⟩;rintro m ⟨k,tm,H'⟩ ⟨hk,hH,hm,ht,t0,t1,t2⟩ Q' YA;simp only at hk hH t0 t1 t2;subst hk;subst hH;apply Zi;intro b2 ZT;apply Za;intro b3 Z4;have fin: ∀Y7:Tr Value,Y7.get 0=some v->Y7.get 1=some (.int .i64 (f':Int))->Y7.get 2=some (.int .i64 ((f'+m:Nat):Int))->YZ ((xs.drop f').take m)=(xs.drop f').take m->Q' (.exit 0) ⟨32,Y7,H'⟩:=fun Y7 t0 t1 t2 he=>by apply YA;left;refine⟨rfl,?_⟩;subst Zf;obtain⟨w,c1,c2⟩:=hv.partAny Zu (f:=f') (m:=m) (by omega) h0;apply Za;intro b4 Yy;simp[t0,t1,t2,c1];subst Yy;apply ZZ;simp;rw[<-ht,he];exact c2
 by_cases hz:m=0
 ·have g0:Zd .gtr .i64 ((f'+m:Nat):Int) (f':Int)=some (.bool false):=by rw[W8,decide_eq_false];omega
  simp[t1,t2,g0];subst Z4;refine Zb (t:=false) (by simp) ?_;apply YN;exact fin _ (by simp[t0]) (by simp[t1]) (by simp[t2]) (by rw[hz];rfl)
 ·have g0:Zd .gtr .i64 ((f'+m:Nat):Int) (f':Int)=some (.bool true):=by rw[W8,decide_eq_true];omega
  have hi:f'+m-1<xs.length:=by omega
  have a1:=hv.adr Zu (k:= .i64) hi;have d1:=hv.load hi;have QL:(xs.drop f').take m=(xs.drop f').take (m-1)++[xs[f'+m-1]]:=by have:=Xc (xs:=xs.drop f') (i:=m-1) (by rw[List.length_drop];omega);rw[show m-1+1=m by omega]at this;rw[this,List.getElem_drop];congr 3;omega
  have s1:Zd .sub .i64 ((f'+m:Nat):Int) 1=some (.int .i64 ((f'+m-1:Nat):Int)):=V8 (by omega) (by omega);simp[t0,t1,t2,g0,s1,a1,d1,We];subst Z4;by_cases h0:xs[f'+m-1]=0;·refine Zb (t:=true) (by simp[h0]) ?_;apply Zr;subst ZT;apply ZR;apply Zl;simp[t2,s1];apply YA;refine⟨m-1,by omega,rfl,rfl,by show f'+(m-1)<=t';omega,?_,by simp[t0],by simp[t1],by simp;omega⟩;rw[<-ht,QL,h0,VM]
  ·refine Zb (t:=false) (by simp[h0]) ?_;apply YN;exact fin _ (by simp[t0]) (by simp[t1]) (by simp[t2]) (by rw[QL];exact SZ _ _ h0)
theorem U8{n0:Nat}{H:AH}{va vb:Value}{zs ys:List Nat}{a:Nat}(ha:Ym n0 H va zs)(hb:Sl H vb ys)(ap:Vg va vb)(dz:YH Zc zs)(dy:YH Zc ys)(lz:zs.length<=17592186044416)(ly:ys.length<=17592186044416)(haz:a<=zs.length)(room:dv Zc zs+Zc^a*dv Zc ys<Zc^zs.length):CW Tryz.prog ZY 224 [va,vb,.int .i64 (a:Int)] H fun v' H'=>T4 (Yt va) H H'/\KA n0 H H'/\ ∃z8,z8.length=zs.length/\YH Zc z8/\dv Zc z8=dv Zc zs+Zc^a*dv Zc ys/\Ym n0 H' va z8:=by
 refine Yd 53 Tryz.func224 ?_;have l2:=hb.len Zu;apply Za;intro b1 Zf;simp;subst Zf;apply Za;intro b1 Zf;simp;subst Zf;apply ZR;refine YS (fun m s=>s.k=53/\T4 (Yt va) H s.H/\KA n0 H s.H/\ ∃(i c:Nat) (L:List Nat),m+i=zs.length/\a<=i/\L.length=i/\c<=1/\YH Zc L/\dv Zc L+Zc^i*c=dv Zc (zs.take i)+Zc^a*dv Zc (ys.take (i-a))/\Ym n0 s.H va (L++zs.drop i)/\s.tm.get 0=some va/\s.tm.get 1=some vb/\s.tm.get 2=some (.int .i64 (a:Int))/\s.tm.get 6=some (.int .u64 (c:Int))/\s.tm.get 7=some (.int .i64 (i:Int))) ?_ (zs.length-a) _ ⟨rfl,.refl _ _,.refl _ _,a,0,zs.take a,by omega,Nat.le_refl _,by rw[List.length_take];omega,by omega,dz.take a,by simp[dv],by rw[List.take_append_drop];exact ha,by simp,by simp,by simp,by simp,by simp⟩;rintro m ⟨k,tm,H2⟩ ⟨hk,bt,ka,i,c,L,Kv,hai,hL,hc,dL,heq,own,t0,t1,t2,t6,t7⟩ Q' YA;simp only at hk bt ka own t0 t1 t2 t6 t7;subst hk;have sb:=hb.but bt ap;have l1:=own.sl.len Zu;rw[show(L++zs.drop i).length=zs.length by simp;omega]at l1;have s1:Zd .sub .i64 (i:Int) (a:Int)=some (.int .i64 ((i-a:Nat):Int)):=LS (by omega) hai;apply Zi;intro b2 ZT;apply Za;intro b3 Z4;have on: ∀Y7:Tr Value,i<zs.length->Y7.get 25=some (.bool true)->Y7.get 0=some va->Y7.get 1=some vb->Y7.get 2=some (.int .i64 (a:Int))->Y7.get 6=some (.int .u64 (c:Int))->Y7.get 7=some (.int .i64 (i:Int))->W Tryz.prog ZY b3 ⟨53,Y7,H2⟩ (YQ Tryz.prog ZY b2 Q'):=fun Y7 hi t25 t0 t1 t2 t6 t7=>by
  subst Z4;refine Zb (t:=true) (by simp[t25]) ?_;apply Zr;subst ZT;obtain⟨y,hy⟩:=hid (nth ys (i-a));have AR:y<Zc:=by rw[hy];exact UI dy (by decide) _
  obtain⟨x,hx⟩:=hid (nth zs i);have E8:x<Zc:=by rw[hx];exact UI dz (by decide) _
  have d0:=own.loadAt hL hi;rw[<-hx]at d0;have a0:=own.sl.adr Zu (k:= .i64) (i:=i) (by simp;omega);obtain⟨z,hz⟩:=hid ((x+y+c)%Zc);obtain⟨c',S9⟩: ∃c',c'=(x+y+c)/Zc:=⟨_,rfl⟩;have hzc:Zc*c'+z=x+y+c:=by rw[hz,S9];exact Nat.div_add_mod _ _
  have DK:z<Zc:=by rw[hz];exact Nat.mod_lt _ (by decide)
  have Nd:c'<=1:=by
   have:c'<2:=by rw[S9,Nat.div_lt_iff_lt_mul (by decide)];omega
   omega
  have ac:ZU Tryz.prog ZY 203 [.int .u64 (x:Int),.int .u64 (y:Int),.int .u64 (c:Int)] H2=some (.tuple #[.int .u64 (z:Int),.int .u64 (c':Int)],H2):=by rw[hz,S9];exact RU x y c H2 hc
  obtain⟨H3,Sc,Rc,rC,Ll⟩:=own.fillAt hL hi z;apply Zi;intro b2 ZT;apply ZR;apply Za;intro b3 Z4;simp;subst Z4;refine Xd (fun s'=>s'.k=53/\s'.H=H2/\s'.tm.get 0=some va/\s'.tm.get 1=some vb/\s'.tm.get 2=some (.int .i64 (a:Int))/\s'.tm.get 6=some (.int .u64 (c:Int))/\s'.tm.get 7=some (.int .i64 (i:Int))/\s'.tm.get 8=some (.int .u64 (y:Int))) ?_ ?_
  ·intro Jt XR;apply Za;intro b3 Z4;simp[t1,t2,t7,s1,l2];subst Z4;by_cases X6:i-a<ys.length;·refine Zb (t:=true) (by simp[X6]) ?_;have a1:=sb.adr Zu (k:= .i64) X6;have d1:=sb.load X6;rw[<-XM X6,<-hy]at d1;apply Zl;simp[t1,t2,t7,s1,a1,d1];apply XR;exact⟨rfl,rfl,by simp[t0],by simp[t1],by simp[t2],by simp[t6],by simp[t7],by simp⟩
   ·refine Zb (t:=false) (by simp[X6]) ?_;apply Zr;apply XR;rw[VF (by omega)]at hy;subst hy;exact⟨rfl,rfl,by simp[t0],by simp[t1],by simp[t2],by simp[t6],by simp[t7],by simp⟩
  clear t0 t1 t2 t6 t7;rintro⟨k,tm,H4⟩ ⟨hk,hH,t0,t1,t2,t6,t7,t8⟩;simp only at hk hH t0 t1 t2 t6 t7 t8;subst hk;subst hH;apply Zl;simp[t0,t6,t7,t8,a0,d0,ac,Sc];subst ZT;apply Zl;simp[t7,YU (x:=i) (by omega)];apply YA;refine⟨m-1,by omega,rfl,bt.trans rC,ka.trans Ll,i+1,c',L++[z],by omega,by omega,by simp[hL],Nd,dL.append (.cons DK (.nil _)),?_,Rc,by simp[t0],by simp[t1],by simp[t2],by simp,by simp⟩;rw[Yn,hL,Xv,show i+1-a=(i-a)+1 by omega,Xv,<-hx,<-hy];simp only[dv,Nat.mul_zero,Nat.add_zero];have e1:Zc^i*(Zc*c'+z)=Zc^i*(x+y+c):=by rw[hzc]
  rw[Nat.mul_add,<-Nat.mul_assoc,show Zc^i*Zc=Zc^(i+1)from rfl,Nat.mul_add,Nat.mul_add]at e1;have e2:Zc^a*(Zc^(i-a)*y)=Zc^i*y:=by rw[<-Nat.mul_assoc,<-Nat.pow_add,show a+(i-a)=i by omega]
  rw[Nat.mul_add (Zc^a),e2];omega
 have stop: ∀Y7:Tr Value,(i=zs.length\/(ys.length<=i-a/\c=0))->Y7.get 25=some (.bool false)->W Tryz.prog ZY b3 ⟨53,Y7,H2⟩ (YQ Tryz.prog ZY b2 Q'):=fun Y7 he t25=>by
  subst Z4;refine Zb (t:=false) (by simp[t25]) ?_;apply YN;apply YA;left;refine⟨rfl,.inl rfl,bt,ka,L++zs.drop i,by simp;omega,dL.append (dz.drop _),?_,own⟩;have e1:=T7 Zc zs i (by omega);rw[Yn,hL];rcases he with rfl|⟨hy,rfl⟩
  ·rw[List.drop_length,List.take_length]at*;simp only[dv,Nat.mul_zero,Nat.add_zero]at*;have hys:dv Zc ys<Zc^(zs.length-a):=by
    have h1:Zc^a*dv Zc ys<Zc^a*Zc^(zs.length-a):=by rw[<-Nat.pow_add,show a+(zs.length-a)=zs.length by omega];omega
    exact Nat.lt_of_mul_lt_mul_left h1
   rw[QZ (by decide) hys]at heq;rcases Nat.lt_or_ge c 1 with h0|h0
   ·obtain rfl:c=0:=by omega
    rw[Nat.mul_zero]at heq;omega
   ·obtain rfl:c=1:=by omega
    rw[Nat.mul_one]at heq;omega
  ·rw[List.take_of_length_le hy]at heq;rw[Nat.mul_zero]at heq;omega
 by_cases hi:i<zs.length
 ·by_cases hy:i-a<ys.length;·simp[t0,t1,t2,t6,t7,l1,l2,hi,s1,hy];show W _ _ b3 _ _;exact on _ hi (by simp) (by simp[t0]) (by simp[t1]) (by simp[t2]) (by simp[t6]) (by simp[t7])
  ·by_cases OL:0<c;·simp[t0,t1,t2,t6,t7,l1,l2,hi,s1,hy,Kl,OL];show W _ _ b3 _ _;exact on _ hi (by simp) (by simp[t0]) (by simp[t1]) (by simp[t2]) (by simp[t6]) (by simp[t7])
   ·simp[t0,t1,t2,t6,t7,l1,l2,hi,s1,hy,Kl,OL];show W _ _ b3 _ _;exact stop _ (.inr ⟨by omega,by omega⟩) (by simp)
 ·simp[t0,t1,t2,t6,t7,l1,l2,hi];show W _ _ b3 _ _;exact stop _ (.inl (by omega)) (by simp)
def ir(n0:Nat)(H':AH)(v:Value)(len N:Nat):Prop:= ∃zs,zs.length=len/\YH Zc zs/\dv Zc zs=N/\Ym n0 H' v zs
section
variable {H : AH} {va vb : Value} {xs ys : List Nat}
theorem Qc(xs:List Nat)(n:Nat):dv Zc (xs++List.replicate n 0)=dv Zc xs:=by rw[Yn,UP,Nat.mul_zero,Nat.add_zero]
theorem T6{B:Nat}(hB:0<B)(n:Nat):YH B (List.replicate n 0):=fun x hx=>by rw[List.eq_of_mem_replicate hx];exact hB
theorem EM(ha:Sl H va xs)(hb:Sl H vb ys)(dx:YH Zc xs)(dy:YH Zc ys)(lx:xs.length<=17592186000000)(ly:ys.length<=17592186000000):CW Tryz.prog ZY 227 [va,vb] H fun v H'=>Zj H H'/\ir H.n H' v (max xs.length ys.length+1) (dv Zc xs+dv Zc ys):=by
 refine Yd 20 Tryz.func227 ?_;have l1:=ha.len Zu;have l2:=hb.len Zu;obtain⟨n,hn⟩:=hid (max xs.length ys.length);have mx:=jH xs.length ys.length;rw[<-hn]at mx⊢;obtain⟨c0,H1,RH,k1,o1,n1⟩:=YK (H:=H) Zu (n:=n+1) (by omega);obtain⟨u,H2,jf,o2,bt2,ig⟩:=o1.copy (ha.keep k1) (by simp;omega) Zu Zu;have k2:Zj H H2:=ig H k1 (Nat.le_refl _);rw[List.drop_replicate]at o2;have apc:Vg c0 vb:=fun c hc S9=>by have a:=(o1.blk_lo hc).1;have b:=hb.blk_lt S9;omega
 have hlen:(xs++List.replicate (n+1-xs.length) 0).length=n+1:=by simp;omega
 obtain⟨w,H3,uF,rC,Ll,zs,lz,dz,vz,oz⟩:=U8 (a:=0) o2 ((hb.keep k1).but bt2 apc) apc (dx.append (T6 (by decide) _)) dy (by omega) (by omega) (Nat.zero_le _) (by rw[hlen,Qc,Nat.pow_zero,Nat.one_mul];have h1:=Wh dx;have h2:=Wh dy;have h3:Zc^xs.length<=Zc^n:=Nat.pow_le_pow_right (by decide) (by omega);have h4:Zc^ys.length<=Zc^n:=Nat.pow_le_pow_right (by decide) (by omega);have h5:Zc^(n+1)=Zc^n*18446744073709551616:=rfl;omega);rw[hlen]at lz;rw[Qc,Nat.pow_zero,Nat.one_mul]at vz;have uF:ZU Tryz.prog ZY 224 [c0,vb,.int .i64 0] H2=some (w,H3):=uF;apply Za;intro b1 Zf;simp;subst Zf;apply Za;intro b1 Zf;simp[l1,l2,mx,YU (x:=n) (by omega),RH];subst Zf;apply Za;intro b1 Zf;simp[jf];subst Zf;apply Za;intro b1 Zf;simp[uF];subst Zf;apply Za;intro b1 Zf;simp;subst Zf;apply ZZ;simp;exact⟨Ll H k2 (Nat.le_refl _),zs,lz,dz,vz,oz⟩
theorem Iu(ha:Sl H va xs)(hb:Sl H vb ys)(dx:YH Zc xs)(dy:YH Zc ys)(lx:xs.length<=17592186000000)(ly:ys.length<=17592186000000)(hle:dv Zc ys<=dv Zc xs):CW Tryz.prog ZY 226 [va,vb] H fun v H'=>Zj H H'/\ir H.n H' v xs.length (dv Zc xs-dv Zc ys):=by
 refine Yd 43 Tryz.func226 ?_;have l1:=ha.len Zu;have l2:=hb.len Zu;obtain⟨n,hn⟩:=hid (xs.length);rw[<-hn]at l1⊢;obtain⟨c0,H1,RH,k1,o1,n1⟩:=YK (H:=H) Zu (n:=n) (by omega);obtain⟨u,H2,jf,o2,bt2,ig⟩:=o1.copy (ha.keep k1) (by simp;omega) Zu Zu;have k2:Zj H H2:=ig H k1 (Nat.le_refl _);rw[List.drop_replicate,hn,Nat.sub_self,List.replicate_zero,List.append_nil]at o2;have l0:=o2.sl.len Zu;rw[<-hn]at l0;apply Za;intro b1 Zf;simp;subst Zf;apply Za;intro b1 Zf;simp[l1,RH];subst Zf;apply Za;intro b1 Zf;simp[jf];subst Zf;apply Za;intro b1 Zf;simp;subst Zf;apply Zi;intro b1 Zf;apply Za;intro b2 ZT;simp[l0];subst ZT;apply ZR;refine YS (fun m s'=>s'.k=43/\Zj H s'.H/\ ∃(i Sg:Nat) (L:List Nat),m+i=n/\L.length=i/\Sg<=1/\YH Zc L/\dv Zc L+dv Zc (ys.take i)=dv Zc (xs.take i)+Zc^i*Sg/\Ym H.n s'.H c0 (L++xs.drop i)/\s'.tm.get 1=some vb/\s'.tm.get 5=some c0/\s'.tm.get 6=some (.int .u64 (Sg:Int))/\s'.tm.get 16=some (.int .i64 (n:Int))/\s'.tm.get 17=some (.int .i64 (i:Int))) ?_ n _ ⟨rfl,k2,0,0,[],by omega,rfl,by omega,.nil _,by simp[dv],by simpa using o2,by simp,by simp,by simp,by simp,by simp⟩;rintro m ⟨k,tm,H3⟩ ⟨hk,kH,i,Sg,L,Kv,hL,hbr,dL,heq,own,t1,t5,t6,t16,t17⟩ Q' YA;simp only at hk kH own t1 t5 t6 t16 t17;subst hk;apply Za;intro b3 Z4;simp[t16,t17];subst Z4;apply Zi;intro b3 Z4;by_cases hi:i<n
 ·refine Zb (t:=true) (by simp[hi]) ?_;apply Zr;subst Z4;have UZ:i<xs.length:=by omega
  have sb:=hb.keep kH;obtain⟨y,hy⟩:=hid (nth ys i);have AR:y<Zc:=by rw[hy];exact UI dy (by decide) _
  obtain⟨x,hx⟩:=hid (nth xs i);have E8:x<Zc:=by rw[hx];exact UI dx (by decide) _
  have d0:=own.loadAt hL UZ;rw[<-hx]at d0;have a0:=own.sl.adr Zu (k:= .i64) (i:=i) (by simp;omega);obtain⟨z,hz⟩:=hid ((x+Zc-y-Sg)%Zc);obtain⟨b',X6⟩: ∃b',b'=(if x<y+Sg then 1 else 0):=⟨_,rfl⟩;have DK:z<Zc:=by rw[hz];exact Nat.mod_lt _ (by decide)
  have N6:b'<=1:=by rw[X6];split<;>omega
  have RG:z+y+Sg=x+Zc*b':=by
   by_cases h:x<y+Sg;·rw[hz,X6,if_pos h,Nat.mod_eq_of_lt (by omega)];omega
   ·rw[hz,X6,if_neg h];have:x+Zc-y-Sg=(x-y-Sg)+Zc:=by omega
    rw[this,Nat.add_mod_right,Nat.mod_eq_of_lt (by omega)];omega
  have sc:ZU Tryz.prog ZY 206 [.int .u64 (x:Int),.int .u64 (y:Int),.int .u64 (Sg:Int)] H3=some (.tuple #[.int .u64 (z:Int),.int .u64 (b':Int)],H3):=by rw[hz,X6];exact R7 x y Sg H3 hbr
  obtain⟨H4,WQ,Vr,oW,Ua⟩:=own.fillAt hL UZ z;apply Zi;intro b3 Z4;apply ZR;apply Za;intro b4 Yy;simp[t17];subst Yy;apply Za;intro b4 Yy;simp;subst Yy;refine Xd (fun s'=>s'.k=43/\s'.H=H3/\s'.tm.get 1=some vb/\s'.tm.get 5=some c0/\s'.tm.get 6=some (.int .u64 (Sg:Int))/\s'.tm.get 7=some (.int .i64 (i:Int))/\s'.tm.get 8=some (.int .u64 (y:Int))/\s'.tm.get 16=some (.int .i64 (n:Int))/\s'.tm.get 17=some (.int .i64 (i:Int))) ?_ ?_
  ·intro Jt XR;apply Za;intro b4 Yy;simp[t1,l2];subst Yy;by_cases Jl:i<ys.length;·refine Zb (t:=true) (by simp[Jl]) ?_;have a1:=sb.adr Zu (k:= .i64) Jl;have d1:=sb.load Jl;rw[<-XM Jl,<-hy]at d1;apply Zl;simp[t1,a1,d1];apply XR;exact⟨rfl,rfl,by simp[t1],by simp[t5],by simp[t6],by simp,by simp,by simp[t16],by simp[t17]⟩
   ·refine Zb (t:=false) (by simp[Jl]) ?_;apply Zr;apply XR;rw[VF (by omega)]at hy;subst hy;exact⟨rfl,rfl,by simp[t1],by simp[t5],by simp[t6],by simp,by simp,by simp[t16],by simp[t17]⟩
  clear t1 t5 t6 t16 t17;rintro⟨k,tm,H5⟩ ⟨hk,hH,t1,t5,t6,t7,t8,t16,t17⟩;simp only at hk hH t1 t5 t6 t7 t8 t16 t17;subst hk;subst hH;apply Zl;simp[t5,t6,t7,t8,a0,d0,sc,WQ];subst Z4;apply Zl;simp[t17,YU (x:=i) (by omega)];apply YA;refine⟨m-1,by omega,rfl,Ua H kH (Nat.le_refl _),i+1,b',L++[z],by omega,by simp[hL],N6,dL.append (.cons DK (.nil _)),?_,Vr,by simp[t1],by simp[t5],by simp,by simp[t16],by simp⟩;rw[Yn,hL,Xv,Xv,<-hx,<-hy];simp only[dv,Nat.mul_zero,Nat.add_zero];have e1:Zc^i*(z+y+Sg)=Zc^i*(x+Zc*b'):=by rw[RG]
  rw[Nat.mul_add (Zc^i) x,<-Nat.mul_assoc,show Zc^i*Zc=Zc^(i+1)from rfl,Nat.mul_add,Nat.mul_add]at e1;omega
 ·refine Zb (t:=false) (by simp[hi]) ?_;apply YN;apply YA;left;refine⟨rfl,?_⟩;obtain rfl:i=n:=by omega
  have ia:=Wh dx;rw[<-hn]at ia;rw[List.take_of_length_le (l:=xs) (by omega),QZ (by decide) (Nat.lt_of_le_of_lt hle ia)]at heq;have yL:=Wh dL;rw[hL]at yL;have hval:dv Zc L=dv Zc xs-dv Zc ys:=by
   rcases Nat.lt_or_ge Sg 1 with h0|h0
   ·obtain rfl:Sg=0:=by omega
    rw[Nat.mul_zero]at heq;omega
   ·obtain rfl:Sg=1:=by omega
    rw[Nat.mul_one]at heq;omega
  rw[List.drop_of_length_le (by omega),List.append_nil]at own;subst Zf;apply Za;intro b4 Yy;simp[t5];subst Yy;apply ZZ;simp;exact⟨kH,L,hL,dL,hval,own⟩
theorem fm {x y o c : Nat} (hx : x < Zc) (hy : y < Zc) (ho : o < Zc) (hc : c < Zc) :
    let p := x * y; let l := (p % Zc + c) % Zc; let h := p / Zc + (p % Zc + c) / Zc
    h < Zc /\ h + (o + l) / Zc < Zc /\ (o + l) % Zc + Zc * (h + (o + l) / Zc) = o + x * y + c := by
  intro p l h
  have hx : x < 18446744073709551616 := hx
  have hy : y < 18446744073709551616 := hy
  have ho : o < 18446744073709551616 := ho
  have hc : c < 18446744073709551616 := hc
  have hp : p <= 18446744073709551615 * 18446744073709551615 := Nat.mul_le_mul (by omega) (by omega)
  show p / 18446744073709551616 + (p % 18446744073709551616 + c) / 18446744073709551616 < 18446744073709551616 /\ p / 18446744073709551616 + (p % 18446744073709551616 + c) / 18446744073709551616 + (o + (p % 18446744073709551616 + c) % 18446744073709551616) / 18446744073709551616 < 18446744073709551616 /\
    (o + (p % 18446744073709551616 + c) % 18446744073709551616) % 18446744073709551616 + 18446744073709551616 * (p / 18446744073709551616 + (p % 18446744073709551616 + c) / 18446744073709551616 + (o + (p % 18446744073709551616 + c) % 18446744073709551616) / 18446744073709551616) = o + p + c
  clear_value p
  omega
theorem Ey(ha:Sl H va xs)(hb:Sl H vb ys)(dx:YH Zc xs)(dy:YH Zc ys)(lx:xs.length<=8000000000000)(ly:ys.length<=8000000000000):CW Tryz.prog ZY 223 [va,vb] H fun v H'=>Zj H H'/\ir H.n H' v (xs.length+ys.length) (dv Zc xs*dv Zc ys):=by
 refine Yd 78 Tryz.func223 ?_;have l1:=ha.len Zu;have l2:=hb.len Zu;obtain⟨la,gE⟩:=hid (xs.length);obtain⟨lb,Bh⟩:=hid (ys.length);rw[<-gE]at l1⊢;rw[<-Bh]at l2⊢;obtain⟨c0,H1,RH,k1,o1,n1⟩:=YK (H:=H) Zu (n:=la+lb) (by omega);have ad:Zd .add .i64 (la:Int) (lb:Int)=some (.int .i64 ((la+lb:Nat):Int)):=WO (by omega);apply Za;intro b1 Zf;simp;subst Zf;apply Za;intro b1 Zf;simp[l1,l2,ad,RH];subst Zf;apply Zi;intro b1 Zf;apply Za;intro b2 ZT;simp[l1];subst ZT;apply ZR;refine YS (fun m s'=>s'.k=78/\Zj H s'.H/\ ∃(i:Nat) (O:List Nat),m+i=la/\O.length=la+lb/\YH Zc O/\(∀j,i+lb<=j->nth O j=0)/\dv Zc O=dv Zc (xs.take i)*dv Zc ys/\Ym H.n s'.H c0 O/\s'.tm.get 1=some vb/\s'.tm.get 5=some c0/\s'.tm.get 20=some va/\s'.tm.get 21=some (.int .i64 (la:Int))/\s'.tm.get 22=some (.int .i64 (i:Int))) ?_ la _ ⟨rfl,k1,0,List.replicate (la+lb) 0,by omega,by simp,T6 (by decide) _,fun j _=>by
  by_cases hj:j<(List.replicate (la+lb) 0).length;·rw[XM hj];simp
  ·exact VF (by omega),by simp[dv,UP],o1,by simp,by simp,by simp,by simp,by simp⟩;rintro m ⟨k,tm,H2⟩ ⟨hk,kH,i,O,Kv,hO,dO,hz,heq,own,t1,t5,t20,t21,t22⟩ Q' YA;simp only at hk kH own t1 t5 t20 t21 t22;subst hk;apply Za;intro b3 Z4;simp[t21,t22];subst Z4;apply Zi;intro b3 Z4;by_cases hi:i<la
 ·refine Zb (t:=true) (by simp[hi]) ?_;apply Zr;subst Z4;have UZ:i<xs.length:=by omega
  have sa:=ha.keep kH;have a1:=sa.adr Zu (k:= .i64) UZ;have d1:=sa.load UZ;obtain⟨x,hx⟩:=hid (xs[i]);have E8:x<Zc:=by rw[hx];exact dx.get (List.getElem?_eq_getElem UZ)
  rw[<-hx]at d1;apply Zi;intro b3 Z4;apply ZR;apply Za;intro b4 Yy;simp[t20,t22,a1,d1];subst Yy;apply Za;intro b4 Yy;simp;subst Yy;refine Xd (fun s'=>s'.k=78/\Zj H s'.H/\ ∃(c:Nat) (O2:List Nat),c<Zc/\O2.length=la+lb/\YH Zc O2/\(∀j,i+lb<=j->nth O2 j=0)/\dv Zc O2+Zc^(i+lb)*c=dv Zc O+Zc^i*(x*dv Zc ys)/\Ym H.n s'.H c0 O2/\s'.tm.get 1=some vb/\s'.tm.get 5=some c0/\s'.tm.get 6=some (.int .i64 (i:Int))/\s'.tm.get 8=some (.int .u64 (c:Int))/\s'.tm.get 20=some va/\s'.tm.get 21=some (.int .i64 (la:Int))/\s'.tm.get 22=some (.int .i64 (i:Int))) ?_ ?_
  ·intro Jt XR;apply Za;intro b4 Yy;simp[t1,l2];subst Yy;apply ZR;refine YS (fun m s'=>s'.k=78/\Zj H s'.H/\ ∃(j c:Nat) (O2:List Nat),m+j=lb/\c<Zc/\O2.length=la+lb/\YH Zc O2/\(∀j,i+lb<=j->nth O2 j=0)/\dv Zc O2+Zc^(i+j)*c=dv Zc O+Zc^i*(x*dv Zc (ys.take j))/\Ym H.n s'.H c0 O2/\s'.tm.get 1=some vb/\s'.tm.get 5=some c0/\s'.tm.get 6=some (.int .i64 (i:Int))/\s'.tm.get 7=some (.int .u64 (x:Int))/\s'.tm.get 8=some (.int .u64 (c:Int))/\s'.tm.get 20=some va/\s'.tm.get 21=some (.int .i64 (la:Int))/\s'.tm.get 22=some (.int .i64 (i:Int))/\s'.tm.get 27=some vb/\s'.tm.get 28=some (.int .i64 (lb:Int))/\s'.tm.get 29=some (.int .i64 (j:Int))) ?_ lb _ ⟨rfl,kH,0,0,O,by omega,by decide,hO,dO,hz,by simp[dv],own,by simp[t1],by simp[t5],by simp,by simp,by simp,by simp[t20],by simp[t21],by simp[t22],by simp[t1],by simp,by simp⟩;clear t1 t5 t20 t21 t22;rintro m2 ⟨k,tm,H3⟩ ⟨hk,Jp,j,c,O2,hmj,hc,iD,cy,FM,N8,RA,t1,t5,t6,t7,t8,t20,t21,t22,t27,t28,t29⟩ Q5 iC;simp only at hk Jp RA t1 t5 t6 t7 t8 t20 t21 t22 t27 t28 t29;subst hk;apply Za;intro b5 SV;simp[t28,t29];subst SV;apply Zi;intro b5 SV;by_cases hj:j<lb
   ·refine Zb (t:=true) (by simp[hj]) ?_;apply Zr;subst SV;have Bf:j<ys.length:=by omega
    have xE:=hb.keep Jp;have a2:=xE.adr Zu (k:= .i64) Bf;have d2:=xE.load Bf;obtain⟨y,hy⟩:=hid (ys[j]);have AR:y<Zc:=by rw[hy];exact dy.get (List.getElem?_eq_getElem Bf)
    rw[<-hy]at d2;have Ks:i+j<O2.length:=by omega
    have a3:=RA.sl.adr Zu (k:= .i64) Ks;have d3:=RA.sl.load Ks;obtain⟨o,ho⟩:=hid (O2[i+j]);have hoB:o<Zc:=by rw[ho];exact cy.get (List.getElem?_eq_getElem Ks)
    rw[<-ho]at d3;have step:=fm E8 AR hoB hc;simp only at step;obtain⟨ph,vI⟩:=hid (x*y/Zc);obtain⟨pl,Bi⟩:=hid (x*y%Zc);rw[<-vI,<-Bi]at step;obtain⟨l,hl⟩:=hid ((pl+c)%Zc);obtain⟨c1,Nd⟩:=hid ((pl+c)/Zc);rw[<-hl,<-Nd]at step;obtain⟨o',jo⟩: ∃o',o'=(o+l)%Zc:=⟨_,rfl⟩;obtain⟨c2,Jm⟩:=hid ((o+l)/Zc);rw[<-jo,<-Jm]at step;obtain⟨Sx,Tq,Sc⟩:=step;have ho'B:o'<Zc:=by rw[jo];exact Nat.mod_lt _ (by decide)
    have e1:ZU Tryz.prog ZY 202 [.int .u64 (x:Int),.int .u64 (y:Int)] H3=some (.tuple #[.int .u64 (ph:Int),.int .u64 (pl:Int)],H3):=by rw[vI,Bi];exact RC E8 AR H3
    have e2:ZU Tryz.prog ZY 203 [.int .u64 (pl:Int),.int .u64 (c:Int),.int .u64 0] H3=some (.tuple #[.int .u64 (l:Int),.int .u64 (c1:Int)],H3):=by rw[hl,Nd];exact Um pl c H3
    have e3:Zd .add .u64 (ph:Int) (c1:Int)=some (.int .u64 ((ph+c1:Nat):Int)):=X3 Sx;have e4:ZU Tryz.prog ZY 203 [.int .u64 (o:Int),.int .u64 (l:Int),.int .u64 0] H3=some (.tuple #[.int .u64 (o':Int),.int .u64 (c2:Int)],H3):=by rw[jo,Jm];exact Um o l H3
    have e5:Zd .add .u64 ((ph+c1:Nat):Int) (c2:Int)=some (.int .u64 ((ph+c1+c2:Nat):Int)):=X3 Tq;have e6:Zd .add .i64 (i:Int) (j:Int)=some (.int .i64 ((i+j:Nat):Int)):=WO (by omega);obtain⟨H4,WQ,Vr,n4,oW,Ua⟩:=RA.put (i:=i+j) Ks o';apply Zi;intro b5 SV;apply ZR;apply Za;intro b6 QN;simp[t27,t29,a2,d2];subst QN;apply Za;intro b6 QN;simp[t7,e1];subst QN;apply Za;intro b6 QN;simp;subst QN;apply Za;intro b6 QN;simp[t8,e2];subst QN;apply Za;intro b6 QN;simp[e3];subst QN;apply Za;intro b6 QN;simp[t5,t6,e6,a3,d3,e4,WQ];subst QN;apply Zl;simp[e5];subst SV;apply Zl;simp[t29,YU (x:=j) (by omega)];apply iC;refine⟨m2-1,by omega,rfl,Ua H Jp (Nat.le_refl _),j+1,ph+c1+c2,O2.set (i+j) o',by omega,Tq,by simp[iD],cy.set ho'B,fun q hq=>by rw[LY (by omega)];exact FM q hq,?_,Vr,by simp[t1],by simp[t5],by simp[t6],by simp[t7],by simp,by simp[t20],by simp[t21],by simp[t22],by simp[t27],by simp[t28],by simp⟩;have ds:=NC Zc O2 (i+j) o' Ks;rw[<-ho]at ds;rw[Xc Bf,Yn,List.length_take,Nat.min_eq_left (by omega),<-hy];simp only[dv,Nat.mul_zero,Nat.add_zero];generalize ph+c1+c2=cc at*;have f1:Zc^(i+j)*(o'+Zc*cc)=Zc^(i+j)*(o+x*y+c):=by rw[Sc]
    rw[Nat.mul_add,<-Nat.mul_assoc (Zc^(i+j)) Zc,show Zc^(i+j)*Zc=Zc^(i+(j+1))from rfl,Nat.mul_add,Nat.mul_add]at f1;have f2:Zc^i*(x*(dv Zc (ys.take j)+Zc^j*y))=Zc^i*(x*dv Zc (ys.take j))+Zc^(i+j)*(x*y):=by rw[Nat.mul_add x,Nat.mul_add (Zc^i),Nat.pow_add,Nat.mul_left_comm x (Zc^j) y,Nat.mul_assoc (Zc^i)]
    rw[f2];omega
   ·refine Zb (t:=false) (by simp[hj]) ?_;apply YN;apply iC;left;obtain rfl:j=lb:=by omega
    rw[List.take_of_length_le (by omega)]at N8;exact⟨rfl,XR _ ⟨rfl,Jp,c,O2,hc,iD,cy,FM,N8,RA,by simp[t1],by simp[t5],by simp[t6],by simp[t8],by simp[t20],by simp[t21],by simp[t22]⟩⟩
  clear t1 t5 t20 t21 t22;rintro⟨k,tm,H3⟩ ⟨hk,Jp,c,O2,hc,iD,cy,FM,N8,RA,t1,t5,t6,t8,t20,t21,t22⟩;simp only at hk Jp RA t1 t5 t6 t8 t20 t21 t22;subst hk;have Ks:i+lb<O2.length:=by omega
  have a3:=RA.sl.adr Zu (k:= .i64) Ks;have e6:Zd .add .i64 (i:Int) (lb:Int)=some (.int .i64 ((i+lb:Nat):Int)):=WO (by omega);obtain⟨H4,WQ,Vr,n4,oW,Ua⟩:=RA.put (i:=i+lb) Ks c;apply Zl;simp[t1,t5,t6,t8,l2,e6,a3,WQ];subst Z4;apply Zl;simp[t22,YU (x:=i) (by omega)];apply YA;refine⟨m-1,by omega,rfl,Ua H Jp (Nat.le_refl _),i+1,O2.set (i+lb) c,by omega,by simp[iD],cy.set hc,fun q hq=>by rw[LY (by omega)];exact FM q (by omega),?_,Vr,by simp[t1],by simp[t5],by simp[t20],by simp[t21],by simp⟩;have ds:=NC Zc O2 (i+lb) c Ks;have h0:=FM (i+lb) (Nat.le_refl _);rw[XM Ks]at h0;rw[h0,Nat.mul_zero,Nat.add_zero]at ds;rw[ds,N8,heq,Xc UZ,Yn,List.length_take,Nat.min_eq_left (by omega),<-hx,Nat.add_mul];simp only[dv,Nat.mul_zero,Nat.add_zero];rw[Nat.mul_assoc (Zc^i)]
 ·refine Zb (t:=false) (by simp[hi]) ?_;apply YN;apply YA;left;refine⟨rfl,?_⟩;obtain rfl:i=la:=by omega
  rw[List.take_of_length_le (by omega)]at heq;subst Zf;apply Za;intro b4 Yy;simp[t5];subst Yy;apply ZZ;simp;exact⟨kH,O,hO,dO,heq,own⟩
end
theorem K9{xs:List Nat}(dx:YH Zc xs)(k:Nat):dv Zc (Re xs 0 k)=dv Zc (xs.take k)/\(Re xs 0 k).length<=min k xs.length/\YH Zc (Re xs 0 k):=by
 unfold Re;have e:(xs.drop (min 0 xs.length)).take (min k xs.length-min 0 xs.length)=xs.take k:=by
  rw[Nat.zero_min,List.drop_zero,Nat.sub_zero];rcases Nat.le_total k xs.length with h|h;·rw[Nat.min_eq_left h]
  ·rw[Nat.min_eq_right h,List.take_length,List.take_of_length_le h]
 rw[e];refine⟨Wp _ _,?_,XT (dx.take k)⟩;have:=XS (xs.take k);rwa[List.length_take]at this
theorem aZ{xs:List Nat}(dx:YH Zc xs){k:Nat}(hk:k<=xs.length):dv Zc (Re xs k xs.length)=dv Zc (xs.drop k)/\(Re xs k xs.length).length<=xs.length-k/\YH Zc (Re xs k xs.length):=by unfold Re;rw[Nat.min_eq_left hk,Nat.min_self,List.take_of_length_le (l:=xs.drop k) (by rw[List.length_drop];omega)];refine⟨Wp _ _,?_,XT (dx.drop k)⟩;have:=XS (xs.drop k);rwa[List.length_drop]at this
theorem OQ{xs:List Nat}(dx:YH Zc xs)(k:Nat):dv Zc (Re xs k xs.length)=dv Zc (xs.drop k)/\(Re xs k xs.length).length<=xs.length-k/\YH Zc (Re xs k xs.length):=by
 rcases Nat.lt_or_ge xs.length k with h|h;·unfold Re;rw[Nat.min_eq_right (a:=k) (by omega),Nat.min_self,Nat.sub_self,List.take_zero,List.drop_eq_nil_of_le (by omega)];exact⟨rfl,Nat.zero_le _,.nil _⟩
 ·exact aZ dx h
theorem kara{al ah bl bh:Nat} :(al+ah)*(bl+bh)-al*bl-ah*bh=al*bh+ah*bl/\al*bl<=(al+ah)*(bl+bh)/\ah*bh<=(al+ah)*(bl+bh)-al*bl:=by
 have e:(al+ah)*(bl+bh)=al*bl+al*bh+(ah*bl+ah*bh):=by rw[Nat.add_mul,Nat.mul_add,Nat.mul_add]
 omega
theorem fT{x:Nat}(h:x<9223372036854775808):Zd .quo .i64 (x:Int) 2=some (.int .i64 ((x/2:Nat):Int)):=LV (y:=2) h (by decide)
def LN(n0:Nat)(lab N:Nat)(v:Value)(H':AH):Prop:= ∃len,len<=lab+1/\ir n0 H' v len N
def bp(N:Nat):Prop:= ∀(H:AH)(va vb:Value)(xs ys:List Nat),Sl H va xs->Sl H vb ys->YH Zc xs->YH Zc ys->xs.length+ys.length<=N-> ∃v H',ZU Tryz.prog ZY 199 [va,vb,.int .i64 40] H=some (v,H')/\Zj H H'/\LN H.n (xs.length+ys.length) (dv Zc xs*dv Zc ys) v H'
theorem Ae{xs ys:List Nat}(dx:YH Zc xs)(dy:YH Zc ys):dv Zc xs*dv Zc ys<Zc^(xs.length+ys.length+1):=by have h1:=Wh dx;have h2:=Wh dy;have h3:dv Zc xs*dv Zc ys<=Zc^xs.length*Zc^ys.length:=Nat.mul_le_mul (Nat.le_of_lt h1) (Nat.le_of_lt h2);rw[<-Nat.pow_add]at h3;have h4:Zc^(xs.length+ys.length)<Zc^(xs.length+ys.length+1):=Nat.pow_lt_pow_right (by decide) (Nat.lt_succ_self _);omega
theorem Ax: ∀N,N<=4000000000000->bp N:=by intro N;induction N using Nat.strongRecOn with
 |_ N ih=>
  intro hN H va vb xs ys ha hb dx dy hl;suffices h:CW Tryz.prog ZY 199 [va,vb,.int .i64 40] H fun v H'=>Zj H H'/\LN H.n (xs.length+ys.length) (dv Zc xs*dv Zc ys) v H' by obtain⟨v,H',h1,h2,h3⟩:=h;exact⟨v,H',h1,h2,h3⟩
  refine Yd 124 Tryz.func199 ?_;apply Za;intro b1 Zf;simp;subst Zf;refine Xd (fun s'=>s'.k=124/\s'.H=H/\ ∃(a b:Value) (xa xb:List Nat),Sl H a xa/\Sl H b xb/\YH Zc xa/\YH Zc xb/\xb.length<=xa.length/\xa.length+xb.length=xs.length+ys.length/\dv Zc xa*dv Zc xb=dv Zc xs*dv Zc ys/\s'.tm.get 0=some a/\s'.tm.get 1=some b/\s'.tm.get 2=some (.int .i64 40)) ?_ ?_
  ·intro Q' YA;have l1:=ha.len Zu;have l2:=hb.len Zu;apply Za;intro b1 Zf;simp[l1,l2];subst Zf;by_cases h:xs.length<ys.length;·refine Zb (t:=true) (by simp[h]) ?_;apply Zl;simp;apply YA;exact⟨rfl,rfl,vb,va,ys,xs,hb,ha,dy,dx,by omega,by omega,Nat.mul_comm _ _,by simp,by simp,by simp⟩
   ·refine Zb (t:=false) (by simp[h]) ?_;apply Zr;apply YA;exact⟨rfl,rfl,va,vb,xs,ys,ha,hb,dx,dy,by omega,rfl,rfl,by simp,by simp,by simp⟩
  clear ha hb dx dy;rintro⟨k,tm,H0⟩ ⟨hk,hH,a,b,xa,xb,ha,hb,dx,dy,hba,Jk,mJ,t0,t1,t2⟩;simp only at hk hH t0 t1 t2;subst hk;subst hH;rw[<-mJ,<-Jk];rw[<-Jk]at hl;clear mJ Jk;have l1:=ha.len Zu;have l2:=hb.len Zu;obtain⟨la,gE⟩:=hid (xa.length);obtain⟨lb,Bh⟩:=hid (xb.length);rw[<-gE]at l1 hl hba⊢;rw[<-Bh]at l2 hl hba⊢;have lt40:Zd .lss .i64 (lb:Int) 40=some (.bool (decide (lb<40))):=ZE (y:=40);have Bi:=Ae dx dy;rw[<-gE,<-Bh]at Bi;apply Zi;intro b1 Zf;apply Za;intro b2 ZT;simp[t1,t2,l2,lt40];subst ZT;by_cases h40:lb<40;·obtain⟨v,H',hc,k,hn⟩:=Ey ha hb dx dy (by omega) (by omega);rw[<-gE,<-Bh]at hn;refine Zb (t:=true) (by simp[h40]) ?_;apply Za;intro b2 ZT;simp[t0,t1,hc];subst ZT;apply ZZ;simp[YQ];exact⟨k,_,Nat.le_succ _,hn⟩
  ·refine Zb (t:=false) (by simp[h40]) ?_;apply Zr;subst Zf;obtain⟨k,hk⟩:=hid ((la+1)/2);have q2:=fT (x:=la+1) (by omega);rw[<-hk]at q2;have ps: ∀{Hx:AH}{f t:Nat}{c:Value}{cs:List Nat},Sl Hx c cs->40<=cs.length->cs.length<=4000000000000->f<=t-> ∃w,ZU Tryz.prog ZY 225 [c,.int .i64 (f:Int),.int .i64 (t:Int)] Hx=some (w,Hx)/\Sl Hx w (Re cs f t):=fun{Hx f t c cs} hs h1 h2 h3=>by obtain⟨w,H',hc,e,hw⟩:=ag hs (by omega) (by omega) h3;subst e;exact⟨w,hc,hw⟩
   have lK:Zd .add .i64 (la:Int) (lb:Int)=some (.int .i64 ((la+lb:Nat):Int)):=WO (by omega);apply Za;intro b1 Zf;simp[t0,l1,YU (x:=la) (by omega),q2];subst Zf;apply Zi;intro b1 Zf;apply Za;intro b2 ZT;simp[t1,l2,Pq];subst ZT;by_cases si:lb<=k
   ·obtain⟨c0,H1,RH,k1,o1,n1⟩:=YK (H:=H0) Zu (n:=la+lb+1) (by omega);have a1:=ha.keep k1;have b1':=hb.keep k1;obtain⟨w1,e1,s1⟩:=ps (f:=0) (t:=k) a1 (by omega) (by omega) (Nat.zero_le _);have e1:ZU Tryz.prog ZY 225 [a,.int .i64 0,.int .i64 (k:Int)] H1=some (w1,H1):=e1;obtain⟨v1,z1,d1⟩:=K9 dx k;obtain⟨p1,H2,e2,k2,AG,dV,zs1,lz1,yz,nN,sG⟩:=ih (k+lb) (by omega) (by omega) H1 w1 b (Re xa 0 k) xb s1 b1' d1 dy (by omega);rw[v1]at nN;have o2:=o1.m k2;have prod:dv Zc (xa.take k)*dv Zc xb+Zc^k*(dv Zc (xa.drop k)*dv Zc xb)=dv Zc xa*dv Zc xb:=by rw[T7 Zc xa k (by omega),Nat.add_mul,Nat.mul_assoc]
    obtain⟨u3,H3,e3,rC,Ll,zs3,lz3,yZ,sB,zN⟩:=U8 (a:=0) o2 sG.sl (Un o1 sG (Nat.le_refl _)) (T6 (by decide) _) yz (by simp;omega) (by omega) (Nat.zero_le _) (by rw[UP,List.length_replicate,Nat.pow_zero,Nat.one_mul,nN];omega);have e3:ZU Tryz.prog ZY 224 [c0,p1,.int .i64 0] H2=some (u3,H3):=e3;rw[List.length_replicate]at lz3;rw[UP,Nat.pow_zero,Nat.one_mul,Nat.zero_add,nN]at sB;have k3:Zj H0 H3:=Ll H0 (k1.trans k2) (Nat.le_refl _);have a3:=ha.keep k3;have b3':=hb.keep k3;obtain⟨w4,e4,s4⟩:=ps (f:=k) (t:=la) a3 (by omega) (by omega) (by omega);obtain⟨v4,z4,d4⟩:=OQ dx k;rw[<-gE]at v4 z4 d4;obtain⟨p5,H5,e5,k5,len5,hlen5,zs5,lz5,yY,sA,zM⟩:=ih (la-k+lb) (by omega) (by omega) H3 w4 b (Re xa k la) xb s4 b3' d4 dy (by omega);rw[v4]at sA;have o5:=zN.m k5;obtain⟨u6,H6,e6,bt6,Ub,zs6,lz6,dz6,vz6,oz6⟩:=U8 (a:=k) o5 zM.sl (Un zN zM (Nat.le_refl _)) yZ yY (by omega) (by omega) (by omega) (by rw[sB,sA,lz3,prod];exact Bi);have k6:Zj H0 H6:=Ub H0 (k3.trans k5) (Nat.le_refl _);refine Zb (t:=true) (by simp[si]) ?_;apply Za;intro b2 ZT;simp[t0,t1,l1,l2,lK,YU (x:=la+lb) (by omega),RH];subst ZT;apply Za;intro b2 ZT;simp[t0,t1,t2,e1,e2,e3];subst ZT;apply Za;intro b2 ZT;simp[t0,t1,t2,l1,e4,e5,e6];subst ZT;apply Za;intro b2 ZT;simp;subst ZT;apply ZZ;simp[YQ];exact⟨k6,la+lb+1,Nat.le_refl _,zs6,by omega,dz6,by rw[vz6,sB,sA,prod],oz6⟩
   ·refine Zb (t:=false) (by simp[si]) ?_;apply Zr;subst Zf;obtain⟨wal,eal,sal⟩:=ps (f:=0) (t:=k) ha (by omega) (by omega) (Nat.zero_le _);have eal:ZU Tryz.prog ZY 225 [a,.int .i64 0,.int .i64 (k:Int)] H0=some (wal,H0):=eal;obtain⟨wah,eah,sah⟩:=ps (f:=k) (t:=la) ha (by omega) (by omega) (by omega);obtain⟨wbl,ebl,sbl⟩:=ps (f:=0) (t:=k) hb (by omega) (by omega) (Nat.zero_le _);have ebl:ZU Tryz.prog ZY 225 [b,.int .i64 0,.int .i64 (k:Int)] H0=some (wbl,H0):=ebl;obtain⟨wbh,ebh,sbh⟩:=ps (f:=k) (t:=lb) hb (by omega) (by omega) (by omega);obtain⟨val,zal,dal⟩:=K9 dx k;obtain⟨vah,zah,dah⟩:=OQ dx k;obtain⟨vbl,zbl,dbl⟩:=K9 dy k;obtain⟨vbh,zbh,dbh⟩:=OQ dy k;rw[<-gE]at vah zah dah zal;rw[<-Bh]at vbh zbh dbh zbl;have ea:=T7 Zc xa k (by omega);have eb:=T7 Zc xb k (by omega);rw[<-val,<-vah]at ea;rw[<-vbl,<-vbh]at eb;generalize hAL:Re xa 0 k=AL at*;generalize hAH:Re xa k la=ll at*;generalize hBL:Re xb 0 k=BL at*;generalize hBH:Re xb k lb=BH at*;have hlal:AL.length<=k:=by omega
    have hlah:ll.length<=la-k:=by omega
    have hlbl:BL.length<=k:=by omega
    have hlbh:BH.length<=lb-k:=by omega
    clear zal zah zbl zbh val vah vbl vbh hAL hAH hBL hBH;obtain⟨p1,H1,e1,k1,AG,dV,zs1,lz1,yz,nN,sG⟩:=ih (k+k) (by omega) (by omega) H0 wal wbl AL BL sal sbl dal dbl (by omega);obtain⟨p2,H2,e2,k2,D2,dU,zs2,lz2,dz2,zB,xX⟩:=ih (la-k+(lb-k)) (by omega) (by omega) H1 wah wbh ll BH (sah.keep k1) (sbh.keep k1) dah dbh (by omega);have NN:=k1.trans k2;obtain⟨s3,H3,e3,k3,zs3,lz3,yZ,sB,zN⟩:=EM (sal.keep NN) (sah.keep NN) dal dah (by omega) (by omega);have UL:=NN.trans k3;obtain⟨n4,H4,e4,k4,o4⟩:=Vl zN.sl (by omega);rw[Xi Z2 yZ,sB]at o4;have Ra:=UL.trans k4;obtain⟨s5,H5,e5,k5,zs5,lz5,yY,sA,zM⟩:=EM (sbl.keep Ra) (sbh.keep Ra) dbl dbh (by omega) (by omega);obtain⟨n6,H6,e6,k6,o6⟩:=Vl zM.sl (by omega);rw[Xi Z2 yY,sA]at o6;have l4:(ds Zc (dv Zc AL+dv Zc ll)).length<=k+1:=by rw[<-sB];exact Nat.le_trans (VX yZ) (by omega)
    have l6:(ds Zc (dv Zc BL+dv Zc BH)).length<=k+1:=by rw[<-sA];exact Nat.le_trans (VX yY) (by omega)
    obtain⟨p7,H7,e7,k7,len7,hlen7,zs7,lz7,dz7,vz7,oz7⟩:=ih (k+1+(k+1)) (by omega) (by omega) H6 n4 n6 _ _ ((o4.sl.keep k5).keep k6) o6.sl (Yx Z2 _) (Yx Z2 _) (by omega);rw[YL Z2,YL Z2]at vz7;obtain⟨kr1,kr2,kr3⟩:=kara (al:=dv Zc AL) (ah:=dv Zc ll) (bl:=dv Zc BL) (bh:=dv Zc BH);have k27:=(((k3.trans k4).trans k5).trans k6).trans k7;have QK:=k2.trans k27;obtain⟨p8,H8,e8,k8,zs8,lz8,dz8,vz8,oz8⟩:=Iu oz7.sl (sG.sl.keep QK) dz7 yz (by omega) (by omega) (by rw[vz7,nN];exact kr2);rw[vz7,nN]at vz8;have k28:=k27.trans k8;obtain⟨p9,H9,e9,k9,zs9,lz9,dz9,zA,oz9⟩:=Iu oz8.sl (xX.sl.keep k28) dz8 dz2 (by omega) (by omega) (by rw[vz8,zB];exact kr3);rw[vz8,zB,kr1]at zA;have zp:=k28.trans k9;obtain⟨c0,EC,RH,UA,zT,nr⟩:=YK (H:=H9) Zu (n:=la+lb+1) (by omega);have wU:=zp.trans UA;have wV:=k2.trans wU;have K10:=k1.trans wV;have NI: ∀{n0:Nat}{Hx:AH}{p:Value}{zs:List Nat},Ym n0 Hx p zs->Hx.n<=H9.n->Vg c0 p:=fun{n0 Hx p zs} o hn c hc S9=>by have x1:=(zT.blk_lo hc).1;have x2:=(o.blk_lo S9).2;omega
    have n1':=k2.n;have n2':=zp.n;have prod:dv Zc AL*dv Zc BL+Zc^k*(dv Zc AL*dv Zc BH+dv Zc ll*dv Zc BL)+Zc^(2*k)*(dv Zc ll*dv Zc BH)=dv Zc xa*dv Zc xb:=by
     rw[ea,eb,Nat.add_mul,Nat.mul_add,Nat.mul_add,Nat.mul_add,Nat.two_mul,Nat.pow_add];generalize dv Zc AL=x at*;generalize dv Zc ll=y at*;generalize dv Zc BL=z at*;generalize dv Zc BH=w at*;generalize Zc^k=q at*;have f1:x*(q*w)=q*(x*w):=by rw[Nat.mul_left_comm]
     have f2:q*y*z=q*(y*z):=by rw[Nat.mul_assoc]
     have f3:q*y*(q*w)=q*q*(y*w):=by rw[Nat.mul_mul_mul_comm]
     rw[f1,f2,f3];omega
    have p1le:dv Zc AL*dv Zc BL<Zc^(la+lb+1):=by omega
    have p2le:dv Zc AL*dv Zc BL+Zc^k*(dv Zc AL*dv Zc BH+dv Zc ll*dv Zc BL)<Zc^(la+lb+1):=by omega
    obtain⟨yf,BD,yX,tR,ka11,zs11,qQ,dz11,lf,oz11⟩:=U8 (a:=0) zT (sG.sl.keep wV) (NI sG (by omega)) (T6 (by decide) _) yz (by simp;omega) (by omega) (Nat.zero_le _) (by rw[UP,List.length_replicate,Nat.pow_zero,Nat.one_mul,nN];omega);have yX:ZU Tryz.prog ZY 224 [c0,p1,.int .i64 0] EC=some (yf,BD):=yX;rw[List.length_replicate]at qQ;rw[UP,Nat.pow_zero,Nat.one_mul,Nat.zero_add,nN]at lf;have sp9:=(oz9.sl.keep UA).but tR (NI oz9 (Nat.le_refl _));obtain⟨CV,lW,e12,bt12,qq,zs12,lz12,dz12,yl,oz12⟩:=U8 (a:=k) oz11 sp9 (NI oz9 (Nat.le_refl _)) dz11 dz9 (by omega) (by omega) (by omega) (by rw[lf,zA,qQ];exact p2le);have sp2:=((xX.sl.keep wU).but tR (NI xX n2')).but bt12 (NI xX n2');obtain⟨BJ,CN,e13,bt13,ka13,zs13,lz13,dz13,vz13,oz13⟩:=U8 (a:=2*k) oz12 sp2 (NI xX n2') dz12 dz2 (by omega) (by omega) (by omega) (by rw[yl,lf,zA,zB,lz12,qQ,prod];exact Bi);have K13:Zj H0 CN:=by
     have n9:H0.n<=H9.n:=by have:=(k1.trans (k2.trans zp)).n;exact this
     exact ka13 H0 (qq H0 (ka11 H0 K10 n9) n9) n9
    apply Za;intro b1 Zf;simp[t0,t1,l1,l2,eal,eah,ebl,ebh];subst Zf;apply Za;intro b1 Zf;simp[t2,e1,e2];subst Zf;apply Za;intro b1 Zf;simp[t2,e3,e4,e5,e6,e7,e8,e9];subst Zf;apply Za;intro b1 Zf;simp[t0,t1,l1,l2,lK,YU (x:=la+lb) (by omega),RH];subst Zf;apply Za;intro b1 Zf;simp[yX];subst Zf;apply Za;intro b1 Zf;simp[e12];subst Zf;apply Za;intro b1 Zf;simp[CA (x:=k) (by omega),e13];subst Zf;apply Za;intro b1 Zf;simp;subst Zf;apply ZZ;simp;refine⟨K13,la+lb+1,Nat.le_refl _,zs13,by omega,dz13,by rw[vz13,yl,lf,zA,zB,prod],oz13.mono ?_ (.refl _)⟩;exact(k1.trans (k2.trans zp)).n
theorem Ri{n:Nat} :0<Zq n↔0<n:=by
 unfold Zq;by_cases h:n=0;·rw[if_pos h];omega
 ·rw[if_neg h];omega
theorem bF{A B:Nat}(hA:0<A)(hB:0<B):Zq A+Zq B-1<=Zq (A*B):=by have h1:=WN (n:=A) (by omega);have h2:=WN (n:=B) (by omega);have h3:=Ww (A*B);have h4:2^(Zq A-1)*2^(Zq B-1)<=A*B:=Nat.mul_le_mul h1 h2;rw[<-Nat.pow_add]at h4;have h5:=(Nat.pow_lt_pow_iff_right (a:=2) (by decide)).mp (Nat.lt_of_le_of_lt h4 h3);have:=Ri.mpr hA;have:=Ri.mpr hB;omega
theorem LJ{A:Nat}{L:Nat}(h:(ds Zc A).length<=L):Zq A<=64*L:=by
 rcases Nat.eq_zero_or_pos A with h0|h0;·subst h0;exact Nat.zero_le _
 ·have h1:=GA Z2 A;have h2:Zc^(ds Zc A).length<=Zc^L:=Nat.pow_le_pow_right (by decide) h;have h4:Zc^L=2^(64*L):=by rw[Nat.pow_mul]
  have h3:=WN (n:=A) (by omega);have h5:2^(Zq A-1)<2^(64*L):=by rw[<-h4];omega
  have:=(Nat.pow_lt_pow_iff_right (a:=2) (by decide)).mp h5;omega
section
variable {H : AH} {va vb : Value} {xs ys : List Nat}
def PJ(n0:Nat)(N:Nat)(v:Value)(H':AH):Prop:=(67108864<Zq N/\v= .tuple #[.slice none 0 0,.int .i64 3])\/(Zq N<=67108864/\ ∃u,v= .tuple #[u,.int .i64 0]/\Ym n0 H' u (ds Zc N))
theorem Dw{A B:Nat}(ha:Sl H va (ds Zc A))(hb:Sl H vb (ds Zc B))(lA:(ds Zc A).length<=WJ)(lB:(ds Zc B).length<=WJ):CW Tryz.prog ZY 221 [va,vb] H fun v H'=>H'=H/\v= .bool (decide (0<A/\0<B/\67108864<Zq A+Zq B-1)):=by
 refine Yd 24 Tryz.func221 ?_;have c1:=Xm ha lA;have c2:=Xm hb lB;have bA:Zq A<=64*2000000000000:=LJ lA;have bB:Zq B<=64*2000000000000:=LJ lB;apply Za;intro b1 Zf;simp;subst Zf;apply Za;intro b1 Zf;simp[c1,c2];subst Zf;apply Za;intro b1 Zf;by_cases hA:0<Zq A
 ·by_cases hB:0<Zq B;·have s1:Zd .add .i64 (Zq A:Int) (Zq B:Int)=some (.int .i64 ((Zq A+Zq B:Nat):Int)):=WO (by omega);have s2:Zd .sub .i64 ((Zq A+Zq B:Nat):Int) 1=some (.int .i64 ((Zq A+Zq B-1:Nat):Int)):=V8 (by omega) (by omega);simp[Kl,hA,hB,s1,s2,QO];subst Zf;apply ZZ;have hA':=Ri.mp hA;have hB':=Ri.mp hB;simp[hA',hB']
  ·have hB': ¬0<B:=fun h=>hB (Ri.mpr h);simp[Kl,hA,hB];subst Zf;apply ZZ;simp;omega
 ·have hA': ¬0<A:=fun h=>hA (Ri.mpr h);simp[Kl,hA];subst Zf;apply ZZ;simp;omega
theorem Ao(ha:Sl H va xs)(dx:YH Zc xs)(lx:xs.length<=2*WJ+1):CW Tryz.prog ZY 222 [va] H fun v H'=>Zj H H'/\PJ H.n (dv Zc xs) v H':=by
 refine Yd 10 Tryz.func222 ?_;obtain⟨v1,H1,c1,k1,o1⟩:=Vl ha (Nat.le_trans lx (by decide));rw[Xi Z2 dx]at o1;have lN:=VX dx;have c2:ZU Tryz.prog ZY 123 [v1] H1=some (.int .i64 (Zq (dv Zc xs):Int),H1):=by obtain⟨_,_,hc,rfl,rfl⟩:=W4 o1.sl (Yx Z2 _) (Nat.le_trans (Nat.le_trans lN lx) (by decide));rw[YL Z2]at hc;exact hc
 generalize dv Zc xs=N at*;apply Za;intro b1 Zf;simp;subst Zf;apply Za;intro b1 Zf;simp[c1];subst Zf;apply Zi;intro b1 Zf;apply Za;intro b2 ZT;simp[c2,QO];subst ZT;by_cases h:67108864<Zq N;·refine Zb (t:=true) (by simp[h]) ?_;apply Za;intro b2 ZT;simp;subst ZT;apply ZZ;simp[YQ];exact⟨k1,.inl ⟨h,rfl⟩⟩
 ·refine Zb (t:=false) (by simp[h]) ?_;apply Zr;subst Zf;apply Za;intro b2 ZT;simp;subst ZT;apply ZZ;simp;exact⟨k1,.inr ⟨by omega,v1,rfl,o1⟩⟩
theorem F3{A B:Nat}(ha:Sl H va (ds Zc A))(hb:Sl H vb (ds Zc B))(lA:(ds Zc A).length<=WJ)(lB:(ds Zc B).length<=WJ): ∃v H',ZU Tryz.prog ZY 198 [va,vb] H=some (v,H')/\Zj H H'/\LN H.n ((ds Zc A).length+(ds Zc B).length) (A*B) v H':=by
 obtain⟨v,H',hc,k,h⟩:=Ax ((ds Zc A).length+(ds Zc B).length) (by have:WJ=2000000000000:=rfl;omega) H va vb _ _ ha hb (Yx Z2 A) (Yx Z2 B) (Nat.le_refl _);rw[YL Z2,YL Z2]at h;suffices hs:CW Tryz.prog ZY 198 [va,vb] H fun v' H''=>v'=v/\H''=H' by obtain⟨_,_,Jm,rfl,rfl⟩:=hs;exact⟨_,_,Jm,k,h⟩
 refine Yd 8 Tryz.func198 ?_;apply Za;intro b1 Zf;simp;subst Zf;apply Za;intro b1 Zf;simp[hc];subst Zf;apply ZZ;simp
theorem fj(ha:Sl H va xs)(hb:Sl H vb ys)(dx:YH Zc xs)(dy:YH Zc ys)(lx:xs.length<=WJ)(ly:ys.length<=WJ):CW Tryz.prog ZY 146 [va,vb] H fun v H'=>Zj H H'/\PJ H.n (dv Zc xs*dv Zc ys) v H':=by
 suffices hp:CW Tryz.prog ZY 197 [va,vb,.func (.func 198) #[] #[]] H fun v H'=>Zj H H'/\PJ H.n (dv Zc xs*dv Zc ys) v H'/\ ∃a b,v= .tuple #[a,b] by obtain⟨_,H1,hc,k1,h1,a,b,rfl⟩:=hp;refine Yd 11 Tryz.func146 ?_;apply Za;intro b1 Zf;simp;subst Zf;apply Za;intro b1 Zf;simp[hc];subst Zf;apply ZZ;simp;exact⟨k1,h1⟩
 refine Yd 22 Tryz.func197 ?_;obtain⟨v1,v2,H1,H2,c1,c2,k2,o1,o2,ap⟩:=Nw ha hb dx dy lx ly;have lA:=Nat.le_trans (VX dx) lx;have lB:=Nat.le_trans (VX dy) ly;generalize dv Zc xs=A at*;generalize dv Zc ys=B at*;have c3:ZU Tryz.prog ZY 221 [v1,v2] H2=some (.bool (decide (0<A/\0<B/\67108864<Zq A+Zq B-1)),H2):=by obtain⟨_,_,hc,rfl,rfl⟩:=Dw o1.sl o2.sl lA lB;exact hc
 apply Za;intro b1 Zf;simp;subst Zf;apply Za;intro b1 Zf;simp[c1,c2];subst Zf;apply Zi;intro b1 Zf;apply Zi;intro b2 ZT;by_cases hg:0<A/\0<B/\67108864<Zq A+Zq B-1;·rw[decide_eq_true hg]at c3;apply Zl;simp[c3];subst ZT;refine Zb (t:=true) (by simp) ?_;apply Za;intro b2 ZT;simp;subst ZT;apply ZZ;simp[YQ];have:=bF hg.1 hg.2.1;exact⟨k2,.inl ⟨by omega,rfl⟩⟩
 ·rw[decide_eq_false hg]at c3;obtain⟨v3,H3,c4,k3,len,hlen,zs,lz,dz,vz,oz⟩:=F3 o1.sl o2.sl lA lB;obtain⟨v5,H5,c5,k5,h5⟩:=Ao oz.sl dz (by have:WJ=2000000000000:=rfl;omega);rw[vz]at h5;have hn:H.n<=H3.n:=(k2.trans k3).n;have h6:PJ H.n (A*B) v5 H5/\ ∃a b,v5= .tuple #[a,b]:=by
   rcases h5 with⟨h,rfl⟩|⟨h,u,rfl,o⟩;·exact⟨.inl ⟨h,rfl⟩,_,_,rfl⟩
   ·exact⟨.inr ⟨h,u,rfl,o.mono hn (.refl _)⟩,_,_,rfl⟩
  obtain⟨h6,a,b,rfl⟩:=h6;apply Zl;simp[c3];subst ZT;refine Zb (t:=false) (by simp) ?_;apply Zr;subst Zf;apply Za;intro b2 ZT;simp[c4,c5];subst ZT;apply ZZ;simp;exact⟨(k2.trans k3).trans k5,h6⟩
end
section
variable {H : AH} {va vb : Value} {xs ys : List Nat}
theorem F4(ha:Sl H va xs)(hb:Sl H vb ys)(dx:YH Zc xs)(dy:YH Zc ys)(lx:xs.length<=2*WJ)(ly:ys.length<=2*WJ):CW Tryz.prog ZY 167 [va,vb] H fun v H'=>Zj H H'/\PJ H.n (dv Zc xs+dv Zc ys) v H':=by
 have iE:WJ=2000000000000:=rfl;refine Yd 61 Tryz.func167 ?_;obtain⟨v1,H1,c1,e1,s1⟩:=WA ha (by omega);obtain⟨v2,H2,c2,e2,s2⟩:=WA hb (by omega);rw[e1]at c1;rw[e2]at c2;rw[<-Wp Zc xs,<-Wp Zc ys];have dx:=XT dx;have dy:=XT dy;have lx:(YZ xs).length<=2*WJ:=Nat.le_trans (XS xs) lx;have ly:(YZ ys).length<=2*WJ:=Nat.le_trans (XS ys) ly;generalize YZ xs=xs at*;generalize YZ ys=ys at*;apply Za;intro b1 Zf;simp;subst Zf;apply Za;intro b1 Zf;simp[c1,c2];subst Zf;refine Xd (fun s'=>s'.k=61/\s'.H=H/\ ∃(a b:Value) (xa xb:List Nat),Sl H a xa/\Sl H b xb/\YH Zc xa/\YH Zc xb/\xb.length<=xa.length/\xa.length<=2*WJ/\dv Zc xa+dv Zc xb=dv Zc xs+dv Zc ys/\s'.tm.get 0=some a/\s'.tm.get 1=some b) ?_ ?_
 ·intro Q' YA;have l1:=s1.len Zu;have l2:=s2.len Zu;apply Za;intro b1 Zf;simp[l1,l2];subst Zf;by_cases h:xs.length<ys.length;·refine Zb (t:=true) (by simp[h]) ?_;apply Zl;simp;apply YA;exact⟨rfl,rfl,v2,v1,ys,xs,s2,s1,dy,dx,by omega,by omega,Nat.add_comm _ _,by simp,by simp⟩
  ·refine Zb (t:=false) (by simp[h]) ?_;apply Zr;apply YA;exact⟨rfl,rfl,v1,v2,xs,ys,s1,s2,dx,dy,by omega,by omega,rfl,by simp,by simp⟩
 clear ha hb s1 s2 dx dy c1 c2;rintro⟨k,tm,H0⟩ ⟨hk,hH,a,b,xa,xb,ha,hb,dx,dy,hba,gE,RF,t0,t1⟩;simp only at hk hH t0 t1;subst hk;subst hH;rw[<-RF];clear RF lx ly;have l1:=ha.len Zu;have l2:=hb.len Zu;obtain⟨n,hn⟩:=hid (xa.length);rw[<-hn]at l1;obtain⟨c0,H3,RH,k3,o3,n3⟩:=YK (H:=H0) Zu (n:=n+1) (by omega);apply Za;intro b1 Zf;simp[t0,l1,YU (x:=n) (by omega),RH];subst Zf;apply Za;intro b1 Zf;simp;subst Zf;apply Zi;intro b1 Zf;apply Za;intro b2 ZT;simp[t0,l1];subst ZT;apply ZR;refine YS (fun m s'=>s'.k=61/\Zj H0 s'.H/\ ∃(i c:Nat) (L:List Nat),m+i=n/\L.length=i/\c<=1/\YH Zc L/\dv Zc L+Zc^i*c=dv Zc (xa.take i)+dv Zc (xb.take i)/\Ym H0.n s'.H c0 (L++List.replicate (m+1) 0)/\s'.tm.get 0=some a/\s'.tm.get 1=some b/\s'.tm.get 6=some c0/\s'.tm.get 7=some (.int .u64 (c:Int))/\s'.tm.get 26=some (.int .i64 (n:Int))/\s'.tm.get 27=some (.int .i64 (i:Int))) ?_ n _ ⟨rfl,k3,0,0,[],by omega,rfl,by omega,.nil _,by simp[dv],by simpa using o3,by simp[t0],by simp[t1],by simp,by simp,by simp,by simp⟩;clear t0 t1;rintro m ⟨k,tm,H4⟩ ⟨hk,kH,i,c,L,Kv,hL,hc,dL,heq,own,t0,t1,t6,t7,t26,t27⟩ Q' YA;simp only at hk kH own t0 t1 t6 t7 t26 t27;subst hk;apply Za;intro b3 Z4;simp[t26,t27];subst Z4;apply Zi;intro b3 Z4;by_cases hi:i<n
 ·refine Zb (t:=true) (by simp[hi]) ?_;apply Zr;subst Z4;obtain⟨m',rfl⟩: ∃m',m=m'+1:=⟨m-1,by omega⟩;have UZ:i<xa.length:=by omega
  have sa:=ha.keep kH;have sb:=hb.keep kH;obtain⟨y,hy⟩:=hid (nth xb i);have AR:y<Zc:=by rw[hy];exact UI dy (by decide) _
  obtain⟨x,hx⟩:=hid (nth xa i);have E8:x<Zc:=by rw[hx];exact UI dx (by decide) _
  have a0:=sa.adr Zu (k:= .i64) UZ;have d0:=sa.load UZ;rw[<-XM UZ,<-hx]at d0;obtain⟨z,hz⟩:=hid ((x+y+c)%Zc);obtain⟨c',S9⟩: ∃c',c'=(x+y+c)/Zc:=⟨_,rfl⟩;have hzc:Zc*c'+z=x+y+c:=by rw[hz,S9];exact Nat.div_add_mod _ _
  have DK:z<Zc:=by rw[hz];exact Nat.mod_lt _ (by decide)
  have Nd:c'<=1:=by
   have:c'<2:=by rw[S9,Nat.div_lt_iff_lt_mul (by decide)];omega
   omega
  have ac:ZU Tryz.prog ZY 203 [.int .u64 (x:Int),.int .u64 (y:Int),.int .u64 (c:Int)] H4=some (.tuple #[.int .u64 (z:Int),.int .u64 (c':Int)],H4):=by rw[hz,S9];exact RU x y c H4 hc
  obtain⟨H5,Ui,QC,mg,UK⟩:=own.fill hL z;have a3:=own.sl.adr Zu (k:= .i64) (i:=i) (by simp;omega);apply Zi;intro b3 Z4;apply ZR;apply Za;intro b4 Yy;simp[t27];subst Yy;apply Za;intro b4 Yy;simp;subst Yy;refine Xd (fun s'=>s'.k=61/\s'.H=H4/\s'.tm.get 0=some a/\s'.tm.get 1=some b/\s'.tm.get 6=some c0/\s'.tm.get 7=some (.int .u64 (c:Int))/\s'.tm.get 8=some (.int .i64 (i:Int))/\s'.tm.get 9=some (.int .u64 (y:Int))/\s'.tm.get 26=some (.int .i64 (n:Int))/\s'.tm.get 27=some (.int .i64 (i:Int))) ?_ ?_
  ·intro Jt XR;apply Za;intro b4 Yy;simp[t1,l2];subst Yy;by_cases Jl:i<xb.length;·refine Zb (t:=true) (by simp[Jl]) ?_;have a1:=sb.adr Zu (k:= .i64) Jl;have d1:=sb.load Jl;rw[<-XM Jl,<-hy]at d1;apply Zl;simp[t1,a1,d1];apply XR;exact⟨rfl,rfl,by simp[t0],by simp[t1],by simp[t6],by simp[t7],by simp,by simp,by simp[t26],by simp[t27]⟩
   ·refine Zb (t:=false) (by simp[Jl]) ?_;apply Zr;apply XR;rw[VF (by omega)]at hy;subst hy;exact⟨rfl,rfl,by simp[t0],by simp[t1],by simp[t6],by simp[t7],by simp,by simp,by simp[t26],by simp[t27]⟩
  clear t0 t1 t6 t7 t26 t27;rintro⟨k,tm,H6⟩ ⟨hk,hH,t0,t1,t6,t7,t8,t9,t26,t27⟩;simp only at hk hH t0 t1 t6 t7 t8 t9 t26 t27;subst hk;subst hH;apply Zl;simp[t0,t6,t7,t8,t9,a0,d0,ac,a3,Ui];subst Z4;apply Zl;simp[t27,YU (x:=i) (by omega)];apply YA;refine⟨m',by omega,rfl,UK H0 kH (Nat.le_refl _),i+1,c',L++[z],by omega,by simp[hL],Nd,dL.append (.cons DK (.nil _)),?_,QC,by simp[t0],by simp[t1],by simp[t6],by simp,by simp[t26],by simp⟩;rw[Yn,hL,Xv,Xv,<-hx,<-hy];simp only[dv,Nat.mul_zero,Nat.add_zero];have e1:Zc^i*(Zc*c'+z)=Zc^i*(x+y+c):=by rw[hzc]
  rw[Nat.mul_add,<-Nat.mul_assoc,show Zc^i*Zc=Zc^(i+1)from rfl,Nat.mul_add,Nat.mul_add]at e1;omega
 ·refine Zb (t:=false) (by simp[hi]) ?_;apply YN;apply YA;left;refine⟨rfl,?_⟩;obtain rfl:i=n:=by omega
  obtain rfl:m=0:=by omega
  rw[List.take_of_length_le (by omega),List.take_of_length_le (by omega)]at heq;have a3:=own.sl.adr Zu (k:= .i64) (i:=i) (by simp;omega);obtain⟨H5,Ui,QC,mg,UK⟩:=own.fill hL c;rw[List.replicate_zero,List.append_nil]at QC;have dLc:YH Zc (L++[c]):=dL.append (.cons (by show c<18446744073709551616;omega) (.nil _));have hval:dv Zc (L++[c])=dv Zc xa+dv Zc xb:=by rw[Yn,hL];simp only[dv,Nat.mul_zero,Nat.add_zero];exact heq
  obtain⟨v6,H6,c6,e6,h6⟩:=PV QC dLc (by simp;omega);subst e6;rw[hval]at h6;have k5:Zj H0 H6:=UK H0 kH (Nat.le_refl _);have h7:PJ H0.n (dv Zc xa+dv Zc xb) v6 H6/\ ∃a b,v6= .tuple #[a,b]:=by
   rcases h6 with⟨h,rfl⟩|⟨h,u,rfl,o⟩;·exact⟨.inl ⟨h,rfl⟩,_,_,rfl⟩
   ·exact⟨.inr ⟨h,u,rfl,o⟩,_,_,rfl⟩
  obtain⟨h7,p,q,rfl⟩:=h7;subst Zf;apply Za;intro b4 Yy;simp[t0,t6,t7,l1,a3,Ui];subst Yy;apply Za;intro b4 Yy;simp[t6,c6];subst Yy;apply ZZ;simp;exact⟨k5,h7⟩
end
theorem iK{A B:Nat}(hA:0<A):0<Nat.gcd A B:=Nat.gcd_pos_of_pos_left B hA
theorem Cb{x y o c:Nat}(hx:x<Yk)(hy:y<Yk)(ho:o<Yk)(hc:c<Yk):x*y<Zc/\x*y+o<Zc/\x*y+o+c<Zc/\(x*y+o+c)/4294967296<Yk/\(x*y+o+c)%4294967296+Yk*((x*y+o+c)/4294967296)=o+x*y+c:=by have hx:x<4294967296:=hx;have hy:y<4294967296:=hy;have ho:o<4294967296:=ho;have hc:c<4294967296:=hc;have hp:x*y<=4294967295*4294967295:=Nat.mul_le_mul (by omega) (by omega);show x*y<18446744073709551616/\x*y+o<18446744073709551616/\x*y+o+c<18446744073709551616/\(x*y+o+c)/4294967296<4294967296/\(x*y+o+c)%4294967296+4294967296*((x*y+o+c)/4294967296)=o+x*y+c;generalize x*y=p at*;omega
section
variable {H : AH} {va vb : Value}
theorem Ep{xs ys:List Nat}(ha:Sl H va xs)(hb:Sl H vb ys)(dx:YH Yk xs)(dy:YH Yk ys)(lx:xs.length<=8000000000000)(ly:ys.length<=8000000000000):CW Tryz.prog ZY 61 [va,vb] H fun v H'=>Zj H H'/\Ym H.n H' v (ds Yk (dv Yk xs*dv Yk ys)):=by
 refine Yd 65 Tryz.func61 ?_;have l1:=ha.len ZA;have l2:=hb.len ZA;obtain⟨la,gE⟩:=hid (xs.length);obtain⟨lb,Bh⟩:=hid (ys.length);rw[<-gE]at l1;rw[<-Bh]at l2;obtain⟨c0,H1,RH,k1,o1,n1⟩:=YK (H:=H) ZA (n:=la+lb+1) (by omega);have ad:Zd .add .i64 (la:Int) (lb:Int)=some (.int .i64 ((la+lb:Nat):Int)):=WO (by omega);apply Za;intro b1 Zf;simp;subst Zf;apply Za;intro b1 Zf;simp[l1,l2,ad,YU (x:=la+lb) (by omega),RH];subst Zf;apply Zi;intro b1 Zf;apply Za;intro b2 ZT;simp[l1];subst ZT;apply ZR;refine YS (fun m s'=>s'.k=65/\Zj H s'.H/\ ∃(i:Nat) (O:List Nat),m+i=la/\O.length=la+lb+1/\YH Yk O/\(∀j,i+lb<=j->nth O j=0)/\dv Yk O=dv Yk (xs.take i)*dv Yk ys/\Ym H.n s'.H c0 O/\s'.tm.get 1=some vb/\s'.tm.get 5=some c0/\s'.tm.get 19=some va/\s'.tm.get 20=some (.int .i64 (la:Int))/\s'.tm.get 21=some (.int .i64 (i:Int))) ?_ la _ ⟨rfl,k1,0,List.replicate (la+lb+1) 0,by omega,by simp,T6 (by decide) _,fun j _=>by
  by_cases hj:j<(List.replicate (la+lb+1) 0).length;·rw[XM hj];simp
  ·exact VF (by omega),by simp[dv,UP],o1,by simp,by simp,by simp,by simp,by simp⟩;rintro m ⟨k,tm,H2⟩ ⟨hk,kH,i,O,Kv,hO,dO,hz,heq,own,t1,t5,t19,t20,t21⟩ Q' YA;simp only at hk kH own t1 t5 t19 t20 t21;subst hk;apply Za;intro b3 Z4;simp[t20,t21];subst Z4;apply Zi;intro b3 Z4;by_cases hi:i<la
 ·refine Zb (t:=true) (by simp[hi]) ?_;apply Zr;subst Z4;have UZ:i<xs.length:=by omega
  have sa:=ha.keep kH;have a1:=sa.adr ZA (k:= .i64) UZ;have d1:=sa.load UZ;obtain⟨x,hx⟩:=hid (xs[i]);have E8:x<Yk:=by rw[hx];exact dx.get (List.getElem?_eq_getElem UZ)
  rw[<-hx]at d1;apply Zi;intro b3 Z4;apply ZR;apply Za;intro b4 Yy;simp[t19,t21,a1,d1];subst Yy;apply Za;intro b4 Yy;simp;subst Yy;refine Xd (fun s'=>s'.k=65/\Zj H s'.H/\ ∃(c:Nat) (O2:List Nat),c<Yk/\O2.length=la+lb+1/\YH Yk O2/\(∀j,i+lb<=j->nth O2 j=0)/\dv Yk O2+Yk^(i+lb)*c=dv Yk O+Yk^i*(x*dv Yk ys)/\Ym H.n s'.H c0 O2/\s'.tm.get 1=some vb/\s'.tm.get 5=some c0/\s'.tm.get 6=some (.int .i64 (i:Int))/\s'.tm.get 8=some (.int .u64 (c:Int))/\s'.tm.get 19=some va/\s'.tm.get 20=some (.int .i64 (la:Int))/\s'.tm.get 21=some (.int .i64 (i:Int))) ?_ ?_
  ·intro Jt XR;apply Za;intro b4 Yy;simp[t1,l2];subst Yy;apply ZR;refine YS (fun m s'=>s'.k=65/\Zj H s'.H/\ ∃(j c:Nat) (O2:List Nat),m+j=lb/\c<Yk/\O2.length=la+lb+1/\YH Yk O2/\(∀j,i+lb<=j->nth O2 j=0)/\dv Yk O2+Yk^(i+j)*c=dv Yk O+Yk^i*(x*dv Yk (ys.take j))/\Ym H.n s'.H c0 O2/\s'.tm.get 1=some vb/\s'.tm.get 5=some c0/\s'.tm.get 6=some (.int .i64 (i:Int))/\s'.tm.get 7=some (.int .u64 (x:Int))/\s'.tm.get 8=some (.int .u64 (c:Int))/\s'.tm.get 19=some va/\s'.tm.get 20=some (.int .i64 (la:Int))/\s'.tm.get 21=some (.int .i64 (i:Int))/\s'.tm.get 26=some vb/\s'.tm.get 27=some (.int .i64 (lb:Int))/\s'.tm.get 28=some (.int .i64 (j:Int))) ?_ lb _ ⟨rfl,kH,0,0,O,by omega,by decide,hO,dO,hz,by simp[dv],own,by simp[t1],by simp[t5],by simp,by simp,by simp,by simp[t19],by simp[t20],by simp[t21],by simp[t1],by simp,by simp⟩;clear t1 t5 t19 t20 t21;rintro m2 ⟨k,tm,H3⟩ ⟨hk,Jp,j,c,O2,hmj,hc,iD,cy,FM,N8,RA,t1,t5,t6,t7,t8,t19,t20,t21,t26,t27,t28⟩ Q5 iC;simp only at hk Jp RA t1 t5 t6 t7 t8 t19 t20 t21 t26 t27 t28;subst hk;apply Za;intro b5 SV;simp[t27,t28];subst SV;apply Zi;intro b5 SV;by_cases hj:j<lb
   ·refine Zb (t:=true) (by simp[hj]) ?_;apply Zr;subst SV;have Bf:j<ys.length:=by omega
    have xE:=hb.keep Jp;have a2:=xE.adr ZA (k:= .i64) Bf;have d2:=xE.load Bf;obtain⟨y,hy⟩:=hid (ys[j]);have AR:y<Yk:=by rw[hy];exact dy.get (List.getElem?_eq_getElem Bf)
    rw[<-hy]at d2;have Ks:i+j<O2.length:=by omega
    have a3:=RA.sl.adr ZA (k:= .i64) Ks;have d3:=RA.sl.load Ks;obtain⟨o,ho⟩:=hid (O2[i+j]);have hoB:o<Yk:=by rw[ho];exact cy.get (List.getElem?_eq_getElem Ks)
    rw[<-ho]at d3;obtain⟨st0,Sx,Tq,Sc,xB⟩:=Cb E8 AR hoB hc;have e1:Zd .mul .u64 (x:Int) (y:Int)=some (.int .u64 ((x*y:Nat):Int)):=by rw[TB,Nat.mod_eq_of_lt st0]
    have e2:Zd .add .u64 ((x*y:Nat):Int) (o:Int)=some (.int .u64 ((x*y+o:Nat):Int)):=X3 Sx;have e3:Zd .add .u64 ((x*y+o:Nat):Int) (c:Int)=some (.int .u64 ((x*y+o+c:Nat):Int)):=X3 Tq;obtain⟨v,hv⟩:=hid (x*y+o+c);rw[<-hv]at e3 Tq Sc xB;have e6:Zd .add .i64 (i:Int) (j:Int)=some (.int .i64 ((i+j:Nat):Int)):=WO (by omega);obtain⟨H4,WQ,Vr,n4,oW,Ua⟩:=RA.put (i:=i+j) Ks (v%4294967296);apply Zi;intro b5 SV;apply ZR;apply Za;intro b6 QN;simp[t26,t28,a2,d2];subst QN;apply Za;intro b6 QN;simp[t5,t6,t7,t8,e6,a3,d3,e1,e2,e3];subst QN;apply Za;intro b6 QN;simp[t5,t6,e6,a3,Es,WQ];subst QN;apply Zl;simp[Ei Tq];subst SV;apply Zl;simp[t28,YU (x:=j) (by omega)];apply iC;refine⟨m2-1,by omega,rfl,Ua H Jp (Nat.le_refl _),j+1,v/4294967296,O2.set (i+j) (v%4294967296),by omega,Sc,by simp[iD],cy.set (Nat.mod_lt _ (by decide)),fun q hq=>by rw[LY (by omega)];exact FM q hq,?_,Vr,by simp[t1],by simp[t5],by simp[t6],by simp[t7],by simp,by simp[t19],by simp[t20],by simp[t21],by simp[t26],by simp[t27],by simp⟩;have ds:=NC Yk O2 (i+j) (v%4294967296) Ks;rw[<-ho]at ds;rw[Xc Bf,Yn,List.length_take,Nat.min_eq_left (by omega),<-hy];simp only[dv,Nat.mul_zero,Nat.add_zero];generalize v/4294967296=cc at*;generalize v%4294967296=o' at*;have f1:Yk^(i+j)*(o'+Yk*cc)=Yk^(i+j)*(o+x*y+c):=by rw[xB]
    rw[Nat.mul_add,<-Nat.mul_assoc (Yk^(i+j)) Yk,show Yk^(i+j)*Yk=Yk^(i+(j+1))from rfl,Nat.mul_add,Nat.mul_add]at f1;have f2:Yk^i*(x*(dv Yk (ys.take j)+Yk^j*y))=Yk^i*(x*dv Yk (ys.take j))+Yk^(i+j)*(x*y):=by rw[Nat.mul_add x,Nat.mul_add (Yk^i),Nat.pow_add,Nat.mul_left_comm x (Yk^j) y,Nat.mul_assoc (Yk^i)]
    rw[f2];omega
   ·refine Zb (t:=false) (by simp[hj]) ?_;apply YN;apply iC;left;obtain rfl:j=lb:=by omega
    rw[List.take_of_length_le (by omega)]at N8;exact⟨rfl,XR _ ⟨rfl,Jp,c,O2,hc,iD,cy,FM,N8,RA,by simp[t1],by simp[t5],by simp[t6],by simp[t8],by simp[t19],by simp[t20],by simp[t21]⟩⟩
  clear t1 t5 t19 t20 t21;rintro⟨k,tm,H3⟩ ⟨hk,Jp,c,O2,hc,iD,cy,FM,N8,RA,t1,t5,t6,t8,t19,t20,t21⟩;simp only at hk Jp RA t1 t5 t6 t8 t19 t20 t21;subst hk;have Ks:i+lb<O2.length:=by omega
  have a3:=RA.sl.adr ZA (k:= .i64) Ks;have e6:Zd .add .i64 (i:Int) (lb:Int)=some (.int .i64 ((i+lb:Nat):Int)):=WO (by omega);obtain⟨H4,WQ,Vr,n4,oW,Ua⟩:=RA.put (i:=i+lb) Ks c;apply Zl;simp[t1,t5,t6,t8,l2,e6,a3,WQ];subst Z4;apply Zl;simp[t21,YU (x:=i) (by omega)];apply YA;refine⟨m-1,by omega,rfl,Ua H Jp (Nat.le_refl _),i+1,O2.set (i+lb) c,by omega,by simp[iD],cy.set hc,fun q hq=>by rw[LY (by omega)];exact FM q (by omega),?_,Vr,by simp[t1],by simp[t5],by simp[t19],by simp[t20],by simp⟩;have ds:=NC Yk O2 (i+lb) c Ks;have h0:=FM (i+lb) (Nat.le_refl _);rw[XM Ks]at h0;rw[h0,Nat.mul_zero,Nat.add_zero]at ds;rw[ds,N8,heq,Xc UZ,Yn,List.length_take,Nat.min_eq_left (by omega),<-hx,Nat.add_mul];simp only[dv,Nat.mul_zero,Nat.add_zero];rw[Nat.mul_assoc (Yk^i)]
 ·refine Zb (t:=false) (by simp[hi]) ?_;apply YN;apply YA;left;refine⟨rfl,?_⟩;obtain rfl:i=la:=by omega
  rw[List.take_of_length_le (by omega)]at heq;obtain⟨v5,H5,N7,e5,o5,_⟩:=VQ own (by omega);subst e5;rw[Xi two32 dO,heq]at o5;subst Zf;apply Za;intro b4 Yy;simp[t5,N7];subst Yy;apply ZZ;simp;exact⟨kH,o5⟩
theorem O3{A B:Nat} :(ds Yk (A*B)).length<=(ds Yk A).length+(ds Yk B).length:=by have h1:=GA two32 A;have h2:=GA two32 B;refine XI two32 ?_;rw[Nat.pow_add];exact Nat.mul_lt_mul'' h1 h2
theorem MB{A B:Nat}(ha:Sl H va (ds Yk A))(hb:Sl H vb (ds Yk B))(lA:(ds Yk A).length<=2*WJ)(lB:(ds Yk B).length<=2*WJ): ∃v H',ZU Tryz.prog ZY 61 [va,vb] H=some (v,H')/\Zj H H'/\Ym H.n H' v (ds Yk (A*B)):=by obtain⟨v,H',hc,k,o⟩:=Ep ha hb (Yx two32 A) (Yx two32 B) (Nat.le_trans lA (by decide)) (Nat.le_trans lB (by decide));rw[YL two32,YL two32]at o;exact⟨v,H',hc,k,o⟩
end
end
end
end Go.Proofs.YtmkfecoeghokfaaGreatDoor
