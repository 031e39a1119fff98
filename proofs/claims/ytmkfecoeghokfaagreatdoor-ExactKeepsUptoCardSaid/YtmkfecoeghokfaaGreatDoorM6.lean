/-
  The engine and the walks that the claim's last text leans on, part 6 of 9: Sa, Sb, Sc, Sd, Se, Sf, Sg, Sh, Si, Sj, Sk, Sl, Sm, Sn, So, Sp, Sq, Sr, Ss, St, Su.
-/
import Derived.Test.YtmkfecoeghokfaaGreatDoorM5
namespace Go.Proofs.YtmkfecoeghokfaaGreatDoor
open Go Ev
set_option linter.unusedVariables false
set_option linter.unusedSimpArgs false
noncomputable section
set_option maxHeartbeats 2000000
set_option maxRecDepth 20000
section
attribute [-simp] Int.natCast_add Int.natCast_mul Int.natCast_ediv Int.natCast_emod Int.natCast_pow
attribute [local simp] strip ZQ Xj LR gW ZF Ya ZX Yb ZJ Yc Zs Zt Zg ZI Z5 ZN ZB Zk ZH Zh Ze ZC ZD YW Zo Z6 YF Yw ZK plain ZM Tr.get_set Yu Zp Yq ZV sameKind undef Zv ZG Z3 Zu ZA Yh ZW parts ZE Xw DW Yf Zw LX Zz Zn ZL ZS Xt Yg Zm ZP Zy ZO
section
variable {H : AH} {va vb : Value} {xs ys : List Nat}
theorem F5(ha:Sl H va xs)(hb:Sl H vb ys)(dx:YH Zc xs)(dy:YH Zc ys)(lx:xs.length<=2*WJ)(ly:ys.length<=2*WJ)(hle:dv Zc ys<=dv Zc xs):CW Tryz.prog ZY 170 [va,vb] H fun v H'=>Zj H H'/\PJ H.n (dv Zc xs-dv Zc ys) v H':=by
 have iE:WJ=2000000000000:=rfl;refine Yd 52 Tryz.func170 ?_;obtain⟨v0,H0,cc,e0,ec⟩:=UR ha hb dx dy (by omega) (by omega);rw[e0,ec]at cc;obtain⟨v1,H1,c1,e1,s1⟩:=WA ha (by omega);obtain⟨v2,H2,c2,e2,s2⟩:=WA hb (by omega);rw[e1]at c1;rw[e2]at c2;have OL: ¬ (Wn (dv Zc xs) (dv Zc ys)<0):=by rw[Hm];omega
 have YX:Zd .lss .i64 (Wn (dv Zc xs) (dv Zc ys)) 0=some (.bool false):=by rw[jK,decide_eq_false OL]
 generalize Wn (dv Zc xs) (dv Zc ys)=cm at cc YX;clear OL ec;rw[<-Wp Zc xs,<-Wp Zc ys]at hle⊢;have zk:(YZ ys).length<=(YZ xs).length:=by
  rcases Nat.lt_or_ge (YZ xs).length (YZ ys).length with h|h;·have:=RB Z2 (Sz ys) (XT dx) (XT dy) h;omega
  ·exact h
 have dx:=XT dx;have dy:=XT dy;have lx:(YZ xs).length<=2*WJ:=Nat.le_trans (XS xs) lx;have ly:(YZ ys).length<=2*WJ:=Nat.le_trans (XS ys) ly;generalize YZ xs=xs at*;generalize YZ ys=ys at*;have l1:=s1.len Zu;have l2:=s2.len Zu;obtain⟨n,hn⟩:=hid (xs.length);rw[<-hn]at l1;obtain⟨c0,H3,RH,k3,o3,n3⟩:=YK (H:=H) Zu (n:=n) (by omega);apply Za;intro b1 Zf;simp;subst Zf;apply Zi;intro b1 Zf;apply Za;intro b2 ZT;simp[cc,YX];subst ZT;refine Zb (t:=false) (by simp) ?_;apply Zr;subst Zf;apply Za;intro b1 Zf;simp[c1,c2];subst Zf;apply Za;intro b1 Zf;simp[l1,RH];subst Zf;apply Za;intro b1 Zf;simp;subst Zf;apply Zi;intro b1 Zf;apply Za;intro b2 ZT;simp[l1];subst ZT;apply ZR;refine YS (fun m s'=>s'.k=52/\Zj H s'.H/\ ∃(i Sg:Nat) (L:List Nat),m+i=n/\L.length=i/\Sg<=1/\YH Zc L/\dv Zc L+dv Zc (ys.take i)=dv Zc (xs.take i)+Zc^i*Sg/\Ym H.n s'.H c0 (L++List.replicate m 0)/\s'.tm.get 0=some v1/\s'.tm.get 1=some v2/\s'.tm.get 6=some c0/\s'.tm.get 7=some (.int .u64 (Sg:Int))/\s'.tm.get 22=some (.int .i64 (n:Int))/\s'.tm.get 23=some (.int .i64 (i:Int))) ?_ n _ ⟨rfl,k3,0,0,[],by omega,rfl,by omega,.nil _,by simp[dv],by simpa using o3,by simp,by simp,by simp,by simp,by simp,by simp⟩;rintro m ⟨k,tm,H4⟩ ⟨hk,kH,i,Sg,L,Kv,hL,hbr,dL,heq,own,t0,t1,t6,t7,t22,t23⟩ Q' YA;simp only at hk kH own t0 t1 t6 t7 t22 t23;subst hk;apply Za;intro b3 Z4;simp[t22,t23];subst Z4;apply Zi;intro b3 Z4;by_cases hi:i<n
 ·refine Zb (t:=true) (by simp[hi]) ?_;apply Zr;subst Z4;obtain⟨m',rfl⟩: ∃m',m=m'+1:=⟨m-1,by omega⟩;have UZ:i<xs.length:=by omega
  have sa:=s1.keep kH;have sb:=s2.keep kH;obtain⟨y,hy⟩:=hid (nth ys i);have AR:y<Zc:=by rw[hy];exact UI dy (by decide) _
  obtain⟨x,hx⟩:=hid (nth xs i);have E8:x<Zc:=by rw[hx];exact UI dx (by decide) _
  have a0:=sa.adr Zu (k:= .i64) UZ;have d0:=sa.load UZ;rw[<-XM UZ,<-hx]at d0;have a3:=own.sl.adr Zu (k:= .i64) (i:=i) (by simp;omega);obtain⟨z,hz⟩:=hid ((x+Zc-y-Sg)%Zc);obtain⟨b',X6⟩: ∃b',b'=(if x<y+Sg then 1 else 0):=⟨_,rfl⟩;have DK:z<Zc:=by rw[hz];exact Nat.mod_lt _ (by decide)
  have N6:b'<=1:=by rw[X6];split<;>omega
  have RG:z+y+Sg=x+Zc*b':=by
   by_cases h:x<y+Sg;·rw[hz,X6,if_pos h,Nat.mod_eq_of_lt (by omega)];omega
   ·rw[hz,X6,if_neg h];have:x+Zc-y-Sg=(x-y-Sg)+Zc:=by omega
    rw[this,Nat.add_mod_right,Nat.mod_eq_of_lt (by omega)];omega
  have sc:ZU Tryz.prog ZY 206 [.int .u64 (x:Int),.int .u64 (y:Int),.int .u64 (Sg:Int)] H4=some (.tuple #[.int .u64 (z:Int),.int .u64 (b':Int)],H4):=by rw[hz,X6];exact R7 x y Sg H4 hbr
  obtain⟨H5,Ui,QC,mg,UK⟩:=own.fill hL z;apply Zi;intro b3 Z4;apply ZR;apply Za;intro b4 Yy;simp[t23];subst Yy;apply Za;intro b4 Yy;simp;subst Yy;refine Xd (fun s'=>s'.k=52/\s'.H=H4/\s'.tm.get 0=some v1/\s'.tm.get 1=some v2/\s'.tm.get 6=some c0/\s'.tm.get 7=some (.int .u64 (Sg:Int))/\s'.tm.get 8=some (.int .i64 (i:Int))/\s'.tm.get 9=some (.int .u64 (y:Int))/\s'.tm.get 22=some (.int .i64 (n:Int))/\s'.tm.get 23=some (.int .i64 (i:Int))) ?_ ?_
  ·intro Jt XR;apply Za;intro b5 SV;simp[t1,l2];subst SV;by_cases Jl:i<ys.length;·refine Zb (t:=true) (by simp[Jl]) ?_;have a1:=sb.adr Zu (k:= .i64) Jl;have d1:=sb.load Jl;rw[<-XM Jl,<-hy]at d1;apply Zl;simp[t1,a1,d1];apply XR;exact⟨rfl,rfl,by simp[t0],by simp[t1],by simp[t6],by simp[t7],by simp,by simp,by simp[t22],by simp[t23]⟩
   ·refine Zb (t:=false) (by simp[Jl]) ?_;apply Zr;apply XR;rw[VF (by omega)]at hy;subst hy;exact⟨rfl,rfl,by simp[t0],by simp[t1],by simp[t6],by simp[t7],by simp,by simp,by simp[t22],by simp[t23]⟩
  clear t0 t1 t6 t7 t22 t23;rintro⟨k,tm,H6⟩ ⟨hk,hH,t0,t1,t6,t7,t8,t9,t22,t23⟩;simp only at hk hH t0 t1 t6 t7 t8 t9 t22 t23;subst hk;subst hH;apply Zl;simp[t0,t6,t7,t8,t9,a0,d0,sc,a3,Ui];subst Z4;apply Zl;simp[t23,YU (x:=i) (by omega)];apply YA;refine⟨m',by omega,rfl,UK H kH (Nat.le_refl _),i+1,b',L++[z],by omega,by simp[hL],N6,dL.append (.cons DK (.nil _)),?_,QC,by simp[t0],by simp[t1],by simp[t6],by simp,by simp[t22],by simp⟩;rw[Yn,hL,Xv,Xv,<-hx,<-hy];simp only[dv,Nat.mul_zero,Nat.add_zero];have e1:Zc^i*(z+y+Sg)=Zc^i*(x+Zc*b'):=by rw[RG]
  rw[Nat.mul_add,Nat.mul_add,Nat.mul_add,<-Nat.mul_assoc,show Zc^i*Zc=Zc^(i+1)from rfl]at e1;omega
 ·refine Zb (t:=false) (by simp[hi]) ?_;apply YN;apply YA;left;refine⟨rfl,?_⟩;obtain rfl:i=n:=by omega
  obtain rfl:m=0:=by omega
  rw[List.take_of_length_le (by omega),List.take_of_length_le (by omega)]at heq;rw[List.replicate_zero,List.append_nil]at own;have YX:=Wh dL;rw[hL]at YX;have hval:dv Zc L=dv Zc xs-dv Zc ys:=by
   generalize Zc^i=P at heq YX;have:Sg=0\/Sg=1:=by omega
   rcases this with rfl|rfl<;>omega
  obtain⟨v6,H6,c6,e6,h6⟩:=PV own dL (by omega);subst e6;rw[hval]at h6;have h7:PJ H.n (dv Zc xs-dv Zc ys) v6 H6/\ ∃a b,v6= .tuple #[a,b]:=by
   rcases h6 with⟨h,rfl⟩|⟨h,u,rfl,o⟩;·exact⟨.inl ⟨h,rfl⟩,_,_,rfl⟩
   ·exact⟨.inr ⟨h,u,rfl,o⟩,_,_,rfl⟩
  obtain⟨h7,p,q,rfl⟩:=h7;subst Zf;apply Za;intro b4 Yy;simp[t6,c6];subst Yy;apply ZZ;simp;exact⟨kH,h7⟩
end
theorem xj:Zd .neq .i64 3 0=some (.bool true):=rfl
theorem TH:Zd .neq .i64 0 0=some (.bool false):=rfl
theorem AE{x y c:Nat}(hx:x<Zc)(hy:y<Zc)(hc:c<Zc):x*y/Zc+(x*y%Zc+c)/Zc<Zc/\(x*y%Zc+c)%Zc+Zc*(x*y/Zc+(x*y%Zc+c)/Zc)=x*y+c:=by have hx:x<18446744073709551616:=hx;have hy:y<18446744073709551616:=hy;have hc:c<18446744073709551616:=hc;have hp:x*y<=18446744073709551615*18446744073709551615:=Nat.mul_le_mul (by omega) (by omega);show x*y/18446744073709551616+(x*y%18446744073709551616+c)/18446744073709551616<18446744073709551616/\(x*y%18446744073709551616+c)%18446744073709551616+18446744073709551616*(x*y/18446744073709551616+(x*y%18446744073709551616+c)/18446744073709551616)=x*y+c;generalize x*y=p at*;omega
section
variable {H : AH} {va vb : Value} {xs ys : List Nat}
theorem CY{y:Nat}(ha:Sl H va xs)(dx:YH Zc xs)(hy:y<Zc)(lx:xs.length<=2*WJ):CW Tryz.prog ZY 166 [va,.int .u64 (y:Int)] H fun v H'=>Zj H H'/\PJ H.n (dv Zc xs*y) v H':=by
 have iE:WJ=2000000000000:=rfl;refine Yd 56 Tryz.func166 ?_;obtain⟨v1,H1,c1,e1,s1⟩:=WA ha (by omega);rw[e1]at c1;rw[<-Wp Zc xs];have dx:=XT dx;have lx:(YZ xs).length<=2*WJ:=Nat.le_trans (XS xs) lx;generalize YZ xs=xs at*;have l1:=s1.len Zu;obtain⟨n,hn⟩:=hid (xs.length);rw[<-hn]at l1;obtain⟨c0,H3,RH,k3,o3,n3⟩:=YK (H:=H) Zu (n:=n+1) (by omega);apply Za;intro b1 Zf;simp;subst Zf;apply Za;intro b1 Zf;simp[c1];subst Zf;apply Za;intro b1 Zf;simp[l1,YU (x:=n) (by omega),RH];subst Zf;apply Za;intro b1 Zf;simp;subst Zf;apply Zi;intro b1 Zf;apply Za;intro b2 ZT;simp[l1];subst ZT;apply ZR;refine YS (fun m s'=>s'.k=56/\Zj H s'.H/\ ∃(i c:Nat) (L:List Nat),m+i=n/\L.length=i/\c<Zc/\YH Zc L/\dv Zc L+Zc^i*c=dv Zc (xs.take i)*y/\Ym H.n s'.H c0 (L++List.replicate (m+1) 0)/\s'.tm.get 0=some v1/\s'.tm.get 1=some (.int .u64 (y:Int))/\s'.tm.get 6=some c0/\s'.tm.get 7=some (.int .u64 (c:Int))/\s'.tm.get 20=some v1/\s'.tm.get 21=some (.int .i64 (n:Int))/\s'.tm.get 22=some (.int .i64 (i:Int))) ?_ n _ ⟨rfl,k3,0,0,[],by omega,rfl,by decide,.nil _,by simp[dv],by simpa using o3,by simp,by simp,by simp,by simp,by simp,by simp,by simp⟩;rintro m ⟨k,tm,H4⟩ ⟨hk,kH,i,c,L,Kv,hL,hc,dL,heq,own,t0,t1,t6,t7,t20,t21,t22⟩ Q' YA;simp only at hk kH own t0 t1 t6 t7 t20 t21 t22;subst hk;apply Za;intro b3 Z4;simp[t21,t22];subst Z4;apply Zi;intro b3 Z4;by_cases hi:i<n
 ·refine Zb (t:=true) (by simp[hi]) ?_;apply Zr;subst Z4;obtain⟨m',rfl⟩: ∃m',m=m'+1:=⟨m-1,by omega⟩;have UZ:i<xs.length:=by omega
  have sa:=s1.keep kH;obtain⟨x,hx⟩:=hid (nth xs i);have E8:x<Zc:=by rw[hx];exact UI dx (by decide) _
  have a0:=sa.adr Zu (k:= .i64) UZ;have d0:=sa.load UZ;rw[<-XM UZ,<-hx]at d0;have a3:=own.sl.adr Zu (k:= .i64) (i:=i) (by simp;omega);obtain⟨g1,g2⟩:=AE E8 hy hc;obtain⟨z,hz⟩:=hid ((x*y%Zc+c)%Zc);obtain⟨h1,hh1⟩:=hid (x*y/Zc);obtain⟨h2,hh2⟩:=hid ((x*y%Zc+c)/Zc);have mc:=RC E8 hy H4;have ac:=Um (x*y%Zc) c H4;have DK:z<Zc:=by rw[hz];exact Nat.mod_lt _ (by decide)
  rw[<-hh1]at mc;rw[<-hz,<-hh2]at ac;rw[<-hz,<-hh1,<-hh2]at g2;rw[<-hh1,<-hh2]at g1;obtain⟨H5,Ui,QC,mg,UK⟩:=own.fill hL z;apply Zi;intro b3 Z4;apply ZR;apply Za;intro b4 Yy;simp[t20,t22,a0,d0];subst Yy;apply Za;intro b4 Yy;simp[t1,mc];subst Yy;apply Za;intro b4 Yy;simp[t7,ac];subst Yy;apply Za;intro b4 Yy;simp[t6,a3,Ui];subst Yy;apply Zl;simp[addu (x:=h1) (y:=h2) g1];subst Z4;apply Zl;simp[t22,YU (x:=i) (by omega)];apply YA;refine⟨m',by omega,rfl,UK H kH (Nat.le_refl _),i+1,h1+h2,L++[z],by omega,by simp[hL],g1,dL.append (.cons DK (.nil _)),?_,QC,by simp[t0],by simp[t1],by simp[t6],by simp,by simp[t20],by simp[t21],by simp⟩;rw[Yn,hL,Xv,<-hx];simp only[dv,Nat.mul_zero,Nat.add_zero];have e1:Zc^i*(z+Zc*(h1+h2))=Zc^i*(x*y+c):=by rw[g2]
  rw[Nat.mul_add (Zc^i) z,<-Nat.mul_assoc (Zc^i) Zc,show Zc^i*Zc=Zc^(i+1)from rfl,Nat.mul_add (Zc^i) (x*y) c,<-Nat.mul_assoc (Zc^i) x y]at e1;rw[Nat.add_mul];omega
 ·refine Zb (t:=false) (by simp[hi]) ?_;apply YN;apply YA;left;refine⟨rfl,?_⟩;obtain rfl:i=n:=by omega
  obtain rfl:m=0:=by omega
  rw[List.take_of_length_le (by omega)]at heq;have a3:=own.sl.adr Zu (k:= .i64) (i:=i) (by simp;omega);obtain⟨H5,Ui,QC,mg,UK⟩:=own.fill hL c;rw[List.replicate_zero,List.append_nil]at QC;have dLc:YH Zc (L++[c]):=dL.append (.cons hc (.nil _));have hval:dv Zc (L++[c])=dv Zc xs*y:=by rw[Yn,hL];simp only[dv,Nat.mul_zero,Nat.add_zero];exact heq
  obtain⟨v6,H6,c6,e6,h6⟩:=PV QC dLc (by simp;omega);subst e6;rw[hval]at h6;have k5:Zj H H6:=UK H kH (Nat.le_refl _);have h7:PJ H.n (dv Zc xs*y) v6 H6/\ ∃a b,v6= .tuple #[a,b]:=by
   rcases h6 with⟨h,rfl⟩|⟨h,u,rfl,o⟩;·exact⟨.inl ⟨h,rfl⟩,_,_,rfl⟩
   ·exact⟨.inr ⟨h,u,rfl,o⟩,_,_,rfl⟩
  obtain⟨h7,p,q,rfl⟩:=h7;subst Zf;apply Za;intro b4 Yy;simp[t0,t6,t7,l1,a3,Ui];subst Yy;apply Za;intro b4 Yy;simp[t6,c6];subst Yy;apply ZZ;simp;exact⟨k5,h7⟩
def NM(n0:Nat)(N y:Nat)(v:Value)(H':AH):Prop:=(67108864<Zq (N/y)/\v= .tuple #[.slice none 0 0,.int .u64 0,.int .i64 3])\/(Zq (N/y)<=67108864/\ ∃u,v= .tuple #[u,.int .u64 ((N%y:Nat):Int),.int .i64 0]/\Ym n0 H' u (ds Zc (N/y)))
theorem Gs{y:Nat}(ha:Sl H va xs)(dx:YH Zc xs)(hy:y<Zc)(Lk:0<y)(lx:xs.length<=2*WJ):CW Tryz.prog ZY 168 [va,.int .u64 (y:Int)] H fun v H'=>Zj H H'/\NM H.n (dv Zc xs) y v H':=by
 have iE:WJ=2000000000000:=rfl;refine Yd 48 Tryz.func168 ?_;obtain⟨v1,H1,c1,e1,s1⟩:=WA ha (by omega);rw[e1]at c1;rw[<-Wp Zc xs];have dx:=XT dx;have lx:(YZ xs).length<=2*WJ:=Nat.le_trans (XS xs) lx;generalize YZ xs=xs at*;have l1:=s1.len Zu;obtain⟨n,hn⟩:=hid (xs.length);rw[<-hn]at l1;have ey:Zd .eql .u64 (y:Int) 0=some (.bool false):=by rw[oM,decide_eq_false (by omega)]
 obtain⟨c0,H3,RH,k3,o3,n3⟩:=YK (H:=H) Zu (n:=n) (by omega);apply Za;intro b1 Zf;simp;subst Zf;apply Zi;intro b1 Zf;apply Za;intro b2 ZT;simp[ey];subst ZT;refine Zb (t:=false) (by simp) ?_;apply Zr;subst Zf;apply Za;intro b1 Zf;simp[c1];subst Zf;apply Za;intro b1 Zf;simp[l1,RH];subst Zf;apply Za;intro b1 Zf;simp;subst Zf;apply Zi;intro b1 Zf;apply Za;intro b2 ZT;simp[l1,TZ (m:=n) (by omega)];subst ZT;apply ZR;refine YS (fun m s'=>s'.k=48/\Zj H s'.H/\ ∃(r:Nat) (R:List Nat),m+R.length=n/\r<y/\YH Zc R/\dv Zc R*y+r=dv Zc (xs.drop m)/\Ym H.n s'.H c0 (List.replicate m 0++R)/\s'.tm.get 0=some v1/\s'.tm.get 1=some (.int .u64 (y:Int))/\s'.tm.get 7=some c0/\s'.tm.get 8=some (.int .u64 (r:Int))/\s'.tm.get 9=some (.int .i64 ((m:Int)-1))) ?_ n _ ⟨rfl,k3,0,[],by simp,Lk,.nil _,by rw[List.drop_of_length_le (by omega)];simp[dv],by simpa using o3,by simp,by simp,by simp,by simp,by simp⟩;rintro m ⟨k,tm,H4⟩ ⟨hk,kH,r,R,hmR,hr,dR,heq,own,t0,t1,t7,t8,t9⟩ Q' YA;simp only at hk kH own t0 t1 t7 t8 t9;subst hk;apply Zi;intro b3 Z4;apply Za;intro b4 Yy;simp[t9,Na (m:=m)];subst Yy;by_cases hm:0<m
 ·refine Zb (t:=true) (by simp[hm]) ?_;apply Zr;subst Z4;obtain⟨m',rfl⟩: ∃m',m=m'+1:=⟨m-1,by omega⟩;have em:((m'+1:Nat):Int)-1=(m':Int):=by omega
  rw[em]at t9;have UZ:m'<xs.length:=by omega
  have sa:=s1.keep kH;obtain⟨x,hx⟩:=hid (nth xs m');have E8:x<Zc:=by rw[hx];exact UI dx (by decide) _
  have a0:=sa.adr Zu (k:= .i64) UZ;have d0:=sa.load UZ;rw[<-XM UZ,<-hx]at d0;have a3:=own.sl.adr Zu (k:= .i64) (i:=m') (by simp;omega);have dc:=Ok (h:=r) (l:=x) (y:=y) hr E8 hy H4;obtain⟨q,hq⟩:=hid ((r*Zc+x)/y);obtain⟨r',pL⟩: ∃r',r'=(r*Zc+x)%y:=⟨_,rfl⟩;rw[<-hq,<-pL]at dc;have dH:y*q+r'=r*Zc+x:=by rw[hq,pL];exact Nat.div_add_mod _ _
  have bb:q<Zc:=by rw[hq,Nat.div_lt_iff_lt_mul Lk];have:(r+1)*Zc<=y*Zc:=Nat.mul_le_mul_right _ hr;rw[Nat.add_mul,Nat.one_mul]at this;rw[Nat.mul_comm Zc y];omega
  have hr2:r'<y:=by rw[pL];exact Nat.mod_lt _ Lk
  obtain⟨H5,Ui,QC,n5,mg,UK⟩:=own.put (i:=m') (by simp;omega) q;have oK:(List.replicate (m'+1) 0++R).set m' q=List.replicate m' 0++(q::R):=by rw[List.replicate_succ',List.append_assoc];exact WL _ _ _ _ (by simp)
  rw[oK]at QC;apply Zi;intro b3 Z4;apply ZR;apply Zl;simp[t0,t1,t7,t8,t9,a0,d0,dc,a3,Ui];subst Z4;apply Zl;simp[t9,TZ (m:=m') (by omega)];apply YA;refine⟨m',by omega,rfl,UK H kH (Nat.le_refl _),r',q::R,by simp at hmR⊢;omega,hr2,.cons bb dR,?_,QC,by simp[t0],by simp[t1],by simp[t7],by simp,by simp⟩;have ed:xs.drop m'=x::xs.drop (m'+1):=by rw[List.drop_eq_getElem_cons UZ,hx,XM UZ]
  rw[ed];simp only[dv];rw[<-heq,Nat.mul_add,Nat.add_mul,Nat.mul_comm q y,Nat.mul_assoc];have:Zc*r=r*Zc:=Nat.mul_comm _ _;omega
 ·refine Zb (t:=false) (by simp[hm]) ?_;apply YN;apply YA;left;refine⟨rfl,?_⟩;obtain rfl:m=0:=by omega
  rw[List.drop_zero]at heq;rw[List.replicate_zero,List.nil_append]at own;have hdiv:dv Zc xs/y=dv Zc R/\dv Zc xs%y=r:=by rw[<-heq,Nat.mul_comm];exact⟨by rw[Nat.mul_add_div Lk,Nat.div_eq_of_lt hr,Nat.add_zero],by rw[Nat.mul_add_mod,Nat.mod_eq_of_lt hr]⟩
  obtain⟨v6,H6,c6,e6,h6⟩:=PV own dR (by omega);subst e6;rw[<-hdiv.1]at h6;have h7: ∃a b,v6= .tuple #[a,.int .i64 b]/\((b=3/\NM H.n (dv Zc xs) y (.tuple #[.slice none 0 0,.int .u64 0,.int .i64 3]) H6)\/(b=0/\NM H.n (dv Zc xs) y (.tuple #[a,.int .u64 (r:Int),.int .i64 0]) H6)):=by
   rcases h6 with⟨h,rfl⟩|⟨h,u,rfl,o⟩;·exact⟨_,_,rfl,.inl ⟨rfl,.inl ⟨h,rfl⟩⟩⟩
   ·exact⟨_,_,rfl,.inr ⟨rfl,.inr ⟨h,u,by rw[hdiv.2],o⟩⟩⟩
  obtain⟨p,b,rfl,⟨rfl,h7⟩|⟨rfl,h7⟩⟩:=h7;·subst Zf;apply Za;intro b1 Zf;simp[t7,c6];subst Zf;apply Zi;intro b1 Zf;apply Za;intro b2 ZT;simp[xj];subst ZT;refine Zb (t:=true) (by simp) ?_;apply Za;intro b2 ZT;simp;subst ZT;apply ZZ;simp[YQ];exact⟨kH,h7⟩
  ·subst Zf;apply Za;intro b1 Zf;simp[t7,c6];subst Zf;apply Zi;intro b1 Zf;apply Za;intro b2 ZT;simp[TH];subst ZT;refine Zb (t:=false) (by simp) ?_;apply Zr;subst Zf;apply Za;intro b2 ZT;simp[t8];subst ZT;apply ZZ;simp;exact⟨kH,h7⟩
end
theorem xQ{x:Nat}(h:x<9223372036854775808):Zd .quo .i64 (x:Int) 64=some (.int .i64 ((x/64:Nat):Int)):=LV (y:=64) h (by decide)
theorem xI{x:Nat} :Zd .rem .i64 (x:Int) 64=some (.int .i64 ((x%64:Nat):Int)):=BS (y:=64) (by decide)
theorem Ly{x:Nat} :Zd .lss .i64 (x:Int) 0=some (.bool false):=by rw[jK,decide_eq_false (by omega)]
theorem ak{n:Nat}{q s:Nat}(hq:q=n/64)(hs:s=n%64):YH Zc ((List.replicate (q+2) 0).set q (2^s))/\dv Zc ((List.replicate (q+2) 0).set q (2^s))=2^n:=by
 have pH:s<64:=by omega
 have YX:2^s<Zc:=by show 2^s<2^64;exact Nat.pow_lt_pow_right (by decide) pH
 refine⟨(T6 (by decide) _).set YX,?_⟩;have h:=NC Zc (List.replicate (q+2) 0) q (2^s) (by simp);rw[List.getElem_replicate,Nat.mul_zero,Nat.add_zero]at h;rw[h];have h0:dv Zc (List.replicate (q+2) 0)=0:=LA fun x hx=>(List.mem_replicate.mp hx).2;rw[h0,Nat.zero_add];have:Zc^q=2^(64*q):=(Nat.pow_mul 2 64 q).symm;rw[this,<-Nat.pow_add];congr 1;omega
section
variable {H : AH} {va vb : Value} {xs ys : List Nat}
theorem HJ{n:Nat}(ha:Sl H va [1])(hn:n<=60000000):CW Tryz.prog ZY 201 [va,.int .i64 (n:Int)] H fun v H'=>Zj H H'/\ ∃u,v= .tuple #[u,.int .i64 0]/\Ym H.n H' u (ds Zc (2^n)):=by
 refine Yd 73 Tryz.func201 ?_;obtain⟨v1,H1,c1,e1,s1⟩:=WA ha (by simp);rw[e1]at c1;have e3:YZ [1]=[1]:=rfl;rw[e3]at s1;have d1:YH Zc [1]:= .cons (by decide) (.nil _);obtain⟨v2,H2,c2,e2,J6⟩:=W4 s1 d1 (by simp);rw[e2,J6]at c2;have jb:Zq (dv Zc [1])=1:=by decide
 rw[jb]at c2;have c2:ZU Tryz.prog ZY 123 [v1] H=some (.int .i64 1,H):=c2;have l1:QI Tryz.prog 30 v1=some 1:=s1.len Zu;have a0:Yi Tryz.prog 30 v1 (.int .i64 0)=some (adr v1 0):=s1.adr Zu (k:= .i64) (i:=0) (by simp);obtain⟨q,hq⟩:=hid (n/64);obtain⟨s,hs⟩:=hid (n%64);obtain⟨c0,H3,RH,k3,o3,n3⟩:=YK (H:=H) Zu (n:=q+2) (by omega);have d0:Z9 Tryz.prog H3 101 (adr v1 0)=some (.int .u64 1):=(s1.keep k3).load (i:=0) (by simp);have g1:Zd .gtr .i64 (n:Int) 1099511627776=some (.bool false):=by have h:=W8 (k:= .i64) (x:=n) (y:=1099511627776);rw[decide_eq_false (by omega)]at h;exact h
 have g2:Zd .add .i64 1 (n:Int)=some (.int .i64 ((1+n:Nat):Int)):=WO (x:=1) (y:=n) (by omega);have g3:Zd .gtr .i64 ((1+n:Nat):Int) 67108864=some (.bool false):=by have h:=W8 (k:= .i64) (x:=1+n) (y:=67108864);rw[decide_eq_false (by omega)]at h;exact h
 have g4:Zd .quo .i64 (n:Int) 64=some (.int .i64 (q:Int)):=by rw[hq];exact xQ (by omega)
 have g5:Zd .rem .i64 (n:Int) 64=some (.int .i64 (s:Int)):=by rw[hs];exact xI
 have g6:=Ab (n:=s) (by omega);have g7:Zd .add .i64 (q:Int) 1=some (.int .i64 ((q+1:Nat):Int)):=YU (x:=q) (by omega);have g8:Zd .add .i64 ((q+1:Nat):Int) 1=some (.int .i64 ((q+2:Nat):Int)):=YU (x:=q+1) (by omega);have g9:Zd .add .i64 (q:Int) 0=some (.int .i64 (q:Int)):=WO (x:=q) (y:=0) (by omega);have pH:s<64:=by omega
 have YX:2^s<Zc:=by show 2^s<2^64;exact Nat.pow_lt_pow_right (by decide) pH
 obtain⟨P,hP⟩:=hid (2^s);have g10:YC .shl .u64 1 (s:Int)=some (.int .u64 (P:Int)):=by have h:=T0 (x:=1) (s:=s) (by omega);rw[Nat.one_mul,Nat.mod_eq_of_lt YX,<-hP]at h;exact h
 have g11:Zd .or .u64 0 (P:Int)=some (.int .u64 (P:Int)):=by have h:=KI (x:=0) (y:=P) (by decide) (by omega);rw[Nat.zero_or]at h;exact h
 have g12:YC .shr .u64 1 1=some (.int .u64 0):=SD (x:=1) (s:=1) (by omega);have g13:Zd .sub .u64 63 (s:Int)=some (.int .u64 ((63-s:Nat):Int)):=T1 (x:=63) (y:=s) (by decide) (by omega);have g14:YC .shr .u64 0 ((63-s:Nat):Int)=some (.int .u64 0):=by have h:=SD (x:=0) (s:=63-s) (by omega);rw[Nat.zero_div]at h;exact h
 have g15:Zd .or .u64 0 0=some (.int .u64 0):=KI (x:=0) (y:=0) (by decide) (by decide);have i1:=o3.sl.adr Zu (k:= .i64) (i:=q) (by simp);have w1:=o3.sl.load (i:=q) (by simp);rw[List.getElem_replicate]at w1;have w1:Z9 Tryz.prog H3 101 (adr c0 q)=some (.int .u64 0):=w1;obtain⟨H4,WQ,o4,n4,oW,Ua⟩:=o3.put (i:=q) (by simp) P;have i2:=o4.sl.adr Zu (k:= .i64) (i:=q+1) (by simp);have w2:=o4.sl.load (i:=q+1) (by simp);rw[List.getElem_set_ne (by omega),List.getElem_replicate]at w2;have w2:Z9 Tryz.prog H4 101 (adr c0 (q+1))=some (.int .u64 0):=w2;obtain⟨H5,Ui,o5,n5,mg,UK⟩:=o4.put (i:=q+1) (by simp) 0;have Ui:YV Tryz.prog H4 101 (adr c0 (q+1)) (.int .u64 0)=some H5:=Ui;have oK:((List.replicate (q+2) 0).set q P).set (q+1) 0=(List.replicate (q+2) 0).set q P:=by
  apply List.ext_getElem;·simp
  ·intro i h1 h2;by_cases hi:q+1=i;·subst hi;rw[List.getElem_set_self,List.getElem_set_ne (by omega),List.getElem_replicate]
   ·rw[List.getElem_set_ne hi]
 rw[oK]at o5;obtain⟨p1,p2⟩:=ak hq hs;rw[<-hP]at p1 p2;obtain⟨v6,H6,c6,e6,o6⟩:=EI o5 (by simp;omega);subst e6;rw[Xi Z2 p1,p2]at o6;have k5:Zj H H6:=UK H (Ua H k3 (Nat.le_refl _)) (Nat.le_refl _);apply Za;intro b1 Zf;simp;subst Zf;apply Zi;intro b1 Zf;apply Za;intro b2 ZT;simp[Ly,g1];subst ZT;refine Zb (t:=false) (by simp) ?_;apply Zr;subst Zf;apply Za;intro b1 Zf;simp[c1];subst Zf;apply Zi;intro b1 Zf;apply Za;intro b2 ZT;simp[l1,show Zd .eql .i64 1 0=some (.bool false)from rfl];subst ZT;refine Zb (t:=false) (by simp) ?_;apply Zr;subst Zf;apply Zi;intro b1 Zf;apply Za;intro b2 ZT;simp[c2,g2,g3];subst ZT;refine Zb (t:=false) (by simp) ?_;apply Zr;subst Zf;apply Za;intro b1 Zf;simp[g4,g5,g6];subst Zf;apply Za;intro b1 Zf;simp[l1,g7,g8,RH];subst Zf;apply Zi;intro b1 Zf;apply Za;intro b2 ZT;simp[l1];subst ZT;apply ZR;apply Hg;apply Za;intro b3 Z4;simp[show Zd .lss .i64 0 1=some (.bool true)from rfl];subst Z4;apply Zi;intro b3 Z4;refine Zb (t:=true) (by simp) ?_;apply Zr;subst Z4;apply Zi;intro b3 Z4;apply ZR;apply Za;intro b4 Yy;simp[a0,d0];subst Yy;apply Za;intro b4 Yy;simp[g9,i1,w1,g10,g11,WQ];subst Yy;apply Zl;simp[g9,g7,i2,w2,g12,g13,g14,g15,Ui];subst Z4;apply Zl;simp[show Zd .add .i64 0 1=some (.int .i64 1)from rfl];apply Hg;apply Za;intro b3 Z4;simp[show Zd .lss .i64 1 1=some (.bool false)from rfl];subst Z4;apply Zi;intro b3 Z4;refine Zb (t:=false) (by simp) ?_;apply YN;left;refine⟨rfl,?_⟩;subst Zf;apply Za;intro b4 Yy;simp[c6];subst Yy;apply ZZ;simp;exact⟨k5,o6⟩
end
section
variable {H : AH} {va vb : Value} {xs ys : List Nat} {A B : Nat}
theorem Cj{n:Nat}(hn:n<=60000000): ∃u H',ZU Tryz.prog ZY 165 [.int .i64 (n:Int)] H=some (u,H')/\Zj H H'/\Ym H.n H' u (ds Zc (2^n)):=by suffices h:CW Tryz.prog ZY 165 [.int .i64 (n:Int)] H fun v H'=>Zj H H'/\Ym H.n H' v (ds Zc (2^n))from h;obtain⟨v1,H1,c1,k1,o1⟩:=Tc (H:=H) (x:=1) (by decide);rw[ds1 (by decide) (by decide)]at o1;have c1:ZU Tryz.prog ZY 164 [.int .u64 1] H=some (v1,H1):=c1;obtain⟨v2,H2,c2,k2,u,rfl,o2⟩:=HJ o1.sl hn;refine Yd 12 Tryz.func165 ?_;apply Za;intro b1 Zf;simp;subst Zf;apply Za;intro b1 Zf;simp[c1,c2];subst Zf;apply Za;intro b1 Zf;simp;subst Zf;apply ZZ;simp;exact⟨k1.trans k2,o2.mono k1.n (.refl _)⟩
theorem K8(ha:Sl H va xs)(dx:YH Zc xs)(lx:xs.length<=17592186044416)(hb:Zq (dv Zc xs)<=67108864): ∃u H',ZU Tryz.prog ZY 126 [va] H=some (.tuple #[u,.int .i64 0],H')/\Zj H H'/\Ym H.n H' u (ds Zc (dv Zc xs)):=by
 suffices h:CW Tryz.prog ZY 126 [va] H fun v H'=> ∃u,v= .tuple #[u,.int .i64 0]/\Zj H H'/\Ym H.n H' u (ds Zc (dv Zc xs)) by obtain⟨v,H',hc,u,rfl,k,o⟩:=h;exact⟨u,H',hc,k,o⟩
 obtain⟨v1,H1,c1,e1,iO⟩:=W4 ha dx lx;rw[e1,iO]at c1;obtain⟨v2,H2,c2,k2,o2⟩:=Vl ha lx;rw[Xi Z2 dx]at o2;obtain⟨L,hL⟩:=hid (Zq (dv Zc xs));rw[<-hL]at c1 hb;have g1:Zd .gtr .i64 (L:Int) 67108864=some (.bool false):=by have h:=W8 (k:= .i64) (x:=L) (y:=67108864);rw[decide_eq_false (by omega)]at h;exact h
 refine Yd 9 Tryz.func126 ?_;apply Za;intro b1 Zf;simp;subst Zf;apply Zi;intro b1 Zf;apply Za;intro b2 ZT;simp[c1,g1];subst ZT;refine Zb (t:=false) (by simp) ?_;apply Zr;subst Zf;apply Za;intro b1 Zf;simp[c2];subst Zf;apply ZZ;simp;exact⟨k2,o2⟩
theorem ML(ha:Sl H va (ds Zc A))(hb:Sl H vb (ds Zc B))(lA:(ds Zc A).length<=WJ)(lB:(ds Zc B).length<=WJ)(hle:B<=A)(h:Zq A<=67108864): ∃u H',ZU Tryz.prog ZY 170 [va,vb] H=some (.tuple #[u,.int .i64 0],H')/\Zj H H'/\Ym H.n H' u (ds Zc (A-B)):=by
 obtain⟨v,H',hc,k,hm⟩:=F5 ha hb (Yx Z2 A) (Yx Z2 B) (by omega) (by omega) (by rw[YL Z2,YL Z2];exact hle);rw[YL Z2,YL Z2]at hm;have Xa:=Ye (n:=A-B) (m:=A) (by omega);rcases hm with⟨h1,_⟩|⟨h1,u,rfl,o⟩;·omega
 ·exact⟨u,H',hc,k,o⟩
theorem MM(ha:Sl H va (ds Zc A))(hb:Sl H vb (ds Zc B))(lA:(ds Zc A).length<=WJ)(lB:(ds Zc B).length<=WJ)(h:Zq (A+B)<=67108864): ∃u H',ZU Tryz.prog ZY 167 [va,vb] H=some (.tuple #[u,.int .i64 0],H')/\Zj H H'/\Ym H.n H' u (ds Zc (A+B)):=by
 obtain⟨v,H',hc,k,hm⟩:=F4 ha hb (Yx Z2 A) (Yx Z2 B) (by omega) (by omega);rw[YL Z2,YL Z2]at hm;rcases hm with⟨h1,_⟩|⟨h1,u,rfl,o⟩;·omega
 ·exact⟨u,H',hc,k,o⟩
theorem Rv(ha:Sl H va (ds Zc A))(hb:Sl H vb (ds Zc B))(lA:(ds Zc A).length<=WJ)(lB:(ds Zc B).length<=WJ)(h:Zq (A*B)<=67108864): ∃u H',ZU Tryz.prog ZY 146 [va,vb] H=some (.tuple #[u,.int .i64 0],H')/\Zj H H'/\Ym H.n H' u (ds Zc (A*B)):=by
 obtain⟨v,H',hc,k,hm⟩:=fj ha hb (Yx Z2 A) (Yx Z2 B) (by omega) (by omega);rw[YL Z2,YL Z2]at hm;rcases hm with⟨h1,_⟩|⟨h1,u,rfl,o⟩;·omega
 ·exact⟨u,H',hc,k,o⟩
theorem VO(ha:Sl H va (ds Zc A))(hb:Sl H vb (ds Zc B))(lA:(ds Zc A).length<=WJ)(lB:(ds Zc B).length<=WJ)(h0:0<B)(h:Zq A<=67108864): ∃u H',ZU Tryz.prog ZY 141 [va,vb] H=some (.tuple #[u,.int .i64 0],H')/\Zj H H'/\Ym H.n H' u (ds Zc (A/B)):=by
 obtain⟨v,H',hc,k,hm⟩:=fS ha hb (Yx Z2 A) (Yx Z2 B) lA lB;rw[YL Z2,YL Z2]at hm;have Xa:=Ye (n:=A/B) (m:=A) (Nat.div_le_self _ _);rcases hm with⟨h1,_⟩|⟨_,h1,_⟩|⟨_,h1,u,rfl,o⟩;·omega
 ·omega
 ·exact⟨u,H',hc,k,o⟩
theorem QR(ha:Sl H va (ds Zc A))(hb:Sl H vb (ds Zc B))(lA:(ds Zc A).length<=WJ)(lB:(ds Zc B).length<=WJ): ∃u H',ZU Tryz.prog ZY 139 [va,vb] H=some (u,H')/\Zj H H'/\Ym H.n H' u (ds Zc (Nat.gcd A B)):=by obtain⟨v,H',hc,k,o⟩:=cH ha hb (Yx Z2 A) (Yx Z2 B) lA lB;rw[YL Z2,YL Z2]at o;exact⟨v,H',hc,k,o⟩
theorem Vk(ha:Sl H va xs)(dx:YH Zc xs)(lx:xs.length<=17592186044416): ∃u H',ZU Tryz.prog ZY 120 [va] H=some (u,H')/\Zj H H'/\Ym H.n H' u (ds Zc (dv Zc xs)):=by obtain⟨v,H',hc,k,o⟩:=Vl ha lx;rw[Xi Z2 dx]at o;exact⟨v,H',hc,k,o⟩
theorem AF(ha:Sl H va (ds Zc A))(hb:Sl H vb (ds Zc B))(lA:(ds Zc A).length<=WJ)(lB:(ds Zc B).length<=WJ)(hle:B<=A)(h:Zq A<=67108864): ∃u H',ZU Tryz.prog ZY 129 [va,vb] H=some (u,H')/\Zj H H'/\Ym H.n H' u (ds Zc (A-B)):=by suffices hs:CW Tryz.prog ZY 129 [va,vb] H fun v H'=>Zj H H'/\Ym H.n H' v (ds Zc (A-B))from hs;obtain⟨u,H1,c1,k1,o1⟩:=ML ha hb lA lB hle h;refine Yd 14 Tryz.func129 ?_;apply Za;intro b1 Zf;simp;subst Zf;apply Za;intro b1 Zf;simp[c1];subst Zf;apply Za;intro b1 Zf;simp;subst Zf;apply ZZ;simp;exact⟨k1,o1⟩
theorem EX(ha:Sl H va (ds Zc A))(lA:(ds Zc A).length<=WJ)(h:Zq (A*A)<=67108864): ∃u H',ZU Tryz.prog ZY 169 [va] H=some (.tuple #[u,.int .i64 0],H')/\Zj H H'/\Ym H.n H' u (ds Zc (A*A)):=by
 suffices hs:CW Tryz.prog ZY 169 [va] H fun v H'=> ∃u,v= .tuple #[u,.int .i64 0]/\Zj H H'/\Ym H.n H' u (ds Zc (A*A)) by obtain⟨v,H',hc,u,rfl,k,o⟩:=hs;exact⟨u,H',hc,k,o⟩
 obtain⟨u,H1,c1,k1,o1⟩:=Rv ha ha lA lA h;refine Yd 9 Tryz.func169 ?_;apply Za;intro b1 Zf;simp;subst Zf;apply Za;intro b1 Zf;simp[c1];subst Zf;apply ZZ;simp;exact⟨k1,o1⟩
end
theorem kY{x s:Nat}(hs:s<=64):YC .shr .i64 (x:Int) (s:Int)=some (.int .i64 ((x/2^s:Nat):Int)):=by unfold YC;rw[if_neg (by omega)];simp only[show IntKind.i64.bits=64 from rfl,Int.toNat_natCast,Nat.min_eq_left hs];rw[QT]
theorem bO{x:Nat}(hx:x<9223372036854775808):Zd .and .i64 (x:Int) 1=some (.int .i64 ((x%2:Nat):Int)):=by
 have mA:x<Zc:=Nat.lt_trans hx (by decide);have e:(BitVec.ofInt 64 (x:Int)&&&BitVec.ofInt 64 ((1:Nat):Int)).toNat=x&&&1:=by rw[BitVec.toNat_and,NG mA,NG (by decide)]
 show some (Value.int .i64 (IntKind.i64.wrap ((BitVec.ofInt 64 (x:Int)&&&BitVec.ofInt 64 ((1:Nat):Int)).toNat:Nat)))=_;rw[e,Nat.and_one_is_mod,NR (by omega)]
theorem bE{A k:Nat}(hA:0<A):(Zq A-1)*k+1<=Zq (A^k):=by
 have h1:=WN (n:=A) (by omega);have h2:2^((Zq A-1)*k)<=A^k:=by rw[Nat.pow_mul];exact Nat.pow_le_pow_left h1 k
 have h3:=Ww (A^k);have:=(Nat.pow_lt_pow_iff_right (a:=2) (by decide)).mp (Nat.lt_of_le_of_lt h2 h3);omega
theorem tH{x:Nat} :Zd .eql .i64 (x:Int) 1=some (.bool (decide (x=1))):=Pm (y:=1)
theorem wC{x:Nat} :Zd .leq .i64 (x:Int) 1=some (.bool (decide (x<=1))):=Pq (y:=1)
theorem ao{A k i:Nat} :A^(k/2^i)=A^(k/2^(i+1))*A^(k/2^(i+1))*(if k/2^i%2=1 then A else 1):=by
 have h:k/2^i=k/2^(i+1)+k/2^(i+1)+k/2^i%2:=by
  have:k/2^(i+1)=k/2^i/2:=by rw[Nat.pow_succ,Nat.div_div_eq_div_mul]
  omega
 rw[<-Nat.pow_add];conv=>lhs;rw[h,Nat.pow_add]
 congr 1;split;·rename_i h1;rw[h1,Nat.pow_one]
 ·rw[show k/2^i%2=0 by omega,Nat.pow_zero]
section
variable {H : AH} {va vb : Value} {xs ys : List Nat} {A B : Nat}
theorem Zx{A:Nat}(h:Zq A<=67108864):(ds Zc A).length<=WJ:=by have h1:A<2^Zq A:=Ww A;have h2:2^Zq A<=Zc^(Zq A):=Nat.pow_le_pow_left (by decide) _;have:=XI Z2 (Nat.lt_of_lt_of_le h1 h2);show(ds Zc A).length<=2000000000000;omega
theorem Ee{k:Nat}(ha:Sl H va (ds Zc A))(Pn:0<k)(hk:k<=67108864)(hb:Zq (A^k)<=67108864): ∃u H',ZU Tryz.prog ZY 128 [va,.int .i64 (k:Int)] H=some (.tuple #[u,.int .i64 0],H')/\Zj H H'/\Ym H.n H' u (ds Zc (A^k)):=by
 suffices hs:CW Tryz.prog ZY 128 [va,.int .i64 (k:Int)] H fun v H'=> ∃u,v= .tuple #[u,.int .i64 0]/\Zj H H'/\Ym H.n H' u (ds Zc (A^k)) by obtain⟨v,H',hc,u,rfl,k,o⟩:=hs;exact⟨u,H',hc,k,o⟩
 have hbA:Zq A<=67108864:=by
  rcases Nat.eq_zero_or_pos A with h|h;·subst h;decide
  ·exact Nat.le_trans (Ye (Nat.le_self_pow (by omega) A)) hb
 have lA:=Zx hbA;obtain⟨v1,H1,c1,k1,o1⟩:=Vk ha (Yx Z2 A) (Nat.le_trans lA (by decide));rw[YL Z2]at o1;have c2:=Xm o1.sl lA;have e0:Zd .eql .i64 (k:Int) 0=some (.bool false):=by rw[We,decide_eq_false (by omega)]
 obtain⟨L,hL⟩:=hid (Zq A);rw[<-hL]at c2;refine Yd 63 Tryz.func128 ?_;apply Za;intro b1 Zf;simp;subst Zf;apply Zi;intro b1 Zf;apply Za;intro b2 ZT;simp[Ly];subst ZT;refine Zb (t:=false) (by simp) ?_;apply Zr;subst Zf;apply Za;intro b1 Zf;simp[c1];subst Zf;apply Zi;intro b1 Zf;apply Za;intro b2 ZT;simp[e0];subst ZT;refine Zb (t:=false) (by simp) ?_;apply Zr;subst Zf;apply Za;intro b1 Zf;simp[c2];subst Zf;apply Zi;intro b1 Zf;apply Za;intro b2 ZT;simp[wC (x:=L)];subst ZT;by_cases Aw:L<=1
 ·refine Zb (t:=true) (by simp[Aw]) ?_;apply Za;intro b2 ZT;simp;subst ZT;apply ZZ;simp[YQ];refine⟨k1,?_⟩;have:A^k=A:=by
   have h1:=Ww A;rw[<-hL]at h1;have:A<2:=Nat.lt_of_lt_of_le h1 (Nat.pow_le_pow_right (n:=2) (by decide) Aw);have:A=0\/A=1:=by omega
   rcases this with rfl|rfl;·exact Nat.zero_pow Pn
   ·exact Nat.one_pow _
  rw[this];exact o1
 ·refine Zb (t:=false) (by simp[Aw]) ?_;apply Zr;subst Zf;have EA:0<A:=by
   rcases Nat.eq_zero_or_pos A with h|h;·subst h;rw[hL]at Aw;exact absurd (by decide) Aw
   ·exact h
  have hpw:=bE (k:=k) EA;rw[<-hL]at hpw;have gk:Zd .gtr .i64 (k:Int) 67108864=some (.bool false):=by have h:=W8 (k:= .i64) (x:=k) (y:=67108864);rw[decide_eq_false (by omega)]at h;exact h
  have hLk:(L-1)*k+1<=67108864:=Nat.le_trans hpw hb;have g1:=V8 (x:=L) (by omega) (by omega);have g2:=mulN (x:=L-1) (y:=k) (by omega);have g3:=YU (x:=(L-1)*k) (by omega);have g4:Zd .gtr .i64 (((L-1)*k+1:Nat):Int) 67108864=some (.bool false):=by have h:=W8 (k:= .i64) (x:=(L-1)*k+1) (y:=67108864);rw[decide_eq_false (by omega)]at h;exact h
  obtain⟨v3,H3,c3,k3,o3⟩:=Tc (H:=H1) (x:=1) (by decide);have c3:ZU Tryz.prog ZY 164 [.int .u64 1] H1=some (v3,H3):=c3;apply Zi;intro b1 Zf;apply Za;intro b2 ZT;simp[gk,g1,g2,g3,g4];subst ZT;refine Zb (t:=false) (by simp) ?_;apply Zr;subst Zf;apply Za;intro b1 Zf;simp[c3];subst Zf;apply Zi;intro b1 Zf;apply Za;intro b2 ZT;simp;subst ZT;apply ZR;have UL:=k1.trans k3;have sJ:=o1.m k3;have e62:k/2^63=0:=Nat.div_eq_of_lt (Nat.lt_of_le_of_lt hk (by decide));refine YS (fun m s'=>s'.k=63/\Zj H3 s'.H/\m<=63/\ ∃w,Ym H.n s'.H w (ds Zc (A^(k/2^m)))/\s'.tm.get 0=some v1/\s'.tm.get 1=some (.int .i64 (k:Int))/\s'.tm.get 7=some w/\s'.tm.get 8=some (.int .i64 ((m:Int)-1))) ?_ 63 _ ⟨rfl,.refl H3,by omega,v3,by rw[e62,Nat.pow_zero];exact o3.mono k1.n (.refl _),by simp,by simp,by simp,by simp⟩;rintro m ⟨kk,tm,H4⟩ ⟨HQ,kH,hm63,w,ow,t0,t1,t7,t8⟩ Q' YA;simp only at HQ kH ow t0 t1 t7 t8;subst HQ;apply Zi;intro b3 Z4;apply Za;intro b4 Yy;simp[t8,Na (m:=m)];subst Yy;by_cases hm:0<m
  ·refine Zb (t:=true) (by simp[hm]) ?_;apply Zr;subst Z4;obtain⟨i,rfl⟩: ∃i,m=i+1:=⟨m-1,by omega⟩;have em:((i+1:Nat):Int)-1=(i:Int):=by omega
   rw[em]at t8;have Bj:=ao (A:=A) (k:=k) (i:=i);have hle:A^(k/2^i)<=A^k:=Nat.pow_le_pow_right EA (Nat.div_le_self _ _);have yG:Zq (A^(k/2^i))<=67108864:=Nat.le_trans (Ye hle) hb;obtain⟨C,hC⟩:=hid (A^(k/2^(i+1)));rw[<-hC]at ow Bj;have hC0:0<C:=by rw[hC];exact Nat.pow_pos EA
   have hCC:C*C<=A^(k/2^i):=by
    rw[Bj];split;·exact Nat.le_mul_of_pos_right _ EA
    ·rw[Nat.mul_one];exact Nat.le_refl _
   have hbC:Zq (C*C)<=67108864:=Nat.le_trans (Ye hCC) yG;have hbC1:Zq C<=67108864:=Nat.le_trans (Ye (Nat.le_mul_of_pos_right C hC0)) hbC;obtain⟨u5,H5,c5,k5,o5⟩:=EX ow.sl (Zx hbC1) hbC;have lw:=ow.sl.len Zu;obtain⟨nw,zd⟩:=hid ((ds Zc C).length);rw[<-zd]at lw;have hnw0:0<nw:=by rw[zd];exact(W5 Z2).mpr hC0
   have gl:Zd .gtr .i64 (nw:Int) 0=some (.bool true):=by rw[Kl,decide_eq_true hnw0]
   have jj:k/2^i<9223372036854775808:=Nat.lt_of_le_of_lt (Nat.div_le_self _ _) (by omega);have gs:=kY (x:=k) (s:=i) (by omega);have ga:=bO jj;have ge:=tH (x:=k/2^i%2);apply Zi;intro b3 Z4;apply ZR;apply Za;intro b4 Yy;simp;subst Yy;refine Xd (fun s'=>s'.k=63/\s'.H=H5/\s'.tm.get 0=some v1/\s'.tm.get 1=some (.int .i64 (k:Int))/\s'.tm.get 7=some u5/\s'.tm.get 8=some (.int .i64 (i:Int))) ?_ ?_;·intro Jt XR;apply Za;intro b5 SV;simp[t7,lw,gl];subst SV;refine Zb (t:=true) (by simp) ?_;apply Za;intro b5 SV;simp[t7,c5];subst SV;apply Za;intro b5 SV;simp[TH];subst SV;refine Zb (t:=false) (by simp) ?_;apply Zr;apply XR;exact⟨rfl,rfl,by simp[t0],by simp[t1],by simp,by simp[t8]⟩
   clear t0 t1 t7 t8;rintro⟨kk,tm,H6⟩ ⟨HQ,hH,t0,t1,t7,t8⟩;simp only at HQ hH t0 t1 t7 t8;subst HQ;subst hH;apply Za;intro b4 Yy;simp[t1,t8,gs,ga,ge];subst Yy;have zv:Zj H3 H6:=kH.trans k5;have Ea:=sJ.m zv;by_cases Fy:k/2^i%2=1
   ·rw[if_pos Fy]at Bj;have hbM:Zq (C*C*A)<=67108864:=by rw[<-Bj];exact yG
    obtain⟨u7,H7,c7,k7,o7⟩:=Rv o5.sl Ea.sl (Zx hbC) lA hbM;refine Zb (t:=true) (by simp[Fy]) ?_;apply Za;intro b4 Yy;simp[t0,t7,c7];subst Yy;apply Za;intro b4 Yy;simp[TH];subst Yy;refine Zb (t:=false) (by simp) ?_;apply Zr;subst Z4;apply Zl;simp[t8,TZ (m:=i) (by omega)];apply YA;refine⟨i,by omega,rfl,zv.trans k7,by omega,u7,?_,by simp[t0],by simp[t1],by simp,by simp⟩;rw[Bj];exact o7.mono (Nat.le_trans UL.n zv.n) (.refl _)
   ·rw[if_neg Fy,Nat.mul_one]at Bj;refine Zb (t:=false) (by simp[Fy]) ?_;apply Zr;subst Z4;apply Zl;simp[t8,TZ (m:=i) (by omega)];apply YA;refine⟨i,by omega,rfl,zv,by omega,u5,?_,by simp[t0],by simp[t1],by simp[t7],by simp⟩;rw[Bj];exact o5.mono (Nat.le_trans UL.n kH.n) (.refl _)
  ·refine Zb (t:=false) (by simp[hm]) ?_;apply YN;apply YA;left;refine⟨rfl,?_⟩;obtain rfl:m=0:=by omega
   rw[Nat.pow_zero,Nat.div_one]at ow;subst Zf;apply Za;intro b1 Zf;simp[t7];subst Zf;apply ZZ;simp;exact⟨UL.trans kH,ow⟩
end
def M8(A r:Nat):Prop:=r*r<=A/\A<(r+1)*(r+1)
theorem Fp(a b:Nat):4*(a*b)<=(a+b)*(a+b):=by
 rcases Nat.le_total a b with h|h
 ·obtain⟨d,rfl⟩:=Nat.le.dest h;have:(a+(a+d))*(a+(a+d))=4*(a*(a+d))+d*d:=by grind
  omega
 ·obtain⟨d,rfl⟩:=Nat.le.dest h;have:(b+d+b)*(b+d+b)=4*((b+d)*b)+d*d:=by grind
  omega
theorem fE{a b:Nat}(h:a<=b):a*a<=b*b:=Nat.mul_le_mul h h
theorem xD{a b:Nat}(h:a<b):a*a<b*b:=Nat.mul_lt_mul'' h h
theorem A5{A x:Nat}(hx:0<x):A<((x+A/x)/2+1)*((x+A/x)/2+1):=by
 have h1:A<x*(A/x+1):=by have:=Nat.div_add_mod A x;have:=Nat.mod_lt A hx;rw[Nat.mul_add,Nat.mul_one];omega
 have h2:=Fp x (A/x+1);obtain⟨y,hy⟩:=hid ((x+A/x)/2);rw[<-hy];have h3:x+(A/x+1)<=2*(y+1):=by omega
 have h4:=fE h3;have h5:2*(y+1)*(2*(y+1))=4*((y+1)*(y+1)):=by grind
 omega
theorem F9{A x:Nat}(hx:0<x)(hA:A<(x+1)*(x+1))(h:x<=(x+A/x)/2):M8 A x:=by
 refine⟨?_,hA⟩;have h1:x<=A/x:=by omega
 have h2:x*x<=A/x*x:=Nat.mul_le_mul_right _ h1;exact Nat.le_trans h2 (Nat.div_mul_le_self A x)
theorem Dl{A x:Nat}(hx:0<x)(hA:A<(x+1)*(x+1)):A/x<=x+2:=by
 have:A<(x+3)*x:=by
  have:(x+1)*(x+1)=(x+2)*x+1:=by grind
  have:(x+3)*x=(x+2)*x+x:=by grind
  omega
 have:=(Nat.div_lt_iff_lt_mul hx).mpr this;omega
theorem AP{A r s:Nat}(h:M8 A r)(h':M8 A s):r=s:=by
 obtain⟨a,b⟩:=h;obtain⟨c,d⟩:=h';rcases Nat.lt_trichotomy r s with h|h|h;·have:=fE (show r+1<=s from h);omega
 ·exact h
 ·have:=fE (show s+1<=r from h);omega
theorem V3{n k:Nat}(h:n<2^k):Zq n<=k:=by
 rcases Nat.eq_zero_or_pos n with h0|h0;·subst h0;exact Nat.zero_le _
 ·have h1:=WN (n:=n) (by omega);have:=(Nat.pow_lt_pow_iff_right (a:=2) (by decide)).mp (Nat.lt_of_le_of_lt h1 h);omega
section
variable {H : AH} {va vb : Value} {xs ys : List Nat} {A B : Nat}
theorem F8(ha:Sl H va (ds Zc A))(hA:0<A)(hb:Zq A<=67108864): ∃u H',ZU Tryz.prog ZY 127 [va,.int .i64 2] H=some (u,H')/\Zj H H'/\ ∃r,M8 A r/\Ym H.n H' u (ds Zc r):=by
 suffices hs:CW Tryz.prog ZY 127 [va,.int .i64 2] H fun v H'=>Zj H H'/\ ∃r,M8 A r/\Ym H.n H' v (ds Zc r)from hs;have lA:=Zx hb;have c1:=Xm ha lA;obtain⟨L,hL⟩:=hid (Zq A);rw[<-hL]at c1 hb;have hAL:A<2^L:=by rw[hL];exact Ww A
 have g1:Zd .geq .i64 2 (L:Int)=some (.bool (decide (L<=2))):=HW (k:= .i64) (x:=2) (y:=L);refine Yd 72 Tryz.func127 ?_;apply Za;intro b1 Zf;simp;subst Zf;apply Za;intro b1 Zf;simp[c1];subst Zf;apply Zi;intro b1 Zf;apply Za;intro b2 ZT;simp[g1];subst ZT;by_cases Lw:L<=2;·obtain⟨v2,H2,c2,k2,o2⟩:=Tc (H:=H) (x:=1) (by decide);have c2:ZU Tryz.prog ZY 164 [.int .u64 1] H=some (v2,H2):=c2;refine Zb (t:=true) (by simp[Lw]) ?_;apply Za;intro b2 ZT;simp[c2];subst ZT;apply ZZ;simp[YQ];refine⟨k2,1,⟨by omega,?_⟩,o2⟩;have:A<2^2:=Nat.lt_of_lt_of_le hAL (Nat.pow_le_pow_right (by decide) Lw);omega
 ·refine Zb (t:=false) (by simp[Lw]) ?_;apply Zr;subst Zf;obtain⟨h,hh⟩:=hid ((L+1)/2);have g2:Zd .add .i64 (L:Int) 2=some (.int .i64 ((L+2:Nat):Int)):=WO (x:=L) (y:=2) (by omega);have g3:Zd .sub .i64 ((L+2:Nat):Int) 1=some (.int .i64 ((L+1:Nat):Int)):=V8 (x:=L+2) (by omega) (by omega);have g4:Zd .quo .i64 ((L+1:Nat):Int) 2=some (.int .i64 (h:Int)):=by rw[hh];exact LV (x:=L+1) (y:=2) (by omega) (by decide)
  obtain⟨v2,H2,c2,k2,o2⟩:=Cj (H:=H) (n:=h) (by omega);apply Za;intro b1 Zf;simp[g2,g3,g4,c2];subst Zf;apply ZR;have sf:A<(2^h+1)*(2^h+1):=by have h1:2^L<=2^(h+h):=Nat.pow_le_pow_right (by decide) (by omega);rw[Nat.pow_add]at h1;have h2:=xD (show 2^h<2^h+1 by omega);omega
  refine YS (fun m s'=>s'.k=72/\Zj H s'.H/\0<m/\m<=2^h/\A<(m+1)*(m+1)/\ ∃w,Ym H.n s'.H w (ds Zc m)/\s'.tm.get 0=some va/\s'.tm.get 1=some (.int .i64 2)/\s'.tm.get 6=some w) ?_ (2^h) _ ⟨rfl,k2,Nat.pow_pos (by decide),Nat.le_refl _,sf,v2,o2,by simp,by simp,by simp⟩;rintro x ⟨kk,tm,H4⟩ ⟨HQ,kH,Lx,hxX,hAx,w,ow,t0,t1,t6⟩ Q' YA;simp only at HQ kH ow t0 t1 t6;subst HQ;have hbx:Zq x<=60000000:=by
   have:x<2^(h+1):=by rw[Nat.pow_succ];omega
   have:=V3 this;omega
  obtain⟨v5,H5,c5,k5,o5⟩:=Ee (k:=1) ow.sl (by decide) (by decide) (by rw[Nat.pow_one];omega);rw[Nat.pow_one]at o5;have c5:ZU Tryz.prog ZY 128 [w,.int .i64 1] H4=some (.tuple #[v5,.int .i64 0],H5):=c5;have k45:=kH.trans k5;obtain⟨v6,H6,c6,k6,o6⟩:=VO (ha.keep k45) o5.sl lA (Zx (by omega)) Lx (by omega);have ow5:=(ow.m k5).mono (Nat.le_refl _) k6;obtain⟨v7,H7,c7,k7,m7⟩:=CY (y:=1) ow5.sl (Yx Z2 x) (by decide) (Nat.le_trans (Zx (A:=x) (by omega)) (by decide));rw[YL Z2,Nat.mul_one]at m7;have c7:ZU Tryz.prog ZY 166 [w,.int .u64 1] H6=some (v7,H7):=c7;rcases m7 with⟨m7,_⟩|⟨_,u7,rfl,o7⟩;·omega
  have hq2:=Dl Lx hAx;have hs:x+A/x<2^(h+3):=by
   have:2^(h+3)=8*2^h:=by rw[Nat.pow_add];omega
   omega
  have gL:=V3 hs;obtain⟨v8,H8,c8,k8,o8⟩:=MM o7.sl (o6.sl.keep k7) (Zx (by omega)) (Zx (Nat.le_trans (Ye (Nat.div_le_self A x)) (by omega))) (by omega);obtain⟨v9,H9,c9,k9,m9⟩:=Gs (y:=2) o8.sl (Yx Z2 _) (by decide) (by decide) (Nat.le_trans (Zx (A:=x+A/x) (by omega)) (by decide));rw[YL Z2]at m9;have Jl:Zq ((x+A/x)/2)<=67108864:=Nat.le_trans (Ye (Nat.div_le_self _ 2)) (by omega);rcases m9 with⟨m9,_⟩|⟨_,u9,rfl,o9⟩;·omega
  obtain⟨rr,vC⟩:=hid ((x+A/x)%2);rw[<-vC]at c9;have c9:ZU Tryz.prog ZY 168 [v8,.int .u64 2] H8=some (.tuple #[u9,.int .u64 (rr:Int),.int .i64 0],H9):=c9;have hup:=A5 (A:=A) Lx;have mF:=F9 Lx hAx;obtain⟨y,hy⟩:=hid ((x+A/x)/2);rw[<-hy]at hup mF Jl o9;have ow9:=((ow5.m k7).mono (Nat.le_refl _) k8).mono (Nat.le_refl _) k9;obtain⟨vc,Hc,cc,ec,mi⟩:=UR o9.sl ow9.sl (Yx Z2 y) (Yx Z2 x) (Nat.le_trans (Zx Jl) (by decide)) (Nat.le_trans (Zx (A:=x) (by omega)) (by decide));rw[YL Z2,YL Z2]at mi;rw[ec,mi]at cc;have gc:=HX (a:=y) (b:=x);have k49:=(((k45.trans k6).trans k7).trans k8).trans k9;have s1:Zd .sub .i64 2 1=some (.int .i64 1):=rfl;have cv1:Sh Tryz.prog 3 101 (.int .i64 1)=some (.int .u64 1):=Ph (n:=1) (by decide);have cv2:Sh Tryz.prog 3 101 (.int .i64 2)=some (.int .u64 2):=Ph (n:=2) (by decide);apply ZR;apply Za;intro b3 Z4;simp[t1,t6,s1,c5];subst Z4;apply Za;intro b3 Z4;simp[t0,c6];subst Z4;apply Za;intro b3 Z4;simp[t1,t6,s1,cv1,c7];subst Z4;apply Za;intro b3 Z4;simp[c8];subst Z4;apply Za;intro b3 Z4;simp[t1,cv2,c9];subst Z4;apply Zi;intro b3 Z4;apply Za;intro b4 Yy;simp[t6,cc,gc];subst Yy;by_cases zk:x<=y;·refine Zb (t:=true) (by simp[zk]) ?_;apply Za;intro b4 Yy;simp[t6];subst Yy;apply ZZ;simp[YQ,Yv];apply YA;simp[TI,Yv,YQ];exact⟨k49,x,mF zk,ow9⟩
  ·refine Zb (t:=false) (by simp[zk]) ?_;apply Zr;subst Z4;apply Zl;simp;apply YA;refine⟨y,by omega,rfl,k49,?_,by omega,hup,u9,o9.mono (Nat.le_trans (((((kH.trans k5).trans k6).trans k7).trans k8).n) (Nat.le_refl _)) (.refl _),by simp[t0],by simp[t1],by simp⟩;rcases Nat.eq_zero_or_pos y with h0|h0;·subst h0;omega
   ·exact h0
theorem ay(ha:Sl H va xs)(dx:YH Zc xs)(lx:xs.length<=17592186044416)(hb:Zq (dv Zc xs)<=67108864): ∃u w H',ZU Tryz.prog ZY 89 [va,.int .i64 2] H=some (.tuple #[u,w,.int .i64 0],H')/\Zj H H'/\ ∃r,M8 (dv Zc xs) r/\Ym H.n H' u (ds Zc r)/\Sl H' w (ds Zc (dv Zc xs-r*r)):=by
 suffices hs:CW Tryz.prog ZY 89 [va,.int .i64 2] H fun v H'=> ∃u w,v= .tuple #[u,w,.int .i64 0]/\Zj H H'/\ ∃r,M8 (dv Zc xs) r/\Ym H.n H' u (ds Zc r)/\Sl H' w (ds Zc (dv Zc xs-r*r)) by obtain⟨v,H',hc,u,w,rfl,k,o⟩:=hs;exact⟨u,w,H',hc,k,o⟩
 obtain⟨v1,H1,c1,k1,o1⟩:=K8 ha dx lx hb;obtain⟨A,hA⟩:=hid (dv Zc xs);rw[<-hA]at o1 hb⊢;have lA:=Zx hb;have c2:=Xm o1.sl lA;obtain⟨L,hL⟩:=hid (Zq A);rw[<-hL]at c2;have g1:=We (k:= .i64) (x:=L);refine Yd 42 Tryz.func89 ?_;apply Za;intro b1 Zf;simp;subst Zf;apply Zi;intro b1 Zf;apply Za;intro b2 ZT;simp[show Zd .lss .i64 2 1=some (.bool false)from rfl];subst ZT;refine Zb (t:=false) (by simp) ?_;apply Zr;subst Zf;apply Za;intro b1 Zf;simp[c1];subst Zf;apply Zi;intro b1 Zf;apply Za;intro b2 ZT;simp[TH];subst ZT;refine Zb (t:=false) (by simp) ?_;apply Zr;subst Zf;apply Zi;intro b1 Zf;apply Za;intro b2 ZT;simp[show Zd .eql .i64 2 1=some (.bool false)from rfl,c2,g1];subst ZT;by_cases h0:L=0;·refine Zb (t:=true) (by simp[h0]) ?_;apply Za;intro b2 ZT;simp;subst ZT;apply ZZ;simp[YQ];have:A=0:=Uo.mp (by omega);subst this;exact⟨_,_,⟨rfl,rfl⟩,k1,0,⟨by decide,by decide⟩,o1,by rw[show ds Zc (0-0*0)=[]from Xl _];exact .nil⟩
 ·refine Zb (t:=false) (by simp[h0]) ?_;apply Zr;subst Zf;have EA:0<A:=by
   rcases Nat.eq_zero_or_pos A with h|h;·subst h;exact absurd hL h0
   ·exact h
  obtain⟨v3,H3,c3,k3,r,hr,o3⟩:=F8 o1.sl EA hb;have vC:Zq (r^2)<=67108864:=by rw[Nat.pow_two];exact Nat.le_trans (Ye hr.1) hb
  obtain⟨v4,H4,c4,k4,o4⟩:=Ee (k:=2) o3.sl (by decide) (by decide) vC;rw[Nat.pow_two]at o4 vC;have c4:ZU Tryz.prog ZY 128 [v3,.int .i64 2] H3=some (.tuple #[v4,.int .i64 0],H4):=c4;obtain⟨v5,H5,c5,k5,o5⟩:=AF ((o1.sl.keep k3).keep k4) o4.sl lA (Zx vC) hr.1 hb;apply Za;intro b1 Zf;simp[c3];subst Zf;apply Za;intro b1 Zf;simp[c4];subst Zf;apply Za;intro b1 Zf;simp[c5];subst Zf;apply ZZ;simp;exact⟨_,_,⟨rfl,rfl⟩,((k1.trans k3).trans k4).trans k5,r,hr,((o3.mono k1.n k4).mono (Nat.le_refl _) k5),o5.sl⟩
theorem IH(ha:Sl H va xs)(dx:YH Zc xs)(lx:xs.length<=17592186044416)(hb:Zq (dv Zc xs)<=67108864): ∃u w H',ZU Tryz.prog ZY 55 [va] H=some (.tuple #[u,w,.int .i64 0],H')/\Zj H H'/\ ∃r,M8 (dv Zc xs) r/\Ym H.n H' u (ds Zc r)/\Sl H' w (ds Zc (dv Zc xs-r*r)):=by
 suffices hs:CW Tryz.prog ZY 55 [va] H fun v H'=> ∃u w,v= .tuple #[u,w,.int .i64 0]/\Zj H H'/\ ∃r,M8 (dv Zc xs) r/\Ym H.n H' u (ds Zc r)/\Sl H' w (ds Zc (dv Zc xs-r*r)) by obtain⟨v,H',hc,u,w,rfl,k,o⟩:=hs;exact⟨u,w,H',hc,k,o⟩
 obtain⟨u,w,H1,c1,k1,o1⟩:=ay ha dx lx hb;refine Yd 10 Tryz.func55 ?_;apply Za;intro b1 Zf;simp;subst Zf;apply Za;intro b1 Zf;simp[c1];subst Zf;apply ZZ;simp;exact⟨_,_,⟨rfl,rfl⟩,k1,o1⟩
end
theorem XV(H:AH)(sz:Nat)(cs:List Value):(H.new sz cs).n=H.n+1:=rfl
theorem Wc(H:AH)(a:List Value): ∃H',H.new 1 a=H'/\Zj H H'/\H'.n=H.n+1/\H'.blk H.n= .rw 1 a:=⟨_,rfl,.new _ _ _,rfl,by rw[AH.blk_new,if_pos rfl]⟩
theorem Xb(H:AH)(a b:List Value): ∃H',(H.new 1 a).new 1 b=H'/\Zj H H'/\H'.n=H.n+2/\H'.blk H.n= .rw 1 a/\H'.blk (H.n+1)= .rw 1 b:=by obtain⟨H1,e1,k1,n1,q1⟩:=Wc H a;obtain⟨H2,e2,k2,n2,q2⟩:=Wc H1 b;exact⟨H2,by rw[e1,e2],k1.trans k2,by omega,by rw[k2.blk _ (by omega)];exact q1,by rw[<-n1];exact q2⟩
theorem S5(H:AH)(a b c:List Value): ∃H',((H.new 1 a).new 1 b).new 1 c=H'/\Zj H H'/\H'.n=H.n+3/\H'.blk H.n= .rw 1 a/\H'.blk (H.n+1)= .rw 1 b/\H'.blk (H.n+2)= .rw 1 c:=by obtain⟨H1,e1,k1,n1,q1,r1⟩:=Xb H a b;obtain⟨H2,e2,k2,n2,q2⟩:=Wc H1 c;exact⟨H2,by rw[e1,e2],k1.trans k2,by omega,by rw[k2.blk _ (by omega)];exact q1,by rw[k2.blk _ (by omega)];exact r1,by rw[<-n1];exact q2⟩
theorem Of(H:AH)(a b c d:List Value): ∃H',(((H.new 1 a).new 1 b).new 1 c).new 1 d=H'/\Zj H H'/\H'.n=H.n+4/\H'.blk H.n= .rw 1 a/\H'.blk (H.n+1)= .rw 1 b/\H'.blk (H.n+2)= .rw 1 c/\H'.blk (H.n+3)= .rw 1 d:=by obtain⟨H1,e1,k1,n1,q1,r1⟩:=Xb H a b;obtain⟨H2,e2,k2,n2,q2,r2⟩:=Xb H1 c d;exact⟨H2,by rw[e1,e2],k1.trans k2,by omega,by rw[k2.blk _ (by omega)];exact q1,by rw[k2.blk _ (by omega)];exact r1,by rw[<-n1];exact q2,by rw[show H.n+3=H1.n+1 by omega];exact r2⟩
theorem TQ{H:AH}{t:TypeId}{n b:Nat}{cs ws:List Value}(ht:Xh Tryz.prog t=some n)(hb:H.blk b= .rw 1 cs)(hc:cs.length=n){v:Value}(hv:v.cells.toList=ws)(hw:ws.length=n)(h1:ws.all one=true): ∃H',YV Tryz.prog H t (.pointer (some ⟨b,0,none⟩)) v=some H'/\H'.n=H.n/\H'.blk b= .rw 1 ws/\(∀j,j≠b->H'.blk j=H.blk j)/\Vz b H H':=by obtain⟨H',st,q,n1,o,ka,_⟩:=Wz (o:=0) ht hb hv hw (by omega) h1;refine⟨H',st,n1,?_,o,ka⟩;rw[q,List.take_zero,List.nil_append,List.drop_of_length_le (by omega),List.append_nil]
theorem bW:XY Tryz.prog 32=some true:=by kernel_rfl
theorem Mr:Xh Tryz.prog 32=some 2:=by kernel_rfl
theorem Rg:W0 Tryz.prog 32=some (.agg #[.bool false,.slice none 0 0]):=by kernel_rfl
theorem JR{H:AH}{b:Nat}{p' q' p q:Value}(hb:H.blk b= .rw 1 [p',q'])(h0:p.cells=#[p])(h1:q.cells=#[q])(h2:one p=true)(h3:one q=true): ∃H',YV Tryz.prog H 32 (.pointer (some ⟨b,0,none⟩)) (.agg #[p,q])=some H'/\H'.n=H.n/\H'.blk b= .rw 1 [p,q]/\(∀j,j≠b->H'.blk j=H.blk j)/\Vz b H H':=TQ Mr hb rfl (by simp[Value.cells]) rfl (by simp[h2,h3])
theorem TJ{H:AH}{b:Nat}{p q:Value}(hb:H.blk b= .rw 1 [p,q]):Z9 Tryz.prog H 32 (.pointer (some ⟨b,0,none⟩))=some (.agg #[p,q]):=by unfold Z9;simp only[bW,Mr,AH.read_def,hb];simp[AH.cells_rw' hb,show Nat.ble 2 2=true from rfl]
theorem TS{H:AH}{b:Nat}{p q:Value}(hb:H.blk b= .rw 1 [p,q]):Z9 Tryz.prog H 4 (.pointer (some ⟨b,0,none⟩))=some p:=Yj JI (AH.cells_rw' hb (by decide)) rfl
theorem V0{H:AH}{b:Nat}{p q:Value}(hb:H.blk b= .rw 1 [p,q]):Z9 Tryz.prog H 30 (.pointer (some ⟨b,1,none⟩))=some q:=Yj Ju (AH.cells_rw' hb (by decide)) rfl
theorem Tb(b:Nat):Ys Tryz.prog 32 (.pointer (some ⟨b,0,none⟩)) 1=some (.pointer (some ⟨b,1,none⟩)):=Ic b 0
theorem Qu{b:Bool}{v:Value}(hv: ∃a l c,v= .slice a l c):Wt Tryz.prog 32 [(0,.bool b),(1,v)]=some (.agg #[.bool b,v]):=by obtain⟨a,l,c,rfl⟩:=hv;rfl
theorem Pf{v:Value}(hv: ∃a l c,v= .slice a l c):Wt Tryz.prog 32 [(1,v)]=some (.agg #[.bool false,v]):=by obtain⟨a,l,c,rfl⟩:=hv;rfl
theorem Ym.cells1{n:Nat}{H:AH}{v:Value}{xs:List Nat}(h:Ym n H v xs):v.cells=#[v]/\one v=true:=h.isSlice
section
variable {H : AH} {u va vb : Value} {xs ys : List Nat} {A B : Nat}
def sg(neg:Bool)(N:Nat):Bool:=neg&&decide (0<N)
theorem OM(neg:Bool)(hs:Sl H u xs)(dx:YH Zc xs)(lx:xs.length<=17592186044416): ∃a H',ZU Tryz.prog ZY 195 [.agg #[.bool neg,u]] H=some (.agg #[.bool (sg neg (dv Zc xs)),a],H')/\Zj H H'/\Ym H.n H' a (ds Zc (dv Zc xs)):=by
 obtain⟨N,hN⟩:=hid (dv Zc xs);rw[<-hN];suffices h:CW Tryz.prog ZY 195 [.agg #[.bool neg,u]] H fun v H'=> ∃a,v= .agg #[.bool (sg neg N),a]/\Zj H H'/\Ym H.n H' a (ds Zc N) by obtain⟨v,H',hc,a,rfl,k,o⟩:=h;exact⟨a,H',hc,k,o⟩
 obtain⟨H2,e2,k2,n2,q1,q2⟩:=Xb H [.bool neg,u] [.bool false,.slice none 0 0];obtain⟨w,H3,c3,k3,o3⟩:=Vk (hs.keep k2) dx lx;rw[<-hN]at o3;have Eh:=k3.blk _ (show H.n<H2.n by omega);rw[q1]at Eh;have Qo:=k3.blk _ (show H.n+1<H2.n by omega);rw[q2]at Qo;obtain⟨i1,i2⟩:=o3.cells1;obtain⟨H4,WQ,n4,q4,b4,Ua⟩:=JR (p:= .bool (sg neg N)) (q:=w) Qo rfl i1 rfl i2;have P3:Zj H H4:=Ua H (k2.trans k3) (by omega);have o4:Ym H.n H4 w (ds Zc N):=by have hb:T4 (some (H.n+1)) H3 H4:=⟨n4,fun j _ hj=>b4 j (fun e=>hj (by rw[e]))⟩;exact(o3.but hb (fun c hc hv=>by cases hc;have:=(o3.blk_lo hv).1;omega)).mono (by omega) (.refl _)
 have l3:=o3.sl.len Zu;obtain⟨m,hm⟩:=hid ((ds Zc N).length);rw[<-hm]at l3;have hmN:(0<m)↔0<N:=by rw[hm];exact W5 Z2
 have E3:=Qu (b:=sg neg N) o3.shape;have Y1:=TJ q4;obtain⟨S,hS⟩:=hid (sg neg N);rw[<-hS]at WQ E3 Y1⊢;refine Yd 16 Tryz.func195 ?_;apply Za;intro b1 Zf;simp[Value.cells,Rg,XV,e2];subst Zf;apply Za;intro b1 Zf;simp[Tb,V0 q1,c3];subst Zf;cases neg with
  |false=>
   have:S=false:=by rw[hS];rfl
   subst this;apply Za;intro b1 Zf;simp[V5,TS Eh,E3,WQ];subst Zf;apply ZZ;simp[Y1];exact⟨P3,o4⟩
  |true=>
   have hg:Zd .gtr .i64 (m:Int) 0=some (.bool S):=by rw[Kl,hS];unfold sg;rw[Bool.true_and,decide_eq_decide.mpr hmN]
   apply Za;intro b1 Zf;simp[V5,TS Eh,l3,hg,E3,WQ];subst Zf;apply ZZ;simp[Y1];exact⟨P3,o4⟩
end
theorem Ym.off{n b:Nat}{H H':AH}{w:Value}{xs:List Nat}(o:Ym n H w xs)(hb:b<n)(hn:H'.n=H.n)(h: ∀j,j≠b->H'.blk j=H.blk j):Ym n H' w xs:=o.but (b:=some b) ⟨hn,fun j _ hj=>h j (fun e=>hj (by rw[e]))⟩ (fun c hc hv=>by cases hc;have:=(o.blk_lo hv).1;omega)
section
variable {H : AH} {u v va vb : Value} {xs ys : List Nat} {A B : Nat}
theorem CT(neg:Bool)(hs:Sl H u xs)(dx:YH Zc xs)(lx:xs.length<=17592186044416)(hb:Zq (dv Zc xs)<=67108864): ∃a H',ZU Tryz.prog ZY 220 [.agg #[.bool neg,u]] H=some (.tuple #[.agg #[.bool (sg neg (dv Zc xs)),a],.int .i64 0],H')/\Zj H H'/\Ym H.n H' a (ds Zc (dv Zc xs)):=by
 obtain⟨N,hN⟩:=hid (dv Zc xs);suffices h:CW Tryz.prog ZY 220 [.agg #[.bool neg,u]] H fun v H'=> ∃a,v= .tuple #[.agg #[.bool (sg neg N),a],.int .i64 0]/\Zj H H'/\Ym H.n H' a (ds Zc N) by obtain⟨v,H',hc,a,rfl,k,o⟩:=h;rw[<-hN];exact⟨a,H',hc,k,o⟩
 obtain⟨i1,i2⟩:=Sl.one1 hs|>fun h=>(⟨by obtain⟨a,l,c,rfl⟩:=hs.shape;rfl,h⟩:u.cells=#[u]/\one u=true);obtain⟨H2,e2,k2,n2,q1,q2⟩:=Xb H [.bool neg,u] [.bool false,.slice none 0 0];obtain⟨v0,H0,c0,e0,e0'⟩:=W4 (hs.keep k2) dx lx;rw[e0,e0',<-hN]at c0;rw[<-hN]at hb;obtain⟨w,H3,c3,k3,o3⟩:=OM neg (hs.keep k2) dx lx;rw[<-hN]at c3 o3;have Qo:=k3.blk _ (show H.n+1<H2.n by omega);rw[q2]at Qo;obtain⟨j1,j2⟩:=o3.cells1;obtain⟨S,hS⟩:=hid (sg neg N);rw[<-hS]at c3⊢;obtain⟨H4,WQ,n4,q4,b4,Ua⟩:=JR (p:= .bool S) (q:=w) Qo rfl j1 rfl j2;have P3:Zj H H4:=Ua H (k2.trans k3) (by omega);have o4:=(o3.off (b:=H.n+1) (by omega) n4 b4).mono (show H.n<=H2.n by omega) (.refl _);have Y1:=TJ q4;obtain⟨L,hL⟩:=hid (Zq N);rw[<-hL]at c0 hb;have g1:Zd .gtr .i64 (L:Int) 67108864=some (.bool false):=by have h:=W8 (k:= .i64) (x:=L) (y:=67108864);rw[decide_eq_false (by omega)]at h;exact h
 refine Yd 11 Tryz.func220 ?_;apply Za;intro b1 Zf;simp[Value.cells,Rg,XV,e2];subst Zf;apply Zi;intro b1 Zf;apply Za;intro b2 ZT;simp[Tb,V0 q1,c0,g1];subst ZT;refine Zb (t:=false) (by simp) ?_;apply Zr;subst Zf;apply Za;intro b1 Zf;simp[TJ q1,c3,WQ];subst Zf;apply ZZ;simp[Y1];exact⟨P3,o4⟩
theorem R9(neg:Bool)(hs:Sl H u xs)(dx:YH Zc xs)(lx:xs.length<=17592186044416)(hb:Zq (dv Zc xs)<=67108864): ∃a H',ZU Tryz.prog ZY 194 [.bool neg,u,.int .i64 0] H=some (.tuple #[.agg #[.bool (sg neg (dv Zc xs)),a],.int .i64 0],H')/\Zj H H'/\Ym H.n H' a (ds Zc (dv Zc xs)):=by
 obtain⟨N,hN⟩:=hid (dv Zc xs);suffices h:CW Tryz.prog ZY 194 [.bool neg,u,.int .i64 0] H fun v H'=> ∃a,v= .tuple #[.agg #[.bool (sg neg N),a],.int .i64 0]/\Zj H H'/\Ym H.n H' a (ds Zc N) by obtain⟨v,H',hc,a,rfl,k,o⟩:=h;rw[<-hN];exact⟨a,H',hc,k,o⟩
 obtain⟨H2,e2,k2,n2,q2⟩:=Wc H [.bool false,.slice none 0 0];obtain⟨w,H3,c3,k3,o3⟩:=CT neg (hs.keep k2) dx lx hb;rw[<-hN]at c3 o3;have Qo:=k3.blk _ (show H.n<H2.n by omega);rw[q2]at Qo;obtain⟨j1,j2⟩:=o3.cells1;obtain⟨S,hS⟩:=hid (sg neg N);rw[<-hS]at c3⊢;obtain⟨H4,WQ,n4,q4,b4,Ua⟩:=JR (p:= .bool S) (q:=w) Qo rfl j1 rfl j2;have P3:Zj H H4:=Ua H (k2.trans k3) (by omega);have o4:=(o3.off (b:=H.n) (by omega) n4 b4).mono (show H.n<=H2.n by omega) (.refl _);have Y1:=TJ q4;have E3:=Qu (b:=neg) (v:=u) hs.shape;refine Yd 18 Tryz.func194 ?_;apply Za;intro b1 Zf;simp[Value.cells,Rg,XV,e2];subst Zf;apply Zi;intro b1 Zf;apply Za;intro b2 ZT;simp[TH];subst ZT;refine Zb (t:=false) (by simp) ?_;apply Zr;subst Zf;apply Za;intro b1 Zf;simp[E3,c3,WQ];subst Zf;apply ZZ;simp[Y1];exact⟨P3,o4⟩
theorem gY{n:Nat}(hn:n<9223372036854775808): ∃a H',ZU Tryz.prog ZY 196 [.int .i64 (n:Int)] H=some (.agg #[.bool false,a],H')/\Zj H H'/\Ym H.n H' a (ds Zc n):=by
 suffices h:CW Tryz.prog ZY 196 [.int .i64 (n:Int)] H fun v H'=> ∃a,v= .agg #[.bool false,a]/\Zj H H'/\Ym H.n H' a (ds Zc n) by obtain⟨v,H',hc,a,rfl,k,o⟩:=h;exact⟨a,H',hc,k,o⟩
 have hnB:n<Zc:=Nat.lt_trans hn (by decide);obtain⟨H2,e2,k2,n2,q2⟩:=Wc H [.bool false,.slice none 0 0];obtain⟨w,H3,c3,k3,o3⟩:=Tc (H:=H2) hnB;have Qo:=k3.blk _ (show H.n<H2.n by omega);rw[q2]at Qo;obtain⟨j1,j2⟩:=o3.cells1;obtain⟨H4,WQ,n4,q4,b4,Ua⟩:=JR (p:= .bool false) (q:=w) Qo rfl j1 rfl j2;have P3:Zj H H4:=Ua H (k2.trans k3) (by omega);have o4:=(o3.off (b:=H.n) (by omega) n4 b4).mono (show H.n<=H2.n by omega) (.refl _);have Y1:=TJ q4;have E3:=Pf (v:=w) o3.shape;have cv:=Ph hnB;refine Yd 14 Tryz.func196 ?_;apply Za;intro b1 Zf;simp[Value.cells,Rg,XV,e2];subst Zf;apply Zi;intro b1 Zf;apply Za;intro b2 ZT;simp[Ly];subst ZT;refine Zb (t:=false) (by simp) ?_;apply Zr;subst Zf;apply Za;intro b1 Zf;simp[cv,c3,E3,WQ];subst Zf;apply ZZ;simp[Y1];exact⟨P3,o4⟩
def Vc(neg:Bool)(N:Nat):Int:=if N=0 then 0 else if neg then-1 else 1
theorem CU(neg:Bool)(hs:Sl H u xs)(dx:YH Zc xs)(lx:xs.length<=17592186044416): ∃H',ZU Tryz.prog ZY 125 [.agg #[.bool neg,u]] H=some (.int .i64 (Vc neg (dv Zc xs)),H')/\Zj H H':=by
 obtain⟨N,hN⟩:=hid (dv Zc xs);suffices h:CW Tryz.prog ZY 125 [.agg #[.bool neg,u]] H fun v H'=>v= .int .i64 (Vc neg N)/\Zj H H' by obtain⟨v,H',hc,rfl,k⟩:=h;rw[<-hN];exact⟨H',hc,k⟩
 obtain⟨S,hS⟩:=hid (Vc neg N);rw[<-hS];unfold Vc at hS;obtain⟨H2,e2,k2,n2,q1⟩:=Wc H [.bool neg,u];obtain⟨v0,H0,c0,e0,e0'⟩:=W4 (hs.keep k2) dx lx;rw[e0,e0',<-hN]at c0;obtain⟨L,hL⟩:=hid (Zq N);rw[<-hL]at c0;have g1:=We (k:= .i64) (x:=L);have hLN:L=0↔N=0:=by rw[hL];exact Uo
 refine Yd 11 Tryz.func125 ?_;apply Za;intro b1 Zf;simp[Value.cells,XV,e2];subst Zf;apply Zi;intro b1 Zf;apply ZR;apply Za;intro b2 ZT;simp[Tb,V0 q1,c0,g1];subst ZT;by_cases h0:L=0;·rw[if_pos (hLN.mp h0)]at hS;subst hS;refine Zb (t:=true) (by simp[h0]) ?_;apply Za;intro b1 Zf;simp;subst Zf;apply ZZ;simp[YQ,Yv];exact k2
 ·rw[if_neg (fun h=>h0 (hLN.mpr h))]at hS;refine Zb (t:=false) (by simp[h0]) ?_;apply Za;intro b2 ZT;simp[V5,TS q1];subst ZT;cases neg with|true=>rw[if_pos rfl]at hS;subst hS;refine Zb (t:=true) (by simp) ?_;apply Za;intro b1 Zf;simp;subst Zf;apply ZZ;simp[YQ,Yv];exact k2|false=>rw[if_neg (by decide)]at hS;subst hS;refine Zb (t:=false) (by simp) ?_;apply Zr;subst Zf;apply Za;intro b1 Zf;simp;subst Zf;apply ZZ;simp;exact k2
theorem IE(s t:Bool)(ha:Sl H u (ds Zc A))(hb:Sl H v (ds Zc B))(lA:(ds Zc A).length<=WJ)(lB:(ds Zc B).length<=WJ)(h:Zq (A*B)<=67108864): ∃a H',ZU Tryz.prog ZY 143 [.agg #[.bool s,u],.agg #[.bool t,v]] H=some (.tuple #[.agg #[.bool (sg (s !=t) (A*B)),a],.int .i64 0],H')/\Zj H H'/\Ym H.n H' a (ds Zc (A*B)):=by
 suffices h:CW Tryz.prog ZY 143 [.agg #[.bool s,u],.agg #[.bool t,v]] H fun v H'=> ∃a,v= .tuple #[.agg #[.bool (sg (s !=t) (A*B)),a],.int .i64 0]/\Zj H H'/\Ym H.n H' a (ds Zc (A*B)) by obtain⟨v,H',hc,a,rfl,k,o⟩:=h;exact⟨a,H',hc,k,o⟩
 obtain⟨H2,e2,k2,n2,q1,q2,q3⟩:=S5 H [.bool s,u] [.bool t,v] [.bool false,.slice none 0 0];obtain⟨w,H3,c3,k3,o3⟩:=Rv (ha.keep k2) (hb.keep k2) lA lB h;have Eh:=k3.blk _ (show H.n<H2.n by omega);rw[q1]at Eh;have Qo:=k3.blk _ (show H.n+1<H2.n by omega);rw[q2]at Qo;obtain⟨z,H4,c4,k4,o4⟩:=R9 (s !=t) o3.sl (Yx Z2 _) (Nat.le_trans (Zx h) (by decide)) (by rw[YL Z2];exact h);rw[YL Z2]at c4 o4;have Da:=(k3.trans k4).blk _ (show H.n+2<H2.n by omega);rw[q3]at Da;obtain⟨j1,j2⟩:=o4.cells1;obtain⟨S,hS⟩:=hid (sg (s !=t) (A*B));rw[<-hS]at c4⊢;obtain⟨H5,Ui,n5,q5,b5,UK⟩:=JR (p:= .bool S) (q:=z) Da rfl j1 rfl j2;have n3:=k3.n;have AO:Zj H H5:=UK H ((k2.trans k3).trans k4) (by omega);have o5:=(o4.off (b:=H.n+2) (by omega) n5 b5).mono (show H.n<=H3.n by omega) (.refl _);have Y1:=TJ q5;have mu:Yq Tryz.prog .neq 4 (.bool s) (.bool t)=some (.bool (s !=t)):=by cases s<;>cases t<;>rfl
 obtain⟨x,hx⟩:=hid ((s !=t));rw[<-hx]at c4 mu;refine Yd 26 Tryz.func143 ?_;apply Za;intro b1 Zf;simp[Value.cells,Rg,XV,e2];subst Zf;apply Za;intro b1 Zf;simp[Tb,V0 q1,V0 q2,c3];subst Zf;apply Za;intro b1 Zf;simp[V5,TS Eh,TS Qo,-Yq,mu,c4,Ui];subst Zf;apply ZZ;simp[Y1];exact⟨AO,o5⟩
end
theorem Ck{H:AH}{t:TypeId}{n b:Nat}{cs ws:List Value}(ht:Xh Tryz.prog t=some n)(hb:H.blk b= .rw 1 cs)(hc:cs.length=n){v:Value}(hv:v.cells.toList=ws)(hw:ws.length=n)(h1:ws.all one=true): ∃H',YV Tryz.prog H t (.pointer (some ⟨b,0,none⟩)) v=some H'/\H'.n=H.n/\H'.blk b= .rw 1 ws/\(∀j,j≠b->H'.blk j=H.blk j)/\Vz b H H'/\H'.lw=min H.lw b:=by obtain⟨H',st,q,n1,o,ka,lw⟩:=Wz (o:=0) ht hb hv hw (by omega) h1;refine⟨H',st,n1,?_,o,ka,lw⟩;rw[q,List.take_zero,List.nil_append,List.drop_of_length_le (by omega),List.append_nil]
theorem UY{H:AH}{t:TypeId}{n b:Nat}{cs ws:List Value}(ht:Xh Tryz.prog t=some n)(hb:H.blk b= .rw 1 cs)(Le:b<H.n)(hc:cs.length=n){v:Value}(hv:v.cells.toList=ws)(hw:ws.length=n)(h1:ws.all one=true): ∃H2,YV Tryz.prog H.top t (.pointer (some ⟨b,0,none⟩)) v=some H2/\H2.n=H.n/\H2.lw<H.n/\(low H H2).n=H.n/\(low H H2).blk b= .rw 1 ws/\(∀j,j≠b->(low H H2).blk j=H.blk j)/\Vz b H (low H H2):=by obtain⟨H2,st,n1,q,o,ka,lw⟩:=Ck (H:=H.top) ht hb hc hv hw h1;exact⟨H2,st,n1,by rw[lw];show min H.n b<H.n;omega,n1,q,o,Tn ka⟩
def Qq(s:Bool)(A:Nat)(t:Bool)(B:Nat):Bool×Nat:=if sg s A=sg t B then(sg s A,A+B)else if A<B then(sg t B,B-A)else(sg s A,A-B)
section
variable {H : AH} {u v va vb : Value} {xs ys : List Nat} {A B : Nat}
theorem aM(s t:Bool)(ha:Sl H u (ds Zc A))(hb:Sl H v (ds Zc B))(lA:(ds Zc A).length<=WJ)(lB:(ds Zc B).length<=WJ)(h:Zq (A+B)<=67108864): ∃a H',ZU Tryz.prog ZY 144 [.agg #[.bool s,u],.agg #[.bool t,v]] H=some (.tuple #[.agg #[.bool (sg (Qq s A t B).1 (Qq s A t B).2),a],.int .i64 0],H')/\Zj H H'/\Ym H.n H' a (ds Zc (Qq s A t B).2):=by
 suffices hs:CW Tryz.prog ZY 144 [.agg #[.bool s,u],.agg #[.bool t,v]] H fun v H'=> ∃a,v= .tuple #[.agg #[.bool (sg (Qq s A t B).1 (Qq s A t B).2),a],.int .i64 0]/\Zj H H'/\Ym H.n H' a (ds Zc (Qq s A t B).2) by obtain⟨v,H',hc,a,rfl,k,o⟩:=hs;exact⟨a,H',hc,k,o⟩
 obtain⟨H2,e2,k2,n2,q1,q2,q3⟩:=S5 H [.bool s,u] [.bool t,v] [.bool false,.slice none 0 0];have cA:u.cells=#[u]/\one u=true:=⟨by obtain⟨a,l,c,rfl⟩:=ha.shape;rfl,ha.one1⟩;have cB:v.cells=#[v]/\one v=true:=⟨by obtain⟨a,l,c,rfl⟩:=hb.shape;rfl,hb.one1⟩;obtain⟨w1,E1,c1,U4,o1⟩:=OM s ((ha.keep k2).top) (Yx Z2 A) (Nat.le_trans lA (by decide));rw[YL Z2]at c1 o1;obtain⟨G1,Td⟩:=hid (grown H2 E1);have WT:Zj H2 G1:=by rw[Td];exact Yo (.refl H2) U4
 have sJ:Ym H2.n G1 w1 (ds Zc A):=by rw[Td];exact o1.same (Yz U4)
 have Mk:H2.n<=E1.n:=U4.n;obtain⟨w2,E2,c2,AN,o2⟩:=OM t ((hb.keep (k2.trans WT)).top) (Yx Z2 B) (Nat.le_trans lB (by decide));rw[YL Z2]at c2 o2;obtain⟨G2,Fw⟩:=hid (grown G1 E2);have Br:Zj G1 G2:=by rw[Fw];exact Yo (.refl G1) AN
 have o2':Ym G1.n G2 w2 (ds Zc B):=by rw[Fw];exact o2.same (Yz AN)
 have xe:G1.n<=E2.n:=AN.n;have jZ:=WT.trans Br;have ng:=jZ.n;have ng1:=WT.n;have Ea:=sJ.m Br;have A8:=o2'.mono ng1 (.refl _);obtain⟨x,hx⟩:=hid (sg s A);obtain⟨y,hy⟩:=hid (sg t B);rw[<-hx]at c1;rw[<-hy]at c2;have r1:G2.blk H.n= .rw 1 [.bool s,u]:=by rw[jZ.blk _ (by omega)];exact q1
 have r2:G2.blk (H.n+1)= .rw 1 [.bool t,v]:=by rw[jZ.blk _ (by omega)];exact q2
 have r3:G2.blk (H.n+2)= .rw 1 [.bool false,.slice none 0 0]:=by rw[jZ.blk _ (by omega)];exact q3
 obtain⟨i1,i2⟩:=Ea.cells1;obtain⟨i3,i4⟩:=A8.cells1;obtain⟨S1,Sx,Q6,V2,PA,SN,U2,Rn⟩:=UY (v:= .agg #[.bool x,w1]) (ws:=[.bool x,w1]) Mr r1 (by omega) rfl (by simp[Value.cells]) rfl (by simp[i2,show one (Value.bool x)=true from rfl]);obtain⟨F1,Qe⟩:=hid (low G2 S1);rw[<-Qe]at PA SN U2 Rn;have r2':F1.blk (H.n+1)= .rw 1 [.bool t,v]:=by rw[U2 _ (by omega)];exact r2
 obtain⟨S2,Tq,bj,TO,NQ,SX,Rp,Qd⟩:=UY (v:= .agg #[.bool y,w2]) (ws:=[.bool y,w2]) Mr r2' (by omega) rfl (by simp[Value.cells]) rfl (by simp[i4,show one (Value.bool y)=true from rfl]);obtain⟨F,hF⟩:=hid (low F1 S2);rw[<-hF]at NQ SX Rp Qd;have f1:F.blk H.n= .rw 1 [.bool x,w1]:=by rw[Rp _ (by omega)];exact SN
 have f3:F.blk (H.n+2)= .rw 1 [.bool false,.slice none 0 0]:=by rw[Rp _ (by omega),U2 _ (by omega)];exact r3
 have kF:Zj H F:=Qd H (Rn H (k2.trans jZ) (by omega)) (by omega);have p1:Ym H2.n F w1 (ds Zc A):=(Ea.off (b:=H.n) (by omega) PA U2).off (b:=H.n+1) (by omega) NQ Rp;have p2:Ym H2.n F w2 (ds Zc B):=(A8.off (b:=H.n) (by omega) PA U2).off (b:=H.n+1) (by omega) NQ Rp;have nF:F.n=G2.n:=by rw[NQ,PA]
 have l2: ∀bits ms,(∀x∈ms,H2.n<=x.2.1)->Z9 Tryz.prog (PM G1 bits ms) 32 (.pointer (some ⟨H.n+1,0,none⟩))=some (.agg #[.bool t,v]):=fun bits ms h=>TJ (by rw[(Wb WT h).blk _ (by omega)];exact q2);refine Yd 57 Tryz.func144 ?_;apply Za;intro b1 Zf;simp[Value.cells,Rg,XV,e2];subst Zf;apply Zi;intro b1 Zf;apply Y8 (by kernel_rfl);simp;refine Z7 (v:= .agg #[.bool s,u]) rfl rfl rfl (by rw[Z1 rfl];simp[TJ (H:=H2.top) q1]) ?_;simp;refine YJ (v:= .agg #[.bool x,w1]) (H2:=E1) rfl rfl rfl (by rw[Z1 rfl];simp[c1]) Mk (YD U4) ?_;rw[<-Td];generalize PO:cond (Nat.blt H2.n E1.n) _ _=ms;have X7:=Uh PO;simp;refine Z7 (v:= .agg #[.bool t,v]) rfl rfl rfl (by simp[l2 _ ms fun x hx=>(X7 x hx).2]) ?_;simp;refine YJ (v:= .agg #[.bool y,w2]) (H2:=E2) rfl rfl rfl ?_ xe (YD AN) ?_;·rw[Z1 (Yr fun x hx=>by rw[(X7 x hx).1];kernel_rfl)];simp[c2]
 rw[<-Fw];generalize vO:cond (Nat.blt G1.n E2.n) _ _=fi;have pQ: ∀bits:Nat,bits.testBit 1=true->bits.testBit 3=true-> ∀x∈fi,bits.testBit x.1=true:=fun bits b1 b3 x hx=>by rw[<-vO]at hx;cases hb:Nat.blt G1.n E2.n with
  |false=>rw[hb,cond_false]at hx;rw[(X7 x hx).1];exact b1
  |true=>
   rw[hb,cond_true]at hx;rcases List.mem_cons.mp hx with e|e;·rw[e];exact b3
   ·rw[(X7 x e).1];exact b1
 simp;refine YO (v:= .tuple #[]) (H2:=S1) rfl rfl (by kernel_rfl) (Yr (pQ _ (by kernel_rfl) (by kernel_rfl))) ?_ (by omega) V2 ?_;·show ZF _ _ _ _ G2.top _=_;simp[Sx]
 rw[show({ n:=S1.n,lw:=min G2.lw S1.lw,t:=S1.t } :AH)=F1 from Qe.symm];rw[show Nat.blt G2.n S1.n=false from by rw[Q6];exact Xu _,cond_false];simp;refine YO (v:= .tuple #[]) (H2:=S2) rfl rfl (by kernel_rfl) (Yr (pQ _ (by kernel_rfl) (by kernel_rfl))) ?_ (by omega) TO ?_;·show ZF _ _ _ _ F1.top _=_;simp[Tq]
 rw[show({ n:=S2.n,lw:=min F1.lw S2.lw,t:=S2.t } :AH)=F from hF.symm];simp;subst Zf;clear PO X7 vO pQ;have RF:Qq s A t B=if x=y then(x,A+B)else if A<B then(y,B-A)else(x,A-B):=by rw[hx,hy];rfl
 obtain⟨Z,hZ⟩:=hid (Qq s A t B);rw[<-hZ]at RF⊢;clear c1 c2 o1 o2 Sx Tq;have geq:Yq Tryz.prog .eql 4 (.bool x) (.bool y)=some (.bool (decide (x=y))):=by cases x<;>cases y<;>rfl
 have hbA:Zq A<=67108864:=Nat.le_trans (Ye (by omega)) h;have hbB:Zq B<=67108864:=Nat.le_trans (Ye (by omega)) h;apply Zi;intro b1 Zf;apply Za;intro b2 ZT;simp[V5,TS f1,TS SX,-Yq,geq];subst ZT;by_cases Bn:x=y
 ·rw[if_pos Bn]at RF;subst RF;obtain⟨w,H3,c3,k3,o3⟩:=MM p1.sl p2.sl lA lB h;obtain⟨z,H4,c4,k4,o4⟩:=R9 x o3.sl (Yx Z2 _) (Nat.le_trans (Zx h) (by decide)) (by rw[YL Z2];exact h);rw[YL Z2]at c4 o4;have g1:H3.blk H.n= .rw 1 [.bool x,w1]:=by rw[k3.blk _ (by omega)];exact f1
  have g3:H4.blk (H.n+2)= .rw 1 [.bool false,.slice none 0 0]:=by rw[(k3.trans k4).blk _ (by omega)];exact f3
  obtain⟨j1,j2⟩:=o4.cells1;obtain⟨S,hS⟩:=hid (sg x (A+B));rw[<-hS]at c4⊢;obtain⟨H5,Ui,n5,q5,b5,UK⟩:=JR (p:= .bool S) (q:=z) g3 rfl j1 rfl j2;have n3:=k3.n;have AO:Zj H H5:=UK H ((kF.trans k3).trans k4) (by omega);have o5:=(o4.off (b:=H.n+2) (by omega) n5 b5).mono (show H.n<=H3.n by omega) (.refl _);have Y1:=TJ q5;refine Zb (t:=true) (by simp[Bn]) ?_;apply Za;intro b1 Zf;simp[Tb,V0 f1,V0 SX,c3];subst Zf;apply Za;intro b2 ZT;simp[V5,TS g1,c4,Ui];subst ZT;apply ZZ;simp[YQ,Y1];exact⟨AO,o5⟩
 ·rw[if_neg Bn]at RF;refine Zb (t:=false) (by simp[Bn]) ?_;apply Zr;subst Zf;obtain⟨vc,Hc,cc,ec,mi⟩:=UR p1.sl p2.sl (Yx Z2 A) (Yx Z2 B) (Nat.le_trans lA (by decide)) (Nat.le_trans lB (by decide));rw[YL Z2,YL Z2]at mi;rw[ec,mi]at cc;have gc:Zd .lss .i64 (Wn A B) 0=some (.bool (decide (A<B))):=by rw[jK,decide_eq_decide.mpr Hm]
  refine Xd (fun s'=>s'.k=57/\ ∃(x':Bool) (A' B':Nat) (w w':Value) (y':Value),Z=(x',A'-B')/\B'<=A'/\A'<=A+B/\F.n=s'.H.n/\Zj H s'.H/\s'.H.blk H.n= .rw 1 [.bool x',w]/\s'.H.blk (H.n+1)= .rw 1 [y',w']/\s'.H.blk (H.n+2)= .rw 1 [.bool false,.slice none 0 0]/\Ym H2.n s'.H w (ds Zc A')/\Ym H2.n s'.H w' (ds Zc B')/\s'.tm.get 2=some (.pointer (some ⟨H.n,0,none⟩))/\s'.tm.get 3=some (.pointer (some ⟨H.n+1,0,none⟩))/\s'.tm.get 4=some (.pointer (some ⟨H.n+2,0,none⟩))) ?_ ?_
  ·intro Q' YA;apply Za;intro b2 ZT;simp[Tb,V0 f1,V0 SX,cc,gc];subst ZT;by_cases yS:A<B
   ·rw[if_pos yS]at RF;obtain⟨H3,Sc,n3,g1,b3,Ll⟩:=JR (p:= .bool y) (q:=w2) f1 rfl i3 rfl i4;have g2:H3.blk (H.n+1)= .rw 1 [.bool y,w2]:=by rw[b3 _ (by omega)];exact SX
    obtain⟨H4,WQ,n4,g4,b4,Ua⟩:=JR (p:= .bool x) (q:=w1) g2 rfl i1 rfl i2;refine Zb (t:=true) (by simp[yS]) ?_;apply Zl;simp[TJ f1,TJ SX,Sc,WQ];apply YA;refine⟨rfl,y,B,A,w2,w1,_,RF,by omega,by omega,by show F.n=H4.n;omega,Ua H (Ll H kF (by omega)) (by omega),?_,g4,?_,?_,?_,by simp,by simp,by simp⟩;·show H4.blk H.n=_;rw[b4 _ (by omega)];exact g1
    ·show H4.blk (H.n+2)=_;rw[b4 _ (by omega),b3 _ (by omega)];exact f3
    ·exact(p2.off (b:=H.n) (by omega) n3 b3).off (b:=H.n+1) (by omega) n4 b4
    ·exact(p1.off (b:=H.n) (by omega) n3 b3).off (b:=H.n+1) (by omega) n4 b4
   ·rw[if_neg yS]at RF;refine Zb (t:=false) (by simp[yS]) ?_;apply Zr;apply YA;exact⟨rfl,x,A,B,w1,w2,_,RF,by omega,by omega,rfl,kF,f1,SX,f3,p1,p2,by simp,by simp,by simp⟩
  clear p1 p2 f1 SX f3 cc gc RF;rintro⟨kk,tm,F'⟩ ⟨HQ,x',A',B',w,w',y',hZ',hle,hlA,hnF,kF',f1,f2,f3,p1,p2,t2,t3,t4⟩;simp only at HQ hnF kF' f1 f2 f3 p1 p2 t2 t3 t4;subst HQ;subst hZ';have ja:Zq A'<=67108864:=Nat.le_trans (Ye hlA) h;have hbB':Zq B'<=67108864:=Nat.le_trans (Ye hle) ja;have yH:Zq (A'-B')<=67108864:=Nat.le_trans (Ye (Nat.sub_le _ _)) ja;obtain⟨w5,H3,c3,k3,o3⟩:=ML p1.sl p2.sl (Zx ja) (Zx hbB') hle ja;obtain⟨z,H4,c4,k4,o4⟩:=R9 x' o3.sl (Yx Z2 _) (Nat.le_trans (Zx yH) (by decide)) (by rw[YL Z2];exact yH);rw[YL Z2]at c4 o4;have g1:H3.blk H.n= .rw 1 [.bool x',w]:=by rw[k3.blk _ (by omega)];exact f1
  have g3:H4.blk (H.n+2)= .rw 1 [.bool false,.slice none 0 0]:=by rw[(k3.trans k4).blk _ (by omega)];exact f3
  obtain⟨j1,j2⟩:=o4.cells1;obtain⟨S,hS⟩:=hid (sg x' (A'-B'));rw[<-hS]at c4;obtain⟨H5,Ui,n5,q5,b5,UK⟩:=JR (p:= .bool S) (q:=z) g3 rfl j1 rfl j2;have n3:=k3.n;have AO:Zj H H5:=UK H ((kF'.trans k3).trans k4) (by omega);have o5:=(o4.off (b:=H.n+2) (by omega) n5 b5).mono (show H.n<=H3.n by omega) (.refl _);have Y1:=TJ q5;apply Za;intro b1 Zf;simp[t2,t3,Tb,V0 f1,V0 f2,c3];subst Zf;apply Za;intro b1 Zf;simp[t2,t4,V5,TS g1,c4,Ui];subst Zf;apply ZZ;simp[t4,Y1,hS];exact⟨AO,o5⟩
end
theorem bZ:XY Tryz.prog 34=some true:=by kernel_rfl
theorem WB:Xh Tryz.prog 34=some 3:=by kernel_rfl
theorem XC:W0 Tryz.prog 34=some (.agg #[.bool false,.slice none 0 0,.slice none 0 0]):=by kernel_rfl
theorem Sq(b:Nat):Ys Tryz.prog 34 (.pointer (some ⟨b,0,none⟩)) 0=some (.pointer (some ⟨b,0,none⟩)):=r7 b 0
theorem QU(b:Nat):Ys Tryz.prog 34 (.pointer (some ⟨b,0,none⟩)) 1=some (.pointer (some ⟨b,2,none⟩)):=r6 b 0
theorem YR{H:AH}{b:Nat}{p q r:Value}(hb:H.blk b= .rw 1 [p,q,r]):Z9 Tryz.prog H 34 (.pointer (some ⟨b,0,none⟩))=some (.agg #[p,q,r]):=by unfold Z9;simp only[bZ,WB,AH.read_def,hb];simp[AH.cells_rw' hb,show Nat.ble 3 3=true from rfl]
theorem D5{H:AH}{b:Nat}{p q r:Value}(hb:H.blk b= .rw 1 [p,q,r]):Z9 Tryz.prog H 32 (.pointer (some ⟨b,0,none⟩))=some (.agg #[p,q]):=by unfold Z9;simp only[bW,Mr,AH.read_def,hb];simp[AH.cells_rw' hb,show Nat.ble 2 3=true from rfl]
theorem QG{H:AH}{b:Nat}{p q r:Value}(hb:H.blk b= .rw 1 [p,q,r]):Z9 Tryz.prog H 4 (.pointer (some ⟨b,0,none⟩))=some p:=Yj JI (AH.cells_rw' hb (by decide)) rfl
theorem Vp{H:AH}{b:Nat}{p q r:Value}(hb:H.blk b= .rw 1 [p,q,r]):Z9 Tryz.prog H 30 (.pointer (some ⟨b,1,none⟩))=some q:=Yj Ju (AH.cells_rw' hb (by decide)) rfl
theorem Vq{H:AH}{b:Nat}{p q r:Value}(hb:H.blk b= .rw 1 [p,q,r]):Z9 Tryz.prog H 30 (.pointer (some ⟨b,2,none⟩))=some r:=Yj Ju (AH.cells_rw' hb (by decide)) rfl
theorem cI{A B:Nat}(hA:0<A):Nat.gcd A B<=A:=Nat.le_of_dvd hA (Nat.gcd_dvd_left A B)
section
variable {H : AH} {u v va vb : Value} {xs ys : List Nat} {A B : Nat}
theorem X8(u:Value)(H:AH):ZU Tryz.prog ZY 140 [u,.int .i64 0] H=some (u,H):=by
 suffices h:CW Tryz.prog ZY 140 [u,.int .i64 0] H fun v H'=>v=u/\H'=H by obtain⟨v,H',hc,rfl,rfl⟩:=h;exact hc
 refine Yd 11 Tryz.func140 ?_;apply Za;intro b1 Zf;simp;subst Zf;apply Zi;intro b1 Zf;apply Za;intro b2 ZT;simp[TH];subst ZT;refine Zb (t:=false) (by simp) ?_;apply Zr;subst Zf;apply Za;intro b1 Zf;simp;subst Zf;apply ZZ;simp
theorem Ec(neg:Bool)(ha:Sl H u xs)(hb:Sl H v ys)(dx:YH Zc xs)(dy:YH Zc ys)(lx:xs.length<=17592186044416)(ly:ys.length<=17592186044416)(eA:dv Zc xs=A)(eB:dv Zc ys=B)(hA:Zq A<=67108864)(hB:Zq B<=67108864)(NP:0<B): ∃p q H',ZU Tryz.prog ZY 124 [.agg #[.bool neg,u,v]] H=some (.tuple #[.bool (Z8 neg A B).1,p,q],H')/\Zj H H'/\Ym H.n H' p (ds Zc (Z8 neg A B).2.1)/\Ym H.n H' q (ds Zc (Z8 neg A B).2.2)/\Vg p q:=by
 obtain⟨r,hr⟩:=hid (Z8 neg A B);rw[<-hr];unfold Z8 at hr;suffices hs:CW Tryz.prog ZY 124 [.agg #[.bool neg,u,v]] H fun v H'=> ∃p q,v= .tuple #[.bool r.1,p,q]/\Zj H H'/\Ym H.n H' p (ds Zc r.2.1)/\Ym H.n H' q (ds Zc r.2.2)/\Vg p q by obtain⟨v,H',hc,p,q,rfl,k,o⟩:=hs;exact⟨p,q,H',hc,k,o⟩
 have lA:=Zx hA;have lB:=Zx hB;obtain⟨H2,e2,k2,n2,q1⟩:=Wc H [.bool neg,u,v];obtain⟨w1,E1,c1,U4,o1⟩:=Vk ((ha.keep k2).top) dx lx;rw[eA]at o1;obtain⟨G1,Td⟩:=hid (grown H2 E1);have WT:Zj H2 G1:=by rw[Td];exact Yo (.refl H2) U4
 have sJ:Ym H2.n G1 w1 (ds Zc A):=by rw[Td];exact o1.same (Yz U4)
 have Mk:H2.n<=E1.n:=U4.n;obtain⟨w2,E2,c2,AN,o2⟩:=Vk ((hb.keep (k2.trans WT)).top) dy ly;rw[eB]at o2;obtain⟨G2,Fw⟩:=hid (grown G1 E2);have Br:Zj G1 G2:=by rw[Fw];exact Yo (.refl G1) AN
 have o2':Ym G1.n G2 w2 (ds Zc B):=by rw[Fw];exact o2.same (Yz AN)
 have xe:G1.n<=E2.n:=AN.n;have jZ:=WT.trans Br;have ng:=jZ.n;have ng1:=WT.n;have Ea:=sJ.m Br;have A8:=o2'.mono ng1 (.refl _);have l2: ∀bits ms,(∀x∈ms,H2.n<=x.2.1)->Z9 Tryz.prog (PM G1 bits ms) 30 (.pointer (some ⟨H.n,2,none⟩))=some v:=fun bits ms h=>Vq (by rw[(Wb WT h).blk _ (by omega)];exact q1);have Eh:G2.blk H.n= .rw 1 [.bool neg,u,v]:=by rw[jZ.blk _ (by omega)];exact q1
 have kF:=k2.trans jZ;refine Yd 42 Tryz.func124 ?_;apply Za;intro b1 Zf;simp[Value.cells,XV,e2];subst Zf;apply Zi;intro b1 Zf;apply Y8 (by kernel_rfl);simp[Sq,Tb];refine Z7 (v:=u) rfl rfl rfl (by rw[Z1 rfl];simp[Vp (H:=H2.top) q1]) ?_;simp;refine YJ (v:=w1) (H2:=E1) rfl rfl rfl (by rw[Z1 rfl];simp[c1]) Mk (YD U4) ?_;rw[<-Td];generalize PO:cond (Nat.blt H2.n E1.n) _ _=ms;have X7:=Uh PO;simp[QU];refine Z7 (v:=v) rfl rfl rfl (by simp[l2 _ ms fun x hx=>(X7 x hx).2]) ?_;simp;refine YJ (v:=w2) (H2:=E2) rfl rfl rfl ?_ xe (YD AN) ?_;·rw[Z1 (Yr fun x hx=>by rw[(X7 x hx).1];kernel_rfl)];simp[c2]
 rw[<-Fw];simp;subst Zf;clear PO X7;have l1:=Ea.sl.len Zu;have l2':=A8.sl.len Zu;obtain⟨m1,jm⟩:=hid ((ds Zc A).length);obtain⟨m2,AX⟩:=hid ((ds Zc B).length);rw[<-jm]at l1;rw[<-AX]at l2';have z1:m1=0↔A=0:=by rw[jm];exact Wg Z2
 have z2:m2=0↔B=0:=by rw[AX];exact Wg Z2
 have g1:=We (k:= .i64) (x:=m1);have g2:Zd .eql .i64 (m2:Int) 0=some (.bool false):=by rw[We,decide_eq_false (by omega)]
 apply Zi;intro b1 Zf;apply Za;intro b2 ZT;simp[l2',g2];subst ZT;refine Zb (t:=false) (by simp) ?_;apply Zr;subst Zf;apply Zi;intro b1 Zf;apply Za;intro b2 ZT;simp[l1,g1];subst ZT;by_cases h0:m1=0;·rw[if_pos (z1.mp h0)]at hr;subst hr;obtain⟨w3,H3,c3,k3,o3⟩:=Tc (H:=G2) (x:=1) (by decide);have c3:ZU Tryz.prog ZY 164 [.int .u64 1] G2=some (w3,H3):=c3;refine Zb (t:=true) (by simp[h0]) ?_;apply Za;intro b2 ZT;simp[c3];subst ZT;apply ZZ;simp[YQ];exact⟨_,_,⟨rfl,rfl⟩,kF.trans k3,by rw[Xl];exact .nil,o3.mono kF.n (.refl _),fun b hb=>by cases hb⟩
 ·have EA:0<A:=by have: ¬A=0:=fun h=>h0 (z1.mpr h);omega
  rw[if_neg (by omega)]at hr;subst hr;refine Zb (t:=false) (by simp[h0]) ?_;apply Zr;subst Zf;obtain⟨w3,H3,c3,k3,o3⟩:=QR Ea.sl A8.sl lA lB;have vr:0<Nat.gcd A B:=iK EA;have hgA:=cI (B:=B) EA;have lg:=Zx (Nat.le_trans (Ye hgA) hA);apply Za;intro b1 Zf;simp[c3];subst Zf;obtain⟨w4,E4,c4,zq,o4⟩:=VO ((Ea.sl.keep k3).top) (o3.sl.top) lA lg vr hA;obtain⟨G4,HT⟩:=hid (grown H3 E4);have m6:Zj H3 G4:=by rw[HT];exact Yo (.refl H3) zq
  have o4':Ym H3.n G4 w4 (ds Zc (A/Nat.gcd A B)):=by rw[HT];exact o4.same (Yz zq)
  have nE4:H3.n<=E4.n:=zq.n;obtain⟨w5,E5,c5,sO,o5⟩:=VO (((A8.sl.keep k3).keep m6).top) ((o3.sl.keep m6).top) lB lg vr hB;obtain⟨G5,uu⟩:=hid (grown G4 E5);have kG5:Zj G4 G5:=by rw[uu];exact Yo (.refl G4) sO
  have zS:Ym G4.n G5 w5 (ds Zc (B/Nat.gcd A B)):=by rw[uu];exact o5.same (Yz sO)
  have nE5:G4.n<=E5.n:=sO.n;have r1:H3.blk H.n= .rw 1 [.bool neg,u,v]:=by rw[k3.blk _ (by omega)];exact Eh
  have sP:=m6.trans kG5;apply Zi;intro b1 Zf;apply Y8 (by kernel_rfl);simp[Sq,V5];refine Z7 (v:= .bool neg) rfl rfl rfl (by rw[Z1 rfl];simp[QG (H:=H3.top) r1]) ?_;simp;refine YJ (v:= .tuple #[w4,.int .i64 0]) (H2:=E4) rfl rfl rfl (by rw[Z1 rfl];simp[c4]) nE4 (YD zq) ?_;rw[<-HT];generalize PO:cond (Nat.blt H3.n E4.n) _ _=ms;have X7:=Uh PO;simp;refine Z7 (v:=w4) rfl rfl rfl (by simp[X8]) ?_;simp;refine YJ (v:= .tuple #[w5,.int .i64 0]) (H2:=E5) rfl rfl rfl ?_ nE5 (YD sO) ?_;·rw[Z1 (Yr fun x hx=>by rw[(X7 x hx).1];kernel_rfl)];simp[c5]
  rw[<-uu];simp;refine Z7 (v:=w5) rfl rfl rfl (by simp[X8]) ?_;simp;subst Zf;apply ZZ;simp;exact⟨_,_,⟨rfl,rfl⟩,(kF.trans k3).trans sP,(o4'.mono (by have:=k3.n;omega) kG5),zS.mono (by have:=k3.n;have:=m6.n;omega) (.refl _),fun b hb e=>by have h1:=(o4'.blk_lo hb).2;have h2:=(zS.blk_lo e).1;omega⟩
end
theorem Qt{x:Bool}{p q:Value}(hp: ∃a l c,p= .slice a l c)(hq: ∃a l c,q= .slice a l c):Wt Tryz.prog 34 [(0,.agg #[.bool x,p]),(1,q)]=some (.agg #[.bool x,p,q]):=by obtain⟨a,l,c,rfl⟩:=hp;obtain⟨a',l',c',rfl⟩:=hq;rfl
theorem Sv{H:AH}{b:Nat}{p' q' r' p q r:Value}(hb:H.blk b= .rw 1 [p',q',r'])(h0:p.cells=#[p])(h1:q.cells=#[q])(h1':r.cells=#[r])(h2:one p=true)(h3:one q=true)(Ar:one r=true): ∃H',YV Tryz.prog H 34 (.pointer (some ⟨b,0,none⟩)) (.agg #[p,q,r])=some H'/\H'.n=H.n/\H'.blk b= .rw 1 [p,q,r]/\(∀j,j≠b->H'.blk j=H.blk j)/\Vz b H H':=TQ WB hb rfl (by simp[Value.cells]) rfl (by simp[h2,h3,Ar])
theorem Ym.trio{n:Nat}{H:AH}{v:Value}{xs:List Nat}(h:Ym n H v xs):v.cells=#[v]/\one v=true/\ ∃a l c,v= .slice a l c:=⟨h.cells1.1,h.cells1.2,h.shape⟩
theorem NY:Xh Tryz.prog 23=some 1:=by kernel_rfl
theorem NK:XY Tryz.prog 23=some false:=by kernel_rfl
theorem Jh:W0 Tryz.prog 23=some (.int .i64 0):=by kernel_rfl
theorem nZ:Yq Tryz.prog .eql 20 .nilIface .nilIface=some (.bool true):=by kernel_rfl
section
variable {H : AH} {u v va vb : Value} {xs ys : List Nat} {A B : Nat}
theorem Q3(neg:Bool)(ha:Sl H u xs)(hb:Sl H v ys)(dx:YH Zc xs)(dy:YH Zc ys)(lx:xs.length<=17592186044416)(ly:ys.length<=17592186044416)(eA:dv Zc xs=A)(eB:dv Zc ys=B)(hA:Zq A<=67108864)(hB:Zq B<=67108864)(NP:0<B): ∃p q H',ZU Tryz.prog ZY 84 [.agg #[.bool neg,u,v]] H=some (.agg #[.bool (Z8 neg A B).1,p,q],H')/\Zj H H'/\Ym H.n H' p (ds Zc (Z8 neg A B).2.1)/\Ym H.n H' q (ds Zc (Z8 neg A B).2.2)/\Vg p q:=by
 obtain⟨r,hr⟩:=hid (Z8 neg A B);suffices hs:CW Tryz.prog ZY 84 [.agg #[.bool neg,u,v]] H fun v H'=> ∃p q,v= .agg #[.bool r.1,p,q]/\Zj H H'/\Ym H.n H' p (ds Zc r.2.1)/\Ym H.n H' q (ds Zc r.2.2)/\Vg p q by obtain⟨v,H',hc,p,q,rfl,k,o⟩:=hs;rw[<-hr];exact⟨p,q,H',hc,k,o⟩
 obtain⟨H2,e2,k2,n2,q1,q2⟩:=Xb H [.bool neg,u,v] [.bool false,.slice none 0 0,.slice none 0 0];obtain⟨p,q,H3,c3,k3,o3,o4,ap⟩:=Ec neg (ha.keep k2) (hb.keep k2) dx dy lx ly eA eB hA hB NP;rw[<-hr]at c3 o3 o4;have Qo:=k3.blk _ (show H.n+1<H2.n by omega);rw[q2]at Qo;obtain⟨i1,i2,i3⟩:=o3.trio;obtain⟨j1,j2,j3⟩:=o4.trio;obtain⟨S,N,D⟩:=r;simp only at c3 o3 o4⊢;obtain⟨H4,WQ,n4,q4,b4,Ua⟩:=Sv (p:= .bool S) (q:=p) (r:=q) Qo rfl i1 j1 rfl i2 j2;have P3:Zj H H4:=Ua H (k2.trans k3) (by omega);have o5:=(o3.off (b:=H.n+1) (by omega) n4 b4).mono (show H.n<=H2.n by omega) (.refl _);have o6:=(o4.off (b:=H.n+1) (by omega) n4 b4).mono (show H.n<=H2.n by omega) (.refl _);have Y1:=YR q4;refine Yd 17 Tryz.func84 ?_;apply Za;intro b1 Zf;simp[Value.cells,XC,XV,e2];subst Zf;apply Za;intro b1 Zf;simp[YR q1,c3];subst Zf;apply Za;intro b1 Zf;simp[Qu (b:=S) i3,Qt (x:=S) i3 j3,WQ];subst Zf;apply ZZ;simp[Y1];exact⟨_,_,⟨rfl,rfl⟩,P3,o5,o6,ap⟩
theorem Eu(neg:Bool)(ha:Sl H u xs)(hb:Sl H v ys)(dx:YH Zc xs)(dy:YH Zc ys)(lx:xs.length<=17592186044416)(ly:ys.length<=17592186044416)(eA:dv Zc xs=A)(eB:dv Zc ys=B)(hA:Zq A<=67108864)(hB:Zq B<=67108864)(NP:0<B): ∃p q H',ZU Tryz.prog ZY 84 [.agg #[.bool neg,u,v]] H=some (.agg #[.bool (Z8 neg A B).1,p,q],H')/\Zj H H'/\Ym H.n H' p (ds Zc (Z8 neg A B).2.1)/\Ym H.n H' q (ds Zc (Z8 neg A B).2.2):=by obtain⟨p,q,H',h1,h2,h3,h4,_⟩:=Q3 neg ha hb dx dy lx ly eA eB hA hB NP;exact⟨p,q,H',h1,h2,h3,h4⟩
theorem OT(neg:Bool)(ha:Sl H u (ds Zc A))(hb:Sl H v (ds Zc B))(hA:Zq A<=67108864)(hB:Zq B<=67108864)(NP:0<B): ∃p q H',ZU Tryz.prog ZY 84 [.agg #[.bool neg,u,v]] H=some (.agg #[.bool (Z8 neg A B).1,p,q],H')/\Zj H H'/\Ym H.n H' p (ds Zc (Z8 neg A B).2.1)/\Ym H.n H' q (ds Zc (Z8 neg A B).2.2):=Eu neg ha hb (Yx Z2 A) (Yx Z2 B) (Nat.le_trans (Zx hA) (by decide)) (Nat.le_trans (Zx hB) (by decide)) (YL Z2 A) (YL Z2 B) hA hB NP
def U7(p q r:Value):Prop:=(∃b,p= .bool b)/\(∃a l c,q= .slice a l c)/\ ∃a l c,r= .slice a l c
theorem Wx{p q r:Value}(ht:U7 p q r)(e:Int)(H:AH): ∃H',ZU Tryz.prog ZY 83 [.nilIface,.agg #[p,q,r],.int .i64 e] H=some (.tuple #[.agg #[p,q,r],.int .i64 e],H')/\Zj H H':=by
 obtain⟨⟨b,rfl⟩,⟨a1,l1,c1,rfl⟩,⟨a2,l2,c2,rfl⟩⟩:=ht;suffices h:CW Tryz.prog ZY 83 [.nilIface,.agg #[.bool b,.slice a1 l1 c1,.slice a2 l2 c2],.int .i64 e] H fun v H'=>v= .tuple #[.agg #[.bool b,.slice a1 l1 c1,.slice a2 l2 c2],.int .i64 e]/\Zj H H' by obtain⟨v,H',hc,rfl,k⟩:=h;exact⟨H',hc,k⟩
 obtain⟨H2,e2,k2,n2,q1,q2⟩:=Xb H [.bool b,.slice a1 l1 c1,.slice a2 l2 c2] [.bool false,.slice none 0 0,.slice none 0 0];obtain⟨H4,WQ,n4,q4,b4,Ua⟩:=Sv (p:= .bool b) (q:= .slice a1 l1 c1) (r:= .slice a2 l2 c2) q2 rfl rfl rfl rfl rfl rfl;have P3:Zj H H4:=Ua H k2 (by omega);have Y1:=YR q4;refine Yd 26 Tryz.func83 ?_;apply Za;intro b1 Zf;simp[Value.cells,XC,XV,e2];subst Zf;apply Zi;intro b1 Zf;apply Za;intro b2 ZT;simp[-Yq,nZ];subst ZT;refine Zb (t:=true) (by simp) ?_;apply Za;intro b2 ZT;simp[YR q1,WQ];subst ZT;apply ZZ;simp[YQ,Y1];exact P3
end
section
variable {H : AH} {u v va vb : Value} {xs ys : List Nat} {A B : Nat}
def TG(m:Nat)(H H':AH):Prop:=H.n<=H'.n/\(∀j,j<H.n->H'.blk j=H.blk j)/\Vz m H H'
theorem A6{b2 b3:Nat}{p q r:Value}{e:Int}{K:AH->Prop}(ht:U7 p q r)(hq:H.blk b2= .rw 1 [p,q,r])(he:H.blk b3= .rw 1 [.int .i64 e])(h2:b2<H.n)(h3:b3<H.n)(YX:b2<b3)(hK: ∀H',TG b2 H H'->K H'):ED Tryz.prog ZY 82 [.pointer (some ⟨b2,0,none⟩),.pointer (some ⟨b3,0,none⟩)] .nilIface H K:=by
 obtain⟨E1,c1,U4⟩:=Wx ht e H.top;obtain⟨G1,Td⟩:=hid (grown H E1);have WT:Zj H G1:=by rw[Td];exact Yo (.refl H) U4
 have Mk:H.n<=E1.n:=U4.n;have bf:=WT.n;have r2:G1.blk b2= .rw 1 [p,q,r]:=by rw[WT.blk _ h2];exact hq
 have r3:G1.blk b3= .rw 1 [.int .i64 e]:=by rw[WT.blk _ h3];exact he
 have XH:(Value.agg #[p,q,r]).cells.toList=[p,q,r]/\[p,q,r].all one=true:=by obtain⟨⟨b,rfl⟩,⟨a1,l1,c1,rfl⟩,⟨a2,l2,c2,rfl⟩⟩:=ht;exact⟨rfl,rfl⟩
 obtain⟨S1,Sx,Q6,V2,PA,SN,U2,Rn⟩:=UY (v:= .agg #[p,q,r]) (ws:=[p,q,r]) WB r2 (by omega) rfl XH.1 rfl XH.2;obtain⟨F1,Qe⟩:=hid (low G1 S1);rw[<-Qe]at PA SN U2 Rn;have KC:F1.blk b3= .rw 1 [.int .i64 e]:=by rw[U2 _ (by omega)];exact r3
 obtain⟨S2,Tq,bj,TO,NQ,SX,Rp,Qd⟩:=UY (v:= .int .i64 e) (ws:=[.int .i64 e]) NY KC (by omega) rfl rfl rfl rfl;obtain⟨F,hF⟩:=hid (low F1 S2);rw[<-hF]at NQ SX Rp Qd;have hS:TG b2 H F:=by
  refine⟨by omega,fun j hj=>?_,fun H0 k hn=>Qd H0 (Rn H0 (k.trans WT) hn) (by omega)⟩;by_cases j3:j=b3;·subst j3;rw[SX];exact he.symm
  ·rw[Rp _ j3];by_cases j2:j=b2;·subst j2;rw[SN];exact hq.symm
   ·rw[U2 _ j2];exact WT.blk _ hj
 have l1:=YR (H:=H.top) hq;have l2:Z9 Tryz.prog H.top 23 (.pointer (some ⟨b3,0,none⟩))=some (.int .i64 e):=Yj NK (AH.cells_rw' (H:=H.top) he (by decide)) rfl;refine Wk 9 Tryz.func82 rfl rfl ?_;apply Wl (by kernel_rfl);apply Y8 (by kernel_rfl);simp[Wr,isRec];refine Z7 (v:= .agg #[p,q,r]) rfl rfl rfl (by rw[Z1 rfl];simp[l1]) ?_;simp;refine Z7 (v:= .int .i64 e) rfl rfl rfl (by rw[Z1 rfl];simp[l2]) ?_;simp;refine YJ (v:= .tuple #[.agg #[p,q,r],.int .i64 e]) (H2:=E1) rfl rfl rfl (by rw[Z1 rfl];simp[c1]) Mk (YD U4) ?_;rw[<-Td];generalize PO:cond (Nat.blt H.n E1.n) _ _=ms;have X7:=Uh PO;simp;refine YO (v:= .tuple #[]) (H2:=S1) rfl rfl (by kernel_rfl) (Yr fun x hx=>by rw[(X7 x hx).1];kernel_rfl) ?_ (by omega) V2 ?_;·show ZF _ _ _ _ G1.top _=_;simp[Sx]
 rw[show({ n:=S1.n,lw:=min G1.lw S1.lw,t:=S1.t } :AH)=F1 from Qe.symm];rw[show Nat.blt G1.n S1.n=false from by rw[Q6];exact Xu _,cond_false];simp;refine YO (v:= .tuple #[]) (H2:=S2) rfl rfl (by kernel_rfl) (Yr fun x hx=>by rw[(X7 x hx).1];kernel_rfl) ?_ (by omega) TO ?_;·show ZF _ _ _ _ F1.top _=_;simp[Tq]
 rw[show({ n:=S2.n,lw:=min F1.lw S2.lw,t:=S2.t } :AH)=F from hF.symm];simp;exact hK F hS
end
theorem Wu(k:Nat){P:Program}{C:Cfg}{f:FuncId}{fn:Func}{c a:Code}{ops:Array Oper}{o1:Oper}{dc:Call}{rest:Code}{args:List Value}{H:AH}{R:Value->AH->Prop}(ha:Nat.beq f C.add=false)(hs:Nat.beq f C.sub=false)(hf:P.funcs[f]?=some fn)(hb:fn.body=some c)(hk:args.length+(fn.ntmps-args.length)=k)(hd:SQ c=some (a,ops,o1,dc,rest))(h: ∀b,b=rest->W P C a { k:=k,tm:=Yu 0 args .nil,H:=H } fun ex s=>ex= .norm/\Xj P C s.k (ZQ ops [o1]) s.tm s.H fun CX H2=> ∃g MX,ZL C CX dc=some (g,MX)/\W P C b ⟨s.k,CX,H2⟩ fun tE s3=> ∃rv,Vw tE=some rv/\ED P C g MX rv s3.H fun H4=> ∃vs,Zv P ⟨s3.k,s3.tm,H4⟩ fn.results.toList=some vs/\R (Z3 vs) H4):CW P C f args H R:=bk k ha hs hf hb hk hd (h rest rfl)
theorem KD{H:AH}{b:Nat}{x e:Int}(hb:H.blk b= .rw 1 [.int .i64 x]): ∃H',YV Tryz.prog H 23 (.pointer (some ⟨b,0,none⟩)) (.int .i64 e)=some H'/\H'.n=H.n/\H'.blk b= .rw 1 [.int .i64 e]/\(∀j,j≠b->H'.blk j=H.blk j)/\Vz b H H':=TQ NY hb rfl rfl rfl rfl
theorem Tw{H:AH}{b:Nat}{e:Int}(hb:H.blk b= .rw 1 [.int .i64 e]):Z9 Tryz.prog H 23 (.pointer (some ⟨b,0,none⟩))=some (.int .i64 e):=Yj NK (AH.cells_rw' hb (by decide)) rfl
theorem TG.own{m n:Nat}{H H':AH}(h:TG m H H'){v:Value}{xs:List Nat}(o:Ym n H v xs):Ym n H' v xs:=o.mod (b:=none) ⟨h.1,fun j hj _=>h.2.1 j hj⟩ (fun c hc=>by cases hc)
theorem TG.keep{m:Nat}{H0 H H':AH}(h:TG m H H')(k:Zj H0 H)(hn:H0.n<=m):Zj H0 H':=h.2.2 H0 k hn
section
variable {H : AH} {u v va vb : Value} {xs ys : List Nat} {A B : Nat}
theorem Lp(neg:Bool)(ha:Sl H u xs)(hb:Sl H v ys)(dx:YH Zc xs)(dy:YH Zc ys)(lx:xs.length<=17592186044416)(ly:ys.length<=17592186044416)(eA:dv Zc xs=A)(eB:dv Zc ys=B)(hA:Zq A<=67108864)(hB:Zq B<=67108864)(NP:0<B): ∃p q H',ZU Tryz.prog ZY 53 [.agg #[.bool neg,u,v]] H=some (.tuple #[.agg #[.bool (Z8 neg A B).1,p,q],.int .i64 0],H')/\Zj H H'/\Ym H.n H' p (ds Zc (Z8 neg A B).2.1)/\Ym H.n H' q (ds Zc (Z8 neg A B).2.2)/\Vg p q:=by
 obtain⟨r,hr⟩:=hid (Z8 neg A B);suffices hs:CW Tryz.prog ZY 53 [.agg #[.bool neg,u,v]] H fun v H'=> ∃p q,v= .tuple #[.agg #[.bool r.1,p,q],.int .i64 0]/\Zj H H'/\Ym H.n H' p (ds Zc r.2.1)/\Ym H.n H' q (ds Zc r.2.2)/\Vg p q by obtain⟨v,H',hc,p,q,rfl,k,o⟩:=hs;rw[<-hr];exact⟨p,q,H',hc,k,o⟩
 obtain⟨H2,e2,k2,n2,q1,q2,q3⟩:=S5 H [.bool neg,u,v] [.bool false,.slice none 0 0,.slice none 0 0] [.int .i64 0];obtain⟨p,q,H3,c3,k3,o3,o4,ap⟩:=Q3 neg (ha.keep k2) (hb.keep k2) dx dy lx ly eA eB hA hB NP;rw[<-hr]at c3 o3 o4;have n3:=k3.n;have Qo:=k3.blk _ (show H.n+1<H2.n by omega);rw[q2]at Qo;have Da:=k3.blk _ (show H.n+2<H2.n by omega);rw[q3]at Da;obtain⟨i1,i2,i3⟩:=o3.trio;obtain⟨j1,j2,j3⟩:=o4.trio;obtain⟨S,N,D⟩:=r;simp only at c3 o3 o4⊢;obtain⟨H4,WQ,n4,q4,b4,Ua⟩:=Sv (p:= .bool S) (q:=p) (r:=q) Qo rfl i1 j1 rfl i2 j2;have Cm:H4.blk (H.n+2)= .rw 1 [.int .i64 0]:=by rw[b4 _ (by omega)];exact Da
 obtain⟨H5,Ui,n5,q5,b5,UK⟩:=KD (e:=0) Cm;have rj:H5.blk (H.n+1)= .rw 1 [.bool S,p,q]:=by rw[b5 _ (by omega)];exact q4
 have AO:Zj H H5:=UK H (Ua H (k2.trans k3) (by omega)) (by omega);have o5:=((o3.off (b:=H.n+1) (by omega) n4 b4).off (b:=H.n+2) (by omega) n5 b5).mono (show H.n<=H2.n by omega) (.refl _);have o6:=((o4.off (b:=H.n+1) (by omega) n4 b4).off (b:=H.n+2) (by omega) n5 b5).mono (show H.n<=H2.n by omega) (.refl _);refine Wu 7 (by decide) (by decide) Tryz.func53 rfl rfl rfl ?_;intro b1 Zf;apply Zl;simp[Value.cells,XC,Jh,XV,e2];refine⟨_,_,⟨rfl,rfl⟩,?_⟩;subst Zf;apply Za;intro b1 Zf;simp[YR q1,c3,WQ,Ui];subst Zf;apply ZZ;simp[Vw];refine A6 ⟨⟨_,rfl⟩,i3,j3⟩ rj q5 (by omega) (by omega) (by omega) fun H6 hS=>?_;have r4:H6.blk (H.n+1)= .rw 1 [.bool S,p,q]:=by rw[hS.2.1 _ (by omega)];exact rj
 have r5:H6.blk (H.n+2)= .rw 1 [.int .i64 0]:=by rw[hS.2.1 _ (by omega)];exact q5
 simp[YR r4,Tw r5];exact⟨_,_,⟨rfl,rfl⟩,hS.keep AO (by omega),hS.own o5,hS.own o6,ap⟩
theorem TP(neg:Bool)(ha:Sl H u xs)(hb:Sl H v ys)(dx:YH Zc xs)(dy:YH Zc ys)(lx:xs.length<=17592186044416)(ly:ys.length<=17592186044416)(eA:dv Zc xs=A)(eB:dv Zc ys=B)(hA:Zq A<=67108864)(hB:Zq B<=67108864)(NP:0<B): ∃p q H',ZU Tryz.prog ZY 53 [.agg #[.bool neg,u,v]] H=some (.tuple #[.agg #[.bool (Z8 neg A B).1,p,q],.int .i64 0],H')/\Zj H H'/\Ym H.n H' p (ds Zc (Z8 neg A B).2.1)/\Ym H.n H' q (ds Zc (Z8 neg A B).2.2):=by obtain⟨p,q,H',h1,h2,h3,h4,_⟩:=Lp neg ha hb dx dy lx ly eA eB hA hB NP;exact⟨p,q,H',h1,h2,h3,h4⟩
end
section
variable {H : AH} {u v va vb : Value} {xs ys : List Nat} {A B : Nat}
theorem AA{b2 b3:Nat}{p q r:Value}{e:Int}{K:AH->Prop}(ht:U7 p q r)(hq:H.blk b2= .rw 1 [p,q,r])(he:H.blk b3= .rw 1 [.int .i64 e])(h2:b2<H.n)(h3:b3<H.n)(YX:b2<b3)(hK: ∀H',TG b2 H H'->K H'):ED Tryz.prog ZY 90 [.pointer (some ⟨b2,0,none⟩),.pointer (some ⟨b3,0,none⟩)] .nilIface H K:=by
 obtain⟨E1,c1,U4⟩:=Wx ht e H.top;obtain⟨G1,Td⟩:=hid (grown H E1);have WT:Zj H G1:=by rw[Td];exact Yo (.refl H) U4
 have Mk:H.n<=E1.n:=U4.n;have bf:=WT.n;have r2:G1.blk b2= .rw 1 [p,q,r]:=by rw[WT.blk _ h2];exact hq
 have r3:G1.blk b3= .rw 1 [.int .i64 e]:=by rw[WT.blk _ h3];exact he
 have XH:(Value.agg #[p,q,r]).cells.toList=[p,q,r]/\[p,q,r].all one=true:=by obtain⟨⟨b,rfl⟩,⟨a1,l1,c1,rfl⟩,⟨a2,l2,c2,rfl⟩⟩:=ht;exact⟨rfl,rfl⟩
 obtain⟨S1,Sx,Q6,V2,PA,SN,U2,Rn⟩:=UY (v:= .agg #[p,q,r]) (ws:=[p,q,r]) WB r2 (by omega) rfl XH.1 rfl XH.2;obtain⟨F1,Qe⟩:=hid (low G1 S1);rw[<-Qe]at PA SN U2 Rn;have KC:F1.blk b3= .rw 1 [.int .i64 e]:=by rw[U2 _ (by omega)];exact r3
 obtain⟨S2,Tq,bj,TO,NQ,SX,Rp,Qd⟩:=UY (v:= .int .i64 e) (ws:=[.int .i64 e]) NY KC (by omega) rfl rfl rfl rfl;obtain⟨F,hF⟩:=hid (low F1 S2);rw[<-hF]at NQ SX Rp Qd;have hS:TG b2 H F:=by
  refine⟨by omega,fun j hj=>?_,fun H0 k hn=>Qd H0 (Rn H0 (k.trans WT) hn) (by omega)⟩;by_cases j3:j=b3;·subst j3;rw[SX];exact he.symm
  ·rw[Rp _ j3];by_cases j2:j=b2;·subst j2;rw[SN];exact hq.symm
   ·rw[U2 _ j2];exact WT.blk _ hj
 have l1:=YR (H:=H.top) hq;have l2:Z9 Tryz.prog H.top 23 (.pointer (some ⟨b3,0,none⟩))=some (.int .i64 e):=Yj NK (AH.cells_rw' (H:=H.top) he (by decide)) rfl;refine Wk 9 Tryz.func90 rfl rfl ?_;apply Wl (by kernel_rfl);apply Y8 (by kernel_rfl);simp[Wr,isRec];refine Z7 (v:= .agg #[p,q,r]) rfl rfl rfl (by rw[Z1 rfl];simp[l1]) ?_;simp;refine Z7 (v:= .int .i64 e) rfl rfl rfl (by rw[Z1 rfl];simp[l2]) ?_;simp;refine YJ (v:= .tuple #[.agg #[p,q,r],.int .i64 e]) (H2:=E1) rfl rfl rfl (by rw[Z1 rfl];simp[c1]) Mk (YD U4) ?_;rw[<-Td];generalize PO:cond (Nat.blt H.n E1.n) _ _=ms;have X7:=Uh PO;simp;refine YO (v:= .tuple #[]) (H2:=S1) rfl rfl (by kernel_rfl) (Yr fun x hx=>by rw[(X7 x hx).1];kernel_rfl) ?_ (by omega) V2 ?_;·show ZF _ _ _ _ G1.top _=_;simp[Sx]
 rw[show({ n:=S1.n,lw:=min G1.lw S1.lw,t:=S1.t } :AH)=F1 from Qe.symm];rw[show Nat.blt G1.n S1.n=false from by rw[Q6];exact Xu _,cond_false];simp;refine YO (v:= .tuple #[]) (H2:=S2) rfl rfl (by kernel_rfl) (Yr fun x hx=>by rw[(X7 x hx).1];kernel_rfl) ?_ (by omega) TO ?_;·show ZF _ _ _ _ F1.top _=_;simp[Tq]
 rw[show({ n:=S2.n,lw:=min F1.lw S2.lw,t:=S2.t } :AH)=F from hF.symm];simp;exact hK F hS
theorem F7{b2 b3:Nat}{p q r:Value}{e:Int}{K:AH->Prop}(ht:U7 p q r)(hq:H.blk b2= .rw 1 [p,q,r])(he:H.blk b3= .rw 1 [.int .i64 e])(h2:b2<H.n)(h3:b3<H.n)(YX:b2<b3)(hK: ∀H',TG b2 H H'->K H'):ED Tryz.prog ZY 136 [.pointer (some ⟨b2,0,none⟩),.pointer (some ⟨b3,0,none⟩)] .nilIface H K:=by
 obtain⟨E1,c1,U4⟩:=Wx ht e H.top;obtain⟨G1,Td⟩:=hid (grown H E1);have WT:Zj H G1:=by rw[Td];exact Yo (.refl H) U4
 have Mk:H.n<=E1.n:=U4.n;have bf:=WT.n;have r2:G1.blk b2= .rw 1 [p,q,r]:=by rw[WT.blk _ h2];exact hq
 have r3:G1.blk b3= .rw 1 [.int .i64 e]:=by rw[WT.blk _ h3];exact he
 have XH:(Value.agg #[p,q,r]).cells.toList=[p,q,r]/\[p,q,r].all one=true:=by obtain⟨⟨b,rfl⟩,⟨a1,l1,c1,rfl⟩,⟨a2,l2,c2,rfl⟩⟩:=ht;exact⟨rfl,rfl⟩
 obtain⟨S1,Sx,Q6,V2,PA,SN,U2,Rn⟩:=UY (v:= .agg #[p,q,r]) (ws:=[p,q,r]) WB r2 (by omega) rfl XH.1 rfl XH.2;obtain⟨F1,Qe⟩:=hid (low G1 S1);rw[<-Qe]at PA SN U2 Rn;have KC:F1.blk b3= .rw 1 [.int .i64 e]:=by rw[U2 _ (by omega)];exact r3
 obtain⟨S2,Tq,bj,TO,NQ,SX,Rp,Qd⟩:=UY (v:= .int .i64 e) (ws:=[.int .i64 e]) NY KC (by omega) rfl rfl rfl rfl;obtain⟨F,hF⟩:=hid (low F1 S2);rw[<-hF]at NQ SX Rp Qd;have hS:TG b2 H F:=by
  refine⟨by omega,fun j hj=>?_,fun H0 k hn=>Qd H0 (Rn H0 (k.trans WT) hn) (by omega)⟩;by_cases j3:j=b3;·subst j3;rw[SX];exact he.symm
  ·rw[Rp _ j3];by_cases j2:j=b2;·subst j2;rw[SN];exact hq.symm
   ·rw[U2 _ j2];exact WT.blk _ hj
 have l1:=YR (H:=H.top) hq;have l2:Z9 Tryz.prog H.top 23 (.pointer (some ⟨b3,0,none⟩))=some (.int .i64 e):=Yj NK (AH.cells_rw' (H:=H.top) he (by decide)) rfl;refine Wk 9 Tryz.func136 rfl rfl ?_;apply Wl (by kernel_rfl);apply Y8 (by kernel_rfl);simp[Wr,isRec];refine Z7 (v:= .agg #[p,q,r]) rfl rfl rfl (by rw[Z1 rfl];simp[l1]) ?_;simp;refine Z7 (v:= .int .i64 e) rfl rfl rfl (by rw[Z1 rfl];simp[l2]) ?_;simp;refine YJ (v:= .tuple #[.agg #[p,q,r],.int .i64 e]) (H2:=E1) rfl rfl rfl (by rw[Z1 rfl];simp[c1]) Mk (YD U4) ?_;rw[<-Td];generalize PO:cond (Nat.blt H.n E1.n) _ _=ms;have X7:=Uh PO;simp;refine YO (v:= .tuple #[]) (H2:=S1) rfl rfl (by kernel_rfl) (Yr fun x hx=>by rw[(X7 x hx).1];kernel_rfl) ?_ (by omega) V2 ?_;·show ZF _ _ _ _ G1.top _=_;simp[Sx]
 rw[show({ n:=S1.n,lw:=min G1.lw S1.lw,t:=S1.t } :AH)=F1 from Qe.symm];rw[show Nat.blt G1.n S1.n=false from by rw[Q6];exact Xu _,cond_false];simp;refine YO (v:= .tuple #[]) (H2:=S2) rfl rfl (by kernel_rfl) (Yr fun x hx=>by rw[(X7 x hx).1];kernel_rfl) ?_ (by omega) TO ?_;·show ZF _ _ _ _ F1.top _=_;simp[Tq]
 rw[show({ n:=S2.n,lw:=min F1.lw S2.lw,t:=S2.t } :AH)=F from hF.symm];simp;exact hK F hS
theorem bV{b2 b3:Nat}{p q r:Value}{e:Int}{K:AH->Prop}(ht:U7 p q r)(hq:H.blk b2= .rw 1 [p,q,r])(he:H.blk b3= .rw 1 [.int .i64 e])(h2:b2<H.n)(h3:b3<H.n)(YX:b2<b3)(hK: ∀H',TG b2 H H'->K H'):ED Tryz.prog ZY 137 [.pointer (some ⟨b2,0,none⟩),.pointer (some ⟨b3,0,none⟩)] .nilIface H K:=by
 obtain⟨E1,c1,U4⟩:=Wx ht e H.top;obtain⟨G1,Td⟩:=hid (grown H E1);have WT:Zj H G1:=by rw[Td];exact Yo (.refl H) U4
 have Mk:H.n<=E1.n:=U4.n;have bf:=WT.n;have r2:G1.blk b2= .rw 1 [p,q,r]:=by rw[WT.blk _ h2];exact hq
 have r3:G1.blk b3= .rw 1 [.int .i64 e]:=by rw[WT.blk _ h3];exact he
 have XH:(Value.agg #[p,q,r]).cells.toList=[p,q,r]/\[p,q,r].all one=true:=by obtain⟨⟨b,rfl⟩,⟨a1,l1,c1,rfl⟩,⟨a2,l2,c2,rfl⟩⟩:=ht;exact⟨rfl,rfl⟩
 obtain⟨S1,Sx,Q6,V2,PA,SN,U2,Rn⟩:=UY (v:= .agg #[p,q,r]) (ws:=[p,q,r]) WB r2 (by omega) rfl XH.1 rfl XH.2;obtain⟨F1,Qe⟩:=hid (low G1 S1);rw[<-Qe]at PA SN U2 Rn;have KC:F1.blk b3= .rw 1 [.int .i64 e]:=by rw[U2 _ (by omega)];exact r3
 obtain⟨S2,Tq,bj,TO,NQ,SX,Rp,Qd⟩:=UY (v:= .int .i64 e) (ws:=[.int .i64 e]) NY KC (by omega) rfl rfl rfl rfl;obtain⟨F,hF⟩:=hid (low F1 S2);rw[<-hF]at NQ SX Rp Qd;have hS:TG b2 H F:=by
  refine⟨by omega,fun j hj=>?_,fun H0 k hn=>Qd H0 (Rn H0 (k.trans WT) hn) (by omega)⟩;by_cases j3:j=b3;·subst j3;rw[SX];exact he.symm
  ·rw[Rp _ j3];by_cases j2:j=b2;·subst j2;rw[SN];exact hq.symm
   ·rw[U2 _ j2];exact WT.blk _ hj
 have l1:=YR (H:=H.top) hq;have l2:Z9 Tryz.prog H.top 23 (.pointer (some ⟨b3,0,none⟩))=some (.int .i64 e):=Yj NK (AH.cells_rw' (H:=H.top) he (by decide)) rfl;refine Wk 9 Tryz.func137 rfl rfl ?_;apply Wl (by kernel_rfl);apply Y8 (by kernel_rfl);simp[Wr,isRec];refine Z7 (v:= .agg #[p,q,r]) rfl rfl rfl (by rw[Z1 rfl];simp[l1]) ?_;simp;refine Z7 (v:= .int .i64 e) rfl rfl rfl (by rw[Z1 rfl];simp[l2]) ?_;simp;refine YJ (v:= .tuple #[.agg #[p,q,r],.int .i64 e]) (H2:=E1) rfl rfl rfl (by rw[Z1 rfl];simp[c1]) Mk (YD U4) ?_;rw[<-Td];generalize PO:cond (Nat.blt H.n E1.n) _ _=ms;have X7:=Uh PO;simp;refine YO (v:= .tuple #[]) (H2:=S1) rfl rfl (by kernel_rfl) (Yr fun x hx=>by rw[(X7 x hx).1];kernel_rfl) ?_ (by omega) V2 ?_;·show ZF _ _ _ _ G1.top _=_;simp[Sx]
 rw[show({ n:=S1.n,lw:=min G1.lw S1.lw,t:=S1.t } :AH)=F1 from Qe.symm];rw[show Nat.blt G1.n S1.n=false from by rw[Q6];exact Xu _,cond_false];simp;refine YO (v:= .tuple #[]) (H2:=S2) rfl rfl (by kernel_rfl) (Yr fun x hx=>by rw[(X7 x hx).1];kernel_rfl) ?_ (by omega) TO ?_;·show ZF _ _ _ _ F1.top _=_;simp[Tq]
 rw[show({ n:=S2.n,lw:=min F1.lw S2.lw,t:=S2.t } :AH)=F from hF.symm];simp;exact hK F hS
theorem GS{b2 b3:Nat}{p q r:Value}{e:Int}{K:AH->Prop}(ht:U7 p q r)(hq:H.blk b2= .rw 1 [p,q,r])(he:H.blk b3= .rw 1 [.int .i64 e])(h2:b2<H.n)(h3:b3<H.n)(YX:b2<b3)(hK: ∀H',TG b2 H H'->K H'):ED Tryz.prog ZY 138 [.pointer (some ⟨b2,0,none⟩),.pointer (some ⟨b3,0,none⟩)] .nilIface H K:=by
 obtain⟨E1,c1,U4⟩:=Wx ht e H.top;obtain⟨G1,Td⟩:=hid (grown H E1);have WT:Zj H G1:=by rw[Td];exact Yo (.refl H) U4
 have Mk:H.n<=E1.n:=U4.n;have bf:=WT.n;have r2:G1.blk b2= .rw 1 [p,q,r]:=by rw[WT.blk _ h2];exact hq
 have r3:G1.blk b3= .rw 1 [.int .i64 e]:=by rw[WT.blk _ h3];exact he
 have XH:(Value.agg #[p,q,r]).cells.toList=[p,q,r]/\[p,q,r].all one=true:=by obtain⟨⟨b,rfl⟩,⟨a1,l1,c1,rfl⟩,⟨a2,l2,c2,rfl⟩⟩:=ht;exact⟨rfl,rfl⟩
 obtain⟨S1,Sx,Q6,V2,PA,SN,U2,Rn⟩:=UY (v:= .agg #[p,q,r]) (ws:=[p,q,r]) WB r2 (by omega) rfl XH.1 rfl XH.2;obtain⟨F1,Qe⟩:=hid (low G1 S1);rw[<-Qe]at PA SN U2 Rn;have KC:F1.blk b3= .rw 1 [.int .i64 e]:=by rw[U2 _ (by omega)];exact r3
 obtain⟨S2,Tq,bj,TO,NQ,SX,Rp,Qd⟩:=UY (v:= .int .i64 e) (ws:=[.int .i64 e]) NY KC (by omega) rfl rfl rfl rfl;obtain⟨F,hF⟩:=hid (low F1 S2);rw[<-hF]at NQ SX Rp Qd;have hS:TG b2 H F:=by
  refine⟨by omega,fun j hj=>?_,fun H0 k hn=>Qd H0 (Rn H0 (k.trans WT) hn) (by omega)⟩;by_cases j3:j=b3;·subst j3;rw[SX];exact he.symm
  ·rw[Rp _ j3];by_cases j2:j=b2;·subst j2;rw[SN];exact hq.symm
   ·rw[U2 _ j2];exact WT.blk _ hj
 have l1:=YR (H:=H.top) hq;have l2:Z9 Tryz.prog H.top 23 (.pointer (some ⟨b3,0,none⟩))=some (.int .i64 e):=Yj NK (AH.cells_rw' (H:=H.top) he (by decide)) rfl;refine Wk 9 Tryz.func138 rfl rfl ?_;apply Wl (by kernel_rfl);apply Y8 (by kernel_rfl);simp[Wr,isRec];refine Z7 (v:= .agg #[p,q,r]) rfl rfl rfl (by rw[Z1 rfl];simp[l1]) ?_;simp;refine Z7 (v:= .int .i64 e) rfl rfl rfl (by rw[Z1 rfl];simp[l2]) ?_;simp;refine YJ (v:= .tuple #[.agg #[p,q,r],.int .i64 e]) (H2:=E1) rfl rfl rfl (by rw[Z1 rfl];simp[c1]) Mk (YD U4) ?_;rw[<-Td];generalize PO:cond (Nat.blt H.n E1.n) _ _=ms;have X7:=Uh PO;simp;refine YO (v:= .tuple #[]) (H2:=S1) rfl rfl (by kernel_rfl) (Yr fun x hx=>by rw[(X7 x hx).1];kernel_rfl) ?_ (by omega) V2 ?_;·show ZF _ _ _ _ G1.top _=_;simp[Sx]
 rw[show({ n:=S1.n,lw:=min G1.lw S1.lw,t:=S1.t } :AH)=F1 from Qe.symm];rw[show Nat.blt G1.n S1.n=false from by rw[Q6];exact Xu _,cond_false];simp;refine YO (v:= .tuple #[]) (H2:=S2) rfl rfl (by kernel_rfl) (Yr fun x hx=>by rw[(X7 x hx).1];kernel_rfl) ?_ (by omega) TO ?_;·show ZF _ _ _ _ F1.top _=_;simp[Tq]
 rw[show({ n:=S2.n,lw:=min F1.lw S2.lw,t:=S2.t } :AH)=F from hF.symm];simp;exact hK F hS
theorem fA{b2 b3:Nat}{p q r:Value}{e:Int}{K:AH->Prop}(ht:U7 p q r)(hq:H.blk b2= .rw 1 [p,q,r])(he:H.blk b3= .rw 1 [.int .i64 e])(h2:b2<H.n)(h3:b3<H.n)(YX:b2<b3)(hK: ∀H',TG b2 H H'->K H'):ED Tryz.prog ZY 147 [.pointer (some ⟨b2,0,none⟩),.pointer (some ⟨b3,0,none⟩)] .nilIface H K:=by
 obtain⟨E1,c1,U4⟩:=Wx ht e H.top;obtain⟨G1,Td⟩:=hid (grown H E1);have WT:Zj H G1:=by rw[Td];exact Yo (.refl H) U4
 have Mk:H.n<=E1.n:=U4.n;have bf:=WT.n;have r2:G1.blk b2= .rw 1 [p,q,r]:=by rw[WT.blk _ h2];exact hq
 have r3:G1.blk b3= .rw 1 [.int .i64 e]:=by rw[WT.blk _ h3];exact he
 have XH:(Value.agg #[p,q,r]).cells.toList=[p,q,r]/\[p,q,r].all one=true:=by obtain⟨⟨b,rfl⟩,⟨a1,l1,c1,rfl⟩,⟨a2,l2,c2,rfl⟩⟩:=ht;exact⟨rfl,rfl⟩
 obtain⟨S1,Sx,Q6,V2,PA,SN,U2,Rn⟩:=UY (v:= .agg #[p,q,r]) (ws:=[p,q,r]) WB r2 (by omega) rfl XH.1 rfl XH.2;obtain⟨F1,Qe⟩:=hid (low G1 S1);rw[<-Qe]at PA SN U2 Rn;have KC:F1.blk b3= .rw 1 [.int .i64 e]:=by rw[U2 _ (by omega)];exact r3
 obtain⟨S2,Tq,bj,TO,NQ,SX,Rp,Qd⟩:=UY (v:= .int .i64 e) (ws:=[.int .i64 e]) NY KC (by omega) rfl rfl rfl rfl;obtain⟨F,hF⟩:=hid (low F1 S2);rw[<-hF]at NQ SX Rp Qd;have hS:TG b2 H F:=by
  refine⟨by omega,fun j hj=>?_,fun H0 k hn=>Qd H0 (Rn H0 (k.trans WT) hn) (by omega)⟩;by_cases j3:j=b3;·subst j3;rw[SX];exact he.symm
  ·rw[Rp _ j3];by_cases j2:j=b2;·subst j2;rw[SN];exact hq.symm
   ·rw[U2 _ j2];exact WT.blk _ hj
 have l1:=YR (H:=H.top) hq;have l2:Z9 Tryz.prog H.top 23 (.pointer (some ⟨b3,0,none⟩))=some (.int .i64 e):=Yj NK (AH.cells_rw' (H:=H.top) he (by decide)) rfl;refine Wk 9 Tryz.func147 rfl rfl ?_;apply Wl (by kernel_rfl);apply Y8 (by kernel_rfl);simp[Wr,isRec];refine Z7 (v:= .agg #[p,q,r]) rfl rfl rfl (by rw[Z1 rfl];simp[l1]) ?_;simp;refine Z7 (v:= .int .i64 e) rfl rfl rfl (by rw[Z1 rfl];simp[l2]) ?_;simp;refine YJ (v:= .tuple #[.agg #[p,q,r],.int .i64 e]) (H2:=E1) rfl rfl rfl (by rw[Z1 rfl];simp[c1]) Mk (YD U4) ?_;rw[<-Td];generalize PO:cond (Nat.blt H.n E1.n) _ _=ms;have X7:=Uh PO;simp;refine YO (v:= .tuple #[]) (H2:=S1) rfl rfl (by kernel_rfl) (Yr fun x hx=>by rw[(X7 x hx).1];kernel_rfl) ?_ (by omega) V2 ?_;·show ZF _ _ _ _ G1.top _=_;simp[Sx]
 rw[show({ n:=S1.n,lw:=min G1.lw S1.lw,t:=S1.t } :AH)=F1 from Qe.symm];rw[show Nat.blt G1.n S1.n=false from by rw[Q6];exact Xu _,cond_false];simp;refine YO (v:= .tuple #[]) (H2:=S2) rfl rfl (by kernel_rfl) (Yr fun x hx=>by rw[(X7 x hx).1];kernel_rfl) ?_ (by omega) TO ?_;·show ZF _ _ _ _ F1.top _=_;simp[Tq]
 rw[show({ n:=S2.n,lw:=min F1.lw S2.lw,t:=S2.t } :AH)=F from hF.symm];simp;exact hK F hS
theorem KO{b2 b3:Nat}{p q r:Value}{e:Int}{K:AH->Prop}(ht:U7 p q r)(hq:H.blk b2= .rw 1 [p,q,r])(he:H.blk b3= .rw 1 [.int .i64 e])(h2:b2<H.n)(h3:b3<H.n)(YX:b2<b3)(hK: ∀H',TG b2 H H'->K H'):ED Tryz.prog ZY 149 [.pointer (some ⟨b2,0,none⟩),.pointer (some ⟨b3,0,none⟩)] .nilIface H K:=by
 obtain⟨E1,c1,U4⟩:=Wx ht e H.top;obtain⟨G1,Td⟩:=hid (grown H E1);have WT:Zj H G1:=by rw[Td];exact Yo (.refl H) U4
 have Mk:H.n<=E1.n:=U4.n;have bf:=WT.n;have r2:G1.blk b2= .rw 1 [p,q,r]:=by rw[WT.blk _ h2];exact hq
 have r3:G1.blk b3= .rw 1 [.int .i64 e]:=by rw[WT.blk _ h3];exact he
 have XH:(Value.agg #[p,q,r]).cells.toList=[p,q,r]/\[p,q,r].all one=true:=by obtain⟨⟨b,rfl⟩,⟨a1,l1,c1,rfl⟩,⟨a2,l2,c2,rfl⟩⟩:=ht;exact⟨rfl,rfl⟩
 obtain⟨S1,Sx,Q6,V2,PA,SN,U2,Rn⟩:=UY (v:= .agg #[p,q,r]) (ws:=[p,q,r]) WB r2 (by omega) rfl XH.1 rfl XH.2;obtain⟨F1,Qe⟩:=hid (low G1 S1);rw[<-Qe]at PA SN U2 Rn;have KC:F1.blk b3= .rw 1 [.int .i64 e]:=by rw[U2 _ (by omega)];exact r3
 obtain⟨S2,Tq,bj,TO,NQ,SX,Rp,Qd⟩:=UY (v:= .int .i64 e) (ws:=[.int .i64 e]) NY KC (by omega) rfl rfl rfl rfl;obtain⟨F,hF⟩:=hid (low F1 S2);rw[<-hF]at NQ SX Rp Qd;have hS:TG b2 H F:=by
  refine⟨by omega,fun j hj=>?_,fun H0 k hn=>Qd H0 (Rn H0 (k.trans WT) hn) (by omega)⟩;by_cases j3:j=b3;·subst j3;rw[SX];exact he.symm
  ·rw[Rp _ j3];by_cases j2:j=b2;·subst j2;rw[SN];exact hq.symm
   ·rw[U2 _ j2];exact WT.blk _ hj
 have l1:=YR (H:=H.top) hq;have l2:Z9 Tryz.prog H.top 23 (.pointer (some ⟨b3,0,none⟩))=some (.int .i64 e):=Yj NK (AH.cells_rw' (H:=H.top) he (by decide)) rfl;refine Wk 9 Tryz.func149 rfl rfl ?_;apply Wl (by kernel_rfl);apply Y8 (by kernel_rfl);simp[Wr,isRec];refine Z7 (v:= .agg #[p,q,r]) rfl rfl rfl (by rw[Z1 rfl];simp[l1]) ?_;simp;refine Z7 (v:= .int .i64 e) rfl rfl rfl (by rw[Z1 rfl];simp[l2]) ?_;simp;refine YJ (v:= .tuple #[.agg #[p,q,r],.int .i64 e]) (H2:=E1) rfl rfl rfl (by rw[Z1 rfl];simp[c1]) Mk (YD U4) ?_;rw[<-Td];generalize PO:cond (Nat.blt H.n E1.n) _ _=ms;have X7:=Uh PO;simp;refine YO (v:= .tuple #[]) (H2:=S1) rfl rfl (by kernel_rfl) (Yr fun x hx=>by rw[(X7 x hx).1];kernel_rfl) ?_ (by omega) V2 ?_;·show ZF _ _ _ _ G1.top _=_;simp[Sx]
 rw[show({ n:=S1.n,lw:=min G1.lw S1.lw,t:=S1.t } :AH)=F1 from Qe.symm];rw[show Nat.blt G1.n S1.n=false from by rw[Q6];exact Xu _,cond_false];simp;refine YO (v:= .tuple #[]) (H2:=S2) rfl rfl (by kernel_rfl) (Yr fun x hx=>by rw[(X7 x hx).1];kernel_rfl) ?_ (by omega) TO ?_;·show ZF _ _ _ _ F1.top _=_;simp[Tq]
 rw[show({ n:=S2.n,lw:=min F1.lw S2.lw,t:=S2.t } :AH)=F from hF.symm];simp;exact hK F hS
theorem fU{b2 b3:Nat}{p q r:Value}{e:Int}{K:AH->Prop}(ht:U7 p q r)(hq:H.blk b2= .rw 1 [p,q,r])(he:H.blk b3= .rw 1 [.int .i64 e])(h2:b2<H.n)(h3:b3<H.n)(YX:b2<b3)(hK: ∀H',TG b2 H H'->K H'):ED Tryz.prog ZY 150 [.pointer (some ⟨b2,0,none⟩),.pointer (some ⟨b3,0,none⟩)] .nilIface H K:=by
 obtain⟨E1,c1,U4⟩:=Wx ht e H.top;obtain⟨G1,Td⟩:=hid (grown H E1);have WT:Zj H G1:=by rw[Td];exact Yo (.refl H) U4
 have Mk:H.n<=E1.n:=U4.n;have bf:=WT.n;have r2:G1.blk b2= .rw 1 [p,q,r]:=by rw[WT.blk _ h2];exact hq
 have r3:G1.blk b3= .rw 1 [.int .i64 e]:=by rw[WT.blk _ h3];exact he
 have XH:(Value.agg #[p,q,r]).cells.toList=[p,q,r]/\[p,q,r].all one=true:=by obtain⟨⟨b,rfl⟩,⟨a1,l1,c1,rfl⟩,⟨a2,l2,c2,rfl⟩⟩:=ht;exact⟨rfl,rfl⟩
 obtain⟨S1,Sx,Q6,V2,PA,SN,U2,Rn⟩:=UY (v:= .agg #[p,q,r]) (ws:=[p,q,r]) WB r2 (by omega) rfl XH.1 rfl XH.2;obtain⟨F1,Qe⟩:=hid (low G1 S1);rw[<-Qe]at PA SN U2 Rn;have KC:F1.blk b3= .rw 1 [.int .i64 e]:=by rw[U2 _ (by omega)];exact r3
 obtain⟨S2,Tq,bj,TO,NQ,SX,Rp,Qd⟩:=UY (v:= .int .i64 e) (ws:=[.int .i64 e]) NY KC (by omega) rfl rfl rfl rfl;obtain⟨F,hF⟩:=hid (low F1 S2);rw[<-hF]at NQ SX Rp Qd;have hS:TG b2 H F:=by
  refine⟨by omega,fun j hj=>?_,fun H0 k hn=>Qd H0 (Rn H0 (k.trans WT) hn) (by omega)⟩;by_cases j3:j=b3;·subst j3;rw[SX];exact he.symm
  ·rw[Rp _ j3];by_cases j2:j=b2;·subst j2;rw[SN];exact hq.symm
   ·rw[U2 _ j2];exact WT.blk _ hj
 have l1:=YR (H:=H.top) hq;have l2:Z9 Tryz.prog H.top 23 (.pointer (some ⟨b3,0,none⟩))=some (.int .i64 e):=Yj NK (AH.cells_rw' (H:=H.top) he (by decide)) rfl;refine Wk 9 Tryz.func150 rfl rfl ?_;apply Wl (by kernel_rfl);apply Y8 (by kernel_rfl);simp[Wr,isRec];refine Z7 (v:= .agg #[p,q,r]) rfl rfl rfl (by rw[Z1 rfl];simp[l1]) ?_;simp;refine Z7 (v:= .int .i64 e) rfl rfl rfl (by rw[Z1 rfl];simp[l2]) ?_;simp;refine YJ (v:= .tuple #[.agg #[p,q,r],.int .i64 e]) (H2:=E1) rfl rfl rfl (by rw[Z1 rfl];simp[c1]) Mk (YD U4) ?_;rw[<-Td];generalize PO:cond (Nat.blt H.n E1.n) _ _=ms;have X7:=Uh PO;simp;refine YO (v:= .tuple #[]) (H2:=S1) rfl rfl (by kernel_rfl) (Yr fun x hx=>by rw[(X7 x hx).1];kernel_rfl) ?_ (by omega) V2 ?_;·show ZF _ _ _ _ G1.top _=_;simp[Sx]
 rw[show({ n:=S1.n,lw:=min G1.lw S1.lw,t:=S1.t } :AH)=F1 from Qe.symm];rw[show Nat.blt G1.n S1.n=false from by rw[Q6];exact Xu _,cond_false];simp;refine YO (v:= .tuple #[]) (H2:=S2) rfl rfl (by kernel_rfl) (Yr fun x hx=>by rw[(X7 x hx).1];kernel_rfl) ?_ (by omega) TO ?_;·show ZF _ _ _ _ F1.top _=_;simp[Tq]
 rw[show({ n:=S2.n,lw:=min F1.lw S2.lw,t:=S2.t } :AH)=F from hF.symm];simp;exact hK F hS
theorem O0(x e:Int)(H:AH): ∃H',ZU Tryz.prog ZY 86 [.nilIface,.int .i64 x,.int .i64 e] H=some (.tuple #[.int .i64 x,.int .i64 e],H')/\Zj H H':=by
 suffices h:CW Tryz.prog ZY 86 [.nilIface,.int .i64 x,.int .i64 e] H fun v H'=>v= .tuple #[.int .i64 x,.int .i64 e]/\Zj H H' by obtain⟨v,H',hc,rfl,k⟩:=h;exact⟨H',hc,k⟩
 refine Yd 26 Tryz.func86 ?_;apply Za;intro b1 Zf;simp;subst Zf;apply Zi;intro b1 Zf;apply Za;intro b2 ZT;simp[-Yq,nZ];subst ZT;refine Zb (t:=true) (by simp) ?_;apply Za;intro b2 ZT;simp;subst ZT;apply ZZ;simp[YQ];exact .refl H
theorem aX{b2 b3:Nat}{x e:Int}{K:AH->Prop}(hq:H.blk b2= .rw 1 [.int .i64 x])(he:H.blk b3= .rw 1 [.int .i64 e])(h2:b2<H.n)(h3:b3<H.n)(YX:b2<b3)(hK: ∀H',TG b2 H H'->K H'):ED Tryz.prog ZY 85 [.pointer (some ⟨b2,0,none⟩),.pointer (some ⟨b3,0,none⟩)] .nilIface H K:=by
 obtain⟨E1,c1,U4⟩:=O0 x e H.top;obtain⟨G1,Td⟩:=hid (grown H E1);have WT:Zj H G1:=by rw[Td];exact Yo (.refl H) U4
 have Mk:H.n<=E1.n:=U4.n;have bf:=WT.n;have r2:G1.blk b2= .rw 1 [.int .i64 x]:=by rw[WT.blk _ h2];exact hq
 have r3:G1.blk b3= .rw 1 [.int .i64 e]:=by rw[WT.blk _ h3];exact he
 obtain⟨S1,Sx,Q6,V2,PA,SN,U2,Rn⟩:=UY (v:= .int .i64 x) (ws:=[.int .i64 x]) Cu r2 (by omega) rfl rfl rfl rfl;obtain⟨F1,Qe⟩:=hid (low G1 S1);rw[<-Qe]at PA SN U2 Rn;have KC:F1.blk b3= .rw 1 [.int .i64 e]:=by rw[U2 _ (by omega)];exact r3
 obtain⟨S2,Tq,bj,TO,NQ,SX,Rp,Qd⟩:=UY (v:= .int .i64 e) (ws:=[.int .i64 e]) NY KC (by omega) rfl rfl rfl rfl;obtain⟨F,hF⟩:=hid (low F1 S2);rw[<-hF]at NQ SX Rp Qd;have hS:TG b2 H F:=by
  refine⟨by omega,fun j hj=>?_,fun H0 k hn=>Qd H0 (Rn H0 (k.trans WT) hn) (by omega)⟩;by_cases j3:j=b3;·subst j3;rw[SX];exact he.symm
  ·rw[Rp _ j3];by_cases j2:j=b2;·subst j2;rw[SN];exact hq.symm
   ·rw[U2 _ j2];exact WT.blk _ hj
 have l1:Z9 Tryz.prog H.top 3 (.pointer (some ⟨b2,0,none⟩))=some (.int .i64 x):=Yj GU (AH.cells_rw' (H:=H.top) hq (by decide)) rfl;have l2:Z9 Tryz.prog H.top 23 (.pointer (some ⟨b3,0,none⟩))=some (.int .i64 e):=Yj NK (AH.cells_rw' (H:=H.top) he (by decide)) rfl;refine Wk 9 Tryz.func85 rfl rfl ?_;apply Wl (by kernel_rfl);apply Y8 (by kernel_rfl);simp[Wr,isRec];refine Z7 (v:= .int .i64 x) rfl rfl rfl (by rw[Z1 rfl];simp[l1]) ?_;simp;refine Z7 (v:= .int .i64 e) rfl rfl rfl (by rw[Z1 rfl];simp[l2]) ?_;simp;refine YJ (v:= .tuple #[.int .i64 x,.int .i64 e]) (H2:=E1) rfl rfl rfl (by rw[Z1 rfl];simp[c1]) Mk (YD U4) ?_;rw[<-Td];generalize PO:cond (Nat.blt H.n E1.n) _ _=ms;have X7:=Uh PO;simp;refine YO (v:= .tuple #[]) (H2:=S1) rfl rfl (by kernel_rfl) (Yr fun x hx=>by rw[(X7 x hx).1];kernel_rfl) ?_ (by omega) V2 ?_;·show ZF _ _ _ _ G1.top _=_;simp[Sx]
 rw[show({ n:=S1.n,lw:=min G1.lw S1.lw,t:=S1.t } :AH)=F1 from Qe.symm];rw[show Nat.blt G1.n S1.n=false from by rw[Q6];exact Xu _,cond_false];simp;refine YO (v:= .tuple #[]) (H2:=S2) rfl rfl (by kernel_rfl) (Yr fun x hx=>by rw[(X7 x hx).1];kernel_rfl) ?_ (by omega) TO ?_;·show ZF _ _ _ _ F1.top _=_;simp[Tq]
 rw[show({ n:=S2.n,lw:=min F1.lw S2.lw,t:=S2.t } :AH)=F from hF.symm];simp;exact hK F hS
theorem RO{b2 b3:Nat}{x e:Int}{K:AH->Prop}(hq:H.blk b2= .rw 1 [.int .i64 x])(he:H.blk b3= .rw 1 [.int .i64 e])(h2:b2<H.n)(h3:b3<H.n)(YX:b2<b3)(hK: ∀H',TG b2 H H'->K H'):ED Tryz.prog ZY 121 [.pointer (some ⟨b2,0,none⟩),.pointer (some ⟨b3,0,none⟩)] .nilIface H K:=by
 obtain⟨E1,c1,U4⟩:=O0 x e H.top;obtain⟨G1,Td⟩:=hid (grown H E1);have WT:Zj H G1:=by rw[Td];exact Yo (.refl H) U4
 have Mk:H.n<=E1.n:=U4.n;have bf:=WT.n;have r2:G1.blk b2= .rw 1 [.int .i64 x]:=by rw[WT.blk _ h2];exact hq
 have r3:G1.blk b3= .rw 1 [.int .i64 e]:=by rw[WT.blk _ h3];exact he
 obtain⟨S1,Sx,Q6,V2,PA,SN,U2,Rn⟩:=UY (v:= .int .i64 x) (ws:=[.int .i64 x]) Cu r2 (by omega) rfl rfl rfl rfl;obtain⟨F1,Qe⟩:=hid (low G1 S1);rw[<-Qe]at PA SN U2 Rn;have KC:F1.blk b3= .rw 1 [.int .i64 e]:=by rw[U2 _ (by omega)];exact r3
 obtain⟨S2,Tq,bj,TO,NQ,SX,Rp,Qd⟩:=UY (v:= .int .i64 e) (ws:=[.int .i64 e]) NY KC (by omega) rfl rfl rfl rfl;obtain⟨F,hF⟩:=hid (low F1 S2);rw[<-hF]at NQ SX Rp Qd;have hS:TG b2 H F:=by
  refine⟨by omega,fun j hj=>?_,fun H0 k hn=>Qd H0 (Rn H0 (k.trans WT) hn) (by omega)⟩;by_cases j3:j=b3;·subst j3;rw[SX];exact he.symm
  ·rw[Rp _ j3];by_cases j2:j=b2;·subst j2;rw[SN];exact hq.symm
   ·rw[U2 _ j2];exact WT.blk _ hj
 have l1:Z9 Tryz.prog H.top 3 (.pointer (some ⟨b2,0,none⟩))=some (.int .i64 x):=Yj GU (AH.cells_rw' (H:=H.top) hq (by decide)) rfl;have l2:Z9 Tryz.prog H.top 23 (.pointer (some ⟨b3,0,none⟩))=some (.int .i64 e):=Yj NK (AH.cells_rw' (H:=H.top) he (by decide)) rfl;refine Wk 9 Tryz.func121 rfl rfl ?_;apply Wl (by kernel_rfl);apply Y8 (by kernel_rfl);simp[Wr,isRec];refine Z7 (v:= .int .i64 x) rfl rfl rfl (by rw[Z1 rfl];simp[l1]) ?_;simp;refine Z7 (v:= .int .i64 e) rfl rfl rfl (by rw[Z1 rfl];simp[l2]) ?_;simp;refine YJ (v:= .tuple #[.int .i64 x,.int .i64 e]) (H2:=E1) rfl rfl rfl (by rw[Z1 rfl];simp[c1]) Mk (YD U4) ?_;rw[<-Td];generalize PO:cond (Nat.blt H.n E1.n) _ _=ms;have X7:=Uh PO;simp;refine YO (v:= .tuple #[]) (H2:=S1) rfl rfl (by kernel_rfl) (Yr fun x hx=>by rw[(X7 x hx).1];kernel_rfl) ?_ (by omega) V2 ?_;·show ZF _ _ _ _ G1.top _=_;simp[Sx]
 rw[show({ n:=S1.n,lw:=min G1.lw S1.lw,t:=S1.t } :AH)=F1 from Qe.symm];rw[show Nat.blt G1.n S1.n=false from by rw[Q6];exact Xu _,cond_false];simp;refine YO (v:= .tuple #[]) (H2:=S2) rfl rfl (by kernel_rfl) (Yr fun x hx=>by rw[(X7 x hx).1];kernel_rfl) ?_ (by omega) TO ?_;·show ZF _ _ _ _ F1.top _=_;simp[Tq]
 rw[show({ n:=S2.n,lw:=min F1.lw S2.lw,t:=S2.t } :AH)=F from hF.symm];simp;exact hK F hS
end
theorem uQs:Tryz.prog.underlying 157=some (.slice 34):=by kernel_rfl
theorem sQs:Vd Tryz.prog 157=some (34,3,56):=by kernel_rfl
theorem ni(b m:Nat):QI Tryz.prog 157 (.slice (some ⟨b,0,none⟩) m m)=some m:=by unfold QI;simp only[uQs]
theorem lH(b m:Nat){i:Nat}(hi:i<m):Yi Tryz.prog 157 (.slice (some ⟨b,0,none⟩) m m) (.int .i64 (i:Int))=some (.pointer (some ⟨b,i*3,none⟩)):=by unfold Yi;simp only[uQs,WB];rw[if_pos (by omega)];simp
theorem CC(H:AH)(p q r:Value):YM Tryz.prog H 157 1 [(0,.agg #[p,q,r])]=some (.slice (some ⟨H.n,0,none⟩) 1 1,H.new 3 [p,q,r]):=by unfold YM;simp only[sQs,XC];kernel_rfl
theorem Pg(H:AH)(p q r p' q' r':Value):YM Tryz.prog H 157 2 [(0,.agg #[p,q,r]),(1,.agg #[p',q',r'])]=some (.slice (some ⟨H.n,0,none⟩) 2 2,H.new 3 [p,q,r,p',q',r']):=by unfold YM;simp only[sQs,XC];kernel_rfl
theorem QF{H:AH}{b o:Nat}{cs vs:List Value}(h:H.cells b=some cs)(hk:(cs.drop o).take 3=vs)(hl:vs.length=3):Z9 Tryz.prog H 34 (.pointer (some ⟨b,o,none⟩))=some (.agg vs.toArray):=by
 unfold Z9;simp only[bZ,WB,AH.read_def,h];have:o+3<=cs.length:=by have:=congrArg List.length hk;rw[List.length_take,List.length_drop,hl]at this;omega
 rw[Nat.ble_eq.mpr this,cond_true,hk]
section
variable {H : AH} {u v va vb : Value} {xs ys : List Nat} {A B : Nat}
def Looks(H:AH)(b m:Nat):Prop:= ∀i,i<m-> ∃(p q r:Value) (D:Nat),(∀H',Zj H H'->Z9 Tryz.prog H' 34 (.pointer (some ⟨b,i*3,none⟩))=some (.agg #[p,q,r]))/\U7 p q r/\Sl H r (ds Zc D)/\Zq D<=67108864/\0<D
theorem Uv{b m:Nat}(hl:Looks H b m)(hm:m<=1000): ∃H',ZU Tryz.prog ZY 87 [.slice (some ⟨b,0,none⟩) m m] H=some (.tuple #[],H')/\Zj H H':=by
 suffices h:CW Tryz.prog ZY 87 [.slice (some ⟨b,0,none⟩) m m] H fun v H'=>v= .tuple #[]/\Zj H H' by obtain⟨v,H',hc,rfl,k⟩:=h;exact⟨H',hc,k⟩
 have lq:=ni b m;refine Yd 17 Tryz.func87 ?_;apply Za;intro b1 Zf;simp[lq];subst Zf;apply ZR;refine YS (fun n s'=>s'.k=17/\Zj H s'.H/\ ∃i:Nat,n+i=m/\s'.tm.get 4=some (.slice (some ⟨b,0,none⟩) m m)/\s'.tm.get 5=some (.int .i64 (m:Int))/\s'.tm.get 6=some (.int .i64 (i:Int))) ?_ m _ ⟨rfl,.refl H,0,by omega,by simp,by simp,by simp⟩;rintro n ⟨k,tm,H4⟩ ⟨hk,kH,i,mO,t4,t5,t6⟩ Q' YA;simp only at hk kH t4 t5 t6;subst hk;apply Za;intro b3 Z4;simp[t5,t6,KS];subst Z4;apply Zi;intro b3 Z4;by_cases hi:i<m
 ·refine Zb (t:=true) (by simp[hi]) ?_;apply Zr;subst Z4;obtain⟨p,q,r,D,Y1,⟨⟨s,rfl⟩,⟨a1,l1,c1,rfl⟩,⟨a2,l2,c2,rfl⟩⟩,mG,yH,hD0⟩:=hl i hi;obtain⟨H5,Ui,k5,cf,n5⟩:=XQ (H:=H4) (sz:=1) (zs:=[.bool false,.slice none 0 0,.slice none 0 0]) WB rfl (v:= .agg #[.bool s,.slice a1 l1 c1,.slice a2 l2 c2]) (ws:=[.bool s,.slice a1 l1 c1,.slice a2 l2 c2]) rfl rfl rfl;have cl:=Xm ((mG.keep kH).keep k5) (Zx yH);obtain⟨L,hL⟩:=hid (Zq D);rw[<-hL]at cl;have hL0:L≠0:=fun h=>by rw[hL]at h;have:=Uo.mp h;omega
  have ge:Zd .eql .i64 (L:Int) 0=some (.bool false):=by rw[We,decide_eq_false hL0]
  apply Zi;intro b3 Z4;apply ZR;apply Za;intro b4 Yy;simp[t4,t6,lH b m hi,Y1 H4 kH,XC,Value.cells,Ui];subst Yy;apply Za;intro b4 Yy;simp[QU,Vq cf,cl,ge];subst Yy;refine Zb (t:=false) (by simp) ?_;apply Zr;subst Z4;apply Zl;simp[t6,TL (x:=i) (by omega)];apply YA;exact⟨n-1,by omega,rfl,kH.trans k5,i+1,by omega,by simp[t4],by simp[t5],by simp⟩
 ·refine Zb (t:=false) (by simp[hi]) ?_;apply YN;apply YA;left;refine⟨rfl,?_⟩;simp;exact kH
theorem Ox{x:Bool}(hu: ∃a l c,u= .slice a l c)(H:AH): ∃H',ZU Tryz.prog ZY 142 [.agg #[.bool x,u],.int .i64 0] H=some (.agg #[.bool x,u],H')/\Zj H H':=by
 obtain⟨a,l,c,rfl⟩:=hu;suffices h:CW Tryz.prog ZY 142 [.agg #[.bool x,.slice a l c],.int .i64 0] H fun v H'=>v= .agg #[.bool x,.slice a l c]/\Zj H H' by obtain⟨v,H',hc,rfl,k⟩:=h;exact⟨H',hc,k⟩
 obtain⟨H2,e2,k2,n2,q1,q2⟩:=Xb H [.bool x,.slice a l c] [.bool false,.slice none 0 0];obtain⟨H4,WQ,n4,q4,b4,Ua⟩:=JR (p:= .bool x) (q:= .slice a l c) q2 rfl rfl rfl rfl;have P3:Zj H H4:=Ua H k2 (by omega);have Y1:=TJ q4;refine Yd 11 Tryz.func142 ?_;apply Za;intro b1 Zf;simp[Value.cells,Rg,XV,e2];subst Zf;apply Zi;intro b1 Zf;apply Za;intro b2 ZT;simp[TH];subst ZT;refine Zb (t:=false) (by simp) ?_;apply Zr;subst Zf;apply Za;intro b1 Zf;simp[TJ q1,WQ];subst Zf;apply ZZ;simp[Y1];exact P3
theorem Cc{p q r:Value}(ht:U7 p q r)(H:AH): ∃H',ZU Tryz.prog ZY 148 [.agg #[p,q,r],.int .i64 0] H=some (.agg #[p,q,r],H')/\Zj H H':=by
 obtain⟨⟨s,rfl⟩,⟨a1,l1,c1,rfl⟩,⟨a2,l2,c2,rfl⟩⟩:=ht;suffices h:CW Tryz.prog ZY 148 [.agg #[.bool s,.slice a1 l1 c1,.slice a2 l2 c2],.int .i64 0] H fun v H'=>v= .agg #[.bool s,.slice a1 l1 c1,.slice a2 l2 c2]/\Zj H H' by obtain⟨v,H',hc,rfl,k⟩:=h;exact⟨H',hc,k⟩
 obtain⟨H2,e2,k2,n2,q1,q2⟩:=Xb H [.bool s,.slice a1 l1 c1,.slice a2 l2 c2] [.bool false,.slice none 0 0,.slice none 0 0];obtain⟨H4,WQ,n4,q4,b4,Ua⟩:=Sv (p:= .bool s) (q:= .slice a1 l1 c1) (r:= .slice a2 l2 c2) q2 rfl rfl rfl rfl rfl rfl;have P3:Zj H H4:=Ua H k2 (by omega);have Y1:=YR q4;refine Yd 11 Tryz.func148 ?_;apply Za;intro b1 Zf;simp[Value.cells,XC,XV,e2];subst Zf;apply Zi;intro b1 Zf;apply Za;intro b2 ZT;simp[TH];subst ZT;refine Zb (t:=false) (by simp) ?_;apply Zr;subst Zf;apply Za;intro b1 Zf;simp[YR q1,WQ];subst Zf;apply ZZ;simp[Y1];exact P3
theorem Wj{n:Nat}(hn:n<9223372036854775808): ∃p q H',ZU Tryz.prog ZY 145 [.int .i64 (n:Int)] H=some (.agg #[.bool false,p,q],H')/\Zj H H'/\Ym H.n H' p (ds Zc n)/\Ym H.n H' q (ds Zc 1):=by
 suffices h:CW Tryz.prog ZY 145 [.int .i64 (n:Int)] H fun v H'=> ∃p q,v= .agg #[.bool false,p,q]/\Zj H H'/\Ym H.n H' p (ds Zc n)/\Ym H.n H' q (ds Zc 1) by obtain⟨v,H',hc,p,q,rfl,k,o⟩:=h;exact⟨p,q,H',hc,k,o⟩
 obtain⟨H2,e2,k2,n2,q2⟩:=Wc H [.bool false,.slice none 0 0,.slice none 0 0];obtain⟨p,H3,c3,k3,o3⟩:=gY (H:=H2) hn;obtain⟨q,H4,c4,k4,o4⟩:=Tc (H:=H3) (x:=1) (by decide);have c4:ZU Tryz.prog ZY 164 [.int .u64 1] H3=some (q,H4):=c4;have n3:=k3.n;have Qo:=(k3.trans k4).blk _ (show H.n<H2.n by omega);rw[q2]at Qo;have ij:=o3.m k4;obtain⟨i1,i2,i3⟩:=ij.trio;obtain⟨j1,j2,j3⟩:=o4.trio;obtain⟨H5,Ui,n5,q5,b5,UK⟩:=Sv (p:= .bool false) (q:=p) (r:=q) Qo rfl i1 j1 rfl i2 j2;have AO:Zj H H5:=UK H ((k2.trans k3).trans k4) (by omega);have o5:=(ij.off (b:=H.n) (by omega) n5 b5).mono (show H.n<=H2.n by omega) (.refl _);have o6:=(o4.off (b:=H.n) (by omega) n5 b5).mono (show H.n<=H3.n by omega) (.refl _);have Y1:=YR q5;refine Yd 7 Tryz.func145 ?_;apply Za;intro b1 Zf;simp[Value.cells,XC,XV,e2];subst Zf;apply Za;intro b1 Zf;simp[c3,c4,Qt (x:=false) i3 j3,Ui];subst Zf;apply ZZ;simp[Y1];exact⟨_,_,⟨rfl,rfl⟩,AO,o5,o6⟩
theorem OR(s:Bool)(ha:Sl H u (ds Zc A))(hv: ∃a l c,v= .slice a l c)(hA:Zq A<=67108864): ∃H',ZU Tryz.prog ZY 88 [.agg #[.bool s,u,v]] H=some (.int .i64 (Vc s A),H')/\Zj H H':=by
 suffices h:CW Tryz.prog ZY 88 [.agg #[.bool s,u,v]] H fun w H'=>w= .int .i64 (Vc s A)/\Zj H H' by obtain⟨v,H',hc,rfl,k⟩:=h;exact⟨H',hc,k⟩
 obtain⟨H2,e2,k2,n2,q2⟩:=Wc H [.bool s,u,v];obtain⟨H3,c3,k3⟩:=CU s (ha.keep k2) (Yx Z2 A) (Nat.le_trans (Zx hA) (by decide));rw[YL Z2]at c3;obtain⟨S,hS⟩:=hid (Vc s A);rw[<-hS]at c3⊢;refine Yd 6 Tryz.func88 ?_;apply Za;intro b1 Zf;simp[Value.cells,XV,e2];subst Zf;apply Za;intro b1 Zf;simp[Sq,D5 q2,c3];subst Zf;apply ZZ;simp;exact k2.trans k3
end
theorem xT{H:AH}{b:Nat}{x e:Int}(hb:H.blk b= .rw 1 [.int .i64 x]): ∃H',YV Tryz.prog H 3 (.pointer (some ⟨b,0,none⟩)) (.int .i64 e)=some H'/\H'.n=H.n/\H'.blk b= .rw 1 [.int .i64 e]/\(∀j,j≠b->H'.blk j=H.blk j)/\Vz b H H':=TQ Cu hb rfl rfl rfl rfl
theorem Iw{H:AH}{b:Nat}{e:Int}(hb:H.blk b= .rw 1 [.int .i64 e]):Z9 Tryz.prog H 3 (.pointer (some ⟨b,0,none⟩))=some (.int .i64 e):=Yj GU (AH.cells_rw' hb (by decide)) rfl
section
variable {H : AH} {u v va vb : Value} {xs ys : List Nat} {A B : Nat}
theorem qS{H:AH}{p q r:Value}{D:Nat}(ht:U7 p q r)(hs:Sl (H.new 3 [p,q,r]) r (ds Zc D))(hb:Zq D<=67108864)(h0:0<D):Looks (H.new 3 [p,q,r]) H.n 1:=fun i hi=>by
 obtain rfl:i=0:=by omega
 exact⟨p,q,r,D,fun H' k=>QF (cs:=[p,q,r]) ((VY k (Nat.lt_succ_self _)).trans (Rw H 3 [p,q,r])) rfl rfl,ht,hs,hb,h0⟩
theorem KU{H:AH}{p q r p' q' r':Value}{D D':Nat}(ht:U7 p q r)(hs:Sl (H.new 3 [p,q,r,p',q',r']) r (ds Zc D))(hb:Zq D<=67108864)(h0:0<D)(Bm:U7 p' q' r')(vB:Sl (H.new 3 [p,q,r,p',q',r']) r' (ds Zc D'))(X6:Zq D'<=67108864)(h0':0<D'):Looks (H.new 3 [p,q,r,p',q',r']) H.n 2:=fun i hi=>by
 have hc:=fun{H'} (k:Zj (H.new 3 [p,q,r,p',q',r']) H')=>(VY k (Nat.lt_succ_self _)).trans (Rw H 3 [p,q,r,p',q',r']);have:i=0\/i=1:=by omega
 rcases this with rfl|rfl;·exact⟨p,q,r,D,fun H' k=>QF (hc k) rfl rfl,ht,hs,hb,h0⟩
 ·exact⟨p',q',r',D',fun H' k=>QF (hc k) rfl rfl,Bm,vB,X6,h0'⟩
theorem Sl.trio{H:AH}{s:Bool}{xs ys:List Nat}(ha:Sl H u xs)(hb:Sl H v ys):U7 (.bool s) u v:=⟨⟨s,rfl⟩,ha.shape,hb.shape⟩
theorem Q0(s:Bool)(ha:Sl H u (ds Zc A))(hb:Sl H v (ds Zc B))(hA:Zq A<=67108864)(hB:Zq B<=67108864)(NP:0<B): ∃H',ZU Tryz.prog ZY 54 [.agg #[.bool s,u,v]] H=some (.tuple #[.int .i64 (Vc s A),.int .i64 0],H')/\Zj H H':=by
 suffices h:CW Tryz.prog ZY 54 [.agg #[.bool s,u,v]] H fun w H'=>w= .tuple #[.int .i64 (Vc s A),.int .i64 0]/\Zj H H' by obtain⟨v,H',hc,rfl,k⟩:=h;exact⟨H',hc,k⟩
 obtain⟨H2,e2,k2,n2,q1,q2,q3⟩:=S5 H [.bool s,u,v] [.int .i64 0] [.int .i64 0];have k3:=Zj.new H2 3 [.bool s,u,v];obtain⟨H4,c4,k4⟩:=Uv (qS (ha.trio hb (s:=s)) ((hb.keep k2).keep k3) hB NP) (by decide);obtain⟨H3,N2⟩:=hid (H2.new 3 [.bool s,u,v]);rw[<-N2]at k3 c4 k4;have Ou:=k3.trans k4;have r1:H4.blk H.n= .rw 1 [.bool s,u,v]:=by rw[Ou.blk _ (by omega)];exact q1
 obtain⟨H5,c5,k5⟩:=OR s ((ha.keep k2).keep Ou) hb.shape hA;have sP:=Ou.trans k5;have r2:H5.blk (H.n+1)= .rw 1 [.int .i64 0]:=by rw[sP.blk _ (by omega)];exact q2
 have r3:H5.blk (H.n+2)= .rw 1 [.int .i64 0]:=by rw[sP.blk _ (by omega)];exact q3
 obtain⟨S,hS⟩:=hid (Vc s A);rw[<-hS]at c5⊢;have n5:=sP.n;obtain⟨H6,Vt,n6,p6,b6,Ub⟩:=xT (e:=S) r2;have KC:H6.blk (H.n+2)= .rw 1 [.int .i64 0]:=by rw[b6 _ (by omega)];exact r3
 obtain⟨H7,Qp,n7,p7,b7,Mg⟩:=KD (e:=0) KC;have p6':H7.blk (H.n+1)= .rw 1 [.int .i64 S]:=by rw[b7 _ (by omega)];exact p6
 have sT:Zj H H7:=Mg H (Ub H (k2.trans sP) (by omega)) (by omega);refine Wu 10 (by decide) (by decide) Tryz.func54 rfl rfl rfl ?_;intro b1 Zf;apply Zl;simp[Value.cells,aI,Jh,XV,e2];refine⟨_,_,⟨rfl,rfl⟩,?_⟩;subst Zf;apply Za;intro b1 Zf;simp[YR q1,CC,<-N2,c4];subst Zf;apply Za;intro b1 Zf;simp[YR r1,c5,Vt,Qp];subst Zf;apply ZZ;simp[Vw];refine aX p6' p7 (by omega) (by omega) (by omega) fun H8 hS=>?_;have z4:H8.blk (H.n+1)= .rw 1 [.int .i64 S]:=by rw[hS.2.1 _ (by omega)];exact p6'
 have z5:H8.blk (H.n+2)= .rw 1 [.int .i64 0]:=by rw[hS.2.1 _ (by omega)];exact p7
 simp[Iw z4,Tw z5];exact hS.keep sT (by omega)
theorem Lo(s t:Bool)(ha:Sl H u (ds Zc A))(hb:Sl H v (ds Zc B))(hA:Zq A<=67108864)(hB:Zq B<=67108864)(NP:0<B): ∃p q H',ZU Tryz.prog ZY 56 [.agg #[.bool s,u],.agg #[.bool t,v]] H=some (.tuple #[.agg #[.bool (Z8 (s !=t) A B).1,p,q],.int .i64 0],H')/\Zj H H'/\Ym H.n H' p (ds Zc (Z8 (s !=t) A B).2.1)/\Ym H.n H' q (ds Zc (Z8 (s !=t) A B).2.2)/\Vg p q:=by
 obtain⟨neg,Ot⟩:=hid ((s !=t));rw[<-Ot];obtain⟨r,hr⟩:=hid (Z8 neg A B);suffices hs:CW Tryz.prog ZY 56 [.agg #[.bool s,u],.agg #[.bool t,v]] H fun v H'=> ∃p q,v= .tuple #[.agg #[.bool r.1,p,q],.int .i64 0]/\Zj H H'/\Ym H.n H' p (ds Zc r.2.1)/\Ym H.n H' q (ds Zc r.2.2)/\Vg p q by obtain⟨v,H',hc,p,q,rfl,k,o⟩:=hs;rw[<-hr];exact⟨p,q,H',hc,k,o⟩
 obtain⟨H2,e2,k2,n2,q0,q1,q2,q3⟩:=Of H [.bool s,u] [.bool t,v] [.bool false,.slice none 0 0,.slice none 0 0] [.int .i64 0];obtain⟨p,q,H3,c3,k3,o3,o4,ap⟩:=Q3 neg (ha.keep k2) (hb.keep k2) (Yx Z2 A) (Yx Z2 B) (Nat.le_trans (Zx hA) (by decide)) (Nat.le_trans (Zx hB) (by decide)) (YL Z2 A) (YL Z2 B) hA hB NP;rw[<-hr]at c3 o3 o4;have n3:=k3.n;have Qo:=k3.blk _ (show H.n+2<H2.n by omega);rw[q2]at Qo;have Da:=k3.blk _ (show H.n+3<H2.n by omega);rw[q3]at Da;obtain⟨i1,i2,i3⟩:=o3.trio;obtain⟨j1,j2,j3⟩:=o4.trio;obtain⟨S,N,D⟩:=r;simp only at c3 o3 o4⊢;obtain⟨H4,WQ,n4,q4,b4,Ua⟩:=Sv (p:= .bool S) (q:=p) (r:=q) Qo rfl i1 j1 rfl i2 j2;have Cm:H4.blk (H.n+3)= .rw 1 [.int .i64 0]:=by rw[b4 _ (by omega)];exact Da
 obtain⟨H5,Ui,n5,q5,b5,UK⟩:=KD (e:=0) Cm;have rj:H5.blk (H.n+2)= .rw 1 [.bool S,p,q]:=by rw[b5 _ (by omega)];exact q4
 have AO:Zj H H5:=UK H (Ua H (k2.trans k3) (by omega)) (by omega);have o5:=((o3.off (b:=H.n+2) (by omega) n4 b4).off (b:=H.n+3) (by omega) n5 b5).mono (show H.n<=H2.n by omega) (.refl _);have o6:=((o4.off (b:=H.n+2) (by omega) n4 b4).off (b:=H.n+3) (by omega) n5 b5).mono (show H.n<=H2.n by omega) (.refl _);have mu:Yq Tryz.prog .neq 4 (.bool s) (.bool t)=some (.bool neg):=by rw[Ot];cases s<;>cases t<;>rfl
 refine Wu 21 (by decide) (by decide) Tryz.func56 rfl rfl rfl ?_;intro b1 Zf;apply Zl;simp[Value.cells,XC,Jh,XV,e2];refine⟨_,_,⟨rfl,rfl⟩,?_⟩;subst Zf;apply Za;intro b1 Zf;simp[V5,TS q0,TS q1,-Yq,mu];subst Zf;apply Za;intro b1 Zf;simp[Tb,V0 q0,V0 q1,Qu (b:=neg) ha.shape,Qt (x:=neg) ha.shape hb.shape,c3,WQ,Ui];subst Zf;apply ZZ;simp[Vw];refine AA ⟨⟨_,rfl⟩,i3,j3⟩ rj q5 (by omega) (by omega) (by omega) fun H6 hS=>?_;have r4:H6.blk (H.n+2)= .rw 1 [.bool S,p,q]:=by rw[hS.2.1 _ (by omega)];exact rj
 have r5:H6.blk (H.n+3)= .rw 1 [.int .i64 0]:=by rw[hS.2.1 _ (by omega)];exact q5
 simp[YR r4,Tw r5];exact⟨_,_,⟨rfl,rfl⟩,hS.keep AO (by omega),hS.own o5,hS.own o6,ap⟩
end
theorem xG:Xh Tryz.prog 4=some 1:=by kernel_rfl
theorem xW{H:AH}{b:Nat}{p q r:Value}{x:Bool}(hb:H.blk b= .rw 1 [p,q,r]): ∃H',YV Tryz.prog H 4 (.pointer (some ⟨b,0,none⟩)) (.bool x)=some H'/\H'.n=H.n/\H'.blk b= .rw 1 [.bool x,q,r]/\(∀j,j≠b->H'.blk j=H.blk j)/\Vz b H H':=by obtain⟨H',st,q1,n1,o,ka,_⟩:=Wz (o:=0) xG hb (v:= .bool x) (ws:=[.bool x]) rfl rfl (by simp) rfl;exact⟨H',st,n1,q1,o,ka⟩
section
variable {H : AH} {u v va vb : Value} {xs ys : List Nat} {A B : Nat}
theorem JQ(neg:Bool)(ha:Sl H u (ds Zc A))(hb:Sl H v (ds Zc B))(hA:Zq A<=67108864)(hB:Zq B<=67108864)(NP:0<B): ∃p q H',ZU Tryz.prog ZY 109 [.agg #[.bool neg,u,v]] H=some (.tuple #[.agg #[.bool false,p,q],.int .i64 0],H')/\Zj H H'/\Ym H.n H' p (ds Zc (Z8 neg A B).2.1)/\Ym H.n H' q (ds Zc (Z8 neg A B).2.2):=by
 obtain⟨r,hr⟩:=hid (Z8 neg A B);suffices hs:CW Tryz.prog ZY 109 [.agg #[.bool neg,u,v]] H fun v H'=> ∃p q,v= .tuple #[.agg #[.bool false,p,q],.int .i64 0]/\Zj H H'/\Ym H.n H' p (ds Zc r.2.1)/\Ym H.n H' q (ds Zc r.2.2) by obtain⟨v,H',hc,p,q,rfl,k,o⟩:=hs;rw[<-hr];exact⟨p,q,H',hc,k,o⟩
 obtain⟨H2,e2,k2,n2,q1,q2,q3⟩:=S5 H [.bool neg,u,v] [.bool false,.slice none 0 0,.slice none 0 0] [.int .i64 0];obtain⟨p,q,H3,c3,k3,o3,o4⟩:=OT neg (ha.keep k2) (hb.keep k2) hA hB NP;rw[<-hr]at c3 o3 o4;have n3:=k3.n;have Qo:=k3.blk _ (show H.n+1<H2.n by omega);rw[q2]at Qo;have Da:=k3.blk _ (show H.n+2<H2.n by omega);rw[q3]at Da;obtain⟨i1,i2,i3⟩:=o3.trio;obtain⟨j1,j2,j3⟩:=o4.trio;obtain⟨S,N,D⟩:=r;simp only at c3 o3 o4⊢;obtain⟨H4,WQ,n4,q4,b4,Ua⟩:=Sv (p:= .bool S) (q:=p) (r:=q) Qo rfl i1 j1 rfl i2 j2;obtain⟨H5,Ui,n5,q5,b5,UK⟩:=xW (x:=false) q4;obtain⟨H6,Vt,n6,q6,b6,Ub⟩:=Sv (p:= .bool false) (q:=p) (r:=q) q5 rfl i1 j1 rfl i2 j2;have Cm:H6.blk (H.n+2)= .rw 1 [.int .i64 0]:=by rw[b6 _ (by omega),b5 _ (by omega),b4 _ (by omega)];exact Da
 obtain⟨H7,Qp,n7,q7,b7,Mg⟩:=KD (e:=0) Cm;have rk:H7.blk (H.n+1)= .rw 1 [.bool false,p,q]:=by rw[b7 _ (by omega)];exact q6
 have sT:Zj H H7:=Mg H (Ub H (UK H (Ua H (k2.trans k3) (by omega)) (by omega)) (by omega)) (by omega);have o5:=((((o3.off (b:=H.n+1) (by omega) n4 b4).off (b:=H.n+1) (by omega) n5 b5).off (b:=H.n+1) (by omega) n6 b6).off (b:=H.n+2) (by omega) n7 b7).mono (show H.n<=H2.n by omega) (.refl _);have o6:=((((o4.off (b:=H.n+1) (by omega) n4 b4).off (b:=H.n+1) (by omega) n5 b5).off (b:=H.n+1) (by omega) n6 b6).off (b:=H.n+2) (by omega) n7 b7).mono (show H.n<=H2.n by omega) (.refl _);refine Wu 10 (by decide) (by decide) Tryz.func109 rfl rfl rfl ?_;intro b1 Zf;apply Zl;simp[Value.cells,XC,Jh,XV,e2];refine⟨_,_,⟨rfl,rfl⟩,?_⟩;subst Zf;apply Za;intro b1 Zf;simp[YR q1,c3,WQ];subst Zf;apply Za;intro b1 Zf;simp[Sq,V5,Ui];subst Zf;apply Za;intro b1 Zf;simp[YR q5,Vt,Qp];subst Zf;apply ZZ;simp[Vw];refine bV ⟨⟨_,rfl⟩,i3,j3⟩ rk q7 (by omega) (by omega) (by omega) fun H8 hS=>?_;have r4:H8.blk (H.n+1)= .rw 1 [.bool false,p,q]:=by rw[hS.2.1 _ (by omega)];exact rk
 have r5:H8.blk (H.n+2)= .rw 1 [.int .i64 0]:=by rw[hS.2.1 _ (by omega)];exact q7
 simp[YR r4,Tw r5];exact⟨_,_,⟨rfl,rfl⟩,hS.keep sT (by omega),hS.own o5,hS.own o6⟩
theorem P9(neg:Bool)(ha:Sl H u (ds Zc A))(hb:Sl H v (ds Zc B))(hA:Zq A<=67108864)(hB:Zq B<=67108864)(NP:0<B): ∃p q H',ZU Tryz.prog ZY 108 [.agg #[.bool neg,u,v]] H=some (.tuple #[.agg #[.bool (sg (!(Z8 neg A B).1) (Z8 neg A B).2.1),p,q],.int .i64 0],H')/\Zj H H'/\Ym H.n H' p (ds Zc (Z8 neg A B).2.1)/\Ym H.n H' q (ds Zc (Z8 neg A B).2.2):=by
 obtain⟨r,hr⟩:=hid (Z8 neg A B);suffices hs:CW Tryz.prog ZY 108 [.agg #[.bool neg,u,v]] H fun v H'=> ∃p q,v= .tuple #[.agg #[.bool (sg (!r.1) r.2.1),p,q],.int .i64 0]/\Zj H H'/\Ym H.n H' p (ds Zc r.2.1)/\Ym H.n H' q (ds Zc r.2.2) by obtain⟨v,H',hc,p,q,rfl,k,o⟩:=hs;rw[<-hr];exact⟨p,q,H',hc,k,o⟩
 obtain⟨H2,e2,k2,n2,q1,q2,q3⟩:=S5 H [.bool neg,u,v] [.bool false,.slice none 0 0,.slice none 0 0] [.int .i64 0];obtain⟨p,q,H3,c3,k3,o3,o4⟩:=OT neg (ha.keep k2) (hb.keep k2) hA hB NP;rw[<-hr]at c3 o3 o4;have n3:=k3.n;have Qo:=k3.blk _ (show H.n+1<H2.n by omega);rw[q2]at Qo;have Da:=k3.blk _ (show H.n+2<H2.n by omega);rw[q3]at Da;obtain⟨i1,i2,i3⟩:=o3.trio;obtain⟨j1,j2,j3⟩:=o4.trio;obtain⟨S,N,D⟩:=r;simp only at c3 o3 o4⊢;obtain⟨T,hT⟩:=hid (sg (!S) N);rw[<-hT];obtain⟨H4,WQ,n4,q4,b4,Ua⟩:=Sv (p:= .bool S) (q:=p) (r:=q) Qo rfl i1 j1 rfl i2 j2;obtain⟨H5,Ui,n5,q5,b5,UK⟩:=xW (x:=T) q4;obtain⟨H6,Vt,n6,q6,b6,Ub⟩:=Sv (p:= .bool T) (q:=p) (r:=q) q5 rfl i1 j1 rfl i2 j2;have Cm:H6.blk (H.n+2)= .rw 1 [.int .i64 0]:=by rw[b6 _ (by omega),b5 _ (by omega),b4 _ (by omega)];exact Da
 obtain⟨H7,Qp,n7,q7,b7,Mg⟩:=KD (e:=0) Cm;have rk:H7.blk (H.n+1)= .rw 1 [.bool T,p,q]:=by rw[b7 _ (by omega)];exact q6
 have sT:Zj H H7:=Mg H (Ub H (UK H (Ua H (k2.trans k3) (by omega)) (by omega)) (by omega)) (by omega);have l3:=o3.sl.len Zu;obtain⟨m,hm⟩:=hid ((ds Zc N).length);rw[<-hm]at l3;have hmN:(0<m)↔0<N:=by rw[hm];exact W5 Z2
 have o5:=((((o3.off (b:=H.n+1) (by omega) n4 b4).off (b:=H.n+1) (by omega) n5 b5).off (b:=H.n+1) (by omega) n6 b6).off (b:=H.n+2) (by omega) n7 b7).mono (show H.n<=H2.n by omega) (.refl _);have o6:=((((o4.off (b:=H.n+1) (by omega) n4 b4).off (b:=H.n+1) (by omega) n5 b5).off (b:=H.n+1) (by omega) n6 b6).off (b:=H.n+2) (by omega) n7 b7).mono (show H.n<=H2.n by omega) (.refl _);refine Wu 21 (by decide) (by decide) Tryz.func108 rfl rfl rfl ?_;intro b1 Zf;apply Zl;simp[Value.cells,XC,Jh,XV,e2];refine⟨_,_,⟨rfl,rfl⟩,?_⟩;subst Zf;apply Za;intro b1 Zf;simp[YR q1,c3,WQ];subst Zf;cases S with
  |true=>
   have:T=false:=by rw[hT];rfl
   subst this;apply Za;intro b1 Zf;simp[Sq,V5,QG q4,Ui];subst Zf;apply Za;intro b1 Zf;simp[YR q5,Vt,Qp];subst Zf;apply ZZ;simp[Vw];refine F7 ⟨⟨_,rfl⟩,i3,j3⟩ rk q7 (by omega) (by omega) (by omega) fun H8 hS=>?_;have r4:H8.blk (H.n+1)= .rw 1 [.bool false,p,q]:=by rw[hS.2.1 _ (by omega)];exact rk
   have r5:H8.blk (H.n+2)= .rw 1 [.int .i64 0]:=by rw[hS.2.1 _ (by omega)];exact q7
   simp[YR r4,Tw r5];exact⟨_,_,⟨rfl,rfl⟩,hS.keep sT (by omega),hS.own o5,hS.own o6⟩
  |false=>
   have hg:Zd .gtr .i64 (m:Int) 0=some (.bool T):=by rw[Kl,hT];unfold sg;rw[Bool.not_false,Bool.true_and,decide_eq_decide.mpr hmN]
   apply Za;intro b1 Zf;simp[Sq,V5,Tb,QG q4,Vp q4,l3,hg,Ui];subst Zf;apply Za;intro b1 Zf;simp[YR q5,Vt,Qp];subst Zf;apply ZZ;simp[Vw];refine F7 ⟨⟨_,rfl⟩,i3,j3⟩ rk q7 (by omega) (by omega) (by omega) fun H8 hS=>?_;have r4:H8.blk (H.n+1)= .rw 1 [.bool T,p,q]:=by rw[hS.2.1 _ (by omega)];exact rk
   have r5:H8.blk (H.n+2)= .rw 1 [.int .i64 0]:=by rw[hS.2.1 _ (by omega)];exact q7
   simp[YR r4,Tw r5];exact⟨_,_,⟨rfl,rfl⟩,hS.keep sT (by omega),hS.own o5,hS.own o6⟩
end
theorem GD(a b:Nat):Wn a b= -1\/Wn a b=0\/Wn a b=1:=by
 unfold Wn;split;·exact .inl rfl
 ·split;·exact .inr (.inr rfl)
  ·exact .inr (.inl rfl)
theorem Tt{a b:Nat}(h:a<b):Wn a b= -1:=by unfold Wn;rw[if_pos h]
theorem Ts{a b:Nat}(h:b<a):Wn a b=1:=by unfold Wn;rw[if_neg (by omega),if_pos h]
theorem Qx(a:Nat):Wn a a=0:=by unfold Wn;rw[if_neg (by omega),if_neg (by omega)]
theorem B9(a b:Nat):Wn a b= -Wn b a:=by
 rcases Nat.lt_trichotomy a b with h|h|h;·rw[Tt h,Ts h]
 ·subst h;rw[Qx];rfl
 ·rw[Ts h,Tt h];rfl
theorem cu(a b c:Nat):Wn (a+c) (b+c)=Wn a b:=by
 rcases Nat.lt_trichotomy a b with h|h|h;·rw[Tt h,Tt (by omega)]
 ·subst h;rw[Qx,Qx]
 ·rw[Ts h,Ts (by omega)]
theorem JB{A B C D:Nat}(hB:0<B)(hD:0<D)(h:A/B<C/D):A*D<C*B:=by
 have h1:A<(A/B+1)*B:=by have:=Nat.div_add_mod A B;have:=Nat.mod_lt A hB;rw[Nat.add_mul,Nat.one_mul,Nat.mul_comm];omega
 have h2:C/D*D<=C:=Nat.div_mul_le_self C D;have h3:(A/B+1)*B<=C/D*B:=Nat.mul_le_mul_right _ h;have h4:A<C/D*B:=Nat.lt_of_lt_of_le h1 h3;have h5:A*D<C/D*B*D:=Nat.mul_lt_mul_of_pos_right h4 hD;have h6:C/D*B*D=C/D*D*B:=by rw[Nat.mul_right_comm]
 have h7:C/D*D*B<=C*B:=Nat.mul_le_mul_right _ h2;omega
theorem cw{A B C D:Nat}(hB:0<B)(hD:0<D):Wn (A*D) (C*B)=if A/B=C/D then Wn (A%B*D) (C%D*B)else Wn (A/B) (C/D):=by
 split
 ·rename_i h;have h1:A*D=A%B*D+A/B*(B*D):=by
   conv=>lhs;rw[<-Nat.div_add_mod A B]
   rw[Nat.add_mul,Nat.add_comm,Nat.mul_comm B (A/B),Nat.mul_assoc]
  have h2:C*B=C%D*B+A/B*(B*D):=by
   conv=>lhs;rw[<-Nat.div_add_mod C D]
   rw[h,Nat.add_mul,Nat.add_comm,Nat.mul_comm D (C/D),Nat.mul_assoc,Nat.mul_comm D B]
  rw[h1,h2,cu]
 ·rename_i h;rcases Nat.lt_or_ge (A/B) (C/D)with h1|h1;·rw[Tt h1,Tt (JB hB hD h1)]
  ·have h1:C/D<A/B:=by omega
   rw[Ts h1,Ts (JB hD hB h1)]
section
variable {H : AH} {u v va vb : Value} {xs ys : List Nat} {A B : Nat}
theorem MS(ha:Sl H u (ds Zc A))(hb:Sl H v (ds Zc B))(hA:Zq A<=67108864)(hB:Zq B<=67108864)(NP:0<B): ∃p q H',ZU Tryz.prog ZY 161 [u,v] H=some (.tuple #[p,q],H')/\Zj H H'/\Ym H.n H' p (ds Zc (A/B))/\Ym H.n H' q (ds Zc (A%B)):=by
 suffices hs:CW Tryz.prog ZY 161 [u,v] H fun w H'=> ∃p q,w= .tuple #[p,q]/\Zj H H'/\Ym H.n H' p (ds Zc (A/B))/\Ym H.n H' q (ds Zc (A%B)) by obtain⟨v,H',hc,p,q,rfl,k,o⟩:=hs;exact⟨p,q,H',hc,k,o⟩
 obtain⟨w,H3,c3,k3,hm⟩:=B7 ha hb (Yx Z2 A) (Yx Z2 B) (Zx hA) (Zx hB);rw[YL Z2,YL Z2]at hm;have h1:=Ye (Nat.div_le_self A B);have h2:=Ye (Nat.mod_le A B);rcases hm with⟨h,_⟩|⟨_,h,_⟩|⟨_,_,_,p,q,rfl,o1,o2,_⟩;·omega
 ·omega
 refine Yd 23 Tryz.func161 ?_;apply Za;intro b1 Zf;simp;subst Zf;apply Za;intro b1 Zf;simp[c3];subst Zf;apply Zi;intro b1 Zf;apply Za;intro b2 ZT;simp[TH];subst ZT;refine Zb (t:=false) (by simp) ?_;apply Zr;subst Zf;apply Za;intro b1 Zf;simp;subst Zf;apply ZZ;simp;exact⟨_,_,⟨rfl,rfl⟩,k3,o1,o2⟩
end
def sI(b:Bool):Int:=if b then-1 else 1
theorem mulS(b:Bool){c:Int}(hc:c= -1\/c=0\/c=1):Zd .mul .i64 (sI b) c=some (.int .i64 (sI b*c)):=by rcases hc with rfl|rfl|rfl<;>cases b<;>rfl
theorem xf(b:Bool):IntKind.i64.wrap (0-sI b)=sI (!b):=by cases b<;>rfl
theorem fJ(b:Bool):sI (!b)= -sI b:=by cases b<;>rfl
theorem ny(b:Bool):IntKind.i64.wrap (-sI b)=sI (!b):=by cases b<;>rfl
section
variable {H : AH} {u v va vb : Value} {xs ys : List Nat}
theorem Ej{A0 B0 C0 D0:Nat}{v0 v1 v2 v3:Value}(h0:Sl H v0 (ds Zc A0))(h1:Sl H v1 (ds Zc B0))(h2:Sl H v2 (ds Zc C0))(h3:Sl H v3 (ds Zc D0))(lA:Zq A0<=67108864)(lB:Zq B0<=67108864)(lC:Zq C0<=67108864)(lD:Zq D0<=67108864)(hB:0<B0)(hD:0<D0): ∃H',ZU Tryz.prog ZY 122 [v0,v1,v2,v3] H=some (.int .i64 (Wn (A0*D0) (C0*B0)),H')/\Zj H H':=by
 obtain⟨R,hR⟩:=hid (Wn (A0*D0) (C0*B0));suffices h:CW Tryz.prog ZY 122 [v0,v1,v2,v3] H fun v H'=>v= .int .i64 R/\Zj H H' by obtain⟨v,H',hc,rfl,k⟩:=h;rw[<-hR];exact⟨H',hc,k⟩
 refine Yd 61 Tryz.func122 ?_;apply Za;intro b1 Zf;simp;subst Zf;apply Za;intro b1 Zf;simp;subst Zf;apply ZR;refine YS (fun n s'=>s'.k=61/\Zj H s'.H/\ ∃(A B C D:Nat) (g:Bool) (a b c d:Value),B+D=n/\0<B/\0<D/\Zq A<=67108864/\Zq B<=67108864/\Zq C<=67108864/\Zq D<=67108864/\R=sI g*Wn (A*D) (C*B)/\Sl s'.H a (ds Zc A)/\Sl s'.H b (ds Zc B)/\Sl s'.H c (ds Zc C)/\Sl s'.H d (ds Zc D)/\s'.tm.get 0=some a/\s'.tm.get 1=some b/\s'.tm.get 2=some c/\s'.tm.get 3=some d/\s'.tm.get 9=some (.int .i64 (sI g))) ?_ (B0+D0) _ ⟨rfl,.refl H,A0,B0,C0,D0,false,v0,v1,v2,v3,rfl,hB,hD,lA,lB,lC,lD,by rw[hR];simp[sI],h0,h1,h2,h3,by simp,by simp,by simp,by simp,by simp[sI]⟩;rintro n ⟨k,tm,H1⟩ ⟨hk,kH,A,B,C,D,g,a,b,c,d,hn,hB,hD,lA,lB,lC,lD,Nc,ha,hb,hc,hd,t0,t1,t2,t3,t9⟩ Q' YA;simp only at hk kH ha hb hc hd t0 t1 t2 t3 t9;subst hk;obtain⟨p,x,H2,c2,k2,op,ox⟩:=MS ha hb lA lB hB;obtain⟨q,y,H3,c3,k3,oq,oy⟩:=MS (hc.keep k2) (hd.keep k2) lC lD hD;have op':=op.sl.keep k3;have ox':=ox.sl.keep k3;have Is:=cw (A:=A) (C:=C) hB hD;have lx:A%B<B:=Nat.mod_lt _ hB;have ly:C%D<D:=Nat.mod_lt _ hD;have bP:=Nat.le_trans (Ye (Nat.div_le_self A B)) lA;have bQ:=Nat.le_trans (Ye (Nat.div_le_self C D)) lC;have bX:=Nat.le_trans (Ye (Nat.le_of_lt lx)) lB;have bY:=Nat.le_trans (Ye (Nat.le_of_lt ly)) lD;obtain⟨vc,Hc,cc,ec,mi⟩:=UR op' oq.sl (Yx Z2 _) (Yx Z2 _) (Nat.le_trans (Zx bP) (by decide)) (Nat.le_trans (Zx bQ) (by decide));rw[YL Z2,YL Z2]at mi;rw[ec,mi]at cc;obtain⟨P,hP⟩:=hid (A/B);obtain⟨X,hX⟩:=hid (A%B);obtain⟨Q,hQ⟩:=hid (C/D);obtain⟨Y,hY⟩:=hid (C%D);rw[<-hP,<-hQ,<-hX,<-hY]at Is;rw[<-hP,<-hQ]at cc;rw[<-hX]at ox' lx bX;rw[<-hY]at oy ly bY;have dp:=GD P Q;obtain⟨cm,je⟩:=hid (Wn P Q);rw[<-je]at cc dp Is;have gn:Zd .neq .i64 cm 0=some (.bool (decide (cm≠0))):=SJ;have eZ:=kH.trans (k2.trans k3);apply Zi;intro b1 Zf;apply ZR;apply Za;intro b2 ZT;simp[t0,t1,c2];subst ZT;apply Za;intro b2 ZT;simp[t2,t3,c3];subst ZT;apply Zi;intro b2 ZT;apply Za;intro b3 Z4;simp[cc];subst Z4;apply Za;intro b3 Z4;simp[gn];subst Z4;by_cases hz:cm≠0;·have Tl:P≠Q:=fun e=>hz (by rw[je,e,Qx]);rw[if_neg Tl]at Is;rw[Is]at Nc;refine Zb (t:=true) (by simp[hz]) ?_;apply Za;intro b3 Z4;simp[t9,mulS g dp];subst Z4;apply ZZ;simp[YQ,Yv];apply YA;simp[TI,Yv,YQ];exact⟨Nc.symm,eZ⟩
 ·have wq:cm=0:=by omega
  have heq:P=Q:=by
   rcases Nat.lt_trichotomy P Q with h|h|h;·rw[Tt h]at je;omega
   ·exact h
   ·rw[Ts h]at je;omega
  rw[if_pos heq]at Is;rw[Is]at Nc;refine Zb (t:=false) (by simp[wq]) ?_;apply Zr;subst ZT;have nk:=ox'.len Zu;have w7:=oy.sl.len Zu;obtain⟨m1,jm⟩:=hid ((ds Zc X).length);obtain⟨m2,AX⟩:=hid ((ds Zc Y).length);rw[<-jm]at nk;rw[<-AX]at w7;have z1:m1=0↔X=0:=by rw[jm];exact Wg Z2
  have z2:m2=0↔Y=0:=by rw[AX];exact Wg Z2
  have e1:=We (k:= .i64) (x:=m1);have e2:=We (k:= .i64) (x:=m2);apply Zi;intro b2 ZT;apply ZR;by_cases Lx:m1=0
  ·have sf:=z1.mp Lx;rw[decide_eq_true Lx]at e1;rw[sf,Nat.zero_mul]at Nc;by_cases Lk:m2=0;·have pk:=z2.mp Lk;rw[decide_eq_true Lk]at e2;rw[pk,Nat.zero_mul,Qx,Int.mul_zero]at Nc;apply Za;intro b3 Z4;simp[nk,e1,w7,e2];subst Z4;refine Zb (t:=true) (by simp) ?_;apply Za;intro b3 Z4;simp;subst Z4;apply ZZ;simp[YQ,Yv];apply YA;simp[TI,Yv,YQ];exact⟨Nc.symm,eZ⟩
   ·have pk:0<Y:=by have: ¬Y=0:=fun h=>Lk (z2.mpr h);omega
    rw[decide_eq_false Lk]at e2;rw[Tt (Nat.mul_pos pk hB)]at Nc;have Nc:R=sI (!g):=by rw[Nc,fJ];omega
    apply Za;intro b3 Z4;simp[nk,e1,w7,e2];subst Z4;refine Zb (t:=false) (by simp) ?_;apply Za;intro b3 Z4;simp[nk,e1];subst Z4;refine Zb (t:=true) (by simp) ?_;apply Za;intro b3 Z4;simp[t9,xf,ny];subst Z4;apply ZZ;simp[YQ,Yv];apply YA;simp[TI,Yv,YQ];exact⟨Nc.symm,eZ⟩
  ·have sf:0<X:=by have: ¬X=0:=fun h=>Lx (z1.mpr h);omega
   rw[decide_eq_false Lx]at e1;by_cases Lk:m2=0;·have pk:=z2.mp Lk;rw[decide_eq_true Lk]at e2;rw[pk,Nat.zero_mul,Ts (Nat.mul_pos sf hD),Int.mul_one]at Nc;apply Za;intro b3 Z4;simp[nk,e1];subst Z4;refine Zb (t:=false) (by simp) ?_;apply Za;intro b3 Z4;simp[nk,e1];subst Z4;refine Zb (t:=false) (by simp) ?_;apply Za;intro b3 Z4;simp[w7,e2];subst Z4;refine Zb (t:=true) (by simp) ?_;apply Za;intro b3 Z4;simp[t9];subst Z4;apply ZZ;simp[YQ,Yv];apply YA;simp[TI,Yv,YQ];exact⟨Nc.symm,eZ⟩
   ·have pk:0<Y:=by have: ¬Y=0:=fun h=>Lk (z2.mpr h);omega
    rw[decide_eq_false Lk]at e2;have Nc:R=sI (!g)*Wn (B*Y) (D*X):=by rw[Nc,fJ,B9,Nat.mul_comm Y B,Nat.mul_comm X D,Int.neg_mul,Int.mul_neg]
    apply Za;intro b3 Z4;simp[nk,e1];subst Z4;refine Zb (t:=false) (by simp) ?_;apply Za;intro b3 Z4;simp[nk,e1];subst Z4;refine Zb (t:=false) (by simp) ?_;apply Za;intro b3 Z4;simp[w7,e2];subst Z4;refine Zb (t:=false) (by simp) ?_;apply Zr;subst ZT;apply Zl;simp[t1,t3];subst Zf;apply Zl;simp[t9,xf,ny];apply YA;exact⟨X+Y,by omega,rfl,eZ,B,X,D,Y,!g,b,x,d,y,rfl,sf,pk,lB,bX,lD,bY,Nc,(hb.keep k2).keep k3,ox',(hd.keep k2).keep k3,oy.sl,by simp,by simp,by simp,by simp,by simp⟩
end
def VI(base:Nat)(l:List Nat)(ms:List (Nat×Nat×Nat)):Prop:= ∀x∈ms,x.1∈l/\base<=x.2.1
theorem VI.nil(base:Nat):VI base [] []:=fun x hx=>by cases hx
theorem VI.cons{base i a b:Nat}{l:List Nat}{ms:List (Nat×Nat×Nat)}(h:VI base l ms)(ha:base<=a):VI base (i::l) (cond (Nat.blt a b) ((i,a,b)::ms) ms):=fun x hx=>by cases hb:Nat.blt a b with
 |false=>rw[hb,cond_false]at hx;exact⟨List.mem_cons_of_mem _ (h x hx).1,(h x hx).2⟩
 |true=>
  rw[hb,cond_true]at hx;rcases List.mem_cons.mp hx with e|e;·rw[e];exact⟨List.mem_cons_self ..,ha⟩
  ·exact⟨List.mem_cons_of_mem _ (h x e).1,(h x e).2⟩
theorem VI.hid{base:Nat}{l:List Nat}{ms:List (Nat×Nat×Nat)}(h:VI base l ms){bits:Nat}(hb:l.all (fun i=>bits.testBit i)=true):hidden bits ms=[]:=Yr fun x hx=>List.all_eq_true.mp hb _ (h x hx).1
theorem VI.ge{base:Nat}{l:List Nat}{ms:List (Nat×Nat×Nat)}(h:VI base l ms): ∀x∈ms,base<=x.2.1:=fun x hx=>(h x hx).2
section
variable {P : Program} {C : Ev.Cfg} {X : Ev.Xs} {ops : Array Oper} {k i : Nat} {q : Bool} {ms : List (Nat × Nat × Nat)} {tm : Tr Value} {H : AH} {K : Tr Value -> AH -> Prop}
theorem WW{o:Oper}{r:List Oper}{v:Value}(he:ZF P C (ZU P C) tm H.top o.op=some (v,H.top))(h:match o.dst with|none=>DW X P C ops k (i+1) false [] r tm H K|some d=>d<k/\DW X P C ops k (i+1) false [] r (tm.set d v) H K)(hg:gW tm (Yf ops o)=some true:=by exact rfl)(hh:Zw o.op=true:=by exact rfl)(hf:X.fv i=none:=by first|rfl|kernel_rfl):DG X P C ops k i false [] (o::r) tm H K:=Z7 hg hh rfl (by rw[Z1 rfl];exact he) h hf
theorem XL{base:Nat}{l:List Nat}{o:Oper}{r:List Oper}{v:Value}{H2 J:AH}(M:VI base l ms)(k2:Zj H.top H2)(hJ:J=grown H H2)(he:ZF P C (ZU P C) tm H.top o.op=some (v,H2))(h: ∀w9,VI base (i::l) w9->match o.dst with|none=>DW X P C ops k (i+1) false w9 r tm J K|some d=>d<k/\DW X P C ops k (i+1) false w9 r (tm.set d v) J K)(hb:base<=H.n:=by omega)(hl:l.all (fun j=>((before ops).getD i 0).testBit j)=true:=by kernel_rfl)(hg:gW tm (Yf ops o)=some true:=by exact rfl)(hh:Zw o.op=true:=by exact rfl)(hf:X.fv i=none:=by first|rfl|kernel_rfl):DG X P C ops k i false ms (o::r) tm H K:=by subst hJ;exact YJ hg hh rfl (H2:=H2) (by rw[Z1 (M.hid hl)];exact he) k2.n (YD k2) (h _ (M.cons hb)) hf
theorem PL{base:Nat}{l:List Nat}{o:Oper}{r:List Oper}{v:Value}{S F:AH}(M:VI base l ms)(hn:S.n=H.n)(Nh:S.lw<H.n)(hF:F=low H S)(he:ZF P C (ZU P C) tm H.top o.op=some (v,S))(h:match o.dst with|none=>DW X P C ops k (i+1) true ms r tm F K|some d=>d<k/\DW X P C ops k (i+1) true ms r (tm.set d v) F K)(hl:l.all (fun j=>((before ops).getD i 0).testBit j)=true:=by kernel_rfl)(ha:X.al i=true:=by kernel_rfl)(hg:gW tm (Yf ops o)=some true:=by exact rfl)(hh:Zw o.op=true:=by exact rfl)(hf:X.fv i=none:=by first|rfl|kernel_rfl):DG X P C ops k i q ms (o::r) tm H K:=by subst hF;refine YO hg hh ha (M.hid hl) (H2:=S) he (Nat.le_of_eq hn.symm) Nh ?_ hf;rw[show Nat.blt H.n S.n=false from by rw[hn];exact Xu _,cond_false];exact h
end
def Qk(s:Bool)(A B:Nat)(t:Bool)(C D:Nat):Int:=if Vc s A≠Vc t C then(if Vc s A<Vc t C then-1 else 1)else Vc s A*Wn (A*D) (C*B)
theorem FB{x y:Int} :Zd .lss .i64 x y=some (.bool (decide (x<y))):=rfl
theorem OP(s:Bool)(A:Nat):Vc s A= -1\/Vc s A=0\/Vc s A=1:=by
 unfold Vc;split;·exact .inr (.inl rfl)
 ·split;·exact .inl rfl
  ·exact .inr (.inr rfl)
theorem xc{a c:Int}(ha:a= -1\/a=0\/a=1)(hc:c= -1\/c=0\/c=1):Zd .mul .i64 a c=some (.int .i64 (a*c)):=by rcases ha with rfl|rfl|rfl<;>rcases hc with rfl|rfl|rfl<;>rfl
section
variable {H : AH} {u v w z : Value}
theorem Wy(s t:Bool){A B C D:Nat}(ha:Sl H u (ds Zc A))(hb:Sl H v (ds Zc B))(hc:Sl H w (ds Zc C))(hd:Sl H z (ds Zc D))(lA:Zq A<=67108864)(lB:Zq B<=67108864)(lC:Zq C<=67108864)(lD:Zq D<=67108864)(hB:0<B)(hD:0<D): ∃H',ZU Tryz.prog ZY 80 [.agg #[.bool s,u,v],.agg #[.bool t,w,z]] H=some (.tuple #[.int .i64 (Qk s A B t C D),.int .i64 0],H')/\Zj H H':=by
 obtain⟨R,hR⟩:=hid (Qk s A B t C D);suffices h:CW Tryz.prog ZY 80 [.agg #[.bool s,u,v],.agg #[.bool t,w,z]] H fun r H'=>r= .tuple #[.int .i64 R,.int .i64 0]/\Zj H H' by obtain⟨r,H',hc,rfl,k⟩:=h;rw[<-hR];exact⟨H',hc,k⟩
 unfold Qk at hR;obtain⟨H2,e2,k2,n2,q0,q1,q2,q3⟩:=Of H [.bool s,u,v] [.bool t,w,z] [.int .i64 0] [.int .i64 0];have k3:=Zj.new H2 3 [.bool s,u,v,.bool t,w,z];obtain⟨H4,c4,k4⟩:=Uv (KU (ha.trio hb (s:=s)) ((hb.keep k2).keep k3) lB hB (hc.trio hd (s:=t)) ((hd.keep k2).keep k3) lD hD) (by decide);obtain⟨H3,N2⟩:=hid (H2.new 3 [.bool s,u,v,.bool t,w,z]);rw[<-N2]at k3 c4 k4;have sQ:=k3.trans k4;have P3:=k2.trans sQ;have n4:=sQ.n;have r0:H4.blk H.n= .rw 1 [.bool s,u,v]:=by rw[sQ.blk _ (by omega)];exact q0
 have r1:H4.blk (H.n+1)= .rw 1 [.bool t,w,z]:=by rw[sQ.blk _ (by omega)];exact q1
 obtain⟨E1,c5,U4⟩:=OR s ((ha.keep P3).top) hb.shape lA;obtain⟨G1,Td⟩:=hid (grown H4 E1);have WT:Zj H4 G1:=by rw[Td];exact Yo (.refl H4) U4
 have Mk:H4.n<=E1.n:=U4.n;obtain⟨E2,c6,AN⟩:=OR t ((hc.keep (P3.trans WT)).top) hd.shape lC;obtain⟨G2,Fw⟩:=hid (grown G1 E2);have Br:Zj G1 G2:=by rw[Fw];exact Yo (.refl G1) AN
 have xe:G1.n<=E2.n:=AN.n;have kH:=WT.trans Br;have ng:=kH.n;have sx:=OP s A;obtain⟨x,hx⟩:=hid (Vc s A);obtain⟨y,hy⟩:=hid (Vc t C);rw[<-hx]at c5 hR sx;rw[<-hy]at c6 hR;have l2: ∀bits ms,(∀x∈ms,H4.n<=x.2.1)->Z9 Tryz.prog (PM G1 bits ms) 34 (.pointer (some ⟨H.n+1,0,none⟩))=some (.agg #[.bool t,w,z]):=fun bits ms h=>YR (by rw[(Wb WT h).blk _ (by omega)];exact r1);have sS:=P3.trans kH;have f0:G2.blk H.n= .rw 1 [.bool s,u,v]:=by rw[kH.blk _ (by omega)];exact r0
 have f1:G2.blk (H.n+1)= .rw 1 [.bool t,w,z]:=by rw[kH.blk _ (by omega)];exact r1
 have f2:G2.blk (H.n+2)= .rw 1 [.int .i64 0]:=by rw[(sQ.trans kH).blk _ (by omega)];exact q2
 have f3:G2.blk (H.n+3)= .rw 1 [.int .i64 0]:=by rw[(sQ.trans kH).blk _ (by omega)];exact q3
 have gn:Zd .neq .i64 x y=some (.bool (decide (x≠y))):=SJ;have gl:Zd .lss .i64 x y=some (.bool (decide (x<y))):=FB;have early: ∀a:Int,∃F1 F2,YV Tryz.prog G2 3 (.pointer (some ⟨H.n+2,0,none⟩)) (.int .i64 a)=some F1/\YV Tryz.prog F1 23 (.pointer (some ⟨H.n+3,0,none⟩)) (.int .i64 0)=some F2/\F2.blk (H.n+2)= .rw 1 [.int .i64 a]/\F2.blk (H.n+3)= .rw 1 [.int .i64 0]/\Zj H F2/\F2.n=G2.n:=fun a=>by
  obtain⟨F1,Sx,m1,p1,b1,ka1⟩:=xT (e:=a) f2;have f3':F1.blk (H.n+3)= .rw 1 [.int .i64 0]:=by rw[b1 _ (by omega)];exact f3
  obtain⟨F2,Tq,m2,p2,b2,ig⟩:=KD (e:=0) f3';exact⟨F1,F2,Sx,Tq,by rw[b2 _ (by omega)];exact p1,p2,ig H (ka1 H sS (by omega)) (by omega),by omega⟩
 refine Wu 40 (by decide) (by decide) Tryz.func80 rfl rfl rfl ?_;intro b1 Zf;apply Zl;simp[Value.cells,aI,Jh,XV,e2];refine⟨_,_,⟨rfl,rfl⟩,?_⟩;subst Zf;apply Za;intro b1 Zf;simp[YR q0,YR q1,Pg,<-N2,c4];subst Zf;apply Zi;intro b1 Zf;apply Y8 (by kernel_rfl);simp;refine Z7 (v:= .agg #[.bool s,u,v]) rfl rfl rfl (by rw[Z1 rfl];simp[YR (H:=H4.top) r0]) ?_;simp;refine YJ (v:= .int .i64 x) (H2:=E1) rfl rfl rfl (by rw[Z1 rfl];simp[c5]) Mk (YD U4) ?_;rw[<-Td];have E9:=(VI.nil H4.n).cons (i:=1) (a:=H4.n) (b:=E1.n) (Nat.le_refl _);generalize cond (Nat.blt H4.n E1.n) _ _=ms at E9;simp;refine Z7 (v:= .agg #[.bool t,w,z]) rfl rfl rfl (by simp[l2 _ ms E9.ge]) ?_;simp;refine YJ (v:= .int .i64 y) (H2:=E2) rfl rfl rfl ?_ xe (YD AN) ?_;·rw[Z1 (E9.hid (by kernel_rfl))];simp[c6]
 rw[<-Fw];simp;subst Zf;clear E9;apply Zi;intro b1 Zf;apply Za;intro b2 ZT;simp[gn];subst ZT;by_cases Bn:x≠y
 ·rw[if_pos Bn]at hR;refine Zb (t:=true) (by simp[Bn]) ?_;apply Zi;intro b2 ZT;apply Za;intro b3 Z4;simp[gl];subst Z4;by_cases YX:x<y
  ·rw[if_pos YX]at hR;subst hR;obtain⟨F1,F2,Sx,Tq,p1,p2,kF,nF⟩:=early (-1);refine Zb (t:=true) (by simp[YX]) ?_;apply Za;intro b3 Z4;simp[Sx,Tq];subst Z4;apply ZZ;simp[YQ,Vw];refine RO p1 p2 (by omega) (by omega) (by omega) fun H8 hS=>?_;have z4:H8.blk (H.n+2)= .rw 1 [.int .i64 (-1)]:=by rw[hS.2.1 _ (by omega)];exact p1
   have z5:H8.blk (H.n+3)= .rw 1 [.int .i64 0]:=by rw[hS.2.1 _ (by omega)];exact p2
   simp[Iw z4,Tw z5];exact hS.keep kF (by omega)
  ·rw[if_neg YX]at hR;subst hR;obtain⟨F1,F2,Sx,Tq,p1,p2,kF,nF⟩:=early 1;refine Zb (t:=false) (by simp[YX]) ?_;apply Zr;subst ZT;apply Za;intro b2 ZT;simp[Sx,Tq];subst ZT;apply ZZ;simp[YQ,Vw];refine RO p1 p2 (by omega) (by omega) (by omega) fun H8 hS=>?_;have z4:H8.blk (H.n+2)= .rw 1 [.int .i64 1]:=by rw[hS.2.1 _ (by omega)];exact p1
   have z5:H8.blk (H.n+3)= .rw 1 [.int .i64 0]:=by rw[hS.2.1 _ (by omega)];exact p2
   simp[Iw z4,Tw z5];exact hS.keep kF (by omega)
 ·have hxy0:x=y:=Decidable.not_not.mp Bn;rw[if_neg Bn]at hR;refine Zb (t:=false) (by simp[hxy0]) ?_;apply Zr;subst Zf;obtain⟨g1,I1,d1,jY,zQ⟩:=Vk ((ha.keep sS).top) (Yx Z2 A) (Nat.le_trans (Zx lA) (by decide));obtain⟨J1,Au⟩:=hid (grown G2 I1);have eY:Zj G2 J1:=by rw[Au];exact Yo (.refl _) jY
  obtain⟨g2,I2,d2,jX,zP⟩:=Vk ((hb.keep (sS.trans eY)).top) (Yx Z2 B) (Nat.le_trans (Zx lB) (by decide));obtain⟨J2,Av⟩:=hid (grown J1 I2);have m8:Zj J1 J2:=by rw[Av];exact Yo (.refl _) jX
  have qu:=eY.trans m8;obtain⟨g3,I3,d3,ie,xu⟩:=Vk ((hc.keep (sS.trans qu)).top) (Yx Z2 C) (Nat.le_trans (Zx lC) (by decide));obtain⟨J3,Ba⟩:=hid (grown J2 I3);have wO:Zj J2 J3:=by rw[Ba];exact Yo (.refl _) ie
  have nf:=qu.trans wO;obtain⟨g4,I4,d4,zw,oI4⟩:=Vk ((hd.keep (sS.trans nf)).top) (Yx Z2 D) (Nat.le_trans (Zx lD) (by decide));obtain⟨J4,hJ4⟩:=hid (grown J3 I4);have zx:Zj J3 J4:=by rw[hJ4];exact Yo (.refl _) zw
  have kk4:=nf.trans zx;rw[YL Z2]at zQ zP xu oI4;have s1:Sl J4 g1 (ds Zc A):=((((by rw[Au];exact zQ.same (Yz jY):Ym G2.top.n J1 g1 (ds Zc A)).sl.keep m8).keep wO).keep zx);have s2:Sl J4 g2 (ds Zc B):=(((by rw[Av];exact zP.same (Yz jX):Ym J1.top.n J2 g2 (ds Zc B)).sl.keep wO).keep zx);have s3:Sl J4 g3 (ds Zc C):=((by rw[Ba];exact xu.same (Yz ie):Ym J2.top.n J3 g3 (ds Zc C)).sl.keep zx);have s4:Sl J4 g4 (ds Zc D):=(by rw[hJ4];exact oI4.same (Yz zw):Ym J3.top.n J4 g4 (ds Zc D)).sl;obtain⟨I5,d5,kI5⟩:=Ej s1.top s2.top s3.top s4.top lA lB lC lD hB hD;obtain⟨J5,hJ5⟩:=hid (grown J4 I5);have kJ5:Zj J4 J5:=by rw[hJ5];exact Yo (.refl _) kI5
  have zz:=kk4.trans kJ5;have m1:G2.n<=I1.n:=jY.n;have m2:J1.n<=I2.n:=jX.n;have m3:J2.n<=I3.n:=ie.n;have m4:J3.n<=I4.n:=zw.n;have m5:J4.n<=I5.n:=kI5.n;have nk1:=eY.n;have nk2:=qu.n;have nk3:=nf.n;have nk4:=kk4.n;have nk5:=zz.n;obtain⟨cm,dp⟩:=hid (Wn (A*D) (C*B));rw[<-dp]at d5 hR;have gm:=xc sx (show cm= -1\/cm=0\/cm=1 by rw[dp];exact GD _ _);rw[<-hR]at gm;have vk: ∀{J:AH}(k:Zj G2 J){bits ms},(∀x∈ms,G2.n<=x.2.1)-> ∀b,b<G2.n->(PM J bits ms).blk b=G2.blk b:=fun k _ _ h b hb=>(Wb k h).blk b hb;have w2:J5.blk (H.n+2)= .rw 1 [.int .i64 0]:=by rw[zz.blk _ (by omega)];exact f2
  have w3:J5.blk (H.n+3)= .rw 1 [.int .i64 0]:=by rw[zz.blk _ (by omega)];exact f3
  obtain⟨S1,Sx,Q6,V2,PA,SN,U2,Rn⟩:=UY (v:= .int .i64 R) (ws:=[.int .i64 R]) Cu w2 (by omega) rfl rfl rfl rfl;obtain⟨F1,Qe⟩:=hid (low J5 S1);rw[<-Qe]at PA SN U2 Rn;have w3':F1.blk (H.n+3)= .rw 1 [.int .i64 0]:=by rw[U2 _ (by omega)];exact w3
  obtain⟨S2,Tq,bj,TO,NQ,SX,Rp,Qd⟩:=UY (v:= .int .i64 0) (ws:=[.int .i64 0]) NY w3' (by omega) rfl rfl rfl rfl;obtain⟨F,hF⟩:=hid (low F1 S2);rw[<-hF]at NQ SX Rp Qd;have p1:F.blk (H.n+2)= .rw 1 [.int .i64 R]:=by rw[Rp _ (by omega)];exact SN
  have kF:Zj H F:=Qd H (Rn H (sS.trans zz) (by omega)) (by omega);apply Zi;intro b1 Zf;apply Y8 (by kernel_rfl);simp[Sq,Tb];refine Z7 (v:=u) rfl rfl rfl (by rw[Z1 rfl];simp[Vp (H:=G2.top) f0]) ?_;simp;refine YJ (v:=g1) (H2:=I1) rfl rfl rfl (by rw[Z1 rfl];simp[d1]) m1 (YD jY) ?_;rw[<-Au];have E9:=(VI.nil G2.n).cons (i:=4) (a:=G2.n) (b:=I1.n) (Nat.le_refl _);generalize cond (Nat.blt G2.n I1.n) _ _=ms at E9;simp[QU];refine Z7 (v:=v) rfl rfl rfl (by simp[Vq ((vk eY E9.ge _ (by omega)).trans f0)]) ?_;simp;refine YJ (v:=g2) (H2:=I2) rfl rfl rfl (by rw[Z1 (E9.hid (by kernel_rfl))];simp[d2]) m2 (YD jX) ?_;rw[<-Av];have fi:=E9.cons (i:=7) (a:=J1.n) (b:=I2.n) (by omega);generalize cond (Nat.blt J1.n I2.n) _ _=w9 at fi;simp[Sq,Tb];refine Z7 (v:=w) rfl rfl rfl (by simp[Vp ((vk qu fi.ge _ (by omega)).trans f1)]) ?_;simp;refine YJ (v:=g3) (H2:=I3) rfl rfl rfl (by rw[Z1 (fi.hid (by kernel_rfl))];simp[d3]) m3 (YD ie) ?_;rw[<-Ba];have qP:=fi.cons (i:=11) (a:=J2.n) (b:=I3.n) (by omega);generalize cond (Nat.blt J2.n I3.n) _ _=ms'' at qP;simp[QU];refine Z7 (v:=z) rfl rfl rfl (by simp[Vq ((vk nf qP.ge _ (by omega)).trans f1)]) ?_;simp;refine YJ (v:=g4) (H2:=I4) rfl rfl rfl (by rw[Z1 (qP.hid (by kernel_rfl))];simp[d4]) m4 (YD zw) ?_;rw[<-hJ4];have ms4:=qP.cons (i:=14) (a:=J3.n) (b:=I4.n) (by omega);generalize cond (Nat.blt J3.n I4.n) _ _=ms4' at ms4;simp;refine YJ (v:= .int .i64 cm) (H2:=I5) rfl rfl rfl (by rw[Z1 (ms4.hid (by kernel_rfl))];simp[d5]) m5 (YD kI5) ?_;rw[<-hJ5];have ms5:=ms4.cons (i:=15) (a:=J4.n) (b:=I5.n) (by omega);generalize cond (Nat.blt J4.n I5.n) _ _=ms5' at ms5;simp[gm];refine YO (v:= .tuple #[]) (H2:=S1) rfl rfl (by kernel_rfl) (ms5.hid (by kernel_rfl)) ?_ (by omega) V2 ?_;·show ZF _ _ _ _ J5.top _=_;simp[Sx]
  rw[show({ n:=S1.n,lw:=min J5.lw S1.lw,t:=S1.t } :AH)=F1 from Qe.symm];rw[show Nat.blt J5.n S1.n=false from by rw[Q6];exact Xu _,cond_false];simp;refine YO (v:= .tuple #[]) (H2:=S2) rfl rfl (by kernel_rfl) (ms5.hid (by kernel_rfl)) ?_ (by omega) TO ?_;·show ZF _ _ _ _ F1.top _=_;simp[Tq]
  rw[show({ n:=S2.n,lw:=min F1.lw S2.lw,t:=S2.t } :AH)=F from hF.symm];simp;subst Zf;apply ZZ;simp[Vw];refine RO p1 SX (by omega) (by omega) (by omega) fun H8 hS=>?_;have z4:H8.blk (H.n+2)= .rw 1 [.int .i64 R]:=by rw[hS.2.1 _ (by omega)];exact p1
  have z5:H8.blk (H.n+3)= .rw 1 [.int .i64 0]:=by rw[hS.2.1 _ (by omega)];exact SX
  simp[Iw z4,Tw z5];exact hS.keep kF (by omega)
end
theorem GV:XY Tryz.prog 57=some true:=by kernel_rfl
theorem SE:Xh Tryz.prog 57=some 4:=by kernel_rfl
theorem Xr:W0 Tryz.prog 57=some (.agg #[.int .i64 0,.bool false,.slice none 0 0,.slice none 0 0]):=by kernel_rfl
theorem tk:XY Tryz.prog 55=some false:=by kernel_rfl
theorem Ru{H:AH}{b:Nat}{k p q r:Value}(hb:H.blk b= .rw 1 [k,p,q,r]):Z9 Tryz.prog H 57 (.pointer (some ⟨b,0,none⟩))=some (.agg #[k,p,q,r]):=by unfold Z9;simp only[GV,SE,AH.read_def,hb];simp[AH.cells_rw' hb,show Nat.ble 4 4=true from rfl]
theorem Vo{H:AH}{b:Nat}{k p q r:Value}(hb:H.blk b= .rw 1 [k,p,q,r]):Z9 Tryz.prog H 55 (.pointer (some ⟨b,0,none⟩))=some k:=Yj tk (AH.cells_rw' hb (by decide)) rfl
theorem QH{H:AH}{b:Nat}{k p q r:Value}(hb:H.blk b= .rw 1 [k,p,q,r]):Z9 Tryz.prog H 34 (.pointer (some ⟨b,1,none⟩))=some (.agg #[p,q,r]):=QF (AH.cells_rw' hb (by decide)) rfl rfl
theorem Ql(b:Nat):Ys Tryz.prog 57 (.pointer (some ⟨b,0,none⟩)) 0=some (.pointer (some ⟨b,0,none⟩)):=by kernel_rfl
theorem JZ(b:Nat):Ys Tryz.prog 57 (.pointer (some ⟨b,0,none⟩)) 1=some (.pointer (some ⟨b,1,none⟩)):=by kernel_rfl
theorem kh{H:AH}{b:Nat}{k' p' q' r' p q r:Value}{k:Int}(hb:H.blk b= .rw 1 [k',p',q',r'])(ht:U7 p q r): ∃H',YV Tryz.prog H 57 (.pointer (some ⟨b,0,none⟩)) (.agg #[.int .i64 k,p,q,r])=some H'/\H'.n=H.n/\H'.blk b= .rw 1 [.int .i64 k,p,q,r]/\(∀j,j≠b->H'.blk j=H.blk j)/\Vz b H H':=by obtain⟨⟨s,rfl⟩,⟨a1,l1,c1,rfl⟩,⟨a2,l2,c2,rfl⟩⟩:=ht;exact TQ SE hb rfl rfl rfl rfl
theorem tW{p q r:Value}{k:Int}(ht:U7 p q r):Wt Tryz.prog 57 [(0,.int .i64 k),(1,.agg #[p,q,r])]=some (.agg #[.int .i64 k,p,q,r]):=by obtain⟨⟨s,rfl⟩,⟨a1,l1,c1,rfl⟩,⟨a2,l2,c2,rfl⟩⟩:=ht;rfl
theorem bL:Wt Tryz.prog 57 []=some (.agg #[.int .i64 0,.bool false,.slice none 0 0,.slice none 0 0]):=by rfl
section
variable {H : AH} {u v w z : Value}
theorem X2(H:AH): ∃H',ZU Tryz.prog ZY 152 [] H=some (.agg #[.int .i64 0,.bool false,.slice none 0 0,.slice none 0 0],H')/\Zj H H':=by
 suffices h:CW Tryz.prog ZY 152 [] H fun v H'=>v= .agg #[.int .i64 0,.bool false,.slice none 0 0,.slice none 0 0]/\Zj H H' by obtain⟨v,H',hc,rfl,k⟩:=h;exact⟨H',hc,k⟩
 obtain⟨H2,e2,k2,n2,q1⟩:=Wc H [.int .i64 0,.bool false,.slice none 0 0,.slice none 0 0];obtain⟨H3,Sc,n3,q3,b3,Ll⟩:=kh (k:=0) q1 (p:= .bool false) (q:= .slice none 0 0) (r:= .slice none 0 0) ⟨⟨_,rfl⟩,⟨_,_,_,rfl⟩,⟨_,_,_,rfl⟩⟩;have eZ:Zj H H3:=Ll H k2 (by omega);have Y1:=Ru q3;refine Yd 2 Tryz.func152 ?_;apply Za;intro b1 Zf;simp[Value.cells,Xr,e2];subst Zf;apply Za;intro b1 Zf;simp[bL,Sc];subst Zf;apply ZZ;simp[Y1];exact eZ
theorem Ux{p q r:Value}(ht:U7 p q r)(H:AH): ∃H',ZU Tryz.prog ZY 151 [.agg #[p,q,r],.int .i64 0] H=some (.agg #[.int .i64 1,p,q,r],H')/\Zj H H':=by
 suffices h:CW Tryz.prog ZY 151 [.agg #[p,q,r],.int .i64 0] H fun v H'=>v= .agg #[.int .i64 1,p,q,r]/\Zj H H' by obtain⟨v,H',hc,rfl,k⟩:=h;exact⟨H',hc,k⟩
 have Bm:=ht;obtain⟨H2,e2,k2,n2,q1,q2⟩:=Xb H [p,q,r] [.int .i64 0,.bool false,.slice none 0 0,.slice none 0 0];obtain⟨H3,Sc,n3,q3,b3,Ll⟩:=kh (k:=1) q2 ht;have eZ:Zj H H3:=Ll H k2 (by omega);have Y1:=Ru q3;have E3:=tW (k:=1) ht;obtain⟨⟨s,rfl⟩,⟨a1,l1,c1,rfl⟩,⟨a2,l2,c2,rfl⟩⟩:=Bm;refine Yd 10 Tryz.func151 ?_;apply Za;intro b1 Zf;simp[Value.cells,Xr,XV,e2];subst Zf;apply Zi;intro b1 Zf;apply Za;intro b2 ZT;simp[TH];subst ZT;refine Zb (t:=false) (by simp) ?_;apply Zr;subst Zf;apply Za;intro b1 Zf;simp[YR q1,E3,Sc];subst Zf;apply ZZ;simp[Y1];exact eZ
end
end
end
end Go.Proofs.YtmkfecoeghokfaaGreatDoor
