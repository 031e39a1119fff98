/-
  The engine and the walks that the claim's last text leans on, part 6 of 9: Sb, Sc, Sd, Se, Sf, Sg, Sh, Si, Sj, Sk, Sl, Sm, Sn, So, Sp, Sq, Sr, Ss, St, Su.
-/
import Derived.Test.YtmkfecoeghokfaaGreatDoorM5
namespace Go.Proofs.YtmkfecoeghokfaaGreatDoor
open Go Ev
set_option linter.unusedVariables false
set_option linter.unusedSimpArgs false
noncomputable section
set_option maxRecDepth 20000
theorem neq30:Zd .neq .i64 3 0=some (.bool true):=rfl
theorem Ca:Zd .neq .i64 0 0=some (.bool false):=rfl
theorem limb_step{x y c:Nat}(hx:x<B64)(hy:y<B64)(hc:c<B64):x*y/B64+(x*y%B64+c)/B64<B64∧(x*y%B64+c)%B64+B64*(x*y/B64+(x*y%B64+c)/B64)=x*y+c:=by have hx:x<18446744073709551616:=hx;have hy:y<18446744073709551616:=hy;have hc:c<18446744073709551616:=hc;have hp:x*y≤18446744073709551615*18446744073709551615:=Nat.mul_le_mul (by omega) (by omega);show x*y/18446744073709551616+(x*y%18446744073709551616+c)/18446744073709551616<18446744073709551616∧(x*y%18446744073709551616+c)%18446744073709551616+18446744073709551616*(x*y/18446744073709551616+(x*y%18446744073709551616+c)/18446744073709551616)=x*y+c;generalize x*y=p at*;omega
section
attribute [-simp] Int.natCast_add Int.natCast_mul Int.natCast_ediv Int.natCast_emod Int.natCast_pow
attribute [local simp] strip Yj LW' LR gW Yo Xi Ye Xj Yt Xh Zv Zw Zn Yv Xd Yp Xo Zz Yu Zm Zj Xm Xn Jl Yi Xe opd Qi Ys plain Yn Tr.get_set Qg Zu Xv Yg sameKind undef Zx Yw Xc Zs Yf parts unV DW Xp Yc LX Yb
section
variable {H : AH} {va vb : Value} {xs ys : List Nat}
theorem times_spec{y:Nat}(ha:Sl H va xs)(dx:Dig B64 xs)(hy:y<B64)(lx:xs.length≤2*Lim):CW Tryz.prog Zl 166 [va,.int .u64 (y:Int)] H fun v H'=>Keep H H'∧MulIs H.n (dv B64 xs*y) v H':=by
 have hLim:Lim=2000000000000:=rfl;refine Zf 56 (by decide) (by decide) Tryz.func166 rfl rfl ?_;obtain⟨v1,H1,c1,e1,s1⟩:=Ka ha (by omega);rw[e1]at c1;rw[←Ud B64 xs];have dx:=Jt dx;have lx:(Xl xs).length≤2*Lim:=Nat.le_trans (Ju xs) lx;generalize Xl xs=xs at*;have l1:=s1.len Zs;obtain⟨n,hn⟩: ∃n,n=xs.length:=⟨_,rfl⟩;rw[←hn]at l1;obtain⟨c0,H3,hmk,k3,o3,n3⟩:=Qa (H:=H) Zs (n:=n+1) (by omega);apply Zb;intro b1 hb1;apply Za;simp;subst hb1;apply Zb;intro b1 hb1;apply Za;simp[c1];subst hb1;apply Zb;intro b1 hb1;apply Za;simp[l1,Xq (x:=n) (by omega),hmk];subst hb1;apply Zb;intro b1 hb1;apply Za;simp;subst hb1;apply Zb;intro b1 hb1;apply Zb;intro b2 hb2;apply Za;simp[l1];subst hb2;apply Zp;refine Xt (fun m s'=>s'.k=56∧Keep H s'.H∧ ∃(i c:Nat) (L:List Nat),m+i=n∧L.length=i∧c<B64∧Dig B64 L∧dv B64 L+B64^i*c=dv B64 (xs.take i)*y∧Own H.n s'.H c0 (L++List.replicate (m+1) 0)∧s'.tm.get 0=some v1∧s'.tm.get 1=some (.int .u64 (y:Int))∧s'.tm.get 6=some c0∧s'.tm.get 7=some (.int .u64 (c:Int))∧s'.tm.get 20=some v1∧s'.tm.get 21=some (.int .i64 (n:Int))∧s'.tm.get 22=some (.int .i64 (i:Int))) ?_ n _ ⟨rfl,k3,0,0,[],by omega,rfl,by decide,.nil _,by simp[dv],by simpa using o3,by simp,by simp,by simp,by simp,by simp,by simp,by simp⟩;rintro m ⟨k,tm,H4⟩ ⟨hk,kH,i,c,L,hmi,hL,hc,dL,heq,own,t0,t1,t6,t7,t20,t21,t22⟩ Q' hQ';simp only at hk kH own t0 t1 t6 t7 t20 t21 t22;subst hk;apply Zb;intro b3 hb3;apply Za;simp[t21,t22];subst hb3;apply Zb;intro b3 hb3;by_cases hi:i<n
 ·refine Zc (t:=true) (by simp[hi]) ?_;apply Zh;subst hb3;obtain⟨m',rfl⟩: ∃m',m=m'+1:=⟨m-1,by omega⟩;have hi':i<xs.length:=by omega
  have sa:=s1.keep kH;obtain⟨x,hx⟩: ∃x,x=nth xs i:=⟨_,rfl⟩;have hxB:x<B64:=by rw[hx];exact Ej dx (by decide) _
  have a0:=sa.adr Zs (k:= .i64) hi';have d0:=sa.load hi';rw[←Jy hi',←hx]at d0;have a3:=own.sl.adr Zs (k:= .i64) (i:=i) (by simp;omega);obtain⟨g1,g2⟩:=limb_step hxB hy hc;obtain⟨z,hz⟩: ∃z,z=(x*y%B64+c)%B64:=⟨_,rfl⟩;obtain⟨h1,hh1⟩: ∃h1,h1=x*y/B64:=⟨_,rfl⟩;obtain⟨h2,hh2⟩: ∃h2,h2=(x*y%B64+c)/B64:=⟨_,rfl⟩;have mc:=Zc6 hxB hy H4;have ac:=Fw (x*y%B64) c H4;have hzB:z<B64:=by rw[hz];exact Nat.mod_lt _ (by decide)
  rw[←hh1]at mc;rw[←hz,←hh2]at ac;rw[←hz,←hh1,←hh2]at g2;rw[←hh1,←hh2]at g1;obtain⟨H5,st5,own5,bt5,ka5⟩:=own.fill hL z;apply Zb;intro b3 hb3;apply Zp;apply Zb;intro b4 hb4;apply Za;simp[t20,t22,a0,d0];subst hb4;apply Zb;intro b4 hb4;apply Za;simp[t1,mc];subst hb4;apply Zb;intro b4 hb4;apply Za;simp[t7,ac];subst hb4;apply Zb;intro b4 hb4;apply Za;simp[t6,a3,st5];subst hb4;apply Za;simp[addu (x:=h1) (y:=h2) g1];subst hb3;apply Za;simp[t22,Xq (x:=i) (by omega)];apply hQ';refine⟨m',by omega,rfl,ka5 H kH (Nat.le_refl _),i+1,h1+h2,L++[z],by omega,by simp[hL],g1,dL.append (.cons hzB (.nil _)),?_,own5,by simp[t0],by simp[t1],by simp[t6],by simp,by simp[t20],by simp[t21],by simp⟩;rw[Yz,hL,Jk,←hx];simp only[dv,Nat.mul_zero,Nat.add_zero];have e1:B64^i*(z+B64*(h1+h2))=B64^i*(x*y+c):=by rw[g2]
  rw[Nat.mul_add (B64^i) z,←Nat.mul_assoc (B64^i) B64,show B64^i*B64=B64^(i+1)from rfl,Nat.mul_add (B64^i) (x*y) c,←Nat.mul_assoc (B64^i) x y]at e1;rw[Nat.add_mul];omega
 ·refine Zc (t:=false) (by simp[hi]) ?_;apply Xu;apply hQ';left;refine⟨rfl,?_⟩;obtain rfl:i=n:=by omega
  obtain rfl:m=0:=by omega
  rw[List.take_of_length_le (by omega)]at heq;have a3:=own.sl.adr Zs (k:= .i64) (i:=i) (by simp;omega);obtain⟨H5,st5,own5,bt5,ka5⟩:=own.fill hL c;rw[List.replicate_zero,List.append_nil]at own5;have dLc:Dig B64 (L++[c]):=dL.append (.cons hc (.nil _));have hval:dv B64 (L++[c])=dv B64 xs*y:=by rw[Yz,hL];simp only[dv,Nat.mul_zero,Nat.add_zero];exact heq
  obtain⟨v6,H6,c6,e6,h6⟩:=Zg6 own5 dLc (by simp;omega);subst e6;rw[hval]at h6;have k5:Keep H H6:=ka5 H kH (Nat.le_refl _);have h7:MulIs H.n (dv B64 xs*y) v6 H6∧ ∃a b,v6= .tuple #[a,b]:=by
   rcases h6 with⟨h,rfl⟩|⟨h,u,rfl,o⟩;·exact⟨.inl ⟨h,rfl⟩,_,_,rfl⟩
   ·exact⟨.inr ⟨h,u,rfl,o⟩,_,_,rfl⟩
  obtain⟨h7,p,q,rfl⟩:=h7;subst hb1;apply Zb;intro b4 hb4;apply Za;simp[t0,t6,t7,l1,a3,st5];subst hb4;apply Zb;intro b4 hb4;apply Za;simp[t6,c6];subst hb4;apply Zi;simp;exact⟨k5,h7⟩
def Zr2(n0:Nat)(N y:Nat)(v:Value)(H':AH):Prop:=(67108864<Zg (N/y)∧v= .tuple #[.slice none 0 0,.int .u64 0,.int .i64 3])∨(Zg (N/y)≤67108864∧ ∃u,v= .tuple #[u,.int .u64 ((N%y:Nat):Int),.int .i64 0]∧Own n0 H' u (ds B64 (N/y)))
theorem through_spec{y:Nat}(ha:Sl H va xs)(dx:Dig B64 xs)(hy:y<B64)(hy0:0<y)(lx:xs.length≤2*Lim):CW Tryz.prog Zl 168 [va,.int .u64 (y:Int)] H fun v H'=>Keep H H'∧Zr2 H.n (dv B64 xs) y v H':=by
 have hLim:Lim=2000000000000:=rfl;refine Zf 48 (by decide) (by decide) Tryz.func168 rfl rfl ?_;obtain⟨v1,H1,c1,e1,s1⟩:=Ka ha (by omega);rw[e1]at c1;rw[←Ud B64 xs];have dx:=Jt dx;have lx:(Xl xs).length≤2*Lim:=Nat.le_trans (Ju xs) lx;generalize Xl xs=xs at*;have l1:=s1.len Zs;obtain⟨n,hn⟩: ∃n,n=xs.length:=⟨_,rfl⟩;rw[←hn]at l1;have ey:Zd .eql .u64 (y:Int) 0=some (.bool false):=by rw[eql0,decide_eq_false (by omega)]
 obtain⟨c0,H3,hmk,k3,o3,n3⟩:=Qa (H:=H) Zs (n:=n) (by omega);apply Zb;intro b1 hb1;apply Za;simp;subst hb1;apply Zb;intro b1 hb1;apply Zb;intro b2 hb2;apply Za;simp[ey];subst hb2;refine Zc (t:=false) (by simp) ?_;apply Zh;subst hb1;apply Zb;intro b1 hb1;apply Za;simp[c1];subst hb1;apply Zb;intro b1 hb1;apply Za;simp[l1,hmk];subst hb1;apply Zb;intro b1 hb1;apply Za;simp;subst hb1;apply Zb;intro b1 hb1;apply Zb;intro b2 hb2;apply Za;simp[l1,Dk (m:=n) (by omega)];subst hb2;apply Zp;refine Xt (fun m s'=>s'.k=48∧Keep H s'.H∧ ∃(r:Nat) (R:List Nat),m+R.length=n∧r<y∧Dig B64 R∧dv B64 R*y+r=dv B64 (xs.drop m)∧Own H.n s'.H c0 (List.replicate m 0++R)∧s'.tm.get 0=some v1∧s'.tm.get 1=some (.int .u64 (y:Int))∧s'.tm.get 7=some c0∧s'.tm.get 8=some (.int .u64 (r:Int))∧s'.tm.get 9=some (.int .i64 ((m:Int)-1))) ?_ n _ ⟨rfl,k3,0,[],by simp,hy0,.nil _,by rw[List.drop_of_length_le (by omega)];simp[dv],by simpa using o3,by simp,by simp,by simp,by simp,by simp⟩;rintro m ⟨k,tm,H4⟩ ⟨hk,kH,r,R,hmR,hr,dR,heq,own,t0,t1,t7,t8,t9⟩ Q' hQ';simp only at hk kH own t0 t1 t7 t8 t9;subst hk;apply Zb;intro b3 hb3;apply Zb;intro b4 hb4;apply Za;simp[t9,Zm4 (m:=m)];subst hb4;by_cases hm:0<m
 ·refine Zc (t:=true) (by simp[hm]) ?_;apply Zh;subst hb3;obtain⟨m',rfl⟩: ∃m',m=m'+1:=⟨m-1,by omega⟩;have em:((m'+1:Nat):Int)-1=(m':Int):=by omega
  rw[em]at t9;have hi':m'<xs.length:=by omega
  have sa:=s1.keep kH;obtain⟨x,hx⟩: ∃x,x=nth xs m':=⟨_,rfl⟩;have hxB:x<B64:=by rw[hx];exact Ej dx (by decide) _
  have a0:=sa.adr Zs (k:= .i64) hi';have d0:=sa.load hi';rw[←Jy hi',←hx]at d0;have a3:=own.sl.adr Zs (k:= .i64) (i:=m') (by simp;omega);have dc:=Zj7 (h:=r) (l:=x) (y:=y) hr hxB hy H4;obtain⟨q,hq⟩: ∃q,q=(r*B64+x)/y:=⟨_,rfl⟩;obtain⟨r',hr'⟩: ∃r',r'=(r*B64+x)%y:=⟨_,rfl⟩;rw[←hq,←hr']at dc;have hqr:y*q+r'=r*B64+x:=by rw[hq,hr'];exact Nat.div_add_mod _ _
  have hqB:q<B64:=by rw[hq,Nat.div_lt_iff_lt_mul hy0];have:(r+1)*B64≤y*B64:=Nat.mul_le_mul_right _ hr;rw[Nat.add_mul,Nat.one_mul]at this;rw[Nat.mul_comm B64 y];omega
  have hr2:r'<y:=by rw[hr'];exact Nat.mod_lt _ hy0
  obtain⟨H5,st5,own5,n5,bt5,ka5⟩:=own.put (i:=m') (by simp;omega) q;have eset:(List.replicate (m'+1) 0++R).set m' q=List.replicate m' 0++(q::R):=by rw[List.replicate_succ',List.append_assoc];exact Ux _ _ _ _ (by simp)
  rw[eset]at own5;apply Zb;intro b3 hb3;apply Zp;apply Za;simp[t0,t1,t7,t8,t9,a0,d0,dc,a3,st5];subst hb3;apply Za;simp[t9,Dk (m:=m') (by omega)];apply hQ';refine⟨m',by omega,rfl,ka5 H kH (Nat.le_refl _),r',q::R,by simp at hmR⊢;omega,hr2,.cons hqB dR,?_,own5,by simp[t0],by simp[t1],by simp[t7],by simp,by simp⟩;have ed:xs.drop m'=x::xs.drop (m'+1):=by rw[List.drop_eq_getElem_cons hi',hx,Jy hi']
  rw[ed];simp only[dv];rw[←heq,Nat.mul_add,Nat.add_mul,Nat.mul_comm q y,Nat.mul_assoc];have:B64*r=r*B64:=Nat.mul_comm _ _;omega
 ·refine Zc (t:=false) (by simp[hm]) ?_;apply Xu;apply hQ';left;refine⟨rfl,?_⟩;obtain rfl:m=0:=by omega
  rw[List.drop_zero]at heq;rw[List.replicate_zero,List.nil_append]at own;have hdiv:dv B64 xs/y=dv B64 R∧dv B64 xs%y=r:=by rw[←heq,Nat.mul_comm];exact⟨by rw[Nat.mul_add_div hy0,Nat.div_eq_of_lt hr,Nat.add_zero],by rw[Nat.mul_add_mod,Nat.mod_eq_of_lt hr]⟩
  obtain⟨v6,H6,c6,e6,h6⟩:=Zg6 own dR (by omega);subst e6;rw[←hdiv.1]at h6;have h7: ∃a b,v6= .tuple #[a,.int .i64 b]∧((b=3∧Zr2 H.n (dv B64 xs) y (.tuple #[.slice none 0 0,.int .u64 0,.int .i64 3]) H6)∨(b=0∧Zr2 H.n (dv B64 xs) y (.tuple #[a,.int .u64 (r:Int),.int .i64 0]) H6)):=by
   rcases h6 with⟨h,rfl⟩|⟨h,u,rfl,o⟩;·exact⟨_,_,rfl,.inl ⟨rfl,.inl ⟨h,rfl⟩⟩⟩
   ·exact⟨_,_,rfl,.inr ⟨rfl,.inr ⟨h,u,by rw[hdiv.2],o⟩⟩⟩
  obtain⟨p,b,rfl,⟨rfl,h7⟩|⟨rfl,h7⟩⟩:=h7;·subst hb1;apply Zb;intro b1 hb1;apply Za;simp[t7,c6];subst hb1;apply Zb;intro b1 hb1;apply Zb;intro b2 hb2;apply Za;simp[neq30];subst hb2;refine Zc (t:=true) (by simp) ?_;apply Zb;intro b2 hb2;apply Za;simp;subst hb2;apply Zi;simp[Xb];exact⟨kH,h7⟩
  ·subst hb1;apply Zb;intro b1 hb1;apply Za;simp[t7,c6];subst hb1;apply Zb;intro b1 hb1;apply Zb;intro b2 hb2;apply Za;simp[Ca];subst hb2;refine Zc (t:=false) (by simp) ?_;apply Zh;subst hb1;apply Zb;intro b2 hb2;apply Za;simp[t8];subst hb2;apply Zi;simp;exact⟨kH,h7⟩
end
end
theorem quo64{x:Nat}(h:x<9223372036854775808):Zd .quo .i64 (x:Int) 64=some (.int .i64 ((x/64:Nat):Int)):=quo_i64 (y:=64) h (by decide)
theorem rem64{x:Nat} :Zd .rem .i64 (x:Int) 64=some (.int .i64 ((x%64:Nat):Int)):=rem_i64 (y:=64) (by decide)
theorem lss_neg{x:Nat} :Zd .lss .i64 (x:Int) 0=some (.bool false):=by rw[lss0,decide_eq_false (by omega)]
theorem pow_limbs{n:Nat}{q s:Nat}(hq:q=n/64)(hs:s=n%64):Dig B64 ((List.replicate (q+2) 0).set q (2^s))∧dv B64 ((List.replicate (q+2) 0).set q (2^s))=2^n:=by
 have hs64:s<64:=by omega
 have hlt:2^s<B64:=by show 2^s<2^64;exact Nat.pow_lt_pow_right (by decide) hs64
 refine⟨(Cq (by decide) _).set hlt,?_⟩;have h:=dv_set B64 (List.replicate (q+2) 0) q (2^s) (by simp);rw[List.getElem_replicate,Nat.mul_zero,Nat.add_zero]at h;rw[h];have h0:dv B64 (List.replicate (q+2) 0)=0:=dv_zero_of fun x hx=>(List.mem_replicate.mp hx).2;rw[h0,Nat.zero_add];have:B64^q=2^(64*q):=(Nat.pow_mul 2 64 q).symm;rw[this,←Nat.pow_add];congr 1;omega
section
attribute [-simp] Int.natCast_add Int.natCast_mul Int.natCast_ediv Int.natCast_emod Int.natCast_pow
attribute [local simp] strip Yj LW' LR gW Yo Xi Ye Xj Yt Xh Zv Zw Zn Yv Xd Yp Xo Zz Yu Zm Zj Xm Xn Jl Yi Xe opd Qi Ys plain Yn Tr.get_set Qg Zu Xv Yg sameKind undef Zx Yw Xc Zs Yf parts unV DW Xp Yc LX Yb
section
variable {H : AH} {va vb : Value} {xs ys : List Nat}
theorem leftOne_spec{n:Nat}(ha:Sl H va [1])(hn:n≤60000000):CW Tryz.prog Zl 201 [va,.int .i64 (n:Int)] H fun v H'=>Keep H H'∧ ∃u,v= .tuple #[u,.int .i64 0]∧Own H.n H' u (ds B64 (2^n)):=by
 refine Zf 73 (by decide) (by decide) Tryz.func201 rfl rfl ?_;obtain⟨v1,H1,c1,e1,s1⟩:=Ka ha (by simp);rw[e1]at c1;have e3:Xl [1]=[1]:=rfl;rw[e3]at s1;have d1:Dig B64 [1]:= .cons (by decide) (.nil _);obtain⟨v2,H2,c2,e2,e2'⟩:=Kh s1 d1 (by simp);rw[e2,e2']at c2;have hbl:Zg (dv B64 [1])=1:=by decide
 rw[hbl]at c2;have c2:Zo Tryz.prog Zl 123 [v1] H=some (.int .i64 1,H):=c2;have l1:lenV Tryz.prog 30 v1=some 1:=s1.len Zs;have a0:Yr Tryz.prog 30 v1 (.int .i64 0)=some (adr v1 0):=s1.adr Zs (k:= .i64) (i:=0) (by simp);obtain⟨q,hq⟩: ∃q,q=n/64:=⟨_,rfl⟩;obtain⟨s,hs⟩: ∃s,s=n%64:=⟨_,rfl⟩;obtain⟨c0,H3,hmk,k3,o3,n3⟩:=Qa (H:=H) Zs (n:=q+2) (by omega);have d0:Yk Tryz.prog H3 101 (adr v1 0)=some (.int .u64 1):=(s1.keep k3).load (i:=0) (by simp);have g1:Zd .gtr .i64 (n:Int) 1099511627776=some (.bool false):=by have h:=Kl (k:= .i64) (x:=n) (y:=1099511627776);rw[decide_eq_false (by omega)]at h;exact h
 have g2:Zd .add .i64 1 (n:Int)=some (.int .i64 ((1+n:Nat):Int)):=Uw (x:=1) (y:=n) (by omega);have g3:Zd .gtr .i64 ((1+n:Nat):Int) 67108864=some (.bool false):=by have h:=Kl (k:= .i64) (x:=1+n) (y:=67108864);rw[decide_eq_false (by omega)]at h;exact h
 have g4:Zd .quo .i64 (n:Int) 64=some (.int .i64 (q:Int)):=by rw[hq];exact quo64 (by omega)
 have g5:Zd .rem .i64 (n:Int) 64=some (.int .i64 (s:Int)):=by rw[hs];exact rem64
 have g6:=conv_uint (n:=s) (by omega);have g7:Zd .add .i64 (q:Int) 1=some (.int .i64 ((q+1:Nat):Int)):=Xq (x:=q) (by omega);have g8:Zd .add .i64 ((q+1:Nat):Int) 1=some (.int .i64 ((q+2:Nat):Int)):=Xq (x:=q+1) (by omega);have g9:Zd .add .i64 (q:Int) 0=some (.int .i64 (q:Int)):=Uw (x:=q) (y:=0) (by omega);have hs64:s<64:=by omega
 have hlt:2^s<B64:=by show 2^s<2^64;exact Nat.pow_lt_pow_right (by decide) hs64
 obtain⟨P,hP⟩: ∃P,P=2^s:=⟨_,rfl⟩;have g10:Qo .shl .u64 1 (s:Int)=some (.int .u64 (P:Int)):=by have h:=Cj (x:=1) (s:=s) (by omega);rw[Nat.one_mul,Nat.mod_eq_of_lt hlt,←hP]at h;exact h
 have g11:Zd .or .u64 0 (P:Int)=some (.int .u64 (P:Int)):=by have h:=or_u64 (x:=0) (y:=P) (by decide) (by omega);rw[Nat.zero_or]at h;exact h
 have g12:Qo .shr .u64 1 1=some (.int .u64 0):=Ac (x:=1) (s:=1) (by omega);have g13:Zd .sub .u64 63 (s:Int)=some (.int .u64 ((63-s:Nat):Int)):=Cf (x:=63) (y:=s) (by decide) (by omega);have g14:Qo .shr .u64 0 ((63-s:Nat):Int)=some (.int .u64 0):=by have h:=Ac (x:=0) (s:=63-s) (by omega);rw[Nat.zero_div]at h;exact h
 have g15:Zd .or .u64 0 0=some (.int .u64 0):=or_u64 (x:=0) (y:=0) (by decide) (by decide);have i1:=o3.sl.adr Zs (k:= .i64) (i:=q) (by simp);have w1:=o3.sl.load (i:=q) (by simp);rw[List.getElem_replicate]at w1;have w1:Yk Tryz.prog H3 101 (adr c0 q)=some (.int .u64 0):=w1;obtain⟨H4,st4,o4,n4,bt4,ka4⟩:=o3.put (i:=q) (by simp) P;have i2:=o4.sl.adr Zs (k:= .i64) (i:=q+1) (by simp);have w2:=o4.sl.load (i:=q+1) (by simp);rw[List.getElem_set_ne (by omega),List.getElem_replicate]at w2;have w2:Yk Tryz.prog H4 101 (adr c0 (q+1))=some (.int .u64 0):=w2;obtain⟨H5,st5,o5,n5,bt5,ka5⟩:=o4.put (i:=q+1) (by simp) 0;have st5:Xk Tryz.prog H4 101 (adr c0 (q+1)) (.int .u64 0)=some H5:=st5;have eset:((List.replicate (q+2) 0).set q P).set (q+1) 0=(List.replicate (q+2) 0).set q P:=by
  apply List.ext_getElem;·simp
  ·intro i h1 h2;by_cases hi:q+1=i;·subst hi;rw[List.getElem_set_self,List.getElem_set_ne (by omega),List.getElem_replicate]
   ·rw[List.getElem_set_ne hi]
 rw[eset]at o5;obtain⟨p1,p2⟩:=pow_limbs hq hs;rw[←hP]at p1 p2;obtain⟨v6,H6,c6,e6,o6⟩:=trim_own o5 (by simp;omega);subst e6;rw[Jb Ym p1,p2]at o6;have k5:Keep H H6:=ka5 H (ka4 H k3 (Nat.le_refl _)) (Nat.le_refl _);apply Zb;intro b1 hb1;apply Za;simp;subst hb1;apply Zb;intro b1 hb1;apply Zb;intro b2 hb2;apply Za;simp[lss_neg,g1];subst hb2;refine Zc (t:=false) (by simp) ?_;apply Zh;subst hb1;apply Zb;intro b1 hb1;apply Za;simp[c1];subst hb1;apply Zb;intro b1 hb1;apply Zb;intro b2 hb2;apply Za;simp[l1,show Zd .eql .i64 1 0=some (.bool false)from rfl];subst hb2;refine Zc (t:=false) (by simp) ?_;apply Zh;subst hb1;apply Zb;intro b1 hb1;apply Zb;intro b2 hb2;apply Za;simp[c2,g2,g3];subst hb2;refine Zc (t:=false) (by simp) ?_;apply Zh;subst hb1;apply Zb;intro b1 hb1;apply Za;simp[g4,g5,g6];subst hb1;apply Zb;intro b1 hb1;apply Za;simp[l1,g7,g8,hmk];subst hb1;apply Zb;intro b1 hb1;apply Zb;intro b2 hb2;apply Za;simp[l1];subst hb2;apply Zp;apply W_loop1;apply Zb;intro b3 hb3;apply Za;simp[show Zd .lss .i64 0 1=some (.bool true)from rfl];subst hb3;apply Zb;intro b3 hb3;refine Zc (t:=true) (by simp) ?_;apply Zh;subst hb3;apply Zb;intro b3 hb3;apply Zp;apply Zb;intro b4 hb4;apply Za;simp[a0,d0];subst hb4;apply Zb;intro b4 hb4;apply Za;simp[g9,i1,w1,g10,g11,st4];subst hb4;apply Za;simp[g9,g7,i2,w2,g12,g13,g14,g15,st5];subst hb3;apply Za;simp[show Zd .add .i64 0 1=some (.int .i64 1)from rfl];apply W_loop1;apply Zb;intro b3 hb3;apply Za;simp[show Zd .lss .i64 1 1=some (.bool false)from rfl];subst hb3;apply Zb;intro b3 hb3;refine Zc (t:=false) (by simp) ?_;apply Xu;left;refine⟨rfl,?_⟩;subst hb1;apply Zb;intro b4 hb4;apply Za;simp[c6];subst hb4;apply Zi;simp;exact⟨k5,o6⟩
end
section
variable {H : AH} {va vb : Value} {xs ys : List Nat} {A B : Nat}
theorem power_call{n:Nat}(hn:n≤60000000): ∃u H',Zo Tryz.prog Zl 165 [.int .i64 (n:Int)] H=some (u,H')∧Keep H H'∧Own H.n H' u (ds B64 (2^n)):=by suffices h:CW Tryz.prog Zl 165 [.int .i64 (n:Int)] H fun v H'=>Keep H H'∧Own H.n H' v (ds B64 (2^n))from h;obtain⟨v1,H1,c1,k1,o1⟩:=Da (H:=H) (x:=1) (by decide);rw[ds1 (by decide) (by decide)]at o1;have c1:Zo Tryz.prog Zl 164 [.int .u64 1] H=some (v1,H1):=c1;obtain⟨v2,H2,c2,k2,u,rfl,o2⟩:=leftOne_spec o1.sl hn;refine Zf 12 (by decide) (by decide) Tryz.func165 rfl rfl ?_;apply Zb;intro b1 hb1;apply Za;simp;subst hb1;apply Zb;intro b1 hb1;apply Za;simp[c1,c2];subst hb1;apply Zb;intro b1 hb1;apply Za;simp;subst hb1;apply Zi;simp;exact⟨k1.trans k2,o2.mono k1.n (.refl _)⟩
theorem rootsFits_call(ha:Sl H va xs)(dx:Dig B64 xs)(lx:xs.length≤17592186044416)(hb:Zg (dv B64 xs)≤67108864): ∃u H',Zo Tryz.prog Zl 126 [va] H=some (.tuple #[u,.int .i64 0],H')∧Keep H H'∧Own H.n H' u (ds B64 (dv B64 xs)):=by
 suffices h:CW Tryz.prog Zl 126 [va] H fun v H'=> ∃u,v= .tuple #[u,.int .i64 0]∧Keep H H'∧Own H.n H' u (ds B64 (dv B64 xs)) by obtain⟨v,H',hc,u,rfl,k,o⟩:=h;exact⟨u,H',hc,k,o⟩
 obtain⟨v1,H1,c1,e1,e1'⟩:=Kh ha dx lx;rw[e1,e1']at c1;obtain⟨v2,H2,c2,k2,o2⟩:=Ku ha lx;rw[Jb Ym dx]at o2;obtain⟨L,hL⟩: ∃L,L=Zg (dv B64 xs):=⟨_,rfl⟩;rw[←hL]at c1 hb;have g1:Zd .gtr .i64 (L:Int) 67108864=some (.bool false):=by have h:=Kl (k:= .i64) (x:=L) (y:=67108864);rw[decide_eq_false (by omega)]at h;exact h
 refine Zf 9 (by decide) (by decide) Tryz.func126 rfl rfl ?_;apply Zb;intro b1 hb1;apply Za;simp;subst hb1;apply Zb;intro b1 hb1;apply Zb;intro b2 hb2;apply Za;simp[c1,g1];subst hb2;refine Zc (t:=false) (by simp) ?_;apply Zh;subst hb1;apply Zb;intro b1 hb1;apply Za;simp[c2];subst hb1;apply Zi;simp;exact⟨k2,o2⟩
theorem Zs9(ha:Sl H va (ds B64 A))(hb:Sl H vb (ds B64 B))(lA:(ds B64 A).length≤Lim)(lB:(ds B64 B).length≤Lim)(hle:B≤A)(h:Zg A≤67108864): ∃u H',Zo Tryz.prog Zl 170 [va,vb] H=some (.tuple #[u,.int .i64 0],H')∧Keep H H'∧Own H.n H' u (ds B64 (A-B)):=by
 obtain⟨v,H',hc,k,hm⟩:=natSub_spec ha hb (Xg Ym A) (Xg Ym B) (by omega) (by omega) (by rw[Xy Ym,Xy Ym];exact hle);rw[Xy Ym,Xy Ym]at hm;have hmono:=Yd (n:=A-B) (m:=A) (by omega);rcases hm with⟨h1,_⟩|⟨h1,u,rfl,o⟩;·omega
 ·exact⟨u,H',hc,k,o⟩
theorem Zu1(ha:Sl H va (ds B64 A))(hb:Sl H vb (ds B64 B))(lA:(ds B64 A).length≤Lim)(lB:(ds B64 B).length≤Lim)(h:Zg (A+B)≤67108864): ∃u H',Zo Tryz.prog Zl 167 [va,vb] H=some (.tuple #[u,.int .i64 0],H')∧Keep H H'∧Own H.n H' u (ds B64 (A+B)):=by
 obtain⟨v,H',hc,k,hm⟩:=natAdd_spec ha hb (Xg Ym A) (Xg Ym B) (by omega) (by omega);rw[Xy Ym,Xy Ym]at hm;rcases hm with⟨h1,_⟩|⟨h1,u,rfl,o⟩;·omega
 ·exact⟨u,H',hc,k,o⟩
theorem Ax(ha:Sl H va (ds B64 A))(hb:Sl H vb (ds B64 B))(lA:(ds B64 A).length≤Lim)(lB:(ds B64 B).length≤Lim)(h:Zg (A*B)≤67108864): ∃u H',Zo Tryz.prog Zl 146 [va,vb] H=some (.tuple #[u,.int .i64 0],H')∧Keep H H'∧Own H.n H' u (ds B64 (A*B)):=by
 obtain⟨v,H',hc,k,hm⟩:=mul_spec ha hb (Xg Ym A) (Xg Ym B) (by omega) (by omega);rw[Xy Ym,Xy Ym]at hm;rcases hm with⟨h1,_⟩|⟨h1,u,rfl,o⟩;·omega
 ·exact⟨u,H',hc,k,o⟩
theorem Gm(ha:Sl H va (ds B64 A))(hb:Sl H vb (ds B64 B))(lA:(ds B64 A).length≤Lim)(lB:(ds B64 B).length≤Lim)(h0:0<B)(h:Zg A≤67108864): ∃u H',Zo Tryz.prog Zl 141 [va,vb] H=some (.tuple #[u,.int .i64 0],H')∧Keep H H'∧Own H.n H' u (ds B64 (A/B)):=by
 obtain⟨v,H',hc,k,hm⟩:=quo_spec ha hb (Xg Ym A) (Xg Ym B) lA lB;rw[Xy Ym,Xy Ym]at hm;have hmono:=Yd (n:=A/B) (m:=A) (Nat.div_le_self _ _);rcases hm with⟨h1,_⟩|⟨_,h1,_⟩|⟨_,h1,u,rfl,o⟩;·omega
 ·omega
 ·exact⟨u,H',hc,k,o⟩
theorem Ze7(ha:Sl H va (ds B64 A))(hb:Sl H vb (ds B64 B))(lA:(ds B64 A).length≤Lim)(lB:(ds B64 B).length≤Lim): ∃u H',Zo Tryz.prog Zl 139 [va,vb] H=some (u,H')∧Keep H H'∧Own H.n H' u (ds B64 (Nat.gcd A B)):=by obtain⟨v,H',hc,k,o⟩:=gcd_spec ha hb (Xg Ym A) (Xg Ym B) lA lB;rw[Xy Ym,Xy Ym]at o;exact⟨v,H',hc,k,o⟩
theorem Fx(ha:Sl H va xs)(dx:Dig B64 xs)(lx:xs.length≤17592186044416): ∃u H',Zo Tryz.prog Zl 120 [va] H=some (u,H')∧Keep H H'∧Own H.n H' u (ds B64 (dv B64 xs)):=by obtain⟨v,H',hc,k,o⟩:=Ku ha lx;rw[Jb Ym dx]at o;exact⟨v,H',hc,k,o⟩
theorem less_call(ha:Sl H va (ds B64 A))(hb:Sl H vb (ds B64 B))(lA:(ds B64 A).length≤Lim)(lB:(ds B64 B).length≤Lim)(hle:B≤A)(h:Zg A≤67108864): ∃u H',Zo Tryz.prog Zl 129 [va,vb] H=some (u,H')∧Keep H H'∧Own H.n H' u (ds B64 (A-B)):=by suffices hs:CW Tryz.prog Zl 129 [va,vb] H fun v H'=>Keep H H'∧Own H.n H' v (ds B64 (A-B))from hs;obtain⟨u,H1,c1,k1,o1⟩:=Zs9 ha hb lA lB hle h;refine Zf 14 (by decide) (by decide) Tryz.func129 rfl rfl ?_;apply Zb;intro b1 hb1;apply Za;simp;subst hb1;apply Zb;intro b1 hb1;apply Za;simp[c1];subst hb1;apply Zb;intro b1 hb1;apply Za;simp;subst hb1;apply Zi;simp;exact⟨k1,o1⟩
theorem square_call(ha:Sl H va (ds B64 A))(lA:(ds B64 A).length≤Lim)(h:Zg (A*A)≤67108864): ∃u H',Zo Tryz.prog Zl 169 [va] H=some (.tuple #[u,.int .i64 0],H')∧Keep H H'∧Own H.n H' u (ds B64 (A*A)):=by
 suffices hs:CW Tryz.prog Zl 169 [va] H fun v H'=> ∃u,v= .tuple #[u,.int .i64 0]∧Keep H H'∧Own H.n H' u (ds B64 (A*A)) by obtain⟨v,H',hc,u,rfl,k,o⟩:=hs;exact⟨u,H',hc,k,o⟩
 obtain⟨u,H1,c1,k1,o1⟩:=Ax ha ha lA lA h;refine Zf 9 (by decide) (by decide) Tryz.func169 rfl rfl ?_;apply Zb;intro b1 hb1;apply Za;simp;subst hb1;apply Zb;intro b1 hb1;apply Za;simp[c1];subst hb1;apply Zi;simp;exact⟨k1,o1⟩
end
end
theorem shr_i64{x s:Nat}(hs:s≤64):Qo .shr .i64 (x:Int) (s:Int)=some (.int .i64 ((x/2^s:Nat):Int)):=by unfold Qo;rw[if_neg (by omega)];simp only[show IntKind.i64.bits=64 from rfl,Int.toNat_natCast,Nat.min_eq_left hs];rw[Zf0]
theorem and1_i64{x:Nat}(hx:x<9223372036854775808):Zd .and .i64 (x:Int) 1=some (.int .i64 ((x%2:Nat):Int)):=by
 have hx':x<B64:=Nat.lt_trans hx (by decide);have e:(BitVec.ofInt 64 (x:Int)&&&BitVec.ofInt 64 ((1:Nat):Int)).toNat=x&&&1:=by rw[BitVec.toNat_and,bv_nat hx',bv_nat (by decide)]
 show some (Value.int .i64 (IntKind.i64.wrap ((BitVec.ofInt 64 (x:Int)&&&BitVec.ofInt 64 ((1:Nat):Int)).toNat:Nat)))=_;rw[e,Nat.and_one_is_mod,Ze2 (by omega)]
theorem blen_pow{A k:Nat}(hA:0<A):(Zg A-1)*k+1≤Zg (A^k):=by
 have h1:=Uu (n:=A) (by omega);have h2:2^((Zg A-1)*k)≤A^k:=by rw[Nat.pow_mul];exact Nat.pow_le_pow_left h1 k
 have h3:=Uo (A^k);have:=(Nat.pow_lt_pow_iff_right (a:=2) (by decide)).mp (Nat.lt_of_le_of_lt h2 h3);omega
theorem eql1N{x:Nat} :Zd .eql .i64 (x:Int) 1=some (.bool (decide (x=1))):=Zh0 (y:=1)
theorem leq1N{x:Nat} :Zd .leq .i64 (x:Int) 1=some (.bool (decide (x≤1))):=Zi4 (y:=1)
theorem pow_shift{A k i:Nat} :A^(k/2^i)=A^(k/2^(i+1))*A^(k/2^(i+1))*(if k/2^i%2=1 then A else 1):=by
 have h:k/2^i=k/2^(i+1)+k/2^(i+1)+k/2^i%2:=by
  have:k/2^(i+1)=k/2^i/2:=by rw[Nat.pow_succ,Nat.div_div_eq_div_mul]
  omega
 rw[←Nat.pow_add];conv=>lhs;rw[h,Nat.pow_add]
 congr 1;split;·rename_i h1;rw[h1,Nat.pow_one]
 ·rw[show k/2^i%2=0 by omega,Nat.pow_zero]
section
attribute [-simp] Int.natCast_add Int.natCast_mul Int.natCast_ediv Int.natCast_emod Int.natCast_pow
attribute [local simp] strip Yj LW' LR gW Yo Xi Ye Xj Yt Xh Zv Zw Zn Yv Xd Yp Xo Zz Yu Zm Zj Xm Xn Jl Yi Xe opd Qi Ys plain Yn Tr.get_set Qg Zu Xv Yg sameKind undef Zx Yw Xc Zs Yf parts unV DW Xp Yc LX Yb
section
variable {H : AH} {va vb : Value} {xs ys : List Nat} {A B : Nat}
theorem Zq{A:Nat}(h:Zg A≤67108864):(ds B64 A).length≤Lim:=by have h1:A<2^Zg A:=Uo A;have h2:2^Zg A≤B64^(Zg A):=Nat.pow_le_pow_left (by decide) _;have:=Vm Ym (Nat.lt_of_lt_of_le h1 h2);show(ds B64 A).length≤2000000000000;omega
theorem pow_call{k:Nat}(ha:Sl H va (ds B64 A))(hk0:0<k)(hk:k≤67108864)(hb:Zg (A^k)≤67108864): ∃u H',Zo Tryz.prog Zl 128 [va,.int .i64 (k:Int)] H=some (.tuple #[u,.int .i64 0],H')∧Keep H H'∧Own H.n H' u (ds B64 (A^k)):=by
 suffices hs:CW Tryz.prog Zl 128 [va,.int .i64 (k:Int)] H fun v H'=> ∃u,v= .tuple #[u,.int .i64 0]∧Keep H H'∧Own H.n H' u (ds B64 (A^k)) by obtain⟨v,H',hc,u,rfl,k,o⟩:=hs;exact⟨u,H',hc,k,o⟩
 have hbA:Zg A≤67108864:=by
  rcases Nat.eq_zero_or_pos A with h|h;·subst h;decide
  ·exact Nat.le_trans (Yd (Nat.le_self_pow (by omega) A)) hb
 have lA:=Zq hbA;obtain⟨v1,H1,c1,k1,o1⟩:=Fx ha (Xg Ym A) (Nat.le_trans lA (by decide));rw[Xy Ym]at o1;have c2:=Vk o1.sl lA;have e0:Zd .eql .i64 (k:Int) 0=some (.bool false):=by rw[Vw,decide_eq_false (by omega)]
 obtain⟨L,hL⟩: ∃L,L=Zg A:=⟨_,rfl⟩;rw[←hL]at c2;refine Zf 63 (by decide) (by decide) Tryz.func128 rfl rfl ?_;apply Zb;intro b1 hb1;apply Za;simp;subst hb1;apply Zb;intro b1 hb1;apply Zb;intro b2 hb2;apply Za;simp[lss_neg];subst hb2;refine Zc (t:=false) (by simp) ?_;apply Zh;subst hb1;apply Zb;intro b1 hb1;apply Za;simp[c1];subst hb1;apply Zb;intro b1 hb1;apply Zb;intro b2 hb2;apply Za;simp[e0];subst hb2;refine Zc (t:=false) (by simp) ?_;apply Zh;subst hb1;apply Zb;intro b1 hb1;apply Za;simp[c2];subst hb1;apply Zb;intro b1 hb1;apply Zb;intro b2 hb2;apply Za;simp[leq1N (x:=L)];subst hb2;by_cases hL1:L≤1
 ·refine Zc (t:=true) (by simp[hL1]) ?_;apply Zb;intro b2 hb2;apply Za;simp;subst hb2;apply Zi;simp[Xb];refine⟨k1,?_⟩;have:A^k=A:=by
   have h1:=Uo A;rw[←hL]at h1;have:A<2:=Nat.lt_of_lt_of_le h1 (Nat.pow_le_pow_right (n:=2) (by decide) hL1);have:A=0∨A=1:=by omega
   rcases this with rfl|rfl;·exact Nat.zero_pow hk0
   ·exact Nat.one_pow _
  rw[this];exact o1
 ·refine Zc (t:=false) (by simp[hL1]) ?_;apply Zh;subst hb1;have hA0:0<A:=by
   rcases Nat.eq_zero_or_pos A with h|h;·subst h;rw[hL]at hL1;exact absurd (by decide) hL1
   ·exact h
  have hpw:=blen_pow (k:=k) hA0;rw[←hL]at hpw;have gk:Zd .gtr .i64 (k:Int) 67108864=some (.bool false):=by have h:=Kl (k:= .i64) (x:=k) (y:=67108864);rw[decide_eq_false (by omega)]at h;exact h
  have hLk:(L-1)*k+1≤67108864:=Nat.le_trans hpw hb;have g1:=Fe (x:=L) (by omega) (by omega);have g2:=mulN (x:=L-1) (y:=k) (by omega);have g3:=Xq (x:=(L-1)*k) (by omega);have g4:Zd .gtr .i64 (((L-1)*k+1:Nat):Int) 67108864=some (.bool false):=by have h:=Kl (k:= .i64) (x:=(L-1)*k+1) (y:=67108864);rw[decide_eq_false (by omega)]at h;exact h
  obtain⟨v3,H3,c3,k3,o3⟩:=Da (H:=H1) (x:=1) (by decide);have c3:Zo Tryz.prog Zl 164 [.int .u64 1] H1=some (v3,H3):=c3;apply Zb;intro b1 hb1;apply Zb;intro b2 hb2;apply Za;simp[gk,g1,g2,g3,g4];subst hb2;refine Zc (t:=false) (by simp) ?_;apply Zh;subst hb1;apply Zb;intro b1 hb1;apply Za;simp[c3];subst hb1;apply Zb;intro b1 hb1;apply Zb;intro b2 hb2;apply Za;simp;subst hb2;apply Zp;have k13:=k1.trans k3;have o1':=o1.mono (Nat.le_refl _) k3;have e62:k/2^63=0:=Nat.div_eq_of_lt (Nat.lt_of_le_of_lt hk (by decide));refine Xt (fun m s'=>s'.k=63∧Keep H3 s'.H∧m≤63∧ ∃w,Own H.n s'.H w (ds B64 (A^(k/2^m)))∧s'.tm.get 0=some v1∧s'.tm.get 1=some (.int .i64 (k:Int))∧s'.tm.get 7=some w∧s'.tm.get 8=some (.int .i64 ((m:Int)-1))) ?_ 63 _ ⟨rfl,.refl H3,by omega,v3,by rw[e62,Nat.pow_zero];exact o3.mono k1.n (.refl _),by simp,by simp,by simp,by simp⟩;rintro m ⟨kk,tm,H4⟩ ⟨hkk,kH,hm63,w,ow,t0,t1,t7,t8⟩ Q' hQ';simp only at hkk kH ow t0 t1 t7 t8;subst hkk;apply Zb;intro b3 hb3;apply Zb;intro b4 hb4;apply Za;simp[t8,Zm4 (m:=m)];subst hb4;by_cases hm:0<m
  ·refine Zc (t:=true) (by simp[hm]) ?_;apply Zh;subst hb3;obtain⟨i,rfl⟩: ∃i,m=i+1:=⟨m-1,by omega⟩;have em:((i+1:Nat):Int)-1=(i:Int):=by omega
   rw[em]at t8;have hps:=pow_shift (A:=A) (k:=k) (i:=i);have hle:A^(k/2^i)≤A^k:=Nat.pow_le_pow_right hA0 (Nat.div_le_self _ _);have hbi:Zg (A^(k/2^i))≤67108864:=Nat.le_trans (Yd hle) hb;obtain⟨C,hC⟩: ∃C,C=A^(k/2^(i+1)):=⟨_,rfl⟩;rw[←hC]at ow hps;have hC0:0<C:=by rw[hC];exact Nat.pow_pos hA0
   have hCC:C*C≤A^(k/2^i):=by
    rw[hps];split;·exact Nat.le_mul_of_pos_right _ hA0
    ·rw[Nat.mul_one];exact Nat.le_refl _
   have hbC:Zg (C*C)≤67108864:=Nat.le_trans (Yd hCC) hbi;have hbC1:Zg C≤67108864:=Nat.le_trans (Yd (Nat.le_mul_of_pos_right C hC0)) hbC;obtain⟨u5,H5,c5,k5,o5⟩:=square_call ow.sl (Zq hbC1) hbC;have lw:=ow.sl.len Zs;obtain⟨nw,hnw⟩: ∃nw,nw=(ds B64 C).length:=⟨_,rfl⟩;rw[←hnw]at lw;have hnw0:0<nw:=by rw[hnw];exact(Ko Ym).mpr hC0
   have gl:Zd .gtr .i64 (nw:Int) 0=some (.bool true):=by rw[gtr0,decide_eq_true hnw0]
   have hki:k/2^i<9223372036854775808:=Nat.lt_of_le_of_lt (Nat.div_le_self _ _) (by omega);have gs:=shr_i64 (x:=k) (s:=i) (by omega);have ga:=and1_i64 hki;have ge:=eql1N (x:=k/2^i%2);apply Zb;intro b3 hb3;apply Zp;apply Zb;intro b4 hb4;apply Za;simp;subst hb4;refine Ja (fun s'=>s'.k=63∧s'.H=H5∧s'.tm.get 0=some v1∧s'.tm.get 1=some (.int .i64 (k:Int))∧s'.tm.get 7=some u5∧s'.tm.get 8=some (.int .i64 (i:Int))) ?_ ?_;·intro Q'' hQ'';apply Zb;intro b5 hb5;apply Za;simp[t7,lw,gl];subst hb5;refine Zc (t:=true) (by simp) ?_;apply Zb;intro b5 hb5;apply Za;simp[t7,c5];subst hb5;apply Zb;intro b5 hb5;apply Za;simp[Ca];subst hb5;refine Zc (t:=false) (by simp) ?_;apply Zh;apply hQ'';exact⟨rfl,rfl,by simp[t0],by simp[t1],by simp,by simp[t8]⟩
   clear t0 t1 t7 t8;rintro⟨kk,tm,H6⟩ ⟨hkk,hH,t0,t1,t7,t8⟩;simp only at hkk hH t0 t1 t7 t8;subst hkk;subst hH;apply Zb;intro b4 hb4;apply Za;simp[t1,t8,gs,ga,ge];subst hb4;have kH6:Keep H3 H6:=kH.trans k5;have o1'':=o1'.mono (Nat.le_refl _) kH6;by_cases hbit:k/2^i%2=1
   ·rw[if_pos hbit]at hps;have hbM:Zg (C*C*A)≤67108864:=by rw[←hps];exact hbi
    obtain⟨u7,H7,c7,k7,o7⟩:=Ax o5.sl o1''.sl (Zq hbC) lA hbM;refine Zc (t:=true) (by simp[hbit]) ?_;apply Zb;intro b4 hb4;apply Za;simp[t0,t7,c7];subst hb4;apply Zb;intro b4 hb4;apply Za;simp[Ca];subst hb4;refine Zc (t:=false) (by simp) ?_;apply Zh;subst hb3;apply Za;simp[t8,Dk (m:=i) (by omega)];apply hQ';refine⟨i,by omega,rfl,kH6.trans k7,by omega,u7,?_,by simp[t0],by simp[t1],by simp,by simp⟩;rw[hps];exact o7.mono (Nat.le_trans k13.n kH6.n) (.refl _)
   ·rw[if_neg hbit,Nat.mul_one]at hps;refine Zc (t:=false) (by simp[hbit]) ?_;apply Zh;subst hb3;apply Za;simp[t8,Dk (m:=i) (by omega)];apply hQ';refine⟨i,by omega,rfl,kH6,by omega,u5,?_,by simp[t0],by simp[t1],by simp[t7],by simp⟩;rw[hps];exact o5.mono (Nat.le_trans k13.n kH.n) (.refl _)
  ·refine Zc (t:=false) (by simp[hm]) ?_;apply Xu;apply hQ';left;refine⟨rfl,?_⟩;obtain rfl:m=0:=by omega
   rw[Nat.pow_zero,Nat.div_one]at ow;subst hb1;apply Zb;intro b1 hb1;apply Za;simp[t7];subst hb1;apply Zi;simp;exact⟨k13.trans kH,ow⟩
end
end
def IsRt(A r:Nat):Prop:=r*r≤A∧A<(r+1)*(r+1)
theorem four_mul_le(a b:Nat):4*(a*b)≤(a+b)*(a+b):=by
 rcases Nat.le_total a b with h|h
 ·obtain⟨d,rfl⟩:=Nat.le.dest h;have:(a+(a+d))*(a+(a+d))=4*(a*(a+d))+d*d:=by grind
  omega
 ·obtain⟨d,rfl⟩:=Nat.le.dest h;have:(b+d+b)*(b+d+b)=4*((b+d)*b)+d*d:=by grind
  omega
theorem sq_le{a b:Nat}(h:a≤b):a*a≤b*b:=Nat.mul_le_mul h h
theorem sq_lt{a b:Nat}(h:a<b):a*a<b*b:=Nat.mul_lt_mul'' h h
theorem newton_up{A x:Nat}(hx:0<x):A<((x+A/x)/2+1)*((x+A/x)/2+1):=by
 have h1:A<x*(A/x+1):=by have:=Nat.div_add_mod A x;have:=Nat.mod_lt A hx;rw[Nat.mul_add,Nat.mul_one];omega
 have h2:=four_mul_le x (A/x+1);obtain⟨y,hy⟩: ∃y,y=(x+A/x)/2:=⟨_,rfl⟩;rw[←hy];have h3:x+(A/x+1)≤2*(y+1):=by omega
 have h4:=sq_le h3;have h5:2*(y+1)*(2*(y+1))=4*((y+1)*(y+1)):=by grind
 omega
theorem newton_stop{A x:Nat}(hx:0<x)(hA:A<(x+1)*(x+1))(h:x≤(x+A/x)/2):IsRt A x:=by
 refine⟨?_,hA⟩;have h1:x≤A/x:=by omega
 have h2:x*x≤A/x*x:=Nat.mul_le_mul_right _ h1;exact Nat.le_trans h2 (Nat.div_mul_le_self A x)
theorem div_le_two{A x:Nat}(hx:0<x)(hA:A<(x+1)*(x+1)):A/x≤x+2:=by
 have:A<(x+3)*x:=by
  have:(x+1)*(x+1)=(x+2)*x+1:=by grind
  have:(x+3)*x=(x+2)*x+x:=by grind
  omega
 have:=(Nat.div_lt_iff_lt_mul hx).mpr this;omega
theorem isRt_uniq{A r s:Nat}(h:IsRt A r)(h':IsRt A s):r=s:=by
 obtain⟨a,b⟩:=h;obtain⟨c,d⟩:=h';rcases Nat.lt_trichotomy r s with h|h|h;·have:=sq_le (show r+1≤s from h);omega
 ·exact h
 ·have:=sq_le (show s+1≤r from h);omega
theorem Kv{n k:Nat}(h:n<2^k):Zg n≤k:=by
 rcases Nat.eq_zero_or_pos n with h0|h0;·subst h0;exact Nat.zero_le _
 ·have h1:=Uu (n:=n) (by omega);have:=(Nat.pow_lt_pow_iff_right (a:=2) (by decide)).mp (Nat.lt_of_le_of_lt h1 h);omega
section
attribute [-simp] Int.natCast_add Int.natCast_mul Int.natCast_ediv Int.natCast_emod Int.natCast_pow
attribute [local simp] strip Yj LW' LR gW Yo Xi Ye Xj Yt Xh Zv Zw Zn Yv Xd Yp Xo Zz Yu Zm Zj Xm Xn Jl Yi Xe opd Qi Ys plain Yn Tr.get_set Qg Zu Xv Yg sameKind undef Zx Yw Xc Zs Yf parts unV DW Xp Yc LX Yb
section
variable {H : AH} {va vb : Value} {xs ys : List Nat} {A B : Nat}
theorem newton_call(ha:Sl H va (ds B64 A))(hA:0<A)(hb:Zg A≤67108864): ∃u H',Zo Tryz.prog Zl 127 [va,.int .i64 2] H=some (u,H')∧Keep H H'∧ ∃r,IsRt A r∧Own H.n H' u (ds B64 r):=by
 suffices hs:CW Tryz.prog Zl 127 [va,.int .i64 2] H fun v H'=>Keep H H'∧ ∃r,IsRt A r∧Own H.n H' v (ds B64 r)from hs;have lA:=Zq hb;have c1:=Vk ha lA;obtain⟨L,hL⟩: ∃L,L=Zg A:=⟨_,rfl⟩;rw[←hL]at c1 hb;have hAL:A<2^L:=by rw[hL];exact Uo A
 have g1:Zd .geq .i64 2 (L:Int)=some (.bool (decide (L≤2))):=geq_nat (k:= .i64) (x:=2) (y:=L);refine Zf 72 (by decide) (by decide) Tryz.func127 rfl rfl ?_;apply Zb;intro b1 hb1;apply Za;simp;subst hb1;apply Zb;intro b1 hb1;apply Za;simp[c1];subst hb1;apply Zb;intro b1 hb1;apply Zb;intro b2 hb2;apply Za;simp[g1];subst hb2;by_cases hL2:L≤2;·obtain⟨v2,H2,c2,k2,o2⟩:=Da (H:=H) (x:=1) (by decide);have c2:Zo Tryz.prog Zl 164 [.int .u64 1] H=some (v2,H2):=c2;refine Zc (t:=true) (by simp[hL2]) ?_;apply Zb;intro b2 hb2;apply Za;simp[c2];subst hb2;apply Zi;simp[Xb];refine⟨k2,1,⟨by omega,?_⟩,o2⟩;have:A<2^2:=Nat.lt_of_lt_of_le hAL (Nat.pow_le_pow_right (by decide) hL2);omega
 ·refine Zc (t:=false) (by simp[hL2]) ?_;apply Zh;subst hb1;obtain⟨h,hh⟩: ∃h,h=(L+1)/2:=⟨_,rfl⟩;have g2:Zd .add .i64 (L:Int) 2=some (.int .i64 ((L+2:Nat):Int)):=Uw (x:=L) (y:=2) (by omega);have g3:Zd .sub .i64 ((L+2:Nat):Int) 1=some (.int .i64 ((L+1:Nat):Int)):=Fe (x:=L+2) (by omega) (by omega);have g4:Zd .quo .i64 ((L+1:Nat):Int) 2=some (.int .i64 (h:Int)):=by rw[hh];exact quo_i64 (x:=L+1) (y:=2) (by omega) (by decide)
  obtain⟨v2,H2,c2,k2,o2⟩:=power_call (H:=H) (n:=h) (by omega);apply Zb;intro b1 hb1;apply Za;simp[g2,g3,g4,c2];subst hb1;apply Zp;have hX0:A<(2^h+1)*(2^h+1):=by have h1:2^L≤2^(h+h):=Nat.pow_le_pow_right (by decide) (by omega);rw[Nat.pow_add]at h1;have h2:=sq_lt (show 2^h<2^h+1 by omega);omega
  refine Xt (fun m s'=>s'.k=72∧Keep H s'.H∧0<m∧m≤2^h∧A<(m+1)*(m+1)∧ ∃w,Own H.n s'.H w (ds B64 m)∧s'.tm.get 0=some va∧s'.tm.get 1=some (.int .i64 2)∧s'.tm.get 6=some w) ?_ (2^h) _ ⟨rfl,k2,Nat.pow_pos (by decide),Nat.le_refl _,hX0,v2,o2,by simp,by simp,by simp⟩;rintro x ⟨kk,tm,H4⟩ ⟨hkk,kH,hx0,hxX,hAx,w,ow,t0,t1,t6⟩ Q' hQ';simp only at hkk kH ow t0 t1 t6;subst hkk;have hbx:Zg x≤60000000:=by
   have:x<2^(h+1):=by rw[Nat.pow_succ];omega
   have:=Kv this;omega
  obtain⟨v5,H5,c5,k5,o5⟩:=pow_call (k:=1) ow.sl (by decide) (by decide) (by rw[Nat.pow_one];omega);rw[Nat.pow_one]at o5;have c5:Zo Tryz.prog Zl 128 [w,.int .i64 1] H4=some (.tuple #[v5,.int .i64 0],H5):=c5;have k45:=kH.trans k5;obtain⟨v6,H6,c6,k6,o6⟩:=Gm (ha.keep k45) o5.sl lA (Zq (by omega)) hx0 (by omega);have ow5:=(ow.mono (Nat.le_refl _) k5).mono (Nat.le_refl _) k6;obtain⟨v7,H7,c7,k7,m7⟩:=times_spec (y:=1) ow5.sl (Xg Ym x) (by decide) (Nat.le_trans (Zq (A:=x) (by omega)) (by decide));rw[Xy Ym,Nat.mul_one]at m7;have c7:Zo Tryz.prog Zl 166 [w,.int .u64 1] H6=some (v7,H7):=c7;rcases m7 with⟨m7,_⟩|⟨_,u7,rfl,o7⟩;·omega
  have hq2:=div_le_two hx0 hAx;have hs:x+A/x<2^(h+3):=by
   have:2^(h+3)=8*2^h:=by rw[Nat.pow_add];omega
   omega
  have hbs:=Kv hs;obtain⟨v8,H8,c8,k8,o8⟩:=Zu1 o7.sl (o6.sl.keep k7) (Zq (by omega)) (Zq (Nat.le_trans (Yd (Nat.div_le_self A x)) (by omega))) (by omega);obtain⟨v9,H9,c9,k9,m9⟩:=through_spec (y:=2) o8.sl (Xg Ym _) (by decide) (by decide) (Nat.le_trans (Zq (A:=x+A/x) (by omega)) (by decide));rw[Xy Ym]at m9;have hby:Zg ((x+A/x)/2)≤67108864:=Nat.le_trans (Yd (Nat.div_le_self _ 2)) (by omega);rcases m9 with⟨m9,_⟩|⟨_,u9,rfl,o9⟩;·omega
  obtain⟨rr,hrr⟩: ∃rr,rr=(x+A/x)%2:=⟨_,rfl⟩;rw[←hrr]at c9;have c9:Zo Tryz.prog Zl 168 [v8,.int .u64 2] H8=some (.tuple #[u9,.int .u64 (rr:Int),.int .i64 0],H9):=c9;have hup:=newton_up (A:=A) hx0;have hstop:=newton_stop hx0 hAx;obtain⟨y,hy⟩: ∃y,y=(x+A/x)/2:=⟨_,rfl⟩;rw[←hy]at hup hstop hby o9;have ow9:=((ow5.mono (Nat.le_refl _) k7).mono (Nat.le_refl _) k8).mono (Nat.le_refl _) k9;obtain⟨vc,Hc,cc,ec,ec'⟩:=Ea o9.sl ow9.sl (Xg Ym y) (Xg Ym x) (Nat.le_trans (Zq hby) (by decide)) (Nat.le_trans (Zq (A:=x) (by omega)) (by decide));rw[Xy Ym,Xy Ym]at ec';rw[ec,ec']at cc;have gc:=geq_cmp (a:=y) (b:=x);have k49:=(((k45.trans k6).trans k7).trans k8).trans k9;have s1:Zd .sub .i64 2 1=some (.int .i64 1):=rfl;have cv1:Cv Tryz.prog 3 101 (.int .i64 1)=some (.int .u64 1):=Zi7 (n:=1) (by decide);have cv2:Cv Tryz.prog 3 101 (.int .i64 2)=some (.int .u64 2):=Zi7 (n:=2) (by decide);apply Zp;apply Zb;intro b3 hb3;apply Za;simp[t1,t6,s1,c5];subst hb3;apply Zb;intro b3 hb3;apply Za;simp[t0,c6];subst hb3;apply Zb;intro b3 hb3;apply Za;simp[t1,t6,s1,cv1,c7];subst hb3;apply Zb;intro b3 hb3;apply Za;simp[c8];subst hb3;apply Zb;intro b3 hb3;apply Za;simp[t1,cv2,c9];subst hb3;apply Zb;intro b3 hb3;apply Zb;intro b4 hb4;apply Za;simp[t6,cc,gc];subst hb4;by_cases hyx:x≤y;·refine Zc (t:=true) (by simp[hyx]) ?_;apply Zb;intro b4 hb4;apply Za;simp[t6];subst hb4;apply Zi;simp[Xb,Yq];apply hQ';simp[Dq,Yq,Xb];exact⟨k49,x,hstop hyx,ow9⟩
  ·refine Zc (t:=false) (by simp[hyx]) ?_;apply Zh;subst hb3;apply Za;simp;apply hQ';refine⟨y,by omega,rfl,k49,?_,by omega,hup,u9,o9.mono (Nat.le_trans (((((kH.trans k5).trans k6).trans k7).trans k8).n) (Nat.le_refl _)) (.refl _),by simp[t0],by simp[t1],by simp⟩;rcases Nat.eq_zero_or_pos y with h0|h0;·subst h0;omega
   ·exact h0
theorem root_call(ha:Sl H va xs)(dx:Dig B64 xs)(lx:xs.length≤17592186044416)(hb:Zg (dv B64 xs)≤67108864): ∃u w H',Zo Tryz.prog Zl 89 [va,.int .i64 2] H=some (.tuple #[u,w,.int .i64 0],H')∧Keep H H'∧ ∃r,IsRt (dv B64 xs) r∧Own H.n H' u (ds B64 r)∧Sl H' w (ds B64 (dv B64 xs-r*r)):=by
 suffices hs:CW Tryz.prog Zl 89 [va,.int .i64 2] H fun v H'=> ∃u w,v= .tuple #[u,w,.int .i64 0]∧Keep H H'∧ ∃r,IsRt (dv B64 xs) r∧Own H.n H' u (ds B64 r)∧Sl H' w (ds B64 (dv B64 xs-r*r)) by obtain⟨v,H',hc,u,w,rfl,k,o⟩:=hs;exact⟨u,w,H',hc,k,o⟩
 obtain⟨v1,H1,c1,k1,o1⟩:=rootsFits_call ha dx lx hb;obtain⟨A,hA⟩: ∃A,A=dv B64 xs:=⟨_,rfl⟩;rw[←hA]at o1 hb⊢;have lA:=Zq hb;have c2:=Vk o1.sl lA;obtain⟨L,hL⟩: ∃L,L=Zg A:=⟨_,rfl⟩;rw[←hL]at c2;have g1:=Vw (k:= .i64) (x:=L);refine Zf 42 (by decide) (by decide) Tryz.func89 rfl rfl ?_;apply Zb;intro b1 hb1;apply Za;simp;subst hb1;apply Zb;intro b1 hb1;apply Zb;intro b2 hb2;apply Za;simp[show Zd .lss .i64 2 1=some (.bool false)from rfl];subst hb2;refine Zc (t:=false) (by simp) ?_;apply Zh;subst hb1;apply Zb;intro b1 hb1;apply Za;simp[c1];subst hb1;apply Zb;intro b1 hb1;apply Zb;intro b2 hb2;apply Za;simp[Ca];subst hb2;refine Zc (t:=false) (by simp) ?_;apply Zh;subst hb1;apply Zb;intro b1 hb1;apply Zb;intro b2 hb2;apply Za;simp[show Zd .eql .i64 2 1=some (.bool false)from rfl,c2,g1];subst hb2;by_cases h0:L=0;·refine Zc (t:=true) (by simp[h0]) ?_;apply Zb;intro b2 hb2;apply Za;simp;subst hb2;apply Zi;simp[Xb];have:A=0:=Ey.mp (by omega);subst this;exact⟨_,_,⟨rfl,rfl⟩,k1,0,⟨by decide,by decide⟩,o1,by rw[show ds B64 (0-0*0)=[]from Jm _];exact .nil⟩
 ·refine Zc (t:=false) (by simp[h0]) ?_;apply Zh;subst hb1;have hA0:0<A:=by
   rcases Nat.eq_zero_or_pos A with h|h;·subst h;exact absurd hL h0
   ·exact h
  obtain⟨v3,H3,c3,k3,r,hr,o3⟩:=newton_call o1.sl hA0 hb;have hrr:Zg (r^2)≤67108864:=by rw[Nat.pow_two];exact Nat.le_trans (Yd hr.1) hb
  obtain⟨v4,H4,c4,k4,o4⟩:=pow_call (k:=2) o3.sl (by decide) (by decide) hrr;rw[Nat.pow_two]at o4 hrr;have c4:Zo Tryz.prog Zl 128 [v3,.int .i64 2] H3=some (.tuple #[v4,.int .i64 0],H4):=c4;obtain⟨v5,H5,c5,k5,o5⟩:=less_call ((o1.sl.keep k3).keep k4) o4.sl lA (Zq hrr) hr.1 hb;apply Zb;intro b1 hb1;apply Za;simp[c3];subst hb1;apply Zb;intro b1 hb1;apply Za;simp[c4];subst hb1;apply Zb;intro b1 hb1;apply Za;simp[c5];subst hb1;apply Zi;simp;exact⟨_,_,⟨rfl,rfl⟩,((k1.trans k3).trans k4).trans k5,r,hr,((o3.mono k1.n k4).mono (Nat.le_refl _) k5),o5.sl⟩
theorem sqrt_call(ha:Sl H va xs)(dx:Dig B64 xs)(lx:xs.length≤17592186044416)(hb:Zg (dv B64 xs)≤67108864): ∃u w H',Zo Tryz.prog Zl 55 [va] H=some (.tuple #[u,w,.int .i64 0],H')∧Keep H H'∧ ∃r,IsRt (dv B64 xs) r∧Own H.n H' u (ds B64 r)∧Sl H' w (ds B64 (dv B64 xs-r*r)):=by
 suffices hs:CW Tryz.prog Zl 55 [va] H fun v H'=> ∃u w,v= .tuple #[u,w,.int .i64 0]∧Keep H H'∧ ∃r,IsRt (dv B64 xs) r∧Own H.n H' u (ds B64 r)∧Sl H' w (ds B64 (dv B64 xs-r*r)) by obtain⟨v,H',hc,u,w,rfl,k,o⟩:=hs;exact⟨u,w,H',hc,k,o⟩
 obtain⟨u,w,H1,c1,k1,o1⟩:=root_call ha dx lx hb;refine Zf 10 (by decide) (by decide) Tryz.func55 rfl rfl ?_;apply Zb;intro b1 hb1;apply Za;simp;subst hb1;apply Zb;intro b1 hb1;apply Za;simp[c1];subst hb1;apply Zi;simp;exact⟨_,_,⟨rfl,rfl⟩,k1,o1⟩
end
end
theorem Qz(H:AH)(sz:Nat)(cs:List Value):(H.new sz cs).n=H.n+1:=rfl
theorem Vj(H:AH)(a:List Value): ∃H',H.new 1 a=H'∧Keep H H'∧H'.n=H.n+1∧H'.blk H.n= .rw 1 a:=⟨_,rfl,.new _ _ _,rfl,by rw[AH.blk_new,if_pos rfl]⟩
theorem Qp(H:AH)(a b:List Value): ∃H',(H.new 1 a).new 1 b=H'∧Keep H H'∧H'.n=H.n+2∧H'.blk H.n= .rw 1 a∧H'.blk (H.n+1)= .rw 1 b:=by obtain⟨H1,e1,k1,n1,q1⟩:=Vj H a;obtain⟨H2,e2,k2,n2,q2⟩:=Vj H1 b;exact⟨H2,by rw[e1,e2],k1.trans k2,by omega,by rw[k2.blk _ (by omega)];exact q1,by rw[←n1];exact q2⟩
theorem Kx(H:AH)(a b c:List Value): ∃H',((H.new 1 a).new 1 b).new 1 c=H'∧Keep H H'∧H'.n=H.n+3∧H'.blk H.n= .rw 1 a∧H'.blk (H.n+1)= .rw 1 b∧H'.blk (H.n+2)= .rw 1 c:=by obtain⟨H1,e1,k1,n1,q1,r1⟩:=Qp H a b;obtain⟨H2,e2,k2,n2,q2⟩:=Vj H1 c;exact⟨H2,by rw[e1,e2],k1.trans k2,by omega,by rw[k2.blk _ (by omega)];exact q1,by rw[k2.blk _ (by omega)];exact r1,by rw[←n1];exact q2⟩
theorem boxes4(H:AH)(a b c d:List Value): ∃H',(((H.new 1 a).new 1 b).new 1 c).new 1 d=H'∧Keep H H'∧H'.n=H.n+4∧H'.blk H.n= .rw 1 a∧H'.blk (H.n+1)= .rw 1 b∧H'.blk (H.n+2)= .rw 1 c∧H'.blk (H.n+3)= .rw 1 d:=by obtain⟨H1,e1,k1,n1,q1,r1⟩:=Qp H a b;obtain⟨H2,e2,k2,n2,q2,r2⟩:=Qp H1 c d;exact⟨H2,by rw[e1,e2],k1.trans k2,by omega,by rw[k2.blk _ (by omega)];exact q1,by rw[k2.blk _ (by omega)];exact r1,by rw[←n1];exact q2,by rw[show H.n+3=H1.n+1 by omega];exact r2⟩
theorem Aj{H:AH}{t:TypeId}{n b:Nat}{cs ws:List Value}(ht:Jd Tryz.prog t=some n)(hb:H.blk b= .rw 1 cs)(hc:cs.length=n){v:Value}(hv:v.cells.toList=ws)(hw:ws.length=n)(h1:ws.all one=true): ∃H',Xk Tryz.prog H t (.pointer (some ⟨b,0,none⟩)) v=some H'∧H'.n=H.n∧H'.blk b= .rw 1 ws∧(∀j,j≠b→H'.blk j=H.blk j)∧KAt b H H':=by obtain⟨H',st,q,n1,o,ka,_⟩:=Gl (o:=0) ht hb hv hw (by omega) h1;refine⟨H',st,n1,?_,o,ka⟩;rw[q,List.take_zero,List.nil_append,List.drop_of_length_le (by omega),List.append_nil]
theorem aWhole:Jq Tryz.prog 32=some true:=by kernel_rfl
theorem sWhole:Jd Tryz.prog 32=some 2:=by kernel_rfl
theorem Af:Ks Tryz.prog 32=some (.agg #[.bool false,.slice none 0 0]):=by kernel_rfl
theorem putW{H:AH}{b:Nat}{p' q' p q:Value}(hb:H.blk b= .rw 1 [p',q'])(h0:p.cells=#[p])(h1:q.cells=#[q])(h2:one p=true)(h3:one q=true): ∃H',Xk Tryz.prog H 32 (.pointer (some ⟨b,0,none⟩)) (.agg #[p,q])=some H'∧H'.n=H.n∧H'.blk b= .rw 1 [p,q]∧(∀j,j≠b→H'.blk j=H.blk j)∧KAt b H H':=Aj sWhole hb rfl (by simp[Value.cells]) rfl (by simp[h2,h3])
theorem Dz{H:AH}{b:Nat}{p q:Value}(hb:H.blk b= .rw 1 [p,q]):Yk Tryz.prog H 32 (.pointer (some ⟨b,0,none⟩))=some (.agg #[p,q]):=by unfold Yk;simp only[aWhole,sWhole,AH.read_def,hb];simp[AH.cells_rw' hb,show Nat.ble 2 2=true from rfl]
theorem Dx{H:AH}{b:Nat}{p q:Value}(hb:H.blk b= .rw 1 [p,q]):Yk Tryz.prog H 4 (.pointer (some ⟨b,0,none⟩))=some p:=Yh aBool (AH.cells_rw' hb (by decide)) rfl
theorem Fc{H:AH}{b:Nat}{p q:Value}(hb:H.blk b= .rw 1 [p,q]):Yk Tryz.prog H 30 (.pointer (some ⟨b,1,none⟩))=some q:=Yh aNat (AH.cells_rw' hb (by decide)) rfl
theorem Eo(b:Nat):Xa Tryz.prog 32 (.pointer (some ⟨b,0,none⟩)) 1=some (.pointer (some ⟨b,1,none⟩)):=faAbs b 0
theorem Zl3{b:Bool}{v:Value}(hv: ∃a l c,v= .slice a l c):Ui Tryz.prog 32 [(0,.bool b),(1,v)]=some (.agg #[.bool b,v]):=by obtain⟨a,l,c,rfl⟩:=hv;rfl
theorem Zi6{v:Value}(hv: ∃a l c,v= .slice a l c):Ui Tryz.prog 32 [(1,v)]=some (.agg #[.bool false,v]):=by obtain⟨a,l,c,rfl⟩:=hv;rfl
theorem Own.cells1{n:Nat}{H:AH}{v:Value}{xs:List Nat}(h:Own n H v xs):v.cells=#[v]∧one v=true:=h.isSlice
section
attribute [-simp] Int.natCast_add Int.natCast_mul Int.natCast_ediv Int.natCast_emod Int.natCast_pow
attribute [local simp] strip Yj LW' LR gW Yo Xi Ye Xj Yt Xh Zv Zw Zn Yv Xd Yp Xo Zz Yu Zm Zj Xm Xn Jl Yi Xe opd Qi Ys plain Yn Tr.get_set Qg Zu Xv Yg sameKind undef Zx Yw Xc Zs Yf parts unV DW Xp Yc LX Yb
section
variable {H : AH} {u va vb : Value} {xs ys : List Nat} {A B : Nat}
def sg(neg:Bool)(N:Nat):Bool:=neg&&decide (0<N)
theorem Zl0(neg:Bool)(hs:Sl H u xs)(dx:Dig B64 xs)(lx:xs.length≤17592186044416): ∃a H',Zo Tryz.prog Zl 195 [.agg #[.bool neg,u]] H=some (.agg #[.bool (sg neg (dv B64 xs)),a],H')∧Keep H H'∧Own H.n H' a (ds B64 (dv B64 xs)):=by
 obtain⟨N,hN⟩: ∃N,N=dv B64 xs:=⟨_,rfl⟩;rw[←hN];suffices h:CW Tryz.prog Zl 195 [.agg #[.bool neg,u]] H fun v H'=> ∃a,v= .agg #[.bool (sg neg N),a]∧Keep H H'∧Own H.n H' a (ds B64 N) by obtain⟨v,H',hc,a,rfl,k,o⟩:=h;exact⟨a,H',hc,k,o⟩
 obtain⟨H2,e2,k2,n2,q1,q2⟩:=Qp H [.bool neg,u] [.bool false,.slice none 0 0];obtain⟨w,H3,c3,k3,o3⟩:=Fx (hs.keep k2) dx lx;rw[←hN]at o3;have q1':=k3.blk _ (show H.n<H2.n by omega);rw[q1]at q1';have q2':=k3.blk _ (show H.n+1<H2.n by omega);rw[q2]at q2';obtain⟨i1,i2⟩:=o3.cells1;obtain⟨H4,st4,n4,q4,b4,ka4⟩:=putW (p:= .bool (sg neg N)) (q:=w) q2' rfl i1 rfl i2;have k04:Keep H H4:=ka4 H (k2.trans k3) (by omega);have o4:Own H.n H4 w (ds B64 N):=by have hb:But (some (H.n+1)) H3 H4:=⟨n4,fun j _ hj=>b4 j (fun e=>hj (by rw[e]))⟩;exact(o3.but hb (fun c hc hv=>by cases hc;have:=(o3.blk_lo hv).1;omega)).mono (by omega) (.refl _)
 have l3:=o3.sl.len Zs;obtain⟨m,hm⟩: ∃m,m=(ds B64 N).length:=⟨_,rfl⟩;rw[←hm]at l3;have hmN:(0<m)↔0<N:=by rw[hm];exact Ko Ym
 have hbd:=Zl3 (b:=sg neg N) o3.shape;have hld:=Dz q4;obtain⟨S,hS⟩: ∃S,S=sg neg N:=⟨_,rfl⟩;rw[←hS]at st4 hbd hld⊢;refine Zf 16 (by decide) (by decide) Tryz.func195 rfl rfl ?_;apply Zb;intro b1 hb1;apply Za;simp[Value.cells,Af,Qz,e2];subst hb1;apply Zb;intro b1 hb1;apply Za;simp[Eo,Fc q1,c3];subst hb1;cases neg with
  |false=>
   have:S=false:=by rw[hS];rfl
   subst this;apply Zb;intro b1 hb1;apply Za;simp[Kz,Dx q1',hbd,st4];subst hb1;apply Zi;simp[hld];exact⟨k04,o4⟩
  |true=>
   have hg:Zd .gtr .i64 (m:Int) 0=some (.bool S):=by rw[gtr0,hS];unfold sg;rw[Bool.true_and,decide_eq_decide.mpr hmN]
   apply Zb;intro b1 hb1;apply Za;simp[Kz,Dx q1',l3,hg,hbd,st4];subst hb1;apply Zi;simp[hld];exact⟨k04,o4⟩
end
end
theorem Own.off{n b:Nat}{H H':AH}{w:Value}{xs:List Nat}(o:Own n H w xs)(hb:b<n)(hn:H'.n=H.n)(h: ∀j,j≠b→H'.blk j=H.blk j):Own n H' w xs:=o.but (b:=some b) ⟨hn,fun j _ hj=>h j (fun e=>hj (by rw[e]))⟩ (fun c hc hv=>by cases hc;have:=(o.blk_lo hv).1;omega)
section
attribute [-simp] Int.natCast_add Int.natCast_mul Int.natCast_ediv Int.natCast_emod Int.natCast_pow
attribute [local simp] strip Yj LW' LR gW Yo Xi Ye Xj Yt Xh Zv Zw Zn Yv Xd Yp Xo Zz Yu Zm Zj Xm Xn Jl Yi Xe opd Qi Ys plain Yn Tr.get_set Qg Zu Xv Yg sameKind undef Zx Yw Xc Zs Yf parts unV DW Xp Yc LX Yb
section
variable {H : AH} {u v va vb : Value} {xs ys : List Nat} {A B : Nat}
theorem wfits_call(neg:Bool)(hs:Sl H u xs)(dx:Dig B64 xs)(lx:xs.length≤17592186044416)(hb:Zg (dv B64 xs)≤67108864): ∃a H',Zo Tryz.prog Zl 220 [.agg #[.bool neg,u]] H=some (.tuple #[.agg #[.bool (sg neg (dv B64 xs)),a],.int .i64 0],H')∧Keep H H'∧Own H.n H' a (ds B64 (dv B64 xs)):=by
 obtain⟨N,hN⟩: ∃N,N=dv B64 xs:=⟨_,rfl⟩;suffices h:CW Tryz.prog Zl 220 [.agg #[.bool neg,u]] H fun v H'=> ∃a,v= .tuple #[.agg #[.bool (sg neg N),a],.int .i64 0]∧Keep H H'∧Own H.n H' a (ds B64 N) by obtain⟨v,H',hc,a,rfl,k,o⟩:=h;rw[←hN];exact⟨a,H',hc,k,o⟩
 obtain⟨i1,i2⟩:=Sl.one1 hs|>fun h=>(⟨by obtain⟨a,l,c,rfl⟩:=hs.shape;rfl,h⟩:u.cells=#[u]∧one u=true);obtain⟨H2,e2,k2,n2,q1,q2⟩:=Qp H [.bool neg,u] [.bool false,.slice none 0 0];obtain⟨v0,H0,c0,e0,e0'⟩:=Kh (hs.keep k2) dx lx;rw[e0,e0',←hN]at c0;rw[←hN]at hb;obtain⟨w,H3,c3,k3,o3⟩:=Zl0 neg (hs.keep k2) dx lx;rw[←hN]at c3 o3;have q2':=k3.blk _ (show H.n+1<H2.n by omega);rw[q2]at q2';obtain⟨j1,j2⟩:=o3.cells1;obtain⟨S,hS⟩: ∃S,S=sg neg N:=⟨_,rfl⟩;rw[←hS]at c3⊢;obtain⟨H4,st4,n4,q4,b4,ka4⟩:=putW (p:= .bool S) (q:=w) q2' rfl j1 rfl j2;have k04:Keep H H4:=ka4 H (k2.trans k3) (by omega);have o4:=(o3.off (b:=H.n+1) (by omega) n4 b4).mono (show H.n≤H2.n by omega) (.refl _);have hld:=Dz q4;obtain⟨L,hL⟩: ∃L,L=Zg N:=⟨_,rfl⟩;rw[←hL]at c0 hb;have g1:Zd .gtr .i64 (L:Int) 67108864=some (.bool false):=by have h:=Kl (k:= .i64) (x:=L) (y:=67108864);rw[decide_eq_false (by omega)]at h;exact h
 refine Zf 11 (by decide) (by decide) Tryz.func220 rfl rfl ?_;apply Zb;intro b1 hb1;apply Za;simp[Value.cells,Af,Qz,e2];subst hb1;apply Zb;intro b1 hb1;apply Zb;intro b2 hb2;apply Za;simp[Eo,Fc q1,c0,g1];subst hb2;refine Zc (t:=false) (by simp) ?_;apply Zh;subst hb1;apply Zb;intro b1 hb1;apply Za;simp[Dz q1,c3,st4];subst hb1;apply Zi;simp[hld];exact⟨k04,o4⟩
theorem Zb0(neg:Bool)(hs:Sl H u xs)(dx:Dig B64 xs)(lx:xs.length≤17592186044416)(hb:Zg (dv B64 xs)≤67108864): ∃a H',Zo Tryz.prog Zl 194 [.bool neg,u,.int .i64 0] H=some (.tuple #[.agg #[.bool (sg neg (dv B64 xs)),a],.int .i64 0],H')∧Keep H H'∧Own H.n H' a (ds B64 (dv B64 xs)):=by
 obtain⟨N,hN⟩: ∃N,N=dv B64 xs:=⟨_,rfl⟩;suffices h:CW Tryz.prog Zl 194 [.bool neg,u,.int .i64 0] H fun v H'=> ∃a,v= .tuple #[.agg #[.bool (sg neg N),a],.int .i64 0]∧Keep H H'∧Own H.n H' a (ds B64 N) by obtain⟨v,H',hc,a,rfl,k,o⟩:=h;rw[←hN];exact⟨a,H',hc,k,o⟩
 obtain⟨H2,e2,k2,n2,q2⟩:=Vj H [.bool false,.slice none 0 0];obtain⟨w,H3,c3,k3,o3⟩:=wfits_call neg (hs.keep k2) dx lx hb;rw[←hN]at c3 o3;have q2':=k3.blk _ (show H.n<H2.n by omega);rw[q2]at q2';obtain⟨j1,j2⟩:=o3.cells1;obtain⟨S,hS⟩: ∃S,S=sg neg N:=⟨_,rfl⟩;rw[←hS]at c3⊢;obtain⟨H4,st4,n4,q4,b4,ka4⟩:=putW (p:= .bool S) (q:=w) q2' rfl j1 rfl j2;have k04:Keep H H4:=ka4 H (k2.trans k3) (by omega);have o4:=(o3.off (b:=H.n) (by omega) n4 b4).mono (show H.n≤H2.n by omega) (.refl _);have hld:=Dz q4;have hbd:=Zl3 (b:=neg) (v:=u) hs.shape;refine Zf 18 (by decide) (by decide) Tryz.func194 rfl rfl ?_;apply Zb;intro b1 hb1;apply Za;simp[Value.cells,Af,Qz,e2];subst hb1;apply Zb;intro b1 hb1;apply Zb;intro b2 hb2;apply Za;simp[Ca];subst hb2;refine Zc (t:=false) (by simp) ?_;apply Zh;subst hb1;apply Zb;intro b1 hb1;apply Za;simp[hbd,c3,st4];subst hb1;apply Zi;simp[hld];exact⟨k04,o4⟩
theorem wOf_call{n:Nat}(hn:n<9223372036854775808): ∃a H',Zo Tryz.prog Zl 196 [.int .i64 (n:Int)] H=some (.agg #[.bool false,a],H')∧Keep H H'∧Own H.n H' a (ds B64 n):=by
 suffices h:CW Tryz.prog Zl 196 [.int .i64 (n:Int)] H fun v H'=> ∃a,v= .agg #[.bool false,a]∧Keep H H'∧Own H.n H' a (ds B64 n) by obtain⟨v,H',hc,a,rfl,k,o⟩:=h;exact⟨a,H',hc,k,o⟩
 have hnB:n<B64:=Nat.lt_trans hn (by decide);obtain⟨H2,e2,k2,n2,q2⟩:=Vj H [.bool false,.slice none 0 0];obtain⟨w,H3,c3,k3,o3⟩:=Da (H:=H2) hnB;have q2':=k3.blk _ (show H.n<H2.n by omega);rw[q2]at q2';obtain⟨j1,j2⟩:=o3.cells1;obtain⟨H4,st4,n4,q4,b4,ka4⟩:=putW (p:= .bool false) (q:=w) q2' rfl j1 rfl j2;have k04:Keep H H4:=ka4 H (k2.trans k3) (by omega);have o4:=(o3.off (b:=H.n) (by omega) n4 b4).mono (show H.n≤H2.n by omega) (.refl _);have hld:=Dz q4;have hbd:=Zi6 (v:=w) o3.shape;have cv:=Zi7 hnB;refine Zf 14 (by decide) (by decide) Tryz.func196 rfl rfl ?_;apply Zb;intro b1 hb1;apply Za;simp[Value.cells,Af,Qz,e2];subst hb1;apply Zb;intro b1 hb1;apply Zb;intro b2 hb2;apply Za;simp[lss_neg];subst hb2;refine Zc (t:=false) (by simp) ?_;apply Zh;subst hb1;apply Zb;intro b1 hb1;apply Za;simp[cv,c3,hbd,st4];subst hb1;apply Zi;simp[hld];exact⟨k04,o4⟩
def Jj(neg:Bool)(N:Nat):Int:=if N=0 then 0 else if neg then-1 else 1
theorem wSign_call(neg:Bool)(hs:Sl H u xs)(dx:Dig B64 xs)(lx:xs.length≤17592186044416): ∃H',Zo Tryz.prog Zl 125 [.agg #[.bool neg,u]] H=some (.int .i64 (Jj neg (dv B64 xs)),H')∧Keep H H':=by
 obtain⟨N,hN⟩: ∃N,N=dv B64 xs:=⟨_,rfl⟩;suffices h:CW Tryz.prog Zl 125 [.agg #[.bool neg,u]] H fun v H'=>v= .int .i64 (Jj neg N)∧Keep H H' by obtain⟨v,H',hc,rfl,k⟩:=h;rw[←hN];exact⟨H',hc,k⟩
 obtain⟨S,hS⟩: ∃S,S=Jj neg N:=⟨_,rfl⟩;rw[←hS];unfold Jj at hS;obtain⟨H2,e2,k2,n2,q1⟩:=Vj H [.bool neg,u];obtain⟨v0,H0,c0,e0,e0'⟩:=Kh (hs.keep k2) dx lx;rw[e0,e0',←hN]at c0;obtain⟨L,hL⟩: ∃L,L=Zg N:=⟨_,rfl⟩;rw[←hL]at c0;have g1:=Vw (k:= .i64) (x:=L);have hLN:L=0↔N=0:=by rw[hL];exact Ey
 refine Zf 11 (by decide) (by decide) Tryz.func125 rfl rfl ?_;apply Zb;intro b1 hb1;apply Za;simp[Value.cells,Qz,e2];subst hb1;apply Zb;intro b1 hb1;apply Zp;apply Zb;intro b2 hb2;apply Za;simp[Eo,Fc q1,c0,g1];subst hb2;by_cases h0:L=0;·rw[if_pos (hLN.mp h0)]at hS;subst hS;refine Zc (t:=true) (by simp[h0]) ?_;apply Zb;intro b1 hb1;apply Za;simp;subst hb1;apply Zi;simp[Xb,Yq];exact k2
 ·rw[if_neg (fun h=>h0 (hLN.mpr h))]at hS;refine Zc (t:=false) (by simp[h0]) ?_;apply Zb;intro b2 hb2;apply Za;simp[Kz,Dx q1];subst hb2;cases neg with|true=>rw[if_pos rfl]at hS;subst hS;refine Zc (t:=true) (by simp) ?_;apply Zb;intro b1 hb1;apply Za;simp;subst hb1;apply Zi;simp[Xb,Yq];exact k2|false=>rw[if_neg (by decide)]at hS;subst hS;refine Zc (t:=false) (by simp) ?_;apply Zh;subst hb1;apply Zb;intro b1 hb1;apply Za;simp;subst hb1;apply Zi;simp;exact k2
theorem wMul_call(s t:Bool)(ha:Sl H u (ds B64 A))(hb:Sl H v (ds B64 B))(lA:(ds B64 A).length≤Lim)(lB:(ds B64 B).length≤Lim)(h:Zg (A*B)≤67108864): ∃a H',Zo Tryz.prog Zl 143 [.agg #[.bool s,u],.agg #[.bool t,v]] H=some (.tuple #[.agg #[.bool (sg (s !=t) (A*B)),a],.int .i64 0],H')∧Keep H H'∧Own H.n H' a (ds B64 (A*B)):=by
 suffices h:CW Tryz.prog Zl 143 [.agg #[.bool s,u],.agg #[.bool t,v]] H fun v H'=> ∃a,v= .tuple #[.agg #[.bool (sg (s !=t) (A*B)),a],.int .i64 0]∧Keep H H'∧Own H.n H' a (ds B64 (A*B)) by obtain⟨v,H',hc,a,rfl,k,o⟩:=h;exact⟨a,H',hc,k,o⟩
 obtain⟨H2,e2,k2,n2,q1,q2,q3⟩:=Kx H [.bool s,u] [.bool t,v] [.bool false,.slice none 0 0];obtain⟨w,H3,c3,k3,o3⟩:=Ax (ha.keep k2) (hb.keep k2) lA lB h;have q1':=k3.blk _ (show H.n<H2.n by omega);rw[q1]at q1';have q2':=k3.blk _ (show H.n+1<H2.n by omega);rw[q2]at q2';obtain⟨z,H4,c4,k4,o4⟩:=Zb0 (s !=t) o3.sl (Xg Ym _) (Nat.le_trans (Zq h) (by decide)) (by rw[Xy Ym];exact h);rw[Xy Ym]at c4 o4;have q3':=(k3.trans k4).blk _ (show H.n+2<H2.n by omega);rw[q3]at q3';obtain⟨j1,j2⟩:=o4.cells1;obtain⟨S,hS⟩: ∃S,S=sg (s !=t) (A*B):=⟨_,rfl⟩;rw[←hS]at c4⊢;obtain⟨H5,st5,n5,q5,b5,ka5⟩:=putW (p:= .bool S) (q:=z) q3' rfl j1 rfl j2;have n3:=k3.n;have k05:Keep H H5:=ka5 H ((k2.trans k3).trans k4) (by omega);have o5:=(o4.off (b:=H.n+2) (by omega) n5 b5).mono (show H.n≤H3.n by omega) (.refl _);have hld:=Dz q5;have gne:Xv Tryz.prog .neq 4 (.bool s) (.bool t)=some (.bool (s !=t)):=by cases s<;>cases t<;>rfl
 obtain⟨x,hx⟩: ∃x,x=(s !=t):=⟨_,rfl⟩;rw[←hx]at c4 gne;refine Zf 26 (by decide) (by decide) Tryz.func143 rfl rfl ?_;apply Zb;intro b1 hb1;apply Za;simp[Value.cells,Af,Qz,e2];subst hb1;apply Zb;intro b1 hb1;apply Za;simp[Eo,Fc q1,Fc q2,c3];subst hb1;apply Zb;intro b1 hb1;apply Za;simp[Kz,Dx q1',Dx q2',-Xv,gne,c4,st5];subst hb1;apply Zi;simp[hld];exact⟨k05,o5⟩
end
end
theorem putL{H:AH}{t:TypeId}{n b:Nat}{cs ws:List Value}(ht:Jd Tryz.prog t=some n)(hb:H.blk b= .rw 1 cs)(hc:cs.length=n){v:Value}(hv:v.cells.toList=ws)(hw:ws.length=n)(h1:ws.all one=true): ∃H',Xk Tryz.prog H t (.pointer (some ⟨b,0,none⟩)) v=some H'∧H'.n=H.n∧H'.blk b= .rw 1 ws∧(∀j,j≠b→H'.blk j=H.blk j)∧KAt b H H'∧H'.lw=min H.lw b:=by obtain⟨H',st,q,n1,o,ka,lw⟩:=Gl (o:=0) ht hb hv hw (by omega) h1;refine⟨H',st,n1,?_,o,ka,lw⟩;rw[q,List.take_zero,List.nil_append,List.drop_of_length_le (by omega),List.append_nil]
theorem Fg{H:AH}{t:TypeId}{n b:Nat}{cs ws:List Value}(ht:Jd Tryz.prog t=some n)(hb:H.blk b= .rw 1 cs)(hbn:b<H.n)(hc:cs.length=n){v:Value}(hv:v.cells.toList=ws)(hw:ws.length=n)(h1:ws.all one=true): ∃H2,Xk Tryz.prog H.top t (.pointer (some ⟨b,0,none⟩)) v=some H2∧H2.n=H.n∧H2.lw<H.n∧(low H H2).n=H.n∧(low H H2).blk b= .rw 1 ws∧(∀j,j≠b→(low H H2).blk j=H.blk j)∧KAt b H (low H H2):=by obtain⟨H2,st,n1,q,o,ka,lw⟩:=putL (H:=H.top) ht hb hc hv hw h1;exact⟨H2,st,n1,by rw[lw];show min H.n b<H.n;omega,n1,q,o,Zo6 ka⟩
def sumW(s:Bool)(A:Nat)(t:Bool)(B:Nat):Bool×Nat:=if sg s A=sg t B then(sg s A,A+B)else if A<B then(sg t B,B-A)else(sg s A,A-B)
section
attribute [-simp] Int.natCast_add Int.natCast_mul Int.natCast_ediv Int.natCast_emod Int.natCast_pow
attribute [local simp] strip Yj LW' LR gW Yo Xi Ye Xj Yt Xh Zv Zw Zn Yv Xd Yp Xo Zz Yu Zm Zj Xm Xn Jl Yi Xe opd Qi Ys plain Yn Tr.get_set Qg Zu Xv Yg sameKind undef Zx Yw Xc Zs Yf parts unV DW Xp Yc LX Yb
section
variable {H : AH} {u v va vb : Value} {xs ys : List Nat} {A B : Nat}
theorem wAdd_call(s t:Bool)(ha:Sl H u (ds B64 A))(hb:Sl H v (ds B64 B))(lA:(ds B64 A).length≤Lim)(lB:(ds B64 B).length≤Lim)(h:Zg (A+B)≤67108864): ∃a H',Zo Tryz.prog Zl 144 [.agg #[.bool s,u],.agg #[.bool t,v]] H=some (.tuple #[.agg #[.bool (sg (sumW s A t B).1 (sumW s A t B).2),a],.int .i64 0],H')∧Keep H H'∧Own H.n H' a (ds B64 (sumW s A t B).2):=by
 suffices hs:CW Tryz.prog Zl 144 [.agg #[.bool s,u],.agg #[.bool t,v]] H fun v H'=> ∃a,v= .tuple #[.agg #[.bool (sg (sumW s A t B).1 (sumW s A t B).2),a],.int .i64 0]∧Keep H H'∧Own H.n H' a (ds B64 (sumW s A t B).2) by obtain⟨v,H',hc,a,rfl,k,o⟩:=hs;exact⟨a,H',hc,k,o⟩
 obtain⟨H2,e2,k2,n2,q1,q2,q3⟩:=Kx H [.bool s,u] [.bool t,v] [.bool false,.slice none 0 0];have cA:u.cells=#[u]∧one u=true:=⟨by obtain⟨a,l,c,rfl⟩:=ha.shape;rfl,ha.one1⟩;have cB:v.cells=#[v]∧one v=true:=⟨by obtain⟨a,l,c,rfl⟩:=hb.shape;rfl,hb.one1⟩;obtain⟨w1,E1,c1,kE1,o1⟩:=Zl0 s ((ha.keep k2).top) (Xg Ym A) (Nat.le_trans lA (by decide));rw[Xy Ym]at c1 o1;obtain⟨G1,hG1⟩: ∃G1,G1=grown H2 E1:=⟨_,rfl⟩;have kG1:Keep H2 G1:=by rw[hG1];exact Zk (.refl H2) kE1
 have o1':Own H2.n G1 w1 (ds B64 A):=by rw[hG1];exact o1.same (Zt kE1)
 have nE1:H2.n≤E1.n:=kE1.n;obtain⟨w2,E2,c2,kE2,o2⟩:=Zl0 t ((hb.keep (k2.trans kG1)).top) (Xg Ym B) (Nat.le_trans lB (by decide));rw[Xy Ym]at c2 o2;obtain⟨G2,hG2⟩: ∃G2,G2=grown G1 E2:=⟨_,rfl⟩;have kG2:Keep G1 G2:=by rw[hG2];exact Zk (.refl G1) kE2
 have o2':Own G1.n G2 w2 (ds B64 B):=by rw[hG2];exact o2.same (Zt kE2)
 have nE2:G1.n≤E2.n:=kE2.n;have kH2:=kG1.trans kG2;have ng:=kH2.n;have ng1:=kG1.n;have o1'':=o1'.mono (Nat.le_refl _) kG2;have o2'':=o2'.mono ng1 (.refl _);obtain⟨x,hx⟩: ∃x,x=sg s A:=⟨_,rfl⟩;obtain⟨y,hy⟩: ∃y,y=sg t B:=⟨_,rfl⟩;rw[←hx]at c1;rw[←hy]at c2;have r1:G2.blk H.n= .rw 1 [.bool s,u]:=by rw[kH2.blk _ (by omega)];exact q1
 have r2:G2.blk (H.n+1)= .rw 1 [.bool t,v]:=by rw[kH2.blk _ (by omega)];exact q2
 have r3:G2.blk (H.n+2)= .rw 1 [.bool false,.slice none 0 0]:=by rw[kH2.blk _ (by omega)];exact q3
 obtain⟨i1,i2⟩:=o1''.cells1;obtain⟨i3,i4⟩:=o2''.cells1;obtain⟨S1,st1,sn1,slw1,fn1,fb1,fo1,fk1⟩:=Fg (v:= .agg #[.bool x,w1]) (ws:=[.bool x,w1]) sWhole r1 (by omega) rfl (by simp[Value.cells]) rfl (by simp[i2,show one (Value.bool x)=true from rfl]);obtain⟨F1,hF1⟩: ∃F1,F1=low G2 S1:=⟨_,rfl⟩;rw[←hF1]at fn1 fb1 fo1 fk1;have r2':F1.blk (H.n+1)= .rw 1 [.bool t,v]:=by rw[fo1 _ (by omega)];exact r2
 obtain⟨S2,st2,sn2,slw2,fn2,fb2,fo2,fk2⟩:=Fg (v:= .agg #[.bool y,w2]) (ws:=[.bool y,w2]) sWhole r2' (by omega) rfl (by simp[Value.cells]) rfl (by simp[i4,show one (Value.bool y)=true from rfl]);obtain⟨F,hF⟩: ∃F,F=low F1 S2:=⟨_,rfl⟩;rw[←hF]at fn2 fb2 fo2 fk2;have f1:F.blk H.n= .rw 1 [.bool x,w1]:=by rw[fo2 _ (by omega)];exact fb1
 have f3:F.blk (H.n+2)= .rw 1 [.bool false,.slice none 0 0]:=by rw[fo2 _ (by omega),fo1 _ (by omega)];exact r3
 have kF:Keep H F:=fk2 H (fk1 H (k2.trans kH2) (by omega)) (by omega);have p1:Own H2.n F w1 (ds B64 A):=(o1''.off (b:=H.n) (by omega) fn1 fo1).off (b:=H.n+1) (by omega) fn2 fo2;have p2:Own H2.n F w2 (ds B64 B):=(o2''.off (b:=H.n) (by omega) fn1 fo1).off (b:=H.n+1) (by omega) fn2 fo2;have nF:F.n=G2.n:=by rw[fn2,fn1]
 have l2: ∀bits ms,(∀x∈ms,H2.n≤x.2.1)→Yk Tryz.prog (vis G1 bits ms) 32 (.pointer (some ⟨H.n+1,0,none⟩))=some (.agg #[.bool t,v]):=fun bits ms h=>Dz (by rw[(Qe kG1 h).blk _ (by omega)];exact q2);refine Zf 57 (by decide) (by decide) Tryz.func144 rfl rfl ?_;apply Zb;intro b1 hb1;apply Za;simp[Value.cells,Af,Qz,e2];subst hb1;apply Zb;intro b1 hb1;apply Qd (by kernel_rfl);simp;refine Zr (v:= .agg #[.bool s,u]) rfl rfl rfl (by rw[Ze rfl];simp[Dz (H:=H2.top) q1]) ?_;simp;refine Zy (v:= .agg #[.bool x,w1]) (H2:=E1) rfl rfl rfl (by rw[Ze rfl];simp[c1]) nE1 (Ya kE1) ?_;rw[←hG1];generalize hms:cond (Nat.blt H2.n E1.n) _ _=ms;have hms1:=Fb hms;simp;refine Zr (v:= .agg #[.bool t,v]) rfl rfl rfl (by simp[l2 _ ms fun x hx=>(hms1 x hx).2]) ?_;simp;refine Zy (v:= .agg #[.bool y,w2]) (H2:=E2) rfl rfl rfl ?_ nE2 (Ya kE2) ?_;·rw[Ze (Yy fun x hx=>by rw[(hms1 x hx).1];kernel_rfl)];simp[c2]
 rw[←hG2];generalize hms2:cond (Nat.blt G1.n E2.n) _ _=ms2;have hms3: ∀bits:Nat,bits.testBit 1=true→bits.testBit 3=true→ ∀x∈ms2,bits.testBit x.1=true:=fun bits b1 b3 x hx=>by rw[←hms2]at hx;cases hb:Nat.blt G1.n E2.n with
  |false=>rw[hb,cond_false]at hx;rw[(hms1 x hx).1];exact b1
  |true=>
   rw[hb,cond_true]at hx;rcases List.mem_cons.mp hx with e|e;·rw[e];exact b3
   ·rw[(hms1 x e).1];exact b1
 simp;refine Xf (v:= .tuple #[]) (H2:=S1) rfl rfl (by kernel_rfl) (Yy (hms3 _ (by kernel_rfl) (by kernel_rfl))) ?_ (by omega) slw1 ?_;·show Yo _ _ _ _ G2.top _=_;simp[st1]
 rw[show({ n:=S1.n,lw:=min G2.lw S1.lw,t:=S1.t } :AH)=F1 from hF1.symm];rw[show Nat.blt G2.n S1.n=false from by rw[sn1];exact Qh _,cond_false];simp;refine Xf (v:= .tuple #[]) (H2:=S2) rfl rfl (by kernel_rfl) (Yy (hms3 _ (by kernel_rfl) (by kernel_rfl))) ?_ (by omega) slw2 ?_;·show Yo _ _ _ _ F1.top _=_;simp[st2]
 rw[show({ n:=S2.n,lw:=min F1.lw S2.lw,t:=S2.t } :AH)=F from hF.symm];simp;subst hb1;clear hms hms1 hms2 hms3;have hsum:sumW s A t B=if x=y then(x,A+B)else if A<B then(y,B-A)else(x,A-B):=by rw[hx,hy];rfl
 obtain⟨Z,hZ⟩: ∃Z,Z=sumW s A t B:=⟨_,rfl⟩;rw[←hZ]at hsum⊢;clear c1 c2 o1 o2 st1 st2;have geq:Xv Tryz.prog .eql 4 (.bool x) (.bool y)=some (.bool (decide (x=y))):=by cases x<;>cases y<;>rfl
 have hbA:Zg A≤67108864:=Nat.le_trans (Yd (by omega)) h;have hbB:Zg B≤67108864:=Nat.le_trans (Yd (by omega)) h;apply Zb;intro b1 hb1;apply Zb;intro b2 hb2;apply Za;simp[Kz,Dx f1,Dx fb2,-Xv,geq];subst hb2;by_cases hxy:x=y
 ·rw[if_pos hxy]at hsum;subst hsum;obtain⟨w,H3,c3,k3,o3⟩:=Zu1 p1.sl p2.sl lA lB h;obtain⟨z,H4,c4,k4,o4⟩:=Zb0 x o3.sl (Xg Ym _) (Nat.le_trans (Zq h) (by decide)) (by rw[Xy Ym];exact h);rw[Xy Ym]at c4 o4;have g1:H3.blk H.n= .rw 1 [.bool x,w1]:=by rw[k3.blk _ (by omega)];exact f1
  have g3:H4.blk (H.n+2)= .rw 1 [.bool false,.slice none 0 0]:=by rw[(k3.trans k4).blk _ (by omega)];exact f3
  obtain⟨j1,j2⟩:=o4.cells1;obtain⟨S,hS⟩: ∃S,S=sg x (A+B):=⟨_,rfl⟩;rw[←hS]at c4⊢;obtain⟨H5,st5,n5,q5,b5,ka5⟩:=putW (p:= .bool S) (q:=z) g3 rfl j1 rfl j2;have n3:=k3.n;have k05:Keep H H5:=ka5 H ((kF.trans k3).trans k4) (by omega);have o5:=(o4.off (b:=H.n+2) (by omega) n5 b5).mono (show H.n≤H3.n by omega) (.refl _);have hld:=Dz q5;refine Zc (t:=true) (by simp[hxy]) ?_;apply Zb;intro b1 hb1;apply Za;simp[Eo,Fc f1,Fc fb2,c3];subst hb1;apply Zb;intro b2 hb2;apply Za;simp[Kz,Dx g1,c4,st5];subst hb2;apply Zi;simp[Xb,hld];exact⟨k05,o5⟩
 ·rw[if_neg hxy]at hsum;refine Zc (t:=false) (by simp[hxy]) ?_;apply Zh;subst hb1;obtain⟨vc,Hc,cc,ec,ec'⟩:=Ea p1.sl p2.sl (Xg Ym A) (Xg Ym B) (Nat.le_trans lA (by decide)) (Nat.le_trans lB (by decide));rw[Xy Ym,Xy Ym]at ec';rw[ec,ec']at cc;have gc:Zd .lss .i64 (Jo A B) 0=some (.bool (decide (A<B))):=by rw[lss0,decide_eq_decide.mpr cmpN_lt]
  refine Ja (fun s'=>s'.k=57∧ ∃(x':Bool) (A' B':Nat) (w w':Value) (y':Value),Z=(x',A'-B')∧B'≤A'∧A'≤A+B∧F.n=s'.H.n∧Keep H s'.H∧s'.H.blk H.n= .rw 1 [.bool x',w]∧s'.H.blk (H.n+1)= .rw 1 [y',w']∧s'.H.blk (H.n+2)= .rw 1 [.bool false,.slice none 0 0]∧Own H2.n s'.H w (ds B64 A')∧Own H2.n s'.H w' (ds B64 B')∧s'.tm.get 2=some (.pointer (some ⟨H.n,0,none⟩))∧s'.tm.get 3=some (.pointer (some ⟨H.n+1,0,none⟩))∧s'.tm.get 4=some (.pointer (some ⟨H.n+2,0,none⟩))) ?_ ?_
  ·intro Q' hQ';apply Zb;intro b2 hb2;apply Za;simp[Eo,Fc f1,Fc fb2,cc,gc];subst hb2;by_cases hAB:A<B
   ·rw[if_pos hAB]at hsum;obtain⟨H3,st3,n3,g1,b3,ka3⟩:=putW (p:= .bool y) (q:=w2) f1 rfl i3 rfl i4;have g2:H3.blk (H.n+1)= .rw 1 [.bool y,w2]:=by rw[b3 _ (by omega)];exact fb2
    obtain⟨H4,st4,n4,g4,b4,ka4⟩:=putW (p:= .bool x) (q:=w1) g2 rfl i1 rfl i2;refine Zc (t:=true) (by simp[hAB]) ?_;apply Za;simp[Dz f1,Dz fb2,st3,st4];apply hQ';refine⟨rfl,y,B,A,w2,w1,_,hsum,by omega,by omega,by show F.n=H4.n;omega,ka4 H (ka3 H kF (by omega)) (by omega),?_,g4,?_,?_,?_,by simp,by simp,by simp⟩;·show H4.blk H.n=_;rw[b4 _ (by omega)];exact g1
    ·show H4.blk (H.n+2)=_;rw[b4 _ (by omega),b3 _ (by omega)];exact f3
    ·exact(p2.off (b:=H.n) (by omega) n3 b3).off (b:=H.n+1) (by omega) n4 b4
    ·exact(p1.off (b:=H.n) (by omega) n3 b3).off (b:=H.n+1) (by omega) n4 b4
   ·rw[if_neg hAB]at hsum;refine Zc (t:=false) (by simp[hAB]) ?_;apply Zh;apply hQ';exact⟨rfl,x,A,B,w1,w2,_,hsum,by omega,by omega,rfl,kF,f1,fb2,f3,p1,p2,by simp,by simp,by simp⟩
  clear p1 p2 f1 fb2 f3 cc gc hsum;rintro⟨kk,tm,F'⟩ ⟨hkk,x',A',B',w,w',y',hZ',hle,hlA,hnF,kF',f1,f2,f3,p1,p2,t2,t3,t4⟩;simp only at hkk hnF kF' f1 f2 f3 p1 p2 t2 t3 t4;subst hkk;subst hZ';have hbA':Zg A'≤67108864:=Nat.le_trans (Yd hlA) h;have hbB':Zg B'≤67108864:=Nat.le_trans (Yd hle) hbA';have hbD:Zg (A'-B')≤67108864:=Nat.le_trans (Yd (Nat.sub_le _ _)) hbA';obtain⟨w5,H3,c3,k3,o3⟩:=Zs9 p1.sl p2.sl (Zq hbA') (Zq hbB') hle hbA';obtain⟨z,H4,c4,k4,o4⟩:=Zb0 x' o3.sl (Xg Ym _) (Nat.le_trans (Zq hbD) (by decide)) (by rw[Xy Ym];exact hbD);rw[Xy Ym]at c4 o4;have g1:H3.blk H.n= .rw 1 [.bool x',w]:=by rw[k3.blk _ (by omega)];exact f1
  have g3:H4.blk (H.n+2)= .rw 1 [.bool false,.slice none 0 0]:=by rw[(k3.trans k4).blk _ (by omega)];exact f3
  obtain⟨j1,j2⟩:=o4.cells1;obtain⟨S,hS⟩: ∃S,S=sg x' (A'-B'):=⟨_,rfl⟩;rw[←hS]at c4;obtain⟨H5,st5,n5,q5,b5,ka5⟩:=putW (p:= .bool S) (q:=z) g3 rfl j1 rfl j2;have n3:=k3.n;have k05:Keep H H5:=ka5 H ((kF'.trans k3).trans k4) (by omega);have o5:=(o4.off (b:=H.n+2) (by omega) n5 b5).mono (show H.n≤H3.n by omega) (.refl _);have hld:=Dz q5;apply Zb;intro b1 hb1;apply Za;simp[t2,t3,Eo,Fc f1,Fc f2,c3];subst hb1;apply Zb;intro b1 hb1;apply Za;simp[t2,t4,Kz,Dx g1,c4,st5];subst hb1;apply Zi;simp[t4,hld,hS];exact⟨k05,o5⟩
end
end
theorem aRatio:Jq Tryz.prog 34=some true:=by kernel_rfl
theorem Gr:Jd Tryz.prog 34=some 3:=by kernel_rfl
theorem Vu:Ks Tryz.prog 34=some (.agg #[.bool false,.slice none 0 0,.slice none 0 0]):=by kernel_rfl
theorem Bc(b:Nat):Xa Tryz.prog 34 (.pointer (some ⟨b,0,none⟩)) 0=some (.pointer (some ⟨b,0,none⟩)):=faN b 0
theorem faQ1(b:Nat):Xa Tryz.prog 34 (.pointer (some ⟨b,0,none⟩)) 1=some (.pointer (some ⟨b,2,none⟩)):=faD b 0
theorem Xz{H:AH}{b:Nat}{p q r:Value}(hb:H.blk b= .rw 1 [p,q,r]):Yk Tryz.prog H 34 (.pointer (some ⟨b,0,none⟩))=some (.agg #[p,q,r]):=by unfold Yk;simp only[aRatio,Gr,AH.read_def,hb];simp[AH.cells_rw' hb,show Nat.ble 3 3=true from rfl]
theorem loadQW{H:AH}{b:Nat}{p q r:Value}(hb:H.blk b= .rw 1 [p,q,r]):Yk Tryz.prog H 32 (.pointer (some ⟨b,0,none⟩))=some (.agg #[p,q]):=by unfold Yk;simp only[aWhole,sWhole,AH.read_def,hb];simp[AH.cells_rw' hb,show Nat.ble 2 3=true from rfl]
theorem Zg0{H:AH}{b:Nat}{p q r:Value}(hb:H.blk b= .rw 1 [p,q,r]):Yk Tryz.prog H 4 (.pointer (some ⟨b,0,none⟩))=some p:=Yh aBool (AH.cells_rw' hb (by decide)) rfl
theorem Ky{H:AH}{b:Nat}{p q r:Value}(hb:H.blk b= .rw 1 [p,q,r]):Yk Tryz.prog H 30 (.pointer (some ⟨b,1,none⟩))=some q:=Yh aNat (AH.cells_rw' hb (by decide)) rfl
theorem Gd{H:AH}{b:Nat}{p q r:Value}(hb:H.blk b= .rw 1 [p,q,r]):Yk Tryz.prog H 30 (.pointer (some ⟨b,2,none⟩))=some r:=Yh aNat (AH.cells_rw' hb (by decide)) rfl
theorem gcd_le_l{A B:Nat}(hA:0<A):Nat.gcd A B≤A:=Nat.le_of_dvd hA (Nat.gcd_dvd_left A B)
section
attribute [-simp] Int.natCast_add Int.natCast_mul Int.natCast_ediv Int.natCast_emod Int.natCast_pow
attribute [local simp] strip Yj LW' LR gW Yo Xi Ye Xj Yt Xh Zv Zw Zn Yv Xd Yp Xo Zz Yu Zm Zj Xm Xn Jl Yi Xe opd Qi Ys plain Yn Tr.get_set Qg Zu Xv Yg sameKind undef Zx Yw Xc Zs Yf parts unV DW Xp Yc LX Yb
section
variable {H : AH} {u v va vb : Value} {xs ys : List Nat} {A B : Nat}
theorem Vr(u:Value)(H:AH):Zo Tryz.prog Zl 140 [u,.int .i64 0] H=some (u,H):=by
 suffices h:CW Tryz.prog Zl 140 [u,.int .i64 0] H fun v H'=>v=u∧H'=H by obtain⟨v,H',hc,rfl,rfl⟩:=h;exact hc
 refine Zf 11 (by decide) (by decide) Tryz.func140 rfl rfl ?_;apply Zb;intro b1 hb1;apply Za;simp;subst hb1;apply Zb;intro b1 hb1;apply Zb;intro b2 hb2;apply Za;simp[Ca];subst hb2;refine Zc (t:=false) (by simp) ?_;apply Zh;subst hb1;apply Zb;intro b1 hb1;apply Za;simp;subst hb1;apply Zi;simp
theorem parts_callX(neg:Bool)(ha:Sl H u xs)(hb:Sl H v ys)(dx:Dig B64 xs)(dy:Dig B64 ys)(lx:xs.length≤17592186044416)(ly:ys.length≤17592186044416)(eA:dv B64 xs=A)(eB:dv B64 ys=B)(hA:Zg A≤67108864)(hB:Zg B≤67108864)(hB0:0<B): ∃p q H',Zo Tryz.prog Zl 124 [.agg #[.bool neg,u,v]] H=some (.tuple #[.bool (Yl neg A B).1,p,q],H')∧Keep H H'∧Own H.n H' p (ds B64 (Yl neg A B).2.1)∧Own H.n H' q (ds B64 (Yl neg A B).2.2):=by
 obtain⟨r,hr⟩: ∃r,r=Yl neg A B:=⟨_,rfl⟩;rw[←hr];unfold Yl at hr;suffices hs:CW Tryz.prog Zl 124 [.agg #[.bool neg,u,v]] H fun v H'=> ∃p q,v= .tuple #[.bool r.1,p,q]∧Keep H H'∧Own H.n H' p (ds B64 r.2.1)∧Own H.n H' q (ds B64 r.2.2) by obtain⟨v,H',hc,p,q,rfl,k,o⟩:=hs;exact⟨p,q,H',hc,k,o⟩
 have lA:=Zq hA;have lB:=Zq hB;obtain⟨H2,e2,k2,n2,q1⟩:=Vj H [.bool neg,u,v];obtain⟨w1,E1,c1,kE1,o1⟩:=Fx ((ha.keep k2).top) dx lx;rw[eA]at o1;obtain⟨G1,hG1⟩: ∃G1,G1=grown H2 E1:=⟨_,rfl⟩;have kG1:Keep H2 G1:=by rw[hG1];exact Zk (.refl H2) kE1
 have o1':Own H2.n G1 w1 (ds B64 A):=by rw[hG1];exact o1.same (Zt kE1)
 have nE1:H2.n≤E1.n:=kE1.n;obtain⟨w2,E2,c2,kE2,o2⟩:=Fx ((hb.keep (k2.trans kG1)).top) dy ly;rw[eB]at o2;obtain⟨G2,hG2⟩: ∃G2,G2=grown G1 E2:=⟨_,rfl⟩;have kG2:Keep G1 G2:=by rw[hG2];exact Zk (.refl G1) kE2
 have o2':Own G1.n G2 w2 (ds B64 B):=by rw[hG2];exact o2.same (Zt kE2)
 have nE2:G1.n≤E2.n:=kE2.n;have kH2:=kG1.trans kG2;have ng:=kH2.n;have ng1:=kG1.n;have o1'':=o1'.mono (Nat.le_refl _) kG2;have o2'':=o2'.mono ng1 (.refl _);have l2: ∀bits ms,(∀x∈ms,H2.n≤x.2.1)→Yk Tryz.prog (vis G1 bits ms) 30 (.pointer (some ⟨H.n,2,none⟩))=some v:=fun bits ms h=>Gd (by rw[(Qe kG1 h).blk _ (by omega)];exact q1);have q1':G2.blk H.n= .rw 1 [.bool neg,u,v]:=by rw[kH2.blk _ (by omega)];exact q1
 have kF:=k2.trans kH2;refine Zf 42 (by decide) (by decide) Tryz.func124 rfl rfl ?_;apply Zb;intro b1 hb1;apply Za;simp[Value.cells,Qz,e2];subst hb1;apply Zb;intro b1 hb1;apply Qd (by kernel_rfl);simp[Bc,Eo];refine Zr (v:=u) rfl rfl rfl (by rw[Ze rfl];simp[Ky (H:=H2.top) q1]) ?_;simp;refine Zy (v:=w1) (H2:=E1) rfl rfl rfl (by rw[Ze rfl];simp[c1]) nE1 (Ya kE1) ?_;rw[←hG1];generalize hms:cond (Nat.blt H2.n E1.n) _ _=ms;have hms1:=Fb hms;simp[faQ1];refine Zr (v:=v) rfl rfl rfl (by simp[l2 _ ms fun x hx=>(hms1 x hx).2]) ?_;simp;refine Zy (v:=w2) (H2:=E2) rfl rfl rfl ?_ nE2 (Ya kE2) ?_;·rw[Ze (Yy fun x hx=>by rw[(hms1 x hx).1];kernel_rfl)];simp[c2]
 rw[←hG2];simp;subst hb1;clear hms hms1;have l1:=o1''.sl.len Zs;have l2':=o2''.sl.len Zs;obtain⟨m1,hm1⟩: ∃m,m=(ds B64 A).length:=⟨_,rfl⟩;obtain⟨m2,hm2⟩: ∃m,m=(ds B64 B).length:=⟨_,rfl⟩;rw[←hm1]at l1;rw[←hm2]at l2';have z1:m1=0↔A=0:=by rw[hm1];exact Ub Ym
 have z2:m2=0↔B=0:=by rw[hm2];exact Ub Ym
 have g1:=Vw (k:= .i64) (x:=m1);have g2:Zd .eql .i64 (m2:Int) 0=some (.bool false):=by rw[Vw,decide_eq_false (by omega)]
 apply Zb;intro b1 hb1;apply Zb;intro b2 hb2;apply Za;simp[l2',g2];subst hb2;refine Zc (t:=false) (by simp) ?_;apply Zh;subst hb1;apply Zb;intro b1 hb1;apply Zb;intro b2 hb2;apply Za;simp[l1,g1];subst hb2;by_cases h0:m1=0;·rw[if_pos (z1.mp h0)]at hr;subst hr;obtain⟨w3,H3,c3,k3,o3⟩:=Da (H:=G2) (x:=1) (by decide);have c3:Zo Tryz.prog Zl 164 [.int .u64 1] G2=some (w3,H3):=c3;refine Zc (t:=true) (by simp[h0]) ?_;apply Zb;intro b2 hb2;apply Za;simp[c3];subst hb2;apply Zi;simp[Xb];exact⟨_,_,⟨rfl,rfl⟩,kF.trans k3,by rw[Jm];exact .nil,o3.mono kF.n (.refl _)⟩
 ·have hA0:0<A:=by have: ¬A=0:=fun h=>h0 (z1.mpr h);omega
  rw[if_neg (by omega)]at hr;subst hr;refine Zc (t:=false) (by simp[h0]) ?_;apply Zh;subst hb1;obtain⟨w3,H3,c3,k3,o3⟩:=Ze7 o1''.sl o2''.sl lA lB;have hg0:0<Nat.gcd A B:=gcd_pos hA0;have hgA:=gcd_le_l (B:=B) hA0;have lg:=Zq (Nat.le_trans (Yd hgA) hA);apply Zb;intro b1 hb1;apply Za;simp[c3];subst hb1;obtain⟨w4,E4,c4,kE4,o4⟩:=Gm ((o1''.sl.keep k3).top) (o3.sl.top) lA lg hg0 hA;obtain⟨G4,hG4⟩: ∃G4,G4=grown H3 E4:=⟨_,rfl⟩;have kG4:Keep H3 G4:=by rw[hG4];exact Zk (.refl H3) kE4
  have o4':Own H3.n G4 w4 (ds B64 (A/Nat.gcd A B)):=by rw[hG4];exact o4.same (Zt kE4)
  have nE4:H3.n≤E4.n:=kE4.n;obtain⟨w5,E5,c5,kE5,o5⟩:=Gm (((o2''.sl.keep k3).keep kG4).top) ((o3.sl.keep kG4).top) lB lg hg0 hB;obtain⟨G5,hG5⟩: ∃G5,G5=grown G4 E5:=⟨_,rfl⟩;have kG5:Keep G4 G5:=by rw[hG5];exact Zk (.refl G4) kE5
  have o5':Own G4.n G5 w5 (ds B64 (B/Nat.gcd A B)):=by rw[hG5];exact o5.same (Zt kE5)
  have nE5:G4.n≤E5.n:=kE5.n;have r1:H3.blk H.n= .rw 1 [.bool neg,u,v]:=by rw[k3.blk _ (by omega)];exact q1'
  have k35:=kG4.trans kG5;apply Zb;intro b1 hb1;apply Qd (by kernel_rfl);simp[Bc,Kz];refine Zr (v:= .bool neg) rfl rfl rfl (by rw[Ze rfl];simp[Zg0 (H:=H3.top) r1]) ?_;simp;refine Zy (v:= .tuple #[w4,.int .i64 0]) (H2:=E4) rfl rfl rfl (by rw[Ze rfl];simp[c4]) nE4 (Ya kE4) ?_;rw[←hG4];generalize hms:cond (Nat.blt H3.n E4.n) _ _=ms;have hms1:=Fb hms;simp;refine Zr (v:=w4) rfl rfl rfl (by simp[Vr]) ?_;simp;refine Zy (v:= .tuple #[w5,.int .i64 0]) (H2:=E5) rfl rfl rfl ?_ nE5 (Ya kE5) ?_;·rw[Ze (Yy fun x hx=>by rw[(hms1 x hx).1];kernel_rfl)];simp[c5]
  rw[←hG5];simp;refine Zr (v:=w5) rfl rfl rfl (by simp[Vr]) ?_;simp;subst hb1;apply Zi;simp;exact⟨_,_,⟨rfl,rfl⟩,(kF.trans k3).trans k35,(o4'.mono (by have:=k3.n;omega) kG5),o5'.mono (by have:=k3.n;have:=kG4.n;omega) (.refl _)⟩
end
end
theorem Zk2{x:Bool}{p q:Value}(hp: ∃a l c,p= .slice a l c)(hq: ∃a l c,q= .slice a l c):Ui Tryz.prog 34 [(0,.agg #[.bool x,p]),(1,q)]=some (.agg #[.bool x,p,q]):=by obtain⟨a,l,c,rfl⟩:=hp;obtain⟨a',l',c',rfl⟩:=hq;rfl
theorem Bf{H:AH}{b:Nat}{p' q' r' p q r:Value}(hb:H.blk b= .rw 1 [p',q',r'])(h0:p.cells=#[p])(h1:q.cells=#[q])(h1':r.cells=#[r])(h2:one p=true)(h3:one q=true)(h3':one r=true): ∃H',Xk Tryz.prog H 34 (.pointer (some ⟨b,0,none⟩)) (.agg #[p,q,r])=some H'∧H'.n=H.n∧H'.blk b= .rw 1 [p,q,r]∧(∀j,j≠b→H'.blk j=H.blk j)∧KAt b H H':=Aj Gr hb rfl (by simp[Value.cells]) rfl (by simp[h2,h3,h3'])
theorem Own.trio{n:Nat}{H:AH}{v:Value}{xs:List Nat}(h:Own n H v xs):v.cells=#[v]∧one v=true∧ ∃a l c,v= .slice a l c:=⟨h.cells1.1,h.cells1.2,h.shape⟩
theorem sErr:Jd Tryz.prog 23=some 1:=by kernel_rfl
theorem aErr:Jq Tryz.prog 23=some false:=by kernel_rfl
theorem zErr:Ks Tryz.prog 23=some (.int .i64 0):=by kernel_rfl
theorem nilEq:Xv Tryz.prog .eql 20 .nilIface .nilIface=some (.bool true):=by kernel_rfl
section
attribute [-simp] Int.natCast_add Int.natCast_mul Int.natCast_ediv Int.natCast_emod Int.natCast_pow
attribute [local simp] strip Yj LW' LR gW Yo Xi Ye Xj Yt Xh Zv Zw Zn Yv Xd Yp Xo Zz Yu Zm Zj Xm Xn Jl Yi Xe opd Qi Ys plain Yn Tr.get_set Qg Zu Xv Yg sameKind undef Zx Yw Xc Zs Yf parts unV DW Xp Yc LX Yb
section
variable {H : AH} {u v va vb : Value} {xs ys : List Nat} {A B : Nat}
theorem Zt7(neg:Bool)(ha:Sl H u xs)(hb:Sl H v ys)(dx:Dig B64 xs)(dy:Dig B64 ys)(lx:xs.length≤17592186044416)(ly:ys.length≤17592186044416)(eA:dv B64 xs=A)(eB:dv B64 ys=B)(hA:Zg A≤67108864)(hB:Zg B≤67108864)(hB0:0<B): ∃p q H',Zo Tryz.prog Zl 84 [.agg #[.bool neg,u,v]] H=some (.agg #[.bool (Yl neg A B).1,p,q],H')∧Keep H H'∧Own H.n H' p (ds B64 (Yl neg A B).2.1)∧Own H.n H' q (ds B64 (Yl neg A B).2.2):=by
 obtain⟨r,hr⟩: ∃r,r=Yl neg A B:=⟨_,rfl⟩;suffices hs:CW Tryz.prog Zl 84 [.agg #[.bool neg,u,v]] H fun v H'=> ∃p q,v= .agg #[.bool r.1,p,q]∧Keep H H'∧Own H.n H' p (ds B64 r.2.1)∧Own H.n H' q (ds B64 r.2.2) by obtain⟨v,H',hc,p,q,rfl,k,o⟩:=hs;rw[←hr];exact⟨p,q,H',hc,k,o⟩
 obtain⟨H2,e2,k2,n2,q1,q2⟩:=Qp H [.bool neg,u,v] [.bool false,.slice none 0 0,.slice none 0 0];obtain⟨p,q,H3,c3,k3,o3,o4⟩:=parts_callX neg (ha.keep k2) (hb.keep k2) dx dy lx ly eA eB hA hB hB0;rw[←hr]at c3 o3 o4;have q2':=k3.blk _ (show H.n+1<H2.n by omega);rw[q2]at q2';obtain⟨i1,i2,i3⟩:=o3.trio;obtain⟨j1,j2,j3⟩:=o4.trio;obtain⟨S,N,D⟩:=r;simp only at c3 o3 o4⊢;obtain⟨H4,st4,n4,q4,b4,ka4⟩:=Bf (p:= .bool S) (q:=p) (r:=q) q2' rfl i1 j1 rfl i2 j2;have k04:Keep H H4:=ka4 H (k2.trans k3) (by omega);have o5:=(o3.off (b:=H.n+1) (by omega) n4 b4).mono (show H.n≤H2.n by omega) (.refl _);have o6:=(o4.off (b:=H.n+1) (by omega) n4 b4).mono (show H.n≤H2.n by omega) (.refl _);have hld:=Xz q4;refine Zf 17 (by decide) (by decide) Tryz.func84 rfl rfl ?_;apply Zb;intro b1 hb1;apply Za;simp[Value.cells,Vu,Qz,e2];subst hb1;apply Zb;intro b1 hb1;apply Za;simp[Xz q1,c3];subst hb1;apply Zb;intro b1 hb1;apply Za;simp[Zl3 (b:=S) i3,Zk2 (x:=S) i3 j3,st4];subst hb1;apply Zi;simp[hld];exact⟨_,_,⟨rfl,rfl⟩,k04,o5,o6⟩
theorem Zc5(neg:Bool)(ha:Sl H u (ds B64 A))(hb:Sl H v (ds B64 B))(hA:Zg A≤67108864)(hB:Zg B≤67108864)(hB0:0<B): ∃p q H',Zo Tryz.prog Zl 84 [.agg #[.bool neg,u,v]] H=some (.agg #[.bool (Yl neg A B).1,p,q],H')∧Keep H H'∧Own H.n H' p (ds B64 (Yl neg A B).2.1)∧Own H.n H' q (ds B64 (Yl neg A B).2.2):=Zt7 neg ha hb (Xg Ym A) (Xg Ym B) (Nat.le_trans (Zq hA) (by decide)) (Nat.le_trans (Zq hB) (by decide)) (Xy Ym A) (Xy Ym B) hA hB hB0
def Er(p q r:Value):Prop:=(∃b,p= .bool b)∧(∃a l c,q= .slice a l c)∧ ∃a l c,r= .slice a l c
theorem Up{p q r:Value}(ht:Er p q r)(e:Int)(H:AH): ∃H',Zo Tryz.prog Zl 83 [.nilIface,.agg #[p,q,r],.int .i64 e] H=some (.tuple #[.agg #[p,q,r],.int .i64 e],H')∧Keep H H':=by
 obtain⟨⟨b,rfl⟩,⟨a1,l1,c1,rfl⟩,⟨a2,l2,c2,rfl⟩⟩:=ht;suffices h:CW Tryz.prog Zl 83 [.nilIface,.agg #[.bool b,.slice a1 l1 c1,.slice a2 l2 c2],.int .i64 e] H fun v H'=>v= .tuple #[.agg #[.bool b,.slice a1 l1 c1,.slice a2 l2 c2],.int .i64 e]∧Keep H H' by obtain⟨v,H',hc,rfl,k⟩:=h;exact⟨H',hc,k⟩
 obtain⟨H2,e2,k2,n2,q1,q2⟩:=Qp H [.bool b,.slice a1 l1 c1,.slice a2 l2 c2] [.bool false,.slice none 0 0,.slice none 0 0];obtain⟨H4,st4,n4,q4,b4,ka4⟩:=Bf (p:= .bool b) (q:= .slice a1 l1 c1) (r:= .slice a2 l2 c2) q2 rfl rfl rfl rfl rfl rfl;have k04:Keep H H4:=ka4 H k2 (by omega);have hld:=Xz q4;refine Zf 26 (by decide) (by decide) Tryz.func83 rfl rfl ?_;apply Zb;intro b1 hb1;apply Za;simp[Value.cells,Vu,Qz,e2];subst hb1;apply Zb;intro b1 hb1;apply Zb;intro b2 hb2;apply Za;simp[-Xv,nilEq];subst hb2;refine Zc (t:=true) (by simp) ?_;apply Zb;intro b2 hb2;apply Za;simp[Xz q1,st4];subst hb2;apply Zi;simp[Xb,hld];exact k04
end
section
variable {H : AH} {u v va vb : Value} {xs ys : List Nat} {A B : Nat}
def Cl(m:Nat)(H H':AH):Prop:=H.n≤H'.n∧(∀j,j<H.n→H'.blk j=H.blk j)∧KAt m H H'
theorem norm1_cwd{b2 b3:Nat}{p q r:Value}{e:Int}{K:AH→Prop}(ht:Er p q r)(hq:H.blk b2= .rw 1 [p,q,r])(he:H.blk b3= .rw 1 [.int .i64 e])(h2:b2<H.n)(h3:b3<H.n)(hlt:b2<b3)(hK: ∀H',Cl b2 H H'→K H'):CWD Tryz.prog Zl 82 [.pointer (some ⟨b2,0,none⟩),.pointer (some ⟨b3,0,none⟩)] .nilIface H K:=by
 obtain⟨E1,c1,kE1⟩:=Up ht e H.top;obtain⟨G1,hG1⟩: ∃G1,G1=grown H E1:=⟨_,rfl⟩;have kG1:Keep H G1:=by rw[hG1];exact Zk (.refl H) kE1
 have nE1:H.n≤E1.n:=kE1.n;have nG1:=kG1.n;have r2:G1.blk b2= .rw 1 [p,q,r]:=by rw[kG1.blk _ h2];exact hq
 have r3:G1.blk b3= .rw 1 [.int .i64 e]:=by rw[kG1.blk _ h3];exact he
 have hcells:(Value.agg #[p,q,r]).cells.toList=[p,q,r]∧[p,q,r].all one=true:=by obtain⟨⟨b,rfl⟩,⟨a1,l1,c1,rfl⟩,⟨a2,l2,c2,rfl⟩⟩:=ht;exact⟨rfl,rfl⟩
 obtain⟨S1,st1,sn1,slw1,fn1,fb1,fo1,fk1⟩:=Fg (v:= .agg #[p,q,r]) (ws:=[p,q,r]) Gr r2 (by omega) rfl hcells.1 rfl hcells.2;obtain⟨F1,hF1⟩: ∃F1,F1=low G1 S1:=⟨_,rfl⟩;rw[←hF1]at fn1 fb1 fo1 fk1;have r3':F1.blk b3= .rw 1 [.int .i64 e]:=by rw[fo1 _ (by omega)];exact r3
 obtain⟨S2,st2,sn2,slw2,fn2,fb2,fo2,fk2⟩:=Fg (v:= .int .i64 e) (ws:=[.int .i64 e]) sErr r3' (by omega) rfl rfl rfl rfl;obtain⟨F,hF⟩: ∃F,F=low F1 S2:=⟨_,rfl⟩;rw[←hF]at fn2 fb2 fo2 fk2;have hS:Cl b2 H F:=by
  refine⟨by omega,fun j hj=>?_,fun H0 k hn=>fk2 H0 (fk1 H0 (k.trans kG1) hn) (by omega)⟩;by_cases j3:j=b3;·subst j3;rw[fb2];exact he.symm
  ·rw[fo2 _ j3];by_cases j2:j=b2;·subst j2;rw[fb1];exact hq.symm
   ·rw[fo1 _ j2];exact kG1.blk _ hj
 have l1:=Xz (H:=H.top) hq;have l2:Yk Tryz.prog H.top 23 (.pointer (some ⟨b3,0,none⟩))=some (.int .i64 e):=Yh aErr (AH.cells_rw' (H:=H.top) he (by decide)) rfl;refine Un 9 Tryz.func82 rfl rfl ?_;apply Um (by kernel_rfl);apply Qd (by kernel_rfl);simp[Uh,isRec];refine Zr (v:= .agg #[p,q,r]) rfl rfl rfl (by rw[Ze rfl];simp[l1]) ?_;simp;refine Zr (v:= .int .i64 e) rfl rfl rfl (by rw[Ze rfl];simp[l2]) ?_;simp;refine Zy (v:= .tuple #[.agg #[p,q,r],.int .i64 e]) (H2:=E1) rfl rfl rfl (by rw[Ze rfl];simp[c1]) nE1 (Ya kE1) ?_;rw[←hG1];generalize hms:cond (Nat.blt H.n E1.n) _ _=ms;have hms1:=Fb hms;simp;refine Xf (v:= .tuple #[]) (H2:=S1) rfl rfl (by kernel_rfl) (Yy fun x hx=>by rw[(hms1 x hx).1];kernel_rfl) ?_ (by omega) slw1 ?_;·show Yo _ _ _ _ G1.top _=_;simp[st1]
 rw[show({ n:=S1.n,lw:=min G1.lw S1.lw,t:=S1.t } :AH)=F1 from hF1.symm];rw[show Nat.blt G1.n S1.n=false from by rw[sn1];exact Qh _,cond_false];simp;refine Xf (v:= .tuple #[]) (H2:=S2) rfl rfl (by kernel_rfl) (Yy fun x hx=>by rw[(hms1 x hx).1];kernel_rfl) ?_ (by omega) slw2 ?_;·show Yo _ _ _ _ F1.top _=_;simp[st2]
 rw[show({ n:=S2.n,lw:=min F1.lw S2.lw,t:=S2.t } :AH)=F from hF.symm];simp;exact hK F hS
end
end
theorem Uz(k:Nat){P:Program}{C:Cfg}{f:FuncId}{fn:Func}{c a:Code}{ops:Array Oper}{o1:Oper}{dc:Call}{rest:Code}{args:List Value}{H:AH}{R:Value→AH→Prop}(ha:Nat.beq f C.add=false)(hs:Nat.beq f C.sub=false)(hf:P.funcs[f]?=some fn)(hb:fn.body=some c)(hk:args.length+(fn.ntmps-args.length)=k)(hd:Za8 c=some (a,ops,o1,dc,rest))(h: ∀b,b=rest→W P C a { k:=k,tm:=Qg 0 args .nil,H:=H } fun ex s=>ex= .norm∧LW' P C s.k (Yj ops [o1]) s.tm s.H fun tm2 H2=> ∃g dargs,Ji C tm2 dc=some (g,dargs)∧W P C b ⟨s.k,tm2,H2⟩ fun ex3 s3=> ∃rv,Ge ex3=some rv∧CWD P C g dargs rv s3.H fun H4=> ∃vs,Zx P ⟨s3.k,s3.tm,H4⟩ fn.results.toList=some vs∧R (Xc vs) H4):CW P C f args H R:=CW_defer k ha hs hf hb hk hd (h rest rfl)
theorem putE{H:AH}{b:Nat}{x e:Int}(hb:H.blk b= .rw 1 [.int .i64 x]): ∃H',Xk Tryz.prog H 23 (.pointer (some ⟨b,0,none⟩)) (.int .i64 e)=some H'∧H'.n=H.n∧H'.blk b= .rw 1 [.int .i64 e]∧(∀j,j≠b→H'.blk j=H.blk j)∧KAt b H H':=Aj sErr hb rfl rfl rfl rfl
theorem Cb{H:AH}{b:Nat}{e:Int}(hb:H.blk b= .rw 1 [.int .i64 e]):Yk Tryz.prog H 23 (.pointer (some ⟨b,0,none⟩))=some (.int .i64 e):=Yh aErr (AH.cells_rw' hb (by decide)) rfl
theorem Cl.own{m n:Nat}{H H':AH}(h:Cl m H H'){v:Value}{xs:List Nat}(o:Own n H v xs):Own n H' v xs:=o.mod (b:=none) ⟨h.1,fun j hj _=>h.2.1 j hj⟩ (fun c hc=>by cases hc)
theorem Cl.keep{m:Nat}{H0 H H':AH}(h:Cl m H H')(k:Keep H0 H)(hn:H0.n≤m):Keep H0 H':=h.2.2 H0 k hn
section
attribute [-simp] Int.natCast_add Int.natCast_mul Int.natCast_ediv Int.natCast_emod Int.natCast_pow
attribute [local simp] strip Yj LW' LR gW Yo Xi Ye Xj Yt Xh Zv Zw Zn Yv Xd Yp Xo Zz Yu Zm Zj Xm Xn Jl Yi Xe opd Qi Ys plain Yn Tr.get_set Qg Zu Xv Yg sameKind undef Zx Yw Xc Zs Yf parts unV DW Xp Yc LX Yb
attribute [local simp] Qq Ji
section
variable {H : AH} {u v va vb : Value} {xs ys : List Nat} {A B : Nat}
theorem Zd5(neg:Bool)(ha:Sl H u xs)(hb:Sl H v ys)(dx:Dig B64 xs)(dy:Dig B64 ys)(lx:xs.length≤17592186044416)(ly:ys.length≤17592186044416)(eA:dv B64 xs=A)(eB:dv B64 ys=B)(hA:Zg A≤67108864)(hB:Zg B≤67108864)(hB0:0<B): ∃p q H',Zo Tryz.prog Zl 53 [.agg #[.bool neg,u,v]] H=some (.tuple #[.agg #[.bool (Yl neg A B).1,p,q],.int .i64 0],H')∧Keep H H'∧Own H.n H' p (ds B64 (Yl neg A B).2.1)∧Own H.n H' q (ds B64 (Yl neg A B).2.2):=by
 obtain⟨r,hr⟩: ∃r,r=Yl neg A B:=⟨_,rfl⟩;suffices hs:CW Tryz.prog Zl 53 [.agg #[.bool neg,u,v]] H fun v H'=> ∃p q,v= .tuple #[.agg #[.bool r.1,p,q],.int .i64 0]∧Keep H H'∧Own H.n H' p (ds B64 r.2.1)∧Own H.n H' q (ds B64 r.2.2) by obtain⟨v,H',hc,p,q,rfl,k,o⟩:=hs;rw[←hr];exact⟨p,q,H',hc,k,o⟩
 obtain⟨H2,e2,k2,n2,q1,q2,q3⟩:=Kx H [.bool neg,u,v] [.bool false,.slice none 0 0,.slice none 0 0] [.int .i64 0];obtain⟨p,q,H3,c3,k3,o3,o4⟩:=Zt7 neg (ha.keep k2) (hb.keep k2) dx dy lx ly eA eB hA hB hB0;rw[←hr]at c3 o3 o4;have n3:=k3.n;have q2':=k3.blk _ (show H.n+1<H2.n by omega);rw[q2]at q2';have q3':=k3.blk _ (show H.n+2<H2.n by omega);rw[q3]at q3';obtain⟨i1,i2,i3⟩:=o3.trio;obtain⟨j1,j2,j3⟩:=o4.trio;obtain⟨S,N,D⟩:=r;simp only at c3 o3 o4⊢;obtain⟨H4,st4,n4,q4,b4,ka4⟩:=Bf (p:= .bool S) (q:=p) (r:=q) q2' rfl i1 j1 rfl i2 j2;have q3'':H4.blk (H.n+2)= .rw 1 [.int .i64 0]:=by rw[b4 _ (by omega)];exact q3'
 obtain⟨H5,st5,n5,q5,b5,ka5⟩:=putE (e:=0) q3'';have q4':H5.blk (H.n+1)= .rw 1 [.bool S,p,q]:=by rw[b5 _ (by omega)];exact q4
 have k05:Keep H H5:=ka5 H (ka4 H (k2.trans k3) (by omega)) (by omega);have o5:=((o3.off (b:=H.n+1) (by omega) n4 b4).off (b:=H.n+2) (by omega) n5 b5).mono (show H.n≤H2.n by omega) (.refl _);have o6:=((o4.off (b:=H.n+1) (by omega) n4 b4).off (b:=H.n+2) (by omega) n5 b5).mono (show H.n≤H2.n by omega) (.refl _);refine Uz 7 (by decide) (by decide) Tryz.func53 rfl rfl rfl ?_;intro b1 hb1;apply Za;simp[Value.cells,Vu,zErr,Qz,e2];refine⟨_,_,⟨rfl,rfl⟩,?_⟩;subst hb1;apply Zb;intro b1 hb1;apply Za;simp[Xz q1,c3,st4,st5];subst hb1;apply Zi;simp[Ge];refine norm1_cwd ⟨⟨_,rfl⟩,i3,j3⟩ q4' q5 (by omega) (by omega) (by omega) fun H6 hS=>?_;have r4:H6.blk (H.n+1)= .rw 1 [.bool S,p,q]:=by rw[hS.2.1 _ (by omega)];exact q4'
 have r5:H6.blk (H.n+2)= .rw 1 [.int .i64 0]:=by rw[hS.2.1 _ (by omega)];exact q5
 simp[Xz r4,Cb r5];exact⟨_,_,⟨rfl,rfl⟩,hS.keep k05 (by omega),hS.own o5,hS.own o6⟩
theorem ratioNorm_call(neg:Bool)(ha:Sl H u (ds B64 A))(hb:Sl H v (ds B64 B))(hA:Zg A≤67108864)(hB:Zg B≤67108864)(hB0:0<B): ∃p q H',Zo Tryz.prog Zl 53 [.agg #[.bool neg,u,v]] H=some (.tuple #[.agg #[.bool (Yl neg A B).1,p,q],.int .i64 0],H')∧Keep H H'∧Own H.n H' p (ds B64 (Yl neg A B).2.1)∧Own H.n H' q (ds B64 (Yl neg A B).2.2):=Zd5 neg ha hb (Xg Ym A) (Xg Ym B) (Nat.le_trans (Zq hA) (by decide)) (Nat.le_trans (Zq hB) (by decide)) (Xy Ym A) (Xy Ym B) hA hB hB0
end
end
section
attribute [-simp] Int.natCast_add Int.natCast_mul Int.natCast_ediv Int.natCast_emod Int.natCast_pow
attribute [local simp] strip Yj LW' LR gW Yo Xi Ye Xj Yt Xh Zv Zw Zn Yv Xd Yp Xo Zz Yu Zm Zj Xm Xn Jl Yi Xe opd Qi Ys plain Yn Tr.get_set Qg Zu Xv Yg sameKind undef Zx Yw Xc Zs Yf parts unV DW Xp Yc LX Yb
section
variable {H : AH} {u v va vb : Value} {xs ys : List Nat} {A B : Nat}
theorem make1_cwd{b2 b3:Nat}{p q r:Value}{e:Int}{K:AH→Prop}(ht:Er p q r)(hq:H.blk b2= .rw 1 [p,q,r])(he:H.blk b3= .rw 1 [.int .i64 e])(h2:b2<H.n)(h3:b3<H.n)(hlt:b2<b3)(hK: ∀H',Cl b2 H H'→K H'):CWD Tryz.prog Zl 90 [.pointer (some ⟨b2,0,none⟩),.pointer (some ⟨b3,0,none⟩)] .nilIface H K:=by
 obtain⟨E1,c1,kE1⟩:=Up ht e H.top;obtain⟨G1,hG1⟩: ∃G1,G1=grown H E1:=⟨_,rfl⟩;have kG1:Keep H G1:=by rw[hG1];exact Zk (.refl H) kE1
 have nE1:H.n≤E1.n:=kE1.n;have nG1:=kG1.n;have r2:G1.blk b2= .rw 1 [p,q,r]:=by rw[kG1.blk _ h2];exact hq
 have r3:G1.blk b3= .rw 1 [.int .i64 e]:=by rw[kG1.blk _ h3];exact he
 have hcells:(Value.agg #[p,q,r]).cells.toList=[p,q,r]∧[p,q,r].all one=true:=by obtain⟨⟨b,rfl⟩,⟨a1,l1,c1,rfl⟩,⟨a2,l2,c2,rfl⟩⟩:=ht;exact⟨rfl,rfl⟩
 obtain⟨S1,st1,sn1,slw1,fn1,fb1,fo1,fk1⟩:=Fg (v:= .agg #[p,q,r]) (ws:=[p,q,r]) Gr r2 (by omega) rfl hcells.1 rfl hcells.2;obtain⟨F1,hF1⟩: ∃F1,F1=low G1 S1:=⟨_,rfl⟩;rw[←hF1]at fn1 fb1 fo1 fk1;have r3':F1.blk b3= .rw 1 [.int .i64 e]:=by rw[fo1 _ (by omega)];exact r3
 obtain⟨S2,st2,sn2,slw2,fn2,fb2,fo2,fk2⟩:=Fg (v:= .int .i64 e) (ws:=[.int .i64 e]) sErr r3' (by omega) rfl rfl rfl rfl;obtain⟨F,hF⟩: ∃F,F=low F1 S2:=⟨_,rfl⟩;rw[←hF]at fn2 fb2 fo2 fk2;have hS:Cl b2 H F:=by
  refine⟨by omega,fun j hj=>?_,fun H0 k hn=>fk2 H0 (fk1 H0 (k.trans kG1) hn) (by omega)⟩;by_cases j3:j=b3;·subst j3;rw[fb2];exact he.symm
  ·rw[fo2 _ j3];by_cases j2:j=b2;·subst j2;rw[fb1];exact hq.symm
   ·rw[fo1 _ j2];exact kG1.blk _ hj
 have l1:=Xz (H:=H.top) hq;have l2:Yk Tryz.prog H.top 23 (.pointer (some ⟨b3,0,none⟩))=some (.int .i64 e):=Yh aErr (AH.cells_rw' (H:=H.top) he (by decide)) rfl;refine Un 9 Tryz.func90 rfl rfl ?_;apply Um (by kernel_rfl);apply Qd (by kernel_rfl);simp[Uh,isRec];refine Zr (v:= .agg #[p,q,r]) rfl rfl rfl (by rw[Ze rfl];simp[l1]) ?_;simp;refine Zr (v:= .int .i64 e) rfl rfl rfl (by rw[Ze rfl];simp[l2]) ?_;simp;refine Zy (v:= .tuple #[.agg #[p,q,r],.int .i64 e]) (H2:=E1) rfl rfl rfl (by rw[Ze rfl];simp[c1]) nE1 (Ya kE1) ?_;rw[←hG1];generalize hms:cond (Nat.blt H.n E1.n) _ _=ms;have hms1:=Fb hms;simp;refine Xf (v:= .tuple #[]) (H2:=S1) rfl rfl (by kernel_rfl) (Yy fun x hx=>by rw[(hms1 x hx).1];kernel_rfl) ?_ (by omega) slw1 ?_;·show Yo _ _ _ _ G1.top _=_;simp[st1]
 rw[show({ n:=S1.n,lw:=min G1.lw S1.lw,t:=S1.t } :AH)=F1 from hF1.symm];rw[show Nat.blt G1.n S1.n=false from by rw[sn1];exact Qh _,cond_false];simp;refine Xf (v:= .tuple #[]) (H2:=S2) rfl rfl (by kernel_rfl) (Yy fun x hx=>by rw[(hms1 x hx).1];kernel_rfl) ?_ (by omega) slw2 ?_;·show Yo _ _ _ _ F1.top _=_;simp[st2]
 rw[show({ n:=S2.n,lw:=min F1.lw S2.lw,t:=S2.t } :AH)=F from hF.symm];simp;exact hK F hS
theorem neg1_cwd{b2 b3:Nat}{p q r:Value}{e:Int}{K:AH→Prop}(ht:Er p q r)(hq:H.blk b2= .rw 1 [p,q,r])(he:H.blk b3= .rw 1 [.int .i64 e])(h2:b2<H.n)(h3:b3<H.n)(hlt:b2<b3)(hK: ∀H',Cl b2 H H'→K H'):CWD Tryz.prog Zl 136 [.pointer (some ⟨b2,0,none⟩),.pointer (some ⟨b3,0,none⟩)] .nilIface H K:=by
 obtain⟨E1,c1,kE1⟩:=Up ht e H.top;obtain⟨G1,hG1⟩: ∃G1,G1=grown H E1:=⟨_,rfl⟩;have kG1:Keep H G1:=by rw[hG1];exact Zk (.refl H) kE1
 have nE1:H.n≤E1.n:=kE1.n;have nG1:=kG1.n;have r2:G1.blk b2= .rw 1 [p,q,r]:=by rw[kG1.blk _ h2];exact hq
 have r3:G1.blk b3= .rw 1 [.int .i64 e]:=by rw[kG1.blk _ h3];exact he
 have hcells:(Value.agg #[p,q,r]).cells.toList=[p,q,r]∧[p,q,r].all one=true:=by obtain⟨⟨b,rfl⟩,⟨a1,l1,c1,rfl⟩,⟨a2,l2,c2,rfl⟩⟩:=ht;exact⟨rfl,rfl⟩
 obtain⟨S1,st1,sn1,slw1,fn1,fb1,fo1,fk1⟩:=Fg (v:= .agg #[p,q,r]) (ws:=[p,q,r]) Gr r2 (by omega) rfl hcells.1 rfl hcells.2;obtain⟨F1,hF1⟩: ∃F1,F1=low G1 S1:=⟨_,rfl⟩;rw[←hF1]at fn1 fb1 fo1 fk1;have r3':F1.blk b3= .rw 1 [.int .i64 e]:=by rw[fo1 _ (by omega)];exact r3
 obtain⟨S2,st2,sn2,slw2,fn2,fb2,fo2,fk2⟩:=Fg (v:= .int .i64 e) (ws:=[.int .i64 e]) sErr r3' (by omega) rfl rfl rfl rfl;obtain⟨F,hF⟩: ∃F,F=low F1 S2:=⟨_,rfl⟩;rw[←hF]at fn2 fb2 fo2 fk2;have hS:Cl b2 H F:=by
  refine⟨by omega,fun j hj=>?_,fun H0 k hn=>fk2 H0 (fk1 H0 (k.trans kG1) hn) (by omega)⟩;by_cases j3:j=b3;·subst j3;rw[fb2];exact he.symm
  ·rw[fo2 _ j3];by_cases j2:j=b2;·subst j2;rw[fb1];exact hq.symm
   ·rw[fo1 _ j2];exact kG1.blk _ hj
 have l1:=Xz (H:=H.top) hq;have l2:Yk Tryz.prog H.top 23 (.pointer (some ⟨b3,0,none⟩))=some (.int .i64 e):=Yh aErr (AH.cells_rw' (H:=H.top) he (by decide)) rfl;refine Un 9 Tryz.func136 rfl rfl ?_;apply Um (by kernel_rfl);apply Qd (by kernel_rfl);simp[Uh,isRec];refine Zr (v:= .agg #[p,q,r]) rfl rfl rfl (by rw[Ze rfl];simp[l1]) ?_;simp;refine Zr (v:= .int .i64 e) rfl rfl rfl (by rw[Ze rfl];simp[l2]) ?_;simp;refine Zy (v:= .tuple #[.agg #[p,q,r],.int .i64 e]) (H2:=E1) rfl rfl rfl (by rw[Ze rfl];simp[c1]) nE1 (Ya kE1) ?_;rw[←hG1];generalize hms:cond (Nat.blt H.n E1.n) _ _=ms;have hms1:=Fb hms;simp;refine Xf (v:= .tuple #[]) (H2:=S1) rfl rfl (by kernel_rfl) (Yy fun x hx=>by rw[(hms1 x hx).1];kernel_rfl) ?_ (by omega) slw1 ?_;·show Yo _ _ _ _ G1.top _=_;simp[st1]
 rw[show({ n:=S1.n,lw:=min G1.lw S1.lw,t:=S1.t } :AH)=F1 from hF1.symm];rw[show Nat.blt G1.n S1.n=false from by rw[sn1];exact Qh _,cond_false];simp;refine Xf (v:= .tuple #[]) (H2:=S2) rfl rfl (by kernel_rfl) (Yy fun x hx=>by rw[(hms1 x hx).1];kernel_rfl) ?_ (by omega) slw2 ?_;·show Yo _ _ _ _ F1.top _=_;simp[st2]
 rw[show({ n:=S2.n,lw:=min F1.lw S2.lw,t:=S2.t } :AH)=F from hF.symm];simp;exact hK F hS
theorem abs1_cwd{b2 b3:Nat}{p q r:Value}{e:Int}{K:AH→Prop}(ht:Er p q r)(hq:H.blk b2= .rw 1 [p,q,r])(he:H.blk b3= .rw 1 [.int .i64 e])(h2:b2<H.n)(h3:b3<H.n)(hlt:b2<b3)(hK: ∀H',Cl b2 H H'→K H'):CWD Tryz.prog Zl 137 [.pointer (some ⟨b2,0,none⟩),.pointer (some ⟨b3,0,none⟩)] .nilIface H K:=by
 obtain⟨E1,c1,kE1⟩:=Up ht e H.top;obtain⟨G1,hG1⟩: ∃G1,G1=grown H E1:=⟨_,rfl⟩;have kG1:Keep H G1:=by rw[hG1];exact Zk (.refl H) kE1
 have nE1:H.n≤E1.n:=kE1.n;have nG1:=kG1.n;have r2:G1.blk b2= .rw 1 [p,q,r]:=by rw[kG1.blk _ h2];exact hq
 have r3:G1.blk b3= .rw 1 [.int .i64 e]:=by rw[kG1.blk _ h3];exact he
 have hcells:(Value.agg #[p,q,r]).cells.toList=[p,q,r]∧[p,q,r].all one=true:=by obtain⟨⟨b,rfl⟩,⟨a1,l1,c1,rfl⟩,⟨a2,l2,c2,rfl⟩⟩:=ht;exact⟨rfl,rfl⟩
 obtain⟨S1,st1,sn1,slw1,fn1,fb1,fo1,fk1⟩:=Fg (v:= .agg #[p,q,r]) (ws:=[p,q,r]) Gr r2 (by omega) rfl hcells.1 rfl hcells.2;obtain⟨F1,hF1⟩: ∃F1,F1=low G1 S1:=⟨_,rfl⟩;rw[←hF1]at fn1 fb1 fo1 fk1;have r3':F1.blk b3= .rw 1 [.int .i64 e]:=by rw[fo1 _ (by omega)];exact r3
 obtain⟨S2,st2,sn2,slw2,fn2,fb2,fo2,fk2⟩:=Fg (v:= .int .i64 e) (ws:=[.int .i64 e]) sErr r3' (by omega) rfl rfl rfl rfl;obtain⟨F,hF⟩: ∃F,F=low F1 S2:=⟨_,rfl⟩;rw[←hF]at fn2 fb2 fo2 fk2;have hS:Cl b2 H F:=by
  refine⟨by omega,fun j hj=>?_,fun H0 k hn=>fk2 H0 (fk1 H0 (k.trans kG1) hn) (by omega)⟩;by_cases j3:j=b3;·subst j3;rw[fb2];exact he.symm
  ·rw[fo2 _ j3];by_cases j2:j=b2;·subst j2;rw[fb1];exact hq.symm
   ·rw[fo1 _ j2];exact kG1.blk _ hj
 have l1:=Xz (H:=H.top) hq;have l2:Yk Tryz.prog H.top 23 (.pointer (some ⟨b3,0,none⟩))=some (.int .i64 e):=Yh aErr (AH.cells_rw' (H:=H.top) he (by decide)) rfl;refine Un 9 Tryz.func137 rfl rfl ?_;apply Um (by kernel_rfl);apply Qd (by kernel_rfl);simp[Uh,isRec];refine Zr (v:= .agg #[p,q,r]) rfl rfl rfl (by rw[Ze rfl];simp[l1]) ?_;simp;refine Zr (v:= .int .i64 e) rfl rfl rfl (by rw[Ze rfl];simp[l2]) ?_;simp;refine Zy (v:= .tuple #[.agg #[p,q,r],.int .i64 e]) (H2:=E1) rfl rfl rfl (by rw[Ze rfl];simp[c1]) nE1 (Ya kE1) ?_;rw[←hG1];generalize hms:cond (Nat.blt H.n E1.n) _ _=ms;have hms1:=Fb hms;simp;refine Xf (v:= .tuple #[]) (H2:=S1) rfl rfl (by kernel_rfl) (Yy fun x hx=>by rw[(hms1 x hx).1];kernel_rfl) ?_ (by omega) slw1 ?_;·show Yo _ _ _ _ G1.top _=_;simp[st1]
 rw[show({ n:=S1.n,lw:=min G1.lw S1.lw,t:=S1.t } :AH)=F1 from hF1.symm];rw[show Nat.blt G1.n S1.n=false from by rw[sn1];exact Qh _,cond_false];simp;refine Xf (v:= .tuple #[]) (H2:=S2) rfl rfl (by kernel_rfl) (Yy fun x hx=>by rw[(hms1 x hx).1];kernel_rfl) ?_ (by omega) slw2 ?_;·show Yo _ _ _ _ F1.top _=_;simp[st2]
 rw[show({ n:=S2.n,lw:=min F1.lw S2.lw,t:=S2.t } :AH)=F from hF.symm];simp;exact hK F hS
theorem add1_cwd{b2 b3:Nat}{p q r:Value}{e:Int}{K:AH→Prop}(ht:Er p q r)(hq:H.blk b2= .rw 1 [p,q,r])(he:H.blk b3= .rw 1 [.int .i64 e])(h2:b2<H.n)(h3:b3<H.n)(hlt:b2<b3)(hK: ∀H',Cl b2 H H'→K H'):CWD Tryz.prog Zl 138 [.pointer (some ⟨b2,0,none⟩),.pointer (some ⟨b3,0,none⟩)] .nilIface H K:=by
 obtain⟨E1,c1,kE1⟩:=Up ht e H.top;obtain⟨G1,hG1⟩: ∃G1,G1=grown H E1:=⟨_,rfl⟩;have kG1:Keep H G1:=by rw[hG1];exact Zk (.refl H) kE1
 have nE1:H.n≤E1.n:=kE1.n;have nG1:=kG1.n;have r2:G1.blk b2= .rw 1 [p,q,r]:=by rw[kG1.blk _ h2];exact hq
 have r3:G1.blk b3= .rw 1 [.int .i64 e]:=by rw[kG1.blk _ h3];exact he
 have hcells:(Value.agg #[p,q,r]).cells.toList=[p,q,r]∧[p,q,r].all one=true:=by obtain⟨⟨b,rfl⟩,⟨a1,l1,c1,rfl⟩,⟨a2,l2,c2,rfl⟩⟩:=ht;exact⟨rfl,rfl⟩
 obtain⟨S1,st1,sn1,slw1,fn1,fb1,fo1,fk1⟩:=Fg (v:= .agg #[p,q,r]) (ws:=[p,q,r]) Gr r2 (by omega) rfl hcells.1 rfl hcells.2;obtain⟨F1,hF1⟩: ∃F1,F1=low G1 S1:=⟨_,rfl⟩;rw[←hF1]at fn1 fb1 fo1 fk1;have r3':F1.blk b3= .rw 1 [.int .i64 e]:=by rw[fo1 _ (by omega)];exact r3
 obtain⟨S2,st2,sn2,slw2,fn2,fb2,fo2,fk2⟩:=Fg (v:= .int .i64 e) (ws:=[.int .i64 e]) sErr r3' (by omega) rfl rfl rfl rfl;obtain⟨F,hF⟩: ∃F,F=low F1 S2:=⟨_,rfl⟩;rw[←hF]at fn2 fb2 fo2 fk2;have hS:Cl b2 H F:=by
  refine⟨by omega,fun j hj=>?_,fun H0 k hn=>fk2 H0 (fk1 H0 (k.trans kG1) hn) (by omega)⟩;by_cases j3:j=b3;·subst j3;rw[fb2];exact he.symm
  ·rw[fo2 _ j3];by_cases j2:j=b2;·subst j2;rw[fb1];exact hq.symm
   ·rw[fo1 _ j2];exact kG1.blk _ hj
 have l1:=Xz (H:=H.top) hq;have l2:Yk Tryz.prog H.top 23 (.pointer (some ⟨b3,0,none⟩))=some (.int .i64 e):=Yh aErr (AH.cells_rw' (H:=H.top) he (by decide)) rfl;refine Un 9 Tryz.func138 rfl rfl ?_;apply Um (by kernel_rfl);apply Qd (by kernel_rfl);simp[Uh,isRec];refine Zr (v:= .agg #[p,q,r]) rfl rfl rfl (by rw[Ze rfl];simp[l1]) ?_;simp;refine Zr (v:= .int .i64 e) rfl rfl rfl (by rw[Ze rfl];simp[l2]) ?_;simp;refine Zy (v:= .tuple #[.agg #[p,q,r],.int .i64 e]) (H2:=E1) rfl rfl rfl (by rw[Ze rfl];simp[c1]) nE1 (Ya kE1) ?_;rw[←hG1];generalize hms:cond (Nat.blt H.n E1.n) _ _=ms;have hms1:=Fb hms;simp;refine Xf (v:= .tuple #[]) (H2:=S1) rfl rfl (by kernel_rfl) (Yy fun x hx=>by rw[(hms1 x hx).1];kernel_rfl) ?_ (by omega) slw1 ?_;·show Yo _ _ _ _ G1.top _=_;simp[st1]
 rw[show({ n:=S1.n,lw:=min G1.lw S1.lw,t:=S1.t } :AH)=F1 from hF1.symm];rw[show Nat.blt G1.n S1.n=false from by rw[sn1];exact Qh _,cond_false];simp;refine Xf (v:= .tuple #[]) (H2:=S2) rfl rfl (by kernel_rfl) (Yy fun x hx=>by rw[(hms1 x hx).1];kernel_rfl) ?_ (by omega) slw2 ?_;·show Yo _ _ _ _ F1.top _=_;simp[st2]
 rw[show({ n:=S2.n,lw:=min F1.lw S2.lw,t:=S2.t } :AH)=F from hF.symm];simp;exact hK F hS
theorem sub1_cwd{b2 b3:Nat}{p q r:Value}{e:Int}{K:AH→Prop}(ht:Er p q r)(hq:H.blk b2= .rw 1 [p,q,r])(he:H.blk b3= .rw 1 [.int .i64 e])(h2:b2<H.n)(h3:b3<H.n)(hlt:b2<b3)(hK: ∀H',Cl b2 H H'→K H'):CWD Tryz.prog Zl 147 [.pointer (some ⟨b2,0,none⟩),.pointer (some ⟨b3,0,none⟩)] .nilIface H K:=by
 obtain⟨E1,c1,kE1⟩:=Up ht e H.top;obtain⟨G1,hG1⟩: ∃G1,G1=grown H E1:=⟨_,rfl⟩;have kG1:Keep H G1:=by rw[hG1];exact Zk (.refl H) kE1
 have nE1:H.n≤E1.n:=kE1.n;have nG1:=kG1.n;have r2:G1.blk b2= .rw 1 [p,q,r]:=by rw[kG1.blk _ h2];exact hq
 have r3:G1.blk b3= .rw 1 [.int .i64 e]:=by rw[kG1.blk _ h3];exact he
 have hcells:(Value.agg #[p,q,r]).cells.toList=[p,q,r]∧[p,q,r].all one=true:=by obtain⟨⟨b,rfl⟩,⟨a1,l1,c1,rfl⟩,⟨a2,l2,c2,rfl⟩⟩:=ht;exact⟨rfl,rfl⟩
 obtain⟨S1,st1,sn1,slw1,fn1,fb1,fo1,fk1⟩:=Fg (v:= .agg #[p,q,r]) (ws:=[p,q,r]) Gr r2 (by omega) rfl hcells.1 rfl hcells.2;obtain⟨F1,hF1⟩: ∃F1,F1=low G1 S1:=⟨_,rfl⟩;rw[←hF1]at fn1 fb1 fo1 fk1;have r3':F1.blk b3= .rw 1 [.int .i64 e]:=by rw[fo1 _ (by omega)];exact r3
 obtain⟨S2,st2,sn2,slw2,fn2,fb2,fo2,fk2⟩:=Fg (v:= .int .i64 e) (ws:=[.int .i64 e]) sErr r3' (by omega) rfl rfl rfl rfl;obtain⟨F,hF⟩: ∃F,F=low F1 S2:=⟨_,rfl⟩;rw[←hF]at fn2 fb2 fo2 fk2;have hS:Cl b2 H F:=by
  refine⟨by omega,fun j hj=>?_,fun H0 k hn=>fk2 H0 (fk1 H0 (k.trans kG1) hn) (by omega)⟩;by_cases j3:j=b3;·subst j3;rw[fb2];exact he.symm
  ·rw[fo2 _ j3];by_cases j2:j=b2;·subst j2;rw[fb1];exact hq.symm
   ·rw[fo1 _ j2];exact kG1.blk _ hj
 have l1:=Xz (H:=H.top) hq;have l2:Yk Tryz.prog H.top 23 (.pointer (some ⟨b3,0,none⟩))=some (.int .i64 e):=Yh aErr (AH.cells_rw' (H:=H.top) he (by decide)) rfl;refine Un 9 Tryz.func147 rfl rfl ?_;apply Um (by kernel_rfl);apply Qd (by kernel_rfl);simp[Uh,isRec];refine Zr (v:= .agg #[p,q,r]) rfl rfl rfl (by rw[Ze rfl];simp[l1]) ?_;simp;refine Zr (v:= .int .i64 e) rfl rfl rfl (by rw[Ze rfl];simp[l2]) ?_;simp;refine Zy (v:= .tuple #[.agg #[p,q,r],.int .i64 e]) (H2:=E1) rfl rfl rfl (by rw[Ze rfl];simp[c1]) nE1 (Ya kE1) ?_;rw[←hG1];generalize hms:cond (Nat.blt H.n E1.n) _ _=ms;have hms1:=Fb hms;simp;refine Xf (v:= .tuple #[]) (H2:=S1) rfl rfl (by kernel_rfl) (Yy fun x hx=>by rw[(hms1 x hx).1];kernel_rfl) ?_ (by omega) slw1 ?_;·show Yo _ _ _ _ G1.top _=_;simp[st1]
 rw[show({ n:=S1.n,lw:=min G1.lw S1.lw,t:=S1.t } :AH)=F1 from hF1.symm];rw[show Nat.blt G1.n S1.n=false from by rw[sn1];exact Qh _,cond_false];simp;refine Xf (v:= .tuple #[]) (H2:=S2) rfl rfl (by kernel_rfl) (Yy fun x hx=>by rw[(hms1 x hx).1];kernel_rfl) ?_ (by omega) slw2 ?_;·show Yo _ _ _ _ F1.top _=_;simp[st2]
 rw[show({ n:=S2.n,lw:=min F1.lw S2.lw,t:=S2.t } :AH)=F from hF.symm];simp;exact hK F hS
theorem mul1_cwd{b2 b3:Nat}{p q r:Value}{e:Int}{K:AH→Prop}(ht:Er p q r)(hq:H.blk b2= .rw 1 [p,q,r])(he:H.blk b3= .rw 1 [.int .i64 e])(h2:b2<H.n)(h3:b3<H.n)(hlt:b2<b3)(hK: ∀H',Cl b2 H H'→K H'):CWD Tryz.prog Zl 149 [.pointer (some ⟨b2,0,none⟩),.pointer (some ⟨b3,0,none⟩)] .nilIface H K:=by
 obtain⟨E1,c1,kE1⟩:=Up ht e H.top;obtain⟨G1,hG1⟩: ∃G1,G1=grown H E1:=⟨_,rfl⟩;have kG1:Keep H G1:=by rw[hG1];exact Zk (.refl H) kE1
 have nE1:H.n≤E1.n:=kE1.n;have nG1:=kG1.n;have r2:G1.blk b2= .rw 1 [p,q,r]:=by rw[kG1.blk _ h2];exact hq
 have r3:G1.blk b3= .rw 1 [.int .i64 e]:=by rw[kG1.blk _ h3];exact he
 have hcells:(Value.agg #[p,q,r]).cells.toList=[p,q,r]∧[p,q,r].all one=true:=by obtain⟨⟨b,rfl⟩,⟨a1,l1,c1,rfl⟩,⟨a2,l2,c2,rfl⟩⟩:=ht;exact⟨rfl,rfl⟩
 obtain⟨S1,st1,sn1,slw1,fn1,fb1,fo1,fk1⟩:=Fg (v:= .agg #[p,q,r]) (ws:=[p,q,r]) Gr r2 (by omega) rfl hcells.1 rfl hcells.2;obtain⟨F1,hF1⟩: ∃F1,F1=low G1 S1:=⟨_,rfl⟩;rw[←hF1]at fn1 fb1 fo1 fk1;have r3':F1.blk b3= .rw 1 [.int .i64 e]:=by rw[fo1 _ (by omega)];exact r3
 obtain⟨S2,st2,sn2,slw2,fn2,fb2,fo2,fk2⟩:=Fg (v:= .int .i64 e) (ws:=[.int .i64 e]) sErr r3' (by omega) rfl rfl rfl rfl;obtain⟨F,hF⟩: ∃F,F=low F1 S2:=⟨_,rfl⟩;rw[←hF]at fn2 fb2 fo2 fk2;have hS:Cl b2 H F:=by
  refine⟨by omega,fun j hj=>?_,fun H0 k hn=>fk2 H0 (fk1 H0 (k.trans kG1) hn) (by omega)⟩;by_cases j3:j=b3;·subst j3;rw[fb2];exact he.symm
  ·rw[fo2 _ j3];by_cases j2:j=b2;·subst j2;rw[fb1];exact hq.symm
   ·rw[fo1 _ j2];exact kG1.blk _ hj
 have l1:=Xz (H:=H.top) hq;have l2:Yk Tryz.prog H.top 23 (.pointer (some ⟨b3,0,none⟩))=some (.int .i64 e):=Yh aErr (AH.cells_rw' (H:=H.top) he (by decide)) rfl;refine Un 9 Tryz.func149 rfl rfl ?_;apply Um (by kernel_rfl);apply Qd (by kernel_rfl);simp[Uh,isRec];refine Zr (v:= .agg #[p,q,r]) rfl rfl rfl (by rw[Ze rfl];simp[l1]) ?_;simp;refine Zr (v:= .int .i64 e) rfl rfl rfl (by rw[Ze rfl];simp[l2]) ?_;simp;refine Zy (v:= .tuple #[.agg #[p,q,r],.int .i64 e]) (H2:=E1) rfl rfl rfl (by rw[Ze rfl];simp[c1]) nE1 (Ya kE1) ?_;rw[←hG1];generalize hms:cond (Nat.blt H.n E1.n) _ _=ms;have hms1:=Fb hms;simp;refine Xf (v:= .tuple #[]) (H2:=S1) rfl rfl (by kernel_rfl) (Yy fun x hx=>by rw[(hms1 x hx).1];kernel_rfl) ?_ (by omega) slw1 ?_;·show Yo _ _ _ _ G1.top _=_;simp[st1]
 rw[show({ n:=S1.n,lw:=min G1.lw S1.lw,t:=S1.t } :AH)=F1 from hF1.symm];rw[show Nat.blt G1.n S1.n=false from by rw[sn1];exact Qh _,cond_false];simp;refine Xf (v:= .tuple #[]) (H2:=S2) rfl rfl (by kernel_rfl) (Yy fun x hx=>by rw[(hms1 x hx).1];kernel_rfl) ?_ (by omega) slw2 ?_;·show Yo _ _ _ _ F1.top _=_;simp[st2]
 rw[show({ n:=S2.n,lw:=min F1.lw S2.lw,t:=S2.t } :AH)=F from hF.symm];simp;exact hK F hS
theorem quo1_cwd{b2 b3:Nat}{p q r:Value}{e:Int}{K:AH→Prop}(ht:Er p q r)(hq:H.blk b2= .rw 1 [p,q,r])(he:H.blk b3= .rw 1 [.int .i64 e])(h2:b2<H.n)(h3:b3<H.n)(hlt:b2<b3)(hK: ∀H',Cl b2 H H'→K H'):CWD Tryz.prog Zl 150 [.pointer (some ⟨b2,0,none⟩),.pointer (some ⟨b3,0,none⟩)] .nilIface H K:=by
 obtain⟨E1,c1,kE1⟩:=Up ht e H.top;obtain⟨G1,hG1⟩: ∃G1,G1=grown H E1:=⟨_,rfl⟩;have kG1:Keep H G1:=by rw[hG1];exact Zk (.refl H) kE1
 have nE1:H.n≤E1.n:=kE1.n;have nG1:=kG1.n;have r2:G1.blk b2= .rw 1 [p,q,r]:=by rw[kG1.blk _ h2];exact hq
 have r3:G1.blk b3= .rw 1 [.int .i64 e]:=by rw[kG1.blk _ h3];exact he
 have hcells:(Value.agg #[p,q,r]).cells.toList=[p,q,r]∧[p,q,r].all one=true:=by obtain⟨⟨b,rfl⟩,⟨a1,l1,c1,rfl⟩,⟨a2,l2,c2,rfl⟩⟩:=ht;exact⟨rfl,rfl⟩
 obtain⟨S1,st1,sn1,slw1,fn1,fb1,fo1,fk1⟩:=Fg (v:= .agg #[p,q,r]) (ws:=[p,q,r]) Gr r2 (by omega) rfl hcells.1 rfl hcells.2;obtain⟨F1,hF1⟩: ∃F1,F1=low G1 S1:=⟨_,rfl⟩;rw[←hF1]at fn1 fb1 fo1 fk1;have r3':F1.blk b3= .rw 1 [.int .i64 e]:=by rw[fo1 _ (by omega)];exact r3
 obtain⟨S2,st2,sn2,slw2,fn2,fb2,fo2,fk2⟩:=Fg (v:= .int .i64 e) (ws:=[.int .i64 e]) sErr r3' (by omega) rfl rfl rfl rfl;obtain⟨F,hF⟩: ∃F,F=low F1 S2:=⟨_,rfl⟩;rw[←hF]at fn2 fb2 fo2 fk2;have hS:Cl b2 H F:=by
  refine⟨by omega,fun j hj=>?_,fun H0 k hn=>fk2 H0 (fk1 H0 (k.trans kG1) hn) (by omega)⟩;by_cases j3:j=b3;·subst j3;rw[fb2];exact he.symm
  ·rw[fo2 _ j3];by_cases j2:j=b2;·subst j2;rw[fb1];exact hq.symm
   ·rw[fo1 _ j2];exact kG1.blk _ hj
 have l1:=Xz (H:=H.top) hq;have l2:Yk Tryz.prog H.top 23 (.pointer (some ⟨b3,0,none⟩))=some (.int .i64 e):=Yh aErr (AH.cells_rw' (H:=H.top) he (by decide)) rfl;refine Un 9 Tryz.func150 rfl rfl ?_;apply Um (by kernel_rfl);apply Qd (by kernel_rfl);simp[Uh,isRec];refine Zr (v:= .agg #[p,q,r]) rfl rfl rfl (by rw[Ze rfl];simp[l1]) ?_;simp;refine Zr (v:= .int .i64 e) rfl rfl rfl (by rw[Ze rfl];simp[l2]) ?_;simp;refine Zy (v:= .tuple #[.agg #[p,q,r],.int .i64 e]) (H2:=E1) rfl rfl rfl (by rw[Ze rfl];simp[c1]) nE1 (Ya kE1) ?_;rw[←hG1];generalize hms:cond (Nat.blt H.n E1.n) _ _=ms;have hms1:=Fb hms;simp;refine Xf (v:= .tuple #[]) (H2:=S1) rfl rfl (by kernel_rfl) (Yy fun x hx=>by rw[(hms1 x hx).1];kernel_rfl) ?_ (by omega) slw1 ?_;·show Yo _ _ _ _ G1.top _=_;simp[st1]
 rw[show({ n:=S1.n,lw:=min G1.lw S1.lw,t:=S1.t } :AH)=F1 from hF1.symm];rw[show Nat.blt G1.n S1.n=false from by rw[sn1];exact Qh _,cond_false];simp;refine Xf (v:= .tuple #[]) (H2:=S2) rfl rfl (by kernel_rfl) (Yy fun x hx=>by rw[(hms1 x hx).1];kernel_rfl) ?_ (by omega) slw2 ?_;·show Yo _ _ _ _ F1.top _=_;simp[st2]
 rw[show({ n:=S2.n,lw:=min F1.lw S2.lw,t:=S2.t } :AH)=F from hF.symm];simp;exact hK F hS
theorem Zp4(x e:Int)(H:AH): ∃H',Zo Tryz.prog Zl 86 [.nilIface,.int .i64 x,.int .i64 e] H=some (.tuple #[.int .i64 x,.int .i64 e],H')∧Keep H H':=by
 suffices h:CW Tryz.prog Zl 86 [.nilIface,.int .i64 x,.int .i64 e] H fun v H'=>v= .tuple #[.int .i64 x,.int .i64 e]∧Keep H H' by obtain⟨v,H',hc,rfl,k⟩:=h;exact⟨H',hc,k⟩
 refine Zf 26 (by decide) (by decide) Tryz.func86 rfl rfl ?_;apply Zb;intro b1 hb1;apply Za;simp;subst hb1;apply Zb;intro b1 hb1;apply Zb;intro b2 hb2;apply Za;simp[-Xv,nilEq];subst hb2;refine Zc (t:=true) (by simp) ?_;apply Zb;intro b2 hb2;apply Za;simp;subst hb2;apply Zi;simp[Xb];exact .refl H
theorem sign1_cwd{b2 b3:Nat}{x e:Int}{K:AH→Prop}(hq:H.blk b2= .rw 1 [.int .i64 x])(he:H.blk b3= .rw 1 [.int .i64 e])(h2:b2<H.n)(h3:b3<H.n)(hlt:b2<b3)(hK: ∀H',Cl b2 H H'→K H'):CWD Tryz.prog Zl 85 [.pointer (some ⟨b2,0,none⟩),.pointer (some ⟨b3,0,none⟩)] .nilIface H K:=by
 obtain⟨E1,c1,kE1⟩:=Zp4 x e H.top;obtain⟨G1,hG1⟩: ∃G1,G1=grown H E1:=⟨_,rfl⟩;have kG1:Keep H G1:=by rw[hG1];exact Zk (.refl H) kE1
 have nE1:H.n≤E1.n:=kE1.n;have nG1:=kG1.n;have r2:G1.blk b2= .rw 1 [.int .i64 x]:=by rw[kG1.blk _ h2];exact hq
 have r3:G1.blk b3= .rw 1 [.int .i64 e]:=by rw[kG1.blk _ h3];exact he
 obtain⟨S1,st1,sn1,slw1,fn1,fb1,fo1,fk1⟩:=Fg (v:= .int .i64 x) (ws:=[.int .i64 x]) sInt r2 (by omega) rfl rfl rfl rfl;obtain⟨F1,hF1⟩: ∃F1,F1=low G1 S1:=⟨_,rfl⟩;rw[←hF1]at fn1 fb1 fo1 fk1;have r3':F1.blk b3= .rw 1 [.int .i64 e]:=by rw[fo1 _ (by omega)];exact r3
 obtain⟨S2,st2,sn2,slw2,fn2,fb2,fo2,fk2⟩:=Fg (v:= .int .i64 e) (ws:=[.int .i64 e]) sErr r3' (by omega) rfl rfl rfl rfl;obtain⟨F,hF⟩: ∃F,F=low F1 S2:=⟨_,rfl⟩;rw[←hF]at fn2 fb2 fo2 fk2;have hS:Cl b2 H F:=by
  refine⟨by omega,fun j hj=>?_,fun H0 k hn=>fk2 H0 (fk1 H0 (k.trans kG1) hn) (by omega)⟩;by_cases j3:j=b3;·subst j3;rw[fb2];exact he.symm
  ·rw[fo2 _ j3];by_cases j2:j=b2;·subst j2;rw[fb1];exact hq.symm
   ·rw[fo1 _ j2];exact kG1.blk _ hj
 have l1:Yk Tryz.prog H.top 3 (.pointer (some ⟨b2,0,none⟩))=some (.int .i64 x):=Yh aInt (AH.cells_rw' (H:=H.top) hq (by decide)) rfl;have l2:Yk Tryz.prog H.top 23 (.pointer (some ⟨b3,0,none⟩))=some (.int .i64 e):=Yh aErr (AH.cells_rw' (H:=H.top) he (by decide)) rfl;refine Un 9 Tryz.func85 rfl rfl ?_;apply Um (by kernel_rfl);apply Qd (by kernel_rfl);simp[Uh,isRec];refine Zr (v:= .int .i64 x) rfl rfl rfl (by rw[Ze rfl];simp[l1]) ?_;simp;refine Zr (v:= .int .i64 e) rfl rfl rfl (by rw[Ze rfl];simp[l2]) ?_;simp;refine Zy (v:= .tuple #[.int .i64 x,.int .i64 e]) (H2:=E1) rfl rfl rfl (by rw[Ze rfl];simp[c1]) nE1 (Ya kE1) ?_;rw[←hG1];generalize hms:cond (Nat.blt H.n E1.n) _ _=ms;have hms1:=Fb hms;simp;refine Xf (v:= .tuple #[]) (H2:=S1) rfl rfl (by kernel_rfl) (Yy fun x hx=>by rw[(hms1 x hx).1];kernel_rfl) ?_ (by omega) slw1 ?_;·show Yo _ _ _ _ G1.top _=_;simp[st1]
 rw[show({ n:=S1.n,lw:=min G1.lw S1.lw,t:=S1.t } :AH)=F1 from hF1.symm];rw[show Nat.blt G1.n S1.n=false from by rw[sn1];exact Qh _,cond_false];simp;refine Xf (v:= .tuple #[]) (H2:=S2) rfl rfl (by kernel_rfl) (Yy fun x hx=>by rw[(hms1 x hx).1];kernel_rfl) ?_ (by omega) slw2 ?_;·show Yo _ _ _ _ F1.top _=_;simp[st2]
 rw[show({ n:=S2.n,lw:=min F1.lw S2.lw,t:=S2.t } :AH)=F from hF.symm];simp;exact hK F hS
theorem Za0{b2 b3:Nat}{x e:Int}{K:AH→Prop}(hq:H.blk b2= .rw 1 [.int .i64 x])(he:H.blk b3= .rw 1 [.int .i64 e])(h2:b2<H.n)(h3:b3<H.n)(hlt:b2<b3)(hK: ∀H',Cl b2 H H'→K H'):CWD Tryz.prog Zl 121 [.pointer (some ⟨b2,0,none⟩),.pointer (some ⟨b3,0,none⟩)] .nilIface H K:=by
 obtain⟨E1,c1,kE1⟩:=Zp4 x e H.top;obtain⟨G1,hG1⟩: ∃G1,G1=grown H E1:=⟨_,rfl⟩;have kG1:Keep H G1:=by rw[hG1];exact Zk (.refl H) kE1
 have nE1:H.n≤E1.n:=kE1.n;have nG1:=kG1.n;have r2:G1.blk b2= .rw 1 [.int .i64 x]:=by rw[kG1.blk _ h2];exact hq
 have r3:G1.blk b3= .rw 1 [.int .i64 e]:=by rw[kG1.blk _ h3];exact he
 obtain⟨S1,st1,sn1,slw1,fn1,fb1,fo1,fk1⟩:=Fg (v:= .int .i64 x) (ws:=[.int .i64 x]) sInt r2 (by omega) rfl rfl rfl rfl;obtain⟨F1,hF1⟩: ∃F1,F1=low G1 S1:=⟨_,rfl⟩;rw[←hF1]at fn1 fb1 fo1 fk1;have r3':F1.blk b3= .rw 1 [.int .i64 e]:=by rw[fo1 _ (by omega)];exact r3
 obtain⟨S2,st2,sn2,slw2,fn2,fb2,fo2,fk2⟩:=Fg (v:= .int .i64 e) (ws:=[.int .i64 e]) sErr r3' (by omega) rfl rfl rfl rfl;obtain⟨F,hF⟩: ∃F,F=low F1 S2:=⟨_,rfl⟩;rw[←hF]at fn2 fb2 fo2 fk2;have hS:Cl b2 H F:=by
  refine⟨by omega,fun j hj=>?_,fun H0 k hn=>fk2 H0 (fk1 H0 (k.trans kG1) hn) (by omega)⟩;by_cases j3:j=b3;·subst j3;rw[fb2];exact he.symm
  ·rw[fo2 _ j3];by_cases j2:j=b2;·subst j2;rw[fb1];exact hq.symm
   ·rw[fo1 _ j2];exact kG1.blk _ hj
 have l1:Yk Tryz.prog H.top 3 (.pointer (some ⟨b2,0,none⟩))=some (.int .i64 x):=Yh aInt (AH.cells_rw' (H:=H.top) hq (by decide)) rfl;have l2:Yk Tryz.prog H.top 23 (.pointer (some ⟨b3,0,none⟩))=some (.int .i64 e):=Yh aErr (AH.cells_rw' (H:=H.top) he (by decide)) rfl;refine Un 9 Tryz.func121 rfl rfl ?_;apply Um (by kernel_rfl);apply Qd (by kernel_rfl);simp[Uh,isRec];refine Zr (v:= .int .i64 x) rfl rfl rfl (by rw[Ze rfl];simp[l1]) ?_;simp;refine Zr (v:= .int .i64 e) rfl rfl rfl (by rw[Ze rfl];simp[l2]) ?_;simp;refine Zy (v:= .tuple #[.int .i64 x,.int .i64 e]) (H2:=E1) rfl rfl rfl (by rw[Ze rfl];simp[c1]) nE1 (Ya kE1) ?_;rw[←hG1];generalize hms:cond (Nat.blt H.n E1.n) _ _=ms;have hms1:=Fb hms;simp;refine Xf (v:= .tuple #[]) (H2:=S1) rfl rfl (by kernel_rfl) (Yy fun x hx=>by rw[(hms1 x hx).1];kernel_rfl) ?_ (by omega) slw1 ?_;·show Yo _ _ _ _ G1.top _=_;simp[st1]
 rw[show({ n:=S1.n,lw:=min G1.lw S1.lw,t:=S1.t } :AH)=F1 from hF1.symm];rw[show Nat.blt G1.n S1.n=false from by rw[sn1];exact Qh _,cond_false];simp;refine Xf (v:= .tuple #[]) (H2:=S2) rfl rfl (by kernel_rfl) (Yy fun x hx=>by rw[(hms1 x hx).1];kernel_rfl) ?_ (by omega) slw2 ?_;·show Yo _ _ _ _ F1.top _=_;simp[st2]
 rw[show({ n:=S2.n,lw:=min F1.lw S2.lw,t:=S2.t } :AH)=F from hF.symm];simp;exact hK F hS
end
end
theorem uQs:Tryz.prog.underlying 157=some (.slice 34):=by kernel_rfl
theorem sQs:Uq Tryz.prog 157=some (34,3,56):=by kernel_rfl
theorem lenQs(b m:Nat):lenV Tryz.prog 157 (.slice (some ⟨b,0,none⟩) m m)=some m:=by unfold lenV;simp only[uQs]
theorem adrQs(b m:Nat){i:Nat}(hi:i<m):Yr Tryz.prog 157 (.slice (some ⟨b,0,none⟩) m m) (.int .i64 (i:Int))=some (.pointer (some ⟨b,i*3,none⟩)):=by unfold Yr;simp only[uQs,Gr];rw[if_pos (by omega)];simp
theorem buildQ1(H:AH)(p q r:Value):Xx Tryz.prog H 157 1 [(0,.agg #[p,q,r])]=some (.slice (some ⟨H.n,0,none⟩) 1 1,H.new 3 [p,q,r]):=by unfold Xx;simp only[sQs,Vu];kernel_rfl
theorem Zn0(H:AH)(p q r p' q' r':Value):Xx Tryz.prog H 157 2 [(0,.agg #[p,q,r]),(1,.agg #[p',q',r'])]=some (.slice (some ⟨H.n,0,none⟩) 2 2,H.new 3 [p,q,r,p',q',r']):=by unfold Xx;simp only[sQs,Vu];kernel_rfl
theorem Zl2{H:AH}{b o:Nat}{cs vs:List Value}(h:H.cells b=some cs)(hk:(cs.drop o).take 3=vs)(hl:vs.length=3):Yk Tryz.prog H 34 (.pointer (some ⟨b,o,none⟩))=some (.agg vs.toArray):=by
 unfold Yk;simp only[aRatio,Gr,AH.read_def,h];have:o+3≤cs.length:=by have:=congrArg List.length hk;rw[List.length_take,List.length_drop,hl]at this;omega
 rw[Nat.ble_eq.mpr this,cond_true,hk]
section
attribute [-simp] Int.natCast_add Int.natCast_mul Int.natCast_ediv Int.natCast_emod Int.natCast_pow
attribute [local simp] strip Yj LW' LR gW Yo Xi Ye Xj Yt Xh Zv Zw Zn Yv Xd Yp Xo Zz Yu Zm Zj Xm Xn Jl Yi Xe opd Qi Ys plain Yn Tr.get_set Qg Zu Xv Yg sameKind undef Zx Yw Xc Zs Yf parts unV DW Xp Yc LX Yb
attribute [local simp] Qq Ji
section
variable {H : AH} {u v va vb : Value} {xs ys : List Nat} {A B : Nat}
def Looks(H:AH)(b m:Nat):Prop:= ∀i,i<m→ ∃(p q r:Value) (D:Nat),(∀H',Keep H H'→Yk Tryz.prog H' 34 (.pointer (some ⟨b,i*3,none⟩))=some (.agg #[p,q,r]))∧Er p q r∧Sl H r (ds B64 D)∧Zg D≤67108864∧0<D
theorem Fz{b m:Nat}(hl:Looks H b m)(hm:m≤1000): ∃H',Zo Tryz.prog Zl 87 [.slice (some ⟨b,0,none⟩) m m] H=some (.tuple #[],H')∧Keep H H':=by
 suffices h:CW Tryz.prog Zl 87 [.slice (some ⟨b,0,none⟩) m m] H fun v H'=>v= .tuple #[]∧Keep H H' by obtain⟨v,H',hc,rfl,k⟩:=h;exact⟨H',hc,k⟩
 have lq:=lenQs b m;refine Zf 17 (by decide) (by decide) Tryz.func87 rfl rfl ?_;apply Zb;intro b1 hb1;apply Za;simp[lq];subst hb1;apply Zp;refine Xt (fun n s'=>s'.k=17∧Keep H s'.H∧ ∃i:Nat,n+i=m∧s'.tm.get 4=some (.slice (some ⟨b,0,none⟩) m m)∧s'.tm.get 5=some (.int .i64 (m:Int))∧s'.tm.get 6=some (.int .i64 (i:Int))) ?_ m _ ⟨rfl,.refl H,0,by omega,by simp,by simp,by simp⟩;rintro n ⟨k,tm,H4⟩ ⟨hk,kH,i,hni,t4,t5,t6⟩ Q' hQ';simp only at hk kH t4 t5 t6;subst hk;apply Zb;intro b3 hb3;apply Za;simp[t5,t6,lssN];subst hb3;apply Zb;intro b3 hb3;by_cases hi:i<m
 ·refine Zc (t:=true) (by simp[hi]) ?_;apply Zh;subst hb3;obtain⟨p,q,r,D,hld,⟨⟨s,rfl⟩,⟨a1,l1,c1,rfl⟩,⟨a2,l2,c2,rfl⟩⟩,hsl,hbD,hD0⟩:=hl i hi;obtain⟨H5,st5,k5,blk5,n5⟩:=Qv (H:=H4) (sz:=1) (zs:=[.bool false,.slice none 0 0,.slice none 0 0]) Gr rfl (v:= .agg #[.bool s,.slice a1 l1 c1,.slice a2 l2 c2]) (ws:=[.bool s,.slice a1 l1 c1,.slice a2 l2 c2]) rfl rfl rfl;have cl:=Vk ((hsl.keep kH).keep k5) (Zq hbD);obtain⟨L,hL⟩: ∃L,L=Zg D:=⟨_,rfl⟩;rw[←hL]at cl;have hL0:L≠0:=fun h=>by rw[hL]at h;have:=Ey.mp h;omega
  have ge:Zd .eql .i64 (L:Int) 0=some (.bool false):=by rw[Vw,decide_eq_false hL0]
  apply Zb;intro b3 hb3;apply Zp;apply Zb;intro b4 hb4;apply Za;simp[t4,t6,adrQs b m hi,hld H4 kH,Vu,Value.cells,st5];subst hb4;apply Zb;intro b4 hb4;apply Za;simp[faQ1,Gd blk5,cl,ge];subst hb4;refine Zc (t:=false) (by simp) ?_;apply Zh;subst hb3;apply Za;simp[t6,Eg (x:=i) (by omega)];apply hQ';exact⟨n-1,by omega,rfl,kH.trans k5,i+1,by omega,by simp[t4],by simp[t5],by simp⟩
 ·refine Zc (t:=false) (by simp[hi]) ?_;apply Xu;apply hQ';left;refine⟨rfl,?_⟩;simp;exact kH
theorem Zl6{x:Bool}(hu: ∃a l c,u= .slice a l c)(H:AH): ∃H',Zo Tryz.prog Zl 142 [.agg #[.bool x,u],.int .i64 0] H=some (.agg #[.bool x,u],H')∧Keep H H':=by
 obtain⟨a,l,c,rfl⟩:=hu;suffices h:CW Tryz.prog Zl 142 [.agg #[.bool x,.slice a l c],.int .i64 0] H fun v H'=>v= .agg #[.bool x,.slice a l c]∧Keep H H' by obtain⟨v,H',hc,rfl,k⟩:=h;exact⟨H',hc,k⟩
 obtain⟨H2,e2,k2,n2,q1,q2⟩:=Qp H [.bool x,.slice a l c] [.bool false,.slice none 0 0];obtain⟨H4,st4,n4,q4,b4,ka4⟩:=putW (p:= .bool x) (q:= .slice a l c) q2 rfl rfl rfl rfl;have k04:Keep H H4:=ka4 H k2 (by omega);have hld:=Dz q4;refine Zf 11 (by decide) (by decide) Tryz.func142 rfl rfl ?_;apply Zb;intro b1 hb1;apply Za;simp[Value.cells,Af,Qz,e2];subst hb1;apply Zb;intro b1 hb1;apply Zb;intro b2 hb2;apply Za;simp[Ca];subst hb2;refine Zc (t:=false) (by simp) ?_;apply Zh;subst hb1;apply Zb;intro b1 hb1;apply Za;simp[Dz q1,st4];subst hb1;apply Zi;simp[hld];exact k04
theorem mustQ_call{p q r:Value}(ht:Er p q r)(H:AH): ∃H',Zo Tryz.prog Zl 148 [.agg #[p,q,r],.int .i64 0] H=some (.agg #[p,q,r],H')∧Keep H H':=by
 obtain⟨⟨s,rfl⟩,⟨a1,l1,c1,rfl⟩,⟨a2,l2,c2,rfl⟩⟩:=ht;suffices h:CW Tryz.prog Zl 148 [.agg #[.bool s,.slice a1 l1 c1,.slice a2 l2 c2],.int .i64 0] H fun v H'=>v= .agg #[.bool s,.slice a1 l1 c1,.slice a2 l2 c2]∧Keep H H' by obtain⟨v,H',hc,rfl,k⟩:=h;exact⟨H',hc,k⟩
 obtain⟨H2,e2,k2,n2,q1,q2⟩:=Qp H [.bool s,.slice a1 l1 c1,.slice a2 l2 c2] [.bool false,.slice none 0 0,.slice none 0 0];obtain⟨H4,st4,n4,q4,b4,ka4⟩:=Bf (p:= .bool s) (q:= .slice a1 l1 c1) (r:= .slice a2 l2 c2) q2 rfl rfl rfl rfl rfl rfl;have k04:Keep H H4:=ka4 H k2 (by omega);have hld:=Xz q4;refine Zf 11 (by decide) (by decide) Tryz.func148 rfl rfl ?_;apply Zb;intro b1 hb1;apply Za;simp[Value.cells,Vu,Qz,e2];subst hb1;apply Zb;intro b1 hb1;apply Zb;intro b2 hb2;apply Za;simp[Ca];subst hb2;refine Zc (t:=false) (by simp) ?_;apply Zh;subst hb1;apply Zb;intro b1 hb1;apply Za;simp[Xz q1,st4];subst hb1;apply Zi;simp[hld];exact k04
theorem Ua{n:Nat}(hn:n<9223372036854775808): ∃p q H',Zo Tryz.prog Zl 145 [.int .i64 (n:Int)] H=some (.agg #[.bool false,p,q],H')∧Keep H H'∧Own H.n H' p (ds B64 n)∧Own H.n H' q (ds B64 1):=by
 suffices h:CW Tryz.prog Zl 145 [.int .i64 (n:Int)] H fun v H'=> ∃p q,v= .agg #[.bool false,p,q]∧Keep H H'∧Own H.n H' p (ds B64 n)∧Own H.n H' q (ds B64 1) by obtain⟨v,H',hc,p,q,rfl,k,o⟩:=h;exact⟨p,q,H',hc,k,o⟩
 obtain⟨H2,e2,k2,n2,q2⟩:=Vj H [.bool false,.slice none 0 0,.slice none 0 0];obtain⟨p,H3,c3,k3,o3⟩:=wOf_call (H:=H2) hn;obtain⟨q,H4,c4,k4,o4⟩:=Da (H:=H3) (x:=1) (by decide);have c4:Zo Tryz.prog Zl 164 [.int .u64 1] H3=some (q,H4):=c4;have n3:=k3.n;have q2':=(k3.trans k4).blk _ (show H.n<H2.n by omega);rw[q2]at q2';have o3':=o3.mono (Nat.le_refl _) k4;obtain⟨i1,i2,i3⟩:=o3'.trio;obtain⟨j1,j2,j3⟩:=o4.trio;obtain⟨H5,st5,n5,q5,b5,ka5⟩:=Bf (p:= .bool false) (q:=p) (r:=q) q2' rfl i1 j1 rfl i2 j2;have k05:Keep H H5:=ka5 H ((k2.trans k3).trans k4) (by omega);have o5:=(o3'.off (b:=H.n) (by omega) n5 b5).mono (show H.n≤H2.n by omega) (.refl _);have o6:=(o4.off (b:=H.n) (by omega) n5 b5).mono (show H.n≤H3.n by omega) (.refl _);have hld:=Xz q5;refine Zf 7 (by decide) (by decide) Tryz.func145 rfl rfl ?_;apply Zb;intro b1 hb1;apply Za;simp[Value.cells,Vu,Qz,e2];subst hb1;apply Zb;intro b1 hb1;apply Za;simp[c3,c4,Zk2 (x:=false) i3 j3,st5];subst hb1;apply Zi;simp[hld];exact⟨_,_,⟨rfl,rfl⟩,k05,o5,o6⟩
theorem Zl9(s:Bool)(ha:Sl H u (ds B64 A))(hv: ∃a l c,v= .slice a l c)(hA:Zg A≤67108864): ∃H',Zo Tryz.prog Zl 88 [.agg #[.bool s,u,v]] H=some (.int .i64 (Jj s A),H')∧Keep H H':=by
 suffices h:CW Tryz.prog Zl 88 [.agg #[.bool s,u,v]] H fun w H'=>w= .int .i64 (Jj s A)∧Keep H H' by obtain⟨v,H',hc,rfl,k⟩:=h;exact⟨H',hc,k⟩
 obtain⟨H2,e2,k2,n2,q2⟩:=Vj H [.bool s,u,v];obtain⟨H3,c3,k3⟩:=wSign_call s (ha.keep k2) (Xg Ym A) (Nat.le_trans (Zq hA) (by decide));rw[Xy Ym]at c3;obtain⟨S,hS⟩: ∃S,S=Jj s A:=⟨_,rfl⟩;rw[←hS]at c3⊢;refine Zf 6 (by decide) (by decide) Tryz.func88 rfl rfl ?_;apply Zb;intro b1 hb1;apply Za;simp[Value.cells,Qz,e2];subst hb1;apply Zb;intro b1 hb1;apply Za;simp[Bc,loadQW q2,c3];subst hb1;apply Zi;simp;exact k2.trans k3
end
end
theorem putI{H:AH}{b:Nat}{x e:Int}(hb:H.blk b= .rw 1 [.int .i64 x]): ∃H',Xk Tryz.prog H 3 (.pointer (some ⟨b,0,none⟩)) (.int .i64 e)=some H'∧H'.n=H.n∧H'.blk b= .rw 1 [.int .i64 e]∧(∀j,j≠b→H'.blk j=H.blk j)∧KAt b H H':=Aj sInt hb rfl rfl rfl rfl
theorem loadI{H:AH}{b:Nat}{e:Int}(hb:H.blk b= .rw 1 [.int .i64 e]):Yk Tryz.prog H 3 (.pointer (some ⟨b,0,none⟩))=some (.int .i64 e):=Yh aInt (AH.cells_rw' hb (by decide)) rfl
section
attribute [-simp] Int.natCast_add Int.natCast_mul Int.natCast_ediv Int.natCast_emod Int.natCast_pow
attribute [local simp] strip Yj LW' LR gW Yo Xi Ye Xj Yt Xh Zv Zw Zn Yv Xd Yp Xo Zz Yu Zm Zj Xm Xn Jl Yi Xe opd Qi Ys plain Yn Tr.get_set Qg Zu Xv Yg sameKind undef Zx Yw Xc Zs Yf parts unV DW Xp Yc LX Yb
attribute [local simp] Qq Ji
section
variable {H : AH} {u v va vb : Value} {xs ys : List Nat} {A B : Nat}
theorem looks1{H:AH}{p q r:Value}{D:Nat}(ht:Er p q r)(hs:Sl (H.new 3 [p,q,r]) r (ds B64 D))(hb:Zg D≤67108864)(h0:0<D):Looks (H.new 3 [p,q,r]) H.n 1:=fun i hi=>by
 obtain rfl:i=0:=by omega
 exact⟨p,q,r,D,fun H' k=>Zl2 (cs:=[p,q,r]) ((Kr k (Nat.lt_succ_self _)).trans (Kt H 3 [p,q,r])) rfl rfl,ht,hs,hb,h0⟩
theorem looks2{H:AH}{p q r p' q' r':Value}{D D':Nat}(ht:Er p q r)(hs:Sl (H.new 3 [p,q,r,p',q',r']) r (ds B64 D))(hb:Zg D≤67108864)(h0:0<D)(ht':Er p' q' r')(hs':Sl (H.new 3 [p,q,r,p',q',r']) r' (ds B64 D'))(hb':Zg D'≤67108864)(h0':0<D'):Looks (H.new 3 [p,q,r,p',q',r']) H.n 2:=fun i hi=>by
 have hc:=fun{H'} (k:Keep (H.new 3 [p,q,r,p',q',r']) H')=>(Kr k (Nat.lt_succ_self _)).trans (Kt H 3 [p,q,r,p',q',r']);have:i=0∨i=1:=by omega
 rcases this with rfl|rfl;·exact⟨p,q,r,D,fun H' k=>Zl2 (hc k) rfl rfl,ht,hs,hb,h0⟩
 ·exact⟨p',q',r',D',fun H' k=>Zl2 (hc k) rfl rfl,ht',hs',hb',h0'⟩
theorem Sl.trio{H:AH}{s:Bool}{xs ys:List Nat}(ha:Sl H u xs)(hb:Sl H v ys):Er (.bool s) u v:=⟨⟨s,rfl⟩,ha.shape,hb.shape⟩
theorem Zg4(s:Bool)(ha:Sl H u (ds B64 A))(hb:Sl H v (ds B64 B))(hA:Zg A≤67108864)(hB:Zg B≤67108864)(hB0:0<B): ∃H',Zo Tryz.prog Zl 54 [.agg #[.bool s,u,v]] H=some (.tuple #[.int .i64 (Jj s A),.int .i64 0],H')∧Keep H H':=by
 suffices h:CW Tryz.prog Zl 54 [.agg #[.bool s,u,v]] H fun w H'=>w= .tuple #[.int .i64 (Jj s A),.int .i64 0]∧Keep H H' by obtain⟨v,H',hc,rfl,k⟩:=h;exact⟨H',hc,k⟩
 obtain⟨H2,e2,k2,n2,q1,q2,q3⟩:=Kx H [.bool s,u,v] [.int .i64 0] [.int .i64 0];have k3:=Keep.new H2 3 [.bool s,u,v];obtain⟨H4,c4,k4⟩:=Fz (looks1 (ha.trio hb (s:=s)) ((hb.keep k2).keep k3) hB hB0) (by decide);obtain⟨H3,hH3⟩: ∃H3,H3=H2.new 3 [.bool s,u,v]:=⟨_,rfl⟩;rw[←hH3]at k3 c4 k4;have k34:=k3.trans k4;have r1:H4.blk H.n= .rw 1 [.bool s,u,v]:=by rw[k34.blk _ (by omega)];exact q1
 obtain⟨H5,c5,k5⟩:=Zl9 s ((ha.keep k2).keep k34) hb.shape hA;have k35:=k34.trans k5;have r2:H5.blk (H.n+1)= .rw 1 [.int .i64 0]:=by rw[k35.blk _ (by omega)];exact q2
 have r3:H5.blk (H.n+2)= .rw 1 [.int .i64 0]:=by rw[k35.blk _ (by omega)];exact q3
 obtain⟨S,hS⟩: ∃S,S=Jj s A:=⟨_,rfl⟩;rw[←hS]at c5⊢;have n5:=k35.n;obtain⟨H6,st6,n6,p6,b6,ka6⟩:=putI (e:=S) r2;have r3':H6.blk (H.n+2)= .rw 1 [.int .i64 0]:=by rw[b6 _ (by omega)];exact r3
 obtain⟨H7,st7,n7,p7,b7,ka7⟩:=putE (e:=0) r3';have p6':H7.blk (H.n+1)= .rw 1 [.int .i64 S]:=by rw[b7 _ (by omega)];exact p6
 have k07:Keep H H7:=ka7 H (ka6 H (k2.trans k35) (by omega)) (by omega);refine Uz 10 (by decide) (by decide) Tryz.func54 rfl rfl rfl ?_;intro b1 hb1;apply Za;simp[Value.cells,zInt,zErr,Qz,e2];refine⟨_,_,⟨rfl,rfl⟩,?_⟩;subst hb1;apply Zb;intro b1 hb1;apply Za;simp[Xz q1,buildQ1,←hH3,c4];subst hb1;apply Zb;intro b1 hb1;apply Za;simp[Xz r1,c5,st6,st7];subst hb1;apply Zi;simp[Ge];refine sign1_cwd p6' p7 (by omega) (by omega) (by omega) fun H8 hS=>?_;have z4:H8.blk (H.n+1)= .rw 1 [.int .i64 S]:=by rw[hS.2.1 _ (by omega)];exact p6'
 have z5:H8.blk (H.n+2)= .rw 1 [.int .i64 0]:=by rw[hS.2.1 _ (by omega)];exact p7
 simp[loadI z4,Cb z5];exact hS.keep k07 (by omega)
theorem ratioMake_call(s t:Bool)(ha:Sl H u (ds B64 A))(hb:Sl H v (ds B64 B))(hA:Zg A≤67108864)(hB:Zg B≤67108864)(hB0:0<B): ∃p q H',Zo Tryz.prog Zl 56 [.agg #[.bool s,u],.agg #[.bool t,v]] H=some (.tuple #[.agg #[.bool (Yl (s !=t) A B).1,p,q],.int .i64 0],H')∧Keep H H'∧Own H.n H' p (ds B64 (Yl (s !=t) A B).2.1)∧Own H.n H' q (ds B64 (Yl (s !=t) A B).2.2):=by
 obtain⟨neg,hneg⟩: ∃neg,neg=(s !=t):=⟨_,rfl⟩;rw[←hneg];obtain⟨r,hr⟩: ∃r,r=Yl neg A B:=⟨_,rfl⟩;suffices hs:CW Tryz.prog Zl 56 [.agg #[.bool s,u],.agg #[.bool t,v]] H fun v H'=> ∃p q,v= .tuple #[.agg #[.bool r.1,p,q],.int .i64 0]∧Keep H H'∧Own H.n H' p (ds B64 r.2.1)∧Own H.n H' q (ds B64 r.2.2) by obtain⟨v,H',hc,p,q,rfl,k,o⟩:=hs;rw[←hr];exact⟨p,q,H',hc,k,o⟩
 obtain⟨H2,e2,k2,n2,q0,q1,q2,q3⟩:=boxes4 H [.bool s,u] [.bool t,v] [.bool false,.slice none 0 0,.slice none 0 0] [.int .i64 0];obtain⟨p,q,H3,c3,k3,o3,o4⟩:=Zc5 neg (ha.keep k2) (hb.keep k2) hA hB hB0;rw[←hr]at c3 o3 o4;have n3:=k3.n;have q2':=k3.blk _ (show H.n+2<H2.n by omega);rw[q2]at q2';have q3':=k3.blk _ (show H.n+3<H2.n by omega);rw[q3]at q3';obtain⟨i1,i2,i3⟩:=o3.trio;obtain⟨j1,j2,j3⟩:=o4.trio;obtain⟨S,N,D⟩:=r;simp only at c3 o3 o4⊢;obtain⟨H4,st4,n4,q4,b4,ka4⟩:=Bf (p:= .bool S) (q:=p) (r:=q) q2' rfl i1 j1 rfl i2 j2;have q3'':H4.blk (H.n+3)= .rw 1 [.int .i64 0]:=by rw[b4 _ (by omega)];exact q3'
 obtain⟨H5,st5,n5,q5,b5,ka5⟩:=putE (e:=0) q3'';have q4':H5.blk (H.n+2)= .rw 1 [.bool S,p,q]:=by rw[b5 _ (by omega)];exact q4
 have k05:Keep H H5:=ka5 H (ka4 H (k2.trans k3) (by omega)) (by omega);have o5:=((o3.off (b:=H.n+2) (by omega) n4 b4).off (b:=H.n+3) (by omega) n5 b5).mono (show H.n≤H2.n by omega) (.refl _);have o6:=((o4.off (b:=H.n+2) (by omega) n4 b4).off (b:=H.n+3) (by omega) n5 b5).mono (show H.n≤H2.n by omega) (.refl _);have gne:Xv Tryz.prog .neq 4 (.bool s) (.bool t)=some (.bool neg):=by rw[hneg];cases s<;>cases t<;>rfl
 refine Uz 21 (by decide) (by decide) Tryz.func56 rfl rfl rfl ?_;intro b1 hb1;apply Za;simp[Value.cells,Vu,zErr,Qz,e2];refine⟨_,_,⟨rfl,rfl⟩,?_⟩;subst hb1;apply Zb;intro b1 hb1;apply Za;simp[Kz,Dx q0,Dx q1,-Xv,gne];subst hb1;apply Zb;intro b1 hb1;apply Za;simp[Eo,Fc q0,Fc q1,Zl3 (b:=neg) ha.shape,Zk2 (x:=neg) ha.shape hb.shape,c3,st4,st5];subst hb1;apply Zi;simp[Ge];refine make1_cwd ⟨⟨_,rfl⟩,i3,j3⟩ q4' q5 (by omega) (by omega) (by omega) fun H6 hS=>?_;have r4:H6.blk (H.n+2)= .rw 1 [.bool S,p,q]:=by rw[hS.2.1 _ (by omega)];exact q4'
 have r5:H6.blk (H.n+3)= .rw 1 [.int .i64 0]:=by rw[hS.2.1 _ (by omega)];exact q5
 simp[Xz r4,Cb r5];exact⟨_,_,⟨rfl,rfl⟩,hS.keep k05 (by omega),hS.own o5,hS.own o6⟩
end
end
theorem sBool:Jd Tryz.prog 4=some 1:=by kernel_rfl
theorem putB{H:AH}{b:Nat}{p q r:Value}{x:Bool}(hb:H.blk b= .rw 1 [p,q,r]): ∃H',Xk Tryz.prog H 4 (.pointer (some ⟨b,0,none⟩)) (.bool x)=some H'∧H'.n=H.n∧H'.blk b= .rw 1 [.bool x,q,r]∧(∀j,j≠b→H'.blk j=H.blk j)∧KAt b H H':=by obtain⟨H',st,q1,n1,o,ka,_⟩:=Gl (o:=0) sBool hb (v:= .bool x) (ws:=[.bool x]) rfl rfl (by simp) rfl;exact⟨H',st,n1,q1,o,ka⟩
section
attribute [-simp] Int.natCast_add Int.natCast_mul Int.natCast_ediv Int.natCast_emod Int.natCast_pow
attribute [local simp] strip Yj LW' LR gW Yo Xi Ye Xj Yt Xh Zv Zw Zn Yv Xd Yp Xo Zz Yu Zm Zj Xm Xn Jl Yi Xe opd Qi Ys plain Yn Tr.get_set Qg Zu Xv Yg sameKind undef Zx Yw Xc Zs Yf parts unV DW Xp Yc LX Yb
attribute [local simp] Qq Ji
section
variable {H : AH} {u v va vb : Value} {xs ys : List Nat} {A B : Nat}
theorem ratioAbs_call(neg:Bool)(ha:Sl H u (ds B64 A))(hb:Sl H v (ds B64 B))(hA:Zg A≤67108864)(hB:Zg B≤67108864)(hB0:0<B): ∃p q H',Zo Tryz.prog Zl 109 [.agg #[.bool neg,u,v]] H=some (.tuple #[.agg #[.bool false,p,q],.int .i64 0],H')∧Keep H H'∧Own H.n H' p (ds B64 (Yl neg A B).2.1)∧Own H.n H' q (ds B64 (Yl neg A B).2.2):=by
 obtain⟨r,hr⟩: ∃r,r=Yl neg A B:=⟨_,rfl⟩;suffices hs:CW Tryz.prog Zl 109 [.agg #[.bool neg,u,v]] H fun v H'=> ∃p q,v= .tuple #[.agg #[.bool false,p,q],.int .i64 0]∧Keep H H'∧Own H.n H' p (ds B64 r.2.1)∧Own H.n H' q (ds B64 r.2.2) by obtain⟨v,H',hc,p,q,rfl,k,o⟩:=hs;rw[←hr];exact⟨p,q,H',hc,k,o⟩
 obtain⟨H2,e2,k2,n2,q1,q2,q3⟩:=Kx H [.bool neg,u,v] [.bool false,.slice none 0 0,.slice none 0 0] [.int .i64 0];obtain⟨p,q,H3,c3,k3,o3,o4⟩:=Zc5 neg (ha.keep k2) (hb.keep k2) hA hB hB0;rw[←hr]at c3 o3 o4;have n3:=k3.n;have q2':=k3.blk _ (show H.n+1<H2.n by omega);rw[q2]at q2';have q3':=k3.blk _ (show H.n+2<H2.n by omega);rw[q3]at q3';obtain⟨i1,i2,i3⟩:=o3.trio;obtain⟨j1,j2,j3⟩:=o4.trio;obtain⟨S,N,D⟩:=r;simp only at c3 o3 o4⊢;obtain⟨H4,st4,n4,q4,b4,ka4⟩:=Bf (p:= .bool S) (q:=p) (r:=q) q2' rfl i1 j1 rfl i2 j2;obtain⟨H5,st5,n5,q5,b5,ka5⟩:=putB (x:=false) q4;obtain⟨H6,st6,n6,q6,b6,ka6⟩:=Bf (p:= .bool false) (q:=p) (r:=q) q5 rfl i1 j1 rfl i2 j2;have q3'':H6.blk (H.n+2)= .rw 1 [.int .i64 0]:=by rw[b6 _ (by omega),b5 _ (by omega),b4 _ (by omega)];exact q3'
 obtain⟨H7,st7,n7,q7,b7,ka7⟩:=putE (e:=0) q3'';have q6':H7.blk (H.n+1)= .rw 1 [.bool false,p,q]:=by rw[b7 _ (by omega)];exact q6
 have k07:Keep H H7:=ka7 H (ka6 H (ka5 H (ka4 H (k2.trans k3) (by omega)) (by omega)) (by omega)) (by omega);have o5:=((((o3.off (b:=H.n+1) (by omega) n4 b4).off (b:=H.n+1) (by omega) n5 b5).off (b:=H.n+1) (by omega) n6 b6).off (b:=H.n+2) (by omega) n7 b7).mono (show H.n≤H2.n by omega) (.refl _);have o6:=((((o4.off (b:=H.n+1) (by omega) n4 b4).off (b:=H.n+1) (by omega) n5 b5).off (b:=H.n+1) (by omega) n6 b6).off (b:=H.n+2) (by omega) n7 b7).mono (show H.n≤H2.n by omega) (.refl _);refine Uz 10 (by decide) (by decide) Tryz.func109 rfl rfl rfl ?_;intro b1 hb1;apply Za;simp[Value.cells,Vu,zErr,Qz,e2];refine⟨_,_,⟨rfl,rfl⟩,?_⟩;subst hb1;apply Zb;intro b1 hb1;apply Za;simp[Xz q1,c3,st4];subst hb1;apply Zb;intro b1 hb1;apply Za;simp[Bc,Kz,st5];subst hb1;apply Zb;intro b1 hb1;apply Za;simp[Xz q5,st6,st7];subst hb1;apply Zi;simp[Ge];refine abs1_cwd ⟨⟨_,rfl⟩,i3,j3⟩ q6' q7 (by omega) (by omega) (by omega) fun H8 hS=>?_;have r4:H8.blk (H.n+1)= .rw 1 [.bool false,p,q]:=by rw[hS.2.1 _ (by omega)];exact q6'
 have r5:H8.blk (H.n+2)= .rw 1 [.int .i64 0]:=by rw[hS.2.1 _ (by omega)];exact q7
 simp[Xz r4,Cb r5];exact⟨_,_,⟨rfl,rfl⟩,hS.keep k07 (by omega),hS.own o5,hS.own o6⟩
theorem Zj2(neg:Bool)(ha:Sl H u (ds B64 A))(hb:Sl H v (ds B64 B))(hA:Zg A≤67108864)(hB:Zg B≤67108864)(hB0:0<B): ∃p q H',Zo Tryz.prog Zl 108 [.agg #[.bool neg,u,v]] H=some (.tuple #[.agg #[.bool (sg (!(Yl neg A B).1) (Yl neg A B).2.1),p,q],.int .i64 0],H')∧Keep H H'∧Own H.n H' p (ds B64 (Yl neg A B).2.1)∧Own H.n H' q (ds B64 (Yl neg A B).2.2):=by
 obtain⟨r,hr⟩: ∃r,r=Yl neg A B:=⟨_,rfl⟩;suffices hs:CW Tryz.prog Zl 108 [.agg #[.bool neg,u,v]] H fun v H'=> ∃p q,v= .tuple #[.agg #[.bool (sg (!r.1) r.2.1),p,q],.int .i64 0]∧Keep H H'∧Own H.n H' p (ds B64 r.2.1)∧Own H.n H' q (ds B64 r.2.2) by obtain⟨v,H',hc,p,q,rfl,k,o⟩:=hs;rw[←hr];exact⟨p,q,H',hc,k,o⟩
 obtain⟨H2,e2,k2,n2,q1,q2,q3⟩:=Kx H [.bool neg,u,v] [.bool false,.slice none 0 0,.slice none 0 0] [.int .i64 0];obtain⟨p,q,H3,c3,k3,o3,o4⟩:=Zc5 neg (ha.keep k2) (hb.keep k2) hA hB hB0;rw[←hr]at c3 o3 o4;have n3:=k3.n;have q2':=k3.blk _ (show H.n+1<H2.n by omega);rw[q2]at q2';have q3':=k3.blk _ (show H.n+2<H2.n by omega);rw[q3]at q3';obtain⟨i1,i2,i3⟩:=o3.trio;obtain⟨j1,j2,j3⟩:=o4.trio;obtain⟨S,N,D⟩:=r;simp only at c3 o3 o4⊢;obtain⟨T,hT⟩: ∃T,T=sg (!S) N:=⟨_,rfl⟩;rw[←hT];obtain⟨H4,st4,n4,q4,b4,ka4⟩:=Bf (p:= .bool S) (q:=p) (r:=q) q2' rfl i1 j1 rfl i2 j2;obtain⟨H5,st5,n5,q5,b5,ka5⟩:=putB (x:=T) q4;obtain⟨H6,st6,n6,q6,b6,ka6⟩:=Bf (p:= .bool T) (q:=p) (r:=q) q5 rfl i1 j1 rfl i2 j2;have q3'':H6.blk (H.n+2)= .rw 1 [.int .i64 0]:=by rw[b6 _ (by omega),b5 _ (by omega),b4 _ (by omega)];exact q3'
 obtain⟨H7,st7,n7,q7,b7,ka7⟩:=putE (e:=0) q3'';have q6':H7.blk (H.n+1)= .rw 1 [.bool T,p,q]:=by rw[b7 _ (by omega)];exact q6
 have k07:Keep H H7:=ka7 H (ka6 H (ka5 H (ka4 H (k2.trans k3) (by omega)) (by omega)) (by omega)) (by omega);have l3:=o3.sl.len Zs;obtain⟨m,hm⟩: ∃m,m=(ds B64 N).length:=⟨_,rfl⟩;rw[←hm]at l3;have hmN:(0<m)↔0<N:=by rw[hm];exact Ko Ym
 have o5:=((((o3.off (b:=H.n+1) (by omega) n4 b4).off (b:=H.n+1) (by omega) n5 b5).off (b:=H.n+1) (by omega) n6 b6).off (b:=H.n+2) (by omega) n7 b7).mono (show H.n≤H2.n by omega) (.refl _);have o6:=((((o4.off (b:=H.n+1) (by omega) n4 b4).off (b:=H.n+1) (by omega) n5 b5).off (b:=H.n+1) (by omega) n6 b6).off (b:=H.n+2) (by omega) n7 b7).mono (show H.n≤H2.n by omega) (.refl _);refine Uz 21 (by decide) (by decide) Tryz.func108 rfl rfl rfl ?_;intro b1 hb1;apply Za;simp[Value.cells,Vu,zErr,Qz,e2];refine⟨_,_,⟨rfl,rfl⟩,?_⟩;subst hb1;apply Zb;intro b1 hb1;apply Za;simp[Xz q1,c3,st4];subst hb1;cases S with
  |true=>
   have:T=false:=by rw[hT];rfl
   subst this;apply Zb;intro b1 hb1;apply Za;simp[Bc,Kz,Zg0 q4,st5];subst hb1;apply Zb;intro b1 hb1;apply Za;simp[Xz q5,st6,st7];subst hb1;apply Zi;simp[Ge];refine neg1_cwd ⟨⟨_,rfl⟩,i3,j3⟩ q6' q7 (by omega) (by omega) (by omega) fun H8 hS=>?_;have r4:H8.blk (H.n+1)= .rw 1 [.bool false,p,q]:=by rw[hS.2.1 _ (by omega)];exact q6'
   have r5:H8.blk (H.n+2)= .rw 1 [.int .i64 0]:=by rw[hS.2.1 _ (by omega)];exact q7
   simp[Xz r4,Cb r5];exact⟨_,_,⟨rfl,rfl⟩,hS.keep k07 (by omega),hS.own o5,hS.own o6⟩
  |false=>
   have hg:Zd .gtr .i64 (m:Int) 0=some (.bool T):=by rw[gtr0,hT];unfold sg;rw[Bool.not_false,Bool.true_and,decide_eq_decide.mpr hmN]
   apply Zb;intro b1 hb1;apply Za;simp[Bc,Kz,Eo,Zg0 q4,Ky q4,l3,hg,st5];subst hb1;apply Zb;intro b1 hb1;apply Za;simp[Xz q5,st6,st7];subst hb1;apply Zi;simp[Ge];refine neg1_cwd ⟨⟨_,rfl⟩,i3,j3⟩ q6' q7 (by omega) (by omega) (by omega) fun H8 hS=>?_;have r4:H8.blk (H.n+1)= .rw 1 [.bool T,p,q]:=by rw[hS.2.1 _ (by omega)];exact q6'
   have r5:H8.blk (H.n+2)= .rw 1 [.int .i64 0]:=by rw[hS.2.1 _ (by omega)];exact q7
   simp[Xz r4,Cb r5];exact⟨_,_,⟨rfl,rfl⟩,hS.keep k07 (by omega),hS.own o5,hS.own o6⟩
end
end
theorem cmpN_le1(a b:Nat):Jo a b= -1∨Jo a b=0∨Jo a b=1:=by
 unfold Jo;split;·exact .inl rfl
 ·split;·exact .inr (.inr rfl)
  ·exact .inr (.inl rfl)
theorem Do{a b:Nat}(h:a<b):Jo a b= -1:=by unfold Jo;rw[if_pos h]
theorem Dm{a b:Nat}(h:b<a):Jo a b=1:=by unfold Jo;rw[if_neg (by omega),if_pos h]
theorem Zf4(a:Nat):Jo a a=0:=by unfold Jo;rw[if_neg (by omega),if_neg (by omega)]
theorem cmpN_swap(a b:Nat):Jo a b= -Jo b a:=by
 rcases Nat.lt_trichotomy a b with h|h|h;·rw[Do h,Dm h]
 ·subst h;rw[Zf4];rfl
 ·rw[Dm h,Do h];rfl
theorem cmpN_add(a b c:Nat):Jo (a+c) (b+c)=Jo a b:=by
 rcases Nat.lt_trichotomy a b with h|h|h;·rw[Do h,Do (by omega)]
 ·subst h;rw[Zf4,Zf4]
 ·rw[Dm h,Dm (by omega)]
theorem cmp_parts{A B C D:Nat}(hB:0<B)(hD:0<D)(h:A/B<C/D):A*D<C*B:=by
 have h1:A<(A/B+1)*B:=by have:=Nat.div_add_mod A B;have:=Nat.mod_lt A hB;rw[Nat.add_mul,Nat.one_mul,Nat.mul_comm];omega
 have h2:C/D*D≤C:=Nat.div_mul_le_self C D;have h3:(A/B+1)*B≤C/D*B:=Nat.mul_le_mul_right _ h;have h4:A<C/D*B:=Nat.lt_of_lt_of_le h1 h3;have h5:A*D<C/D*B*D:=Nat.mul_lt_mul_of_pos_right h4 hD;have h6:C/D*B*D=C/D*D*B:=by rw[Nat.mul_right_comm]
 have h7:C/D*D*B≤C*B:=Nat.mul_le_mul_right _ h2;omega
theorem cmp_step{A B C D:Nat}(hB:0<B)(hD:0<D):Jo (A*D) (C*B)=if A/B=C/D then Jo (A%B*D) (C%D*B)else Jo (A/B) (C/D):=by
 split
 ·rename_i h;have h1:A*D=A%B*D+A/B*(B*D):=by
   conv=>lhs;rw[←Nat.div_add_mod A B]
   rw[Nat.add_mul,Nat.add_comm,Nat.mul_comm B (A/B),Nat.mul_assoc]
  have h2:C*B=C%D*B+A/B*(B*D):=by
   conv=>lhs;rw[←Nat.div_add_mod C D]
   rw[h,Nat.add_mul,Nat.add_comm,Nat.mul_comm D (C/D),Nat.mul_assoc,Nat.mul_comm D B]
  rw[h1,h2,cmpN_add]
 ·rename_i h;rcases Nat.lt_or_ge (A/B) (C/D)with h1|h1;·rw[Do h1,Do (cmp_parts hB hD h1)]
  ·have h1:C/D<A/B:=by omega
   rw[Dm h1,Dm (cmp_parts hD hB h1)]
section
attribute [-simp] Int.natCast_add Int.natCast_mul Int.natCast_ediv Int.natCast_emod Int.natCast_pow
attribute [local simp] strip Yj LW' LR gW Yo Xi Ye Xj Yt Xh Zv Zw Zn Yv Xd Yp Xo Zz Yu Zm Zj Xm Xn Jl Yi Xe opd Qi Ys plain Yn Tr.get_set Qg Zu Xv Yg sameKind undef Zx Yw Xc Zs Yf parts unV DW Xp Yc LX Yb
section
variable {H : AH} {u v va vb : Value} {xs ys : List Nat} {A B : Nat}
theorem Zs7(ha:Sl H u (ds B64 A))(hb:Sl H v (ds B64 B))(hA:Zg A≤67108864)(hB:Zg B≤67108864)(hB0:0<B): ∃p q H',Zo Tryz.prog Zl 161 [u,v] H=some (.tuple #[p,q],H')∧Keep H H'∧Own H.n H' p (ds B64 (A/B))∧Own H.n H' q (ds B64 (A%B)):=by
 suffices hs:CW Tryz.prog Zl 161 [u,v] H fun w H'=> ∃p q,w= .tuple #[p,q]∧Keep H H'∧Own H.n H' p (ds B64 (A/B))∧Own H.n H' q (ds B64 (A%B)) by obtain⟨v,H',hc,p,q,rfl,k,o⟩:=hs;exact⟨p,q,H',hc,k,o⟩
 obtain⟨w,H3,c3,k3,hm⟩:=both_spec ha hb (Xg Ym A) (Xg Ym B) (Zq hA) (Zq hB);rw[Xy Ym,Xy Ym]at hm;have h1:=Yd (Nat.div_le_self A B);have h2:=Yd (Nat.mod_le A B);rcases hm with⟨h,_⟩|⟨_,h,_⟩|⟨_,_,_,p,q,rfl,o1,o2,_⟩;·omega
 ·omega
 refine Zf 23 (by decide) (by decide) Tryz.func161 rfl rfl ?_;apply Zb;intro b1 hb1;apply Za;simp;subst hb1;apply Zb;intro b1 hb1;apply Za;simp[c3];subst hb1;apply Zb;intro b1 hb1;apply Zb;intro b2 hb2;apply Za;simp[Ca];subst hb2;refine Zc (t:=false) (by simp) ?_;apply Zh;subst hb1;apply Zb;intro b1 hb1;apply Za;simp;subst hb1;apply Zi;simp;exact⟨_,_,⟨rfl,rfl⟩,k3,o1,o2⟩
end
end
def sI(b:Bool):Int:=if b then-1 else 1
theorem mulS(b:Bool){c:Int}(hc:c= -1∨c=0∨c=1):Zd .mul .i64 (sI b) c=some (.int .i64 (sI b*c)):=by rcases hc with rfl|rfl|rfl<;>cases b<;>rfl
theorem negS(b:Bool):IntKind.i64.wrap (0-sI b)=sI (!b):=by cases b<;>rfl
theorem sI_not(b:Bool):sI (!b)= -sI b:=by cases b<;>rfl
theorem negS'(b:Bool):IntKind.i64.wrap (-sI b)=sI (!b):=by cases b<;>rfl
section
attribute [-simp] Int.natCast_add Int.natCast_mul Int.natCast_ediv Int.natCast_emod Int.natCast_pow
attribute [local simp] strip Yj LW' LR gW Yo Xi Ye Xj Yt Xh Zv Zw Zn Yv Xd Yp Xo Zz Yu Zm Zj Xm Xn Jl Yi Xe opd Qi Ys plain Yn Tr.get_set Qg Zu Xv Yg sameKind undef Zx Yw Xc Zs Yf parts unV DW Xp Yc LX Yb
section
variable {H : AH} {u v va vb : Value} {xs ys : List Nat}
theorem ratcmp_call{A0 B0 C0 D0:Nat}{v0 v1 v2 v3:Value}(h0:Sl H v0 (ds B64 A0))(h1:Sl H v1 (ds B64 B0))(h2:Sl H v2 (ds B64 C0))(h3:Sl H v3 (ds B64 D0))(lA:Zg A0≤67108864)(lB:Zg B0≤67108864)(lC:Zg C0≤67108864)(lD:Zg D0≤67108864)(hB:0<B0)(hD:0<D0): ∃H',Zo Tryz.prog Zl 122 [v0,v1,v2,v3] H=some (.int .i64 (Jo (A0*D0) (C0*B0)),H')∧Keep H H':=by
 obtain⟨R,hR⟩: ∃R,R=Jo (A0*D0) (C0*B0):=⟨_,rfl⟩;suffices h:CW Tryz.prog Zl 122 [v0,v1,v2,v3] H fun v H'=>v= .int .i64 R∧Keep H H' by obtain⟨v,H',hc,rfl,k⟩:=h;rw[←hR];exact⟨H',hc,k⟩
 refine Zf 61 (by decide) (by decide) Tryz.func122 rfl rfl ?_;apply Zb;intro b1 hb1;apply Za;simp;subst hb1;apply Zb;intro b1 hb1;apply Za;simp;subst hb1;apply Zp;refine Xt (fun n s'=>s'.k=61∧Keep H s'.H∧ ∃(A B C D:Nat) (g:Bool) (a b c d:Value),B+D=n∧0<B∧0<D∧Zg A≤67108864∧Zg B≤67108864∧Zg C≤67108864∧Zg D≤67108864∧R=sI g*Jo (A*D) (C*B)∧Sl s'.H a (ds B64 A)∧Sl s'.H b (ds B64 B)∧Sl s'.H c (ds B64 C)∧Sl s'.H d (ds B64 D)∧s'.tm.get 0=some a∧s'.tm.get 1=some b∧s'.tm.get 2=some c∧s'.tm.get 3=some d∧s'.tm.get 9=some (.int .i64 (sI g))) ?_ (B0+D0) _ ⟨rfl,.refl H,A0,B0,C0,D0,false,v0,v1,v2,v3,rfl,hB,hD,lA,lB,lC,lD,by rw[hR];simp[sI],h0,h1,h2,h3,by simp,by simp,by simp,by simp,by simp[sI]⟩;rintro n ⟨k,tm,H1⟩ ⟨hk,kH,A,B,C,D,g,a,b,c,d,hn,hB,hD,lA,lB,lC,lD,hRR,ha,hb,hc,hd,t0,t1,t2,t3,t9⟩ Q' hQ';simp only at hk kH ha hb hc hd t0 t1 t2 t3 t9;subst hk;obtain⟨p,x,H2,c2,k2,op,ox⟩:=Zs7 ha hb lA lB hB;obtain⟨q,y,H3,c3,k3,oq,oy⟩:=Zs7 (hc.keep k2) (hd.keep k2) lC lD hD;have op':=op.sl.keep k3;have ox':=ox.sl.keep k3;have hstep:=cmp_step (A:=A) (C:=C) hB hD;have lx:A%B<B:=Nat.mod_lt _ hB;have ly:C%D<D:=Nat.mod_lt _ hD;have bP:=Nat.le_trans (Yd (Nat.div_le_self A B)) lA;have bQ:=Nat.le_trans (Yd (Nat.div_le_self C D)) lC;have bX:=Nat.le_trans (Yd (Nat.le_of_lt lx)) lB;have bY:=Nat.le_trans (Yd (Nat.le_of_lt ly)) lD;obtain⟨vc,Hc,cc,ec,ec'⟩:=Ea op' oq.sl (Xg Ym _) (Xg Ym _) (Nat.le_trans (Zq bP) (by decide)) (Nat.le_trans (Zq bQ) (by decide));rw[Xy Ym,Xy Ym]at ec';rw[ec,ec']at cc;obtain⟨P,hP⟩: ∃P,P=A/B:=⟨_,rfl⟩;obtain⟨X,hX⟩: ∃X,X=A%B:=⟨_,rfl⟩;obtain⟨Q,hQ⟩: ∃Q,Q=C/D:=⟨_,rfl⟩;obtain⟨Y,hY⟩: ∃Y,Y=C%D:=⟨_,rfl⟩;rw[←hP,←hQ,←hX,←hY]at hstep;rw[←hP,←hQ]at cc;rw[←hX]at ox' lx bX;rw[←hY]at oy ly bY;have hcm:=cmpN_le1 P Q;obtain⟨cm,hcmE⟩: ∃cm,cm=Jo P Q:=⟨_,rfl⟩;rw[←hcmE]at cc hcm hstep;have gn:Zd .neq .i64 cm 0=some (.bool (decide (cm≠0))):=Bh;have k03:=kH.trans (k2.trans k3);apply Zb;intro b1 hb1;apply Zp;apply Zb;intro b2 hb2;apply Za;simp[t0,t1,c2];subst hb2;apply Zb;intro b2 hb2;apply Za;simp[t2,t3,c3];subst hb2;apply Zb;intro b2 hb2;apply Zb;intro b3 hb3;apply Za;simp[cc];subst hb3;apply Zb;intro b3 hb3;apply Za;simp[gn];subst hb3;by_cases hz:cm≠0;·have hne:P≠Q:=fun e=>hz (by rw[hcmE,e,Zf4]);rw[if_neg hne]at hstep;rw[hstep]at hRR;refine Zc (t:=true) (by simp[hz]) ?_;apply Zb;intro b3 hb3;apply Za;simp[t9,mulS g hcm];subst hb3;apply Zi;simp[Xb,Yq];apply hQ';simp[Dq,Yq,Xb];exact⟨hRR.symm,k03⟩
 ·have hz0:cm=0:=by omega
  have heq:P=Q:=by
   rcases Nat.lt_trichotomy P Q with h|h|h;·rw[Do h]at hcmE;omega
   ·exact h
   ·rw[Dm h]at hcmE;omega
  rw[if_pos heq]at hstep;rw[hstep]at hRR;refine Zc (t:=false) (by simp[hz0]) ?_;apply Zh;subst hb2;have lx1:=ox'.len Zs;have ly1:=oy.sl.len Zs;obtain⟨m1,hm1⟩: ∃m,m=(ds B64 X).length:=⟨_,rfl⟩;obtain⟨m2,hm2⟩: ∃m,m=(ds B64 Y).length:=⟨_,rfl⟩;rw[←hm1]at lx1;rw[←hm2]at ly1;have z1:m1=0↔X=0:=by rw[hm1];exact Ub Ym
  have z2:m2=0↔Y=0:=by rw[hm2];exact Ub Ym
  have e1:=Vw (k:= .i64) (x:=m1);have e2:=Vw (k:= .i64) (x:=m2);apply Zb;intro b2 hb2;apply Zp;by_cases hx0:m1=0
  ·have hX0:=z1.mp hx0;rw[decide_eq_true hx0]at e1;rw[hX0,Nat.zero_mul]at hRR;by_cases hy0:m2=0;·have hY0:=z2.mp hy0;rw[decide_eq_true hy0]at e2;rw[hY0,Nat.zero_mul,Zf4,Int.mul_zero]at hRR;apply Zb;intro b3 hb3;apply Za;simp[lx1,e1,ly1,e2];subst hb3;refine Zc (t:=true) (by simp) ?_;apply Zb;intro b3 hb3;apply Za;simp;subst hb3;apply Zi;simp[Xb,Yq];apply hQ';simp[Dq,Yq,Xb];exact⟨hRR.symm,k03⟩
   ·have hY0:0<Y:=by have: ¬Y=0:=fun h=>hy0 (z2.mpr h);omega
    rw[decide_eq_false hy0]at e2;rw[Do (Nat.mul_pos hY0 hB)]at hRR;have hRR:R=sI (!g):=by rw[hRR,sI_not];omega
    apply Zb;intro b3 hb3;apply Za;simp[lx1,e1,ly1,e2];subst hb3;refine Zc (t:=false) (by simp) ?_;apply Zb;intro b3 hb3;apply Za;simp[lx1,e1];subst hb3;refine Zc (t:=true) (by simp) ?_;apply Zb;intro b3 hb3;apply Za;simp[t9,negS,negS'];subst hb3;apply Zi;simp[Xb,Yq];apply hQ';simp[Dq,Yq,Xb];exact⟨hRR.symm,k03⟩
  ·have hX0:0<X:=by have: ¬X=0:=fun h=>hx0 (z1.mpr h);omega
   rw[decide_eq_false hx0]at e1;by_cases hy0:m2=0;·have hY0:=z2.mp hy0;rw[decide_eq_true hy0]at e2;rw[hY0,Nat.zero_mul,Dm (Nat.mul_pos hX0 hD),Int.mul_one]at hRR;apply Zb;intro b3 hb3;apply Za;simp[lx1,e1];subst hb3;refine Zc (t:=false) (by simp) ?_;apply Zb;intro b3 hb3;apply Za;simp[lx1,e1];subst hb3;refine Zc (t:=false) (by simp) ?_;apply Zb;intro b3 hb3;apply Za;simp[ly1,e2];subst hb3;refine Zc (t:=true) (by simp) ?_;apply Zb;intro b3 hb3;apply Za;simp[t9];subst hb3;apply Zi;simp[Xb,Yq];apply hQ';simp[Dq,Yq,Xb];exact⟨hRR.symm,k03⟩
   ·have hY0:0<Y:=by have: ¬Y=0:=fun h=>hy0 (z2.mpr h);omega
    rw[decide_eq_false hy0]at e2;have hRR:R=sI (!g)*Jo (B*Y) (D*X):=by rw[hRR,sI_not,cmpN_swap,Nat.mul_comm Y B,Nat.mul_comm X D,Int.neg_mul,Int.mul_neg]
    apply Zb;intro b3 hb3;apply Za;simp[lx1,e1];subst hb3;refine Zc (t:=false) (by simp) ?_;apply Zb;intro b3 hb3;apply Za;simp[lx1,e1];subst hb3;refine Zc (t:=false) (by simp) ?_;apply Zb;intro b3 hb3;apply Za;simp[ly1,e2];subst hb3;refine Zc (t:=false) (by simp) ?_;apply Zh;subst hb2;apply Za;simp[t1,t3];subst hb1;apply Za;simp[t9,negS,negS'];apply hQ';exact⟨X+Y,by omega,rfl,k03,B,X,D,Y,!g,b,x,d,y,rfl,hX0,hY0,lB,bX,lD,bY,hRR,(hb.keep k2).keep k3,ox',(hd.keep k2).keep k3,oy.sl,by simp,by simp,by simp,by simp,by simp⟩
end
end
def Kc(base:Nat)(l:List Nat)(ms:List (Nat×Nat×Nat)):Prop:= ∀x∈ms,x.1∈l∧base≤x.2.1
theorem Kc.nil(base:Nat):Kc base [] []:=fun x hx=>by cases hx
theorem Kc.cons{base i a b:Nat}{l:List Nat}{ms:List (Nat×Nat×Nat)}(h:Kc base l ms)(ha:base≤a):Kc base (i::l) (cond (Nat.blt a b) ((i,a,b)::ms) ms):=fun x hx=>by cases hb:Nat.blt a b with
 |false=>rw[hb,cond_false]at hx;exact⟨List.mem_cons_of_mem _ (h x hx).1,(h x hx).2⟩
 |true=>
  rw[hb,cond_true]at hx;rcases List.mem_cons.mp hx with e|e;·rw[e];exact⟨List.mem_cons_self ..,ha⟩
  ·exact⟨List.mem_cons_of_mem _ (h x e).1,(h x e).2⟩
theorem Kc.hid{base:Nat}{l:List Nat}{ms:List (Nat×Nat×Nat)}(h:Kc base l ms){bits:Nat}(hb:l.all (fun i=>bits.testBit i)=true):hidden bits ms=[]:=Yy fun x hx=>List.all_eq_true.mp hb _ (h x hx).1
theorem Kc.ge{base:Nat}{l:List Nat}{ms:List (Nat×Nat×Nat)}(h:Kc base l ms): ∀x∈ms,base≤x.2.1:=fun x hx=>(h x hx).2
def Et(s:Bool)(A B:Nat)(t:Bool)(C D:Nat):Int:=if Jj s A≠Jj t C then(if Jj s A<Jj t C then-1 else 1)else Jj s A*Jo (A*D) (C*B)
theorem lssZZ{x y:Int} :Zd .lss .i64 x y=some (.bool (decide (x<y))):=rfl
theorem Gp(s:Bool)(A:Nat):Jj s A= -1∨Jj s A=0∨Jj s A=1:=by
 unfold Jj;split;·exact .inr (.inl rfl)
 ·split;·exact .inl rfl
  ·exact .inr (.inr rfl)
theorem mulZ3{a c:Int}(ha:a= -1∨a=0∨a=1)(hc:c= -1∨c=0∨c=1):Zd .mul .i64 a c=some (.int .i64 (a*c)):=by rcases ha with rfl|rfl|rfl<;>rcases hc with rfl|rfl|rfl<;>rfl
section
attribute [-simp] Int.natCast_add Int.natCast_mul Int.natCast_ediv Int.natCast_emod Int.natCast_pow
attribute [local simp] strip Yj LW' LR gW Yo Xi Ye Xj Yt Xh Zv Zw Zn Yv Xd Yp Xo Zz Yu Zm Zj Xm Xn Jl Yi Xe opd Qi Ys plain Yn Tr.get_set Qg Zu Xv Yg sameKind undef Zx Yw Xc Zs Yf parts unV DW Xp Yc LX Yb
attribute [local simp] Qq Ji
section
variable {H : AH} {u v w z : Value}
theorem Ei(s t:Bool){A B C D:Nat}(ha:Sl H u (ds B64 A))(hb:Sl H v (ds B64 B))(hc:Sl H w (ds B64 C))(hd:Sl H z (ds B64 D))(lA:Zg A≤67108864)(lB:Zg B≤67108864)(lC:Zg C≤67108864)(lD:Zg D≤67108864)(hB:0<B)(hD:0<D): ∃H',Zo Tryz.prog Zl 80 [.agg #[.bool s,u,v],.agg #[.bool t,w,z]] H=some (.tuple #[.int .i64 (Et s A B t C D),.int .i64 0],H')∧Keep H H':=by
 obtain⟨R,hR⟩: ∃R,R=Et s A B t C D:=⟨_,rfl⟩;suffices h:CW Tryz.prog Zl 80 [.agg #[.bool s,u,v],.agg #[.bool t,w,z]] H fun r H'=>r= .tuple #[.int .i64 R,.int .i64 0]∧Keep H H' by obtain⟨r,H',hc,rfl,k⟩:=h;rw[←hR];exact⟨H',hc,k⟩
 unfold Et at hR;obtain⟨H2,e2,k2,n2,q0,q1,q2,q3⟩:=boxes4 H [.bool s,u,v] [.bool t,w,z] [.int .i64 0] [.int .i64 0];have k3:=Keep.new H2 3 [.bool s,u,v,.bool t,w,z];obtain⟨H4,c4,k4⟩:=Fz (looks2 (ha.trio hb (s:=s)) ((hb.keep k2).keep k3) lB hB (hc.trio hd (s:=t)) ((hd.keep k2).keep k3) lD hD) (by decide);obtain⟨H3,hH3⟩: ∃H3,H3=H2.new 3 [.bool s,u,v,.bool t,w,z]:=⟨_,rfl⟩;rw[←hH3]at k3 c4 k4;have k24:=k3.trans k4;have k04:=k2.trans k24;have n4:=k24.n;have r0:H4.blk H.n= .rw 1 [.bool s,u,v]:=by rw[k24.blk _ (by omega)];exact q0
 have r1:H4.blk (H.n+1)= .rw 1 [.bool t,w,z]:=by rw[k24.blk _ (by omega)];exact q1
 obtain⟨E1,c5,kE1⟩:=Zl9 s ((ha.keep k04).top) hb.shape lA;obtain⟨G1,hG1⟩: ∃G1,G1=grown H4 E1:=⟨_,rfl⟩;have kG1:Keep H4 G1:=by rw[hG1];exact Zk (.refl H4) kE1
 have nE1:H4.n≤E1.n:=kE1.n;obtain⟨E2,c6,kE2⟩:=Zl9 t ((hc.keep (k04.trans kG1)).top) hd.shape lC;obtain⟨G2,hG2⟩: ∃G2,G2=grown G1 E2:=⟨_,rfl⟩;have kG2:Keep G1 G2:=by rw[hG2];exact Zk (.refl G1) kE2
 have nE2:G1.n≤E2.n:=kE2.n;have kH:=kG1.trans kG2;have ng:=kH.n;have sx:=Gp s A;obtain⟨x,hx⟩: ∃x,x=Jj s A:=⟨_,rfl⟩;obtain⟨y,hy⟩: ∃y,y=Jj t C:=⟨_,rfl⟩;rw[←hx]at c5 hR sx;rw[←hy]at c6 hR;have l2: ∀bits ms,(∀x∈ms,H4.n≤x.2.1)→Yk Tryz.prog (vis G1 bits ms) 34 (.pointer (some ⟨H.n+1,0,none⟩))=some (.agg #[.bool t,w,z]):=fun bits ms h=>Xz (by rw[(Qe kG1 h).blk _ (by omega)];exact r1);have k0G:=k04.trans kH;have f0:G2.blk H.n= .rw 1 [.bool s,u,v]:=by rw[kH.blk _ (by omega)];exact r0
 have f1:G2.blk (H.n+1)= .rw 1 [.bool t,w,z]:=by rw[kH.blk _ (by omega)];exact r1
 have f2:G2.blk (H.n+2)= .rw 1 [.int .i64 0]:=by rw[(k24.trans kH).blk _ (by omega)];exact q2
 have f3:G2.blk (H.n+3)= .rw 1 [.int .i64 0]:=by rw[(k24.trans kH).blk _ (by omega)];exact q3
 have gn:Zd .neq .i64 x y=some (.bool (decide (x≠y))):=Bh;have gl:Zd .lss .i64 x y=some (.bool (decide (x<y))):=lssZZ;have early: ∀a:Int,∃F1 F2,Xk Tryz.prog G2 3 (.pointer (some ⟨H.n+2,0,none⟩)) (.int .i64 a)=some F1∧Xk Tryz.prog F1 23 (.pointer (some ⟨H.n+3,0,none⟩)) (.int .i64 0)=some F2∧F2.blk (H.n+2)= .rw 1 [.int .i64 a]∧F2.blk (H.n+3)= .rw 1 [.int .i64 0]∧Keep H F2∧F2.n=G2.n:=fun a=>by
  obtain⟨F1,st1,m1,p1,b1,ka1⟩:=putI (e:=a) f2;have f3':F1.blk (H.n+3)= .rw 1 [.int .i64 0]:=by rw[b1 _ (by omega)];exact f3
  obtain⟨F2,st2,m2,p2,b2,ka2⟩:=putE (e:=0) f3';exact⟨F1,F2,st1,st2,by rw[b2 _ (by omega)];exact p1,p2,ka2 H (ka1 H k0G (by omega)) (by omega),by omega⟩
 refine Uz 40 (by decide) (by decide) Tryz.func80 rfl rfl rfl ?_;intro b1 hb1;apply Za;simp[Value.cells,zInt,zErr,Qz,e2];refine⟨_,_,⟨rfl,rfl⟩,?_⟩;subst hb1;apply Zb;intro b1 hb1;apply Za;simp[Xz q0,Xz q1,Zn0,←hH3,c4];subst hb1;apply Zb;intro b1 hb1;apply Qd (by kernel_rfl);simp;refine Zr (v:= .agg #[.bool s,u,v]) rfl rfl rfl (by rw[Ze rfl];simp[Xz (H:=H4.top) r0]) ?_;simp;refine Zy (v:= .int .i64 x) (H2:=E1) rfl rfl rfl (by rw[Ze rfl];simp[c5]) nE1 (Ya kE1) ?_;rw[←hG1];have ms1:=(Kc.nil H4.n).cons (i:=1) (a:=H4.n) (b:=E1.n) (Nat.le_refl _);generalize cond (Nat.blt H4.n E1.n) _ _=ms at ms1;simp;refine Zr (v:= .agg #[.bool t,w,z]) rfl rfl rfl (by simp[l2 _ ms ms1.ge]) ?_;simp;refine Zy (v:= .int .i64 y) (H2:=E2) rfl rfl rfl ?_ nE2 (Ya kE2) ?_;·rw[Ze (ms1.hid (by kernel_rfl))];simp[c6]
 rw[←hG2];simp;subst hb1;clear ms1;apply Zb;intro b1 hb1;apply Zb;intro b2 hb2;apply Za;simp[gn];subst hb2;by_cases hxy:x≠y
 ·rw[if_pos hxy]at hR;refine Zc (t:=true) (by simp[hxy]) ?_;apply Zb;intro b2 hb2;apply Zb;intro b3 hb3;apply Za;simp[gl];subst hb3;by_cases hlt:x<y
  ·rw[if_pos hlt]at hR;subst hR;obtain⟨F1,F2,st1,st2,p1,p2,kF,nF⟩:=early (-1);refine Zc (t:=true) (by simp[hlt]) ?_;apply Zb;intro b3 hb3;apply Za;simp[st1,st2];subst hb3;apply Zi;simp[Xb,Ge];refine Za0 p1 p2 (by omega) (by omega) (by omega) fun H8 hS=>?_;have z4:H8.blk (H.n+2)= .rw 1 [.int .i64 (-1)]:=by rw[hS.2.1 _ (by omega)];exact p1
   have z5:H8.blk (H.n+3)= .rw 1 [.int .i64 0]:=by rw[hS.2.1 _ (by omega)];exact p2
   simp[loadI z4,Cb z5];exact hS.keep kF (by omega)
  ·rw[if_neg hlt]at hR;subst hR;obtain⟨F1,F2,st1,st2,p1,p2,kF,nF⟩:=early 1;refine Zc (t:=false) (by simp[hlt]) ?_;apply Zh;subst hb2;apply Zb;intro b2 hb2;apply Za;simp[st1,st2];subst hb2;apply Zi;simp[Xb,Ge];refine Za0 p1 p2 (by omega) (by omega) (by omega) fun H8 hS=>?_;have z4:H8.blk (H.n+2)= .rw 1 [.int .i64 1]:=by rw[hS.2.1 _ (by omega)];exact p1
   have z5:H8.blk (H.n+3)= .rw 1 [.int .i64 0]:=by rw[hS.2.1 _ (by omega)];exact p2
   simp[loadI z4,Cb z5];exact hS.keep kF (by omega)
 ·have hxy0:x=y:=Decidable.not_not.mp hxy;rw[if_neg hxy]at hR;refine Zc (t:=false) (by simp[hxy0]) ?_;apply Zh;subst hb1;obtain⟨g1,I1,d1,kI1,oI1⟩:=Fx ((ha.keep k0G).top) (Xg Ym A) (Nat.le_trans (Zq lA) (by decide));obtain⟨J1,hJ1⟩: ∃J,J=grown G2 I1:=⟨_,rfl⟩;have kJ1:Keep G2 J1:=by rw[hJ1];exact Zk (.refl _) kI1
  obtain⟨g2,I2,d2,kI2,oI2⟩:=Fx ((hb.keep (k0G.trans kJ1)).top) (Xg Ym B) (Nat.le_trans (Zq lB) (by decide));obtain⟨J2,hJ2⟩: ∃J,J=grown J1 I2:=⟨_,rfl⟩;have kJ2:Keep J1 J2:=by rw[hJ2];exact Zk (.refl _) kI2
  have kk2:=kJ1.trans kJ2;obtain⟨g3,I3,d3,kI3,oI3⟩:=Fx ((hc.keep (k0G.trans kk2)).top) (Xg Ym C) (Nat.le_trans (Zq lC) (by decide));obtain⟨J3,hJ3⟩: ∃J,J=grown J2 I3:=⟨_,rfl⟩;have kJ3:Keep J2 J3:=by rw[hJ3];exact Zk (.refl _) kI3
  have kk3:=kk2.trans kJ3;obtain⟨g4,I4,d4,kI4,oI4⟩:=Fx ((hd.keep (k0G.trans kk3)).top) (Xg Ym D) (Nat.le_trans (Zq lD) (by decide));obtain⟨J4,hJ4⟩: ∃J,J=grown J3 I4:=⟨_,rfl⟩;have kJ4:Keep J3 J4:=by rw[hJ4];exact Zk (.refl _) kI4
  have kk4:=kk3.trans kJ4;rw[Xy Ym]at oI1 oI2 oI3 oI4;have s1:Sl J4 g1 (ds B64 A):=((((by rw[hJ1];exact oI1.same (Zt kI1):Own G2.top.n J1 g1 (ds B64 A)).sl.keep kJ2).keep kJ3).keep kJ4);have s2:Sl J4 g2 (ds B64 B):=(((by rw[hJ2];exact oI2.same (Zt kI2):Own J1.top.n J2 g2 (ds B64 B)).sl.keep kJ3).keep kJ4);have s3:Sl J4 g3 (ds B64 C):=((by rw[hJ3];exact oI3.same (Zt kI3):Own J2.top.n J3 g3 (ds B64 C)).sl.keep kJ4);have s4:Sl J4 g4 (ds B64 D):=(by rw[hJ4];exact oI4.same (Zt kI4):Own J3.top.n J4 g4 (ds B64 D)).sl;obtain⟨I5,d5,kI5⟩:=ratcmp_call s1.top s2.top s3.top s4.top lA lB lC lD hB hD;obtain⟨J5,hJ5⟩: ∃J,J=grown J4 I5:=⟨_,rfl⟩;have kJ5:Keep J4 J5:=by rw[hJ5];exact Zk (.refl _) kI5
  have kk5:=kk4.trans kJ5;have m1:G2.n≤I1.n:=kI1.n;have m2:J1.n≤I2.n:=kI2.n;have m3:J2.n≤I3.n:=kI3.n;have m4:J3.n≤I4.n:=kI4.n;have m5:J4.n≤I5.n:=kI5.n;have nk1:=kJ1.n;have nk2:=kk2.n;have nk3:=kk3.n;have nk4:=kk4.n;have nk5:=kk5.n;obtain⟨cm,hcm⟩: ∃cm,cm=Jo (A*D) (C*B):=⟨_,rfl⟩;rw[←hcm]at d5 hR;have gm:=mulZ3 sx (show cm= -1∨cm=0∨cm=1 by rw[hcm];exact cmpN_le1 _ _);rw[←hR]at gm;have vk: ∀{J:AH}(k:Keep G2 J){bits ms},(∀x∈ms,G2.n≤x.2.1)→ ∀b,b<G2.n→(vis J bits ms).blk b=G2.blk b:=fun k _ _ h b hb=>(Qe k h).blk b hb;have w2:J5.blk (H.n+2)= .rw 1 [.int .i64 0]:=by rw[kk5.blk _ (by omega)];exact f2
  have w3:J5.blk (H.n+3)= .rw 1 [.int .i64 0]:=by rw[kk5.blk _ (by omega)];exact f3
  obtain⟨S1,st1,sn1,slw1,fn1,fb1,fo1,fk1⟩:=Fg (v:= .int .i64 R) (ws:=[.int .i64 R]) sInt w2 (by omega) rfl rfl rfl rfl;obtain⟨F1,hF1⟩: ∃F1,F1=low J5 S1:=⟨_,rfl⟩;rw[←hF1]at fn1 fb1 fo1 fk1;have w3':F1.blk (H.n+3)= .rw 1 [.int .i64 0]:=by rw[fo1 _ (by omega)];exact w3
  obtain⟨S2,st2,sn2,slw2,fn2,fb2,fo2,fk2⟩:=Fg (v:= .int .i64 0) (ws:=[.int .i64 0]) sErr w3' (by omega) rfl rfl rfl rfl;obtain⟨F,hF⟩: ∃F,F=low F1 S2:=⟨_,rfl⟩;rw[←hF]at fn2 fb2 fo2 fk2;have p1:F.blk (H.n+2)= .rw 1 [.int .i64 R]:=by rw[fo2 _ (by omega)];exact fb1
  have kF:Keep H F:=fk2 H (fk1 H (k0G.trans kk5) (by omega)) (by omega);apply Zb;intro b1 hb1;apply Qd (by kernel_rfl);simp[Bc,Eo];refine Zr (v:=u) rfl rfl rfl (by rw[Ze rfl];simp[Ky (H:=G2.top) f0]) ?_;simp;refine Zy (v:=g1) (H2:=I1) rfl rfl rfl (by rw[Ze rfl];simp[d1]) m1 (Ya kI1) ?_;rw[←hJ1];have ms1:=(Kc.nil G2.n).cons (i:=4) (a:=G2.n) (b:=I1.n) (Nat.le_refl _);generalize cond (Nat.blt G2.n I1.n) _ _=ms at ms1;simp[faQ1];refine Zr (v:=v) rfl rfl rfl (by simp[Gd ((vk kJ1 ms1.ge _ (by omega)).trans f0)]) ?_;simp;refine Zy (v:=g2) (H2:=I2) rfl rfl rfl (by rw[Ze (ms1.hid (by kernel_rfl))];simp[d2]) m2 (Ya kI2) ?_;rw[←hJ2];have ms2:=ms1.cons (i:=7) (a:=J1.n) (b:=I2.n) (by omega);generalize cond (Nat.blt J1.n I2.n) _ _=ms' at ms2;simp[Bc,Eo];refine Zr (v:=w) rfl rfl rfl (by simp[Ky ((vk kk2 ms2.ge _ (by omega)).trans f1)]) ?_;simp;refine Zy (v:=g3) (H2:=I3) rfl rfl rfl (by rw[Ze (ms2.hid (by kernel_rfl))];simp[d3]) m3 (Ya kI3) ?_;rw[←hJ3];have ms3:=ms2.cons (i:=11) (a:=J2.n) (b:=I3.n) (by omega);generalize cond (Nat.blt J2.n I3.n) _ _=ms'' at ms3;simp[faQ1];refine Zr (v:=z) rfl rfl rfl (by simp[Gd ((vk kk3 ms3.ge _ (by omega)).trans f1)]) ?_;simp;refine Zy (v:=g4) (H2:=I4) rfl rfl rfl (by rw[Ze (ms3.hid (by kernel_rfl))];simp[d4]) m4 (Ya kI4) ?_;rw[←hJ4];have ms4:=ms3.cons (i:=14) (a:=J3.n) (b:=I4.n) (by omega);generalize cond (Nat.blt J3.n I4.n) _ _=ms4' at ms4;simp;refine Zy (v:= .int .i64 cm) (H2:=I5) rfl rfl rfl (by rw[Ze (ms4.hid (by kernel_rfl))];simp[d5]) m5 (Ya kI5) ?_;rw[←hJ5];have ms5:=ms4.cons (i:=15) (a:=J4.n) (b:=I5.n) (by omega);generalize cond (Nat.blt J4.n I5.n) _ _=ms5' at ms5;simp[gm];refine Xf (v:= .tuple #[]) (H2:=S1) rfl rfl (by kernel_rfl) (ms5.hid (by kernel_rfl)) ?_ (by omega) slw1 ?_;·show Yo _ _ _ _ J5.top _=_;simp[st1]
  rw[show({ n:=S1.n,lw:=min J5.lw S1.lw,t:=S1.t } :AH)=F1 from hF1.symm];rw[show Nat.blt J5.n S1.n=false from by rw[sn1];exact Qh _,cond_false];simp;refine Xf (v:= .tuple #[]) (H2:=S2) rfl rfl (by kernel_rfl) (ms5.hid (by kernel_rfl)) ?_ (by omega) slw2 ?_;·show Yo _ _ _ _ F1.top _=_;simp[st2]
  rw[show({ n:=S2.n,lw:=min F1.lw S2.lw,t:=S2.t } :AH)=F from hF.symm];simp;subst hb1;apply Zi;simp[Ge];refine Za0 p1 fb2 (by omega) (by omega) (by omega) fun H8 hS=>?_;have z4:H8.blk (H.n+2)= .rw 1 [.int .i64 R]:=by rw[hS.2.1 _ (by omega)];exact p1
  have z5:H8.blk (H.n+3)= .rw 1 [.int .i64 0]:=by rw[hS.2.1 _ (by omega)];exact fb2
  simp[loadI z4,Cb z5];exact hS.keep kF (by omega)
end
end
theorem aFold:Jq Tryz.prog 57=some true:=by kernel_rfl
theorem Zd1:Jd Tryz.prog 57=some 4:=by kernel_rfl
theorem Jv:Ks Tryz.prog 57=some (.agg #[.int .i64 0,.bool false,.slice none 0 0,.slice none 0 0]):=by kernel_rfl
theorem aKind:Jq Tryz.prog 55=some false:=by kernel_rfl
theorem Bb{H:AH}{b:Nat}{k p q r:Value}(hb:H.blk b= .rw 1 [k,p,q,r]):Yk Tryz.prog H 57 (.pointer (some ⟨b,0,none⟩))=some (.agg #[k,p,q,r]):=by unfold Yk;simp only[aFold,Zd1,AH.read_def,hb];simp[AH.cells_rw' hb,show Nat.ble 4 4=true from rfl]
theorem Bd{H:AH}{b:Nat}{k p q r:Value}(hb:H.blk b= .rw 1 [k,p,q,r]):Yk Tryz.prog H 55 (.pointer (some ⟨b,0,none⟩))=some k:=Yh aKind (AH.cells_rw' hb (by decide)) rfl
theorem loadFQ{H:AH}{b:Nat}{k p q r:Value}(hb:H.blk b= .rw 1 [k,p,q,r]):Yk Tryz.prog H 34 (.pointer (some ⟨b,1,none⟩))=some (.agg #[p,q,r]):=Zl2 (AH.cells_rw' hb (by decide)) rfl rfl
theorem faF0(b:Nat):Xa Tryz.prog 57 (.pointer (some ⟨b,0,none⟩)) 0=some (.pointer (some ⟨b,0,none⟩)):=by kernel_rfl
theorem faF1(b:Nat):Xa Tryz.prog 57 (.pointer (some ⟨b,0,none⟩)) 1=some (.pointer (some ⟨b,1,none⟩)):=by kernel_rfl
theorem putF{H:AH}{b:Nat}{k' p' q' r' p q r:Value}{k:Int}(hb:H.blk b= .rw 1 [k',p',q',r'])(ht:Er p q r): ∃H',Xk Tryz.prog H 57 (.pointer (some ⟨b,0,none⟩)) (.agg #[.int .i64 k,p,q,r])=some H'∧H'.n=H.n∧H'.blk b= .rw 1 [.int .i64 k,p,q,r]∧(∀j,j≠b→H'.blk j=H.blk j)∧KAt b H H':=by obtain⟨⟨s,rfl⟩,⟨a1,l1,c1,rfl⟩,⟨a2,l2,c2,rfl⟩⟩:=ht;exact Aj Zd1 hb rfl rfl rfl rfl
theorem bFold{p q r:Value}{k:Int}(ht:Er p q r):Ui Tryz.prog 57 [(0,.int .i64 k),(1,.agg #[p,q,r])]=some (.agg #[.int .i64 k,p,q,r]):=by obtain⟨⟨s,rfl⟩,⟨a1,l1,c1,rfl⟩,⟨a2,l2,c2,rfl⟩⟩:=ht;rfl
theorem bFold0:Ui Tryz.prog 57 []=some (.agg #[.int .i64 0,.bool false,.slice none 0 0,.slice none 0 0]):=by rfl
section
attribute [-simp] Int.natCast_add Int.natCast_mul Int.natCast_ediv Int.natCast_emod Int.natCast_pow
attribute [local simp] strip Yj LW' LR gW Yo Xi Ye Xj Yt Xh Zv Zw Zn Yv Xd Yp Xo Zz Yu Zm Zj Xm Xn Jl Yi Xe opd Qi Ys plain Yn Tr.get_set Qg Zu Xv Yg sameKind undef Zx Yw Xc Zs Yf parts unV DW Xp Yc LX Yb
section
variable {H : AH} {u v w z : Value}
theorem Vo(H:AH): ∃H',Zo Tryz.prog Zl 152 [] H=some (.agg #[.int .i64 0,.bool false,.slice none 0 0,.slice none 0 0],H')∧Keep H H':=by
 suffices h:CW Tryz.prog Zl 152 [] H fun v H'=>v= .agg #[.int .i64 0,.bool false,.slice none 0 0,.slice none 0 0]∧Keep H H' by obtain⟨v,H',hc,rfl,k⟩:=h;exact⟨H',hc,k⟩
 obtain⟨H2,e2,k2,n2,q1⟩:=Vj H [.int .i64 0,.bool false,.slice none 0 0,.slice none 0 0];obtain⟨H3,st3,n3,q3,b3,ka3⟩:=putF (k:=0) q1 (p:= .bool false) (q:= .slice none 0 0) (r:= .slice none 0 0) ⟨⟨_,rfl⟩,⟨_,_,_,rfl⟩,⟨_,_,_,rfl⟩⟩;have k03:Keep H H3:=ka3 H k2 (by omega);have hld:=Bb q3;refine Zf 2 (by decide) (by decide) Tryz.func152 rfl rfl ?_;apply Zb;intro b1 hb1;apply Za;simp[Value.cells,Jv,e2];subst hb1;apply Zb;intro b1 hb1;apply Za;simp[bFold0,st3];subst hb1;apply Zi;simp[hld];exact k03
theorem Fu{p q r:Value}(ht:Er p q r)(H:AH): ∃H',Zo Tryz.prog Zl 151 [.agg #[p,q,r],.int .i64 0] H=some (.agg #[.int .i64 1,p,q,r],H')∧Keep H H':=by
 suffices h:CW Tryz.prog Zl 151 [.agg #[p,q,r],.int .i64 0] H fun v H'=>v= .agg #[.int .i64 1,p,q,r]∧Keep H H' by obtain⟨v,H',hc,rfl,k⟩:=h;exact⟨H',hc,k⟩
 have ht':=ht;obtain⟨H2,e2,k2,n2,q1,q2⟩:=Qp H [p,q,r] [.int .i64 0,.bool false,.slice none 0 0,.slice none 0 0];obtain⟨H3,st3,n3,q3,b3,ka3⟩:=putF (k:=1) q2 ht;have k03:Keep H H3:=ka3 H k2 (by omega);have hld:=Bb q3;have hbd:=bFold (k:=1) ht;obtain⟨⟨s,rfl⟩,⟨a1,l1,c1,rfl⟩,⟨a2,l2,c2,rfl⟩⟩:=ht';refine Zf 10 (by decide) (by decide) Tryz.func151 rfl rfl ?_;apply Zb;intro b1 hb1;apply Za;simp[Value.cells,Jv,Qz,e2];subst hb1;apply Zb;intro b1 hb1;apply Zb;intro b2 hb2;apply Za;simp[Ca];subst hb2;refine Zc (t:=false) (by simp) ?_;apply Zh;subst hb1;apply Zb;intro b1 hb1;apply Za;simp[Xz q1,hbd,st3];subst hb1;apply Zi;simp[hld];exact k03
end
end
end
end Go.Proofs.YtmkfecoeghokfaaGreatDoor
