/-
  The engine and the walks that the claim's last text leans on, part 4 of 9: Ns, Nt, Nu, Nv, Nw, Nx, Oa, Ob, Oc, Od, Oe, Of, Og, Ta, Tb, Tc, Td.
-/
import Derived.Test.YtmkfecoeghokfaaGreatDoorM3
namespace Go.Proofs.YtmkfecoeghokfaaGreatDoor
open Go Ev
set_option linter.unusedVariables false
set_option linter.unusedSimpArgs false
noncomputable section
set_option maxRecDepth 20000
set_option maxHeartbeats 1000000
def Qi:Value→Option Nat| .slice (some ⟨b,_,none⟩) _ _=>some b|_=>none
def Kl(v w:Value):Prop:= ∀b,Qi v=some b→Qi w≠some b
structure But (b : Option Nat) (H H' : AH) : Prop where
  n : H'.n = H.n
  blk : ∀ j, j < H.n → b ≠ some j → H'.blk j = H.blk j
theorem But.refl(b:Option Nat)(H:AH):But b H H:=⟨rfl,fun _ _ _=>rfl⟩
theorem But.trans{b:Option Nat}{H H1 H2:AH}(x:But b H H1)(y:But b H1 H2):But b H H2:=⟨y.n.trans x.n,fun j hn hj=>(y.blk j (by rw[x.n];exact hn) hj).trans (x.blk j hn hj)⟩
theorem At.but{b:Option Nat}{H H':AH}{c o:Nat}{xs:List Nat}(h:At H c o xs)(k:But b H H')(hb:b≠some c):At H' c o xs:=by obtain⟨h1,cs,h2,h3,h4⟩:=h;have e:=k.blk c h1 hb;exact⟨by rw[k.n];exact h1,cs,by unfold AH.cells;rw[e];exact h2,by unfold AH.size;rw[e];exact h3,h4⟩
theorem Sl.but{b:Option Nat}{H H':AH}{v:Value}{xs:List Nat}(h:Sl H v xs)(k:But b H H')(hb: ∀c,b=some c→Qi v≠some c):Sl H' v xs:=by cases h with|nil=>exact .nil|emp b=>exact .emp b|mk c o cap xs h1 h2=>exact .mk c o cap xs h1 (h2.but k fun e=>hb c e rfl)
theorem Own.but{b:Option Nat}{n0:Nat}{H H':AH}{v:Value}{xs:List Nat}(h:Own n0 H v xs)(k:But b H H')(hb: ∀c,b=some c→Qi v≠some c):Own n0 H' v xs:=by cases h with|nil=>exact .nil|mk c o cap xs cs h1 h2 h3 h4 h5 h6=>exact .mk c o cap xs cs h1 h2 (by rw[k.n];exact h3) (by rw[k.blk c h3 fun e=>hb c e rfl];exact h4) h5 h6
theorem Own.blk_lo{n0:Nat}{H:AH}{v:Value}{xs:List Nat}(h:Own n0 H v xs){b:Nat}(hb:Qi v=some b):n0≤b∧b<H.n:=by cases h with|nil=>cases hb|mk c o cap xs cs h1 h2 h3 h4 h5 h6=>cases hb;exact⟨h2,h3⟩
theorem Sl.blk_lt{H:AH}{v:Value}{xs:List Nat}(h:Sl H v xs){b:Nat}(hb:Qi v=some b):b<H.n:=by cases h with|nil=>cases hb|emp _=>cases hb|mk c o cap xs h1 h2=>cases hb;exact h2.1
theorem Own.put{n:Nat}{H:AH}{v:Value}{xs:List Nat}(h:Own n H v xs){i:Nat}(hi:i<xs.length)(y:Nat): ∃H',Xt Tryz.prog H 101 (adr v i) (.int .u64 (y:Int))=some H'∧Own n H' v (xs.set i y)∧H'.n=H.n∧(∀j,Qi v≠some j→H'.blk j=H.blk j)∧ ∀H0,Keep H0 H→H0.n≤n→Keep H0 H':=by cases h with
 |nil=>cases hi
 |mk b o cap xs cs h1 h2 h3 h4 h5 h6=>
  have hlen:Nat.ble (o+i+1) cs.length=true:=Nat.ble_eq.mpr (by omega);have e0:(Value.int .u64 (y:Int)).cells=#[.int .u64 (y:Int)]:=rfl;have hw:H.write b (o+i) [.int .u64 (y:Int)]=some { n:=H.n,lw:=min H.lw b,t:=H.t.set b (.rw 1 (cs.take (o+i)++[.int .u64 (y:Int)]++cs.drop (o+i+1))) } :=by rw[AH.write_def,h4];simp only[List.length_singleton,hlen,Bool.true_and];rfl
  refine⟨{ n:=H.n,lw:=min H.lw b,t:=H.t.set b (.rw 1 (cs.take (o+i)++[.int .u64 (y:Int)]++cs.drop (o+i+1))) },?_,?_,rfl,?_,?_⟩;·unfold Xt Go.Proofs.YtmkfecoeghokfaaGreatDoor.adr;simp only[sU64,e0];rw[show Nat.beq (#[Value.int .u64 (y:Int)]:Array Value).size 1=true from rfl,cond_true];exact hw
  ·have hl:(xs.set i y).length=xs.length:=List.length_set;rw[←hl];refine .mk b o cap _ (cs.take (o+i)++[.int .u64 (y:Int)]++cs.drop (o+i+1)) (by omega) h2 h3 ?_ ?_ ?_;·unfold AH.blk;simp only[Tr.get_set,if_true]
   ·simp only[List.length_append,List.length_take,List.length_drop,List.length_singleton];omega
   ·intro j x hj;rw[List.getElem?_set]at hj;by_cases e:i=j;·subst e;rw[if_pos rfl,if_pos hi]at hj;cases hj;rw[List.append_assoc,List.getElem?_append_right (by rw[List.length_take];omega)];rw[List.length_take,show o+i-min (o+i) cs.length=0 by omega];rfl
    ·rw[if_neg e]at hj;have:=h6 j x hj;rcases Nat.lt_or_ge (o+j) (o+i)with hlt|hge;·rw[List.append_assoc,List.getElem?_append_left (by rw[List.length_take];omega),List.getElem?_take,if_pos hlt];exact this
     ·rw[List.getElem?_append_right (by simp only[List.length_append,List.length_take,List.length_singleton];omega),List.getElem?_drop];simp only[List.length_append,List.length_take,List.length_singleton];rw[show o+i+1+(o+j-(min (o+i) cs.length+1))=o+j by omega];exact this
  ·intro j hj;have:j≠b:=fun e=>hj (by rw[e];rfl);unfold AH.blk;simp only[Tr.get_set,if_neg this]
  ·intro H0 k hn;refine⟨k.n,?_,fun j hj=>?_⟩;·have:=k.lw;show min H0.lw H0.n≤min H.lw b;omega
   ·have:j≠b:=by omega
    rw[←k.blk j hj];unfold AH.blk;simp only[Tr.get_set,if_neg this]
def View(w v:Value)(j m:Nat):Prop:= ∀(t:TypeId),LT t→ ∀(k:IntKind)(i:Nat),i<m→Yu Tryz.prog t w (.int k (i:Int))=some (adr v (j+i))
theorem Sl.part{H:AH}{v:Value}{xs:List Nat}(h:Sl H v xs){t:TypeId}(ht:LT t){j m:Nat}(hm:j+m≤xs.length)(h0:0<m): ∃w,Uz Tryz.prog H t v (some (.int .i64 (j:Int))) (some (.int .i64 ((j+m:Nat):Int))) none=some w∧Sl H w ((xs.drop j).take m)∧View w v j m∧Qi w=Qi v:=by cases h with
 |nil=>simp at hm;omega
 |emp b=>simp at hm;omega
 |mk b o cap xs h1 h2=>
  have hl:((xs.drop j).take m).length=m:=by rw[List.length_take,List.length_drop];omega
  obtain⟨h2a,cs,h3,h4,h5⟩:=h2;refine⟨.slice (some ⟨b,o+j,none⟩) ((xs.drop j).take m).length (cap-j),?_,.mk b (o+j) (cap-j) _ (by omega) ⟨h2a,cs,h3,h4,fun i x hx=>?_,by have:=(List.getElem?_eq_some_iff.mp (h5.1 j _ (List.getElem?_eq_getElem (show j<xs.length by omega)))).1;omega⟩,?_,rfl⟩
  ·unfold Uz;simp only[ht.1,sU64];unfold cutV Qt;simp only[h4,Option.isSome_some,Option.isNone_none,Bool.true_or];rw[if_pos (by omega)];have e1:Nat.ble (j+m) cap=true:=Nat.ble_eq.mpr (by omega);have e2:Nat.blt j cap=true:=by rw[Nat.blt_eq];omega
   simp only[Qt,Int.toNat_natCast];rw[if_pos (by omega)];simp[e1,e2,hl]
  ·rw[List.getElem?_take]at hx;split at hx;·rw[List.getElem?_drop]at hx;have:=h5.1 (j+i) x hx;rwa[←Nat.add_assoc]at this
   ·cases hx
  ·intro t ht k i hi;unfold Yu Go.Proofs.YtmkfecoeghokfaaGreatDoor.adr;simp only[ht.1,sU64];rw[if_pos (by omega)];simp[Nat.add_assoc]
def KA(n0:Nat)(H H1:AH):Prop:= ∀H0,Keep H0 H→H0.n≤n0→Keep H0 H1
theorem KA.refl(n0:Nat)(H:AH):KA n0 H H:=fun _ k _=>k
theorem KA.trans{n0:Nat}{H H1 H2:AH}(a:KA n0 H H1)(b:KA n0 H1 H2):KA n0 H H2:=fun H0 k h=>b H0 (a H0 k h) h
theorem Own.segload{n0:Nat}{H:AH}{U0:Value}{pre us post:List Nat}(h:Own n0 H U0 (pre++us++post)){j:Nat}(hj:pre.length=j){i:Nat}(hi:i<us.length):Ys Tryz.prog H 101 (adr U0 (j+i))=some (.int .u64 (us[i]:Nat)):=by subst hj;have:=h.sl.load (i:=pre.length+i) (by simp;omega);rw[this];congr 3;rw[List.getElem_append_left (by simp;omega),List.getElem_append_right (by omega)];simp
theorem Own.segstore{n0:Nat}{H:AH}{U0:Value}{pre us post:List Nat}(h:Own n0 H U0 (pre++us++post)){j:Nat}(hj:pre.length=j){i:Nat}(hi:i<us.length)(y:Nat): ∃H',Xt Tryz.prog H 101 (adr U0 (j+i)) (.int .u64 (y:Int))=some H'∧Own n0 H' U0 (pre++us.set i y++post)∧But (Qi U0) H H'∧KA n0 H H':=by subst hj;obtain⟨H',h1,h2,h3,h4,h5⟩:=h.put (i:=pre.length+i) (by simp;omega) y;refine⟨H',h1,?_,⟨h3,fun j _=>h4 j⟩,h5⟩;rw[List.set_append_left _ _ (by simp;omega),List.set_append_right _ _ (by omega),Nat.add_sub_cancel_left]at h2;exact h2
theorem Gt(x y:Nat)(H:AH):Zq Tryz.prog Zo 203 [.int .u64 (x:Int),.int .u64 (y:Int),.int .u64 0] H=some (.tuple #[.int .u64 (((x+y)%B64:Nat):Int),.int .u64 (((x+y)/B64:Nat):Int)],H):=Bt x y 0 H (by omega)
theorem Ak{x y:Nat}(hx:x<B64)(hy:y<B64)(H:AH):Zq Tryz.prog Zo 202 [.int .u64 (x:Int),.int .u64 (y:Int)] H=some (.tuple #[.int .u64 ((x*y/B64:Nat):Int),.int .u64 ((x*y%B64:Nat):Int)],H):=by obtain⟨v,H',h,rfl,rfl⟩:=mul64_spec hx hy (H:=H);exact h
theorem Zh1{h l y:Nat}(hh:h<y)(hl:l<B64)(hy:y<B64)(H:AH):Zq Tryz.prog Zo 205 [.int .u64 (h:Int),.int .u64 (l:Int),.int .u64 (y:Int)] H=some (.tuple #[.int .u64 (((h*B64+l)/y:Nat):Int),.int .u64 (((h*B64+l)%y:Nat):Int)],H):=by obtain⟨v,H',h,rfl,rfl⟩:=div64_spec hh hl hy (H:=H);exact h
theorem Zl3{x:Nat} :Zd .neq .u64 (x:Int) 0=some (.bool (decide (x≠0))):=neq_nat (y:=0)
theorem sub2_i64{x:Nat}(h:x<9223372036854775808)(hx:2≤x):Zd .sub .i64 (x:Int) 2=some (.int .i64 ((x-2:Nat):Int)):=sub_i64 (x:=x) (y:=2) h hx
theorem Jz{x y:Nat}(h:x+y<B64):Zd .add .u64 (x:Int) (y:Int)=some (.int .u64 ((x+y:Nat):Int)):=by rw[Fz,Nat.mod_eq_of_lt h]
theorem As{xs:List Nat}{n:Nat}(h:xs.length=n+1):xs=xs.take n++[xs[n]'(by omega)]:=by have:=List.take_append_getElem (l:=xs) (i:=n) (by omega);rw[this,←h,List.take_length]
theorem top_of{us vs:List Nat}{n:Nat}(hu:us.length=n+1)(hv:vs.length=n)(h2:2≤n)(du:Dig B64 us)(dv':Dig B64 vs)(hp:0<vs[n-1]'(by omega)):Top B64 (B64^(n-2)) (dv B64 vs) (dv B64 us) (vs[n-1]'(by omega)) (vs[n-2]'(by omega)) (dv B64 (vs.take (n-2))) ((us[n]'(by omega))*B64+us[n-1]'(by omega)) (us[n-2]'(by omega)) (dv B64 (us.take (n-2))):=by
 obtain⟨m,rfl⟩: ∃m,n=m+2:=⟨n-2,by omega⟩;simp only[Nat.add_sub_cancel,show m+2-1=m+1 by omega]at hp⊢;have e1:vs=vs.take m++[vs[m]'(by omega),vs[m+1]'(by omega)]:=by have a:=As (n:=m+1) hv;have b:=Qp (xs:=vs) (i:=m) (by omega);rw[b,List.append_assoc]at a;exact a
 have e2:us=us.take m++[us[m]'(by omega),us[m+1]'(by omega),us[m+2]'(by omega)]:=by have a:=As (n:=m+2) hu;have b:=Qp (xs:=us) (i:=m+1) (by omega);have c:=Qp (xs:=us) (i:=m) (by omega);rw[b,c,List.append_assoc,List.append_assoc]at a;exact a
 have l1:(vs.take m).length=m:=by rw[List.length_take];omega
 have l2:(us.take m).length=m:=by rw[List.length_take];omega
 refine⟨?_,?_,?_,?_,du.get (List.getElem?_eq_getElem (by omega)),dv'.get (List.getElem?_eq_getElem (by omega)),hp⟩;·have:=congrArg (dv B64) e1;rw[this,Yy,l1];simp only[dv,Nat.mul_zero,Nat.add_zero];rw[Nat.add_comm,Nat.mul_comm (B64^m),Nat.mul_comm B64,Nat.add_comm (vs[m])]
 ·have:=congrArg (dv B64) e2;rw[this,Yy,l2];simp only[dv,Nat.mul_zero,Nat.add_zero];rw[Nat.add_comm,Nat.mul_comm (B64^m),Nat.mul_comm B64 (us[m+1]+_),Nat.add_comm (us[m+1]),Nat.mul_comm B64 us[m+2],Nat.add_comm (us[m])]
 ·have:=Vh (dv'.take m);rwa[l1]at this
 ·have:=Vh (du.take m);rwa[l2]at this
section
attribute [-simp] Int.natCast_add Int.natCast_mul Int.natCast_ediv Int.natCast_emod Int.natCast_pow
attribute [local simp] strip Ye LW' LR gW Yk Xc Zz Xd Yn Xe Zr Zs Zg Yo Yz Yj Yp Zh Xa Ze opd Qd Yl plain Yg Tr.get_set Qb Zp Xv Yc sameKind undef Zu Yr Yw Zn Qa Jl Yb parts Jf unV
theorem div0_lt{x B:Nat}(hB:0<B)(h:x/B=0):x<B:=by
 rcases Nat.lt_or_ge x B with h'|h';·exact h'
 ·have:=Nat.div_pos h' hB;omega
structure Trial (V U y1 u q r : Nat) (sure : Bool) : Prop where
  ge : U / V ≤ q
  lt : q < B64
  no : sure = false → q * y1 + r = u ∧ r < B64
  yes : sure = true → q ≤ U / V + 1
set_option maxHeartbeats 2000000 in theorem guess_spec{n0 n j:Nat}{H:AH}{U0 uv vv:Value}{pre us post vs:List Nat}(hu:Own n0 H U0 (pre++us++post))(hj:pre.length=j)(hus:us.length=n+1)(hview:View uv U0 j (n+1))(du:Dig B64 us)(hv:Sl H vv vs)(hap:Kl U0 vv)(hvs:vs.length=n)(h2:2≤n)(hn:n≤17592186044416)(dvs:Dig B64 vs)(hp:0<vs[n-1]'(by omega))(hlt:dv B64 us<dv B64 vs*B64):CW Tryz.prog Zo 218 [uv,vv] H fun v H'=>v= .int .u64 ((dv B64 us/dv B64 vs:Nat):Int)∧But (Qi U0) H H'∧KA n0 H H'∧ ∃us',us'.length=n+1∧Dig B64 us'∧dv B64 us'=dv B64 us%dv B64 vs∧Own n0 H' U0 (pre++us'++post):=by
 refine Zj 195 (by decide) (by decide) Tryz.func218 rfl rfl ?_;have T:=top_of hus hvs h2 du dvs hp;have Vpos:=T.Vpos;obtain⟨V,hV⟩: ∃V,V=dv B64 vs:=⟨_,rfl⟩;obtain⟨U,hU⟩: ∃U,U=dv B64 us:=⟨_,rfl⟩;obtain⟨un,hun⟩: ∃un,un=us[n]'(by omega):=⟨_,rfl⟩;obtain⟨un1,hun1⟩: ∃un1,un1=us[n-1]'(by omega):=⟨_,rfl⟩;obtain⟨un2,hun2⟩: ∃un2,un2=us[n-2]'(by omega):=⟨_,rfl⟩;obtain⟨y1,hy1⟩: ∃y1,y1=vs[n-1]'(by omega):=⟨_,rfl⟩;obtain⟨y0,hy0⟩: ∃y0,y0=vs[n-2]'(by omega):=⟨_,rfl⟩;rw[←hV,←hU,←hun,←hun1,←hun2,←hy1,←hy0]at T;rw[←hV,←hU]at hlt⊢;rw[←hV]at Vpos;rw[←hy1]at hp;have bun:un<B64:=by rw[hun];exact du.get (List.getElem?_eq_getElem (by omega))
 have bun1:un1<B64:=by rw[hun1];exact du.get (List.getElem?_eq_getElem (by omega))
 have bun2:un2<B64:=by rw[hun2];exact du.get (List.getElem?_eq_getElem (by omega))
 have by1:y1<B64:=by rw[hy1];exact dvs.get (List.getElem?_eq_getElem (by omega))
 have by0:y0<B64:=by rw[hy0];exact dvs.get (List.getElem?_eq_getElem (by omega))
 have hQB:U/V<B64:=by rw[Nat.div_lt_iff_lt_mul Vpos,Nat.mul_comm];exact hlt
 have lenv:=hv.len Zn;rw[hvs]at lenv;have s1:Zd .sub .i64 (n:Int) 1=some (.int .i64 ((n-1:Nat):Int)):=Gn (by omega) (by omega);have s2:Zd .sub .i64 (n:Int) 2=some (.int .i64 ((n-2:Nat):Int)):=sub2_i64 (by omega) h2;have an:Yu Tryz.prog 30 uv (.int .i64 (n:Int))=some (adr U0 (j+n)):=hview _ Zn .i64 n (by omega);have an1:Yu Tryz.prog 30 uv (.int .i64 ((n-1:Nat):Int))=some (adr U0 (j+(n-1))):=hview _ Zn .i64 (n-1) (by omega);have an2:Yu Tryz.prog 30 uv (.int .i64 ((n-2:Nat):Int))=some (adr U0 (j+(n-2))):=hview _ Zn .i64 (n-2) (by omega);have av1:Yu Tryz.prog 30 vv (.int .i64 ((n-1:Nat):Int))=some (adr vv (n-1)):=hv.adr Zn (by omega);have av2:Yu Tryz.prog 30 vv (.int .i64 ((n-2:Nat):Int))=some (adr vv (n-2)):=hv.adr Zn (by omega);have ln:Ys Tryz.prog H 101 (adr U0 (j+n))=some (.int .u64 (un:Int)):=by rw[hun];exact hu.segload hj (by omega)
 have ln1:Ys Tryz.prog H 101 (adr U0 (j+(n-1)))=some (.int .u64 (un1:Int)):=by rw[hun1];exact hu.segload hj (by omega)
 have ln2:Ys Tryz.prog H 101 (adr U0 (j+(n-2)))=some (.int .u64 (un2:Int)):=by rw[hun2];exact hu.segload hj (by omega)
 have lv1:Ys Tryz.prog H 101 (adr vv (n-1))=some (.int .u64 (y1:Int)):=by rw[hy1];exact hv.load (by omega)
 have lv2:Ys Tryz.prog H 101 (adr vv (n-2))=some (.int .u64 (y0:Int)):=by rw[hy0];exact hv.load (by omega)
 have topload: ∀(a:Value),Ys Tryz.prog H.top 101 a=Ys Tryz.prog H 101 a:=fun _=>rfl;apply Zb;intro b1 hb1;apply Za;simp;subst hb1;apply Zb;intro b1 hb1;apply Za;simp[lenv];subst hb1;apply Zb;intro b1 hb1;apply Za;simp;subst hb1;apply Zb;intro b1 hb1;apply Za;simp;subst hb1;refine Qs (fun s'=>s'.k=195∧s'.H=H∧s'.tm.get 0=some uv∧s'.tm.get 1=some vv∧s'.tm.get 5=some (.int .i64 (n:Int))∧ ∃(q r:Nat) (sure:Bool),Trial V U y1 (un*B64+un1) q r sure∧s'.tm.get 6=some (.int .u64 (q:Int))∧s'.tm.get 7=some (.int .u64 (r:Int))∧s'.tm.get 8=some (.bool sure)) ?_ ?_
 ·intro Q' hQ';apply Zb;intro b1 hb1;apply Cn (by kernel_rfl);simp[lenv,an,s1,av1,ln,lv1,geq_nat];subst hb1;by_cases hge:y1≤un
  ·have hEq:un=y1:=Nat.le_antisymm (T.high hlt) hge;refine Zc (t:=true) (by simp[hge]) ?_;apply Zb;intro b1 hb1;apply Za;simp;subst hb1;apply Zb;intro b1 hb1;apply Za;simp;subst hb1;apply Zb;intro b1 hb1;apply W_reads (by kernel_rfl);simp[s1,an1,av1,topload,ln1,lv1,Gt];subst hb1;apply Za;simp[Zl3];apply hQ';have hB1:((18446744073709551615:Nat):Int)=18446744073709551615:=rfl;have he:18446744073709551615*y1+(un1+y1)=un*B64+un1:=by rw[hEq];show 18446744073709551615*y1+(un1+y1)=y1*18446744073709551616+un1;omega
   refine⟨rfl,rfl,by simp,by simp,by simp,18446744073709551615,(un1+y1)%B64,decide ((un1+y1)/B64≠0),⟨?_,by decide,?_,?_⟩,by simp[hB1],by simp,by simp⟩;·have:U/V<18446744073709551616:=hQB;omega
   ·intro h;have h0:(un1+y1)/B64=0:=by have:=of_decide_eq_false h;omega
    have hm:(un1+y1)%B64=un1+y1:=Nat.mod_eq_of_lt (div0_lt (by decide) h0);rw[hm];refine⟨he,?_⟩;rw[←hm];exact Nat.mod_lt _ (by decide)
   ·intro h;have h0: ¬ (un1+y1)/B64=0:=of_decide_eq_true h;refine T.false he (by decide) ?_;have h1:B64≤un1+y1:=by
     rcases Nat.lt_or_ge (un1+y1) B64 with h'|h';·exact absurd (Nat.div_eq_of_lt h') h0
     ·exact h'
    have h2:B64*B64≤(un1+y1)*B64:=Nat.mul_le_mul_right _ h1;have h3:18446744073709551615*y0≤B64*B64:=Nat.mul_le_mul (by decide) (by omega);omega
  ·refine Zc (t:=false) (by simp;omega) ?_;have hlt1:un<y1:=by omega
   apply W_reads (by kernel_rfl);simp[s1,an,an1,av1,topload,ln,ln1,lv1,Zh1 hlt1 bun1 by1];apply hQ';refine⟨rfl,rfl,by simp,by simp,by simp,(un*B64+un1)/y1,(un*B64+un1)%y1,false,⟨T.first,?_,?_,fun h=>by cases h⟩,by simp,by simp,by simp⟩;·rw[Nat.div_lt_iff_lt_mul hp,Nat.mul_comm B64 y1];have:(un+1)*B64≤y1*B64:=Nat.mul_le_mul_right _ hlt1;rw[Nat.succ_mul]at this;omega
   ·intro _;exact⟨by rw[Nat.mul_comm];exact Nat.div_add_mod _ _,Nat.lt_trans (Nat.mod_lt _ hp) by1⟩
 rintro⟨k,tm,H'⟩ ⟨hk,hH,t0,t1,t5,q,r,sure,Tr0,t6,t7,t8⟩;simp only at hk hH t0 t1 t5 t6 t7 t8;subst hk;subst hH;refine Qs (fun s'=>s'.k=195∧s'.H=H'∧s'.tm.get 0=some uv∧s'.tm.get 1=some vv∧s'.tm.get 5=some (.int .i64 (n:Int))∧ ∃(q:Nat),U/V≤q∧q≤U/V+1∧q<B64∧s'.tm.get 6=some (.int .u64 (q:Int))) ?_ ?_;·intro Q'' hQ'';apply Zt;refine Xw (fun m s'=>s'.k=195∧s'.H=H'∧s'.tm.get 0=some uv∧s'.tm.get 1=some vv∧s'.tm.get 5=some (.int .i64 (n:Int))∧ ∃(r:Nat) (sure:Bool),Trial V U y1 (un*B64+un1) m r sure∧s'.tm.get 6=some (.int .u64 (m:Int))∧s'.tm.get 7=some (.int .u64 (r:Int))∧s'.tm.get 8=some (.bool sure)) ?_ q _ ⟨rfl,rfl,t0,t1,t5,r,sure,Tr0,t6,t7,t8⟩;clear t0 t1 t5 t6 t7 t8 Tr0;rintro q ⟨k,tm,H2⟩ ⟨hk,hH,t0,t1,t5,r,sure,Tr0,t6,t7,t8⟩ Q' hQ';simp only at hk hH t0 t1 t5 t6 t7 t8;subst hk;subst hH;apply Zb;intro b3 hb3;apply Zb;intro b4 hb4;apply Za;simp[t8];subst hb4;cases sure with
  |true=>refine Zc (t:=false) (by simp) ?_;apply Xy;apply hQ';left;exact⟨rfl,hQ'' _ ⟨rfl,rfl,by simp[t0],by simp[t1],by simp[t5],q,Tr0.ge,Tr0.yes rfl,Tr0.lt,by simp[t6]⟩⟩
  |false=>
   refine Zc (t:=true) (by simp) ?_;apply Zi;subst hb3;obtain⟨hqr,hrB⟩:=Tr0.no rfl;have hqB:=Tr0.lt;apply Zt;apply Zb;intro b3 hb3;apply Za;simp[t6,t1,t5,s2,av2,lv2,Ak hqB by0];subst hb3;obtain⟨hi,hhi⟩: ∃hi,hi=q*y0/B64:=⟨_,rfl⟩;obtain⟨lo,hlo⟩: ∃lo,lo=q*y0%B64:=⟨_,rfl⟩;have ehl:q*y0=B64*hi+lo:=by rw[hhi,hlo];exact(Nat.div_add_mod _ _).symm
   have hloB:lo<B64:=by rw[hlo];exact Nat.mod_lt _ (by decide)
   rw[←hhi,←hlo];have stop:q*y0≤r*B64+un2→q≤U/V+1:=fun h=>T.false hqr hqB h;have on:r*B64+un2<q*y0→0<q∧U/V≤q-1∧(q-1)*y1+(r+y1)=un*B64+un1:=fun h=>by have h1:=T.true hqr h;have hq0:0<q:=Nat.lt_of_le_of_lt (Nat.zero_le _) h1;refine⟨hq0,Nat.le_sub_one_of_lt h1,?_⟩;obtain⟨q',rfl⟩: ∃q',q=q'+1:=⟨q-1,by omega⟩;rw[Nat.succ_mul]at hqr;rw[Nat.add_sub_cancel];omega
   apply Zb;intro b3 hb3;apply Zb;intro b4 hb4;have exitk: ∀tm',q*y0≤r*B64+un2→tm'.get 0=some uv→tm'.get 1=some vv→tm'.get 5=some (.int .i64 (n:Int))→tm'.get 6=some (.int .u64 (q:Int))→Q' (.exit 0) ⟨195,tm',H2⟩:=fun tm' h a b c d=>by apply hQ';left;exact⟨rfl,hQ'' _ ⟨rfl,rfl,a,b,c,q,Tr0.ge,stop h,hqB,d⟩⟩
   have onk: ∀tm',r*B64+un2<q*y0→tm'.get 0=some uv→tm'.get 1=some vv→tm'.get 5=some (.int .i64 (n:Int))→tm'.get 6=some (.int .u64 (q:Int))→tm'.get 7=some (.int .u64 (r:Int))→tm'.get 8=some (.bool false)→W Tryz.prog Zo b3 ⟨195,tm',H2⟩ (Xn 1 Q'):=fun tm' h t0 t1 t5 t6 t7 t8=>by
    obtain⟨hq0,hge,heq⟩:=on h;subst hb3;apply Zb;intro b3 hb3;apply Za;simp[t6,Zm2 hqB hq0];subst hb3;apply Zb;intro b3 hb3;apply Za;simp;subst hb3;apply Zb;intro b3 hb3;apply Za;simp[t7,t1,t5,s1,av1,lv1,Gt];subst hb3;apply Zb;intro b3 hb3;apply Za;simp[Zl3];subst hb3;by_cases hov:(r+y1)/B64=0;·refine Zc (t:=false) (by simp;exact div0_lt (by decide) hov) ?_;have hm:(r+y1)%B64=r+y1:=Nat.mod_eq_of_lt (div0_lt (by decide) hov);apply Zi;apply hQ';refine⟨q-1,by omega,rfl,rfl,by simp[t0],by simp[t1],by simp[t5],(r+y1)%B64,false,⟨hge,by omega,fun _=>⟨by rw[hm];exact heq,Nat.mod_lt _ (by decide)⟩,fun h=>by cases h⟩,by simp,by simp,by simp[t8]⟩
    ·have h1:B64≤r+y1:=by
      rcases Nat.lt_or_ge (r+y1) B64 with h'|h';·exact absurd (Nat.div_eq_of_lt h') hov
      ·exact h'
     refine Zc (t:=true) (by simp;exact h1) ?_;apply Xy;right;refine⟨by decide,?_⟩;apply hQ';left;refine⟨rfl,hQ'' _ ⟨rfl,rfl,by simp[t0],by simp[t1],by simp[t5],q-1,hge,?_,by omega,by simp⟩⟩;refine T.false heq (by omega) ?_;have h2:B64*B64≤(r+y1)*B64:=Nat.mul_le_mul_right _ h1;have h3:(q-1)*y0≤B64*B64:=Nat.mul_le_mul (by omega) (by omega);omega
   apply Za;by_cases c1:hi<r;·simp[t7,c1];subst hb4;refine Zc (t:=true) (by simp) ?_;apply Xy;right;refine⟨by decide,exitk _ ?_ (by simp[t0]) (by simp[t1]) (by simp[t5]) (by simp[t6])⟩;have:B64*(hi+1)≤B64*r:=Nat.mul_le_mul_left _ c1;rw[Nat.mul_succ,Nat.mul_comm B64 r]at this;omega
   ·by_cases c2:hi=r
    ·by_cases c3:lo≤un2;·simp[t7,t0,t5,c1,Ze4,c2,s2,an2,ln2,Ze7,c3];subst hb4;refine Zc (t:=true) (by simp) ?_;apply Xy;right;refine⟨by decide,exitk _ ?_ (by simp[t0]) (by simp[t1]) (by simp[t5]) (by simp[t6])⟩;rw[ehl,c2,Nat.mul_comm];omega
     ·simp[t7,t0,t5,c1,Ze4,c2,s2,an2,ln2,Ze7,c3];subst hb4;refine Zc (t:=false) (by simp) ?_;apply Zi;show W _ _ b3 _ _;refine onk _ ?_ (by simp[t0]) (by simp[t1]) (by simp[t5]) (by simp[t6]) (by simp[t7]) (by simp[t8]);rw[ehl,c2,Nat.mul_comm];omega
    ·simp[t7,t0,t5,c1,Ze4,c2];subst hb4;refine Zc (t:=false) (by simp) ?_;apply Zi;show W _ _ b3 _ _;refine onk _ ?_ (by simp[t0]) (by simp[t1]) (by simp[t5]) (by simp[t6]) (by simp[t7]) (by simp[t8]);have:B64*(r+1)≤B64*hi:=Nat.mul_le_mul_left _ (by omega);rw[Nat.mul_succ,Nat.mul_comm B64 r]at this;omega
 clear t0 t1 t5 t6 t7 t8 Tr0 q r sure;rintro⟨k,tm,H2⟩ ⟨hk,hH,t0,t1,t5,q,qge,qle,qB,t6⟩;simp only at hk hH t0 t1 t5 t6;subst hk;subst hH;have hvlen: ∀{H1:AH},But (Qi U0) H2 H1→Sl H1 vv vs:=fun k=>hv.but k hap;apply Zb;intro b1 hb1;apply Za;simp;subst hb1;refine Qs (fun s'=>s'.k=195∧s'.tm.get 0=some uv∧s'.tm.get 1=some vv∧s'.tm.get 5=some (.int .i64 (n:Int))∧s'.tm.get 6=some (.int .u64 (q:Int))∧But (Qi U0) H2 s'.H∧KA n0 H2 s'.H∧ ∃(L:List Nat) (carry borrow:Nat),L.length=n∧Dig B64 L∧carry<B64∧borrow≤1∧dv B64 L+q*V=dv B64 (us.take n)+B64^n*(carry+borrow)∧Own n0 s'.H U0 (pre++(L++us.drop n)++post)∧s'.tm.get 13=some (.int .u64 (carry:Int))∧s'.tm.get 14=some (.int .u64 (borrow:Int))) ?_ ?_
 ·intro Q'' hQ'';apply Zb;intro b1 hb1;apply Za;simp[t1,lenv];subst hb1;apply Zt;refine Xw (fun m s'=>s'.k=195∧s'.tm.get 0=some uv∧s'.tm.get 1=some vv∧s'.tm.get 5=some (.int .i64 (n:Int))∧s'.tm.get 6=some (.int .u64 (q:Int))∧But (Qi U0) H2 s'.H∧KA n0 H2 s'.H∧s'.tm.get 113=some vv∧s'.tm.get 114=some (.int .i64 (n:Int))∧ ∃(i:Nat) (L:List Nat) (carry borrow:Nat),m+i=n∧L.length=i∧Dig B64 L∧carry<B64∧borrow≤1∧dv B64 L+q*dv B64 (vs.take i)=dv B64 (us.take i)+B64^i*(carry+borrow)∧Own n0 s'.H U0 (pre++(L++us.drop i)++post)∧s'.tm.get 13=some (.int .u64 (carry:Int))∧s'.tm.get 14=some (.int .u64 (borrow:Int))∧s'.tm.get 115=some (.int .i64 (i:Int))) ?_ n _ ⟨rfl,by simp[t0],by simp[t1],by simp[t5],by simp[t6],.refl _ _,.refl _ _,by simp[t1],by simp,0,[],0,0,by omega,rfl,.nil _,by decide,by omega,by simp[dv],by simpa using hu,by simp,by simp,by simp⟩;clear t0 t1 t5 t6;rintro m ⟨k,tm,H3⟩ ⟨hk,t0,t1,t5,t6,kb,ka,t113,t114,i,L,carry,borrow,hmi,hL,dL,hc,hb,heq,own,t13,t14,t115⟩ Q' hQ';simp only at hk t0 t1 t5 t6 kb ka t113 t114 t13 t14 t115 own;subst hk;apply Zb;intro b3 hb3;apply Za;simp[t114,t115];subst hb3;apply Zb;intro b3 hb3;by_cases hi:i<n
  ·refine Zc (t:=true) (by simp[hi]) ?_;apply Zi;subst hb3;have hv3:=hvlen kb;have a1:Yu Tryz.prog 30 vv (.int .i64 (i:Int))=some (adr vv i):=hv3.adr Zn (by omega);have hx:vs[i]<B64:=dvs.get (List.getElem?_eq_getElem (by omega));have d1:Ys Tryz.prog H3 101 (adr vv i)=some (.int .u64 (vs[i]:Nat)):=hv3.load (by omega);have a2:Yu Tryz.prog 30 uv (.int .i64 (i:Int))=some (adr U0 (j+i)):=hview _ Zn .i64 i (by omega);have hud:us.drop i=us[i]::us.drop (i+1):=List.drop_eq_getElem_cons (by omega);have huB:us[i]<B64:=du.get (List.getElem?_eq_getElem (by omega));have d2:Ys Tryz.prog H3 101 (adr U0 (j+i))=some (.int .u64 (us[i]:Nat)):=by have:=own.segload hj (i:=i) (by simp;omega);rw[this];congr 3;rw[List.getElem_append_right (by omega)];simp[hL]
   obtain⟨x,hxe⟩: ∃x,x=vs[i]:=⟨_,rfl⟩;obtain⟨y,hye⟩: ∃y,y=us[i]:=⟨_,rfl⟩;rw[←hxe]at hx d1;rw[←hye]at huB d2 hud;have step:=mul_sub_step hx qB hc huB hb;simp only at step;obtain⟨ph,hph⟩: ∃ph,ph=x*q/B64:=⟨_,rfl⟩;obtain⟨pl,hpl⟩: ∃pl,pl=x*q%B64:=⟨_,rfl⟩;rw[←hph,←hpl]at step;obtain⟨sm,hsm⟩: ∃sm,sm=(pl+carry)%B64:=⟨_,rfl⟩;obtain⟨ov,hov⟩: ∃ov,ov=(pl+carry)/B64:=⟨_,rfl⟩;rw[←hsm,←hov]at step;obtain⟨y',hy'⟩: ∃y',y'=(y+B64-sm-borrow)%B64:=⟨_,rfl⟩;obtain⟨b',hb'⟩: ∃b',b'=(if y<sm+borrow then 1 else 0):=⟨_,rfl⟩;rw[←hy',←hb']at step;obtain⟨st1,st2,st3⟩:=step;have m1:Zq Tryz.prog Zo 202 [.int .u64 (x:Int),.int .u64 (q:Int)] H3=some (.tuple #[.int .u64 (ph:Int),.int .u64 (pl:Int)],H3):=by rw[hph,hpl];exact Ak hx qB H3
   have m2:Zq Tryz.prog Zo 203 [.int .u64 (pl:Int),.int .u64 (carry:Int),.int .u64 0] H3=some (.tuple #[.int .u64 (sm:Int),.int .u64 (ov:Int)],H3):=by rw[hsm,hov];exact Gt pl carry H3
   have m3:Zd .add .u64 (ph:Int) (ov:Int)=some (.int .u64 ((ph+ov:Nat):Int)):=Jz st1;have m4:Zq Tryz.prog Zo 206 [.int .u64 (y:Int),.int .u64 (sm:Int),.int .u64 (borrow:Int)] H3=some (.tuple #[.int .u64 (y':Int),.int .u64 (b':Int)],H3):=by rw[hy',hb'];exact Av y sm borrow H3 hb
   obtain⟨H4,sto,own4,kb4,ka4⟩:=own.segstore hj (i:=i) (by simp;omega) y';rw[hud,Ui L y y' _ hL]at own4;apply Zb;intro b3 hb3;apply Zt;apply Zb;intro b4 hb4;apply Za;simp[t113,t115,a1,d1];subst hb4;apply Zb;intro b4 hb4;apply Za;simp[t6,m1];subst hb4;apply Zb;intro b4 hb4;apply Za;simp[t13,m2];subst hb4;apply Zb;intro b4 hb4;apply Za;simp[m3];subst hb4;apply Za;simp[t0,t14,a2,d2,m4,sto];subst hb3;apply Za;simp[t115,Xp (x:=i) (by omega)];apply hQ';refine⟨m-1,by omega,rfl,by simp[t0],by simp[t1],by simp[t5],by simp[t6],kb.trans kb4,ka.trans ka4,by simp[t113],by simp[t114],i+1,L++[y'],ph+ov,b',by omega,by simp[hL],dL.append (.cons st2 (.nil _)),st1,?_,?_,by simpa using own4,by simp,by simp,by simp⟩;·rw[hb'];split<;>omega
   ·rw[Yy,hL,Qp (xs:=vs) (by omega),Qp (xs:=us) (by omega),Yy,Yy,List.length_take,List.length_take,Nat.min_eq_left (by omega),Nat.min_eq_left (by omega),←hxe,←hye];simp only[dv,Nat.mul_zero,Nat.add_zero];have e1:B64^i*(y'+x*q+carry+borrow)=B64^i*(y+B64*(ph+ov+b')):=by rw[st3]
    rw[Nat.mul_add (B64^i) y,←Nat.mul_assoc (B64^i) B64,show B64^i*B64=B64^(i+1)from rfl]at e1;rw[show y'+x*q+carry+borrow=y'+x*q+(carry+borrow) by omega,Nat.mul_add,Nat.mul_add]at e1;rw[Nat.mul_add q,show q*(B64^i*x)=B64^i*(x*q) by rw[Nat.mul_left_comm,Nat.mul_comm q x]];omega
  ·refine Zc (t:=false) (by simp[hi]) ?_;apply Xy;apply hQ';left;obtain rfl:i=n:=by omega
   have e1:vs.take i=vs:=by rw[←hvs,List.take_length]
   rw[e1,←hV]at heq;exact⟨rfl,hQ'' _ ⟨rfl,by simp[t0],by simp[t1],by simp[t5],by simp[t6],kb,ka,L,carry,borrow,hL,dL,hc,hb,heq,own,by simp[t13],by simp[t14]⟩⟩
 clear t0 t1 t5 t6;rintro⟨k,tm,H3⟩ ⟨hk,t0,t1,t5,t6,kb,ka,L,carry,borrow,hL,dL,hc,hb,heq,own,t13,t14⟩;simp only at hk t0 t1 t5 t6 kb ka own t13 t14;subst hk;have hdn:us.drop n=[un]:=by rw[List.drop_eq_getElem_cons (by omega),List.drop_eq_nil_of_le (by omega),←hun]
 have hUe:U=dv B64 (us.take n)+B64^n*un:=by have:=congrArg (dv B64) (As hus);rw[Yy,List.length_take,Nat.min_eq_left (by omega),←hun,←hU]at this;simpa[dv]using this
 rw[hdn]at own;have d2:Ys Tryz.prog H3 101 (adr U0 (j+n))=some (.int .u64 (un:Int)):=by have:=own.segload hj (i:=n) (by simp;omega);rw[this,Zk7 L un [] hL]
 obtain⟨y',hy'⟩: ∃y',y'=(un+B64-carry-borrow)%B64:=⟨_,rfl⟩;obtain⟨b',hb'⟩: ∃b',b'=(if un<carry+borrow then 1 else 0):=⟨_,rfl⟩;have hb1:b'≤1:=by rw[hb'];split<;>omega
 have hy'B:y'<B64:=by rw[hy'];exact Nat.mod_lt _ (by decide)
 have hst:y'+(carry+borrow)=un+B64*b':=by
  by_cases h:un<carry+borrow;·rw[hy',hb',if_pos h,Nat.mod_eq_of_lt (by omega)];omega
  ·rw[hy',hb',if_neg h];have:un+B64-carry-borrow=(un-carry-borrow)+B64:=by omega
   rw[this,Nat.add_mod_right,Nat.mod_eq_of_lt (by omega)];omega
 have m4:Zq Tryz.prog Zo 206 [.int .u64 (un:Int),.int .u64 (carry:Int),.int .u64 (borrow:Int)] H3=some (.tuple #[.int .u64 (y':Int),.int .u64 (b':Int)],H3):=by rw[hy',hb'];exact Av un carry borrow H3 hb
 obtain⟨H4,sto,own4,kb4,ka4⟩:=own.segstore hj (i:=n) (by simp;omega) y';rw[Ui L un y' [] hL]at own4;have dL':Dig B64 (L++[y']):=dL.append (.cons hy'B (.nil _));have hR:dv B64 (L++[y'])+q*V=U+B64^(n+1)*b':=by
  rw[Yy,hL];simp only[dv,Nat.mul_zero,Nat.add_zero];have e1:B64^n*(y'+(carry+borrow))=B64^n*(un+B64*b'):=by rw[hst]
  rw[Nat.mul_add,Nat.mul_add (B64^n) un,←Nat.mul_assoc (B64^n) B64,show B64^n*B64=B64^(n+1)from rfl]at e1;omega
 have hRlt:dv B64 (L++[y'])<B64^(n+1):=by have:=Vh dL';simpa[hL]using this
 have hUlt:U<B64^(n+1):=by have:=Vh du;rwa[hus,←hU]at this
 have ta:=take_away Vpos qge qle hUlt hRlt hb1 hR;apply Zb;intro b1 hb1';apply Za;simp[t0,t5,t13,t14,an,d2,m4,sto];subst hb1';rcases ta with⟨rfl,rfl,hRe⟩|⟨rfl,hq1,hRe⟩;·apply Zb;intro b1 hb1';apply Zb;intro b2 hb2;apply Za;simp[Zl3];subst hb2;refine Zc (t:=false) (by simp) ?_;apply Zi;subst hb1';apply Zb;intro b1 hb1';apply Za;simp[t6];subst hb1';apply Zm;simp;exact⟨kb.trans kb4,ka.trans ka4,L++[y'],by simp[hL],dL',hRe,by simpa using own4⟩
 ·have hq0:0<q:=by rw[hq1];exact Nat.succ_pos _
  have hqe:q-1=U/V:=by rw[hq1];rfl
  apply Zb;intro b1 hb1';apply Zb;intro b2 hb2;apply Za;simp[Zl3];subst hb2;refine Zc (t:=true) (by simp) ?_;apply Zb;intro b2 hb2;apply Za;simp[t6,Zm2 qB hq0];subst hb2;apply Zb;intro b2 hb2;apply Za;simp;subst hb2;obtain⟨us',hus'⟩: ∃us',us'=L++[y']:=⟨_,rfl⟩;have us'len:us'.length=n+1:=by rw[hus'];simp[hL]
  rw[←hus']at own4 dL' hRe hRlt;have kb5:=kb.trans kb4;have ka5:=ka.trans ka4;have seg1:us'.take n++us'.drop n=us':=List.take_append_drop n us';refine Qs (fun s'=>s'.k=195∧s'.tm.get 0=some uv∧s'.tm.get 5=some (.int .i64 (n:Int))∧s'.tm.get 6=some (.int .u64 ((U/V:Nat):Int))∧But (Qi U0) H2 s'.H∧KA n0 H2 s'.H∧ ∃(L:List Nat) (back:Nat),L.length=n∧Dig B64 L∧back≤1∧dv B64 L+B64^n*back=dv B64 (us'.take n)+V∧Own n0 s'.H U0 (pre++(L++us'.drop n)++post)∧s'.tm.get 21=some (.int .u64 (back:Int))) ?_ ?_
  ·intro Q'' hQ'';apply Zb;intro b3 hb3;apply Za;simp[t1,lenv];subst hb3;apply Zt;refine Xw (fun m s'=>s'.k=195∧s'.tm.get 0=some uv∧s'.tm.get 5=some (.int .i64 (n:Int))∧s'.tm.get 6=some (.int .u64 ((U/V:Nat):Int))∧But (Qi U0) H2 s'.H∧KA n0 H2 s'.H∧s'.tm.get 166=some vv∧s'.tm.get 167=some (.int .i64 (n:Int))∧ ∃(i:Nat) (L:List Nat) (back:Nat),m+i=n∧L.length=i∧Dig B64 L∧back≤1∧dv B64 L+B64^i*back=dv B64 (us'.take i)+dv B64 (vs.take i)∧Own n0 s'.H U0 (pre++(L++us'.drop i)++post)∧s'.tm.get 21=some (.int .u64 (back:Int))∧s'.tm.get 168=some (.int .i64 (i:Int))) ?_ n _ ⟨rfl,by simp[t0],by simp[t5],by simp[hqe],kb5,ka5,by simp[t1],by simp,0,[],0,by omega,rfl,.nil _,by omega,by simp[dv],by simpa using own4,by simp,by simp⟩;clear t0 t1 t5 t6 t13 t14;rintro m ⟨k,tm,H5⟩ ⟨hk,t0,t5,t6,kb,ka,t166,t167,i,L1,back,hmi,hL1,dL1,hbk,heq2,own,t21,t168⟩ Q' hQ';simp only at hk t0 t5 t6 kb ka t166 t167 t21 t168 own;subst hk;apply Zb;intro b3 hb3;apply Za;simp[t167,t168];subst hb3;apply Zb;intro b3 hb3;by_cases hi:i<n
   ·refine Zc (t:=true) (by simp[hi]) ?_;apply Zi;subst hb3;have hv3:=hvlen kb;have a1:Yu Tryz.prog 30 vv (.int .i64 (i:Int))=some (adr vv i):=hv3.adr Zn (by omega);have hx:vs[i]<B64:=dvs.get (List.getElem?_eq_getElem (by omega));have d1:Ys Tryz.prog H5 101 (adr vv i)=some (.int .u64 (vs[i]:Nat)):=hv3.load (by omega);have a2:Yu Tryz.prog 30 uv (.int .i64 (i:Int))=some (adr U0 (j+i)):=hview _ Zn .i64 i (by omega);have hud:us'.drop i=us'[i]::us'.drop (i+1):=List.drop_eq_getElem_cons (by omega);have huB:us'[i]<B64:=dL'.get (List.getElem?_eq_getElem (by omega));have d2:Ys Tryz.prog H5 101 (adr U0 (j+i))=some (.int .u64 (us'[i]:Nat)):=by have:=own.segload hj (i:=i) (by simp;omega);rw[this];congr 3;rw[List.getElem_append_right (by omega)];simp[hL1]
    obtain⟨x,hxe⟩: ∃x,x=vs[i]:=⟨_,rfl⟩;obtain⟨y,hye⟩: ∃y,y=us'[i]:=⟨_,rfl⟩;rw[←hxe]at hx d1;rw[←hye]at huB d2 hud;obtain⟨y2,hy2⟩: ∃y2,y2=(y+x+back)%B64:=⟨_,rfl⟩;obtain⟨c2,hc2⟩: ∃c2,c2=(y+x+back)/B64:=⟨_,rfl⟩;have m4:Zq Tryz.prog Zo 203 [.int .u64 (y:Int),.int .u64 (x:Int),.int .u64 (back:Int)] H5=some (.tuple #[.int .u64 (y2:Int),.int .u64 (c2:Int)],H5):=by rw[hy2,hc2];exact Bt y x back H5 hbk
    have hdm:B64*c2+y2=y+x+back:=by rw[hy2,hc2];exact Nat.div_add_mod _ _
    have hc1:c2≤1:=by
     have:c2<2:=by rw[hc2,Nat.div_lt_iff_lt_mul (by decide)];omega
     omega
    obtain⟨H6,sto,own6,kb6,ka6⟩:=own.segstore hj (i:=i) (by simp;omega) y2;rw[hud,Ui L1 y y2 _ hL1]at own6;apply Zb;intro b3 hb3;apply Zt;apply Zb;intro b4 hb4;apply Za;simp[t166,t168,a1,d1];subst hb4;apply Za;simp[t0,t21,a2,d2,m4,sto];subst hb3;apply Za;simp[t168,Xp (x:=i) (by omega)];apply hQ';refine⟨m-1,by omega,rfl,by simp[t0],by simp[t5],by simp[t6],kb.trans kb6,ka.trans ka6,by simp[t166],by simp[t167],i+1,L1++[y2],c2,by omega,by simp[hL1],dL1.append (.cons (by rw[hy2];exact Nat.mod_lt _ (by decide)) (.nil _)),hc1,?_,by simpa using own6,by simp,by simp⟩;rw[Yy,hL1,Qp (xs:=vs) (by omega),Qp (xs:=us') (by omega),Yy,Yy,List.length_take,List.length_take,Nat.min_eq_left (by omega),Nat.min_eq_left (by omega),←hxe,←hye];simp only[dv,Nat.mul_zero,Nat.add_zero];have e1:B64^i*(B64*c2+y2)=B64^i*(y+x+back):=by rw[hdm]
    rw[Nat.mul_add,←Nat.mul_assoc (B64^i) B64,show B64^i*B64=B64^(i+1)from rfl,Nat.mul_add,Nat.mul_add]at e1;omega
   ·refine Zc (t:=false) (by simp[hi]) ?_;apply Xy;apply hQ';left;obtain rfl:i=n:=by omega
    have e1:vs.take i=vs:=by rw[←hvs,List.take_length]
    rw[e1,←hV]at heq2;exact⟨rfl,hQ'' _ ⟨rfl,by simp[t0],by simp[t5],by simp[t6],kb,ka,L1,back,hL1,dL1,hbk,heq2,own,by simp[t21]⟩⟩
  clear t0 t1 t5 t6 t13 t14;rintro⟨k,tm,H5⟩ ⟨hk,t0,t5,t6,kb,ka,L2,back,hL2,dL2,hbk,heq2,own,t21⟩;simp only at hk t0 t5 t6 kb ka own t21;subst hk;have hdn2:us'.drop n=[y']:=by rw[hus',←hL];simp
  rw[hdn2]at own;have d3:Ys Tryz.prog H5 101 (adr U0 (j+n))=some (.int .u64 (y':Int)):=by have:=own.segload hj (i:=n) (by simp;omega);rw[this,Zk7 L2 y' [] hL2]
  obtain⟨z,hz⟩: ∃z,z=(y'+back)%B64:=⟨_,rfl⟩;obtain⟨t,ht⟩: ∃t,t=(y'+back)/B64:=⟨_,rfl⟩;have hzt:B64*t+z=y'+back:=by rw[hz,ht];exact Nat.div_add_mod _ _
  have hzB:z<B64:=by rw[hz];exact Nat.mod_lt _ (by decide)
  have ma:Zd .add .u64 (y':Int) (back:Int)=some (.int .u64 (z:Int)):=by rw[Fz,hz]
  obtain⟨H6,sto6,own6,kb6,ka6⟩:=own.segstore hj (i:=n) (by simp;omega) z;rw[Ui L2 y' z [] hL2]at own6;have dz:Dig B64 (L2++[z]):=dL2.append (.cons hzB (.nil _));have fin:dv B64 (L2++[z])=U%V:=by
   have hlt2:dv B64 (L2++[z])<B64^(n+1):=by have:=Vh dz;simpa[hL2]using this
   have hus2:dv B64 us'=dv B64 (us'.take n)+B64^n*y':=by have:=congrArg (dv B64) seg1;rw[hdn2,Yy,List.length_take,Nat.min_eq_left (by omega)]at this;rw[←this];simp[dv]
   have e0:dv B64 (L2++[z])=dv B64 L2+B64^n*z:=by rw[Yy,hL2];simp[dv]
   have e1:B64^n*(B64*t+z)=B64^n*(y'+back):=by rw[hzt]
   rw[Nat.mul_add,←Nat.mul_assoc (B64^n) B64,show B64^n*B64=B64^(n+1)from rfl,Nat.mul_add]at e1;have ht1:t≤1:=by
    have:t<2:=by rw[ht,Nat.div_lt_iff_lt_mul (by decide)];omega
    omega
   have hm:U%V<B64^(n+1):=Nat.lt_of_le_of_lt (Nat.mod_le _ _) hUlt;have hmod:U%V<V:=Nat.mod_lt _ Vpos;rcases Nat.lt_or_ge t 1 with h0|h0
   ·exfalso;obtain rfl:t=0:=by omega
    rw[Nat.mul_zero]at e1;omega
   ·obtain rfl:t=1:=by omega
    rw[Nat.mul_one]at e1;omega
  apply Za;simp[t0,t5,t21,an,d3,ma,sto6];subst hb1';apply Zb;intro b1 hb1';apply Za;simp[t6];subst hb1';apply Zm;simp;exact⟨kb.trans kb6,ka.trans ka6,L2++[z],by simp[hL2],dz,fin,by simpa using own6⟩
end
theorem Keep.top{H0 H:AH}(k:Keep H0 H):Keep H0 H.top:=⟨k.n,by have:=k.n;show min H0.lw H0.n≤H.n;omega,k.blk⟩
theorem Ce(H:AH):Keep H H.top:=(Keep.refl H).top
theorem Sl.top{H:AH}{v:Value}{xs:List Nat}(h:Sl H v xs):Sl H.top v xs:=h.keep (Ce H)
theorem Own.top{n:Nat}{H:AH}{v:Value}{xs:List Nat}(h:Own n H v xs):Own n H.top v xs:=h.mono (Nat.le_refl _) (Ce H)
theorem Zk{H:AH}{bits:Nat}{ms:List (Nat×Nat×Nat)}(h:hidden bits ms=[]):vis H bits ms=H.top:=by unfold vis;rw[h];rfl
theorem Zj0(t:Tr Blk)(H2:AH)(n:Nat): ∀(k j:Nat),(addT t H2 n k).get j=if n≤j∧j<n+k then some (H2.blk j)else t.get j
 |0,j=>by rw[if_neg (by omega)];rfl
 |k+1,j=>by
  simp only[addT,Tr.get_set];by_cases e:j=n+k;·subst e;rw[if_pos rfl,if_pos (by omega)]
  ·rw[if_neg e,Zj0 t H2 n k j];by_cases c:n≤j∧j<n+k;·rw[if_pos c,if_pos (by omega)]
   ·rw[if_neg c,if_neg (by omega)]
theorem Yh{H H2:AH}(k:Keep H.top H2):But none H2 (grown H H2):=by
 refine⟨rfl,fun j hj _=>?_⟩;unfold AH.blk grown;simp only[Zj0];by_cases c:H.n≤j;·have:=k.n;have:H.n≤H2.n:=this;rw[if_pos (by omega)];rfl
 ·rw[if_neg (by omega)];exact(k.blk j (by show j<H.n;omega)).symm
theorem Zw{H0 H H2:AH}(k0:Keep H0 H)(k:Keep H.top H2):Keep H0 (grown H H2):=by
 refine⟨Nat.le_trans k0.n k.n,k0.lw,fun j hj=>?_⟩;have hn:=k0.n;have:j<H.n:=by omega
 unfold grown AH.blk;simp only[Zj0];rw[if_neg (by omega)];exact k0.blk j hj
theorem Yx{H H2:AH}(k:Keep H.top H2):H.n≤H2.lw:=by have:=k.lw;have:min H.n H.n≤H2.lw:=this;omega
theorem low_but(H H2:AH):But none H2 (low H H2):=⟨rfl,fun j _ _=>rfl⟩
theorem low_ka{n0:Nat}{H H2:AH}(h:KA n0 H.top H2):KA n0 H (low H H2):=fun H0 k hn=>by have k2:=h H0 k.top hn;refine⟨k2.n,?_,k2.blk⟩;have:=k.lw;have:=k2.lw;show min H0.lw H0.n≤min H.lw H2.lw;omega
theorem But.none{b:Option Nat}{H H' H2:AH}(k:But b H H')(k2:But none H' H2):But b H H2:=⟨k2.n.trans k.n,fun j hn hj=>(k2.blk j (by rw[k.n];exact hn) (fun e=>by cases e)).trans (k.blk j hn hj)⟩
theorem Sl.same{H H':AH}{v:Value}{xs:List Nat}(h:Sl H v xs)(k:But none H H'):Sl H' v xs:=h.but k fun c e=>by cases e
theorem Own.same{n:Nat}{H H':AH}{v:Value}{xs:List Nat}(h:Own n H v xs)(k:But none H H'):Own n H' v xs:=h.but k fun c e=>by cases e
theorem But.top{b:Option Nat}{H H':AH}(k:But b H.top H'):But b H H':=⟨k.n,k.blk⟩
theorem Own.store_lw{n:Nat}{H H':AH}{v:Value}{xs:List Nat}(h:Own n H v xs){i:Nat}(hi:i<xs.length){y:Nat}(st:Xt Tryz.prog H.top 101 (adr v i) (.int .u64 (y:Int))=some H'):H'.lw<H.n:=by cases h with
 |nil=>cases hi
 |mk b o cap xs cs h1 h2 h3 h4 h5 h6=>unfold Xt adr at st;simp only[sU64]at st;have h4':H.top.blk b= .rw 1 cs:=h4;rw[show Nat.beq (Value.int .u64 (y:Int)).cells.size 1=true from rfl,cond_true,AH.write_def,h4']at st;simp only at st;cases hc:(Nat.ble (o+i+(Value.int .u64 (y:Int)).cells.toList.length) cs.length&&(Value.int .u64 (y:Int)).cells.toList.all one)with|false=>rw[hc]at st;cases st|true=>rw[hc,cond_true]at st;cases st;show min H.n b<H.n;omega
theorem Own.putTop{n:Nat}{H:AH}{v:Value}{xs:List Nat}(h:Own n H v xs){i:Nat}(hi:i<xs.length)(y:Nat): ∃H2,Xt Tryz.prog H.top 101 (adr v i) (.int .u64 (y:Int))=some H2∧H2.n=H.n∧H2.lw<H.n∧Own n (low H H2) v (xs.set i y)∧But (Qi v) H (low H H2)∧KA n H (low H H2):=by obtain⟨H2,h1,h2,h3,h4,h5⟩:=h.top.put hi y;exact⟨H2,h1,h3,h.store_lw hi h1,h2.same (low_but H H2),(But.none (b:=Qi v) (H:=H) (H':=H2) ⟨h3,fun j _ hj=>h4 j hj⟩ (low_but H H2)),low_ka h5⟩
theorem hideT_get(t:Tr Blk): ∀(hs:List Nat)(j:Nat),j∉hs→(Fo t hs).get j=t.get j|[],j,_=>rfl|i::r,j,h=>by simp only[Fo,Tr.get_set];rw[if_neg (by intro e;subst e;exact h (List.mem_cons_self ..))];exact hideT_get t r j (fun h'=>h (List.mem_cons_of_mem _ h'))
theorem hidden_ge{n bits:Nat} : ∀{ms:List (Nat×Nat×Nat)},(∀x∈ms,n≤x.2.1)→ ∀i∈hidden bits ms,n≤i
 |[],_,i,h=>by cases h
 |(k,lo,hi)::r,hm,i,h=>by have ih:=hidden_ge (bits:=bits) (ms:=r) (fun x hx=>hm x (List.mem_cons_of_mem _ hx)) i;have h0:n≤lo:=hm (k,lo,hi) (List.mem_cons_self ..);unfold hidden at h;cases hb:bits.testBit k with
  |true=>rw[hb,cond_true]at h;exact ih h
  |false=>
   rw[hb,cond_false]at h;rcases List.mem_append.mp h with h|h;·obtain⟨a,_,rfl⟩:=List.mem_map.mp h;omega
   ·exact ih h
theorem Qw{H0 H:AH}{bits:Nat}{ms:List (Nat×Nat×Nat)}(k:Keep H0 H)(h: ∀x∈ms,H0.n≤x.2.1):Keep H0 (vis H bits ms):=by have k2:=k.top;refine⟨k2.n,k2.lw,fun j hj=>?_⟩;rw[←k.blk j hj];unfold vis AH.blk;simp only;rw[hideT_get];intro hm;have:=hidden_ge h j hm;omega
theorem conv_lz{n:Nat}(h:n≤64):Dy Tryz.prog 3 228 (.int .i64 (64-(n:Int)))=some (.int .u64 ((64-n:Nat):Int)):=by have:=Zf9 (n:=64-n) (by show _<18446744073709551616;omega);rw[←this];congr 2;omega
theorem blen64{x:Nat}(hx:x<B64):Zf x≤64:=by
 rcases Nat.lt_or_ge 64 (Zf x)with h|h
 ·have h0:x≠0:=by rintro rfl;simp[Zf]at h
  have a:=Ug h0;have b:2^64≤2^(Zf x-1):=Nat.pow_le_pow_right (by decide) (by omega);have hx:x<18446744073709551616:=hx;omega
 ·exact h
theorem Fg(xs:List Nat)(j:Nat)(h:j≤xs.length):dv B64 xs=dv B64 (xs.take j)+B64^j*dv B64 (xs.drop j):=by have:=congrArg (dv B64) (List.take_append_drop j xs);rw[Yy,List.length_take,Nat.min_eq_left h]at this;exact this.symm
theorem normal_top{xs:List Nat}(dx:Dig B64 xs)(tx:Xm xs=xs)(h:0<xs.length):0<xs[xs.length-1]:=by
 rcases Nat.eq_zero_or_pos (xs[xs.length-1])with h0|h0
 ·exfalso;have hs:=As (n:=xs.length-1) (xs:=xs) (by omega);have e:xs=xs.take (xs.length-1)++[0]:=by rw[h0]at hs;exact hs
  have:=congrArg Xm e;rw[Kv,tx]at this;have:=congrArg List.length this;have:=Jj (xs.take (xs.length-1));rw[List.length_take]at this;omega
 ·exact h0
theorem normal_ge{xs:List Nat}(dx:Dig B64 xs)(tx:Xm xs=xs)(h:0<xs.length):B64^(xs.length-1)≤dv B64 xs:=by rw[Fg xs (xs.length-1) (by omega),List.drop_eq_getElem_cons (by omega),List.drop_eq_nil_of_le (by omega)];have:=normal_top dx tx h;simp only[dv,Nat.mul_zero,Nat.add_zero];have:B64^(xs.length-1)*1≤B64^(xs.length-1)*xs[xs.length-1]:=Nat.mul_le_mul_left _ (by omega);omega
theorem normal_ds{xs:List Nat}(dx:Dig B64 xs)(tx:Xm xs=xs):xs=ds B64 (dv B64 xs):=by rw[←Qr Yf dx,tx]
theorem shift_top{ys:List Nat}(dy:Dig B64 ys)(ty:Xm ys=ys){n:Nat}(hn:ys.length=n)(h2:0<n){s:Nat}(hs:s=64-Zf (ys[n-1]'(by omega))):s<64∧dv B64 ys*2^s<B64^n:=by
 subst hn;have h0:=normal_top dy ty (by omega);have hB:=dy.get (List.getElem?_eq_getElem (show ys.length-1<ys.length by omega));have hbl:=blen64 hB;have hbl0:0<Zf (ys[ys.length-1]):=by unfold Zf;rw[if_neg (by omega)];omega
 refine⟨by omega,?_⟩;have hlt:=Vx (ys[ys.length-1]);have e:=Fg ys (ys.length-1) (by omega);rw[List.drop_eq_getElem_cons (by omega),List.drop_eq_nil_of_le (by omega)]at e;simp only[dv,Nat.mul_zero,Nat.add_zero]at e;have hl:=Vh (dy.take (ys.length-1));rw[List.length_take,Nat.min_eq_left (by omega)]at hl;generalize ys[ys.length-1]=y at*;have h1:dv B64 ys<B64^(ys.length-1)*2^Zf y:=by have:B64^(ys.length-1)*(y+1)≤B64^(ys.length-1)*2^Zf y:=Nat.mul_le_mul_left _ hlt;rw[Nat.mul_succ]at this;omega
 have h3:dv B64 ys*2^s<B64^(ys.length-1)*2^Zf y*2^s:=Nat.mul_lt_mul_of_pos_right h1 (Nat.two_pow_pos s);have h4:B64^(ys.length-1)*2^Zf y*2^s=B64^ys.length:=by rw[Nat.mul_assoc,←Nat.pow_add,hs,show Zf y+(64-Zf y)=64 by omega];obtain⟨m,hm⟩: ∃m,ys.length=m+1:=⟨ys.length-1,by omega⟩;rw[hm,Nat.add_sub_cancel,show(2:Nat)^64=B64 by decide];rfl
 rwa[h4]at h3
section
attribute [-simp] Int.natCast_add Int.natCast_mul Int.natCast_ediv Int.natCast_emod Int.natCast_pow
attribute [local simp] strip Ye LW' LR gW Yk Xc Zz Xd Yn Xe Zr Zs Zg Yo Yz Yj Yp Zh Xa Ze opd Qd Yl plain Yg Tr.get_set Qb Zp Xv Yc sameKind undef Zu Yr Yw Zn Qa Jl Yb parts Jf unV DW Xl Zy LX Zx
def Zi9(n0:Nat)(H:AH)(A B:Nat)(v:Value)(H':AH):Prop:=Keep H H'∧ ∃q r,v= .tuple #[q,r]∧Own H.n H' q (ds B64 (A/B))∧Own n0 H' r (ds B64 (A%B))∧Kl q r
theorem Gu{n m:Nat}{H H':AH}{v w:Value}{xs ys:List Nat}(a:Own n H v xs)(b:Own m H' w ys)(h:H.n≤m):Kl v w:=fun c hc hc'=>by have:=(a.blk_lo hc).2;have:=(b.blk_lo hc').1;omega
theorem cmpN_lt{a b:Nat} :(Vn a b<0)↔a<b:=by
 unfold Vn;split;·simp;assumption
 ·split<;>simp<;>omega
theorem lss0{a:Int} :Zd .lss .i64 a 0=some (.bool (decide (a<0))):=rfl
def sndC:Code→Code| .seq _ b=>b|c=>c
def divideTail:Code:=sndC (sndC (sndC (Tryz.f193.body.getD .skip)))
set_option maxHeartbeats 2000000 in theorem divide_one{n0:Nat}{H:AH}{va vb:Value}{xs ys:List Nat}(ha:Own n0 H va xs)(hb:Sl H vb ys)(hn0:n0≤H.n)(dx:Dig B64 xs)(dy:Dig B64 ys)(tx:Xm xs=xs)(ty:Xm ys=ys)(lx:xs.length≤17592186040000)(ly:ys.length≤17592186040000)(hy:0<ys.length)(rest: ∀tm:Tr Value,tm.get 0=some va→tm.get 1=some vb→2≤ys.length→dv B64 ys≤dv B64 xs→W Tryz.prog Zo divideTail ⟨104,tm,H⟩ fun ex s=>(ex= .norm∨ex= .ret)∧ ∃vs,Zu Tryz.prog s Tryz.f193.results.toList=some vs∧Zi9 n0 H (dv B64 xs) (dv B64 ys) (Yw vs) s.H):CW Tryz.prog Zo 193 [va,vb] H (Zi9 n0 H (dv B64 xs) (dv B64 ys)):=by
 refine Zj 104 (by decide) (by decide) Tryz.func193 rfl rfl ?_;obtain⟨v1,H1,hc1,e1,e2⟩:=Ff ha.sl hb dx dy (by omega) (by omega);subst e1;subst e2;have Bpos:0<dv B64 ys:=Nat.lt_of_lt_of_le (Nat.pow_pos (by decide)) (normal_ge dy ty hy);have lenb:=hb.len Zn;have lena:=ha.sl.len Zn;apply Zb;intro b1 hb1;apply Za;simp;subst hb1;apply Zb;intro b1 hb1;apply Zb;intro b2 hb2;apply Za;simp[hc1,lss0,cmpN_lt];subst hb2;by_cases hlt:dv B64 xs<dv B64 ys
 ·refine Zc (t:=true) (by simp[hlt]) ?_;apply Zb;intro b2 hb2;apply Za;simp;subst hb2;apply Zm;simp[Xo];refine⟨.refl H1,_,_,rfl,?_,?_,fun c hc=>by cases hc⟩;·rw[Nat.div_eq_of_lt hlt,Jb];exact .nil
  ·rw[Nat.mod_eq_of_lt hlt,←normal_ds dx tx];exact ha
 ·refine Zc (t:=false) (by simp[hlt]) ?_;apply Zi;subst hb1;apply Zb;intro b1 hb1;apply Zb;intro b2 hb2;apply Za;simp[lenb];subst hb2;by_cases h1:ys.length=1
  ·refine Zc (t:=true) (by simp[h1]) ?_;obtain⟨y,rfl⟩: ∃y,ys=[y]:=by match ys,h1 with|[y],_=>exact⟨y,rfl⟩
   have hyB:y<B64:=dy.head;have eB:dv B64 [y]=y:=by simp[dv]
   rw[eB]at Bpos hlt⊢;obtain⟨q0,H2,hmk,k2,o2,n2⟩:=Xz (H:=H1) Zn (n:=xs.length) (by omega);have hx0:0<xs.length:=by
    rcases Nat.eq_zero_or_pos xs.length with h|h;·exfalso;have:xs=[]:=List.length_eq_zero_iff.mp h;subst this;exact hlt Bpos
    ·exact h
   have w1:Zd .sub .i64 (xs.length:Int) 1=some (.int .i64 ((xs.length:Int)-1)):=by rw[Gn (by omega) hx0];congr 2;omega
   apply Zb;intro b2 hb2;apply Za;simp[lena,hmk];subst hb2;refine Qs (fun s'=>s'.k=104∧Keep H1 s'.H∧ ∃(L:List Nat) (r:Nat),L.length=xs.length∧Dig B64 L∧r<y∧dv B64 xs=y*dv B64 L+r∧Own H1.n s'.H q0 L∧s'.tm.get 6=some q0∧s'.tm.get 7=some (.int .u64 (r:Int))) ?_ ?_
   ·intro Q'' hQ'';apply Zb;intro b2 hb2;apply Za;simp[lena,w1];subst hb2;apply Zt;refine Xw (fun m s'=>s'.k=104∧Keep H1 s'.H∧m≤xs.length∧ ∃(L:List Nat) (r:Nat),L.length+m=xs.length∧Dig B64 L∧r<y∧dv B64 (xs.drop m)=y*dv B64 L+r∧Own H1.n s'.H q0 (List.replicate m 0++L)∧s'.tm.get 0=some va∧s'.tm.get 1=some vb∧s'.tm.get 6=some q0∧s'.tm.get 7=some (.int .u64 (r:Int))∧s'.tm.get 8=some (.int .i64 ((m:Int)-1))) ?_ xs.length _ ⟨rfl,k2,Nat.le_refl _,[],0,by simp,.nil _,Bpos,by simp[dv],by simpa using o2,by simp,by simp,by simp,by simp,by simp⟩;rintro m ⟨k,tm,H3⟩ ⟨hk,k3,hm,L,r,hL,dL,hr,heq,own,t0,t1,t6,t7,t8⟩ Q' hQ';simp only at hk k3 own t0 t1 t6 t7 t8;subst hk;apply Zb;intro b3 hb3;apply Zb;intro b4 hb4;apply Za;have hge:Zd .geq .i64 ((m:Int)-1) 0=some (.bool (decide (0<m))):=by show some (Value.bool (decide ((m:Int)-1≥0)))=_;congr 2;apply decide_eq_decide.mpr;omega
    simp[t8,hge];subst hb4;by_cases hm0:m=0;·subst hm0;refine Zc (t:=false) (by simp) ?_;apply Xy;apply hQ';left;exact⟨rfl,hQ'' _ ⟨rfl,k3,L,r,by omega,dL,hr,by simpa using heq,by simpa using own,by simp[t6],by simp[t7]⟩⟩
    ·refine Zc (t:=true) (by simp;omega) ?_;apply Zi;subst hb3;have em:(m:Int)-1=((m-1:Nat):Int):=by omega
     rw[em]at t8;have hi:m-1<xs.length:=by omega
     have sa:=(ha.sl.keep k3);have sb:=(hb.keep k3);have a1:=sa.adr Zn (k:= .i64) hi;have d1:=sa.top.load hi;have a2:Yu Tryz.prog 30 vb (.int .i64 0)=some (adr vb 0):=sb.adr Zn (k:= .i64) (i:=0) (by simp);have d2:Ys Tryz.prog H3.top 101 (adr vb 0)=some (.int .u64 (y:Int)):=sb.top.load (i:=0) (by simp);have hxB:xs[m-1]<B64:=dx.get (List.getElem?_eq_getElem hi);obtain⟨x,hxe⟩: ∃x,x=xs[m-1]:=⟨_,rfl⟩;rw[←hxe]at d1 hxB;have dc:=Zh1 hr hxB hyB H3.top;obtain⟨q,hq⟩: ∃q,q=(r*B64+x)/y:=⟨_,rfl⟩;obtain⟨r',hr'⟩: ∃r',r'=(r*B64+x)%y:=⟨_,rfl⟩;rw[←hq,←hr']at dc;have a3:=own.sl.adr Zn (k:= .i64) (i:=m-1) (by simp;omega);obtain⟨H4,st4,n4,lw4,own4,bt4,kp4⟩:=own.putTop (i:=m-1) (by simp;omega) q;have hdrop:xs.drop (m-1)=x::xs.drop m:=by rw[List.drop_eq_getElem_cons hi,show m-1+1=m by omega,←hxe]
     apply Zb;intro b3 hb3;apply Zt;apply W_rws (by kernel_rfl);simp[t0,t1,t6,t7,t8,a1,a2,d1,d2,dc,a3,st4,n4,lw4,Zx];subst hb3;have w2:Zd .sub .i64 ((m-1:Nat):Int) 1=some (.int .i64 (((m-1:Nat):Int)-1)):=by show some (Value.int .i64 (IntKind.i64.wrap (((m-1:Nat):Int)-1)))=_;congr 2;rw[IntKind.wrap_i64];omega
     apply Za;simp[t8,w2];apply hQ';refine⟨m-1,by omega,rfl,kp4 H1 k3 (Nat.le_refl _),by show m-1≤_;omega,q::L,r',by simp;omega,.cons ?_ dL,?_,?_,?_,by simp[t0],by simp[t1],by simp[t6],by simp,by simp⟩;·rw[hq,Nat.div_lt_iff_lt_mul Bpos];have:(r+1)*B64≤y*B64:=Nat.mul_le_mul_right _ hr;rw[Nat.succ_mul]at this;rw[Nat.mul_comm B64 y];omega
     ·rw[hr'];exact Nat.mod_lt _ Bpos
     ·rw[hdrop];simp only[dv];rw[heq];have e:=Nat.div_add_mod (r*B64+x) y;rw[←hq,←hr']at e;rw[Nat.mul_add,Nat.mul_add,←Nat.mul_assoc,Nat.mul_comm B64 y,Nat.mul_assoc];rw[Nat.mul_comm r B64]at e;omega
     ·have hrep:List.replicate m 0++L=List.replicate (m-1) 0++0::L:=by obtain⟨m',rfl⟩: ∃m',m=m'+1:=⟨m-1,by omega⟩;rw[List.replicate_succ'];simp
      rw[hrep,Ui _ _ _ _ (by simp)]at own4;exact own4
   rintro⟨k,tm,H3⟩ ⟨hk,k3,L,r,hL,dL,hr,heq,own,t6,t7⟩;simp only at hk k3 own t6 t7;subst hk;obtain⟨v4,H4,hc4,k4,o4⟩:=Kd own.sl (by omega);obtain⟨v5,H5,hc5,k5,o5⟩:=Fy (x:=r) (H:=H4) (by omega);apply Zb;intro b hb;apply Za;simp[t6,t7,hc4,hc5];subst hb;apply Zm;simp[Xo];have hdiv:dv B64 xs/y=dv B64 L:=by rw[heq,Nat.mul_add_div Bpos,Nat.div_eq_of_lt hr,Nat.add_zero]
   have hmod:dv B64 xs%y=r:=by rw[heq,Nat.mul_add_mod,Nat.mod_eq_of_lt hr]
   rw[Qr Yf dL]at o4;refine⟨(k3.trans k4).trans k5,v4,v5,rfl,?_,?_,Gu o4 o5 (Nat.le_refl _)⟩;·rw[hdiv];exact o4.mono k3.n k5
   ·rw[hmod];exact o5.mono (Nat.le_trans hn0 (k3.trans k4).n) (.refl H5)
  ·refine Zc (t:=false) (by simp;omega) ?_;apply Zi;subst hb1;exact rest _ (by simp) (by simp) (by omega) (Nat.le_of_not_lt hlt)
end
theorem Own.n_lt{n:Nat}{H:AH}{v:Value}{xs:List Nat}(h:Own n H v xs)(h0:0<xs.length):n<H.n:=by cases h with|nil=>cases h0|mk b o cap xs cs h1 h2 h3 h4 h5 h6=>omega
theorem blt_of{a b:Nat}(h:a<b):Nat.blt a b=true:=by rw[Nat.blt_eq];exact h
theorem Xb{bits:Nat} : ∀{ms:List (Nat×Nat×Nat)},(∀x∈ms,bits.testBit x.1=true)→hidden bits ms=[]|[],_=>rfl|(k,lo,hi)::r,h=>by have h1:bits.testBit k=true:=h (k,lo,hi) (List.mem_cons_self ..);unfold hidden;rw[h1,cond_true];exact Xb fun x hx=>h x (List.mem_cons_of_mem _ hx)
def cutTo(v:Value)(m:Nat):Value:=match v with| .slice a _ c=> .slice a m c|v=>v
theorem Sl.cutTo{H:AH}{v:Value}{xs:List Nat}(h:Sl H v xs){t:TypeId}(ht:LT t){m:Nat}(hm:m≤xs.length)(h0:0<xs.length):Uz Tryz.prog H t v none (some (.int .i64 (m:Int))) none=some (cutTo v m)∧Sl H (Go.Proofs.YtmkfecoeghokfaaGreatDoor.cutTo v m) (xs.take m):=by cases h with
 |nil=>cases h0
 |emp b=>cases h0
 |mk b o cap xs h1 h2=>
  have hl:(xs.take m).length=m:=by rw[List.length_take];omega
  obtain⟨h2a,cs,h3,h4,h5⟩:=h2;have hs:Sl H (.slice (some ⟨b,o,none⟩) (xs.take m).length cap) (xs.take m):= .mk b o cap _ (by omega) ⟨h2a,cs,h3,h4,fun i x hx=>h5.1 i x (by
   rw[List.getElem?_take]at hx;split at hx;·exact hx
   ·cases hx),h5.2⟩;rw[hl]at hs;refine⟨?_,hs⟩;unfold Uz;simp only[ht.1,sU64];unfold cutV Qt;simp only[h4,Option.isSome_some,Option.isNone_none,Bool.true_or];rw[if_pos (by omega)];have e1:Nat.ble m cap=true:=Nat.ble_eq.mpr (by omega);simp[Qt,e1,Go.Proofs.YtmkfecoeghokfaaGreatDoor.cutTo]
theorem knuth_step{X vs:List Nat}{j n:Nat}(dX:Dig B64 X)(hj:j+n+1≤X.length)(dvs:Dig B64 vs)(hvs:vs.length=n)(hlt:dv B64 (X.drop (j+1))<dv B64 vs):dv B64 ((X.drop j).take (n+1))=dv B64 (X.drop j)∧dv B64 ((X.drop j).take (n+1))<dv B64 vs*B64∧dv B64 (X.drop (j+n+1))=0:=by
 have hV:=Vh dvs;rw[hvs]at hV;have e1:dv B64 (X.drop (j+1))=dv B64 ((X.drop (j+1)).take n)+B64^n*dv B64 ((X.drop (j+1)).drop n):=Fg _ n (by rw[List.length_drop];omega);have z:dv B64 ((X.drop (j+1)).drop n)=0:=by
  rcases Nat.eq_zero_or_pos (dv B64 ((X.drop (j+1)).drop n))with h|h;·exact h
  ·exfalso;have:B64^n*1≤B64^n*dv B64 ((X.drop (j+1)).drop n):=Nat.mul_le_mul_left _ h;omega
 rw[List.drop_drop]at z;have z':dv B64 (X.drop (j+n+1))=0:=by rw[show j+n+1=j+1+n by omega];exact z
 have e2:=Fg (X.drop j) (n+1) (by rw[List.length_drop];omega);rw[List.drop_drop,show j+(n+1)=j+n+1 by omega,z',Nat.mul_zero,Nat.add_zero]at e2;refine⟨e2.symm,?_,z'⟩;rw[←e2,List.drop_eq_getElem_cons (by omega)];have hx:X[j]<B64:=dX.get (List.getElem?_eq_getElem (by omega));have:(dv B64 (X.drop (j+1))+1)*B64≤dv B64 vs*B64:=Nat.mul_le_mul_right _ hlt;rw[Nat.succ_mul]at this;simp only[dv];rw[Nat.mul_comm B64];omega
section
attribute [-simp] Int.natCast_add Int.natCast_mul Int.natCast_ediv Int.natCast_emod Int.natCast_pow
attribute [local simp] strip Ye LW' LR gW Yk Xc Zz Xd Yn Xe Zr Zs Zg Yo Yz Yj Yp Zh Xa Ze opd Qd Yl plain Yg Tr.get_set Qb Zp Xv Yc sameKind undef Zu Yr Yw Zn Qa Jl Yb parts Jf unV DW Xl Zy LX Zx
set_option maxHeartbeats 4000000 in theorem divide_rest{n0:Nat}{H:AH}{va vb:Value}{xs ys:List Nat}(ha:Own n0 H va xs)(hb:Sl H vb ys)(hn0:n0≤H.n)(dx:Dig B64 xs)(dy:Dig B64 ys)(tx:Xm xs=xs)(ty:Xm ys=ys)(lx:xs.length≤17592186040000)(ly:ys.length≤17592186040000)(tm:Tr Value)(t0:tm.get 0=some va)(t1:tm.get 1=some vb)(h2:2≤ys.length)(hge:dv B64 ys≤dv B64 xs):W Tryz.prog Zo divideTail ⟨104,tm,H⟩ fun ex s=>(ex= .norm∨ex= .ret)∧ ∃vs,Zu Tryz.prog s Tryz.f193.results.toList=some vs∧Zi9 n0 H (dv B64 xs) (dv B64 ys) (Yw vs) s.H:=by
 obtain⟨n,hn⟩: ∃n,n=ys.length:=⟨_,rfl⟩;have hn2:2≤n:=by omega
 have hxn:n≤xs.length:=by
  rcases Nat.lt_or_ge xs.length n with h|h;·have:=Zn0 tx ty dx dy (by omega);omega
  ·exact h
 have lenb:=hb.len Zn;have lena:=ha.sl.len Zn;rw[←hn]at lenb;have s1:Zd .sub .i64 (n:Int) 1=some (.int .i64 ((n-1:Nat):Int)):=Gn (by omega) (by omega);have a1:=hb.adr Zn (k:= .i64) (i:=n-1) (by omega);have d1:=hb.load (i:=n-1) (by omega);obtain⟨y,hy⟩: ∃y,y=ys[n-1]'(by omega):=⟨_,rfl⟩;rw[←hy]at d1;have hyB:y<B64:=by rw[hy];exact dy.get (List.getElem?_eq_getElem (by omega))
 obtain⟨s,hs⟩: ∃s,s=64-Zf y:=⟨_,rfl⟩;have hst:=shift_top dy ty hn.symm (by omega) (s:=s) (by rw[hs,hy]);obtain⟨h64,hVlt⟩:=hst;have hlz:Zq Tryz.prog Zo 216 [.int .u64 (y:Int)] H=some (.int .i64 (64-(Zf y:Int)),H):=by obtain⟨v,H',h,rfl,rfl⟩:=lz_spec hyB (H:=H);exact h
 have hcv:=conv_lz (blen64 hyB);rw[←hs]at hcv;have hge1:=normal_ge dy ty (by omega);rw[←hn]at hge1;show W _ _ (.seq (.region 10 _ _) _) _ _;apply Zb;intro b hb1;apply Za;simp[t1,lenb,s1,a1,d1,hlz,hcv];subst hb1;obtain⟨u0,H2,hu,ku,us0,ou,du,lu,vu⟩:=up_spec (H:=H.top) ha.sl.top dx (by omega) h64;have ou1:Own H.n (grown H H2) u0 us0:=ou.same (Yh ku);have k1:Keep H (grown H H2):=Zw (.refl H) ku;have n1:H.n<H2.n:=ou.n_lt (by omega);obtain⟨G1,hG1⟩: ∃G1,G1=grown H H2:=⟨_,rfl⟩;have nG1:G1.n=H2.n:=by rw[hG1];rfl
 rw[←hG1]at ou1 k1;obtain⟨w0,H3,hw,kw,vs0,ow,dw,lw,vw⟩:=up_spec (H:=G1.top) (hb.keep k1).top dy (by omega) h64;have ow1:Own G1.n (grown G1 H3) w0 vs0:=ow.same (Yh kw);have k2:Keep G1 (grown G1 H3):=Zw (.refl G1) kw;have n2:G1.n<H3.n:=ow.n_lt (by omega);obtain⟨G2,hG2⟩: ∃G2,G2=grown G1 H3:=⟨_,rfl⟩;have nG2:G2.n=H3.n:=by rw[hG2];rfl
 rw[←hG2]at ow1 k2;obtain⟨wv,hsl,ow2⟩:=ow1.top.cut Zn (m:=n) (by omega) (by omega);have ow3:Own G1.n G2 wv (vs0.take n):=ow2.same ⟨rfl,fun _ _ _=>rfl⟩;apply Zb;intro b hb1;apply Qm (by kernel_rfl);simp[t0,t1];refine Yv (v:=u0) (H2:=H2) rfl rfl rfl (by rw[Zk rfl];simp[t0,hu]) (by omega) (Yx ku) ?_;simp[t1,blt_of n1,←hG1];refine Yv (v:=w0) (H2:=H3) rfl rfl rfl (by rw[Zk (by kernel_rfl)];simp[t1,hw]) (by omega) (Yx kw) ?_;simp[t1,blt_of n2,←hG2,lenb];refine Yd (v:=wv) rfl rfl rfl (by rw[Zk (by kernel_rfl)];simp[hsl]) ?_;simp;subst hb1;obtain⟨vs,hvs⟩: ∃vs,vs=vs0.take n:=⟨_,rfl⟩;rw[←hvs]at ow3;have vslen:vs.length=n:=by rw[hvs,List.length_take];omega
 have dvs:Dig B64 vs:=by rw[hvs];exact dw.take n
 have evs:dv B64 vs=dv B64 ys*2^s:=by
  have e:=Fg vs0 n (by omega);rw[vw,←hvs]at e;have:dv B64 (vs0.drop n)=0:=by
   rcases Nat.eq_zero_or_pos (dv B64 (vs0.drop n))with h|h;·exact h
   ·exfalso;have:B64^n*1≤B64^n*dv B64 (vs0.drop n):=Nat.mul_le_mul_left _ h;omega
  rw[this]at e;omega
 have Bpos:0<dv B64 ys:=Nat.lt_of_lt_of_le (Nat.pow_pos (by decide)) hge1;have spos:=Nat.two_pow_pos s;have Vge:B64^(n-1)≤dv B64 vs:=by rw[evs];exact Nat.le_trans hge1 (Nat.le_mul_of_pos_right _ spos)
 have Vpos:0<dv B64 vs:=Nat.lt_of_lt_of_le (Nat.pow_pos (by decide)) Vge;have Vlt:dv B64 vs<B64^n:=by rw[evs];exact hVlt
 have vtop:0<vs[n-1]'(by omega):=by
  rcases Nat.eq_zero_or_pos (vs[n-1]'(by omega))with h|h;·exfalso;have e:=Fg vs (n-1) (by omega);rw[List.drop_eq_getElem_cons (by omega),List.drop_eq_nil_of_le (by omega),h]at e;have hl:=Vh (dvs.take (n-1));rw[List.length_take,Nat.min_eq_left (by omega)]at hl;simp[dv]at e;omega
  ·exact h
 have k12:=k1.trans k2;have ou2:Own H.n G2 u0 us0:=ou1.mono (Nat.le_refl _) k2;have apuv:Kl u0 wv:=Gu ou1 ow3 (Nat.le_refl _);have lenv:=ow3.sl.len Zn;rw[vslen]at lenv;obtain⟨M,hM⟩: ∃M,M=xs.length-n+1:=⟨_,rfl⟩;have s2:Zd .sub .i64 (xs.length:Int) (n:Int)=some (.int .i64 ((xs.length-n:Nat):Int)):=sub_i64 (by omega) hxn;have s3:Zd .add .i64 ((xs.length-n:Nat):Int) 1=some (.int .i64 (M:Int)):=by rw[hM];exact Xp (by omega)
 have s4:((xs.length-n:Nat):Int)=(M:Int)-1:=by omega
 obtain⟨q0,H4,hmk,kq,oq,nq⟩:=Xz (H:=G2) Zn (n:=M) (by omega);have apuq:Kl u0 q0:=Gu ou2 oq (Nat.le_refl _);apply Zb;intro b hb1;apply Za;simp[lenv];subst hb1;apply Zb;intro b hb1;apply Za;simp[t0,lena,s2,s3,hmk];subst hb1;refine Qs (fun s'=>s'.k=104∧Keep H s'.H∧ ∃(X L:List Nat),X.length=xs.length+1∧Dig B64 X∧L.length=M∧Dig B64 L∧dv B64 X+dv B64 vs*dv B64 L=dv B64 xs*2^s∧dv B64 X<dv B64 vs∧Own H.n s'.H u0 X∧Own G2.n s'.H q0 L∧s'.tm.get 9=some (.int .u64 (s:Int))∧s'.tm.get 10=some u0∧s'.tm.get 12=some (.int .i64 (n:Int))∧s'.tm.get 13=some q0) ?_ ?_
 ·intro Q'' hQ'';apply Zb;intro b2 hb2;apply Za;simp[t0,lena,s2];subst hb2;apply Zt;have start:dv B64 (us0.drop M)<dv B64 vs:=by
   have e:=Fg us0 M (by omega);rw[vu]at e;have hx:=Vh dx;have h1:dv B64 xs*2^s<B64^xs.length*2^s:=Nat.mul_lt_mul_of_pos_right hx spos;have h3:B64^xs.length*2^s=B64^M*(B64^(n-1)*2^s):=by rw[←Nat.mul_assoc,←Nat.pow_add,show M+(n-1)=xs.length by omega]
   have h4:B64^M*(B64^(n-1)*2^s)≤B64^M*dv B64 vs:=Nat.mul_le_mul_left _ (by rw[evs];exact Nat.mul_le_mul_right _ hge1);have h5:B64^M*dv B64 (us0.drop M)<B64^M*dv B64 vs:=by omega
   exact Nat.lt_of_mul_lt_mul_left h5
  refine Xw (fun m s'=>s'.k=104∧Keep G2 H4∧m≤M∧Keep H s'.H∧Sl s'.H wv vs∧ ∃(X L:List Nat),X.length=xs.length+1∧Dig B64 X∧L.length+m=M∧Dig B64 L∧dv B64 X+B64^m*(dv B64 vs*dv B64 L)=dv B64 xs*2^s∧dv B64 (X.drop m)<dv B64 vs∧Own H.n s'.H u0 X∧Own G2.n s'.H q0 (List.replicate m 0++L)∧s'.tm.get 9=some (.int .u64 (s:Int))∧s'.tm.get 10=some u0∧s'.tm.get 11=some wv∧s'.tm.get 12=some (.int .i64 (n:Int))∧s'.tm.get 13=some q0∧s'.tm.get 14=some (.int .i64 ((m:Int)-1))) ?_ M _ ⟨rfl,kq,Nat.le_refl _,k12.trans kq,ow3.sl.keep kq,us0,[],by omega,du,by simp,.nil _,by simp[dv,vu],start,ou2.mono (Nat.le_refl _) kq,by simpa using oq,by simp,by simp,by simp,by simp,by simp,by simp[s4]⟩;rintro m ⟨k,tm,H5⟩ ⟨hk,_,hm,kH,sv,X,L,hX,dX,hL,dL,heq,hlt,ou,oq,t9,t10,t11,t12,t13,t14⟩ Q' hQ';simp only at hk kH sv ou oq t9 t10 t11 t12 t13 t14;subst hk;apply Zb;intro b3 hb3;apply Zb;intro b4 hb4;apply Za;have hge:Zd .geq .i64 ((m:Int)-1) 0=some (.bool (decide (0<m))):=by show some (Value.bool (decide ((m:Int)-1≥0)))=_;congr 2;apply decide_eq_decide.mpr;omega
  simp[t14,hge];subst hb4;by_cases hm0:m=0;·subst hm0;refine Zc (t:=false) (by simp) ?_;apply Xy;apply hQ';left;exact⟨rfl,hQ'' _ ⟨rfl,kH,X,L,hX,dX,by omega,dL,by simpa using heq,by simpa using hlt,ou,by simpa using oq,by simp[t9],by simp[t10],by simp[t12],by simp[t13]⟩⟩
  ·refine Zc (t:=true) (by simp;omega) ?_;apply Zi;subst hb3;obtain⟨j,rfl⟩: ∃j,m=j+1:=⟨m-1,by omega⟩;have em:((j+1:Nat):Int)-1=(j:Int):=by omega
   rw[em]at t14;have hjX:j+n+1≤X.length:=by omega
   obtain⟨K1,K2,K3⟩:=knuth_step dX hjX dvs vslen hlt;obtain⟨uw,hsl,suw,view,bw⟩:=ou.sl.part Zn (j:=j) (m:=n+1) (by omega) (by omega);have i1:Zd .add .i64 (j:Int) (n:Int)=some (.int .i64 ((j+n:Nat):Int)):=Uf (by omega);have i2:Zd .add .i64 ((j+n:Nat):Int) 1=some (.int .i64 ((j+(n+1):Nat):Int)):=Xp (by omega);have hsplit:X=X.take j++(X.drop j).take (n+1)++X.drop (j+n+1):=by have a:=List.take_append_drop (n+1) (X.drop j);rw[List.drop_drop,show j+(n+1)=j+n+1 by omega]at a;rw[List.append_assoc,a,List.take_append_drop]
   have ljp:(X.take j).length=j:=by rw[List.length_take];omega
   have lus:((X.drop j).take (n+1)).length=n+1:=by rw[List.length_take,List.length_drop];omega
   have ou':=ou;rw[hsplit]at ou';obtain⟨r,H6,hg,hr,bt,ka,us',lus',dus',vus',ou6⟩:=guess_spec ou' ljp lus view ((dX.drop j).take (n+1)) sv apuv vslen hn2 (by omega) dvs vtop K2;subst hr;rw[K1]at vus' hg;have oq6:=oq.but bt apuq;have hrep:List.replicate (j+1) 0++L=List.replicate j 0++0::L:=by rw[List.replicate_succ'];simp
   rw[hrep]at oq6;have a2:=oq6.sl.adr Zn (k:= .i64) (i:=j) (by simp);obtain⟨H7,st7,oq7,n7,b7,ka7⟩:=oq6.put (i:=j) (by simp) (dv B64 (X.drop j)/dv B64 vs);rw[Ui _ _ _ _ (by simp)]at oq7;have kG2:Keep H H5:=kH;have apqu:Kl q0 u0:=fun c hc hc'=>apuq c hc' hc;have apvq:Kl q0 wv:=fun c hc hc'=>by have x1:=(oq.blk_lo hc).1;have x2:=(ow3.blk_lo hc').2;omega
   have bt7:But (Qi q0) H6 H7:=⟨n7,fun i _ hi=>b7 i hi⟩;have ou7:Own H.n H7 u0 (X.take j++us'++X.drop (j+n+1)):=ou6.but bt7 apqu;have sv7:Sl H7 wv vs:=(sv.but bt apuv).but bt7 apvq;have kH7:Keep H H7:=ka7 H (ka H kH (Nat.le_refl _)) (by have:=k12.n;omega);apply Zb;intro b3 hb3;apply Zt;apply Za;simp[t10,t11,t12,t13,t14,i1,i2,hsl,hg,a2,st7];subst hb3;have w2:Zd .sub .i64 (j:Int) 1=some (.int .i64 ((j:Int)-1)):=by show some (Value.int .i64 (IntKind.i64.wrap ((j:Int)-1)))=_;congr 2;rw[IntKind.wrap_i64];omega
   apply Za;simp[t14,w2];apply hQ';have hdX':(X.take j++us'++X.drop (j+n+1)).drop j=us'++X.drop (j+n+1):=by rw[List.append_assoc,List.drop_append_of_le_length (by omega),List.drop_eq_nil_of_le (by omega)];rfl
   have hdv:dv B64 (us'++X.drop (j+n+1))=dv B64 (X.drop j)%dv B64 vs:=by rw[Yy,K3,Nat.mul_zero,Nat.add_zero,vus']
   refine⟨j,Nat.lt_succ_self j,rfl,kq,by show j≤M;omega,kH7,sv7,X.take j++us'++X.drop (j+n+1),dv B64 (X.drop j)/dv B64 vs::L,?_,((dX.take j).append dus').append (dX.drop _),by simp;omega,.cons ?_ dL,?_,?_,ou7,oq7,by simp[t9],by simp[t10],by simp[t11],by simp[t12],by simp[t13],by simp⟩;·simp only[List.length_append,List.length_drop];omega
   ·rw[Nat.div_lt_iff_lt_mul Vpos,Nat.mul_comm,←K1];exact K2
   ·have e1:=Fg X j (by omega);rw[List.append_assoc,Yy,ljp,hdv];have e2:=Nat.div_add_mod (dv B64 (X.drop j)) (dv B64 vs);simp only[dv];generalize dv B64 (X.drop j)/dv B64 vs=q at*;generalize dv B64 (X.drop j)%dv B64 vs=r at*;rw[e1,←e2]at heq;rw[←heq];rw[Nat.mul_add (dv B64 vs) q,Nat.mul_add (B64^j) (dv B64 vs*q) r,Nat.mul_add (B64^j) (dv B64 vs*q),show B64^(j+1)=B64^j*B64 from rfl,Nat.mul_assoc (B64^j) B64,Nat.mul_left_comm (dv B64 vs) B64];omega
   ·rw[hdX',hdv];exact Nat.mod_lt _ Vpos
 rintro⟨k,tm2,H5⟩ ⟨hk,kH,X,L,hX,dX,hL,dL,heq,hlt,ou,oq,t9,t10,t12,t13⟩;simp only at hk kH ou oq t9 t10 t12 t13;subst hk;have e0:dv B64 xs*2^s=dv B64 vs*dv B64 L+dv B64 X:=by rw[←heq];omega
 have hdiv:dv B64 xs/dv B64 ys=dv B64 L:=by rw[←Nat.mul_div_mul_right _ _ spos,e0,←evs,Nat.mul_add_div Vpos,Nat.div_eq_of_lt hlt,Nat.add_zero]
 have hmod:dv B64 X/2^s=dv B64 xs%dv B64 ys:=by
  have:dv B64 xs%dv B64 ys*2^s=dv B64 X:=by rw[←Nat.mul_mod_mul_right,e0,←evs,Nat.mul_add_mod,Nat.mod_eq_of_lt hlt]
  rw[←this,Nat.mul_div_cancel _ spos]
 have hXn:dv B64 (X.take n)=dv B64 X:=by
  have e:=Fg X n (by omega);have:dv B64 (X.drop n)=0:=by
   rcases Nat.eq_zero_or_pos (dv B64 (X.drop n))with h|h;·exact h
   ·exfalso;have:B64^n*1≤B64^n*dv B64 (X.drop n):=Nat.mul_le_mul_left _ h;omega
  rw[this]at e;omega
 obtain⟨qv,H6,hq6,kq6,oq6⟩:=Kd (H:=H5.top) oq.sl.top (by omega);rw[Qr Yf dL,←hdiv]at oq6;obtain⟨G6,hG6⟩: ∃G6,G6=grown H5 H6:=⟨_,rfl⟩;have kG6:Keep H5 G6:=by rw[hG6];exact Zw (.refl H5) kq6
 have nG6:G6.n=H6.n:=by rw[hG6];rfl
 have oqG:Own H5.n G6 qv (ds B64 (dv B64 xs/dv B64 ys)):=by rw[hG6];exact oq6.same (Yh kq6)
 have ouG:=(ou.sl.keep kG6).top;obtain⟨rv,H7,hr7,kr7,or7⟩:=down_spec (H:=G6.top) (ouG.cutTo Zn (m:=n) (by omega) (by omega)).2 (dX.take n) (by rw[List.length_take];omega) h64;rw[hXn,hmod]at or7;have kG7:Keep G6 (grown G6 H7):=Zw (.refl G6) kr7;have orG:Own G6.n (grown G6 H7) rv (ds B64 (dv B64 xs%dv B64 ys)):=or7.same (Yh kr7);have h6n:=kq6.n;have h7n:=kr7.n;apply Zb;intro b hb1;apply Qm (by kernel_rfl);simp[t13];refine Yv (v:=qv) (H2:=H6) rfl rfl rfl (by rw[Zk rfl];simp[hq6]) h6n (Yx kq6) ?_;rw[←hG6];generalize hms:cond (Nat.blt H5.n H6.n) _ _=ms;have hms1: ∀x∈ms,x.1=1∧H5.n≤x.2.1:=by intro x hx;rw[←hms]at hx;cases hbl:Nat.blt H5.n H6.n with|true=>rw[hbl,cond_true]at hx;simp at hx;subst hx;exact⟨rfl,Nat.le_refl _⟩|false=>rw[hbl,cond_false]at hx;cases hx
 simp[t10,t12];refine Yd (v:=cutTo u0 n) rfl rfl rfl ?_ ?_;·have hsv:=fun bits=>((ou.sl.keep (Qw (bits:=bits) kG6 fun x hx=>(hms1 x hx).2)).cutTo Zn (m:=n) (by omega) (by omega)).1;simp[hsv]
 simp[t9];refine Yv (v:=rv) (H2:=H7) rfl rfl rfl ?_ h7n (Yx kr7) ?_;·rw[Zk (Xb fun x hx=>by rw[(hms1 x hx).1];kernel_rfl)];simp[t9,hr7]
 simp;subst hb1;apply Zm;refine⟨.inr rfl,[qv,rv],?_,?_⟩;·simp
 ·exact⟨(kH.trans kG6).trans kG7,qv,rv,rfl,oqG.mono kH.n kG7,orG.mono (by have:=(kH.trans kG6).n;omega) (.refl _),Gu oqG orG (Nat.le_refl _)⟩
theorem divide_spec{n0:Nat}{H:AH}{va vb:Value}{xs ys:List Nat}(ha:Own n0 H va xs)(hb:Sl H vb ys)(hn0:n0≤H.n)(dx:Dig B64 xs)(dy:Dig B64 ys)(tx:Xm xs=xs)(ty:Xm ys=ys)(lx:xs.length≤17592186040000)(ly:ys.length≤17592186040000)(hy:0<ys.length):CW Tryz.prog Zo 193 [va,vb] H (Zi9 n0 H (dv B64 xs) (dv B64 ys)):=divide_one ha hb hn0 dx dy tx ty lx ly hy fun tm t0 t1 h2 hge=>divide_rest ha hb hn0 dx dy tx ty lx ly tm t0 t1 h2 hge
end
structure Mod (b : Option Nat) (H H' : AH) : Prop where
  n : H.n ≤ H'.n
  blk : ∀ j, j < H.n → b ≠ some j → H'.blk j = H.blk j
theorem Mod.refl(b:Option Nat)(H:AH):Mod b H H:=⟨Nat.le_refl _,fun _ _ _=>rfl⟩
theorem Mod.trans{b:Option Nat}{H H1 H2:AH}(x:Mod b H H1)(y:Mod b H1 H2):Mod b H H2:=⟨Nat.le_trans x.n y.n,fun j hn hj=>(y.blk j (Nat.lt_of_lt_of_le hn x.n) hj).trans (x.blk j hn hj)⟩
theorem Keep.mod{H H':AH}(k:Keep H H'):Mod none H H':=⟨k.n,fun j hj _=>k.blk j hj⟩
theorem But.mod{b:Option Nat}{H H':AH}(k:But b H H'):Mod b H H':=⟨Nat.le_of_eq k.n.symm,k.blk⟩
theorem Mod.any{b:Option Nat}{H H':AH}(k:Mod none H H'):Mod b H H':=⟨k.n,fun j hj _=>k.blk j hj (fun e=>by cases e)⟩
theorem Sl.mod{b:Option Nat}{H H':AH}{v:Value}{xs:List Nat}(h:Sl H v xs)(k:Mod b H H')(hb: ∀c,b=some c→Qi v≠some c):Sl H' v xs:=by cases h with|nil=>exact .nil|emp b=>exact .emp b|mk c o cap xs h1 h2=>obtain⟨h3,cs,h4,h5,h6⟩:=h2;have e:=k.blk c h3 fun e=>hb c e rfl;exact .mk c o cap xs h1 ⟨Nat.lt_of_lt_of_le h3 k.n,cs,by unfold AH.cells;rw[e];exact h4,by unfold AH.size;rw[e];exact h5,h6⟩
theorem Own.mod{b:Option Nat}{n0:Nat}{H H':AH}{v:Value}{xs:List Nat}(h:Own n0 H v xs)(k:Mod b H H')(hb: ∀c,b=some c→Qi v≠some c):Own n0 H' v xs:=by cases h with|nil=>exact .nil|mk c o cap xs cs h1 h2 h3 h4 h5 h6=>exact .mk c o cap xs cs h1 h2 (Nat.lt_of_lt_of_le h3 k.n) (by rw[k.blk c h3 fun e=>hb c e rfl];exact h4) h5 h6
theorem AH.blk_kill(H:AH)(i j:Nat):(H.kill i).blk j=if j=i then .dead else H.blk j:=by
 unfold AH.kill AH.blk;simp only[Tr.get_set];by_cases e:j=i;·rw[if_pos e,if_pos e]
 ·rw[if_neg e,if_neg e]
theorem one_limbs(xs:List Nat):(xs.map Gk).all one=true:=by rw[List.all_eq_true];intro v hv;obtain⟨x,_,rfl⟩:=List.mem_map.mp hv;rfl
theorem Own.append{n0:Nat}{H:AH}{v w:Value}{xs ys:List Nat}(h:Own n0 H v xs)(hn:n0≤H.n)(hw:Sl H w ys)(hl:xs.length+ys.length≤17592186044416){t t2:TypeId}(ht:LT t)(ht2:LT t2): ∃v' H',Ve Tryz.prog H t t2 v w=some (v',H')∧Own n0 H' v' (xs++ys)∧Mod (Qi v) H H'∧KA n0 H H':=by
 by_cases h0:ys.length=0
 ·obtain rfl:ys=[]:=List.length_eq_zero_iff.mp h0;refine⟨v,H,?_,by simpa using h,.refl _ _,.refl _ _⟩;have hv: ∃a l c,v= .slice a l c:=by cases h<;>exact⟨_,_,_,rfl⟩
  obtain⟨a,l,c,rfl⟩:=hv;have hwv: ∃a c,w= .slice a 0 c:=by generalize hz:([]:List Nat)=zs at hw;cases hw with|nil=>exact⟨_,_,rfl⟩|emp b=>exact⟨_,_,rfl⟩|mk b o cap xs h1 h2=>subst hz;exact⟨_,_,rfl⟩
  obtain⟨a2,c2,rfl⟩:=hwv;simp[Ve,ht.2,ht2.2]
 ·have hc:=hw.cells (by omega);obtain⟨a2,cap2,rfl⟩: ∃a cap,w= .slice a ys.length cap:=by cases hw<;>exact⟨_,_,rfl⟩
  have e1:Nat.beq ys.length 0=false:=Qn h0;cases h with
   |nil=>
    refine⟨.slice (some ⟨H.n,0,none⟩) ys.length ys.length,H.new 1 (ys.map Gk),?_,?_,(Keep.new H 1 _).mod,?_⟩;·have e2:Nat.ble (ys.length*8) 140737488355328=true:=Nat.ble_eq.mpr (by simp at hl;omega);have e3:Nat.ble ys.length 281474976710656=true:=Nat.ble_eq.mpr (by simp at hl;omega);simp[Ve,ht.2,ht2.2,e1,e2,e3,hc,zU64,Value.cells]
    ·have:=Own.new H ys;simp only[List.nil_append];exact this.mono hn (.refl _)
    ·intro H0 k _;exact k.trans (Keep.new H 1 _)
   |mk b o cap xs cs h1 h2 h3 h4 h5 h6=>
    have e2:Nat.ble ((xs.length+ys.length)*8) 140737488355328=true:=Nat.ble_eq.mpr (by omega);have e3:Nat.ble (xs.length+ys.length) 281474976710656=true:=Nat.ble_eq.mpr (by omega);have e4:Nat.ble (o+xs.length) cs.length=true:=Nat.ble_eq.mpr (by omega);have e5:(cs.drop o).take xs.length=xs.map Gk:=by
     rcases Nat.eq_zero_or_pos xs.length with h|h;·have:xs=[]:=List.length_eq_zero_iff.mp h;subst this;simp
     ·exact(list_of h h6).2
    have eH:(H.kill b).n=H.n:=rfl;refine⟨.slice (some ⟨H.n,0,none⟩) (xs++ys).length (xs++ys).length,(H.kill b).new 1 ((xs++ys).map Gk),?_,?_,?_,?_⟩
    ·have e6:Nat.beq 1 1=true:=rfl;have e7:ys.all (one∘Gk)=true:=by rw[List.all_eq_true];intro x _;rfl
     simp[Ve,ht.2,ht2.2,e1,e2,e3,e4,e5,hc,zU64,Value.cells,h4,e7]
    ·refine .mk H.n 0 _ _ ((xs++ys).map Gk) (Nat.le_refl _) hn ?_ ?_ (by simp) (fun i x h=>by rw[Nat.zero_add,List.getElem?_map,h];rfl);·show H.n<H.n+1;omega
     ·rw[AH.blk_new,if_pos eH.symm]
    ·refine⟨by show H.n≤H.n+1;omega,fun j hj hb=>?_⟩;rw[AH.blk_new,if_neg (by rw[eH];omega),AH.blk_kill,if_neg (by intro e;subst e;exact hb rfl)]
    ·intro H0 k hn0;have:=k.n;refine⟨by show H0.n≤H.n+1;omega,?_,fun j hj=>?_⟩;·have:=k.lw;show min H0.lw H0.n≤min H.lw b;omega
     ·rw[AH.blk_new,if_neg (by rw[eH];omega),AH.blk_kill,if_neg (by omega)];exact k.blk j hj
theorem makeCap_own{H:AH}{t:TypeId}(ht:LT t){n:Nat}(hn:n≤17592186044416): ∃v H',Kp Tryz.prog H t (.int .i64 0) (.int .i64 (n:Int))=some (v,H')∧Keep H H'∧Own H.n H' v []:=by
 refine⟨.slice (some ⟨H.n,0,none⟩) 0 n,H.new 1 ((List.replicate n 0).map Gk),?_,.new _ _ _,?_⟩;·unfold Kp;simp only[ht.2,zU64];rw[if_pos (by omega)];simp only[Int.toNat_natCast,Nat.mul_one,zeros_limb];rfl
 ·exact .mk H.n 0 n [] ((List.replicate n 0).map Gk) (Nat.zero_le _) (Nat.le_refl _) (Nat.lt_succ_self _) (by rw[AH.blk_new,if_pos rfl]) (by simp) (fun i x h=>by simp at h)
theorem Zg9(H:AH){t:TypeId}(ht:LT t)(x:Nat):Qe Tryz.prog H t 1 [(0,.int .u64 (x:Int))]=some (.slice (some ⟨H.n,0,none⟩) 1 1,H.new 1 ([x].map Gk)):=by unfold Qe;simp only[ht.2,zU64];kernel_rfl
theorem build2_own(H:AH){t:TypeId}(ht:LT t)(x y:Nat):Qe Tryz.prog H t 2 [(0,.int .u64 (x:Int)),(1,.int .u64 (y:Int))]=some (.slice (some ⟨H.n,0,none⟩) 2 2,H.new 1 ([x,y].map Gk)):=by unfold Qe;simp only[ht.2,zU64];kernel_rfl
def cutTo3(v:Value)(m:Nat):Value:=match v with| .slice (some a) _ _=> .slice (some a) m m|v=>v
theorem Own.cut3{n0:Nat}{H:AH}{v:Value}{xs:List Nat}(h:Own n0 H v xs){t:TypeId}(ht:LT t){m:Nat}(hm:m≤xs.length):Uz Tryz.prog H t v none (some (.int .i64 (m:Int))) (some (.int .i64 (m:Int)))=some (cutTo3 v m)∧Own n0 H (cutTo3 v m) (xs.take m)∧Qi (cutTo3 v m)=Qi v:=by cases h with
 |nil=>simp at hm;subst hm;refine⟨?_,.nil,rfl⟩;unfold Uz;simp only[ht.1,sU64];rfl
 |mk b o cap xs cs h1 h2 h3 h4 h5 h6=>
  have hl:(xs.take m).length=m:=by rw[List.length_take];omega
  have hsz:H.size b=some 1:=by unfold AH.size;rw[h4]
  have ho:Own n0 H (.slice (some ⟨b,o,none⟩) (xs.take m).length m) (xs.take m):= .mk b o m _ cs (by omega) h2 h3 h4 (by omega) fun i x hx=>h6 i x (by
   rw[List.getElem?_take]at hx;split at hx;·exact hx
   ·cases hx);rw[hl]at ho;refine⟨?_,ho,rfl⟩;unfold Uz;simp only[ht.1,sU64];unfold cutV Qt;simp only[hsz,Option.isSome_some,Option.isNone_none,Bool.true_or];rw[if_pos (by omega)];have e1:Nat.ble m m=true:=Nat.ble_eq.mpr (Nat.le_refl _);simp[Qt,e1,cutTo3]
theorem two32:2≤b32:=by decide
theorem gtr0{k:IntKind}{x:Nat} :Zd .gtr k (x:Int) 0=some (.bool (decide (0<x))):=Uw (y:=0)
theorem Vf{k:IntKind}{x:Nat} :Zd .eql k (x:Int) 0=some (.bool (decide (x=0))):=Ze4 (y:=0)
theorem rem32{x:Nat} :Zd .rem .u64 (x:Int) 4294967296=some (.int .u64 ((x%4294967296:Nat):Int)):=rem_u64 (y:=4294967296) (by decide)
theorem quo32{x:Nat}(hx:x<B64):Zd .quo .u64 (x:Int) 4294967296=some (.int .u64 ((x/4294967296:Nat):Int)):=Zm0 (y:=4294967296) hx (by decide)
theorem quo2{x:Nat}(hx:x<B64):Zd .quo .u64 (x:Int) 2=some (.int .u64 ((x/2:Nat):Int)):=Zm0 (y:=2) hx (by decide)
theorem mul_i64{x y:Nat}(h:x*y<9223372036854775808):Zd .mul .i64 (x:Int) (y:Int)=some (.int .i64 ((x*y:Nat):Int)):=by
 show some (Value.int .i64 (IntKind.i64.wrap ((x:Int)*(y:Int))))=_;have e:IntKind.i64.wrap ((x:Int)*(y:Int))=((x*y:Nat):Int):=by rw[IntKind.wrap_i64,←Int.natCast_mul];generalize x*y=z at*;omega
 rw[e]
theorem dbl_i64{x:Nat}(h:2*x<9223372036854775808):Zd .mul .i64 2 (x:Int)=some (.int .i64 ((2*x:Nat):Int)):=mul_i64 (x:=2) h
theorem mul32_i64{x:Nat}(h:32*x<9223372036854775808):Zd .mul .i64 32 (x:Int)=some (.int .i64 ((32*x:Nat):Int)):=mul_i64 (x:=32) h
theorem add2_i64{x:Nat}(h:x<9223372036854775800):Zd .add .i64 (x:Int) 2=some (.int .i64 ((x+2:Nat):Int)):=Uf (y:=2) (by omega)
def Bb:List Nat→List Nat|[]=>[]|x::xs=>x%b32::x/b32::Bb xs
theorem Zo7(x:Nat): ∀(xs:List Nat),Bb (xs++[x])=Bb xs++[x%b32,x/b32]|[]=>rfl|y::xs=>by simp[Bb,Zo7 x xs]
theorem Ag: ∀(xs:List Nat),(Bb xs).length=2*xs.length|[]=>rfl|x::xs=>by simp[Bb,Ag xs];omega
theorem Zn3: ∀(xs:List Nat),dv b32 (Bb xs)=dv B64 xs|[]=>rfl|x::xs=>by simp only[Bb,dv,Zn3 xs];have:=Nat.mod_add_div x 4294967296;show x%4294967296+4294967296*(x/4294967296+4294967296*dv B64 xs)=x+18446744073709551616*dv B64 xs;omega
theorem Zh4: ∀{xs:List Nat},Dig B64 xs→Dig b32 (Bb xs)|[],_=> .nil _|x::xs,h=>by have hx:x<18446744073709551616:=h.head;exact .cons (Nat.mod_lt _ (by decide)) (.cons (by show x/4294967296<4294967296;omega) (Zh4 h.tail))
def Ep:List Nat→List Nat|[]=>[]|[x]=>[x]|x::y::r=>(x+y*b32)::Ep r
theorem pairs_ds(N:Nat):Ep (ds b32 N)=ds B64 N:=by induction N using Nat.strongRecOn with
 |_ N ih=>
  by_cases h0:N=0;·subst h0;rw[Jb,Jb];rfl
  ·rw[Eu two32 h0];by_cases h1:N/b32=0
   ·have hN:N<4294967296:=by have:=div0_lt (by decide) h1;exact this
    rw[h1,Jb,Eu Yf h0];have e1:N%b32=N:=Nat.mod_eq_of_lt hN;have e2:N%B64=N:=Nat.mod_eq_of_lt (Nat.lt_trans hN (by decide));have e3:N/B64=0:=Nat.div_eq_of_lt (Nat.lt_trans hN (by decide));rw[e1,e2,e3,Jb];rfl
   ·rw[Eu two32 h1,Eu Yf h0];simp only[Ep];have e1:N/b32/b32=N/B64:=by rw[Nat.div_div_eq_div_mul,show b32*b32=B64 by decide]
    have e2:N%b32+N/b32%b32*b32=N%B64:=by show N%4294967296+N/4294967296%4294967296*4294967296=N%18446744073709551616;omega
    rw[e1,e2,ih _ (Nat.div_lt_self (by omega) (by decide))]
theorem pairs_drop{ys:List Nat}{i:Nat}(h:i<ys.length):Ep (ys.drop i)=(ys[i]+nth ys (i+1)*b32)::Ep (ys.drop (i+2)):=by
 rw[List.drop_eq_getElem_cons h];by_cases h1:i+1<ys.length;·rw[List.drop_eq_getElem_cons h1,Jn h1];simp only[Ep]
 ·rw[List.drop_eq_nil_of_le (by omega),Ga (by omega),List.drop_eq_nil_of_le (by omega)];simp[Ep]
theorem pairs_len: ∀(ys:List Nat),(Ep ys).length≤ys.length|[]=>Nat.le_refl _|[x]=>Nat.le_refl _|x::y::r=>by simp only[Ep,List.length_cons];have:=pairs_len r;omega
theorem blen_half{x:Nat}(h:0<x):Zf x=Zf (x/2)+1:=by
 rcases Nat.lt_or_ge x 2 with h1|h1
 ·obtain rfl:x=1:=by omega
  decide
 ·have:=Fu (n:=x) (k:=1) h1;rw[this,Nat.pow_one,Nat.add_comm]
section
attribute [-simp] Int.natCast_add Int.natCast_mul Int.natCast_ediv Int.natCast_emod Int.natCast_pow
attribute [local simp] strip Ye LW' LR gW Yk Xc Zz Xd Yn Xe Zr Zs Zg Yo Yz Yj Yp Zh Xa Ze opd Qd Yl plain Yg Tr.get_set Qb Zp Xv Yc sameKind undef Zu Yr Yw Zn Qa Jl Yb parts Jf unV DW Xl Zy LX Zx
theorem Kq{n0:Nat}{H:AH}{v:Value}{xs:List Nat}(h:Own n0 H v xs)(hlen:xs.length<1152921504606846976):CW Tryz.prog Zo 57 [v] H fun v' H'=>H'=H∧Own n0 H v' (Xm xs)∧Qi v'=Qi v:=by
 refine Zj 22 (by decide) (by decide) Tryz.func57 rfl rfl ?_;have l0:=h.sl.len Qa;apply Zb;intro b1 hb1;apply Za;simp;subst hb1;apply Zb;intro b1 hb1;apply Za;simp[l0];subst hb1;apply Zb;intro b1 hb1;apply Zt;refine Xw (fun n s=>s.k=22∧s.H=H∧n≤xs.length∧Xm (xs.take n)=Xm xs∧s.tm.get 0=some v∧s.tm.get 3=some (.int .i64 (n:Int))) ?_ xs.length _ ⟨rfl,rfl,Nat.le_refl _,by rw[List.take_length],by simp,by simp⟩;rintro n ⟨k,tm,H'⟩ ⟨hk,hH,hn,ht,t0,t3⟩ Q' hQ';simp only at hk hH t0 t3;subst hk;subst hH;apply Zb;intro b2 hb2;apply Zb;intro b3 hb3;apply Za;have fin: ∀tm':Tr Value,tm'.get 0=some v→tm'.get 3=some (.int .i64 (n:Int))→Xm (xs.take n)=xs.take n→Q' (.exit 0) ⟨22,tm',H'⟩:=fun tm' t0 t3 he=>by apply hQ';left;refine⟨rfl,?_⟩;subst hb1;obtain⟨c1,c2,c3⟩:=h.cut3 Qa hn;apply Zb;intro b4 hb4;apply Za;simp[t0,t3,c1];subst hb4;apply Zm;simp;rw[←ht,he];exact⟨c2,c3⟩
 by_cases hz:n=0;·subst hz;simp[t3];subst hb3;refine Zc (t:=false) (by simp) ?_;apply Xy;exact fin _ (by simp[t0]) (by simp[t3]) rfl
 ·have hi:n-1<xs.length:=by omega
  have a1:=h.sl.adr Qa (k:= .i64) hi;have d1:=h.sl.load hi;have htake:xs.take n=xs.take (n-1)++[xs[n-1]]:=by have:=Qp hi;rwa[show n-1+1=n by omega]at this
  have hn0:0<n:=by omega
  simp[t3,t0,gtr0,hn0,Gn (x:=n) (by omega) hn0,a1,d1,Vf];subst hb3;by_cases h0:xs[n-1]=0;·refine Zc (t:=true) (by simp[h0]) ?_;apply Zi;subst hb2;apply Zt;apply Za;simp[t3,Gn (x:=n) (by omega) hn0];apply hQ';refine⟨n-1,by omega,rfl,rfl,by show n-1≤_;omega,?_,by simp[t0],by simp⟩;rw[←ht,htake,h0,Kv]
  ·refine Zc (t:=false) (by simp[h0]) ?_;apply Xy;exact fin _ (by simp[t0]) (by simp[t3]) (by rw[htake];exact Ck _ _ h0)
theorem of_spec{H:AH}{v:Value}{xs:List Nat}(h:Sl H v xs)(dx:Dig B64 xs)(hlen:xs.length≤8000000000000):CW Tryz.prog Zo 17 [v] H fun v' H'=>Keep H H'∧Own H.n H' v' (ds b32 (dv B64 xs)):=by
 refine Zj 26 (by decide) (by decide) Tryz.func17 rfl rfl ?_;have l0:=h.len Jl;obtain⟨a0,H1,hmk,k1,o1⟩:=makeCap_own (H:=H) Qa (n:=2*xs.length) (by omega);apply Zb;intro b1 hb1;apply Za;simp;subst hb1;apply Zb;intro b1 hb1;apply Za;simp[l0,dbl_i64 (x:=xs.length) (by omega),hmk];subst hb1;apply Zb;intro b1 hb1;apply Zb;intro b2 hb2;apply Za;simp[l0];subst hb2;apply Zt;refine Xw (fun m s'=>s'.k=26∧Keep H s'.H∧ ∃(i:Nat) (a:Value),m+i=xs.length∧Own H.n s'.H a (Bb (xs.take i))∧s'.tm.get 3=some a∧s'.tm.get 10=some v∧s'.tm.get 11=some (.int .i64 (xs.length:Int))∧s'.tm.get 12=some (.int .i64 (i:Int))) ?_ xs.length _ ⟨rfl,k1,0,a0,by omega,o1,by simp,by simp,by simp,by simp⟩;rintro m ⟨k,tm,H2⟩ ⟨hk,kH,i,a,hmi,own,t3,t10,t11,t12⟩ Q' hQ';simp only at hk kH own t3 t10 t11 t12;subst hk;apply Zb;intro b3 hb3;apply Za;simp[t11,t12];subst hb3;apply Zb;intro b3 hb3;by_cases hi:i<xs.length;·refine Zc (t:=true) (by simp[hi]) ?_;apply Zi;subst hb3;have s2:=h.keep kH;have a1:=s2.adr Jl (k:= .i64) hi;have d1:=s2.load hi;have hx:xs[i]<B64:=dx.get (List.getElem?_eq_getElem hi);obtain⟨x,hxe⟩: ∃x,x=xs[i]:=⟨_,rfl⟩;rw[←hxe]at d1 hx;have hb:=build2_own H2 Qa (x%4294967296) (x/4294967296);have kn:=Keep.new H2 1 ([x%4294967296,x/4294967296].map Gk);have ow:=Own.new H2 [x%4294967296,x/4294967296];obtain⟨v',H4,hap,own4,mod4,ka4⟩:=(own.mono (Nat.le_refl _) kn).append (Nat.le_trans kH.n kn.n) ow.sl (by rw[Ag,List.length_take];simp;omega) Qa Qa;apply Zb;intro b3 hb3;apply Zt;apply Zb;intro b4 hb4;apply Za;simp[t10,t12,a1,d1];subst hb4;apply Za;simp[t3,rem32,quo32 hx,hb];simp at hap;simp[hap];subst hb3;apply Za;simp[t12,Xp (x:=i) (by omega)];apply hQ';refine⟨m-1,by omega,rfl,ka4 H (kH.trans kn) (Nat.le_refl _),i+1,v',by omega,?_,by simp,by simp[t10],by simp[t11],by simp⟩;rw[Qp hi,Zo7,←hxe];exact own4
 ·refine Zc (t:=false) (by simp[hi]) ?_;apply Xy;apply hQ';left;refine⟨rfl,?_⟩;obtain rfl:i=xs.length:=by omega
  rw[List.take_length]at own;obtain⟨v5,H5,hc5,e5,o5,_⟩:=Kq own (by rw[Ag];omega);subst e5;rw[Qr two32 (Zh4 dx),Zn3]at o5;subst hb1;apply Zb;intro b4 hb4;apply Za;simp[t3,hc5];subst hb4;apply Zm;simp;exact⟨kH,o5⟩
end
theorem b32_lt{x:Nat}(h:x<b32):x<B64:=Nat.lt_trans h (by decide)
section
attribute [-simp] Int.natCast_add Int.natCast_mul Int.natCast_ediv Int.natCast_emod Int.natCast_pow
attribute [local simp] strip Ye LW' LR gW Yk Xc Zz Xd Yn Xe Zr Zs Zg Yo Yz Yj Yp Zh Xa Ze opd Qd Yl plain Yg Tr.get_set Qb Zp Xv Yc sameKind undef Zu Yr Yw Zn Qa Jl Yb parts Jf unV DW Xl Zy LX Zx
theorem limbs_spec{H:AH}{v:Value}{ys:List Nat}(h:Sl H v ys)(dy:Dig b32 ys)(hlen:ys.length≤17592186000000):CW Tryz.prog Zo 94 [v] H fun v' H'=>Keep H H'∧Own H.n H' v' (Ep ys):=by
 refine Zj 34 (by decide) (by decide) Tryz.func94 rfl rfl ?_;have l0:=h.len Qa;apply Zb;intro b1 hb1;apply Za;simp;subst hb1;apply Zb;intro b1 hb1;apply Za;simp;subst hb1;apply Zb;intro b1 hb1;apply Zb;intro b2 hb2;apply Za;simp;subst hb2;apply Zt;refine Xw (fun m s'=>s'.k=34∧Keep H s'.H∧ ∃(i:Nat) (a:Value) (L:List Nat),m=ys.length-i∧i≤ys.length+1∧L.length≤i∧L++Ep (ys.drop i)=Ep ys∧Own H.n s'.H a L∧s'.tm.get 0=some v∧s'.tm.get 3=some a∧s'.tm.get 4=some (.int .i64 (i:Int))) ?_ ys.length _ ⟨rfl,.refl H,0,.slice none 0 0,[],by omega,by omega,Nat.le_refl _,by simp,.nil,by simp,by simp,by simp⟩;rintro m ⟨k,tm,H2⟩ ⟨hk,kH,i,a,L,hmi,hiy,hLi,hL,own,t0,t3,t4⟩ Q' hQ';simp only at hk kH own t0 t3 t4;subst hk;apply Zb;intro b3 hb3;apply Zb;intro b4 hb4;apply Za;simp[t0,t4,l0];subst hb4;by_cases hi:i<ys.length
 ·refine Zc (t:=true) (by simp[hi]) ?_;apply Zi;subst hb3;have s2:=h.keep kH;have a1:=s2.adr Qa (k:= .i64) hi;have d1:=s2.load hi;have hx:ys[i]<b32:=dy.get (List.getElem?_eq_getElem hi);obtain⟨x,hxe⟩: ∃x,x=ys[i]:=⟨_,rfl⟩;obtain⟨w,hw⟩: ∃w,w=x+nth ys (i+1)*4294967296:=⟨_,rfl⟩;have hpd:=pairs_drop hi;rw[←hxe]at d1 hx hpd;have hpd':Ep (ys.drop i)=w::Ep (ys.drop (i+2)):=by rw[hw];exact hpd
  have hb:=Zg9 H2 Jl w;have kn:=Keep.new H2 1 ([w].map Gk);have ow:=Own.new H2 [w];obtain⟨v',H4,hap,own4,mod4,ka4⟩:=(own.mono (Nat.le_refl _) kn).append (Nat.le_trans kH.n kn.n) ow.sl (by simp;omega) Jl Jl;simp at hap hb;apply Zb;intro b3 hb3;apply Zt;apply Zb;intro b4 hb4;apply Za;simp[t0,t4,a1,d1];subst hb4;refine Qs (fun s'=>s'.k=34∧s'.H=H2∧s'.tm.get 0=some v∧s'.tm.get 3=some a∧s'.tm.get 4=some (.int .i64 (i:Int))∧s'.tm.get 5=some (.int .u64 (w:Int))) ?_ ?_
  ·intro Q'' hQ'';apply Zb;intro b4 hb4;apply Za;simp[t0,t4,l0,Xp (x:=i) (by omega)];subst hb4;by_cases hi1:i+1<ys.length
   ·refine Zc (t:=true) (by simp[hi1]) ?_;have a2:=s2.adr Qa (k:= .i64) hi1;have d2:=s2.load hi1;have hz:ys[i+1]<b32:=dy.get (List.getElem?_eq_getElem hi1);rw[Jn hi1]at hw;obtain⟨z,hze⟩: ∃z,z=ys[i+1]:=⟨_,rfl⟩;rw[←hze]at d2 hz hw;have hz':z<4294967296:=hz;have hx':x<4294967296:=hx;have m1:Zd .mul .u64 (z:Int) 4294967296=some (.int .u64 ((z*4294967296:Nat):Int)):=by rw[mulR,Nat.mod_eq_of_lt (by show _<18446744073709551616;omega)]
    have m2:Zd .add .u64 (x:Int) ((z*4294967296:Nat):Int)=some (.int .u64 (w:Int)):=by rw[hw];exact Jz (by show _<18446744073709551616;omega)
    apply Za;simp[t0,t4,Xp (x:=i) (by omega),a2,d2,m1,m2];apply hQ'';exact⟨rfl,rfl,by simp[t0],by simp[t3],by simp[t4],by simp⟩
   ·refine Zc (t:=false) (by simp[hi1]) ?_;apply Zi;apply hQ'';rw[Ga (by omega),Nat.zero_mul,Nat.add_zero]at hw;exact⟨rfl,rfl,by simp[t0],by simp[t3],by simp[t4],by simp[hw]⟩
  clear t0 t3 t4;rintro⟨k,tm,H3⟩ ⟨hk,hH,t0,t3,t4,t5⟩;simp only at hk hH t0 t3 t4 t5;subst hk;subst hH;apply Za;simp[t3,t5,hb,hap];subst hb3;apply Za;simp[t4,add2_i64 (x:=i) (by omega)];apply hQ';refine⟨ys.length-(i+2),by omega,rfl,ka4 H (kH.trans kn) (Nat.le_refl _),i+2,v',L++[w],rfl,by omega,by simp;omega,?_,own4,by simp[t0],by simp,by simp⟩;rw[←hL,hpd'];simp
 ·refine Zc (t:=false) (by simp[hi]) ?_;apply Xy;apply hQ';left;refine⟨rfl,?_⟩;rw[List.drop_eq_nil_of_le (by omega)]at hL;simp[Ep]at hL;subst hb1;apply Zb;intro b4 hb4;apply Za;simp[t3];subst hb4;apply Zm;simp;rw[←hL];exact⟨kH,own⟩
theorem is_spec{H:AH}{v w:Value}{ys zs:List Nat}(h:Sl H v ys)(hw:Sl H w zs)(dy:Dig b32 ys)(hlen:ys.length≤17592186000000):CW Tryz.prog Zo 65 [v,w] H fun v' H'=>Keep H H'∧v'= .bool (decide (Ep ys=zs)):=by
 refine Zj 29 (by decide) (by decide) Tryz.func65 rfl rfl ?_;obtain⟨v1,H1,hc1,k1,o1⟩:=limbs_spec h dy hlen;have hpl:=pairs_len ys;generalize Ep ys=xs at*;have s1:=o1.sl;have s2:=hw.keep k1;have l1:=s1.len Jl;have l2:=s2.len Jl;apply Zb;intro b1 hb1;apply Za;simp;subst hb1;apply Zb;intro b1 hb1;apply Za;simp[hc1];subst hb1;apply Zb;intro b1 hb1;apply Zb;intro b2 hb2;apply Za;simp[l1,l2,neq_nat];subst hb2;by_cases hl:xs.length=zs.length
 ·refine Zc (t:=false) (by simp[hl]) ?_;apply Zi;subst hb1;apply Zb;intro b1 hb1;apply Zb;intro b2 hb2;apply Za;simp[l1];subst hb2;apply Zt;refine Xw (fun m s'=>s'.k=29∧s'.H=H1∧ ∃(i:Nat),m+i=xs.length∧xs.take i=zs.take i∧s'.tm.get 1=some w∧s'.tm.get 5=some v1∧s'.tm.get 15=some (.int .i64 (xs.length:Int))∧s'.tm.get 16=some (.int .i64 (i:Int))) ?_ xs.length _ ⟨rfl,rfl,0,by omega,rfl,by simp,by simp,by simp,by simp⟩;rintro m ⟨k,tm,H2⟩ ⟨hk,hH,i,hmi,he,t1,t5,t15,t16⟩ Q' hQ';simp only at hk hH t1 t5 t15 t16;subst hk;subst hH;apply Zb;intro b3 hb3;apply Za;simp[t15,t16];subst hb3;apply Zb;intro b3 hb3;by_cases hi:i<xs.length
  ·refine Zc (t:=true) (by simp[hi]) ?_;apply Zi;subst hb3;have hi2:i<zs.length:=by omega
   have a1:=s1.adr Jl (k:= .i64) hi;have d1:=s1.load hi;have a2:=s2.adr Jl (k:= .i64) hi2;have d2:=s2.load hi2;apply Zb;intro b3 hb3;apply Zt;apply Zb;intro b4 hb4;apply Za;simp[t16];subst hb4;apply Zb;intro b4 hb4;apply Cn (by kernel_rfl);simp[t1,t5,a1,a2,d1,d2,neq_nat];subst hb4;by_cases hne:xs[i]=zs[i];·refine Zc (t:=false) (by simp[hne]) ?_;apply Zi;subst hb3;apply Za;simp[t16,Xp (x:=i) (by omega)];apply hQ';refine⟨m-1,by omega,rfl,rfl,i+1,by omega,?_,by simp[t1],by simp[t5],by simp[t15],by simp⟩;rw[Qp hi,Qp hi2,he,hne]
   ·refine Zc (t:=true) (by simp[hne]) ?_;apply Zb;intro b4 hb4;apply Za;simp;subst hb4;apply Zm;have hd:xs≠zs:=by intro e;apply hne;subst e;rfl
    apply hQ';simp[Xo,Xn,Dc,hd];exact k1
  ·refine Zc (t:=false) (by simp[hi]) ?_;apply Xy;apply hQ';left;refine⟨rfl,?_⟩;obtain rfl:i=xs.length:=by omega
   have he':xs=zs:=by rwa[List.take_length,hl,List.take_length]at he
   subst hb1;apply Zb;intro b4 hb4;apply Za;simp;subst hb4;apply Zm;simp[he'];exact k1
 ·refine Zc (t:=true) (by simp[hl]) ?_;apply Zb;intro b2 hb2;apply Za;simp;subst hb2;apply Zm;have hd:xs≠zs:=fun e=>hl (by rw[e]);simp[Xo,hd];exact k1
theorem zero_spec{H:AH}{v:Value}{ys:List Nat}(h:Sl H v ys):CW Tryz.prog Zo 19 [v] H fun v' H'=>H'=H∧v'= .bool (decide (ys.length=0)):=by refine Zj 6 (by decide) (by decide) Tryz.func19 rfl rfl ?_;have l1:=h.len Qa;apply Zb;intro b1 hb1;apply Za;simp;subst hb1;apply Zb;intro b1 hb1;apply Za;simp[l1,Vf];subst hb1;apply Zm;simp
theorem at_spec{H:AH}{v:Value}{ys:List Nat}(h:Sl H v ys)(i:Nat):CW Tryz.prog Zo 130 [v,.int .i64 (i:Int)] H fun v' H'=>H'=H∧v'= .int .u64 (nth ys i:Int):=by
 refine Zj 13 (by decide) (by decide) Tryz.func130 rfl rfl ?_;have l1:=h.len Qa;apply Zb;intro b1 hb1;apply Za;simp;subst hb1;apply Zb;intro b1 hb1;apply Zb;intro b2 hb2;apply Za;simp[l1];subst hb2;by_cases hi:i<ys.length;·refine Zc (t:=true) (by simp[hi]) ?_;have a1:=h.adr Qa (k:= .i64) hi;have d1:=h.load hi;apply Zb;intro b2 hb2;apply Za;simp[a1,d1];subst hb2;apply Zm;simp[Xo,Jn hi]
 ·refine Zc (t:=false) (by simp[hi]) ?_;apply Zi;subst hb1;apply Zb;intro b2 hb2;apply Za;simp;subst hb2;apply Zm;simp[Ga (Nat.le_of_not_lt hi)]
theorem at_call{H:AH}{v:Value}{ys:List Nat}(h:Sl H v ys)(i:Nat):Zq Tryz.prog Zo 130 [v,.int .i64 (i:Int)] H=some (.int .u64 (nth ys i:Int),H):=by obtain⟨_,_,hc,rfl,rfl⟩:=at_spec h i;exact hc
end
theorem Ja(B:Nat)(xs:List Nat)(i:Nat):dv B (xs.take (i+1))=dv B (xs.take i)+B^i*nth xs i:=by
 by_cases h:i<xs.length;·rw[Qp h,Yy,List.length_take,Nat.min_eq_left (by omega),Jn h];simp[dv]
 ·rw[List.take_of_length_le (by omega),List.take_of_length_le (by omega),Ga (by omega),Nat.mul_zero,Nat.add_zero]
theorem Fj{B:Nat}{xs:List Nat}(h:Dig B xs)(hB:0<B)(i:Nat):nth xs i<B:=by
 by_cases hi:i<xs.length;·rw[Jn hi];exact h.get (List.getElem?_eq_getElem hi)
 ·rw[Ga (by omega)];exact hB
theorem Dr(B:Nat)(xs:List Nat)(j:Nat)(h:j≤xs.length):dv B xs=dv B (xs.take j)+B^j*dv B (xs.drop j):=by have:=congrArg (dv B) (List.take_append_drop j xs);rw[Yy,List.length_take,Nat.min_eq_left h]at this;exact this.symm
theorem Zb3{B:Nat}{xs:List Nat}{k:Nat}(hB:0<B)(h:dv B xs<B^k):dv B (xs.take k)=dv B xs:=by
 rcases Nat.lt_or_ge xs.length k with hk|hk;·rw[List.take_of_length_le (by omega)]
 ·have e:=Dr B xs k hk;have:dv B (xs.drop k)=0:=by
   rcases Nat.eq_zero_or_pos (dv B (xs.drop k))with h0|h0;·exact h0
   ·exfalso;have:B^k*1≤B^k*dv B (xs.drop k):=Nat.mul_le_mul_left _ h0;omega
  rw[this,Nat.mul_zero]at e;omega
theorem Al{B:Nat}(hB:2≤B){xs ys:List Nat}(hy:Xm ys=ys)(dx:Dig B xs)(dy:Dig B ys)(h:xs.length<ys.length):dv B xs<dv B ys:=by
 have h1:=Vh dx;have e:ys=ds B (dv B ys):=by rw[←Qr hB dy,hy]
 have hne:dv B ys≠0:=by intro h0;rw[h0,Jb]at e;rw[e]at h;simp at h
 have h2:=ds_ge hB hne;rw[←e]at h2;have h3:B^xs.length≤B^(ys.length-1):=Nat.pow_le_pow_right (by omega) (by omega);omega
theorem Own.fill{n:Nat}{H:AH}{v:Value}{L:List Nat}{m:Nat}(h:Own n H v (L++List.replicate (m+1) 0)){i:Nat}(hL:L.length=i)(y:Nat): ∃H',Xt Tryz.prog H 101 (adr v i) (.int .u64 (y:Int))=some H'∧Own n H' v ((L++[y])++List.replicate m 0)∧But (Qi v) H H'∧KA n H H':=by obtain⟨H',h1,h2,h3,h4,h5⟩:=h.put (i:=i) (by simp;omega) y;refine⟨H',h1,?_,⟨h3,fun j _ hj=>h4 j hj⟩,h5⟩;rw[List.replicate_succ,Ui _ _ _ _ hL]at h2;simpa using h2
section
attribute [-simp] Int.natCast_add Int.natCast_mul Int.natCast_ediv Int.natCast_emod Int.natCast_pow
attribute [local simp] strip Ye LW' LR gW Yk Xc Zz Xd Yn Xe Zr Zs Zg Yo Yz Yj Yp Zh Xa Ze opd Qd Yl plain Yg Tr.get_set Qb Zp Xv Yc sameKind undef Zu Yr Yw Zn Qa Jl Yb parts Jf unV DW Xl Zy LX Zx
theorem refAdd_spec{H:AH}{v w:Value}{xs ys:List Nat}(hv:Sl H v xs)(hw:Sl H w ys)(dx:Dig b32 xs)(dy:Dig b32 ys)(lx:xs.length≤17592186000000)(ly:ys.length≤17592186000000):CW Tryz.prog Zo 91 [v,w] H fun v' H'=>Keep H H'∧Own H.n H' v' (ds b32 (dv b32 xs+dv b32 ys)):=by
 refine Zj 44 (by decide) (by decide) Tryz.func91 rfl rfl ?_;have l1:=hv.len Qa;have l2:=hw.len Qa;obtain⟨n,hn⟩: ∃n,n=max xs.length ys.length:=⟨_,rfl⟩;obtain⟨c0,H1,hmk,k1,o1,n1⟩:=Xz (H:=H) Qa (n:=n+1) (by omega);apply Zb;intro b1 hb1;apply Za;simp;subst hb1;apply Zb;intro b1 hb1;apply Za;simp[l1];subst hb1;refine Qs (fun s'=>s'.k=44∧s'.H=H∧s'.tm.get 0=some v∧s'.tm.get 1=some w∧s'.tm.get 5=some (.int .i64 (n:Int))) ?_ ?_
 ·intro Q' hQ';apply Zb;intro b1 hb1;apply Za;simp[l2,Uw];subst hb1;by_cases hc:xs.length<ys.length;·refine Zc (t:=true) (by simp[hc]) ?_;apply Za;simp[l2];apply hQ';exact⟨rfl,rfl,by simp,by simp,by simp;omega⟩
  ·refine Zc (t:=false) (by simp[hc]) ?_;apply Zi;apply hQ';exact⟨rfl,rfl,by simp,by simp,by simp;omega⟩
 rintro⟨k,tm,H'⟩ ⟨hk,hH,t0,t1,t5⟩;simp only at hk hH t0 t1 t5;subst hk;subst hH;have hmk':Kp Tryz.prog H' 37 (.int .i64 ((n+1:Nat):Int)) (.int .i64 ((n+1:Nat):Int))=some (c0,H1):=hmk;apply Zb;intro b1 hb1;apply Za;simp[t5,Xp (x:=n) (by omega),hmk'];subst hb1;apply Zb;intro b1 hb1;apply Za;simp;subst hb1;apply Zb;intro b1 hb1;apply Zb;intro b2 hb2;apply Za;simp;subst hb2;apply Zt;refine Xw (fun m s'=>s'.k=44∧Keep H' s'.H∧ ∃(i carry:Nat) (L:List Nat),m+i=n+1∧L.length=i∧carry≤1∧Dig b32 L∧dv b32 L+b32^i*carry=dv b32 (xs.take i)+dv b32 (ys.take i)∧Own H'.n s'.H c0 (L++List.replicate m 0)∧s'.tm.get 0=some v∧s'.tm.get 1=some w∧s'.tm.get 5=some (.int .i64 (n:Int))∧s'.tm.get 6=some c0∧s'.tm.get 7=some (.int .u64 (carry:Int))∧s'.tm.get 8=some (.int .i64 (i:Int))) ?_ (n+1) _ ⟨rfl,k1,0,0,[],by omega,rfl,by omega,.nil _,by simp[dv],by simpa using o1,by simp[t0],by simp[t1],by simp[t5],by simp,by simp,by simp⟩;clear t0 t1 t5;rintro m ⟨k,tm,H2⟩ ⟨hk,kH,i,carry,L,hmi,hL,hc,dL,heq,own,t0,t1,t5,t6,t7,t8⟩ Q' hQ';simp only at hk kH own t0 t1 t5 t6 t7 t8;subst hk;apply Zb;intro b3 hb3;apply Zb;intro b4 hb4;apply Za;simp[t5,t8,Ze7];subst hb4;by_cases hi:i≤n
 ·refine Zc (t:=true) (by simp[hi]) ?_;apply Zi;subst hb3;obtain⟨m',rfl⟩: ∃m',m=m'+1:=⟨m-1,by omega⟩;have c1:=at_call (hv.keep kH) i;have c2:=at_call (hw.keep kH) i;have hx:nth xs i<4294967296:=Fj dx (by decide) i;have hy:nth ys i<4294967296:=Fj dy (by decide) i;have ex:=Ja b32 xs i;have ey:=Ja b32 ys i;obtain⟨x,hxe⟩: ∃x,x=nth xs i:=⟨_,rfl⟩;obtain⟨y,hye⟩: ∃y,y=nth ys i:=⟨_,rfl⟩;rw[←hxe]at c1 hx ex;rw[←hye]at c2 hy ey;have m1:Zd .add .u64 (x:Int) (y:Int)=some (.int .u64 ((x+y:Nat):Int)):=Jz (by show _<18446744073709551616;omega);have m2:Zd .add .u64 ((x+y:Nat):Int) (carry:Int)=some (.int .u64 ((x+y+carry:Nat):Int)):=Jz (by show _<18446744073709551616;omega);obtain⟨z,hz⟩: ∃z,z=x+y+carry:=⟨_,rfl⟩;rw[←hz]at m2;have hzB:z<B64:=by show z<18446744073709551616;omega
  obtain⟨H3,st3,own3,bt3,ka3⟩:=own.fill hL (z%4294967296);have a3:=own.sl.adr Qa (k:= .i64) (i:=i) (by simp;omega);apply Zb;intro b3 hb3;apply Zt;apply Zb;intro b4 hb4;apply Za;simp[t0,t1,t7,t8,c1,c2,m1,m2];subst hb4;apply Zb;intro b4 hb4;apply Za;simp[t6,t8,rem32,a3,st3];subst hb4;apply Za;simp[quo32 hzB];subst hb3;apply Za;simp[t8,Xp (x:=i) (by omega)];apply hQ';refine⟨m',by omega,rfl,ka3 H' kH (Nat.le_refl _),i+1,z/4294967296,L++[z%4294967296],by omega,by simp[hL],by omega,dL.append (.cons (Nat.mod_lt _ (by decide)) (.nil _)),?_,own3,by simp[t0],by simp[t1],by simp[t5],by simp[t6],by simp,by simp⟩;rw[Yy,hL,ex,ey];simp only[dv,Nat.mul_zero,Nat.add_zero];have e1:b32^i*(z%4294967296+4294967296*(z/4294967296))=b32^i*(x+y+carry):=by rw[Nat.mod_add_div,hz]
  rw[Nat.mul_add,←Nat.mul_assoc,show b32^i*4294967296=b32^(i+1)from rfl,Nat.mul_add,Nat.mul_add]at e1;omega
 ·refine Zc (t:=false) (by simp[hi]) ?_;apply Xy;apply hQ';left;refine⟨rfl,?_⟩;obtain rfl:i=n+1:=by omega
  obtain rfl:m=0:=by omega
  simp at own;rw[List.take_of_length_le (by omega),List.take_of_length_le (by omega)]at heq;have hsum:dv b32 L=dv b32 xs+dv b32 ys:=by
   have h1:=Vh dx;have h2:=Vh dy;have h3:b32^xs.length≤b32^n:=Nat.pow_le_pow_right (by decide) (by omega);have h4:b32^ys.length≤b32^n:=Nat.pow_le_pow_right (by decide) (by omega);have h5:b32^(n+1)=b32^n*4294967296:=rfl;rcases Nat.lt_or_ge carry 1 with h0|h0
   ·obtain rfl:carry=0:=by omega
    rw[Nat.mul_zero]at heq;omega
   ·obtain rfl:carry=1:=by omega
    rw[Nat.mul_one]at heq;omega
  obtain⟨v5,H5,hc5,e5,o5,_⟩:=Kq own (by omega);subst e5;rw[Qr two32 dL,hsum]at o5;subst hb1;apply Zb;intro b4 hb4;apply Za;simp[t6,hc5];subst hb4;apply Zm;simp;exact⟨kH,o5⟩
theorem refSub_spec{H:AH}{v w:Value}{xs ys:List Nat}(hv:Sl H v xs)(hw:Sl H w ys)(dx:Dig b32 xs)(dy:Dig b32 ys)(lx:xs.length≤17592186000000)(hle:dv b32 ys≤dv b32 xs):CW Tryz.prog Zo 93 [v,w] H fun v' H'=>Keep H H'∧Own H.n H' v' (ds b32 (dv b32 xs-dv b32 ys)):=by
 refine Zj 39 (by decide) (by decide) Tryz.func93 rfl rfl ?_;have l1:=hv.len Qa;obtain⟨n,hn⟩: ∃n,n=xs.length:=⟨_,rfl⟩;rw[←hn]at l1;obtain⟨c0,H1,hmk,k1,o1,n1⟩:=Xz (H:=H) Qa (n:=n) (by omega);apply Zb;intro b1 hb1;apply Za;simp;subst hb1;apply Zb;intro b1 hb1;apply Za;simp[l1,hmk];subst hb1;apply Zb;intro b1 hb1;apply Za;simp;subst hb1;apply Zb;intro b1 hb1;apply Zb;intro b2 hb2;apply Za;simp[l1];subst hb2;apply Zt;refine Xw (fun m s'=>s'.k=39∧Keep H s'.H∧ ∃(i bor:Nat) (L:List Nat),m+i=n∧L.length=i∧bor≤1∧Dig b32 L∧dv b32 L+dv b32 (ys.take i)=dv b32 (xs.take i)+b32^i*bor∧Own H.n s'.H c0 (L++List.replicate m 0)∧s'.tm.get 0=some v∧s'.tm.get 1=some w∧s'.tm.get 5=some c0∧s'.tm.get 6=some (.int .u64 (bor:Int))∧s'.tm.get 13=some (.int .i64 (n:Int))∧s'.tm.get 14=some (.int .i64 (i:Int))) ?_ n _ ⟨rfl,k1,0,0,[],by omega,rfl,by omega,.nil _,by simp[dv],by simpa using o1,by simp,by simp,by simp,by simp,by simp,by simp⟩;rintro m ⟨k,tm,H2⟩ ⟨hk,kH,i,bor,L,hmi,hL,hb,dL,heq,own,t0,t1,t5,t6,t13,t14⟩ Q' hQ';simp only at hk kH own t0 t1 t5 t6 t13 t14;subst hk;apply Zb;intro b3 hb3;apply Za;simp[t13,t14];subst hb3;apply Zb;intro b3 hb3;by_cases hi:i<n
 ·refine Zc (t:=true) (by simp[hi]) ?_;apply Zi;subst hb3;obtain⟨m',rfl⟩: ∃m',m=m'+1:=⟨m-1,by omega⟩;have hi':i<xs.length:=by omega
  have sv:=hv.keep kH;have a1:=sv.adr Qa (k:= .i64) hi';have d1:=sv.top.load hi';have c2:=at_call (hw.keep kH).top i;have hx:nth xs i<4294967296:=Fj dx (by decide) i;have hy:nth ys i<4294967296:=Fj dy (by decide) i;have ex:=Ja b32 xs i;have ey:=Ja b32 ys i;rw[←Jn hi']at d1;obtain⟨x,hxe⟩: ∃x,x=nth xs i:=⟨_,rfl⟩;obtain⟨y,hye⟩: ∃y,y=nth ys i:=⟨_,rfl⟩;rw[←hxe]at d1 hx ex;rw[←hye]at c2 hy ey;have m1:Zd .add .u64 (x:Int) 4294967296=some (.int .u64 ((x+4294967296:Nat):Int)):=Jz (y:=4294967296) (by show _<18446744073709551616;omega);have m2:Zd .sub .u64 ((x+4294967296:Nat):Int) (y:Int)=some (.int .u64 ((x+4294967296-y:Nat):Int)):=Do (by show _<18446744073709551616;omega) (by omega);have m3:Zd .sub .u64 ((x+4294967296-y:Nat):Int) (bor:Int)=some (.int .u64 ((x+4294967296-y-bor:Nat):Int)):=Do (by show _<18446744073709551616;omega) (by omega);obtain⟨z,hz⟩: ∃z,z=x+4294967296-y-bor:=⟨_,rfl⟩;rw[←hz]at m3;have hzB:z<B64:=by show z<18446744073709551616;omega
  have hz1:z/4294967296≤1:=by omega
  have m4:Zd .sub .u64 1 ((z/4294967296:Nat):Int)=some (.int .u64 ((1-z/4294967296:Nat):Int)):=Do (x:=1) (by decide) hz1;obtain⟨H3,st3,own3,bt3,ka3⟩:=own.fill hL (z%4294967296);have a3:=own.sl.adr Qa (k:= .i64) (i:=i) (by simp;omega);apply Zb;intro b3 hb3;apply Zt;apply Zb;intro b4 hb4;apply Za;simp[t14];subst hb4;apply Zb;intro b4 hb4;apply W_reads (by kernel_rfl);simp[t0,t1,t6,a1,d1,c2,m1,m2,m3];subst hb4;apply Zb;intro b4 hb4;apply Za;simp[t5,rem32,a3,st3];subst hb4;apply Za;simp[quo32 hzB,m4];subst hb3;apply Za;simp[t14,Xp (x:=i) (by omega)];apply hQ';refine⟨m',by omega,rfl,ka3 H kH (Nat.le_refl _),i+1,1-z/4294967296,L++[z%4294967296],by omega,by simp[hL],by omega,dL.append (.cons (Nat.mod_lt _ (by decide)) (.nil _)),?_,own3,by simp[t0],by simp[t1],by simp[t5],by simp,by simp[t13],by simp⟩;rw[Yy,hL,ex,ey];simp only[dv,Nat.mul_zero,Nat.add_zero];have e0:z%4294967296+y+bor=x+4294967296*(1-z/4294967296):=by omega
  have e1:b32^i*(z%4294967296+y+bor)=b32^i*(x+4294967296*(1-z/4294967296)):=by rw[e0]
  rw[Nat.mul_add (b32^i) x,←Nat.mul_assoc,show b32^i*4294967296=b32^(i+1)from rfl,Nat.mul_add,Nat.mul_add]at e1;omega
 ·refine Zc (t:=false) (by simp[hi]) ?_;apply Xy;apply hQ';left;refine⟨rfl,?_⟩;obtain rfl:i=n:=by omega
  obtain rfl:m=0:=by omega
  simp at own;have hxl:=Vh dx;rw[←hn]at hxl;rw[List.take_of_length_le (l:=xs) (by omega),Zb3 (by decide) (Nat.lt_of_le_of_lt hle hxl)]at heq;have hsum:dv b32 L=dv b32 xs-dv b32 ys:=by
   have h1:=Vh dL;rw[hL]at h1;rcases Nat.lt_or_ge bor 1 with h0|h0
   ·obtain rfl:bor=0:=by omega
    rw[Nat.mul_zero]at heq;omega
   ·obtain rfl:bor=1:=by omega
    rw[Nat.mul_one]at heq;omega
  obtain⟨v5,H5,hc5,e5,o5,_⟩:=Kq own (by omega);subst e5;rw[Qr two32 dL,hsum]at o5;subst hb1;apply Zb;intro b4 hb4;apply Za;simp[t5,hc5];subst hb4;apply Zm;simp;exact⟨kH,o5⟩
theorem Zp7{va vb:Value}{xs ys:List Nat}{H:AH}(s1:Sl H va xs)(s2:Sl H vb ys)(dx:Dig b32 xs)(dy:Dig b32 ys)(tx:Xm xs=xs)(ty:Xm ys=ys)(lx:xs.length≤17592186044416)(ly:ys.length≤17592186044416):CW Tryz.prog Zo 60 [va,vb] H fun v H'=>H'=H∧v= .int .i64 (Vn (dv b32 xs) (dv b32 ys)):=by
 refine Zj 41 (by decide) (by decide) Tryz.func60 rfl rfl ?_;have l1:=s1.len Qa;have l2:=s2.len Qa;apply Zb;intro b1 hb1;apply Za;simp;subst hb1;apply Zb;intro b1 hb1;apply Zb;intro b2 hb2;apply Za;simp[l1,l2,neq_nat];subst hb2;by_cases hl:xs.length=ys.length
 ·refine Zc (t:=false) (by simp[hl]) ?_;apply Zi;subst hb1;apply Zb;intro b1 hb1;apply Zb;intro b2 hb2;have w1:Zd .sub .i64 (xs.length:Int) 1=some (.int .i64 ((xs.length:Int)-1)):=by show some (Value.int .i64 (IntKind.i64.wrap ((xs.length:Int)-1)))=_;congr 2;rw[IntKind.wrap_i64];omega
  apply Za;simp[l1,w1];subst hb2;apply Zt;refine Xw (fun n s=>s.k=41∧s.H=H∧s.tm.get 0=some va∧s.tm.get 1=some vb∧s.tm.get 5=some (.int .i64 ((n:Int)-1))∧n≤xs.length∧xs.drop n=ys.drop n) ?_ xs.length _ ⟨rfl,rfl,by simp,by simp,by simp,Nat.le_refl _,by rw[List.drop_length,hl,List.drop_length]⟩;rintro n ⟨k,tm,H'⟩ ⟨h2,h3,h4,h5,h6,h7,h8⟩ Q' hQ';simp only at h2 h3 h4 h5 h6;subst h2;subst h3;have hge:Zd .geq .i64 ((n:Int)-1) 0=some (.bool (decide (0<n))):=by show some (Value.bool (decide ((n:Int)-1≥0)))=_;congr 2;apply decide_eq_decide.mpr;omega
  apply Zb;intro b2 hb2;apply Zb;intro b3 hb3;apply Za;simp[h6,hge];subst hb3;by_cases hz:n=0
  ·subst hz;refine Zc (t:=false) (by simp) ?_;apply Xy;apply hQ';left;refine⟨rfl,?_⟩;subst hb1;apply Zb;intro b4 hb4;apply Za;simp;subst hb4;apply Zm;have:xs=ys:=by simpa using h8
   simp[Vn,this]
  ·have e:(n:Int)-1=((n-1:Nat):Int):=by omega
   refine Zc (t:=true) (by simp;omega) ?_;apply Zi;subst hb2;have i1:n-1<xs.length:=by omega
   have i2:n-1<ys.length:=by omega
   have a1:=s1.adr Qa (k:= .i64) i1;have a2:=s2.adr Qa (k:= .i64) i2;have d1:=s1.load i1;have d2:=s2.load i2;rw[e]at h6;have sx:xs=xs.take (n-1)++xs[n-1]::xs.drop n:=by have:=List.take_append_drop (n-1) xs;rw[List.drop_eq_getElem_cons i1,show n-1+1=n by omega]at this;exact this.symm
   have sy:ys=ys.take (n-1)++ys[n-1]::ys.drop n:=by have:=List.take_append_drop (n-1) ys;rw[List.drop_eq_getElem_cons i2,show n-1+1=n by omega]at this;exact this.symm
   have ltk:(xs.take (n-1)).length=(ys.take (n-1)).length:=by simp[List.length_take,hl]
   apply Zb;intro b4 hb4;apply Zt;apply Zb;intro b5 hb5;apply Zb;intro b6 hb6;apply Cn (by kernel_rfl);simp[h4,h5,h6,a1,a2,d1,d2];subst hb6;by_cases hlt:xs[n-1]<ys[n-1]
   ·refine Zc (t:=true) (by simp;omega) ?_;apply Zb;intro b7 hb7;apply Za;simp;subst hb7;apply Zm;have hd:dv b32 xs<dv b32 ys:=by rw[sx,sy,h8];exact dv_cmp (dx.take _) (dy.take _) ltk hlt _
    apply hQ';simp[Xo,Xn,Dc,Vn,hd]
   ·refine Zc (t:=false) (by simp;omega) ?_;apply Zi;subst hb5;apply Zb;intro b6 hb6;apply Cn (by kernel_rfl);simp[h4,h5,h6,a1,a2,d1,d2,Uw];subst hb6;by_cases hgt:ys[n-1]<xs[n-1]
    ·refine Zc (t:=true) (by simp;omega) ?_;apply Zb;intro b7 hb7;apply Za;simp;subst hb7;apply Zm;have hd:dv b32 ys<dv b32 xs:=by rw[sx,sy,h8];exact dv_cmp (dy.take _) (dx.take _) ltk.symm hgt _
     have hd2: ¬dv b32 xs<dv b32 ys:=by omega
     apply hQ';simp[Xo,Xn,Dc,Vn,hd,hd2]
    ·refine Zc (t:=false) (by simp;omega) ?_;apply Zi;subst hb4;have hw1:Zd .sub .i64 ((n-1:Nat):Int) 1=some (.int .i64 (((n-1:Nat):Int)-1)):=by show some (Value.int .i64 (IntKind.i64.wrap (((n-1:Nat):Int)-1)))=_;congr 2;rw[IntKind.wrap_i64];omega
     apply Za;simp[h6,hw1];apply hQ';refine⟨n-1,by omega,rfl,rfl,?_⟩;simp[h4,h5];refine⟨by omega,?_⟩;rw[List.drop_eq_getElem_cons i1,List.drop_eq_getElem_cons i2,show n-1+1=n by omega,h8];congr 1;omega
 ·refine Zc (t:=true) (by simp;omega) ?_;apply Zb;intro b2 hb2;apply Zb;intro b3 hb3;apply Za;simp[l1,l2];subst hb3;by_cases hlt:xs.length<ys.length;·refine Zc (t:=true) (by simp;omega) ?_;apply Zb;intro b3 hb3;apply Za;simp;subst hb3;apply Zm;have:=Al two32 ty dx dy hlt;simp[Xo,Vn,this]
  ·refine Zc (t:=false) (by simp;omega) ?_;apply Zi;subst hb2;apply Zb;intro b2 hb2;apply Za;simp;subst hb2;apply Zm;have:=Al two32 tx dy dx (by omega);have h2: ¬dv b32 xs<dv b32 ys:=by omega
   simp[Xo,Vn,this,h2]
end
theorem quo_i64{x y:Nat}(hx:x<9223372036854775808)(hy:0<y):Zd .quo .i64 (x:Int) (y:Int)=some (.int .i64 ((x/y:Nat):Int)):=by
 have hle:x/y≤x:=Nat.div_le_self x y;have h0: ¬ ((y:Int)=0):=by omega
 have e:IntKind.i64.wrap ((x:Int).tdiv (y:Int))=((x/y:Nat):Int):=by rw[IntKind.wrap_i64,Int.tdiv_eq_ediv_of_nonneg (by omega),←Int.natCast_ediv];generalize x/y=q at*;omega
 show(if(y:Int)=0 then none else some (Value.int .i64 (IntKind.i64.wrap ((x:Int).tdiv (y:Int)))))=_;rw[if_neg h0,e]
theorem rem_i64{x y:Nat}(hy:0<y):Zd .rem .i64 (x:Int) (y:Int)=some (.int .i64 ((x%y:Nat):Int)):=by
 have h0: ¬ ((y:Int)=0):=by omega
 have e:(x:Int).tmod (y:Int)=((x%y:Nat):Int):=by rw[Int.tmod_eq_emod_of_nonneg (by omega),←Int.natCast_emod]
 show(if(y:Int)=0 then none else some (Value.int .i64 ((x:Int).tmod (y:Int))))=_;rw[if_neg h0,e]
theorem quo32i{x:Nat}(hx:x<9223372036854775808):Zd .quo .i64 (x:Int) 32=some (.int .i64 ((x/32:Nat):Int)):=quo_i64 (y:=32) hx (by decide)
theorem rem32i{x:Nat} :Zd .rem .i64 (x:Int) 32=some (.int .i64 ((x%32:Nat):Int)):=rem_i64 (y:=32) (by decide)
theorem fit32{x c s:Nat}(hx:x<b32)(hs:s<32)(hc:c<2^s):x*2^s%b32+c<b32∧x*2^s/b32<2^s∧x*2^s=x*2^s%b32+b32*(x*2^s/b32)∧x*2^s<B64:=by
 have e:b32=2^(32-s)*2^s:=by rw[←Nat.pow_add,show 32-s+s=32 by omega]
 have hp:=Nat.two_pow_pos s;refine⟨?_,?_,(Nat.mod_add_div _ _).symm,?_⟩
 ·have e1:x*2^s%b32=x%2^(32-s)*2^s:=by rw[e,Nat.mul_mod_mul_right]
  have h2:x%2^(32-s)<2^(32-s):=Nat.mod_lt _ (Nat.two_pow_pos _);rw[e1];have:(x%2^(32-s)+1)*2^s≤2^(32-s)*2^s:=Nat.mul_le_mul_right _ h2;rw[←e,Nat.succ_mul]at this;omega
 ·rw[Nat.div_lt_iff_lt_mul (by decide),Nat.mul_comm];exact Nat.mul_lt_mul_of_pos_left hx hp
 ·have h1:2^s≤2^32:=Nat.pow_le_pow_right (by decide) (by omega);have h2:x*2^s≤4294967295*2^32:=Nat.mul_le_mul (by have:x<4294967296:=hx;omega) h1;show _<18446744073709551616;omega
section
attribute [-simp] Int.natCast_add Int.natCast_mul Int.natCast_ediv Int.natCast_emod Int.natCast_pow
attribute [local simp] strip Ye LW' LR gW Yk Xc Zz Xd Yn Xe Zr Zs Zg Yo Yz Yj Yp Zh Xa Ze opd Qd Yl plain Yg Tr.get_set Qb Zp Xv Yc sameKind undef Zu Yr Yw Zn Qa Jl Yb parts Jf unV DW Xl Zy LX Zx
theorem Zq0{H:AH}{v:Value}{xs:List Nat}(hv:Sl H v xs)(dx:Dig b32 xs)(lx:xs.length≤8000000000000){n:Nat}(hn:n≤8000000000000):CW Tryz.prog Zo 92 [v,.int .i64 (n:Int)] H fun v' H'=>Keep H H'∧Own H.n H' v' (ds b32 (dv b32 xs*2^n)):=by
 refine Zj 55 (by decide) (by decide) Tryz.func92 rfl rfl ?_;have l1:=hv.len Qa;apply Zb;intro b1 hb1;apply Za;simp;subst hb1;apply Zb;intro b1 hb1;apply Zb;intro b2 hb2;apply Za;simp[l1,Vf];subst hb2;by_cases h0:xs.length=0;·obtain rfl:xs=[]:=List.length_eq_zero_iff.mp h0;refine Zc (t:=true) (by simp) ?_;apply Zb;intro b2 hb2;apply Za;simp;subst hb2;apply Zm;simp[Xo,dv,Jb];exact⟨.refl H,.nil⟩
 ·refine Zc (t:=false) (by simp;intro h;exact h0 (by rw[h];rfl)) ?_;apply Zi;subst hb1;obtain⟨w,hw⟩: ∃w,w=n/32:=⟨_,rfl⟩;obtain⟨s,hs⟩: ∃s,s=n%32:=⟨_,rfl⟩;have hs32:s<32:=by omega
  have hnw:n=32*w+s:=by omega
  have q1:Zd .quo .i64 (n:Int) 32=some (.int .i64 (w:Int)):=by rw[hw];exact quo32i (by omega)
  have q2:Zd .rem .i64 (n:Int) 32=some (.int .i64 (s:Int)):=by rw[hs];exact rem32i
  have q3:Zd .add .i64 (xs.length:Int) (w:Int)=some (.int .i64 ((xs.length+w:Nat):Int)):=Uf (by omega);obtain⟨c0,H1,hmk,k1,o1,n1⟩:=Xz (H:=H) Qa (n:=xs.length+w+1) (by omega);apply Zb;intro b1 hb1;apply Za;simp[l1,q1,q3,Xp (x:=xs.length+w) (by omega),hmk];subst hb1;apply Zb;intro b1 hb1;apply Za;simp[q2];subst hb1;apply Zb;intro b1 hb1;apply Zb;intro b2 hb2;apply Za;simp[l1];subst hb2;apply Zt;refine Xw (fun m s'=>s'.k=55∧Keep H s'.H∧ ∃(i c:Nat) (L:List Nat),m+i=xs.length∧L.length=i∧c<2^s∧Dig b32 L∧dv b32 L+b32^i*c=dv b32 (xs.take i)*2^s∧Own H.n s'.H c0 ((List.replicate w 0++L)++c::List.replicate m 0)∧s'.tm.get 1=some (.int .i64 (n:Int))∧s'.tm.get 5=some c0∧s'.tm.get 6=some (.int .i64 (s:Int))∧s'.tm.get 21=some v∧s'.tm.get 22=some (.int .i64 (xs.length:Int))∧s'.tm.get 23=some (.int .i64 (i:Int))) ?_ xs.length _ ⟨rfl,k1,0,0,[],by omega,rfl,Nat.two_pow_pos s,.nil _,by simp[dv],by
   have e:List.replicate (xs.length+w+1) 0=(List.replicate w 0++[])++0::List.replicate xs.length 0:=by rw[List.append_nil,←List.replicate_succ,List.replicate_append_replicate];congr 1;omega
   rw[←e];exact o1,by simp,by simp,by simp,by simp,by simp,by simp⟩;rintro m ⟨k,tm,H2⟩ ⟨hk,kH,i,c,L,hmi,hL,hc,dL,heq,own,t1,t5,t6,t21,t22,t23⟩ Q' hQ';simp only at hk kH own t1 t5 t6 t21 t22 t23;subst hk;apply Zb;intro b3 hb3;apply Za;simp[t22,t23];subst hb3;apply Zb;intro b3 hb3;by_cases hi:i<xs.length
  ·refine Zc (t:=true) (by simp[hi]) ?_;apply Zi;subst hb3;obtain⟨m',rfl⟩: ∃m',m=m'+1:=⟨m-1,by omega⟩;have sv:=hv.keep kH;have a1:=sv.adr Qa (k:= .i64) hi;have d1:=sv.load hi;have hx:xs[i]<b32:=dx.get (List.getElem?_eq_getElem hi);obtain⟨x,hxe⟩: ∃x,x=xs[i]:=⟨_,rfl⟩;rw[←hxe]at d1 hx;obtain⟨f1,f2,f3,f4⟩:=fit32 hx hs32 hc;obtain⟨p,hp⟩: ∃p,p=x*2^s:=⟨_,rfl⟩;rw[←hp]at f1 f2 f3 f4;have m1:Qk .shl .u64 (x:Int) (s:Int)=some (.int .u64 (p:Int)):=by rw[Dn (by omega),←hp,Nat.mod_eq_of_lt f4]
   have m2:Zd .add .i64 (i:Int) (w:Int)=some (.int .i64 ((i+w:Nat):Int)):=Uf (by omega);have lp:(List.replicate w 0++L).length=i+w:=by simp[hL];omega
   have m3:Zd .add .u64 (c:Int) ((p%4294967296:Nat):Int)=some (.int .u64 ((p%4294967296+c:Nat):Int)):=by rw[Jz (by rw[Nat.add_comm];exact b32_lt f1),Nat.add_comm]
   have a2:=own.sl.adr Qa (k:= .i64) (i:=i+w) (by simp[hL];omega);have d2:=own.sl.load (i:=i+w) (by simp[hL];omega);rw[Zk7 _ _ _ lp]at d2;obtain⟨H3,st3,own3,n3,bt3,ka3⟩:=own.put (i:=i+w) (by simp[hL];omega) (p%4294967296+c);rw[Ui _ _ _ _ lp]at own3;have a3:=own3.sl.adr Qa (k:= .i64) (i:=i+w+1) (by simp[hL];omega);obtain⟨H4,st4,own4,n4,bt4,ka4⟩:=own3.put (i:=i+w+1) (by simp[hL];omega) (p/4294967296);have hset:(List.replicate w 0++L++(p%4294967296+c)::List.replicate (m'+1) 0).set (i+w+1) (p/4294967296)=(List.replicate w 0++(L++[p%4294967296+c]))++(p/4294967296)::List.replicate m' 0:=by rw[show List.replicate w 0++L++(p%4294967296+c)::List.replicate (m'+1) 0=(List.replicate w 0++(L++[p%4294967296+c]))++0::List.replicate m' 0 by simp[List.replicate_succ]];exact Ui _ _ _ _ (by simp[hL];omega)
   rw[hset]at own4;apply Zb;intro b3 hb3;apply Zt;apply Zb;intro b4 hb4;apply Za;simp[t21,t23,a1,d1];subst hb4;apply Zb;intro b4 hb4;apply W_mem (by kernel_rfl);simp[t1,t5,t6,q1,m1,m2,m3,a2,d2,rem32,st3];subst hb4;apply Za;simp[t1,t5,t6,q1,m1,m2,Xp (x:=i+w) (by omega),a3,quo32 f4,st4];subst hb3;apply Za;simp[t23,Xp (x:=i) (by omega)];apply hQ';refine⟨m',by omega,rfl,ka4 H (ka3 H kH (Nat.le_refl _)) (Nat.le_refl _),i+1,p/4294967296,L++[p%4294967296+c],by omega,by simp[hL],f2,dL.append (.cons f1 (.nil _)),?_,own4,by simp[t1],by simp[t5],by simp[t6],by simp[t21],by simp[t22],by simp⟩;rw[Yy,hL,Qp hi,Yy,List.length_take,Nat.min_eq_left (by omega),←hxe];simp only[dv,Nat.mul_zero,Nat.add_zero];rw[Nat.add_mul,←heq,Nat.mul_assoc (b32^i) x,←hp];have e1:b32^i*p=b32^i*(p%b32+b32*(p/b32)):=by rw[←f3]
   rw[Nat.mul_add,←Nat.mul_assoc,show b32^i*b32=b32^(i+1)from rfl]at e1;have e2:b32^i*(p%4294967296+c)=b32^i*(p%b32)+b32^i*c:=Nat.mul_add _ _ _;have e3:b32^(i+1)*(p/4294967296)=b32^(i+1)*(p/b32):=rfl;omega
  ·refine Zc (t:=false) (by simp[hi]) ?_;apply Xy;apply hQ';left;refine⟨rfl,?_⟩;obtain rfl:i=xs.length:=by omega
   obtain rfl:m=0:=by omega
   rw[List.take_length]at heq;obtain⟨v5,H5,hc5,e5,o5,_⟩:=Kq own (by simp[hL];omega);subst e5;have dall:Dig b32 ((List.replicate w 0++L)++[c]):=by
    refine Dig.append (Dig.append ?_ dL) (.cons ?_ (.nil _));·intro x hx;rw[List.eq_of_mem_replicate hx];decide
    ·exact Nat.lt_of_lt_of_le hc (by show 2^s≤2^32;exact Nat.pow_le_pow_right (by decide) (by omega))
   have hval:dv b32 ((List.replicate w 0++L)++[c])=dv b32 xs*2^n:=by rw[List.append_assoc,Yy,Yy,Fh,List.length_replicate,hL];simp only[dv,Nat.mul_zero,Nat.add_zero];rw[heq,Nat.zero_add,hnw,Nat.pow_add,Nat.pow_mul];show b32^w*(dv b32 xs*2^s)=dv b32 xs*(b32^w*2^s);rw[Nat.mul_left_comm]
   simp only[List.replicate_zero]at o5;rw[Qr two32 dall,hval]at o5;subst hb1;apply Zb;intro b4 hb4;apply Za;simp[t5,hc5];subst hb4;apply Zm;simp;exact⟨kH,o5⟩
end
theorem grown_new{H:AH}{bits:Nat}{ms:List (Nat×Nat×Nat)}{sz:Nat}{cs:List Value} :But none (H.new sz cs) (grown H ((vis H bits ms).new sz cs)):=by
 refine⟨rfl,fun j hj _=>?_⟩;have hj':j<H.n+1:=hj;rw[AH.blk_new];have e:(grown H ((vis H bits ms).new sz cs)).blk j=if H.n≤j then((vis H bits ms).new sz cs).blk j else H.blk j:=by
  unfold grown;show(match(addT H.t ((vis H bits ms).new sz cs) H.n (H.n+1-H.n)).get j with|some b=>b|none=>Blk.dead)=_;rw[Zj0];by_cases c:H.n≤j;·rw[if_pos (by omega),if_pos c]
  ·rw[if_neg (by omega),if_neg c];rfl
 rw[e];by_cases c:j=H.n;·rw[if_pos (by omega),if_pos c,AH.blk_new,if_pos (show j=(vis H bits ms).n from c)]
 ·rw[if_neg (by omega),if_neg c]
theorem grown_new_keep{H:AH}{bits:Nat}{ms:List (Nat×Nat×Nat)}{sz:Nat}{cs:List Value} :Keep H (grown H ((vis H bits ms).new sz cs)):=by refine⟨Nat.le_succ _,Nat.min_le_left _ _,fun j hj=>?_⟩;have:=(grown_new (H:=H) (bits:=bits) (ms:=ms) (sz:=sz) (cs:=cs)).blk j (show j<H.n+1 by omega) (fun e=>by cases e);rw[this,AH.blk_new,if_neg (by omega)]
theorem DG_build1{P:Program}{C:Cfg}{ops:Array Oper}{k i:Nat}{q:Bool}{ms:List (Nat×Nat×Nat)}{tm:Tr Value}{H:AH}{K:Tr Value→AH→Prop}{o:Oper}{r:List Oper}(x:Nat)(hg:gW tm (Xl ops o)=some true)(hh:Zy o.op=true)(hq:q=false)(he: ∀Hv:AH,Yk P C (Zq P C) tm Hv o.op=some (.slice (some ⟨Hv.n,0,none⟩) 1 1,Hv.new 1 [Gk x]))(h: ∀G2:AH,Own H.n G2 (.slice (some ⟨H.n,0,none⟩) 1 1) [x]→Keep H G2→G2.n=H.n+1→match o.dst with|none=>DW P C ops k (i+1) q ((i,H.n,H.n+1)::ms) r tm G2 K|some d=>d<k∧DW P C ops k (i+1) q ((i,H.n,H.n+1)::ms) r (tm.set d (.slice (some ⟨H.n,0,none⟩) 1 1)) G2 K):DG P C ops k i q ms (o::r) tm H K:=by
 refine Yv (v:= .slice (some ⟨H.n,0,none⟩) 1 1) (H2:=(vis H ((before ops).getD i 0) ms).new 1 [Gk x]) hg hh hq (he _) (Nat.le_succ _) (Nat.le_refl _) ?_;have hbt:Nat.blt H.n ((vis H ((before ops).getD i 0) ms).new 1 [Gk x]).n=true:=by rw[Nat.blt_eq];exact Nat.lt_succ_self _
 rw[hbt];exact h _ ((Own.new H [x]).same grown_new) grown_new_keep rfl
theorem Gr{i a b:Nat}{ms:List (Nat×Nat×Nat)}(h:cond (Nat.blt a b) [(i,a,b)] []=ms): ∀x∈ms,x.1=i∧a≤x.2.1:=by intro x hx;rw[←h]at hx;cases hbl:Nat.blt a b with|true=>rw[hbl,cond_true]at hx;simp at hx;subst hx;exact⟨rfl,Nat.le_refl _⟩|false=>rw[hbl,cond_false]at hx;cases hx
theorem halve_step{B R q r k:Nat}(e:R=B*q+r)(hr:r<B*2^(k+1))(hq:q+2^(k+1)≤4294967296):(B*2^k≤r→R=B*(q+2^k)+(r-B*2^k)∧r-B*2^k<B*2^k∧q+2^k+2^k≤4294967296)∧(r<B*2^k→q+2^k≤4294967296):=by
 have e2:2^(k+1)=2^k+2^k:=by rw[Nat.pow_succ];omega
 rw[e2]at hq;rw[e2,Nat.mul_add]at hr;have hp:=Nat.two_pow_pos k;refine⟨fun h=>⟨?_,by omega,by omega⟩,fun h=>by omega⟩;rw[e,Nat.mul_add];omega
theorem Er{m:Nat}(h:m<9223372036854775807):Zd .sub .i64 (m:Int) 1=some (.int .i64 ((m:Int)-1)):=by show some (Value.int .i64 (IntKind.i64.wrap ((m:Int)-1)))=_;congr 2;rw[IntKind.wrap_i64];omega
theorem Zk6{m:Nat} :Zd .geq .i64 ((m:Int)-1) 0=some (.bool (decide (0<m))):=by show some (Value.bool (decide ((m:Int)-1≥0)))=_;congr 2;apply decide_eq_decide.mpr;omega
theorem geq_cmp{a b:Nat} :Zd .geq .i64 (Vn a b) 0=some (.bool (decide (b≤a))):=by
 show some (Value.bool (decide (Vn a b≥0)))=_;congr 2;apply decide_eq_decide.mpr;unfold Vn;split;·omega
 ·split<;>omega
section
attribute [-simp] Int.natCast_add Int.natCast_mul Int.natCast_ediv Int.natCast_emod Int.natCast_pow
attribute [local simp] strip Ye LW' LR gW Yk Xc Zz Xd Yn Xe Zr Zs Zg Yo Yz Yj Yp Zh Xa Ze opd Qd Yl plain Yg Tr.get_set Qb Zp Xv Yc sameKind undef Zu Yr Yw Zn Qa Jl Yb parts Jf unV DW Xl Zy LX Zx
set_option maxHeartbeats 2000000 in theorem refDiv_spec{H:AH}{va vb:Value}{xs ys:List Nat}(ha:Sl H va xs)(hb:Sl H vb ys)(dx:Dig b32 xs)(dy:Dig b32 ys)(ty:Xm ys=ys)(lx:xs.length≤4000000000000)(ly:ys.length≤4000000000000)(hy:0<dv b32 ys):CW Tryz.prog Zo 64 [va,vb] H fun v' H'=>Keep H H'∧ ∃q r,v'= .tuple #[q,r]∧Own H.n H' q (ds b32 (dv b32 xs/dv b32 ys))∧Own H.n H' r (ds b32 (dv b32 xs%dv b32 ys)):=by
 refine Zj 60 (by decide) (by decide) Tryz.func64 rfl rfl ?_;have l1:=ha.len Qa;obtain⟨n,hn⟩: ∃n,n=xs.length:=⟨_,rfl⟩;rw[←hn]at l1;obtain⟨B,hB⟩: ∃B,B=dv b32 ys:=⟨_,rfl⟩;rw[←hB]at hy;have hBlt:B<b32^ys.length:=by have h1:=Vh dy;rwa[←hB]at h1
 obtain⟨c0,H1,hmk,k1,o1,n1⟩:=Xz (H:=H) Qa (n:=n) (by omega);apply Zb;intro b1 hb1;apply Za;simp;subst hb1;apply Zb;intro b1 hb1;apply Za;simp;subst hb1;apply Zb;intro b1 hb1;apply Za;simp[l1,hmk];subst hb1;apply Zb;intro b1 hb1;apply Zb;intro b2 hb2;apply Za;simp[l1,Er (m:=n) (by omega)];subst hb2;apply Zt;refine Xw (fun m s'=>s'.k=60∧Keep H s'.H∧m≤n∧ ∃(L:List Nat) (R:Nat) (rv:Value),L.length+m=n∧Dig b32 L∧R<B∧dv b32 (xs.drop m)=B*dv b32 L+R∧Own H.n s'.H c0 (List.replicate m 0++L)∧H1.n≤s'.H.n∧Own H1.n s'.H rv (ds b32 R)∧s'.tm.get 0=some va∧s'.tm.get 1=some vb∧s'.tm.get 6=some rv∧s'.tm.get 7=some c0∧s'.tm.get 8=some (.int .i64 ((m:Int)-1))) ?_ n _ ⟨rfl,k1,Nat.le_refl _,[],0,.slice none 0 0,by simp,.nil _,hy,by simp[hn,dv],by simpa using o1,Nat.le_refl _,by rw[Jb];exact .nil,by simp,by simp,by simp,by simp,by simp⟩;rintro m ⟨k,tm,H2⟩ ⟨hk,kH,hm,L,R,rv,hL,dL,hR,heq,own,hn1,ro,t0,t1,t6,t7,t8⟩ Q' hQ';simp only at hk kH own hn1 ro t0 t1 t6 t7 t8;subst hk;apply Zb;intro b3 hb3;apply Zb;intro b4 hb4;apply Za;simp[t8,Zk6];subst hb4;by_cases hm0:m=0
 ·subst hm0;refine Zc (t:=false) (by simp) ?_;apply Xy;apply hQ';left;refine⟨rfl,?_⟩;simp at own heq;have hdiv:dv b32 xs/B=dv b32 L:=by rw[heq,Nat.mul_add_div hy,Nat.div_eq_of_lt hR,Nat.add_zero]
  have hmod:dv b32 xs%B=R:=by rw[heq,Nat.mul_add_mod,Nat.mod_eq_of_lt hR]
  obtain⟨v5,H5,hc5,e5,o5,_⟩:=Kq own (by omega);subst e5;rw[Qr two32 dL]at o5;subst hb1;apply Zb;intro b4 hb4;apply Za;simp[t6,t7,hc5];subst hb4;apply Zm;simp;rw[←hB,hdiv,hmod];exact⟨kH,v5,rv,⟨rfl,rfl⟩,o5,ro.mono k1.n (.refl _)⟩
 ·refine Zc (t:=true) (by simp;omega) ?_;apply Zi;subst hb3;obtain⟨i,rfl⟩: ∃i,m=i+1:=⟨m-1,by omega⟩;have em:((i+1:Nat):Int)-1=(i:Int):=by omega
  rw[em]at t8;have hi:i<xs.length:=by omega
  have hx:xs[i]<b32:=dx.get (List.getElem?_eq_getElem hi);have hdrop:xs.drop i=xs[i]::xs.drop (i+1):=List.drop_eq_getElem_cons hi;have lR:(ds b32 R).length≤ys.length:=Jr two32 (Nat.lt_trans hR hBlt);obtain⟨v1,H3,hc1,k3,o3⟩:=Zq0 (H:=H2.top) ro.sl.top (Xj two32 R) (by omega) (n:=32) (by decide);have hc1':Zq Tryz.prog Zo 92 [rv,.int .i64 32] H2.top=some (v1,H3):=hc1;rw[Xx two32]at o3;obtain⟨G1,hG1⟩: ∃G1,G1=grown H2 H3:=⟨_,rfl⟩;have kG1:Keep H2 G1:=by rw[hG1];exact Zw (.refl H2) k3
  have o3':Own H2.n G1 v1 (ds b32 (R*2^32)):=by rw[hG1];exact o3.same (Yh k3)
  have h3n:H2.n≤H3.n:=k3.n;have nG1:G1.n=H3.n:=by rw[hG1];rfl
  obtain⟨x,hxe⟩: ∃x,x=xs[i]:=⟨_,rfl⟩;rw[←hxe]at hx hdrop;have a1:Yu Tryz.prog 37 va (.int .i64 (i:Int))=some (adr va i):=ha.adr Qa hi;apply Zb;intro b3 hb3;apply Zt;apply Zb;intro b4 hb4;apply Qm (by kernel_rfl);simp[t6];refine Yv (v:=v1) (H2:=H3) rfl rfl rfl (by rw[Zk rfl];simp[t6,hc1']) h3n (Yx k3) ?_;rw[←hG1];generalize hms:cond (Nat.blt H2.n H3.n) _ _=ms;have hms1:=Gr hms;simp[t0,t8,a1];have hld:=fun bits=>(ha.keep (kH.trans (Qw (bits:=bits) kG1 fun x hx=>(hms1 x hx).2))).load hi;rw[←hxe]at hld;refine Yd (v:= .int .u64 (x:Int)) rfl rfl rfl (by simp[hld]) ?_;simp;refine DG_build1 x rfl rfl rfl (fun Hv=>by simp[Zg9 _ Qa]) ?_;intro G2 oG2 kG2 nG2;obtain⟨v7,H7,hc7,e7,o7,_⟩:=Kq oG2.top (by simp);subst e7;have o3'':Own H2.n G2 v1 (ds b32 (R*2^32)):=o3'.mono (Nat.le_refl _) kG2;have h1x:Dig b32 [x]:= .cons hx (.nil _);have hR32:R*2^32<b32^(ys.length+1):=by have:R*2^32<b32^ys.length*2^32:=Nat.mul_lt_mul_of_pos_right (Nat.lt_trans hR hBlt) (by decide);rw[show b32^(ys.length+1)=b32^ys.length*b32 from rfl,show b32=2^32 by decide];exact this
  obtain⟨v8,H8,hc8,k8,o8⟩:=refAdd_spec (H:=G2.top) o3''.sl.top o7.sl (Xj two32 _) (Ji h1x) (Nat.le_trans (Jr two32 (k:=ys.length+1) hR32) (by omega)) (by have:=Jj [x];simp at this;omega);rw[Xx two32,Vp,show dv b32 [x]=x by simp[dv]]at o8;obtain⟨G3,hG3⟩: ∃G3,G3=grown G2 H8:=⟨_,rfl⟩;have kG3:Keep G2 G3:=by rw[hG3];exact Zw (.refl G2) k8
  obtain⟨R1,hR1⟩: ∃R1,R1=R*2^32+x:=⟨_,rfl⟩;rw[←hR1]at o8;have o8':Own G2.n G3 v8 (ds b32 R1):=by rw[hG3];exact o8.same (Yh k8)
  have h8n:G2.n≤H8.n:=k8.n;simp;refine Yd (v:=v7) rfl rfl rfl ?_ ?_
  ·rw[Zk (Xb fun x hx=>?_)];·simp[hc7]
   ·rcases List.mem_cons.mp hx with e|e;·rw[e];kernel_rfl
    ·rw[(hms1 x e).1];kernel_rfl
  simp;refine Yv (v:=v8) (H2:=H8) rfl rfl rfl ?_ h8n (Yx k8) ?_
  ·rw[Zk (Xb fun x hx=>?_)];·simp[hc8]
   ·rcases List.mem_cons.mp hx with e|e;·rw[e];kernel_rfl
    ·rw[(hms1 x e).1];kernel_rfl
  rw[←hG3];simp;subst hb4;have kH3:Keep H G3:=((kH.trans kG1).trans kG2).trans kG3;have own3:=own.mono (Nat.le_refl _) ((kG1.trans kG2).trans kG3);have or3:Own H1.n G3 v8 (ds b32 R1):=o8'.mono (by have:=kG1.n;have:=kG2.n;omega) (.refl G3);have R1lt:R1<B*2^32:=by have h1:(R+1)*2^32≤B*2^32:=Nat.mul_le_mul_right _ hR;have h2:x<2^32:=hx;rw[Nat.succ_mul]at h1;omega
  apply Zb;intro b4 hb4;apply Za;simp;subst hb4;refine Qs (fun s'=>s'.k=60∧Keep G3 s'.H∧ ∃(q r:Nat) (rv':Value),q<4294967296∧R1=B*q+r∧r<B∧Own H1.n s'.H rv' (ds b32 r)∧s'.tm.get 0=some va∧s'.tm.get 1=some vb∧s'.tm.get 6=some rv'∧s'.tm.get 7=some c0∧s'.tm.get 8=some (.int .i64 (i:Int))∧s'.tm.get 9=some (.int .u64 (q:Int))) ?_ ?_
  ·intro Q'' hQ'';have hbG:=hb.keep kH3;have hB1:(ds b32 R1).length≤ys.length+1:=Jr two32 (by have h2:B*2^32<b32^ys.length*2^32:=Nat.mul_lt_mul_of_pos_right hBlt (by decide);rw[show b32^(ys.length+1)=b32^ys.length*b32 from rfl,show b32=2^32 by decide];rw[show b32=2^32 by decide]at h2;exact Nat.lt_trans R1lt h2);obtain⟨v9,H9,hc9,e9,e9'⟩:=Zp7 or3.sl hbG (Xj two32 R1) dy (Ze2 two32 R1) ty (by omega) (by omega);subst e9;subst e9';rw[Xx two32,←hB]at hc9;apply Zb;intro b4 hb4;apply Za;simp[t1,hc9,geq_cmp];subst hb4;by_cases hge:B≤R1
   ·refine Zc (t:=true) (by simp[hge]) ?_;apply Zb;intro b4 hb4;apply Za;simp;subst hb4;apply Zt;refine Xw (fun kk s'=>s'.k=60∧Keep H9 s'.H∧kk≤32∧ ∃(q r:Nat) (rv':Value),q+2^kk≤4294967296∧R1=B*q+r∧r<B*2^kk∧Own H1.n s'.H rv' (ds b32 r)∧s'.tm.get 0=some va∧s'.tm.get 1=some vb∧s'.tm.get 6=some rv'∧s'.tm.get 7=some c0∧s'.tm.get 8=some (.int .i64 (i:Int))∧s'.tm.get 9=some (.int .u64 (q:Int))∧s'.tm.get 10=some (.int .i64 ((kk:Int)-1))) ?_ 32 _ ⟨rfl,.refl _,Nat.le_refl _,0,R1,v8,by decide,by simp,R1lt,or3,by simp[t0],by simp[t1],by simp,by simp[t7],by simp[t8],by simp,by simp⟩;clear t0 t1 t6 t7 t8;rintro kk ⟨k,tm,H4⟩ ⟨hk,k4,hkk,q,r,rv',hq,hqr,hr,or4,t0,t1,t6,t7,t8,t9,t10⟩ Q5 hQ5;simp only at hk k4 or4 t0 t1 t6 t7 t8 t9 t10;subst hk;apply Zb;intro b5 hb5;apply Zb;intro b6 hb6;apply Za;simp[t10,Zk6];subst hb6;by_cases hk0:kk=0;·subst hk0;refine Zc (t:=false) (by simp) ?_;apply Xy;apply hQ5;left;exact⟨rfl,hQ'' _ ⟨rfl,k4,q,r,rv',by omega,hqr,by simpa using hr,or4,by simp[t0],by simp[t1],by simp[t6],by simp[t7],by simp[t8],by simp[t9]⟩⟩
    ·refine Zc (t:=true) (by simp;omega) ?_;apply Zi;subst hb5;obtain⟨s,rfl⟩: ∃s,kk=s+1:=⟨kk-1,by omega⟩;have es:((s+1:Nat):Int)-1=(s:Int):=by omega
     rw[es]at t10;obtain⟨st1,st2⟩:=halve_step hqr hr hq;have hb4':=hbG.keep k4;obtain⟨v5,H5,hc5,k5,o5⟩:=Zq0 (H:=H4) hb4' dy (by omega) (n:=s) (by omega);rw[←hB]at o5;have or5:=or4.mono (Nat.le_refl _) k5;have rlt:r≤R1:=by rw[hqr];omega
     have lr:(ds b32 r).length≤ys.length+1:=by have h1:=ds_lt two32 R1;have h2:b32^(ds b32 R1).length≤b32^(ys.length+1):=Nat.pow_le_pow_right (by decide) hB1;exact Jr two32 (by omega)
     have lbs:(ds b32 (B*2^s)).length≤ys.length+1:=Jr two32 (by have h1:B*2^s≤B*2^32:=Nat.mul_le_mul_left _ (Nat.pow_le_pow_right (by decide) (by omega));have h2:B*2^32<b32^ys.length*2^32:=Nat.mul_lt_mul_of_pos_right hBlt (by decide);rw[show b32^(ys.length+1)=b32^ys.length*b32 from rfl,show b32=2^32 by decide];rw[show b32=2^32 by decide]at h2;exact Nat.lt_of_le_of_lt h1 h2);obtain⟨v6,H6,hc6,e6,e6'⟩:=Zp7 or5.sl o5.sl (Xj two32 r) (Xj two32 _) (Ze2 two32 r) (Ze2 two32 _) (by omega) (by omega);subst e6;subst e6';rw[Xx two32,Xx two32]at hc6;apply Zb;intro b5 hb5;apply Zt;apply Zb;intro b6 hb6;apply Za;simp[t1,t10,hc5];subst hb6;apply Zb;intro b6 hb6;apply Za;simp[t6,hc6,geq_cmp];subst hb6;by_cases hs:B*2^s≤r
     ·obtain⟨g1,g2,g3⟩:=st1 hs;obtain⟨v7,H7,hc7,k7,o7⟩:=refSub_spec or5.sl o5.sl (Xj two32 r) (Xj two32 _) (by omega) (by rw[Xx two32,Xx two32];exact hs);rw[Xx two32,Xx two32]at o7;have sp:=Nat.two_pow_pos s;have m1:Qk .shl .u64 1 (s:Int)=some (.int .u64 ((2^s:Nat):Int)):=by have:=Dn (x:=1) (s:=s) (by omega);rw[Nat.one_mul,Nat.mod_eq_of_lt (by show _<18446744073709551616;omega)]at this;exact this
      have m2:Zd .add .u64 (q:Int) ((2^s:Nat):Int)=some (.int .u64 ((q+2^s:Nat):Int)):=Jz (by show _<18446744073709551616;omega);refine Zc (t:=true) (by simp[hs]) ?_;apply Zb;intro b6 hb6;apply Za;simp[t6,hc7];subst hb6;apply Za;simp[t9,t10,m1,m2];subst hb5;apply Za;simp[t10,Er (m:=s) (by omega)];apply hQ5;exact⟨s,Nat.lt_succ_self s,rfl,(k4.trans k5).trans k7,by show s≤32;omega,q+2^s,r-B*2^s,v7,g3,g1,g2,o7.mono (by have:=kG1.n;have:=kG2.n;have:=kG3.n;have:=k4.n;have:=k5.n;omega) (.refl _),by simp[t0],by simp[t1],by simp,by simp[t7],by simp[t8],by simp,by simp⟩
     ·refine Zc (t:=false) (by simp[hs]) ?_;apply Zi;subst hb5;apply Za;simp[t10,Er (m:=s) (by omega)];apply hQ5;exact⟨s,Nat.lt_succ_self s,rfl,k4.trans k5,by show s≤32;omega,q,r,rv',st2 (by omega),hqr,by omega,or5,by simp[t0],by simp[t1],by simp[t6],by simp[t7],by simp[t8],by simp[t9],by simp⟩
   ·refine Zc (t:=false) (by simp[hge]) ?_;apply Zi;apply hQ'';exact⟨rfl,.refl _,0,R1,v8,by decide,by simp,by omega,or3,by simp[t0],by simp[t1],by simp,by simp[t7],by simp[t8],by simp⟩
  clear t0 t1 t6 t7 t8;rintro⟨k,tm,H4⟩ ⟨hk,k4,q,r,rv',hq,hqr,hr,or4,t0,t1,t6,t7,t8,t9⟩;simp only at hk k4 or4 t0 t1 t6 t7 t8 t9;subst hk;have own4:=own3.mono (Nat.le_refl _) k4;have hrep:List.replicate (i+1) 0++L=List.replicate i 0++0::L:=by rw[List.replicate_succ'];simp
  rw[hrep]at own4;have a3:=own4.sl.adr Qa (k:= .i64) (i:=i) (by simp);obtain⟨H5,st5,own5,n5,b5,ka5⟩:=own4.put (i:=i) (by simp) q;rw[Ui _ _ _ _ (by simp)]at own5;have bt5:But (Qi c0) H4 H5:=⟨n5,fun j _ hj=>b5 j hj⟩;have ap:Kl c0 rv':=Gu o1 or4 (Nat.le_refl _);apply Za;simp[t7,t8,t9,a3,st5];subst hb3;apply Za;simp[t8,Er (m:=i) (by omega)];apply hQ';refine⟨i,Nat.lt_succ_self i,rfl,ka5 H (kH3.trans k4) (Nat.le_refl _),by show i≤n;omega,q::L,r,rv',by simp;omega,.cons hq dL,hr,?_,own5,by rw[n5];have:=kG1.n;have:=kG2.n;have:=kG3.n;have:=k4.n;omega,or4.but bt5 ap,by simp[t0],by simp[t1],by simp[t6],by simp[t7],by simp⟩;rw[hdrop];simp only[dv];rw[heq,Nat.mul_add b32,Nat.mul_add B,Nat.mul_left_comm B b32];rw[hqr]at hR1;have e1:R*2^32=b32*R:=by rw[Nat.mul_comm]
  omega
end
theorem uLL:Tryz.prog.underlying 91=some (.slice 25):=by kernel_rfl
theorem sLst:Qq Tryz.prog 25=some 1:=by kernel_rfl
theorem aLst:Jd Tryz.prog 25=some false:=by kernel_rfl
structure Grp (n0 : Nat) (H : AH) (b : Nat) (vs : List Value) (f : Nat → List Nat) : Prop where
  lo : n0 ≤ b
  hi : b < H.n
  blk : H.blk b = .rw 1 vs
  own : ∀ (i : Nat) (v : Value), vs[i]? = some v → Own n0 H v (f i)
  ap : ∀ (i j : Nat) (v w : Value), i ≠ j → vs[i]? = some v → vs[j]? = some w → Kl v w
  out : ∀ (i : Nat) (v : Value), vs[i]? = some v → Qi v ≠ some b
theorem Own.isSlice{n0:Nat}{H:AH}{v:Value}{xs:List Nat}(h:Own n0 H v xs):v.cells=#[v]∧one v=true:=by cases h<;>exact⟨rfl,rfl⟩
section
variable {n0 : Nat} {H : AH} {b : Nat} {vs : List Value} {f : Nat → List Nat}
theorem Grp.adr(g:Grp n0 H b vs f){k:IntKind}{i:Nat}(hi:i<vs.length):Yu Tryz.prog 91 (.slice (some ⟨b,0,none⟩) vs.length vs.length) (.int k (i:Int))=some (.pointer (some ⟨b,i,none⟩)):=by unfold Yu;simp only[uLL,sLst];rw[if_pos (by omega)];simp
theorem Grp.load(g:Grp n0 H b vs f){i:Nat}(hi:i<vs.length):Ys Tryz.prog H 25 (.pointer (some ⟨b,i,none⟩))=some vs[i]:=by unfold Ys;simp only[aLst];unfold AH.cells;rw[g.blk];exact List.getElem?_eq_getElem hi
theorem Grp.step(g:Grp n0 H b vs f){H':AH}{i:Nat}(hi:i<vs.length){ys:List Nat}(bt:But (Qi vs[i]) H H')(o:Own n0 H' vs[i] ys):Grp n0 H' b vs (fun j=>if j=i then ys else f j):=by
 have gi:vs[i]?=some vs[i]:=List.getElem?_eq_getElem hi;refine⟨g.lo,by rw[bt.n];exact g.hi,by rw[bt.blk b g.hi (g.out i _ gi)];exact g.blk,fun j v hj=>?_,g.ap,g.out⟩;by_cases e:j=i;·subst e;rw[if_pos rfl];obtain rfl:=Option.some.inj (gi.symm.trans hj);exact o
 ·rw[if_neg e];exact(g.own j v hj).but bt fun c hc=>g.ap i j _ _ (Ne.symm e) gi hj c hc
end
theorem Grp.put{n0:Nat}{H H4:AH}{b:Nat}{vs:List Value}{f:Nat→List Nat}(g:Grp n0 H b vs f){i:Nat}(hi:i<vs.length){v':Value}{ys:List Nat}(md:Mod (Qi vs[i]) H H4)(o:Own H.n H4 v' ys): ∃H5,Xt Tryz.prog H4 25 (.pointer (some ⟨b,i,none⟩)) v'=some H5∧Grp n0 H5 b (vs.set i v') (fun j=>if j=i then ys else f j)∧KA n0 H4 H5:=by
 have gi:vs[i]?=some vs[i]:=List.getElem?_eq_getElem hi;obtain⟨c1,c2⟩:=o.isSlice;have hbk:H4.blk b= .rw 1 vs:=by rw[md.blk b g.hi (g.out i _ gi)];exact g.blk
 have hle:Nat.ble (i+1) vs.length=true:=Nat.ble_eq.mpr (by omega);have hw:H4.write b i [v']=some { n:=H4.n,lw:=min H4.lw b,t:=H4.t.set b (.rw 1 (vs.take i++[v']++vs.drop (i+1))) } :=by rw[AH.write_def,hbk];simp only[List.length_singleton,hle,List.all_cons,c2,List.all_nil,Bool.and_self,cond_true]
 have hset:vs.take i++[v']++vs.drop (i+1)=vs.set i v':=by rw[List.set_eq_take_append_cons_drop,if_pos hi];simp
 rw[hset]at hw;obtain⟨H5,hH5⟩: ∃H5:AH,H5= { n:=H4.n,lw:=min H4.lw b,t:=H4.t.set b (.rw 1 (vs.set i v')) } :=⟨_,rfl⟩;rw[←hH5]at hw;have n5:H5.n=H4.n:=by rw[hH5]
 have b5:H5.blk b= .rw 1 (vs.set i v'):=by rw[hH5];unfold AH.blk;simp only[Tr.get_set,if_true]
 have o5: ∀j,j≠b→H5.blk j=H4.blk j:=fun j hj=>by rw[hH5];unfold AH.blk;simp only[Tr.get_set,if_neg hj]
 have bt5:But (some b) H4 H5:=⟨n5,fun j _ hj=>o5 j (fun e=>hj (by rw[e]))⟩;have hbn:b<H.n:=g.hi;have hn4:=md.n;have far: ∀c,Qi v'=some c→H.n≤c:=fun c hc=>(o.blk_lo hc).1;refine⟨H5,?_,⟨g.lo,by rw[n5];omega,b5,?_,?_,?_⟩,?_⟩;·unfold Xt;simp only[sLst,c1];rw[show Nat.beq (#[v']:Array Value).size 1=true from rfl,cond_true];exact hw
 ·intro j v hj;rw[List.getElem?_set]at hj;by_cases e:i=j;·subst e;rw[if_pos rfl,if_pos hi]at hj;cases hj;rw[if_pos rfl];exact(o.mono (by have:=g.lo;omega) (.refl _)).but bt5 fun c hc hv=>by cases hc;have:=far _ hv;omega
  ·rw[if_neg e]at hj;rw[if_neg (Ne.symm e)];exact((g.own j v hj).mod md fun c hc=>g.ap i j _ _ e gi hj c hc).but bt5 fun c hc hv=>by cases hc;exact g.out j v hj hv
 ·intro j k v w hjk hj hk c hc hc';rw[List.getElem?_set]at hj hk;by_cases e:i=j;·subst e;rw[if_pos rfl,if_pos hi]at hj;cases hj;rw[if_neg hjk]at hk;have h1:=far _ hc;have h2:=((g.own k w hk).blk_lo hc').2;omega
  ·rw[if_neg e]at hj;by_cases e2:i=k;·subst e2;rw[if_pos rfl,if_pos hi]at hk;cases hk;have h1:=far _ hc';have h2:=((g.own j v hj).blk_lo hc).2;omega
   ·rw[if_neg e2]at hk;exact g.ap j k v w hjk hj hk c hc hc'
 ·intro j v hj hv;rw[List.getElem?_set]at hj;by_cases e:i=j;·subst e;rw[if_pos rfl,if_pos hi]at hj;cases hj;have:=far _ hv;omega
  ·rw[if_neg e]at hj;exact g.out j v hj hv
 ·intro H0 k hn;have:=k.lw;have:=g.lo;refine⟨by rw[n5];exact k.n,by rw[hH5];show min H0.lw H0.n≤min H4.lw b;omega,fun j hj=>?_⟩;rw[o5 j (by omega)];exact k.blk j hj
theorem Ze0{n:Nat}(h:n<B64):Dy Tryz.prog 3 101 (.int .i64 (n:Int))=some (.int .u64 (n:Int)):=by
 have h:n<18446744073709551616:=h;have e:IntKind.u64.wrap (n:Int)=(n:Int):=by rw[IntKind.wrap_u64];omega
 unfold Dy;simp only[Tryz.underlying3,Tryz.underlying101,e]
theorem addu{x y:Nat}(h:x+y<B64):Zd .add .u64 (x:Int) (y:Int)=some (.int .u64 ((x+y:Nat):Int)):=Jz h
section
attribute [-simp] Int.natCast_add Int.natCast_mul Int.natCast_ediv Int.natCast_emod Int.natCast_pow
attribute [local simp] strip Ye LW' LR gW Yk Xc Zz Xd Yn Xe Zr Zs Zg Yo Yz Yj Yp Zh Xa Ze opd Qd Yl plain Yg Tr.get_set Qb Zp Xv Yc sameKind undef Zu Yr Yw Zn Qa Jl Yb parts Jf unV DW Xl Zy LX Zx
end
inductive ET where|node(op:Int)(neg:Bool)(abs den:List Nat)(args:List ET)
mutual def ET.nodes:ET→Nat| .node _ _ _ _ args=>1+Yi args def Yi:List ET→Nat|[]=>0|t::ts=>t.nodes+Yi ts end
mutual def ET.depth:ET→Nat| .node _ _ _ _ args=>max 1 (Vz args) def Vz:List ET→Nat|[]=>0|t::ts=>max (t.depth+1) (Vz ts) end
def arity(n:Nat):Nat:=[0,0,1,2,2,2,2,1,2,2,1,1,1,1,1,1][n]?.getD 0
def ET.good:ET→Bool| .node op neg abs den args=>decide (0≤op∧op<16∧args.length=arity op.toNat)&&(if op=0 then decide (0<dv B64 den)else decide (abs.length=0)&&decide (den.length=0)&&!neg)
mutual def ET.allGood:ET→Bool| .node op neg abs den args=>(ET.node op neg abs den args).good&&Ju args def Ju:List ET→Bool|[]=>true|t::ts=>t.allGood&&Ju ts end
mutual def ET.wide(L:Nat):ET→Prop| .node _ _ abs den args=>abs.length≤L∧den.length≤L∧Dig B64 abs∧Dig B64 den∧Ed L args def Ed(L:Nat):List ET→Prop|[]=>True|t::ts=>t.wide L∧Ed L ts end
theorem Vm(t:ET):0<t.nodes:=by cases t;simp only[ET.nodes];omega
theorem Ka(xs ys:List ET):Yi (xs++ys)=Yi xs+Yi ys:=by induction xs with|nil=>simp[Yi]|cons x xs ih=>simp[Yi,ih,Nat.add_assoc]
theorem Zc0(xs ys:List ET):Ju (xs++ys)=(Ju xs&&Ju ys):=by induction xs with|nil=>simp[Ju]|cons x xs ih=>simp[Ju,ih,Bool.and_assoc]
theorem Az(xs ys:List ET):Vz (xs++ys)=max (Vz xs) (Vz ys):=by induction xs with|nil=>simp[Vz]|cons x xs ih=>simp[Vz,ih,Nat.max_assoc]
theorem Cw{L:Nat}{xs:List ET}(h:Ed L xs){i:Nat}{t:ET}(hi:xs[i]?=some t):t.wide L:=by induction xs generalizing i with
 |nil=>simp at hi
 |cons x xs ih=>cases i with|zero=>simp at hi;subst hi;exact h.1|succ i=>simp at hi;exact ih h.2 hi
theorem Dk{xs:List ET}{i:Nat}{t:ET}(hi:xs[i]?=some t):t.nodes≤Yi xs:=by induction xs generalizing i with
 |nil=>simp at hi
 |cons x xs ih=>cases i with|zero=>simp at hi;subst hi;simp[Yi]|succ i=>simp at hi;have:=ih hi;simp only[Yi];omega
theorem Fi(xs:List ET):xs.length≤Yi xs:=by induction xs with|nil=>simp|cons x xs ih=>have:=Vm x;simp only[Yi,List.length_cons];omega
theorem Zb1: ∀n(t:ET),t.nodes≤n→t.depth≤t.nodes:=by intro n;induction n with
 |zero=>intro t h;have:=Vm t;omega
 |succ n ih=>
  intro t h;obtain⟨op,neg,abs,den,args⟩:=t;simp only[ET.nodes]at h;simp only[ET.nodes,ET.depth];have key: ∀l:List ET,Yi l≤n→Vz l≤1+Yi l:=by intro l;induction l with|nil=>intro _;simp[Vz]|cons x xs ihl=>intro hl;simp only[Yi]at hl;simp only[Vz,Yi];have h1:=ih x (by omega);have h2:=ihl (by omega);have:=Vm x;omega
  have:=key args (by omega);omega
mutual inductive Ex(H:AH):List Value→ET→Prop|mk{op:Int}{neg:Bool}{va vd vx:Value}{abs den:List Nat}{args:List ET} :Sl H va abs→Sl H vd den→Xs H vx args→Ex H [.int .i64 op,.bool neg,va,vd,vx] (.node op neg abs den args) inductive Xs(H:AH):Value→List ET→Prop|nil:Xs H (.slice none 0 0) []|emp(b:Nat):Xs H (.slice (some ⟨b,0,some 0⟩) 0 0) []|mk(b o cap:Nat){cs:List Value}{args:List ET} :b<H.n→H.cells b=some cs→args.length≤cap→(∀(i:Nat)(t:ET),args[i]?=some t→Ex H ((cs.drop (o+i*5)).take 5) t)→Xs H (.slice (some ⟨b,o,none⟩) args.length cap) args end
theorem keep_topT(H:AH):Keep H H.top:=⟨Nat.le_refl _,by show min H.lw H.n≤H.n;omega,fun _ _=>rfl⟩
theorem Km{H H':AH}(k:Keep H H'){b:Nat}(hb:b<H.n):H'.cells b=H.cells b:=by unfold AH.cells;rw[k.blk b hb]
theorem keep_ex{H H':AH}(k:Keep H H'): ∀n(t:ET),t.nodes≤n→ ∀vs,Ex H vs t→Ex H' vs t:=by intro n;induction n with
 |zero=>intro t h;have:=Vm t;omega
 |succ n ih=>intro t h vs hx;cases hx with
  |mk h1 h2 h3=>simp only[ET.nodes]at h;refine .mk (h1.keep k) (h2.keep k) ?_;cases h3 with
   |nil=>exact .nil
   |emp b=>exact .emp b
   |mk b o cap hb hc hl hf=>
    rename_i cs;refine .mk b o cap (cs:=cs) (Nat.lt_of_lt_of_le hb k.n) ?_ hl fun i t hi=>?_;·rw[Km k hb];exact hc
    ·have:=Dk hi;exact ih t (by omega) _ (hf i t hi)
theorem Ex.keep{H H':AH}{vs:List Value}{t:ET}(h:Ex H vs t)(k:Keep H H'):Ex H' vs t:=keep_ex k _ t (Nat.le_refl _) vs h
theorem Xs.len{H:AH}{v:Value}{args:List ET}(h:Xs H v args):lenV Tryz.prog 51 v=some args.length:=by
 have u:Tryz.prog.underlying 51=some (.slice 53):=by kernel_rfl
 unfold lenV;rw[u];cases h<;>rfl
theorem aExpr:Jd Tryz.prog 53=some true:=by kernel_rfl
theorem Zd2:Qq Tryz.prog 53=some 5:=by kernel_rfl
theorem aOp:Jd Tryz.prog 50=some false:=by kernel_rfl
theorem aNat:Jd Tryz.prog 30=some false:=by kernel_rfl
theorem aExprs:Jd Tryz.prog 51=some false:=by kernel_rfl
theorem aInt:Jd Tryz.prog 3=some false:=by kernel_rfl
theorem aBool:Jd Tryz.prog 4=some false:=by kernel_rfl
theorem Yt{H:AH}{t:TypeId}(ht:Jd Tryz.prog t=some false){b o:Nat}{cs:List Value}{v:Value}(h:H.cells b=some cs)(hk:cs[o]?=some v):Ys Tryz.prog H t (.pointer (some ⟨b,o,none⟩))=some v:=by unfold Ys;simp only[ht,h,hk]
theorem Ze8{H:AH}{b o:Nat}{cs vs:List Value}(h:H.cells b=some cs)(hk:(cs.drop o).take 5=vs)(hl:vs.length=5):Ys Tryz.prog H 53 (.pointer (some ⟨b,o,none⟩))=some (.agg vs.toArray):=by
 unfold Ys;simp only[aExpr,Zd2,AH.read_def,h];have:o+5≤cs.length:=by have:=congrArg List.length hk;rw[List.length_take,List.length_drop,hl]at this;omega
 rw[Nat.ble_eq.mpr this,cond_true,hk]
theorem Ex.len{H:AH}{vs:List Value}{t:ET}(h:Ex H vs t):vs.length=5:=by cases h;rfl
theorem Xs.at{H:AH}{v:Value}{args:List ET}(h:Xs H v args){i:Nat}{t:ET}(hi:args[i]?=some t): ∃(p:Value) (vs:List Value),Yu Tryz.prog 51 v (.int .i64 (i:Int))=some p∧(∀H',Keep H H'→Ys Tryz.prog H' 53 p=some (.agg vs.toArray))∧Ex H vs t:=by
 have u:Tryz.prog.underlying 51=some (.slice 53):=by kernel_rfl
 have hlt:i<args.length:=by
  rcases Nat.lt_or_ge i args.length with h'|h';·exact h'
  ·rw[List.getElem?_eq_none h']at hi;cases hi
 cases h with|nil=>simp at hi|emp b=>simp at hi|mk b o cap hb hc hl hf=>have hE:=hf i t hi;refine⟨.pointer (some ⟨b,o+i*5,none⟩),_,?_,fun H' k=>Ze8 ((Km k hb).trans hc) rfl hE.len,hE⟩;unfold Yu;simp only[u,Zd2];rw[if_pos (by omega)];simp
theorem faOp(b o:Nat):Xf Tryz.prog 53 (.pointer (some ⟨b,o,none⟩)) 0=some (.pointer (some ⟨b,o,none⟩)):=by kernel_rfl
theorem faNum(b o:Nat):Xf Tryz.prog 53 (.pointer (some ⟨b,o,none⟩)) 1=some (.pointer (some ⟨b,o+1,none⟩)):=by kernel_rfl
theorem faArgs(b o:Nat):Xf Tryz.prog 53 (.pointer (some ⟨b,o,none⟩)) 2=some (.pointer (some ⟨b,o+4,none⟩)):=by kernel_rfl
theorem faN(b o:Nat):Xf Tryz.prog 34 (.pointer (some ⟨b,o,none⟩)) 0=some (.pointer (some ⟨b,o,none⟩)):=by kernel_rfl
theorem faD(b o:Nat):Xf Tryz.prog 34 (.pointer (some ⟨b,o,none⟩)) 1=some (.pointer (some ⟨b,o+2,none⟩)):=by kernel_rfl
theorem Gj(b o:Nat):Xf Tryz.prog 32 (.pointer (some ⟨b,o,none⟩)) 0=some (.pointer (some ⟨b,o,none⟩)):=by kernel_rfl
theorem faAbs(b o:Nat):Xf Tryz.prog 32 (.pointer (some ⟨b,o,none⟩)) 1=some (.pointer (some ⟨b,o+1,none⟩)):=by kernel_rfl
theorem Bn(H:AH)(sz:Nat)(cs:List Value)(hz:sz≠0:=by decide):(H.new sz cs).cells H.n=some cs:=AH.cells_rw' (by rw[AH.blk_new,if_pos rfl]) hz
theorem Qz{H:AH}{sz:Nat}{zs ws:List Value}{t:TypeId}{n:Nat}(ht:Qq Tryz.prog t=some n)(hz:zs.length=n){v:Value}(hv:v.cells.toList=ws)(hw:ws.length=n)(h1:ws.all one=true)(hz0:sz≠0:=by decide): ∃H',Xt Tryz.prog (H.new sz zs) t (.pointer (some ⟨H.n,0,none⟩)) v=some H'∧Keep H H'∧H'.blk H.n= .rw sz ws∧H'.n=H.n+1:=by
 obtain⟨sz,rfl⟩: ∃k,sz=k+1:=⟨sz-1,by omega⟩;have hb:(H.new (sz+1) zs).blk H.n= .rw (sz+1) zs:=by rw[AH.blk_new,if_pos rfl]
 have hs:v.cells.size=n:=by rw[←hw,←hv];simp
 have hle:Nat.ble (0+ws.length) zs.length=true:=Nat.ble_eq.mpr (by omega);refine⟨{ n:=H.n+1,lw:=min H.lw H.n,t:=(H.new (sz+1) zs).t.set H.n (.rw (sz+1) ws) },?_,⟨Nat.le_succ _,Nat.le_refl _,fun j hj=>?_⟩,?_,rfl⟩;·unfold Xt;simp only[ht,hs,hv];rw[show Nat.beq n n=true from by simp,cond_true,AH.write_def,hb];simp only[hle,h1,Bool.and_self,cond_true,List.take_zero,List.nil_append];rw[List.drop_of_length_le (by omega),List.append_nil];rfl
 ·unfold AH.blk AH.new;simp only[Tr.get_set];rw[if_neg (by omega),if_neg (by omega)]
 ·unfold AH.blk;simp only[Tr.get_set,if_true]
def RowsIn(H:AH):Prop:=0<H.n∧H.cells 0=some Vv
theorem RowsIn.keep{H H':AH}(h:RowsIn H)(k:Keep H H'):RowsIn H':=⟨Nat.lt_of_lt_of_le h.1 k.n,by rw[Km k h.1];exact h.2⟩
theorem rows_arity: ∀(n:Nat),n<16→Vv[n*3+2]?=some (.int .i64 (arity n:Int)):=by intro n hn;match n,hn with|0,_=>rfl|1,_=>rfl|2,_=>rfl|3,_=>rfl|4,_=>rfl|5,_=>rfl|6,_=>rfl|7,_=>rfl|8,_=>rfl|9,_=>rfl|10,_=>rfl|11,_=>rfl|12,_=>rfl|13,_=>rfl|14,_=>rfl|15,_=>rfl|n+16,h=>omega
theorem iaRows{k:IntKind}{n:Nat}(hn:n<16):Yu Tryz.prog 181 (.pointer (some ⟨0,0,none⟩)) (.int k (n:Int))=some (.pointer (some ⟨0,n*3,none⟩)):=by
 have u:Tryz.prog.underlying 181=some (.array 16 180):=by kernel_rfl
 have s:Qq Tryz.prog 180=some 3:=by kernel_rfl
 unfold Yu;simp only[u,s];rw[if_pos (by omega)];simp
theorem faRow(b o:Nat):Xf Tryz.prog 180 (.pointer (some ⟨b,o,none⟩)) 2=some (.pointer (some ⟨b,o+2,none⟩)):=by kernel_rfl
theorem gRowsOk:Nat.blt 0 Zo.ng=true:=rfl
theorem load_arity{H:AH}(h:H.cells 0=some Vv){n:Nat}(hn:n<16):Ys Tryz.prog H 3 (.pointer (some ⟨0,n*3+2,none⟩))=some (.int .i64 (arity n:Int)):=Yt aInt h (rows_arity n hn)
theorem Dh{H:AH}{v:Value}{xs:List Nat}(h:Sl H v xs)(dx:Dig B64 xs)(lx:xs.length≤17592186044416):Zq Tryz.prog Zo 123 [v] H=some (.int .i64 (Zf (dv B64 xs):Int),H):=by obtain⟨_,_,hc,rfl,rfl⟩:=Ur h dx lx;exact hc
theorem Fv{n:Nat} :Zf n=0↔n=0:=by unfold Zf;split<;>simp_all
theorem Bu{xs:List Nat}(dx:Dig B64 xs){L:Nat}(lx:xs.length≤L):Zf (dv B64 xs)≤64*L:=by
 rcases Nat.eq_zero_or_pos (dv B64 xs)with h0|h0;·rw[h0];exact Nat.zero_le _
 ·have h1:=Ug (n:=dv B64 xs) (by omega);have h2:=Vh dx;have h3:B64^xs.length≤B64^L:=Nat.pow_le_pow_right (by decide) lx;have h4:B64^L=2^(64*L):=(Nat.pow_mul 2 64 L).symm;rw[h4]at h3;have:=(Nat.pow_lt_pow_iff_right (a:=2) (by decide)).mp (Nat.lt_of_le_of_lt h1 (Nat.lt_of_lt_of_le h2 h3));omega
section
attribute [-simp] Int.natCast_add Int.natCast_mul Int.natCast_ediv Int.natCast_emod Int.natCast_pow
attribute [local simp] strip Ye LW' LR gW Yk Xc Zz Xd Yn Xe Zr Zs Zg Yo Yz Yj Xi Zv Yp Zh Ze Xh Xg Qu Ya Xa opd Qd Yl plain Yg Tr.get_set Qb Zp Xv Yc sameKind undef Zu Yr Yw Zn Yb parts unV DW Xl Zy LX Zx
theorem gtrB{x:Nat} :Zd .gtr .i64 (x:Int) 67108864=some (.bool (decide (67108864<x))):=by show some (Value.bool (decide ((x:Int)>67108864)))=_;congr 2;exact decide_eq_decide.mpr (by omega)
theorem gtrZ{k:IntKind}{x:Nat} :Zd .gtr k (x:Int) 0=some (.bool (decide (0<x))):=by show some (Value.bool (decide ((x:Int)>0)))=_;congr 2;exact decide_eq_decide.mpr (by omega)
theorem eqlZ{k:IntKind}{x:Nat} :Zd .eql k (x:Int) 0=some (.bool (decide (x=0))):=by
 show some (Value.bool ((x:Int)==0))=_;congr 2;by_cases h:x=0;·subst h;rfl
 ·rw[decide_eq_false h];simp;omega
theorem neqN{k:IntKind}{x y:Nat} :Zd .neq k (x:Int) (y:Int)=some (.bool (decide (x≠y))):=by
 show some (Value.bool ((x:Int) !=(y:Int)))=_;congr 2;by_cases h:x=y;·subst h;simp
 ·rw[decide_eq_true h];simp[bne];omega
set_option maxHeartbeats 1000000 in theorem shape_spec{H:AH}{vs:List Value}{op:Int}{neg:Bool}{abs den:List Nat}{args:List ET}(hE:Ex H vs (.node op neg abs den args))(hR:RowsIn H)(da:Dig B64 abs)(dd:Dig B64 den)(la:abs.length≤1048576)(ld:den.length≤1048576):CW Tryz.prog Zo 96 [.agg vs.toArray] H fun v H'=>Keep H H'∧v= .bool (ET.node op neg abs den args).good:=by cases hE with
 |@mk _ _ va vd vx _ _ _ h1 h2 h3=>
  refine Zj 74 (by decide) (by decide) Tryz.func96 rfl rfl ?_;have hN: ∀H':AH,Keep (H.new 1 [.int .i64 op,.bool neg,va,vd,vx]) H'→Keep H H':=fun H' k=>(Keep.new H 1 _).trans k;have kB:=Keep.new H 1 [.int .i64 op,.bool neg,va,vd,vx];have hcB:=Bn H 1 [.int .i64 op,.bool neg,va,vd,vx];have la1:=(h1.keep kB).len Zn;have ld1:=(h2.keep kB).len Zn;have hRB:=hR.keep kB;have c1:=Dh (h1.keep kB) da (by omega);have c2:=Dh (h2.keep kB) dd (by omega);have c1t:=Dh ((h1.keep kB).keep (keep_topT _)) da (by omega);have c2t:=Dh ((h2.keep kB).keep (keep_topT _)) dd (by omega);have b1:=Bu da la;have b2:=Bu dd ld;have lx:=h3.len;obtain⟨HB,hHB⟩: ∃HB,HB=H.new 1 [.int .i64 op,.bool neg,va,vd,vx]:=⟨_,rfl⟩;rw[←hHB]at kB hcB hRB c1 c2 c1t c2t;have f0:=Yt aOp (o:=0) hcB rfl;have f1:=Yt aBool (o:=1) hcB rfl;have f2:=Yt aNat (o:=2) hcB rfl;have f3:=Yt aNat (o:=3) hcB rfl;have f4:=Yt aExprs (o:=4) hcB rfl;have g2:Ys Tryz.prog HB.top 30 (.pointer (some ⟨H.n,2,none⟩))=some va:=Yt aNat (show HB.top.cells H.n=some _ from hcB) rfl;have g3:Ys Tryz.prog HB.top 30 (.pointer (some ⟨H.n,3,none⟩))=some vd:=Yt aNat (show HB.top.cells H.n=some _ from hcB) rfl;obtain⟨R,hRR⟩: ∃R:Bool,R=(ET.node op neg abs den args).good:=⟨_,rfl⟩;rw[←hRR];simp only[ET.good]at hRR;apply Zb;intro d1 hd1;apply Za;simp[Value.cells,←hHB];subst hd1;apply Zb;intro d1 hd1;apply Zb;intro d2 hd2;have no: ∀tm:Tr Value,tm.get 25=some (.bool true)→R=false→W Tryz.prog Zo d2 ⟨74,tm,HB⟩ (Xo Tryz.prog Zo d1 fun ex s=>(ex= .norm∨ex= .ret)∧ ∃vs,Zu Tryz.prog s [.tmp 2]=some vs∧Keep H s.H∧Yw vs= .bool R):=fun tm ht hno=>by rw[hno];subst hd2;refine Zc (t:=true) (by simp[ht]) ?_;apply Zb;intro b2 hb2;apply Za;simp;subst hb2;apply Zm;simp[Xo];exact kB
  apply Cn (by kernel_rfl);have e0:Zd .lss .i64 op 0=some (.bool (decide (op<0))):=rfl;have e1:Zd .geq .i64 op 16=some (.bool (decide (op≥16))):=rfl;by_cases o1:op<0;·rw[decide_eq_true o1]at e0;simp[faOp,f0,e0];show W _ _ d2 _ _;exact no _ (by simp) (by rw[hRR,decide_eq_false (by omega),Bool.false_and])
  rw[decide_eq_false o1]at e0;by_cases o2:op≥16;·rw[decide_eq_true o2]at e1;simp[faOp,f0,e0,e1];show W _ _ d2 _ _;exact no _ (by simp) (by rw[hRR,decide_eq_false (by omega),Bool.false_and])
  rw[decide_eq_false o2]at e1;obtain⟨n,rfl⟩: ∃n:Nat,op=(n:Int):=⟨op.toNat,by omega⟩;have hn:n<16:=by omega
  rw[Int.toNat_natCast]at hRR;have ld2:=load_arity hRB.2 hn;have e2:Zd .neq .i64 (args.length:Int) (arity n:Int)=some (.bool (decide (args.length≠arity n))):=neqN;by_cases o3:args.length=arity n
  ·rw[decide_eq_false (fun h=>h o3)]at e2;simp[faOp,faArgs,f0,f4,e0,e1,lx,gRowsOk,iaRows hn,faRow,ld2,e2];subst hd2;refine Zc (t:=false) (by simp) ?_;apply Zi;subst hd1;rw[decide_eq_true (show 0≤(n:Int)∧(n:Int)<16∧args.length=arity n from⟨by omega,by omega,o3⟩),Bool.true_and]at hRR;clear no;have e3:Zd .eql .i64 (n:Int) 0=some (.bool (decide (n=0))):=eqlZ;apply Zb;intro d1 hd1;apply Zb;intro d2 hd2;apply Za;simp[faOp,f0,e3];subst hd2;by_cases h0:n=0
   ·refine Zc (t:=true) (by simp[h0]) ?_;rw[if_pos (by omega)]at hRR;have g1:Zd .gtr .i64 (Zf (dv B64 abs):Int) 67108864=some (.bool false):=by rw[gtrB,decide_eq_false (by omega)]
    have g4:Zd .gtr .i64 (Zf (dv B64 den):Int) 67108864=some (.bool false):=by rw[gtrB,decide_eq_false (by omega)]
    have g5:Zd .gtr .i64 (Zf (dv B64 den):Int) 0=some (.bool R):=by rw[gtrZ,hRR];congr 2;exact decide_eq_decide.mpr (by have:=Fv (n:=dv B64 den);omega)
    apply Zb;intro d3 hd3;apply W_reads (by kernel_rfl);simp[faNum,faN,faD,faAbs,g2,g3,c1t,c2t];subst hd3;apply Zb;intro d3 hd3;apply Zb;intro d4 hd4;apply Za;simp[g1,g4];subst hd4;refine Zc (t:=false) (by simp) ?_;apply Zi;subst hd3;apply Zb;intro d4 hd4;apply Za;simp[g5];subst hd4;apply Zm;simp[Xo];exact kB
   ·refine Zc (t:=false) (by simp[h0]) ?_;rw[if_neg (by omega)]at hRR;apply Zi;subst hd1;apply Zb;intro d3 hd3;apply Za;have e5:Zd .eql .i64 (abs.length:Int) 0=some (.bool (decide (abs.length=0))):=eqlZ;have e6:Zd .eql .i64 (den.length:Int) 0=some (.bool (decide (den.length=0))):=eqlZ;by_cases i1:abs.length=0
    ·rw[decide_eq_true i1]at e5;by_cases i2:den.length=0;·rw[decide_eq_true i2]at e6;simp[faNum,faN,faD,faAbs,Gj,f1,f2,f3,la1,ld1,e5,e6];subst hd3;apply Zm;simp;exact⟨kB,by rw[hRR];simp[i1,i2]⟩
     ·rw[decide_eq_false i2]at e6;simp[faNum,faN,faD,faAbs,Gj,f1,f2,f3,la1,ld1,e5,e6];subst hd3;apply Zm;simp;exact⟨kB,by rw[hRR];simp[i1,i2]⟩
    ·rw[decide_eq_false i1]at e5;simp[faNum,faN,faD,faAbs,Gj,f1,f2,f3,la1,ld1,e5];subst hd3;apply Zm;simp;exact⟨kB,by rw[hRR];simp[i1]⟩
  ·rw[decide_eq_true o3]at e2;simp[faOp,faArgs,f0,f4,e0,e1,lx,gRowsOk,iaRows hn,faRow,ld2,e2];show W _ _ d2 _ _;exact no _ (by simp) (by rw[hRR,decide_eq_false (by omega),Bool.false_and])
end
def KAt(n0:Nat)(H H1:AH):Prop:= ∀H0,Keep H0 H→H0.n≤n0→Keep H0 H1
theorem KAt.refl(n0:Nat)(H:AH):KAt n0 H H:=fun _ k _=>k
theorem KAt.trans{n0:Nat}{H H1 H2:AH}(a:KAt n0 H H1)(b:KAt n0 H1 H2):KAt n0 H H2:=fun H0 k h=>b H0 (a H0 k h) h
theorem Keep.kat{H H':AH}(k:Keep H H')(n0:Nat):KAt n0 H H':=fun H0 k0 _=>k0.trans k
theorem sInt:Qq Tryz.prog 3=some 1:=by kernel_rfl
theorem store_cell{H:AH}{t:TypeId}(ht:Qq Tryz.prog t=some 1){b sz:Nat}{x y:Value}(h:H.blk b= .rw sz [x])(hy:y.cells=#[y])(h1:one y=true)(hz0:sz≠0:=by decide): ∃H',Xt Tryz.prog H t (.pointer (some ⟨b,0,none⟩)) y=some H'∧H'.blk b= .rw sz [y]∧H'.n=H.n∧(∀j,j≠b→H'.blk j=H.blk j)∧KAt b H H':=by
 obtain⟨sz,rfl⟩: ∃k,sz=k+1:=⟨sz-1,by omega⟩;refine⟨{ n:=H.n,lw:=min H.lw b,t:=H.t.set b (.rw (sz+1) [y]) },?_,?_,rfl,fun j hj=>?_,fun H0 k hn=>⟨k.n,?_,fun j hj=>?_⟩⟩;·unfold Xt;simp only[ht,hy];rw[show Nat.beq (#[y]:Array Value).size 1=true from rfl,cond_true,AH.write_def,h];simp[h1];rfl
 ·unfold AH.blk;simp only[Tr.get_set,if_true]
 ·unfold AH.blk;simp only[Tr.get_set];rw[if_neg hj]
 ·have:=k.lw;show min H0.lw H0.n≤min H.lw b;omega
 ·unfold AH.blk;simp only[Tr.get_set];rw[if_neg (by omega)];exact k.blk j hj
theorem maxN(a b:Nat):Eb true [.int .i64 (a:Int),.int .i64 (b:Int)]=some (.int .i64 ((max a b:Nat):Int)):=by
 unfold Eb;simp only[sameKind,BEq.rfl,cond_true];congr 2;by_cases h:(a:Int)<b;·rw[if_pos h];omega
 ·rw[if_neg h];omega
theorem addN{x y:Nat}(h:x+y<9223372036854775808):Zd .add .i64 (x:Int) (y:Int)=some (.int .i64 ((x+y:Nat):Int)):=by show some (Value.int .i64 (IntKind.i64.wrap ((x:Int)+y)))=_;rw[←Int.natCast_add,Zm7 h]
theorem Bg{x:Nat}(h:x+1<9223372036854775808):Zd .add .i64 (x:Int) 1=some (.int .i64 ((x+1:Nat):Int)):=addN (y:=1) h
theorem Cx:Us Tryz.prog 53=some (.agg #[.int .i64 0,.bool false,.slice none 0 0,.slice none 0 0,.slice none 0 0]):=by kernel_rfl
theorem Ex.ones{H:AH}{vs:List Value}{t:ET}(h:Ex H vs t):vs.all one=true:=by
 have hs: ∀{v:Value}{xs:List Nat},Sl H v xs→one v=true:=fun h=>by cases h<;>rfl
 cases h with
  |mk h1 h2 h3=>
   have h4: ∀{v:Value}{l:List ET},Xs H v l→one v=true:=fun h=>by cases h<;>rfl
   simp only[List.all_cons,List.all_nil,hs h1,hs h2,h4 h3,Bool.and_true];rfl
def LookIs(H:AH)(b c:Nat)(t:ET)(v:Value)(H':AH):Prop:=v= .tuple #[.bool t.allGood,.int .i64 (t.depth:Int)]∧KAt b H H'∧H.n≤H'.n∧H'.blk b= .rw 1 [.int .i64 ((c+t.nodes:Nat):Int)]
section
attribute [-simp] Int.natCast_add Int.natCast_mul Int.natCast_ediv Int.natCast_emod Int.natCast_pow
attribute [local simp] strip Ye LW' LR gW Yk Xc Zz Xd Yn Xe Zr Zs Zg Yo Yz Yj Xi Zv Yp Zh Ze Xh Xg Qu Ya Xa opd Qd Yl plain Yg Tr.get_set Qb Zp Xv Yc sameKind undef Zu Yr Yw Zn Yb parts unV DW Xl Zy LX Zx
theorem lssN{k:IntKind}{x y:Nat} :Zd .lss k (x:Int) (y:Int)=some (.bool (decide (x<y))):=by show some (Value.bool (decide ((x:Int)<y)))=_;congr 2;exact decide_eq_decide.mpr (by omega)
theorem notMost{x:Nat}(h:x≤4611686018427387903):Zd .gtr .i64 (x:Int) 4611686018427387903=some (.bool false):=by show some (Value.bool (decide ((x:Int)>4611686018427387903)))=_;congr 2;exact decide_eq_false (by omega)
theorem look_ok: ∀n(t:ET),t.nodes≤n→ ∀(H0 H:AH)(vs:List Value)(b c deep:Nat),Ex H0 vs t→RowsIn H0→t.wide 1048576→Keep H0 H→H0.n≤b→b<H.n→H.blk b= .rw 1 [.int .i64 (c:Int)]→c+t.nodes≤1000000000→deep+t.nodes≤1000000000→CW Tryz.prog Zo 68 [.agg vs.toArray,.int .i64 (deep:Int),.pointer (some ⟨b,0,none⟩),.int .i64 4611686018427387903] H (LookIs H b c t):=by intro n;induction n with
 |zero=>intro t h;have:=Vm t;omega
 |succ n ih=>
  intro t ht H0 H vs b c deep hE hR hw k0 hb hbn hblk hc hdp;obtain⟨op,neg,abs,den,args⟩:=t;have hEk:=hE;have hlen:=hE.len;have hones:=hE.ones;obtain⟨wa,wd,da,dd,ws⟩:=hw;simp only[ET.nodes]at ht hc hdp;unfold LookIs;simp only[ET.nodes];refine Zj 60 (by decide) (by decide) Tryz.func68 rfl rfl ?_;have kB:=Keep.new H 1 vs;have blkB:(H.new 1 vs).blk H.n= .rw 1 vs:=by rw[AH.blk_new,if_pos rfl]
  have blkb:(H.new 1 vs).blk b= .rw 1 [.int .i64 (c:Int)]:=by rw[AH.blk_new,if_neg (by omega)];exact hblk
  have nB:(H.new 1 vs).n=H.n+1:=rfl;obtain⟨HB,hHB⟩: ∃HB,HB=H.new 1 vs:=⟨_,rfl⟩;rw[←hHB]at kB blkB blkb nB;have cb:HB.cells b=some [.int .i64 (c:Int)]:=by unfold AH.cells;rw[blkb]
  have l1:=Yt aInt (o:=0) cb rfl;obtain⟨H2,st2,blk2,n2,oth2,ka2⟩:=store_cell sInt (y:= .int .i64 ((c+1:Nat):Int)) blkb rfl rfl;have cb2:H2.cells b=some [.int .i64 ((c+1:Nat):Int)]:=by unfold AH.cells;rw[blk2]
  have l2:=Yt aInt (o:=0) cb2 rfl;have cB2:H2.cells H.n=some vs:=by unfold AH.cells;rw[oth2 H.n (by omega),blkB]
  have l3:=Ze8 (o:=0) cB2 (vs:=vs) (by rw[List.drop_zero,List.take_of_length_le (by omega)]) hlen;have k02:Keep H0 H2:=ka2 H0 (k0.trans kB) hb;obtain⟨_,H3,c3,k3,rfl⟩:=shape_spec (hEk.keep k02) (hR.keep k02) da dd wa wd;obtain⟨g,hg⟩: ∃g:Bool,g=(ET.node op neg abs den args).good:=⟨_,rfl⟩;rw[←hg]at c3;have k03:=k02.trans k3;have cB3:H3.cells H.n=some vs:=by rw[Km k3 (by omega)];exact cB2
  cases hEk with
   |@mk _ _ va vd vx _ _ _ h1 h2 h3=>
    have l4:=Yt aExprs (o:=4) cB3 rfl;have lx:=h3.len;have la:=Fi args;have q1:=notMost (x:=c+1) (by omega);have q2:=notMost (x:=deep) (by omega);have blk3:H3.blk b= .rw 1 [.int .i64 ((c+1:Nat):Int)]:=by rw[k3.blk b (by omega)];exact blk2
    have ka3:KAt b H H3:=((kB.kat b).trans ka2).trans (k3.kat b);have n3:=k3.n;apply Zb;intro d1 hd1;apply Za;simp[Value.cells,←hHB];subst hd1;apply Zb;intro d1 hd1;apply Za;simp[l1,Bg (x:=c) (by omega),st2];subst hd1;apply Zb;intro d1 hd1;apply Zb;intro d2 hd2;apply Za;simp[l2,q1,q2];subst hd2;refine Zc (t:=false) (by simp) ?_;apply Zi;subst hd1;apply Zb;intro d1 hd1;apply Za;simp only[List.toArray]at c3 l3;simp[l3,c3];subst hd1;apply Zb;intro d1 hd1;apply Za;simp;subst hd1;apply Zb;intro d1 hd1;apply Zb;intro d2 hd2;apply Za;simp[faArgs,l4,lx];subst hd2;apply Zt;obtain⟨m0,hm0⟩: ∃m0,m0=args.length:=⟨_,rfl⟩;rw[←hm0]at lx la;refine Xw (fun m s'=>s'.k=60∧Keep H0 s'.H∧KAt b H s'.H∧H3.n≤s'.H.n∧ ∃(i:Nat) (ok:Bool) (d:Nat),m+i=m0∧ok=(g&&Ju (args.take i))∧d=max 1 (Vz (args.take i))∧s'.H.blk b= .rw 1 [.int .i64 ((c+1+Yi (args.take i):Nat):Int)]∧s'.tm.get 1=some (.int .i64 (deep:Int))∧s'.tm.get 2=some (.pointer (some ⟨b,0,none⟩))∧s'.tm.get 3=some (.int .i64 4611686018427387903)∧s'.tm.get 10=some (.bool ok)∧s'.tm.get 11=some (.int .i64 (d:Int))∧s'.tm.get 34=some vx∧s'.tm.get 35=some (.int .i64 (m0:Int))∧s'.tm.get 36=some (.int .i64 (i:Int))) ?_ m0 _ ⟨rfl,k03,ka3,Nat.le_refl _,0,g,1,by omega,by simp[Ju],by simp[Vz],by simpa[Yi]using blk3,by simp,by simp,by simp,by simp,by simp,by simp,by simp[hm0],by simp⟩;rintro m ⟨k,tm,H4⟩ ⟨hk,kH,kaH,hn4,i,ok,d,hmi,hok,hd,blk4,t1,t2,t3,t10,t11,t34,t35,t36⟩ Q' hQ';simp only at hk kH kaH hn4 blk4 t1 t2 t3 t10 t11 t34 t35 t36;subst hk;apply Zb;intro d3 hd3;apply Za;simp[t35,t36,lssN];subst hd3;apply Zb;intro d3 hd3;by_cases hi:i<m0
    ·refine Zc (t:=true) (by simp[hi]) ?_;apply Zi;subst hd3;obtain⟨x,hx⟩: ∃x,args[i]?=some x:=⟨_,List.getElem?_eq_getElem (by omega)⟩;have htk:args.take (i+1)=args.take i++[x]:=by rw[List.take_add_one,hx];rfl
     have hsum:Yi (args.take (i+1))=Yi (args.take i)+x.nodes:=by rw[htk,Ka];simp[Yi]
     have hle:Yi (args.take (i+1))≤Yi args:=by have:=Ka (args.take (i+1)) (args.drop (i+1));rw[List.take_append_drop]at this;omega
     have hx3:=h3;obtain⟨p,us,ha5,hl5,hE5⟩: ∃(p:Value) (us:List Value),Yu Tryz.prog 51 vx (.int .i64 (i:Int))=some p∧Ys Tryz.prog H4 53 p=some (.agg us.toArray)∧Ex H0 us x:=by obtain⟨p,us,e1,e2,e3⟩:=h3.at hx;exact⟨p,us,e1,e2 _ kH,e3⟩
     obtain⟨H5,st5,k5,blk5,n5⟩:=Qz (H:=H4) (sz:=1) (zs:=[.int .i64 0,.bool false,.slice none 0 0,.slice none 0 0,.slice none 0 0]) Zd2 rfl (v:= .agg us.toArray) (ws:=us) (by simp[Value.cells]) hE5.len hE5.ones;have c5:H5.cells H4.n=some us:=by unfold AH.cells;rw[blk5]
     have l5:=Ze8 (o:=0) c5 (vs:=us) (by rw[List.drop_zero,List.take_of_length_le (by rw[hE5.len];omega)]) hE5.len;have hb5:H5.blk b= .rw 1 [.int .i64 ((c+1+Yi (args.take i):Nat):Int)]:=by rw[k5.blk b (by omega)];exact blk4
     have hxn:=Dk hx;obtain⟨_,H6,c6,rfl,ka6,n6,blk6⟩:=ih x (by omega) H0 H5 us b (c+1+Yi (args.take i)) (deep+1) hE5 hR (Cw ws hx) (kH.trans k5) hb (by omega) hb5 (by omega) (by omega);have k06:Keep H0 H6:=ka6 H0 (kH.trans k5) hb;have ka06:KAt b H H6:=(kaH.trans (k5.kat b)).trans ka6;apply Zb;intro d3 hd3;apply Zt;apply Zb;intro d4 hd4;apply Za;simp[t34,t36,ha5,hl5,Cx,Value.cells,st5];subst hd4;apply Zb;intro d4 hd4;apply Za;simp[t1,t2,t3,l5,Bg (x:=deep) (by omega),c6];subst hd4;apply Zb;intro d4 hd4;apply Za;cases ok with
      |true=>
       simp[t10];subst hd4;have xd:=Zb1 _ x (Nat.le_refl _);apply Za;simp[t11,Bg (x:=x.depth) (by omega),maxN];subst hd3;apply Za;simp[t36,Bg (x:=i) (by omega)];apply hQ';refine⟨m-1,by omega,rfl,k06,ka06,by simp;omega,i+1,x.allGood,max d (x.depth+1),by omega,?_,?_,?_,by simp[t1],by simp[t2],by simp[t3],by simp,by simp,by simp[t34],by simp[t35],by simp⟩;·rw[htk,Zc0,←Bool.and_assoc,←hok];simp[Ju]
       ·rw[htk,Az,hd];simp[Vz,Nat.max_assoc]
       ·show H6.blk b=_;rw[blk6,hsum];congr 4;omega
      |false=>
       simp[t10];subst hd4;have xd:=Zb1 _ x (Nat.le_refl _);apply Za;simp[t11,Bg (x:=x.depth) (by omega),maxN];subst hd3;apply Za;simp[t36,Bg (x:=i) (by omega)];apply hQ';refine⟨m-1,by omega,rfl,k06,ka06,by simp;omega,i+1,false,max d (x.depth+1),by omega,?_,?_,?_,by simp[t1],by simp[t2],by simp[t3],by simp,by simp,by simp[t34],by simp[t35],by simp⟩;·rw[htk,Zc0,←Bool.and_assoc,←hok];simp
       ·rw[htk,Az,hd];simp[Vz,Nat.max_assoc]
       ·show H6.blk b=_;rw[blk6,hsum];congr 4;omega
    ·refine Zc (t:=false) (by simp[hi]) ?_;apply Xy;apply hQ';left;refine⟨rfl,?_⟩;obtain rfl:i=m0:=by omega
     rw[List.take_of_length_le (by omega)]at hok hd blk4;subst hd1;apply Zb;intro d4 hd4;apply Za;simp[t10,t11];subst hd4;apply Zm;simp;refine⟨⟨?_,?_⟩,kaH,by omega,?_⟩;·rw[hok,hg];simp[ET.allGood]
     ·rw[hd];simp[ET.depth]
     ·rw[blk4];congr 4;omega
end
structure TreeIn (H : AH) (vs : List Value) (t : ET) : Prop where
  ex : Ex H vs t
  rows : RowsIn H
  wide : t.wide 1048576
  nodes : t.nodes ≤ 2000000
theorem TreeIn.keep{H H':AH}{vs:List Value}{t:ET}(h:TreeIn H vs t)(k:Keep H H'):TreeIn H' vs t:=⟨h.ex.keep k,h.rows.keep k,h.wide,h.nodes⟩
theorem zInt:Us Tryz.prog 3=some (.int .i64 0):=by kernel_rfl
def Vt(t:ET):Nat:=if t.allGood=false then 152 else if 4000<t.nodes∨200<t.depth then 151 else 0
theorem look_call{H:AH}{vs:List Value}{t:ET}(h:TreeIn H vs t): ∃H2,Xt Tryz.prog ((H.new 1 vs).new 1 [.int .i64 0]) 3 (.pointer (some ⟨H.n+1,0,none⟩)) (.int .i64 0)=some H2∧Ys Tryz.prog H2 53 (.pointer (some ⟨H.n,0,none⟩))=some (.agg vs.toArray)∧ ∃H3,Zq Tryz.prog Zo 68 [.agg vs.toArray,.int .i64 1,.pointer (some ⟨H.n+1,0,none⟩),.int .i64 4611686018427387903] H2=some (.tuple #[.bool t.allGood,.int .i64 (t.depth:Int)],H3)∧Keep H H3∧Ys Tryz.prog H3 3 (.pointer (some ⟨H.n+1,0,none⟩))=some (.int .i64 (t.nodes:Int)):=by
 have kB:=Keep.new H 1 vs;have blkB:(H.new 1 vs).blk H.n= .rw 1 vs:=by rw[AH.blk_new,if_pos rfl]
 have nB:(H.new 1 vs).n=H.n+1:=rfl;obtain⟨HB,hHB⟩: ∃HB,HB=H.new 1 vs:=⟨_,rfl⟩;rw[←hHB]at kB blkB nB⊢;obtain⟨H2,st2,k2,blk2,n2⟩:=Qz (H:=HB) (sz:=1) (zs:=[.int .i64 0]) sInt rfl (v:= .int .i64 0) (ws:=[.int .i64 0]) rfl rfl rfl;rw[nB]at st2 blk2;have cB2:H2.cells H.n=some vs:=by rw[Km k2 (by omega)];unfold AH.cells;rw[blkB]
 have l2:=Ze8 (o:=0) cB2 (vs:=vs) (by rw[List.drop_zero,List.take_of_length_le (by rw[h.ex.len];omega)]) h.ex.len;obtain⟨_,H3,c3,rfl,ka3,n3,blk3⟩:=look_ok _ t (Nat.le_refl _) H H2 vs (H.n+1) 0 1 h.ex h.rows h.wide (kB.trans k2) (Nat.le_succ _) (by omega) blk2 (by have:=h.nodes;omega) (by have:=h.nodes;omega);rw[Nat.zero_add]at blk3;have c3:Zq Tryz.prog Zo 68 [.agg vs.toArray,.int .i64 1,.pointer (some ⟨H.n+1,0,none⟩),.int .i64 4611686018427387903] H2=some (.tuple #[.bool t.allGood,.int .i64 (t.depth:Int)],H3):=c3;refine⟨H2,st2,l2,H3,c3,ka3 H (kB.trans k2) (Nat.le_succ _),Yt aInt (cs:=[.int .i64 (t.nodes:Int)]) ?_ rfl⟩;unfold AH.cells;rw[blk3]
section
attribute [-simp] Int.natCast_add Int.natCast_mul Int.natCast_ediv Int.natCast_emod Int.natCast_pow
attribute [local simp] strip Ye LW' LR gW Yk Xc Zz Xd Yn Xe Zr Zs Zg Yo Yz Yj Xi Zv Yp Zh Ze Xh Xg Qu Ya Xa opd Qd Yl plain Yg Tr.get_set Qb Zp Xv Yc sameKind undef Zu Yr Yw Zn Yb parts unV DW Xl Zy LX Zx
section
variable {H : AH} {vs : List Value} {t : ET}
theorem new_n(H:AH)(sz:Nat)(cs:List Value):(H.new sz cs).n=H.n+1:=rfl
theorem nodes_call(h:TreeIn H vs t): ∃H',Zq Tryz.prog Zo 49 [.agg vs.toArray] H=some (.int .i64 (t.nodes:Int),H')∧Keep H H':=by
 suffices hs:CW Tryz.prog Zo 49 [.agg vs.toArray] H fun v H'=>v= .int .i64 (t.nodes:Int)∧Keep H H' by obtain⟨_,H',hc,rfl,k⟩:=hs;exact⟨H',hc,k⟩
 obtain⟨H2,st,ld,H3,lc,k3,ln⟩:=look_call h;refine Zj 7 (by decide) (by decide) Tryz.func49 rfl rfl ?_;apply Zb;intro b1 hb1;apply Za;simp[Value.cells];subst hb1;apply Zb;intro b1 hb1;apply Za;simp[zInt,Value.cells,new_n,st];subst hb1;apply Zb;intro b1 hb1;apply Za;simp[ld,lc];subst hb1;apply Zb;intro b1 hb1;apply Za;simp[ln];subst hb1;apply Zm;simp;exact k3
theorem gtrC{k:IntKind}{x y:Nat}{z:Int}(hz:z=(y:Int)):Zd .gtr k (x:Int) z=some (.bool (decide (y<x))):=by subst hz;show some (Value.bool (decide ((x:Int)>(y:Int))))=_;congr 2;exact decide_eq_decide.mpr (by omega)
theorem Dx(h:TreeIn H vs t): ∃H',Zq Tryz.prog Zo 28 [.agg vs.toArray] H=some (.int .i64 (Vt t:Int),H')∧Keep H H':=by
 suffices hs:CW Tryz.prog Zo 28 [.agg vs.toArray] H fun v H'=>v= .int .i64 (Vt t:Int)∧Keep H H' by obtain⟨_,H',hc,rfl,k⟩:=hs;exact⟨H',hc,k⟩
 obtain⟨H2,st,ld,H3,lc,k3,ln⟩:=look_call h;obtain⟨C,hC⟩: ∃C,C=Vt t:=⟨_,rfl⟩;rw[←hC];unfold Vt at hC;refine Zj 21 (by decide) (by decide) Tryz.func28 rfl rfl ?_;apply Zb;intro b1 hb1;apply Za;simp[Value.cells];subst hb1;apply Zb;intro b1 hb1;apply Za;simp[zInt,Value.cells,new_n,st];subst hb1;apply Zb;intro b1 hb1;apply Za;simp[ld,lc];subst hb1;apply Zb;intro b1 hb1;apply Zt;apply Zb;intro b2 hb2;apply Za;simp;subst hb2;obtain⟨g,hg⟩: ∃g,g=t.allGood:=⟨_,rfl⟩;rw[←hg]at hC⊢;cases g with
  |false=>rw[if_pos rfl]at hC;subst hC;refine Zc (t:=true) (by simp) ?_;apply Zb;intro b2 hb2;apply Za;simp;subst hb2;apply Zm;simp[Xo,Xn];exact k3
  |true=>
   rw[if_neg (by decide)]at hC;refine Zc (t:=false) (by simp) ?_;have g1:Zd .gtr .i64 (t.nodes:Int) 4000=some (.bool (decide (4000<t.nodes))):=gtrC (y:=4000) rfl;have g2:Zd .gtr .i64 (t.depth:Int) 200=some (.bool (decide (200<t.depth))):=gtrC (y:=200) rfl;apply Zb;intro b2 hb2;apply Za;by_cases h1:4000<t.nodes;·rw[decide_eq_true h1]at g1;rw[if_pos (.inl h1)]at hC;subst hC;simp[ln,g1];subst hb2;refine Zc (t:=true) (by simp) ?_;apply Zb;intro b2 hb2;apply Za;simp;subst hb2;apply Zm;simp[Xo,Xn];exact k3
   ·rw[decide_eq_false h1]at g1;by_cases h2:200<t.depth;·rw[decide_eq_true h2]at g2;rw[if_pos (.inr h2)]at hC;subst hC;simp[ln,g1,g2];subst hb2;refine Zc (t:=true) (by simp) ?_;apply Zb;intro b2 hb2;apply Za;simp;subst hb2;apply Zm;simp[Xo,Xn];exact k3
    ·rw[decide_eq_false h2]at g2;rw[if_neg (by omega)]at hC;subst hC;simp[ln,g1,g2];subst hb2;refine Zc (t:=false) (by simp) ?_;apply Zi;subst hb1;apply Zb;intro b2 hb2;apply Za;simp;subst hb2;apply Zm;simp;exact k3
end
end
end
end Go.Proofs.YtmkfecoeghokfaaGreatDoor
