/-
  div.divide: the walk, by Knuth's way.
-/
import Derived.Test.YtldapilhmmbjhaaNw
namespace Go.Proofs.Ytldapilhmmbjhaa
open Go Ev
set_option linter.unusedVariables false
set_option linter.unusedSimpArgs false
noncomputable section

theorem Own.n_lt {n : Nat} {H : AH} {v : Value} {xs : List Nat} (h : Own n H v xs) (h0 : 0 < xs.length) : n < H.n := by
  cases h with
  | nil => cases h0
  | mk b o cap xs cs h1 h2 h3 h4 h5 h6 => omega

theorem blt_of {a b : Nat} (h : a < b) : Nat.blt a b = true := by rw [Nat.blt_eq]; exact h

theorem add_i64' {x y : Nat} (h : x + y < 9223372036854775808) : intBin .add .i64 (x : Int) (y : Int) = some (.int .i64 ((x + y : Nat) : Int)) := add_i64 h

theorem hidden_nil {bits : Nat} : ∀ {ms : List (Nat × Nat × Nat)}, (∀ x ∈ ms, bits.testBit x.1 = true) → hidden bits ms = []
  | [], _ => rfl
  | (k, lo, hi) :: r, h => by
    have h1 : bits.testBit k = true := h (k, lo, hi) (List.mem_cons_self ..)
    unfold hidden
    rw [h1, cond_true]
    exact hidden_nil fun x hx => h x (List.mem_cons_of_mem _ hx)

/-- 'v[:m]', the value. -/
def cutTo (v : Value) (m : Nat) : Value :=
  match v with
  | .slice a _ c => .slice a m c
  | v => v

theorem Sl.cutTo {H : AH} {v : Value} {xs : List Nat} (h : Sl H v xs) {t : TypeId} (ht : LT t) {m : Nat} (hm : m ≤ xs.length) (h0 : 0 < xs.length) :
    sliceV Try.prog H t v none (some (.int .i64 (m : Int))) none = some (cutTo v m) ∧ Sl H (Go.Proofs.Ytldapilhmmbjhaa.cutTo v m) (xs.take m) := by
  cases h with
  | nil => cases h0
  | emp b => cases h0
  | mk b o cap xs h1 h2 =>
    have hl : (xs.take m).length = m := by rw [List.length_take]; omega
    obtain ⟨h2a, cs, h3, h4, h5⟩ := h2
    have hs : Sl H (.slice (some ⟨b, o, none⟩) (xs.take m).length cap) (xs.take m) := .mk b o cap _ (by omega) ⟨h2a, cs, h3, h4, fun i x hx => h5 i x (by
      rw [List.getElem?_take] at hx
      split at hx
      · exact hx
      · cases hx)⟩
    rw [hl] at hs
    refine ⟨?_, hs⟩
    unfold sliceV
    simp only [ht.1, sU64]
    unfold cutV boundV
    simp only [h4, Option.isSome_some, Option.isNone_none, Bool.true_or]
    rw [if_pos (by omega)]
    have e1 : Nat.ble m cap = true := Nat.ble_eq.mpr (by omega)
    simp [boundV, e1, Go.Proofs.Ytldapilhmmbjhaa.cutTo]

/-- One digit of Knuth's way. -/
theorem knuth_step {X vs : List Nat} {j n : Nat} (dX : Dig B64 X) (hj : j + n + 1 ≤ X.length) (dvs : Dig B64 vs) (hvs : vs.length = n) (hlt : dv B64 (X.drop (j + 1)) < dv B64 vs) :
    dv B64 ((X.drop j).take (n + 1)) = dv B64 (X.drop j) ∧ dv B64 ((X.drop j).take (n + 1)) < dv B64 vs * B64 ∧ dv B64 (X.drop (j + n + 1)) = 0 := by
  have hV := dv_lt dvs
  rw [hvs] at hV
  have e1 : dv B64 (X.drop (j + 1)) = dv B64 ((X.drop (j + 1)).take n) + B64 ^ n * dv B64 ((X.drop (j + 1)).drop n) := dv_split _ n (by rw [List.length_drop]; omega)
  have z : dv B64 ((X.drop (j + 1)).drop n) = 0 := by
    rcases Nat.eq_zero_or_pos (dv B64 ((X.drop (j + 1)).drop n)) with h | h
    · exact h
    · exfalso
      have : B64 ^ n * 1 ≤ B64 ^ n * dv B64 ((X.drop (j + 1)).drop n) := Nat.mul_le_mul_left _ h
      omega
  rw [List.drop_drop] at z
  have z' : dv B64 (X.drop (j + n + 1)) = 0 := by rw [show j + n + 1 = j + 1 + n by omega]; exact z
  have e2 := dv_split (X.drop j) (n + 1) (by rw [List.length_drop]; omega)
  rw [List.drop_drop, show j + (n + 1) = j + n + 1 by omega, z', Nat.mul_zero, Nat.add_zero] at e2
  refine ⟨e2.symm, ?_, z'⟩
  rw [← e2, List.drop_eq_getElem_cons (by omega)]
  have hx : X[j] < B64 := dX.get (List.getElem?_eq_getElem (by omega))
  have : (dv B64 (X.drop (j + 1)) + 1) * B64 ≤ dv B64 vs * B64 := Nat.mul_le_mul_right _ hlt
  rw [Nat.succ_mul] at this
  simp only [dv]
  rw [Nat.mul_comm B64]
  omega

attribute [-simp] Int.natCast_add Int.natCast_mul Int.natCast_ediv Int.natCast_emod Int.natCast_pow
attribute [local simp] strip stripL LW' LR gW evOp oMove oAssign oPick oBinOp oUnOp oConvert oExtract oIndexAddr oIndex oLoad oStore oSlice oMakeSlice oCall oBuildSlice opd opds optOpd plain plain1 Tr.get_set tmOf builtinV binV isShift sameKind undef resultV resOne packV ltNat ltNum ltLst calleeV parts lss_nat unV DW grdOf heapOp LX isStore

set_option maxHeartbeats 4000000 in
theorem divide_rest {n0 : Nat} {H : AH} {va vb : Value} {xs ys : List Nat} (ha : Own n0 H va xs) (hb : Sl H vb ys) (hn0 : n0 ≤ H.n) (dx : Dig B64 xs) (dy : Dig B64 ys) (tx : trimL xs = xs) (ty : trimL ys = ys) (lx : xs.length ≤ 17592186040000) (ly : ys.length ≤ 17592186040000)
    (tm : Tr Value) (t0 : tm.get 0 = some va) (t1 : tm.get 1 = some vb) (h2 : 2 ≤ ys.length) (hge : dv B64 ys ≤ dv B64 xs) :
    W Try.prog cfg0 divideTail ⟨104, tm, H⟩ fun ex s => (ex = .norm ∨ ex = .ret) ∧ ∃ vs, resultV Try.prog s Try.f38.results.toList = some vs ∧ DivideIs n0 H (dv B64 xs) (dv B64 ys) (packV vs) s.H := by
  obtain ⟨n, hn⟩ : ∃ n, n = ys.length := ⟨_, rfl⟩
  have hn2 : 2 ≤ n := by omega
  have hxn : n ≤ xs.length := by
    rcases Nat.lt_or_ge xs.length n with h | h
    · have := dv_len_lt tx ty dx dy (by omega); omega
    · exact h
  have lenb := hb.len ltNat
  have lena := ha.sl.len ltNat
  rw [← hn] at lenb
  have s1 : intBin .sub .i64 (n : Int) 1 = some (.int .i64 ((n - 1 : Nat) : Int)) := sub1_i64 (by omega) (by omega)
  have a1 := hb.adr ltNat (k := .i64) (i := n - 1) (by omega)
  have d1 := hb.load (i := n - 1) (by omega)
  obtain ⟨y, hy⟩ : ∃ y, y = ys[n - 1]'(by omega) := ⟨_, rfl⟩
  rw [← hy] at d1
  have hyB : y < B64 := by rw [hy]; exact dy.get (List.getElem?_eq_getElem (by omega))
  obtain ⟨s, hs⟩ : ∃ s, s = 64 - blen y := ⟨_, rfl⟩
  have hst := shift_top dy ty hn.symm (by omega) (s := s) (by rw [hs, hy])
  obtain ⟨h64, hVlt⟩ := hst
  have hlz : callI Try.prog cfg0 57 [.int .u64 (y : Int)] H = some (.int .i64 (64 - (blen y : Int)), H) := by
    obtain ⟨v, H', h, rfl, rfl⟩ := lz_spec hyB (H := H)
    exact h
  have hcv := conv_lz (blen64 hyB)
  rw [← hs] at hcv
  have hge1 := normal_ge dy ty (by omega)
  rw [← hn] at hge1
  show W _ _ (.seq (.region 10 _ _) _) _ _
  apply W_seq; intro b hb1
  apply W_region
  simp [t1, lenb, s1, a1, d1, hlz, hcv]
  show W _ _ b _ _; subst hb1
  -- the shifted ones
  obtain ⟨u0, H2, hu, ku, us0, ou, du, lu, vu⟩ := up_spec (H := H.top) ha.sl.top dx (by omega) h64
  have ou1 : Own H.n (grown H H2) u0 us0 := ou.same (grown_but ku)
  have k1 : Keep H (grown H H2) := grown_keep (.refl H) ku
  have n1 : H.n < H2.n := ou.n_lt (by omega)
  obtain ⟨G1, hG1⟩ : ∃ G1, G1 = grown H H2 := ⟨_, rfl⟩
  have nG1 : G1.n = H2.n := by rw [hG1]; rfl
  rw [← hG1] at ou1 k1
  obtain ⟨w0, H3, hw, kw, vs0, ow, dw, lw, vw⟩ := up_spec (H := G1.top) (hb.keep k1).top dy (by omega) h64
  have ow1 : Own G1.n (grown G1 H3) w0 vs0 := ow.same (grown_but kw)
  have k2 : Keep G1 (grown G1 H3) := grown_keep (.refl G1) kw
  have n2 : G1.n < H3.n := ow.n_lt (by omega)
  obtain ⟨G2, hG2⟩ : ∃ G2, G2 = grown G1 H3 := ⟨_, rfl⟩
  have nG2 : G2.n = H3.n := by rw [hG2]; rfl
  rw [← hG2] at ow1 k2
  obtain ⟨wv, hsl, ow2⟩ := ow1.top.cut ltNat (m := n) (by omega) (by omega)
  have ow3 : Own G1.n G2 wv (vs0.take n) := ow2.same ⟨rfl, fun _ _ _ => rfl⟩
  apply W_seq; intro b hb1
  apply W_draw (by kernel_rfl)
  simp [t0, t1]
  refine DG_grow (v := u0) (H2 := H2) rfl rfl rfl (by rw [vis_top rfl]; simp [t0, hu]) (by omega) (keep_lw ku) ?_
  simp [t1, blt_of n1, ← hG1]
  refine DG_grow (v := w0) (H2 := H3) rfl rfl rfl (by rw [vis_top (by kernel_rfl)]; simp [t1, hw]) (by omega) (keep_lw kw) ?_
  simp [t1, blt_of n2, ← hG2, lenb]
  refine DG_read (v := wv) rfl rfl rfl (by rw [vis_top (by kernel_rfl)]; simp [hsl]) ?_
  simp
  show W _ _ b _ _; subst hb1
  -- the divisor
  obtain ⟨vs, hvs⟩ : ∃ vs, vs = vs0.take n := ⟨_, rfl⟩
  rw [← hvs] at ow3
  have vslen : vs.length = n := by rw [hvs, List.length_take]; omega
  have dvs : Dig B64 vs := by rw [hvs]; exact dw.take n
  have evs : dv B64 vs = dv B64 ys * 2 ^ s := by
    have e := dv_split vs0 n (by omega)
    rw [vw, ← hvs] at e
    have : dv B64 (vs0.drop n) = 0 := by
      rcases Nat.eq_zero_or_pos (dv B64 (vs0.drop n)) with h | h
      · exact h
      · exfalso
        have : B64 ^ n * 1 ≤ B64 ^ n * dv B64 (vs0.drop n) := Nat.mul_le_mul_left _ h
        omega
    rw [this] at e
    omega
  have Bpos : 0 < dv B64 ys := Nat.lt_of_lt_of_le (Nat.pow_pos (by decide)) hge1
  have spos := Nat.two_pow_pos s
  have Vge : B64 ^ (n - 1) ≤ dv B64 vs := by rw [evs]; exact Nat.le_trans hge1 (Nat.le_mul_of_pos_right _ spos)
  have Vpos : 0 < dv B64 vs := Nat.lt_of_lt_of_le (Nat.pow_pos (by decide)) Vge
  have Vlt : dv B64 vs < B64 ^ n := by rw [evs]; exact hVlt
  have vtop : 0 < vs[n - 1]'(by omega) := by
    rcases Nat.eq_zero_or_pos (vs[n - 1]'(by omega)) with h | h
    · exfalso
      have e := dv_split vs (n - 1) (by omega)
      rw [List.drop_eq_getElem_cons (by omega), List.drop_eq_nil_of_le (by omega), h] at e
      have hl := dv_lt (dvs.take (n - 1))
      rw [List.length_take, Nat.min_eq_left (by omega)] at hl
      simp [dv] at e
      omega
    · exact h
  have k12 := k1.trans k2
  have ou2 : Own H.n G2 u0 us0 := ou1.mono (Nat.le_refl _) k2
  have apuv : Apart u0 wv := apart_own ou1 ow3 (Nat.le_refl _)
  have lenv := ow3.sl.len ltNat
  rw [vslen] at lenv
  obtain ⟨M, hM⟩ : ∃ M, M = xs.length - n + 1 := ⟨_, rfl⟩
  have s2 : intBin .sub .i64 (xs.length : Int) (n : Int) = some (.int .i64 ((xs.length - n : Nat) : Int)) := sub_i64 (by omega) hxn
  have s3 : intBin .add .i64 ((xs.length - n : Nat) : Int) 1 = some (.int .i64 (M : Int)) := by rw [hM]; exact add1_i64 (by omega)
  have s4 : ((xs.length - n : Nat) : Int) = (M : Int) - 1 := by omega
  obtain ⟨q0, H4, hmk, kq, oq, nq⟩ := makeSlice_own (H := G2) ltNat (n := M) (by omega)
  have apuq : Apart u0 q0 := apart_own ou2 oq (Nat.le_refl _)
  apply W_seq; intro b hb1
  apply W_region
  simp [lenv]
  show W _ _ b _ _; subst hb1
  apply W_seq; intro b hb1
  apply W_region
  simp [t0, lena, s2, s3, hmk]
  show W _ _ b _ _; subst hb1
  refine W_thenK (fun s' => s'.k = 104 ∧ Keep H s'.H ∧ ∃ (X L : List Nat), X.length = xs.length + 1 ∧ Dig B64 X ∧ L.length = M ∧ Dig B64 L ∧ dv B64 X + dv B64 vs * dv B64 L = dv B64 xs * 2 ^ s ∧ dv B64 X < dv B64 vs ∧ Own H.n s'.H u0 X ∧ Own G2.n s'.H q0 L ∧
    s'.tm.get 9 = some (.int .u64 (s : Int)) ∧ s'.tm.get 10 = some u0 ∧ s'.tm.get 12 = some (.int .i64 (n : Int)) ∧ s'.tm.get 13 = some q0) ?_ ?_
  · intro Q'' hQ''
    apply W_seq; intro b2 hb2
    apply W_region
    simp [t0, lena, s2]
    show W _ _ b2 _ _; subst hb2
    apply W_block
    have start : dv B64 (us0.drop M) < dv B64 vs := by
      have e := dv_split us0 M (by omega)
      rw [vu] at e
      have hx := dv_lt dx
      have h1 : dv B64 xs * 2 ^ s < B64 ^ xs.length * 2 ^ s := Nat.mul_lt_mul_of_pos_right hx spos
      have h3 : B64 ^ xs.length * 2 ^ s = B64 ^ M * (B64 ^ (n - 1) * 2 ^ s) := by
        rw [← Nat.mul_assoc, ← Nat.pow_add, show M + (n - 1) = xs.length by omega]
      have h4 : B64 ^ M * (B64 ^ (n - 1) * 2 ^ s) ≤ B64 ^ M * dv B64 vs := Nat.mul_le_mul_left _ (by rw [evs]; exact Nat.mul_le_mul_right _ hge1)
      have h5 : B64 ^ M * dv B64 (us0.drop M) < B64 ^ M * dv B64 vs := by omega
      exact Nat.lt_of_mul_lt_mul_left h5
    refine W_loopK (fun m s' => s'.k = 104 ∧ Keep G2 H4 ∧ m ≤ M ∧ Keep H s'.H ∧ Sl s'.H wv vs ∧ ∃ (X L : List Nat), X.length = xs.length + 1 ∧ Dig B64 X ∧ L.length + m = M ∧ Dig B64 L ∧ dv B64 X + B64 ^ m * (dv B64 vs * dv B64 L) = dv B64 xs * 2 ^ s ∧ dv B64 (X.drop m) < dv B64 vs ∧ Own H.n s'.H u0 X ∧ Own G2.n s'.H q0 (List.replicate m 0 ++ L) ∧
      s'.tm.get 9 = some (.int .u64 (s : Int)) ∧ s'.tm.get 10 = some u0 ∧ s'.tm.get 11 = some wv ∧ s'.tm.get 12 = some (.int .i64 (n : Int)) ∧ s'.tm.get 13 = some q0 ∧ s'.tm.get 14 = some (.int .i64 ((m : Int) - 1))) ?_ M _
      ⟨rfl, kq, Nat.le_refl _, k12.trans kq, ow3.sl.keep kq, us0, [], by omega, du, by simp, .nil _, by simp [dv, vu], start, ou2.mono (Nat.le_refl _) kq, by simpa using oq, by simp, by simp, by simp, by simp, by simp, by simp [s4]⟩
    rintro m ⟨k, tm, H5⟩ ⟨hk, _, hm, kH, sv, X, L, hX, dX, hL, dL, heq, hlt, ou, oq, t9, t10, t11, t12, t13, t14⟩ Q' hQ'
    simp only at hk kH sv ou oq t9 t10 t11 t12 t13 t14
    subst hk
    apply W_seq; intro b3 hb3
    apply W_seq; intro b4 hb4
    apply W_region
    have hge : intBin .geq .i64 ((m : Int) - 1) 0 = some (.bool (decide (0 < m))) := by
      show some (Value.bool (decide ((m : Int) - 1 ≥ 0))) = _
      congr 2; apply decide_eq_decide.mpr; omega
    simp [t14, hge]
    show W _ _ b4 _ _; subst hb4
    by_cases hm0 : m = 0
    · subst hm0
      refine W_cond (t := false) (by simp) ?_
      apply W_exit
      apply hQ'
      left
      exact ⟨rfl, hQ'' _ ⟨rfl, kH, X, L, hX, dX, by omega, dL, by simpa using heq, by simpa using hlt, ou, by simpa using oq, by simp [t9], by simp [t10], by simp [t12], by simp [t13]⟩⟩
    · refine W_cond (t := true) (by simp; omega) ?_
      apply W_skip
      show W _ _ b3 _ _; subst hb3
      obtain ⟨j, rfl⟩ : ∃ j, m = j + 1 := ⟨m - 1, by omega⟩
      have em : ((j + 1 : Nat) : Int) - 1 = (j : Int) := by omega
      rw [em] at t14
      have hjX : j + n + 1 ≤ X.length := by omega
      obtain ⟨K1, K2, K3⟩ := knuth_step dX hjX dvs vslen hlt
      obtain ⟨uw, hsl, suw, view, bw⟩ := ou.sl.part ltNat (j := j) (m := n + 1) (by omega) (by omega)
      have i1 : intBin .add .i64 (j : Int) (n : Int) = some (.int .i64 ((j + n : Nat) : Int)) := add_i64 (by omega)
      have i2 : intBin .add .i64 ((j + n : Nat) : Int) 1 = some (.int .i64 ((j + (n + 1) : Nat) : Int)) := add1_i64 (by omega)
      have hsplit : X = X.take j ++ (X.drop j).take (n + 1) ++ X.drop (j + n + 1) := by
        have a := List.take_append_drop (n + 1) (X.drop j)
        rw [List.drop_drop, show j + (n + 1) = j + n + 1 by omega] at a
        rw [List.append_assoc, a, List.take_append_drop]
      have ljp : (X.take j).length = j := by rw [List.length_take]; omega
      have lus : ((X.drop j).take (n + 1)).length = n + 1 := by rw [List.length_take, List.length_drop]; omega
      have ou' := ou
      rw [hsplit] at ou'
      obtain ⟨r, H6, hg, hr, bt, ka, us', lus', dus', vus', ou6⟩ := guess_spec ou' ljp lus view ((dX.drop j).take (n + 1)) sv apuv vslen hn2 (by omega) dvs vtop K2
      subst hr
      rw [K1] at vus' hg
      have oq6 := oq.but bt apuq
      have hrep : List.replicate (j + 1) 0 ++ L = List.replicate j 0 ++ 0 :: L := by rw [List.replicate_succ']; simp
      rw [hrep] at oq6
      have a2 := oq6.sl.adr ltNat (k := .i64) (i := j) (by simp)
      obtain ⟨H7, st7, oq7, n7, b7, ka7⟩ := oq6.put (i := j) (by simp) (dv B64 (X.drop j) / dv B64 vs)
      rw [set_mid _ _ _ _ (by simp)] at oq7
      have kG2 : Keep H H5 := kH
      have apqu : Apart q0 u0 := fun c hc hc' => apuq c hc' hc
      have apvq : Apart q0 wv := fun c hc hc' => by
        have x1 := (oq.blk_lo hc).1
        have x2 := (ow3.blk_lo hc').2
        omega
      have bt7 : But (vblk q0) H6 H7 := ⟨n7, fun i _ hi => b7 i hi⟩
      have ou7 : Own H.n H7 u0 (X.take j ++ us' ++ X.drop (j + n + 1)) := ou6.but bt7 apqu
      have sv7 : Sl H7 wv vs := (sv.but bt apuv).but bt7 apvq
      have kH7 : Keep H H7 := ka7 H (ka H kH (Nat.le_refl _)) (by have := k12.n; omega)
      apply W_seq; intro b3 hb3
      apply W_block
      apply W_region
      simp [t10, t11, t12, t13, t14, i1, i2, hsl, hg, a2, st7]
      show W _ _ b3 _ _; subst hb3
      have w2 : intBin .sub .i64 (j : Int) 1 = some (.int .i64 ((j : Int) - 1)) := by
        show some (Value.int .i64 (IntKind.i64.wrap ((j : Int) - 1))) = _
        congr 2
        rw [IntKind.wrap_i64]; omega
      apply W_region
      simp [t14, w2]
      apply hQ'
      have hdX' : (X.take j ++ us' ++ X.drop (j + n + 1)).drop j = us' ++ X.drop (j + n + 1) := by
        rw [List.append_assoc, List.drop_append_of_le_length (by omega), List.drop_eq_nil_of_le (by omega)]
        rfl
      have hdv : dv B64 (us' ++ X.drop (j + n + 1)) = dv B64 (X.drop j) % dv B64 vs := by
        rw [dv_append, K3, Nat.mul_zero, Nat.add_zero, vus']
      refine ⟨j, Nat.lt_succ_self j, rfl, kq, by show j ≤ M; omega, kH7, sv7, X.take j ++ us' ++ X.drop (j + n + 1), dv B64 (X.drop j) / dv B64 vs :: L, ?_, ((dX.take j).append dus').append (dX.drop _), by simp; omega, .cons ?_ dL, ?_, ?_, ou7, oq7, by simp [t9], by simp [t10], by simp [t11], by simp [t12], by simp [t13], by simp⟩
      · simp only [List.length_append, List.length_drop]; omega
      · rw [Nat.div_lt_iff_lt_mul Vpos, Nat.mul_comm, ← K1]; exact K2
      · have e1 := dv_split X j (by omega)
        rw [List.append_assoc, dv_append, ljp, hdv]
        have e2 := Nat.div_add_mod (dv B64 (X.drop j)) (dv B64 vs)
        simp only [dv]
        generalize dv B64 (X.drop j) / dv B64 vs = q at *
        generalize dv B64 (X.drop j) % dv B64 vs = r at *
        rw [e1, ← e2] at heq
        rw [← heq]
        rw [Nat.mul_add (dv B64 vs) q, Nat.mul_add (B64 ^ j) (dv B64 vs * q) r, Nat.mul_add (B64 ^ j) (dv B64 vs * q), show B64 ^ (j + 1) = B64 ^ j * B64 from rfl, Nat.mul_assoc (B64 ^ j) B64, Nat.mul_left_comm (dv B64 vs) B64]
        omega
      · rw [hdX', hdv]; exact Nat.mod_lt _ Vpos
  rintro ⟨k, tm2, H5⟩ ⟨hk, kH, X, L, hX, dX, hL, dL, heq, hlt, ou, oq, t9, t10, t12, t13⟩
  simp only at hk kH ou oq t9 t10 t12 t13
  subst hk
  -- the answer's numbers
  have e0 : dv B64 xs * 2 ^ s = dv B64 vs * dv B64 L + dv B64 X := by rw [← heq]; omega
  have hdiv : dv B64 xs / dv B64 ys = dv B64 L := by
    rw [← Nat.mul_div_mul_right _ _ spos, e0, ← evs, Nat.mul_add_div Vpos, Nat.div_eq_of_lt hlt, Nat.add_zero]
  have hmod : dv B64 X / 2 ^ s = dv B64 xs % dv B64 ys := by
    have : dv B64 xs % dv B64 ys * 2 ^ s = dv B64 X := by
      rw [← Nat.mul_mod_mul_right, e0, ← evs, Nat.mul_add_mod, Nat.mod_eq_of_lt hlt]
    rw [← this, Nat.mul_div_cancel _ spos]
  have hXn : dv B64 (X.take n) = dv B64 X := by
    have e := dv_split X n (by omega)
    have : dv B64 (X.drop n) = 0 := by
      rcases Nat.eq_zero_or_pos (dv B64 (X.drop n)) with h | h
      · exact h
      · exfalso
        have : B64 ^ n * 1 ≤ B64 ^ n * dv B64 (X.drop n) := Nat.mul_le_mul_left _ h
        omega
    rw [this] at e
    omega
  obtain ⟨qv, H6, hq6, kq6, oq6⟩ := norm_spec (H := H5.top) oq.sl.top (by omega)
  rw [trimL_ds two64 dL, ← hdiv] at oq6
  obtain ⟨G6, hG6⟩ : ∃ G6, G6 = grown H5 H6 := ⟨_, rfl⟩
  have kG6 : Keep H5 G6 := by rw [hG6]; exact grown_keep (.refl H5) kq6
  have nG6 : G6.n = H6.n := by rw [hG6]; rfl
  have oqG : Own H5.n G6 qv (ds B64 (dv B64 xs / dv B64 ys)) := by rw [hG6]; exact oq6.same (grown_but kq6)
  have ouG := (ou.sl.keep kG6).top
  obtain ⟨rv, H7, hr7, kr7, or7⟩ := down_spec (H := G6.top) (ouG.cutTo ltNat (m := n) (by omega) (by omega)).2 (dX.take n) (by rw [List.length_take]; omega) h64
  rw [hXn, hmod] at or7
  have kG7 : Keep G6 (grown G6 H7) := grown_keep (.refl G6) kr7
  have orG : Own G6.n (grown G6 H7) rv (ds B64 (dv B64 xs % dv B64 ys)) := or7.same (grown_but kr7)
  have h6n := kq6.n
  have h7n := kr7.n
  apply W_seq; intro b hb1
  apply W_draw (by kernel_rfl)
  simp [t13]
  refine DG_grow (v := qv) (H2 := H6) rfl rfl rfl (by rw [vis_top rfl]; simp [hq6]) h6n (keep_lw kq6) ?_
  rw [← hG6]
  generalize hms : cond (Nat.blt H5.n H6.n) _ _ = ms
  have hms1 : ∀ x ∈ ms, x.1 = 1 ∧ H5.n ≤ x.2.1 := by
    intro x hx
    rw [← hms] at hx
    cases hbl : Nat.blt H5.n H6.n with
    | true => rw [hbl, cond_true] at hx; simp at hx; subst hx; exact ⟨rfl, Nat.le_refl _⟩
    | false => rw [hbl, cond_false] at hx; cases hx
  simp [t10, t12]
  refine DG_read (v := cutTo u0 n) rfl rfl rfl ?_ ?_
  · have hsv := fun bits => ((ou.sl.keep (vis_keep (bits := bits) kG6 fun x hx => (hms1 x hx).2)).cutTo ltNat (m := n) (by omega) (by omega)).1
    simp [hsv]
  simp [t9]
  refine DG_grow (v := rv) (H2 := H7) rfl rfl rfl ?_ h7n (keep_lw kr7) ?_
  · rw [vis_top (hidden_nil fun x hx => by rw [(hms1 x hx).1]; kernel_rfl)]
    simp [t9, hr7]
  simp
  show W _ _ b _ _; subst hb1
  apply W_ret
  refine ⟨.inr rfl, [qv, rv], ?_, ?_⟩
  · simp
  · exact ⟨(kH.trans kG6).trans kG7, qv, rv, rfl, oqG.mono kH.n kG7, orG.mono (by have := (kH.trans kG6).n; omega) (.refl _), apart_own oqG orG (Nat.le_refl _)⟩

theorem divide_spec {n0 : Nat} {H : AH} {va vb : Value} {xs ys : List Nat} (ha : Own n0 H va xs) (hb : Sl H vb ys) (hn0 : n0 ≤ H.n) (dx : Dig B64 xs) (dy : Dig B64 ys) (tx : trimL xs = xs) (ty : trimL ys = ys) (lx : xs.length ≤ 17592186040000) (ly : ys.length ≤ 17592186040000) (hy : 0 < ys.length) :
    CW Try.prog cfg0 38 [va, vb] H (DivideIs n0 H (dv B64 xs) (dv B64 ys)) :=
  divide_one ha hb hn0 dx dy tx ty lx ly hy fun tm t0 t1 h2 hge => divide_rest ha hb hn0 dx dy tx ty lx ly tm t0 t1 h2 hge
end
end Go.Proofs.Ytldapilhmmbjhaa
