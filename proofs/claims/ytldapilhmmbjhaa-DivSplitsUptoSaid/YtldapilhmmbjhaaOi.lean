/-
  surdref01: Len, Gcd; surdref03: Divides, Both, Split; surdlaw03: same, lives.
-/
import Derived.Test.YtldapilhmmbjhaaOh
namespace Go.Proofs.Ytldapilhmmbjhaa
open Go Ev
set_option linter.unusedVariables false
set_option linter.unusedSimpArgs false
noncomputable section

theorem blen32 {N : Nat} (h : 0 < (ds b32 N).length) : blen N = 32 * ((ds b32 N).length - 1) + blen ((ds b32 N)[(ds b32 N).length - 1]) ∧ (ds b32 N)[(ds b32 N).length - 1] < b32 := by
  have hN : 0 < N := (ds_len_pos two32).mp h
  obtain ⟨k, hk⟩ : ∃ k, k = (ds b32 N).length - 1 := ⟨_, rfl⟩
  have hlt : k < (ds b32 N).length := by omega
  have e := dv_split' b32 (ds b32 N) k (by omega)
  rw [dv_ds two32, List.drop_eq_getElem_cons hlt, List.drop_eq_nil_of_le (by omega)] at e
  simp only [dv, Nat.mul_zero, Nat.add_zero] at e
  have hl := dv_lt ((ds_dig two32 N).take k)
  rw [List.length_take, Nat.min_eq_left (by omega)] at hl
  have hd : (ds b32 N)[k] < b32 := (ds_dig two32 N).get (List.getElem?_eq_getElem hlt)
  have hge := ds_ge two32 (n := N) (by omega)
  rw [← hk] at hge
  have hp : b32 ^ k = 2 ^ (32 * k) := by rw [Nat.pow_mul]
  rw [hp] at hge e hl
  have e2 : (ds b32 N)[(ds b32 N).length - 1] = (ds b32 N)[k] := by simp only [hk]
  rw [e2, ← hk]
  refine ⟨?_, hd⟩
  have hs := blen_shift hge
  have hq : N / 2 ^ (32 * k) = (ds b32 N)[k] := by
    generalize (ds b32 N)[k] = t at *
    generalize dv b32 ((ds b32 N).take k) = u at *
    rw [e, Nat.add_mul_div_left _ _ (Nat.two_pow_pos _), Nat.div_eq_of_lt hl, Nat.zero_add]
  rw [hq] at hs
  exact hs

theorem blen_le32 {x : Nat} (h : x < b32) : blen x ≤ 32 := by
  rcases Nat.lt_or_ge 32 (blen x) with h1 | h1
  · have h0 : x ≠ 0 := by rintro rfl; simp [blen] at h1
    have a := blen_ge h0
    have b : 2 ^ 32 ≤ 2 ^ (blen x - 1) := Nat.pow_le_pow_right (by decide) (by omega)
    have hx : x < 4294967296 := h
    omega
  · exact h1

/-- A list of one limb that is written out. -/
theorem build1_call (H : AH) {t : TypeId} (ht : LT t) (x : Nat) : ∃ v N, buildSliceV Try.prog H t 1 [(0, .int .u64 (x : Int))] = some (v, N) ∧ Keep H N ∧ Own H.n N v [x] :=
  ⟨_, _, build1_own H ht x, .new _ _ _, Own.new H [x]⟩

theorem cmp_call {H : AH} {v w : Value} {xs ys : List Nat} (hv : Sl H v xs) (hw : Sl H w ys) (dx : Dig B64 xs) (dy : Dig B64 ys) (lx : xs.length ≤ Lim) (ly : ys.length ≤ Lim) :
    callI Try.prog cfg0 33 [v, w] H = some (.int .i64 (cmpN (dv B64 xs) (dv B64 ys)), H) := by
  obtain ⟨_, _, hc, rfl, rfl⟩ := compare_spec hv hw dx dy (Nat.le_trans lx (by decide)) (Nat.le_trans ly (by decide))
  exact hc

theorem dig1 {x : Nat} (h : x < B64) : Dig B64 [x] := .cons h (.nil _)
theorem dv1 (x : Nat) : dv B64 [x] = x := by simp [dv]
theorem ds1 {x : Nat} (h0 : x ≠ 0) (h : x < B64) : ds B64 x = [x] := by rw [ds_pos two64 h0, Nat.mod_eq_of_lt h, Nat.div_eq_of_lt h, ds_zero]

attribute [-simp] Int.natCast_add Int.natCast_mul Int.natCast_ediv Int.natCast_emod Int.natCast_pow
attribute [local simp] strip stripL LW' LR gW evOp oMove oAssign oPick oBinOp oUnOp oConvert oExtract oIndexAddr oIndex oLoad oStore oSlice oMakeSlice oCall oBuildSlice opd opds optOpd plain plain1 Tr.get_set tmOf builtinV binV isShift sameKind undef resultV resOne packV ltNat ltNum ltLst calleeV parts lss_nat unV DW grdOf heapOp LX isStore

theorem refLen_spec {H : AH} {v : Value} {N : Nat} (h : Sl H v (ds b32 N)) (hl : (ds b32 N).length ≤ 2 * Lim) :
    CW Try.prog cfg0 15 [v] H fun v' H' => H' = H ∧ v' = .int .i64 (blen N : Int) := by
  refine CW_intro 25 (by decide) (by decide) Try.func15 rfl rfl ?_
  have l1 := h.len ltNum
  obtain ⟨L, hL⟩ : ∃ L, L = (ds b32 N).length := ⟨_, rfl⟩
  rw [← hL] at l1
  have hl : L ≤ 4000000000000 := by rw [hL]; exact hl
  apply W_seq; intro b1 hb1
  apply W_region
  simp
  show W _ _ b1 _ _; subst hb1
  apply W_seq; intro b1 hb1
  apply W_seq; intro b2 hb2
  apply W_region
  simp [l1, eq0_nat]
  show W _ _ b2 _ _; subst hb2
  by_cases h0 : L = 0
  · refine W_cond (t := true) (by simp [h0]) ?_
    apply W_seq; intro b2 hb2
    apply W_region
    simp
    show W _ _ b2 _ _; subst hb2
    apply W_ret
    have : N = 0 := by rw [h0] at hL; exact (ds_len_zero two32).mp hL.symm
    subst this
    simp [seqQ, blen]
  · refine W_cond (t := false) (by simp [h0]) ?_
    apply W_skip
    show W _ _ b1 _ _; subst hb1
    obtain ⟨e, hd⟩ := blen32 (N := N) (by omega)
    have a1 := h.adr ltNum (k := .i64) (i := (ds b32 N).length - 1) (by omega)
    have d1 := h.load (i := (ds b32 N).length - 1) (by omega)
    obtain ⟨x, hx⟩ : ∃ x, x = (ds b32 N)[(ds b32 N).length - 1]'(by omega) := ⟨_, rfl⟩
    rw [← hx] at d1 hd e
    rw [← hL] at a1 d1 e
    have hx32 := blen_le32 hd
    have s1 : intBin .sub .i64 (L : Int) 1 = some (.int .i64 ((L - 1 : Nat) : Int)) := sub1_i64 (by omega) (by omega)
    have s2 : intBin .mul .i64 32 ((L - 1 : Nat) : Int) = some (.int .i64 ((32 * (L - 1) : Nat) : Int)) := mul32_i64 (by omega)
    apply W_seq; intro b1 hb1
    apply W_region
    simp [l1, s1, s2]
    show W _ _ b1 _ _; subst hb1
    apply W_seq; intro b1 hb1
    apply W_seq; intro b2 hb2
    apply W_region
    simp [l1, s1, a1, d1]
    show W _ _ b2 _ _; subst hb2
    apply W_block
    refine W_loopK (fun y s' => s'.k = 25 ∧ s'.H = H ∧ y < b32 ∧ ∃ n : Nat, n + blen y = blen N ∧ s'.tm.get 3 = some (.int .i64 (n : Int)) ∧ s'.tm.get 4 = some (.int .u64 (y : Int))) ?_ x _
      ⟨rfl, rfl, hd, 32 * (L - 1), e.symm, by simp, by simp⟩
    rintro y ⟨k, tm, H2⟩ ⟨hk, hH, hy, n, hn, t3, t4⟩ Q' hQ'
    simp only at hk hH t3 t4
    subst hk; subst hH
    apply W_seq; intro b3 hb3
    apply W_seq; intro b4 hb4
    apply W_region
    simp [t4, gtr0]
    show W _ _ b4 _ _; subst hb4
    by_cases hy0 : 0 < y
    · refine W_cond (t := true) (by simp [hy0]) ?_
      apply W_skip
      show W _ _ b3 _ _; subst hb3
      have hbh := blen_half hy0
      apply W_seq; intro b3 hb3
      apply W_block
      apply W_region
      simp [t3, add1_i64 (x := n) (by omega)]
      show W _ _ b3 _ _; subst hb3
      apply W_region
      simp [t4, quo2 (b32_lt hy)]
      apply hQ'
      exact ⟨y / 2, Nat.div_lt_self hy0 (by decide), rfl, rfl, Nat.lt_of_le_of_lt (Nat.div_le_self y 2) hy, n + 1, by omega, by simp, by simp⟩
    · refine W_cond (t := false) (by simp [hy0]) ?_
      apply W_exit
      apply hQ'
      left
      refine ⟨rfl, ?_⟩
      obtain rfl : y = 0 := by omega
      have hn' : n = blen N := by rw [← hn]; rfl
      show W _ _ b1 _ _; subst hb1
      apply W_seq; intro b4 hb4
      apply W_region
      simp [t3]
      show W _ _ b4 _ _; subst hb4
      apply W_ret
      simp [hn']

theorem refLen_call {H : AH} {v : Value} {N : Nat} (h : Sl H v (ds b32 N)) (hl : (ds b32 N).length ≤ 2 * Lim) : callI Try.prog cfg0 15 [v] H = some (.int .i64 (blen N : Int), H) := by
  obtain ⟨_, _, hc, rfl, rfl⟩ := refLen_spec h hl
  exact hc

theorem zero_call {H : AH} {v : Value} {N : Nat} (h : Sl H v (ds b32 N)) : callI Try.prog cfg0 39 [v] H = some (.bool (decide (N = 0)), H) := by
  obtain ⟨_, _, hc, rfl, rfl⟩ := zero_spec h
  rw [hc]
  congr 3
  exact decide_eq_decide.mpr (ds_len_zero two32)

theorem refDiv_call {H : AH} {va vb : Value} {A B : Nat} (ha : Sl H va (ds b32 A)) (hb : Sl H vb (ds b32 B)) (lA : (ds b32 A).length ≤ 2 * Lim) (lB : (ds b32 B).length ≤ 2 * Lim) (hB : 0 < B) :
    ∃ q r H', callI Try.prog cfg0 40 [va, vb] H = some (.tuple #[q, r], H') ∧ Keep H H' ∧ Own H.n H' q (ds b32 (A / B)) ∧ Own H.n H' r (ds b32 (A % B)) := by
  obtain ⟨v, H', hc, k, q, r, e, o1, o2⟩ := refDiv_spec ha hb (ds_dig two32 A) (ds_dig two32 B) (ds_trim two32 B) (Nat.le_trans lA (by decide)) (Nat.le_trans lB (by decide)) (by rw [dv_ds two32]; exact hB)
  subst e
  rw [dv_ds two32, dv_ds two32] at o1 o2
  exact ⟨q, r, H', hc, k, o1, o2⟩

section
variable {H : AH} {va vb : Value} {A B : Nat}

theorem refDivides_spec (ha : Sl H va (ds b32 A)) (hb : Sl H vb (ds b32 B)) (lA : (ds b32 A).length ≤ 2 * Lim) (lB : (ds b32 B).length ≤ 2 * Lim) :
    CW Try.prog cfg0 24 [va, vb] H fun v H' => Keep H H' ∧ v = .bool (dividesB A B) := by
  refine CW_intro 19 (by decide) (by decide) Try.func24 rfl rfl ?_
  have z2 := zero_call hb
  have z1 := zero_call ha
  apply W_seq; intro b1 hb1
  apply W_region
  simp
  show W _ _ b1 _ _; subst hb1
  apply W_seq; intro b1 hb1
  apply W_seq; intro b2 hb2
  apply W_region
  simp [z2]
  show W _ _ b2 _ _; subst hb2
  by_cases hB : B = 0
  · refine W_cond (t := true) (by simp [hB]) ?_
    apply W_seq; intro b2 hb2
    apply W_region
    simp [z1]
    show W _ _ b2 _ _; subst hb2
    apply W_ret
    subst hB
    simp [seqQ, dividesB]
    exact .refl H
  · refine W_cond (t := false) (by simp [hB]) ?_
    apply W_skip
    show W _ _ b1 _ _; subst hb1
    obtain ⟨q, r, H3, c3, k3, oq, orr⟩ := refDiv_call ha hb lA lB (by omega)
    have z3 := zero_call orr.sl
    apply W_seq; intro b1 hb1
    apply W_region
    simp [c3]
    show W _ _ b1 _ _; subst hb1
    apply W_seq; intro b2 hb2
    apply W_region
    simp [z3]
    show W _ _ b2 _ _; subst hb2
    apply W_ret
    simp [dividesB]
    exact k3

def RefBothIs (n0 A B : Nat) (v : Value) (H' : AH) : Prop := (B = 0 ∧ v = .tuple #[.slice none 0 0, .slice none 0 0, .int .i64 30]) ∨
  (0 < B ∧ ∃ q r, v = .tuple #[q, r, .int .i64 0] ∧ Own n0 H' q (ds b32 (A / B)) ∧ Own n0 H' r (ds b32 (A % B)))

def RefSplitIs (A B : Nat) (v : Value) (H' : AH) : Prop := ((A = 0 ∨ B < 2) ∧ v = .tuple #[.int .i64 0, .slice none 0 0, .int .i64 1]) ∨
  (0 < A ∧ 2 ≤ B ∧ ∃ k c u, SplitIs A B k c ∧ v = .tuple #[.int .i64 (k : Int), u, .int .i64 0] ∧ Sl H' u (ds b32 c) ∧ (ds b32 c).length ≤ 2 * Lim)

theorem refBoth_spec (ha : Sl H va (ds b32 A)) (hb : Sl H vb (ds b32 B)) (lA : (ds b32 A).length ≤ 2 * Lim) (lB : (ds b32 B).length ≤ 2 * Lim) :
    CW Try.prog cfg0 20 [va, vb] H fun v H' => Keep H H' ∧ RefBothIs H.n A B v H' := by
  refine CW_intro 19 (by decide) (by decide) Try.func20 rfl rfl ?_
  have z2 := zero_call hb
  apply W_seq; intro b1 hb1
  apply W_region
  simp
  show W _ _ b1 _ _; subst hb1
  apply W_seq; intro b1 hb1
  apply W_seq; intro b2 hb2
  apply W_region
  simp [z2]
  show W _ _ b2 _ _; subst hb2
  by_cases hB : B = 0
  · refine W_cond (t := true) (by simp [hB]) ?_
    apply W_seq; intro b2 hb2
    apply W_region
    simp
    show W _ _ b2 _ _; subst hb2
    apply W_ret
    simp [seqQ]
    exact ⟨.refl H, .inl ⟨hB, rfl⟩⟩
  · refine W_cond (t := false) (by simp [hB]) ?_
    apply W_skip
    show W _ _ b1 _ _; subst hb1
    obtain ⟨q, r, H3, c3, k3, oq, orr⟩ := refDiv_call ha hb lA lB (by omega)
    apply W_seq; intro b1 hb1
    apply W_region
    simp [c3]
    show W _ _ b1 _ _; subst hb1
    apply W_seq; intro b2 hb2
    apply W_region
    simp
    show W _ _ b2 _ _; subst hb2
    apply W_ret
    simp
    exact ⟨k3, .inr ⟨by omega, q, r, rfl, oq, orr⟩⟩

theorem refGcd_spec (ha : Sl H va (ds b32 A)) (hb : Sl H vb (ds b32 B)) (lA : (ds b32 A).length ≤ 2 * Lim) (lB : (ds b32 B).length ≤ 2 * Lim) :
    CW Try.prog cfg0 28 [va, vb] H fun v H' => Keep H H' ∧ Sl H' v (ds b32 (Nat.gcd A B)) := by
  refine CW_intro 19 (by decide) (by decide) Try.func28 rfl rfl ?_
  apply W_seq; intro b1 hb1
  apply W_region
  simp
  show W _ _ b1 _ _; subst hb1
  apply W_seq; intro b1 hb1
  apply W_block
  refine W_loopK (fun m s' => s'.k = 19 ∧ Keep H s'.H ∧ ∃ (a : Nat) (av bv : Value), Nat.gcd a m = Nat.gcd A B ∧ (ds b32 a).length ≤ 2 * Lim ∧ (ds b32 m).length ≤ 2 * Lim ∧ Sl s'.H av (ds b32 a) ∧ Sl s'.H bv (ds b32 m) ∧ s'.tm.get 0 = some av ∧ s'.tm.get 1 = some bv) ?_ B _
    ⟨rfl, .refl H, A, va, vb, rfl, lA, lB, ha, hb, by simp, by simp⟩
  rintro m ⟨k, tm, H3⟩ ⟨hk, k3, a, av, bv, hg, la, lm, oa, ob, t0, t1⟩ Q' hQ'
  simp only at hk k3 oa ob t0 t1
  subst hk
  have z := zero_call ob
  apply W_seq; intro b3 hb3
  apply W_seq; intro b4 hb4
  apply W_region
  simp [t1, z]
  show W _ _ b4 _ _; subst hb4
  by_cases hm : m = 0
  · refine W_cond (t := false) (by simp [hm]) ?_
    apply W_exit
    apply hQ'
    left
    refine ⟨rfl, ?_⟩
    subst hm
    rw [Nat.gcd_zero_right] at hg
    show W _ _ b1 _ _; subst hb1
    apply W_seq; intro b4 hb4
    apply W_region
    simp [t0]
    show W _ _ b4 _ _; subst hb4
    apply W_ret
    simp
    rw [← hg]
    exact ⟨k3, oa⟩
  · refine W_cond (t := true) (by simp [hm]) ?_
    apply W_skip
    show W _ _ b3 _ _; subst hb3
    obtain ⟨q, r, H4, c4, k4, oq, orr⟩ := refDiv_call oa ob la lm (by omega)
    apply W_block
    apply W_seq; intro b3 hb3
    apply W_region
    simp [t0, t1, c4]
    show W _ _ b3 _ _; subst hb3
    apply W_region
    simp [t1]
    apply hQ'
    refine ⟨a % m, Nat.mod_lt _ (by omega), rfl, k3.trans k4, m, bv, r, ?_, lm, Nat.le_trans (ds_len_mono two32 (Nat.mod_le a m)) la, ob.keep k4, orr.sl, by simp, by simp⟩
    rw [← hg, Nat.gcd_comm a m, Nat.gcd_rec m a, Nat.gcd_comm]

theorem blen_lt2 {B : Nat} : blen B < 2 ↔ B < 2 := by
  constructor
  · intro h
    have := blen_lt B
    have h2 : 2 ^ blen B ≤ 2 ^ 1 := Nat.pow_le_pow_right (by decide) (by omega)
    omega
  · intro h
    have : B = 0 ∨ B = 1 := by omega
    rcases this with rfl | rfl <;> decide

set_option maxHeartbeats 1000000 in
theorem refSplit_spec (ha : Sl H va (ds b32 A)) (hb : Sl H vb (ds b32 B)) (lA : (ds b32 A).length ≤ 2 * Lim) (lB : (ds b32 B).length ≤ 2 * Lim) :
    CW Try.prog cfg0 13 [va, vb] H fun v H' => Keep H H' ∧ RefSplitIs A B v H' := by
  refine CW_intro 28 (by decide) (by decide) Try.func13 rfl rfl ?_
  have z1 := zero_call ha
  have c2 := refLen_call hb lB
  have lt2 : intBin .lss .i64 (blen B : Int) 2 = some (.bool (decide (blen B < 2))) := lss_nat (y := 2)
  apply W_seq; intro b1 hb1
  apply W_region
  simp
  show W _ _ b1 _ _; subst hb1
  apply W_seq; intro b1 hb1
  apply W_seq; intro b2 hb2
  apply W_region
  by_cases hA : A = 0
  · rw [decide_eq_true hA] at z1
    simp [z1]
    show W _ _ b2 _ _; subst hb2
    refine W_cond (t := true) (by simp) ?_
    apply W_seq; intro b2 hb2
    apply W_region
    simp
    show W _ _ b2 _ _; subst hb2
    apply W_ret
    simp [seqQ]
    exact ⟨.refl H, .inl ⟨.inl hA, rfl⟩⟩
  · by_cases hB : B < 2
    · have hbl : blen B < 2 := blen_lt2.mpr hB
      simp [z1, hA, c2, lt2, hbl]
      show W _ _ b2 _ _; subst hb2
      refine W_cond (t := true) (by simp) ?_
      apply W_seq; intro b2 hb2
      apply W_region
      simp
      show W _ _ b2 _ _; subst hb2
      apply W_ret
      simp [seqQ]
      exact ⟨.refl H, .inl ⟨.inr hB, rfl⟩⟩
    · have hbl : ¬ blen B < 2 := fun h => hB (blen_lt2.mp h)
      simp [z1, hA, c2, lt2, hbl]
      show W _ _ b2 _ _; subst hb2
      refine W_cond (t := false) (by simp) ?_
      apply W_skip
      show W _ _ b1 _ _; subst hb1
      have hB0 : 0 < B := by omega
      apply W_seq; intro b1 hb1
      apply W_region
      simp
      show W _ _ b1 _ _; subst hb1
      apply W_seq; intro b1 hb1
      apply W_block
      refine W_loopK (fun a s' => s'.k = 28 ∧ Keep H s'.H ∧ ∃ (k : Nat) (av : Value), 0 < a ∧ A = a * B ^ k ∧ (ds b32 a).length ≤ 2 * Lim ∧ Sl s'.H av (ds b32 a) ∧ s'.tm.get 0 = some av ∧ s'.tm.get 1 = some vb ∧ s'.tm.get 7 = some (.int .i64 (k : Int))) ?_ A _
        ⟨rfl, .refl H, 0, va, by omega, by simp, lA, ha, by simp, by simp, by simp⟩
      rintro a ⟨k', tm, H3⟩ ⟨hk, k3, k, av, ha0, hAe, la, oa, t0, t1, t7⟩ Q' hQ'
      simp only at hk k3 oa t0 t1 t7
      subst hk
      obtain ⟨_, H4, c4, k4, rfl⟩ := refDivides_spec oa (hb.keep k3) la lB
      have hkb : k < 64 * (2 * Lim) := by
        have h1 := ds_lt two32 A
        have h2 : b32 ^ (ds b32 A).length ≤ B64 ^ (ds b32 A).length := Nat.pow_le_pow_left (by decide) _
        exact split_bound hAe (by omega) (by omega) (Nat.le_trans (ds_len_le two64 (Nat.lt_of_lt_of_le h1 h2)) lA)
      have hkb : k < 64 * (2 * 2000000000000) := hkb
      apply W_seq; intro b3 hb3
      apply W_seq; intro b4 hb4
      apply W_region
      simp [t0, t1, c4]
      show W _ _ b4 _ _; subst hb4
      by_cases hr : a % B = 0
      · refine W_cond (t := true) (by simp [dividesB, hr]) ?_
        apply W_skip
        show W _ _ b3 _ _; subst hb3
        obtain ⟨q, r, H5, c5, k5, oq, orr⟩ := refDiv_call (oa.keep k4) ((hb.keep k3).keep k4) la lB hB0
        have hdm : a = a / B * B := by
          have := Nat.div_add_mod a B
          rw [Nat.mul_comm] at this
          omega
        have hq0 : 0 < a / B := by
          rcases Nat.eq_zero_or_pos (a / B) with h0 | h0
          · rw [h0, Nat.zero_mul] at hdm; omega
          · exact h0
        apply W_block
        apply W_seq; intro b3 hb3
        apply W_region
        simp [t0, t1, c5]
        show W _ _ b3 _ _; subst hb3
        apply W_region
        simp [t7, add1_i64 (x := k) (by omega)]
        apply hQ'
        refine ⟨a / B, Nat.div_lt_self ha0 (by omega), rfl, (k3.trans k4).trans k5, k + 1, q, hq0, ?_, Nat.le_trans (ds_len_mono two32 (Nat.div_le_self a B)) la, oq.sl, by simp, by simp [t1], by simp⟩
        rw [Nat.pow_succ, Nat.mul_comm (B ^ k) B, ← Nat.mul_assoc, ← hdm]
        exact hAe
      · refine W_cond (t := false) (by simp [dividesB, hr]) ?_
        apply W_exit
        apply hQ'
        left
        refine ⟨rfl, ?_⟩
        show W _ _ b1 _ _; subst hb1
        apply W_seq; intro b4 hb4
        apply W_region
        simp [t0, t7]
        show W _ _ b4 _ _; subst hb4
        apply W_ret
        simp
        exact ⟨k3.trans k4, .inr ⟨by omega, by omega, k, a, av, ⟨hAe, hr⟩, rfl, oa.keep k4, la⟩⟩
end

/-! ### the law's own -/
/-- When an answer is the number, or the error. -/
def SameIs (xs : List Nat) (e : Nat) (N code : Nat) : Prop :=
  (code ≠ 0 ∧ e = code ∧ xs = []) ∨ (code = 0 ∧ 67108864 < blen N ∧ e = 3 ∧ xs = []) ∨ (code = 0 ∧ blen N ≤ 67108864 ∧ e = 0 ∧ xs = ds B64 N)

theorem same_spec {H : AH} {v w : Value} {xs : List Nat} {N e code : Nat} (hv : Sl H v xs) (hw : Sl H w (ds b32 N)) (hl : (ds b32 N).length ≤ 2 * Lim) (hs : SameIs xs e N code) (he : e < 1000) (hc : code < 1000) :
    CW Try.prog cfg0 16 [v, .int .i64 (e : Int), w, .int .i64 (code : Int)] H fun v' H' => Keep H H' ∧ v' = .bool true := by
  refine CW_intro 33 (by decide) (by decide) Try.func16 rfl rfl ?_
  have c2 := refLen_call hw hl
  have l1 := hv.len ltNat
  apply W_seq; intro b1 hb1
  apply W_region
  simp
  show W _ _ b1 _ _; subst hb1
  obtain ⟨c', hc'⟩ : ∃ c', c' = if code = 0 ∧ 67108864 < blen N then 3 else code := ⟨_, rfl⟩
  refine W_thenK (fun s' => s'.k = 33 ∧ s'.H = H ∧ s'.tm.get 0 = some v ∧ s'.tm.get 1 = some (.int .i64 (e : Int)) ∧ s'.tm.get 2 = some w ∧ s'.tm.get 3 = some (.int .i64 (c' : Int))) ?_ ?_
  · intro Q' hQ'
    apply W_seq; intro b1 hb1
    apply W_region
    by_cases h0 : code = 0
    · subst h0
      have f1 : intBin .eql .i64 0 0 = some (.bool true) := rfl
      by_cases hb : 67108864 < blen N
      · simp [f1, c2, gtrMax, hb]
        show W _ _ b1 _ _; subst hb1
        refine W_cond (t := true) (by simp) ?_
        apply W_region
        simp
        apply hQ'
        rw [if_pos ⟨rfl, hb⟩] at hc'
        subst hc'
        exact ⟨rfl, rfl, by simp, by simp, by simp, by simp⟩
      · simp [f1, c2, gtrMax, hb]
        show W _ _ b1 _ _; subst hb1
        refine W_cond (t := false) (by simp) ?_
        apply W_skip
        apply hQ'
        rw [if_neg (fun h => hb h.2)] at hc'
        subst hc'
        exact ⟨rfl, rfl, by simp, by simp, by simp, by simp⟩
    · have f1 : intBin .eql .i64 (code : Int) 0 = some (.bool false) := by rw [eq0_nat, decide_eq_false]; exact h0
      simp [f1]
      show W _ _ b1 _ _; subst hb1
      refine W_cond (t := false) (by simp) ?_
      apply W_skip
      apply hQ'
      rw [if_neg (fun h => h0 h.1)] at hc'
      subst hc'
      exact ⟨rfl, rfl, by simp, by simp, by simp, by simp⟩
  rintro ⟨k, tm, H'⟩ ⟨hk, hH, t0, t1, t2, t3⟩
  simp only at hk hH t0 t1 t2 t3
  subst hk; subst hH
  apply W_seq; intro b1 hb1
  apply W_seq; intro b2 hb2
  apply W_region
  have f2 : intBin .neq .i64 (c' : Int) 0 = some (.bool (decide (c' ≠ 0))) := neq_nat (y := 0)
  simp [t3, f2]
  show W _ _ b2 _ _; subst hb2
  by_cases h0 : c' = 0
  · refine W_cond (t := false) (by simp [h0]) ?_
    apply W_skip
    show W _ _ b1 _ _; subst hb1
    have hok : code = 0 ∧ blen N ≤ 67108864 := by
      by_cases h1 : code = 0 ∧ 67108864 < blen N
      · rw [if_pos h1] at hc'; omega
      · rw [if_neg h1] at hc'; omega
    obtain ⟨he0, hxs⟩ : e = 0 ∧ xs = ds B64 N := by
      rcases hs with ⟨a, _⟩ | ⟨_, a, _⟩ | ⟨_, _, a, b⟩
      · exact absurd hok.1 a
      · omega
      · exact ⟨a, b⟩
    have f3 : intBin .eql .i64 (e : Int) 0 = some (.bool true) := by rw [eq0_nat, decide_eq_true]; exact he0
    obtain ⟨_, H2, c3, k3, e3⟩ := is_spec hw hv (ds_dig two32 N) (Nat.le_trans hl (by decide))
    subst e3
    rw [pairs_ds, hxs, decide_eq_true rfl] at c3
    apply W_seq; intro b2 hb2
    apply W_region
    simp [t0, t1, t2, f3, c3]
    show W _ _ b2 _ _; subst hb2
    apply W_ret
    simp
    exact k3
  · refine W_cond (t := true) (by simp [h0]) ?_
    obtain ⟨he0, hxs⟩ : e = c' ∧ xs = [] := by
      rcases hs with ⟨a, b, c⟩ | ⟨a, b, c, d⟩ | ⟨a, b, c, d⟩
      · rw [if_neg (fun h => a h.1)] at hc'; exact ⟨by omega, c⟩
      · rw [if_pos ⟨a, b⟩] at hc'; exact ⟨by omega, d⟩
      · rw [if_neg (by omega)] at hc'; omega
    subst hxs
    have f3 : intBin .eql .i64 (e : Int) (c' : Int) = some (.bool true) := by rw [eql_nat, decide_eq_true]; exact he0
    apply W_seq; intro b2 hb2
    apply W_region
    simp [t0, t1, t3, f3, l1]
    have f4 : intBin .eql .i64 0 0 = some (.bool true) := rfl
    simp [f4]
    show W _ _ b2 _ _; subst hb2
    apply W_ret
    simp [seqQ]
    exact .refl _
end
end Go.Proofs.Ytldapilhmmbjhaa
