/-
  div: Both, Quo, Rest, Divides, Gcd, Split.
-/
import Derived.Test.YtldapilhmmbjhaaOg
namespace Go.Proofs.Ytldapilhmmbjhaa
open Go Ev
set_option linter.unusedVariables false
set_option linter.unusedSimpArgs false
noncomputable section

/-- The greatest list that the specifications below speak of. -/
abbrev Lim : Nat := 2000000000000

theorem ds64_len {xs : List Nat} (dx : Dig B64 xs) : (ds B64 (dv B64 xs)).length ≤ xs.length := ds_len_le two64 (dv_lt dx)
theorem ds_len_mono {B : Nat} (hB : 2 ≤ B) {n m : Nat} (h : n ≤ m) : (ds B n).length ≤ (ds B m).length := ds_len_le hB (Nat.lt_of_le_of_lt h (ds_lt hB m))
theorem ds_len_pos {B n : Nat} (hB : 2 ≤ B) : 0 < (ds B n).length ↔ 0 < n := by
  constructor
  · intro h
    rcases Nat.eq_zero_or_pos n with h0 | h0
    · subst h0; rw [ds_zero] at h; cases h
    · exact h0
  · intro h
    rw [ds_pos hB (by omega)]; simp
theorem ds_len_zero {B n : Nat} (hB : 2 ≤ B) : (ds B n).length = 0 ↔ n = 0 := by
  have := ds_len_pos (n := n) hB
  omega

theorem norm_two {H : AH} {va vb : Value} {xs ys : List Nat} (ha : Sl H va xs) (hb : Sl H vb ys) (dx : Dig B64 xs) (dy : Dig B64 ys) (lx : xs.length ≤ Lim) (ly : ys.length ≤ Lim) :
    ∃ v1 v2 H1 H2, callI Try.prog cfg0 37 [va] H = some (v1, H1) ∧ callI Try.prog cfg0 37 [vb] H1 = some (v2, H2) ∧ Keep H H2 ∧ Own H.n H2 v1 (ds B64 (dv B64 xs)) ∧ Own H.n H2 v2 (ds B64 (dv B64 ys)) ∧ Apart v1 v2 := by
  obtain ⟨v1, H1, h1, k1, o1⟩ := norm_spec ha (Nat.le_trans lx (by decide))
  obtain ⟨v2, H2, h2, k2, o2⟩ := norm_spec (hb.keep k1) (Nat.le_trans ly (by decide))
  rw [trimL_ds two64 dx] at o1
  rw [trimL_ds two64 dy] at o2
  exact ⟨v1, v2, H1, H2, h1, h2, k1.trans k2, o1.mono (Nat.le_refl _) k2, o2.mono k1.n (.refl _), apart_own o1 o2 (Nat.le_refl _)⟩

/-- divide, of normal ones, as an equation. -/
theorem divide_call {n0 : Nat} {H : AH} {va vb : Value} {A B : Nat} (ha : Own n0 H va (ds B64 A)) (hb : Sl H vb (ds B64 B)) (hn0 : n0 ≤ H.n) (lA : (ds B64 A).length ≤ Lim) (lB : (ds B64 B).length ≤ Lim) (hB : 0 < B) :
    ∃ q r H', callI Try.prog cfg0 38 [va, vb] H = some (.tuple #[q, r], H') ∧ Keep H H' ∧ Own H.n H' q (ds B64 (A / B)) ∧ Own n0 H' r (ds B64 (A % B)) ∧ Apart q r := by
  obtain ⟨v, H', hc, k, q, r, e, o1, o2, ap⟩ := divide_spec ha hb hn0 (ds_dig two64 A) (ds_dig two64 B) (ds_trim two64 A) (ds_trim two64 B) (Nat.le_trans lA (by decide)) (Nat.le_trans lB (by decide)) ((ds_len_pos two64).mpr hB)
  subst e
  rw [dv_ds two64, dv_ds two64] at o1 o2
  exact ⟨q, r, H', hc, k, o1, o2, ap⟩

theorem length_call {H : AH} {v : Value} {A : Nat} (h : Sl H v (ds B64 A)) (lA : (ds B64 A).length ≤ Lim) : callI Try.prog cfg0 31 [v] H = some (.int .i64 (blen A : Int), H) := by
  obtain ⟨_, _, hc, rfl, rfl⟩ := length_spec h (ds_dig two64 A) (Nat.le_trans lA (by decide))
  rw [dv_ds two64] at hc
  exact hc

theorem gtrMax {x : Nat} : intBin .gtr .i64 (x : Int) 67108864 = some (.bool (decide (67108864 < x))) := gtr_nat (y := 67108864)

attribute [-simp] Int.natCast_add Int.natCast_mul Int.natCast_ediv Int.natCast_emod Int.natCast_pow
attribute [local simp] strip stripL LW' LR gW evOp oMove oAssign oPick oBinOp oUnOp oConvert oExtract oIndexAddr oIndex oLoad oStore oSlice oMakeSlice oCall oBuildSlice opd opds optOpd plain plain1 Tr.get_set tmOf builtinV binV isShift sameKind undef resultV resOne packV ltNat ltNum ltLst calleeV parts lss_nat unV DW grdOf heapOp LX isStore

section
variable {H : AH} {va vb : Value} {xs ys : List Nat}

/-- What Both answers. -/
def BothIs (n0 : Nat) (A B : Nat) (v : Value) (H' : AH) : Prop :=
  (B = 0 ∧ v = .tuple #[.slice none 0 0, .slice none 0 0, .int .i64 30]) ∨
  (0 < B ∧ (67108864 < blen (A / B) ∨ 67108864 < blen (A % B)) ∧ v = .tuple #[.slice none 0 0, .slice none 0 0, .int .i64 3]) ∨
  (0 < B ∧ blen (A / B) ≤ 67108864 ∧ blen (A % B) ≤ 67108864 ∧ ∃ q r, v = .tuple #[q, r, .int .i64 0] ∧ Own n0 H' q (ds B64 (A / B)) ∧ Own n0 H' r (ds B64 (A % B)) ∧ Apart q r)

theorem both_spec (ha : Sl H va xs) (hb : Sl H vb ys) (dx : Dig B64 xs) (dy : Dig B64 ys) (lx : xs.length ≤ Lim) (ly : ys.length ≤ Lim) :
    CW Try.prog cfg0 19 [va, vb] H fun v H' => Keep H H' ∧ BothIs H.n (dv B64 xs) (dv B64 ys) v H' := by
  refine CW_intro 32 (by decide) (by decide) Try.func19 rfl rfl ?_
  obtain ⟨v1, v2, H1, H2, c1, c2, k2, o1, o2, ap⟩ := norm_two ha hb dx dy lx ly
  have lA := Nat.le_trans (ds64_len dx) lx
  have lB := Nat.le_trans (ds64_len dy) ly
  generalize dv B64 xs = A at *
  generalize dv B64 ys = B at *
  have l2 := o2.sl.len ltNat
  apply W_seq; intro b1 hb1
  apply W_region
  simp
  show W _ _ b1 _ _; subst hb1
  apply W_seq; intro b1 hb1
  apply W_region
  simp [c1, c2]
  show W _ _ b1 _ _; subst hb1
  apply W_seq; intro b1 hb1
  apply W_seq; intro b2 hb2
  apply W_region
  simp [l2, eq0_nat, ds_len_zero two64]
  show W _ _ b2 _ _; subst hb2
  by_cases hB : B = 0
  · refine W_cond (t := true) (by simp [hB]) ?_
    apply W_seq; intro b2 hb2
    apply W_region
    simp
    show W _ _ b2 _ _; subst hb2
    apply W_ret
    simp [seqQ]
    exact ⟨k2, .inl ⟨hB, rfl⟩⟩
  · refine W_cond (t := false) (by simp [hB]) ?_
    apply W_skip
    show W _ _ b1 _ _; subst hb1
    have hB0 : 0 < B := by omega
    obtain ⟨q, r, H3, c3, k3, oq, orr, apq⟩ := divide_call o1 o2.sl k2.n lA lB hB0
    have lq : (ds B64 (A / B)).length ≤ Lim := Nat.le_trans (ds_len_mono two64 (Nat.div_le_self A B)) lA
    have lr : (ds B64 (A % B)).length ≤ Lim := Nat.le_trans (ds_len_mono two64 (Nat.mod_le A B)) lA
    have c4 := length_call oq.sl lq
    have c5 := length_call orr.sl lr
    apply W_seq; intro b1 hb1
    apply W_region
    simp [c3]
    show W _ _ b1 _ _; subst hb1
    apply W_seq; intro b1 hb1
    apply W_seq; intro b2 hb2
    apply W_region
    by_cases h1 : 67108864 < blen (A / B)
    · simp [c4, gtrMax, h1]
      show W _ _ b2 _ _; subst hb2
      refine W_cond (t := true) (by simp) ?_
      apply W_seq; intro b2 hb2
      apply W_region
      simp
      show W _ _ b2 _ _; subst hb2
      apply W_ret
      simp [seqQ]
      exact ⟨k2.trans k3, .inr (.inl ⟨hB0, .inl h1, rfl⟩)⟩
    · by_cases h2 : 67108864 < blen (A % B)
      · simp [c4, c5, gtrMax, h1, h2]
        show W _ _ b2 _ _; subst hb2
        refine W_cond (t := true) (by simp) ?_
        apply W_seq; intro b2 hb2
        apply W_region
        simp
        show W _ _ b2 _ _; subst hb2
        apply W_ret
        simp [seqQ]
        exact ⟨k2.trans k3, .inr (.inl ⟨hB0, .inr h2, rfl⟩)⟩
      · simp [c4, c5, gtrMax, h1, h2]
        show W _ _ b2 _ _; subst hb2
        refine W_cond (t := false) (by simp) ?_
        apply W_skip
        show W _ _ b1 _ _; subst hb1
        apply W_seq; intro b2 hb2
        apply W_region
        simp
        show W _ _ b2 _ _; subst hb2
        apply W_ret
        simp
        exact ⟨k2.trans k3, .inr (.inr ⟨hB0, by omega, by omega, q, r, rfl, oq.mono k2.n (.refl _), orr, apq⟩)⟩

/-- What Quo and Rest answer. -/
def OneIs (n0 : Nat) (B Z : Nat) (v : Value) (H' : AH) : Prop :=
  (B = 0 ∧ v = .tuple #[.slice none 0 0, .int .i64 30]) ∨
  (0 < B ∧ 67108864 < blen Z ∧ v = .tuple #[.slice none 0 0, .int .i64 3]) ∨
  (0 < B ∧ blen Z ≤ 67108864 ∧ ∃ q, v = .tuple #[q, .int .i64 0] ∧ Own n0 H' q (ds B64 Z))

theorem quo_spec (ha : Sl H va xs) (hb : Sl H vb ys) (dx : Dig B64 xs) (dy : Dig B64 ys) (lx : xs.length ≤ Lim) (ly : ys.length ≤ Lim) :
    CW Try.prog cfg0 21 [va, vb] H fun v H' => Keep H H' ∧ OneIs H.n (dv B64 ys) (dv B64 xs / dv B64 ys) v H' := by
  refine CW_intro 25 (by decide) (by decide) Try.func21 rfl rfl ?_
  obtain ⟨v1, v2, H1, H2, c1, c2, k2, o1, o2, ap⟩ := norm_two ha hb dx dy lx ly
  have lA := Nat.le_trans (ds64_len dx) lx
  have lB := Nat.le_trans (ds64_len dy) ly
  generalize dv B64 xs = A at *
  generalize dv B64 ys = B at *
  have l2 := o2.sl.len ltNat
  apply W_seq; intro b1 hb1
  apply W_region
  simp
  show W _ _ b1 _ _; subst hb1
  apply W_seq; intro b1 hb1
  apply W_region
  simp [c1, c2]
  show W _ _ b1 _ _; subst hb1
  apply W_seq; intro b1 hb1
  apply W_seq; intro b2 hb2
  apply W_region
  simp [l2, eq0_nat, ds_len_zero two64]
  show W _ _ b2 _ _; subst hb2
  by_cases hB : B = 0
  · refine W_cond (t := true) (by simp [hB]) ?_
    apply W_seq; intro b2 hb2
    apply W_region
    simp
    show W _ _ b2 _ _; subst hb2
    apply W_ret
    simp [seqQ]
    exact ⟨k2, .inl ⟨hB, rfl⟩⟩
  · refine W_cond (t := false) (by simp [hB]) ?_
    apply W_skip
    show W _ _ b1 _ _; subst hb1
    have hB0 : 0 < B := by omega
    obtain ⟨q, r, H3, c3, k3, oq, orr, apq⟩ := divide_call o1 o2.sl k2.n lA lB hB0
    have lq : (ds B64 (A / B)).length ≤ Lim := Nat.le_trans (ds_len_mono two64 (Nat.div_le_self A B)) lA
    have c4 := length_call oq.sl lq
    apply W_seq; intro b1 hb1
    apply W_region
    simp [c3]
    show W _ _ b1 _ _; subst hb1
    apply W_seq; intro b1 hb1
    apply W_seq; intro b2 hb2
    apply W_region
    simp [c4, gtrMax]
    show W _ _ b2 _ _; subst hb2
    by_cases h1 : 67108864 < blen (A / B)
    · refine W_cond (t := true) (by simp [h1]) ?_
      apply W_seq; intro b2 hb2
      apply W_region
      simp
      show W _ _ b2 _ _; subst hb2
      apply W_ret
      simp [seqQ]
      exact ⟨k2.trans k3, .inr (.inl ⟨hB0, h1, rfl⟩)⟩
    · refine W_cond (t := false) (by simp [h1]) ?_
      apply W_skip
      show W _ _ b1 _ _; subst hb1
      apply W_seq; intro b2 hb2
      apply W_region
      simp
      show W _ _ b2 _ _; subst hb2
      apply W_ret
      simp
      exact ⟨k2.trans k3, .inr (.inr ⟨hB0, by omega, q, rfl, oq.mono k2.n (.refl _)⟩)⟩

theorem rest_spec (ha : Sl H va xs) (hb : Sl H vb ys) (dx : Dig B64 xs) (dy : Dig B64 ys) (lx : xs.length ≤ Lim) (ly : ys.length ≤ Lim) :
    CW Try.prog cfg0 22 [va, vb] H fun v H' => Keep H H' ∧ OneIs H.n (dv B64 ys) (dv B64 xs % dv B64 ys) v H' := by
  refine CW_intro 25 (by decide) (by decide) Try.func22 rfl rfl ?_
  obtain ⟨v1, v2, H1, H2, c1, c2, k2, o1, o2, ap⟩ := norm_two ha hb dx dy lx ly
  have lA := Nat.le_trans (ds64_len dx) lx
  have lB := Nat.le_trans (ds64_len dy) ly
  generalize dv B64 xs = A at *
  generalize dv B64 ys = B at *
  have l2 := o2.sl.len ltNat
  apply W_seq; intro b1 hb1
  apply W_region
  simp
  show W _ _ b1 _ _; subst hb1
  apply W_seq; intro b1 hb1
  apply W_region
  simp [c1, c2]
  show W _ _ b1 _ _; subst hb1
  apply W_seq; intro b1 hb1
  apply W_seq; intro b2 hb2
  apply W_region
  simp [l2, eq0_nat, ds_len_zero two64]
  show W _ _ b2 _ _; subst hb2
  by_cases hB : B = 0
  · refine W_cond (t := true) (by simp [hB]) ?_
    apply W_seq; intro b2 hb2
    apply W_region
    simp
    show W _ _ b2 _ _; subst hb2
    apply W_ret
    simp [seqQ]
    exact ⟨k2, .inl ⟨hB, rfl⟩⟩
  · refine W_cond (t := false) (by simp [hB]) ?_
    apply W_skip
    show W _ _ b1 _ _; subst hb1
    have hB0 : 0 < B := by omega
    obtain ⟨q, r, H3, c3, k3, oq, orr, apq⟩ := divide_call o1 o2.sl k2.n lA lB hB0
    have lr : (ds B64 (A % B)).length ≤ Lim := Nat.le_trans (ds_len_mono two64 (Nat.mod_le A B)) lA
    have c4 := length_call orr.sl lr
    apply W_seq; intro b1 hb1
    apply W_region
    simp [c3]
    show W _ _ b1 _ _; subst hb1
    apply W_seq; intro b1 hb1
    apply W_seq; intro b2 hb2
    apply W_region
    simp [c4, gtrMax]
    show W _ _ b2 _ _; subst hb2
    by_cases h1 : 67108864 < blen (A % B)
    · refine W_cond (t := true) (by simp [h1]) ?_
      apply W_seq; intro b2 hb2
      apply W_region
      simp
      show W _ _ b2 _ _; subst hb2
      apply W_ret
      simp [seqQ]
      exact ⟨k2.trans k3, .inr (.inl ⟨hB0, h1, rfl⟩)⟩
    · refine W_cond (t := false) (by simp [h1]) ?_
      apply W_skip
      show W _ _ b1 _ _; subst hb1
      apply W_seq; intro b2 hb2
      apply W_region
      simp
      show W _ _ b2 _ _; subst hb2
      apply W_ret
      simp
      exact ⟨k2.trans k3, .inr (.inr ⟨hB0, by omega, r, rfl, orr⟩)⟩

/-- Does B divide A? (0 divides 0 alone.) -/
def dividesB (A B : Nat) : Bool := decide (A % B = 0)

theorem divides_spec (ha : Sl H va xs) (hb : Sl H vb ys) (dx : Dig B64 xs) (dy : Dig B64 ys) (lx : xs.length ≤ Lim) (ly : ys.length ≤ Lim) :
    CW Try.prog cfg0 23 [va, vb] H fun v H' => Keep H H' ∧ v = .bool (dividesB (dv B64 xs) (dv B64 ys)) := by
  refine CW_intro 26 (by decide) (by decide) Try.func23 rfl rfl ?_
  obtain ⟨v1, v2, H1, H2, c1, c2, k2, o1, o2, ap⟩ := norm_two ha hb dx dy lx ly
  have lA := Nat.le_trans (ds64_len dx) lx
  have lB := Nat.le_trans (ds64_len dy) ly
  generalize dv B64 xs = A at *
  generalize dv B64 ys = B at *
  have l1 := o1.sl.len ltNat
  have l2 := o2.sl.len ltNat
  apply W_seq; intro b1 hb1
  apply W_region
  simp
  show W _ _ b1 _ _; subst hb1
  apply W_seq; intro b1 hb1
  apply W_region
  simp [c1, c2]
  show W _ _ b1 _ _; subst hb1
  apply W_seq; intro b1 hb1
  apply W_seq; intro b2 hb2
  apply W_region
  simp [l2, eq0_nat, ds_len_zero two64]
  show W _ _ b2 _ _; subst hb2
  by_cases hB : B = 0
  · refine W_cond (t := true) (by simp [hB]) ?_
    apply W_seq; intro b2 hb2
    apply W_region
    simp [l1, eq0_nat, ds_len_zero two64]
    show W _ _ b2 _ _; subst hb2
    apply W_ret
    subst hB
    simp [seqQ, dividesB]
    exact k2
  · refine W_cond (t := false) (by simp [hB]) ?_
    apply W_skip
    show W _ _ b1 _ _; subst hb1
    have hB0 : 0 < B := by omega
    obtain ⟨q, r, H3, c3, k3, oq, orr, apq⟩ := divide_call o1 o2.sl k2.n lA lB hB0
    have l3 := orr.sl.len ltNat
    apply W_seq; intro b1 hb1
    apply W_region
    simp [c3]
    show W _ _ b1 _ _; subst hb1
    apply W_seq; intro b2 hb2
    apply W_region
    simp [l3, eq0_nat, ds_len_zero two64]
    show W _ _ b2 _ _; subst hb2
    apply W_ret
    simp [dividesB]
    exact k2.trans k3

theorem gcd_spec (ha : Sl H va xs) (hb : Sl H vb ys) (dx : Dig B64 xs) (dy : Dig B64 ys) (lx : xs.length ≤ Lim) (ly : ys.length ≤ Lim) :
    CW Try.prog cfg0 26 [va, vb] H fun v H' => Keep H H' ∧ Own H.n H' v (ds B64 (Nat.gcd (dv B64 xs) (dv B64 ys))) := by
  refine CW_intro 23 (by decide) (by decide) Try.func26 rfl rfl ?_
  obtain ⟨v1, v2, H1, H2, c1, c2, k2, o1, o2, ap⟩ := norm_two ha hb dx dy lx ly
  have lA := Nat.le_trans (ds64_len dx) lx
  have lB := Nat.le_trans (ds64_len dy) ly
  generalize dv B64 xs = A at *
  generalize dv B64 ys = B at *
  apply W_seq; intro b1 hb1
  apply W_region
  simp
  show W _ _ b1 _ _; subst hb1
  apply W_seq; intro b1 hb1
  apply W_region
  simp [c1, c2]
  show W _ _ b1 _ _; subst hb1
  apply W_seq; intro b1 hb1
  apply W_block
  refine W_loopK (fun m s' => s'.k = 23 ∧ Keep H s'.H ∧ ∃ (a : Nat) (av bv : Value), Nat.gcd a m = Nat.gcd A B ∧ (ds B64 a).length ≤ Lim ∧ (ds B64 m).length ≤ Lim ∧ Own H.n s'.H av (ds B64 a) ∧ Own H.n s'.H bv (ds B64 m) ∧ s'.tm.get 0 = some av ∧ s'.tm.get 1 = some bv) ?_ B _
    ⟨rfl, k2, A, v1, v2, rfl, lA, lB, o1, o2, by simp, by simp⟩
  rintro m ⟨k, tm, H3⟩ ⟨hk, k3, a, av, bv, hg, la, lm, oa, ob, t0, t1⟩ Q' hQ'
  simp only at hk k3 oa ob t0 t1
  subst hk
  have lb := ob.sl.len ltNat
  apply W_seq; intro b3 hb3
  apply W_seq; intro b4 hb4
  apply W_region
  simp [t1, lb, gtr0, ds_len_pos two64]
  show W _ _ b4 _ _; subst hb4
  by_cases hm : 0 < m
  · refine W_cond (t := true) (by simp [hm]) ?_
    apply W_skip
    show W _ _ b3 _ _; subst hb3
    obtain ⟨q, r, H4, c4, k4, oq, orr, apq⟩ := divide_call oa ob.sl k3.n la lm hm
    apply W_block
    apply W_seq; intro b3 hb3
    apply W_region
    simp [t0, t1, c4]
    show W _ _ b3 _ _; subst hb3
    apply W_region
    simp [t1]
    apply hQ'
    refine ⟨a % m, Nat.mod_lt _ hm, rfl, k3.trans k4, m, bv, r, ?_, lm, Nat.le_trans (ds_len_mono two64 (Nat.mod_le a m)) la, ob.mono (Nat.le_refl _) k4, orr, by simp, by simp⟩
    show Nat.gcd m (a % m) = _
    rw [← hg, Nat.gcd_comm a m, Nat.gcd_rec m a, Nat.gcd_comm]
  · refine W_cond (t := false) (by simp [hm]) ?_
    apply W_exit
    apply hQ'
    left
    refine ⟨rfl, ?_⟩
    obtain rfl : m = 0 := by omega
    rw [Nat.gcd_zero_right] at hg
    show W _ _ b1 _ _; subst hb1
    apply W_seq; intro b4 hb4
    apply W_region
    simp [t0]
    show W _ _ b4 _ _; subst hb4
    apply W_ret
    simp
    rw [← hg]
    exact ⟨k3, oa⟩

/-- How often B is in A, and what is left. -/
def SplitIs (A B k c : Nat) : Prop := A = c * B ^ k ∧ c % B ≠ 0

theorem SplitIs.uniq {A B k c k' c' : Nat} (hB : 1 < B) (h : SplitIs A B k c) (h' : SplitIs A B k' c') : k = k' ∧ c = c' := by
  have aux : ∀ {k c k' c' : Nat}, SplitIs A B k c → SplitIs A B k' c' → ¬ k < k' := fun {k c k' c'} h h' hlt => by
    obtain ⟨d, rfl⟩ : ∃ d, k' = k + (d + 1) := ⟨k' - k - 1, by omega⟩
    have e : c * B ^ k = (c' * B ^ (d + 1)) * B ^ k := by rw [← h.1, h'.1, Nat.pow_add, Nat.mul_assoc, Nat.mul_comm (B ^ k)]
    have e2 := Nat.eq_of_mul_eq_mul_right (Nat.pow_pos (by omega)) e
    apply h.2
    rw [e2, Nat.pow_succ, ← Nat.mul_assoc, Nat.mul_mod_left]
  have hk : k = k' := by
    have := aux h h'
    have := aux h' h
    omega
  subst hk
  refine ⟨rfl, ?_⟩
  have := h.1.symm.trans h'.1
  exact Nat.eq_of_mul_eq_mul_right (Nat.pow_pos (by omega)) this

/-- What Split answers. -/
def SplitAns (n0 : Nat) (A B : Nat) (v : Value) (H' : AH) : Prop :=
  ((A = 0 ∨ B < 2) ∧ v = .tuple #[.int .i64 0, .slice none 0 0, .int .i64 1]) ∨
  (0 < A ∧ 2 ≤ B ∧ ∃ k c, SplitIs A B k c ∧ ((67108864 < blen c ∧ v = .tuple #[.int .i64 0, .slice none 0 0, .int .i64 3]) ∨ (blen c ≤ 67108864 ∧ ∃ u, v = .tuple #[.int .i64 (k : Int), u, .int .i64 0] ∧ Own n0 H' u (ds B64 c))))

theorem split_bound {A B k c : Nat} (h : A = c * B ^ k) (hA : 0 < A) (hB : 2 ≤ B) {L : Nat} (hL : (ds B64 A).length ≤ L) : k < 64 * L := by
  have h1 := ds_lt two64 A
  have h2 : B64 ^ (ds B64 A).length ≤ B64 ^ L := Nat.pow_le_pow_right (by decide) hL
  have h3 : 2 ^ k ≤ A := by
    have hc : 0 < c := by
      rcases Nat.eq_zero_or_pos c with h0 | h0
      · subst h0; rw [Nat.zero_mul] at h; omega
      · exact h0
    have a : 2 ^ k ≤ B ^ k := Nat.pow_le_pow_left hB k
    have b : 1 * B ^ k ≤ c * B ^ k := Nat.mul_le_mul_right _ hc
    omega
  have h4 : B64 ^ L = 2 ^ (64 * L) := by rw [Nat.pow_mul]
  have h5 : 2 ^ k < 2 ^ (64 * L) := by rw [← h4]; exact Nat.lt_of_le_of_lt h3 (Nat.lt_of_lt_of_le h1 h2)
  exact (Nat.pow_lt_pow_iff_right (by decide)).mp h5

theorem ds_one {B n : Nat} (hB : 2 ≤ B) (h : (ds B n).length = 1) : ds B n = [n] ∧ n < B := by
  have hn : n ≠ 0 := by rintro rfl; rw [ds_zero] at h; cases h
  have hlt := ds_lt hB n
  rw [h, Nat.pow_one] at hlt
  rw [ds_pos hB hn, Nat.mod_eq_of_lt hlt, Nat.div_eq_of_lt hlt, ds_zero]
  exact ⟨rfl, hlt⟩

set_option maxHeartbeats 1000000 in
theorem split_spec (ha : Sl H va xs) (hb : Sl H vb ys) (dx : Dig B64 xs) (dy : Dig B64 ys) (lx : xs.length ≤ Lim) (ly : ys.length ≤ Lim) :
    CW Try.prog cfg0 12 [va, vb] H fun v H' => Keep H H' ∧ SplitAns H.n (dv B64 xs) (dv B64 ys) v H' := by
  refine CW_intro 50 (by decide) (by decide) Try.func12 rfl rfl ?_
  obtain ⟨v1, v2, H1, H2, c1, c2, k2, o1, o2, ap⟩ := norm_two ha hb dx dy lx ly
  have lA := Nat.le_trans (ds64_len dx) lx
  have lB := Nat.le_trans (ds64_len dy) ly
  generalize dv B64 xs = A at *
  generalize dv B64 ys = B at *
  have l1 := o1.sl.len ltNat
  have l2 := o2.sl.len ltNat
  have e1 : ∀ x : Nat, intBin .eql .i64 (x : Int) 1 = some (.bool (decide (x = 1))) := fun x => eql_nat (y := 1)
  have e1u : ∀ x : Nat, intBin .eql .u64 (x : Int) 1 = some (.bool (decide (x = 1))) := fun x => eql_nat (y := 1)
  apply W_seq; intro b1 hb1
  apply W_region
  simp
  show W _ _ b1 _ _; subst hb1
  apply W_seq; intro b1 hb1
  apply W_region
  simp [c1, c2]
  show W _ _ b1 _ _; subst hb1
  apply W_seq; intro b1 hb1
  apply W_seq; intro b2 hb2
  apply W_region
  have bad : ∀ tm : Tr Value, (A = 0 ∨ B < 2) → tm.get 32 = some (.bool true) → W Try.prog cfg0 b2 ⟨50, tm, H2⟩ (seqQ Try.prog cfg0 b1 fun ex s => (ex = .norm ∨ ex = .ret) ∧ ∃ vs, resultV Try.prog s Try.f12.results.toList = some vs ∧ Keep H s.H ∧ SplitAns H.n A B (packV vs) s.H) := fun tm h0 ht => by
    subst hb2
    refine W_cond (t := true) (by simp [ht]) ?_
    apply W_seq; intro b2 hb2
    apply W_region
    simp
    show W _ _ b2 _ _; subst hb2
    apply W_ret
    simp [seqQ, Try.f12]
    exact ⟨k2, .inl ⟨h0, rfl⟩⟩
  have good : ∀ tm : Tr Value, 0 < A → 2 ≤ B → tm.get 32 = some (.bool false) → tm.get 0 = some v1 → tm.get 1 = some v2 → W Try.prog cfg0 b2 ⟨50, tm, H2⟩ (seqQ Try.prog cfg0 b1 fun ex s => (ex = .norm ∨ ex = .ret) ∧ ∃ vs, resultV Try.prog s Try.f12.results.toList = some vs ∧ Keep H s.H ∧ SplitAns H.n A B (packV vs) s.H) := fun tm hA hB ht t0 t1 => by
    subst hb2
    refine W_cond (t := false) (by simp [ht]) ?_
    apply W_skip
    show W _ _ b1 _ _; subst hb1
    have hB0 : 0 < B := by omega
    apply W_seq; intro b1 hb1
    apply W_region
    simp
    show W _ _ b1 _ _; subst hb1
    apply W_seq; intro b1 hb1
    apply W_block
    refine W_loopK (fun a s' => s'.k = 50 ∧ Keep H s'.H ∧ ∃ (k : Nat) (av : Value), 0 < a ∧ A = a * B ^ k ∧ (ds B64 a).length ≤ Lim ∧ Own H.n s'.H av (ds B64 a) ∧ Own H.n s'.H v2 (ds B64 B) ∧ s'.tm.get 0 = some av ∧ s'.tm.get 1 = some v2 ∧ s'.tm.get 7 = some (.int .i64 (k : Int))) ?_ A _
      ⟨rfl, k2, 0, v1, hA, by simp, lA, o1, o2, by simp [t0], by simp [t1], by simp⟩
    clear t0 t1
    rintro a ⟨k', tm, H3⟩ ⟨hk, k3, k, av, ha0, hAe, la, oa, ob, t0, t1, t7⟩ Q' hQ'
    simp only at hk k3 oa ob t0 t1 t7
    subst hk
    obtain ⟨q, r, H4, c4, k4, oq, orr, apq⟩ := divide_call oa ob.sl k3.n la lB hB0
    have lr := orr.sl.len ltNat
    have hkb := split_bound hAe hA hB lA
    have hkb : k < 64 * 2000000000000 := hkb
    apply W_block
    apply W_seq; intro b3 hb3
    apply W_region
    simp [t0, t1, c4]
    show W _ _ b3 _ _; subst hb3
    apply W_seq; intro b3 hb3
    apply W_seq; intro b4 hb4
    apply W_region
    simp [lr, gtr0, ds_len_pos two64]
    show W _ _ b4 _ _; subst hb4
    by_cases hr : 0 < a % B
    · refine W_cond (t := true) (by simp [hr]) ?_
      apply W_exit
      right
      refine ⟨by decide, ?_⟩
      apply hQ'
      left
      refine ⟨rfl, ?_⟩
      have oa4 := oa.mono (Nat.le_refl _) k4
      have c5 := length_call oa4.sl la
      have hsp : SplitIs A B k a := ⟨hAe, by omega⟩
      show W _ _ b1 _ _; subst hb1
      apply W_seq; intro b5 hb5
      apply W_seq; intro b6 hb6
      apply W_region
      simp [t0, c5, gtrMax]
      show W _ _ b6 _ _; subst hb6
      by_cases hbig : 67108864 < blen a
      · refine W_cond (t := true) (by simp [hbig]) ?_
        apply W_seq; intro b6 hb6
        apply W_region
        simp
        show W _ _ b6 _ _; subst hb6
        apply W_ret
        simp [seqQ, Try.f12]
        exact ⟨k3.trans k4, .inr ⟨hA, hB, k, a, hsp, .inl ⟨hbig, rfl⟩⟩⟩
      · refine W_cond (t := false) (by simp [hbig]) ?_
        apply W_skip
        show W _ _ b5 _ _; subst hb5
        apply W_seq; intro b6 hb6
        apply W_region
        simp [t0, t7]
        show W _ _ b6 _ _; subst hb6
        apply W_ret
        simp [Try.f12]
        exact ⟨k3.trans k4, .inr ⟨hA, hB, k, a, hsp, .inr ⟨by omega, av, rfl, oa4⟩⟩⟩
    · refine W_cond (t := false) (by simp [hr]) ?_
      apply W_skip
      show W _ _ b3 _ _; subst hb3
      have hdm : a = a / B * B := by
        have := Nat.div_add_mod a B
        rw [Nat.mul_comm] at this
        omega
      have hq0 : 0 < a / B := by
        rcases Nat.eq_zero_or_pos (a / B) with h0 | h0
        · rw [h0, Nat.zero_mul] at hdm; omega
        · exact h0
      apply W_seq; intro b3 hb3
      apply W_region
      simp
      show W _ _ b3 _ _; subst hb3
      apply W_region
      simp [t7, add1_i64 (x := k) (by omega)]
      apply hQ'
      refine ⟨a / B, Nat.div_lt_self ha0 hB, rfl, k3.trans k4, k + 1, q, hq0, ?_, Nat.le_trans (ds_len_mono two64 (Nat.div_le_self a B)) la, oq.mono k3.n (.refl _), ob.mono (Nat.le_refl _) k4, by simp, by simp [t1], by simp⟩
      rw [Nat.pow_succ, Nat.mul_comm (B ^ k) B, ← Nat.mul_assoc, ← hdm]
      exact hAe
  obtain ⟨LA, hLA⟩ : ∃ LA, LA = (ds B64 A).length := ⟨_, rfl⟩
  obtain ⟨LB, hLB⟩ : ∃ LB, LB = (ds B64 B).length := ⟨_, rfl⟩
  rw [← hLA] at l1
  rw [← hLB] at l2
  by_cases hA : A = 0
  · have f1 : intBin .eql .i64 (LA : Int) 0 = some (.bool true) := by rw [eq0_nat, decide_eq_true]; rw [hLA, ds_len_zero two64]; exact hA
    simp [l1, f1]
    show W _ _ b2 _ _
    exact bad _ (.inl hA) (by simp)
  · have f1 : intBin .eql .i64 (LA : Int) 0 = some (.bool false) := by rw [eq0_nat, decide_eq_false]; rw [hLA, ds_len_zero two64]; exact hA
    by_cases hB : B = 0
    · have f2 : intBin .eql .i64 (LB : Int) 0 = some (.bool true) := by rw [eq0_nat, decide_eq_true]; rw [hLB, ds_len_zero two64]; exact hB
      simp [l1, l2, f1, f2]
      show W _ _ b2 _ _
      exact bad _ (.inr (by omega)) (by simp)
    · have f2 : intBin .eql .i64 (LB : Int) 0 = some (.bool false) := by rw [eq0_nat, decide_eq_false]; rw [hLB, ds_len_zero two64]; exact hB
      by_cases h1 : LB = 1
      · have f3 : intBin .eql .i64 (LB : Int) 1 = some (.bool true) := by rw [e1, decide_eq_true]; exact h1
        obtain ⟨eB, hlt⟩ := ds_one (n := B) two64 (by rw [← hLB]; exact h1)
        have a0 : indexAddrV Try.prog 24 v2 (.int .i64 0) = some (adr v2 0) := o2.sl.adr ltNat (k := .i64) (i := 0) (by omega)
        have o2' := o2
        rw [eB] at o2'
        have d0 : loadV Try.prog H2 55 (adr v2 0) = some (.int .u64 (B : Int)) := o2'.sl.load (i := 0) (by simp)
        by_cases hB1 : B = 1
        · have f4 : intBin .eql .u64 (B : Int) 1 = some (.bool true) := by rw [e1u, decide_eq_true]; exact hB1
          simp [l1, l2, f1, f2, f3, a0, d0, f4]
          show W _ _ b2 _ _
          exact bad _ (.inr (by omega)) (by simp)
        · have f4 : intBin .eql .u64 (B : Int) 1 = some (.bool false) := by rw [e1u, decide_eq_false]; exact hB1
          simp [l1, l2, f1, f2, f3, a0, d0, f4]
          show W _ _ b2 _ _
          exact good _ (by omega) (by omega) (by simp) (by simp) (by simp)
      · have f3 : intBin .eql .i64 (LB : Int) 1 = some (.bool false) := by rw [e1, decide_eq_false]; exact h1
        simp [l1, l2, f1, f2, f3]
        show W _ _ b2 _ _
        refine good _ (by omega) ?_ (by simp) (by simp) (by simp)
        rcases Nat.lt_or_ge B 2 with h2 | h2
        · exfalso
          obtain rfl : B = 1 := by omega
          exact h1 (by rw [hLB, ds_pos two64 (by omega), show (1 : Nat) / B64 = 0 by decide, ds_zero]; rfl)
        · exact h2
end
end
end Go.Proofs.Ytldapilhmmbjhaa
