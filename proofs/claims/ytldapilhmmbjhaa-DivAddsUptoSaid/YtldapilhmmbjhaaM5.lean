/-
  The engine and the walks that the claim's last text leans on, part 5 of 5: Qa, Qb, Qc, Qd, Qe, Gcds, Powers, Back, Adds, Kept, Args.
-/
import Derived.Test.YtldapilhmmbjhaaM4
import Derived.Test.YtldapilhmmbjhaaM2
import Derived.Carry
import Derived.Deep.Slices
import Derived.JoinedCond

/-
  div: limb and plus.
-/
namespace Go.Proofs.Ytldapilhmmbjhaa
open Go Ev
set_option linter.unusedVariables false
set_option linter.unusedSimpArgs false
noncomputable section

theorem limb_step {x y c : Nat} (hx : x < B64) (hy : y < B64) (hc : c < B64) :
    x * y / B64 + (x * y % B64 + c) / B64 < B64 ∧ (x * y % B64 + c) % B64 + B64 * (x * y / B64 + (x * y % B64 + c) / B64) = x * y + c := by
  have hp : x * y ≤ 18446744073709551615 * 18446744073709551615 := Nat.mul_le_mul (by have : B64 = 18446744073709551616 := rfl; omega) (by have : B64 = 18446744073709551616 := rfl; omega)
  have hc : c < 18446744073709551616 := hc
  show x * y / 18446744073709551616 + (x * y % 18446744073709551616 + c) / 18446744073709551616 < 18446744073709551616 ∧ (x * y % 18446744073709551616 + c) % 18446744073709551616 + 18446744073709551616 * (x * y / 18446744073709551616 + (x * y % 18446744073709551616 + c) / 18446744073709551616) = x * y + c
  generalize x * y = p at *
  omega

theorem plus_val {P X Y L c : Nat} (h : L + P * B64 * c = X + Y) (hx : X < P) (hy : Y < P) (hc : c ≤ 1) : L = X + Y := by
  have h2 : P * 2 ≤ P * B64 := Nat.mul_le_mul_left P two64
  generalize P * B64 = Q at *
  rcases Nat.lt_or_ge 0 c with h0 | h0
  · obtain rfl : c = 1 := Nat.le_antisymm hc h0
    rw [Nat.mul_one] at h
    exfalso
    omega
  · obtain rfl : c = 0 := Nat.le_zero.mp h0
    rw [Nat.mul_zero] at h
    omega

attribute [-simp] Int.natCast_add Int.natCast_mul Int.natCast_ediv Int.natCast_emod Int.natCast_pow
attribute [local simp] strip stripL LW' LR gW evOp oMove oAssign oPick oBinOp oUnOp oConvert oExtract oIndexAddr oIndex oLoad oStore oSlice oMakeSlice oCall oBuildSlice opd opds optOpd plain plain1 Tr.get_set tmOf builtinV binV isShift sameKind undef resultV resOne packV ltNat ltNum ltLst calleeV parts lss_nat unV DW grdOf heapOp LX isStore

section
variable {H : AH} {va vb : Value} {xs ys : List Nat}

set_option maxHeartbeats 1000000 in
theorem limb_spec {y : Nat} (ha : Sl H va xs) (dx : Dig B64 xs) (hy : y < B64) (lx : xs.length ≤ 2 * Lim) :
    CW Try.prog cfg0 73 [va, .int .u64 (y : Int)] H fun v H' => Keep H H' ∧ Own H.n H' v (ds B64 (dv B64 xs * y)) := by
  have hLim : Lim = 2000000000000 := rfl
  refine CW_intro 51 (by decide) (by decide) Try.func73 rfl rfl ?_
  have l1 := ha.len ltNat
  obtain ⟨n, hn⟩ : ∃ n, n = xs.length := ⟨_, rfl⟩
  rw [← hn] at l1
  obtain ⟨c0, H3, hmk, k3, o3, n3⟩ := makeSlice_own (H := H) ltNat (n := n + 1) (by omega)
  apply W_seq; intro b1 hb1
  apply W_region
  simp
  show W _ _ b1 _ _; subst hb1
  apply W_seq; intro b1 hb1
  apply W_region
  simp [l1, add1_i64 (x := n) (by omega), hmk]
  show W _ _ b1 _ _; subst hb1
  apply W_seq; intro b1 hb1
  apply W_region
  simp
  show W _ _ b1 _ _; subst hb1
  apply W_seq; intro b1 hb1
  apply W_seq; intro b2 hb2
  apply W_region
  simp [l1]
  show W _ _ b2 _ _; subst hb2
  apply W_block
  refine W_loopK (fun m s' => s'.k = 51 ∧ Keep H s'.H ∧ ∃ (i c : Nat) (L : List Nat), m + i = n ∧ L.length = i ∧ c < B64 ∧ Dig B64 L ∧ dv B64 L + B64 ^ i * c = dv B64 (xs.take i) * y ∧ Own H.n s'.H c0 (L ++ List.replicate (m + 1) 0) ∧
    s'.tm.get 0 = some va ∧ s'.tm.get 1 = some (.int .u64 (y : Int)) ∧ s'.tm.get 5 = some c0 ∧ s'.tm.get 6 = some (.int .u64 (c : Int)) ∧ s'.tm.get 17 = some va ∧ s'.tm.get 18 = some (.int .i64 (n : Int)) ∧ s'.tm.get 19 = some (.int .i64 (i : Int))) ?_ n _
    ⟨rfl, k3, 0, 0, [], by omega, rfl, by decide, .nil _, by simp [dv], by simpa using o3, by simp, by simp, by simp, by simp, by simp, by simp, by simp⟩
  rintro m ⟨k, tm, H4⟩ ⟨hk, kH, i, c, L, hmi, hL, hc, dL, heq, own, t0, t1, t5, t6, t17, t18, t19⟩ Q' hQ'
  simp only at hk kH own t0 t1 t5 t6 t17 t18 t19
  subst hk
  apply W_seq; intro b3 hb3
  apply W_region
  simp [t18, t19]
  show W _ _ b3 _ _; subst hb3
  apply W_seq; intro b3 hb3
  by_cases hi : i < n
  · refine W_cond (t := true) (by simp [hi]) ?_
    apply W_skip
    show W _ _ b3 _ _; subst hb3
    obtain ⟨m', rfl⟩ : ∃ m', m = m' + 1 := ⟨m - 1, by omega⟩
    have hi' : i < xs.length := by omega
    have sa := ha.keep kH
    obtain ⟨x, hx⟩ : ∃ x, x = nth xs i := ⟨_, rfl⟩
    have hxB : x < B64 := by rw [hx]; exact nth_lt dx (by decide) _
    have a0 := sa.adr ltNat (k := .i64) hi'
    have d0 := sa.load hi'
    rw [← nth_get hi', ← hx] at d0
    have step := limb_step hxB hy hc
    obtain ⟨ph, hph⟩ : ∃ ph, ph = x * y / B64 := ⟨_, rfl⟩
    obtain ⟨pl, hpl⟩ : ∃ pl, pl = x * y % B64 := ⟨_, rfl⟩
    rw [← hph, ← hpl] at step
    obtain ⟨l, hl⟩ : ∃ l, l = (pl + c) % B64 := ⟨_, rfl⟩
    obtain ⟨c1, hc1⟩ : ∃ c1, c1 = (pl + c) / B64 := ⟨_, rfl⟩
    rw [← hl, ← hc1] at step
    obtain ⟨st1, st3⟩ := step
    have hlB : l < B64 := by rw [hl]; exact Nat.mod_lt _ (by decide)
    have e1 : callI Try.prog cfg0 74 [.int .u64 (x : Int), .int .u64 (y : Int)] H4 = some (.tuple #[.int .u64 (ph : Int), .int .u64 (pl : Int)], H4) := by rw [hph, hpl]; exact mul64_call hxB hy H4
    have e2 : callI Try.prog cfg0 49 [.int .u64 (pl : Int), .int .u64 (c : Int), .int .u64 0] H4 = some (.tuple #[.int .u64 (l : Int), .int .u64 (c1 : Int)], H4) := by rw [hl, hc1]; exact add64_call0 pl c H4
    have e3 : intBin .add .u64 (ph : Int) (c1 : Int) = some (.int .u64 ((ph + c1 : Nat) : Int)) := add_u64_lt st1
    obtain ⟨H5, st5, own5, bt5, ka5⟩ := own.fill hL l
    have a3 := own.sl.adr ltNat (k := .i64) (i := i) (by simp; omega)
    apply W_seq; intro b3 hb3
    apply W_block
    apply W_seq; intro b4 hb4
    apply W_region
    simp [t17, t19, a0, d0]
    show W _ _ b4 _ _; subst hb4
    apply W_seq; intro b4 hb4
    apply W_region
    simp [t1, e1]
    show W _ _ b4 _ _; subst hb4
    apply W_seq; intro b4 hb4
    apply W_region
    simp [t6, e2]
    show W _ _ b4 _ _; subst hb4
    apply W_region
    simp [t5, e3, a3, st5]
    show W _ _ b3 _ _; subst hb3
    apply W_region
    simp [t19, add1_i64 (x := i) (by omega)]
    apply hQ'
    refine ⟨m', by omega, rfl, ka5 H kH (Nat.le_refl _), i + 1, ph + c1, L ++ [l], by omega, by simp [hL], st1, dL.append (.cons hlB (.nil _)), ?_, own5, by simp [t0], by simp [t1], by simp [t5], by simp, by simp [t17], by simp [t18], by simp⟩
    rw [dv_append, hL, dv_take_nth, ← hx, Nat.add_mul, ← heq]
    simp only [dv, Nat.mul_zero, Nat.add_zero]
    generalize ph + c1 = cc at *
    have f1 : B64 ^ i * (l + B64 * cc) = B64 ^ i * (x * y + c) := by rw [st3]
    rw [Nat.mul_add, ← Nat.mul_assoc (B64 ^ i) B64, show B64 ^ i * B64 = B64 ^ (i + 1) from rfl, Nat.mul_add] at f1
    rw [Nat.mul_assoc (B64 ^ i) x y]
    omega
  · refine W_cond (t := false) (by simp [hi]) ?_
    apply W_exit
    apply hQ'
    left
    refine ⟨rfl, ?_⟩
    obtain rfl : i = n := by omega
    obtain rfl : m = 0 := by omega
    rw [List.take_of_length_le (by omega)] at heq
    have a3 := own.sl.adr ltNat (k := .i64) (i := i) (by simp; omega)
    obtain ⟨H5, st5, own5, bt5, ka5⟩ := own.fill hL c
    rw [List.replicate_zero, List.append_nil] at own5
    have dLc : Dig B64 (L ++ [c]) := dL.append (.cons hc (.nil _))
    have hval : dv B64 (L ++ [c]) = dv B64 xs * y := by
      rw [dv_append, hL]
      simp only [dv, Nat.mul_zero, Nat.add_zero]
      exact heq
    obtain ⟨v6, H6, c6, k6, o6⟩ := norm_spec own5.sl (by simp; omega)
    rw [trimL_ds two64 dLc, hval] at o6
    have k5 : Keep H H5 := ka5 H kH (Nat.le_refl _)
    show W _ _ b1 _ _; subst hb1
    apply W_seq; intro b4 hb4
    apply W_region
    simp [t0, t5, t6, l1, a3, st5]
    show W _ _ b4 _ _; subst hb4
    apply W_seq; intro b4 hb4
    apply W_region
    simp [t5, c6]
    show W _ _ b4 _ _; subst hb4
    apply W_ret
    simp
    exact ⟨k5.trans k6, o6.mono k5.n (.refl _)⟩

set_option maxHeartbeats 1000000 in
theorem plus_spec (ha : Sl H va xs) (hb : Sl H vb ys) (dx : Dig B64 xs) (dy : Dig B64 ys) (lx : xs.length ≤ 2 * Lim) (ly : ys.length ≤ 2 * Lim) :
    CW Try.prog cfg0 72 [va, vb] H fun v H' => Keep H H' ∧ Own H.n H' v (ds B64 (dv B64 xs + dv B64 ys)) := by
  have hLim : Lim = 2000000000000 := rfl
  refine CW_intro 51 (by decide) (by decide) Try.func72 rfl rfl ?_
  have l1 := ha.len ltNat
  have l2 := hb.len ltNat
  obtain ⟨n, hn⟩ : ∃ n, n = max xs.length ys.length := ⟨_, rfl⟩
  have mx := max_nat xs.length ys.length
  rw [← hn] at mx
  obtain ⟨c0, H3, hmk, k3, o3, n3⟩ := makeSlice_own (H := H) ltNat (n := n + 1) (by omega)
  have l3 := o3.sl.len ltNat
  rw [List.length_replicate] at l3
  apply W_seq; intro b1 hb1
  apply W_region
  simp
  show W _ _ b1 _ _; subst hb1
  apply W_seq; intro b1 hb1
  apply W_region
  simp [l1, l2, mx, add1_i64 (x := n) (by omega), hmk]
  show W _ _ b1 _ _; subst hb1
  apply W_seq; intro b1 hb1
  apply W_region
  simp
  show W _ _ b1 _ _; subst hb1
  apply W_seq; intro b1 hb1
  apply W_seq; intro b2 hb2
  apply W_region
  simp [l3]
  show W _ _ b2 _ _; subst hb2
  apply W_block
  refine W_loopK (fun m s' => s'.k = 51 ∧ Keep H s'.H ∧ ∃ (i c : Nat) (L : List Nat), m + i = n + 1 ∧ L.length = i ∧ c ≤ 1 ∧ Dig B64 L ∧ dv B64 L + B64 ^ i * c = dv B64 (xs.take i) + dv B64 (ys.take i) ∧ Own H.n s'.H c0 (L ++ List.replicate m 0) ∧
    s'.tm.get 0 = some va ∧ s'.tm.get 1 = some vb ∧ s'.tm.get 5 = some c0 ∧ s'.tm.get 6 = some (.int .u64 (c : Int)) ∧ s'.tm.get 18 = some (.int .i64 ((n + 1 : Nat) : Int)) ∧ s'.tm.get 19 = some (.int .i64 (i : Int))) ?_ (n + 1) _
    ⟨rfl, k3, 0, 0, [], by omega, rfl, by omega, .nil _, by simp [dv], by simpa using o3, by simp, by simp, by simp, by simp, by simp, by simp⟩
  rintro m ⟨k, tm, H4⟩ ⟨hk, kH, i, c, L, hmi, hL, hc, dL, heq, own, t0, t1, t5, t6, t18, t19⟩ Q' hQ'
  simp only at hk kH own t0 t1 t5 t6 t18 t19
  subst hk
  apply W_seq; intro b3 hb3
  apply W_region
  simp [t18, t19]
  show W _ _ b3 _ _; subst hb3
  apply W_seq; intro b3 hb3
  by_cases hi : i < n + 1
  · refine W_cond (t := true) (by simp [hi]) ?_
    apply W_skip
    show W _ _ b3 _ _; subst hb3
    obtain ⟨m', rfl⟩ : ∃ m', m = m' + 1 := ⟨m - 1, by omega⟩
    have sa := ha.keep kH
    have sb := hb.keep kH
    obtain ⟨x, hx⟩ : ∃ x, x = nth xs i := ⟨_, rfl⟩
    have hxB : x < B64 := by rw [hx]; exact nth_lt dx (by decide) _
    obtain ⟨y, hy⟩ : ∃ y, y = nth ys i := ⟨_, rfl⟩
    have hyB : y < B64 := by rw [hy]; exact nth_lt dy (by decide) _
    obtain ⟨z, hz⟩ : ∃ z, z = (x + y + c) % B64 := ⟨_, rfl⟩
    obtain ⟨c', hc'⟩ : ∃ c', c' = (x + y + c) / B64 := ⟨_, rfl⟩
    have hzc : B64 * c' + z = x + y + c := by rw [hz, hc']; exact Nat.div_add_mod _ _
    have hzB : z < B64 := by rw [hz]; exact Nat.mod_lt _ (by decide)
    have hc1 : c' ≤ 1 := by
      have : c' < 2 := by rw [hc', Nat.div_lt_iff_lt_mul (by decide)]; omega
      omega
    have ac : callI Try.prog cfg0 49 [.int .u64 (x : Int), .int .u64 (y : Int), .int .u64 (c : Int)] H4 = some (.tuple #[.int .u64 (z : Int), .int .u64 (c' : Int)], H4) := by rw [hz, hc']; exact add64_call x y c H4 hc
    obtain ⟨H5, st5, own5, bt5, ka5⟩ := own.fill hL z
    have a3 := own.sl.adr ltNat (k := .i64) (i := i) (by simp; omega)
    apply W_seq; intro b3 hb3
    apply W_block
    apply W_seq; intro b4 hb4
    apply W_region
    simp [t19]
    show W _ _ b4 _ _; subst hb4
    apply W_seq; intro b4 hb4
    apply W_region
    simp
    show W _ _ b4 _ _; subst hb4
    refine W_thenK (fun s' => s'.k = 51 ∧ s'.H = H4 ∧ s'.tm.get 0 = some va ∧ s'.tm.get 1 = some vb ∧ s'.tm.get 5 = some c0 ∧ s'.tm.get 6 = some (.int .u64 (c : Int)) ∧ s'.tm.get 7 = some (.int .i64 (i : Int)) ∧ s'.tm.get 8 = some (.int .u64 (x : Int)) ∧ s'.tm.get 9 = some (.int .u64 0) ∧ s'.tm.get 18 = some (.int .i64 ((n + 1 : Nat) : Int)) ∧ s'.tm.get 19 = some (.int .i64 (i : Int))) ?_ ?_
    · intro Q'' hQ''
      apply W_seq; intro b4 hb4
      apply W_region
      simp [t0, l1]
      show W _ _ b4 _ _; subst hb4
      by_cases hby : i < xs.length
      · refine W_cond (t := true) (by simp [hby]) ?_
        have a1 := sa.adr ltNat (k := .i64) hby
        have d1 := sa.load hby
        rw [← nth_get hby, ← hx] at d1
        apply W_region
        simp [t0, a1, d1]
        apply hQ''
        exact ⟨rfl, rfl, by simp [t0], by simp [t1], by simp [t5], by simp [t6], by simp, by simp, by simp, by simp [t18], by simp [t19]⟩
      · refine W_cond (t := false) (by simp [hby]) ?_
        apply W_skip
        apply hQ''
        rw [nth_out (by omega)] at hx
        subst hx
        exact ⟨rfl, rfl, by simp [t0], by simp [t1], by simp [t5], by simp [t6], by simp, by simp, by simp, by simp [t18], by simp [t19]⟩
    clear t0 t1 t5 t6 t18 t19
    rintro ⟨k, tm, H6⟩ ⟨hk, hH, t0, t1, t5, t6, t7, t8, t9, t18, t19⟩
    simp only at hk hH t0 t1 t5 t6 t7 t8 t9 t18 t19
    subst hk; subst hH
    refine W_thenK (fun s' => s'.k = 51 ∧ s'.H = H6 ∧ s'.tm.get 0 = some va ∧ s'.tm.get 1 = some vb ∧ s'.tm.get 5 = some c0 ∧ s'.tm.get 6 = some (.int .u64 (c : Int)) ∧ s'.tm.get 7 = some (.int .i64 (i : Int)) ∧ s'.tm.get 8 = some (.int .u64 (x : Int)) ∧ s'.tm.get 9 = some (.int .u64 (y : Int)) ∧ s'.tm.get 18 = some (.int .i64 ((n + 1 : Nat) : Int)) ∧ s'.tm.get 19 = some (.int .i64 (i : Int))) ?_ ?_
    · intro Q'' hQ''
      apply W_seq; intro b4 hb4
      apply W_region
      simp [t1, t7, l2]
      show W _ _ b4 _ _; subst hb4
      by_cases hby : i < ys.length
      · refine W_cond (t := true) (by simp [hby]) ?_
        have a1 := sb.adr ltNat (k := .i64) hby
        have d1 := sb.load hby
        rw [← nth_get hby, ← hy] at d1
        apply W_region
        simp [t1, t7, a1, d1]
        apply hQ''
        exact ⟨rfl, rfl, by simp [t0], by simp [t1], by simp [t5], by simp [t6], by simp [t7], by simp [t8], by simp, by simp [t18], by simp [t19]⟩
      · refine W_cond (t := false) (by simp [hby]) ?_
        apply W_skip
        apply hQ''
        rw [nth_out (by omega)] at hy
        subst hy
        exact ⟨rfl, rfl, by simp [t0], by simp [t1], by simp [t5], by simp [t6], by simp [t7], by simp [t8], by simp [t9], by simp [t18], by simp [t19]⟩
    clear t0 t1 t5 t6 t7 t8 t9 t18 t19
    rintro ⟨k, tm, H7⟩ ⟨hk, hH, t0, t1, t5, t6, t7, t8, t9, t18, t19⟩
    simp only at hk hH t0 t1 t5 t6 t7 t8 t9 t18 t19
    subst hk; subst hH
    apply W_region
    simp [t5, t6, t7, t8, t9, ac, a3, st5]
    show W _ _ b3 _ _; subst hb3
    apply W_region
    simp [t19, add1_i64 (x := i) (by omega)]
    apply hQ'
    refine ⟨m', by omega, rfl, ka5 H kH (Nat.le_refl _), i + 1, c', L ++ [z], by omega, by simp [hL], hc1, dL.append (.cons hzB (.nil _)), ?_, own5, by simp [t0], by simp [t1], by simp [t5], by simp, by simp [t18], by simp⟩
    rw [dv_append, hL, dv_take_nth, dv_take_nth, ← hx, ← hy]
    simp only [dv, Nat.mul_zero, Nat.add_zero]
    have e1 : B64 ^ i * (B64 * c' + z) = B64 ^ i * (x + y + c) := by rw [hzc]
    rw [Nat.mul_add, ← Nat.mul_assoc, show B64 ^ i * B64 = B64 ^ (i + 1) from rfl, Nat.mul_add, Nat.mul_add] at e1
    omega
  · refine W_cond (t := false) (by simp [hi]) ?_
    apply W_exit
    apply hQ'
    left
    refine ⟨rfl, ?_⟩
    obtain rfl : i = n + 1 := by omega
    obtain rfl : m = 0 := by omega
    rw [List.take_of_length_le (by omega), List.take_of_length_le (by omega)] at heq
    rw [List.replicate_zero, List.append_nil] at own
    have hval : dv B64 L = dv B64 xs + dv B64 ys := by
      have h3 : B64 ^ xs.length ≤ B64 ^ n := Nat.pow_le_pow_right (by decide) (by omega)
      have h4 : B64 ^ ys.length ≤ B64 ^ n := Nat.pow_le_pow_right (by decide) (by omega)
      rw [Nat.pow_succ] at heq
      exact plus_val heq (Nat.lt_of_lt_of_le (dv_lt dx) h3) (Nat.lt_of_lt_of_le (dv_lt dy) h4) hc
    obtain ⟨v6, H6, c6, k6, o6⟩ := norm_spec own.sl (by omega)
    rw [trimL_ds two64 dL, hval] at o6
    show W _ _ b1 _ _; subst hb1
    apply W_seq; intro b4 hb4
    apply W_region
    simp [t5, c6]
    show W _ _ b4 _ _; subst hb4
    apply W_ret
    simp
    exact ⟨kH.trans k6, o6.mono kH.n (.refl _)⟩
end
end
end Go.Proofs.Ytldapilhmmbjhaa

/-
  div: times.
-/
namespace Go.Proofs.Ytldapilhmmbjhaa
open Go Ev
set_option linter.unusedVariables false
set_option linter.unusedSimpArgs false
noncomputable section

theorem times_step {D A M y : Nat} : (((D * A % M) * B64 % M) + A * y) % M = ((y + B64 * D) * A) % M := by
  rw [Nat.add_mod, Nat.mod_mod, Nat.mul_mod (D * A % M), Nat.mod_mod, ← Nat.mul_mod, ← Nat.add_mod]
  congr 1
  rw [Nat.add_mul, Nat.mul_comm A y, Nat.mul_comm (D * A) B64, Nat.mul_assoc, Nat.add_comm]

theorem ds_mulB {S : Nat} : trimL ([0] ++ ds B64 S) = ds B64 (S * B64) := by
  rw [trimL_ds two64 (Dig.append (.cons (by decide) (.nil _)) (ds_dig two64 S)), dv_append, dv_ds two64]
  congr 1
  simp [dv, Nat.mul_comm]

attribute [-simp] Int.natCast_add Int.natCast_mul Int.natCast_ediv Int.natCast_emod Int.natCast_pow
attribute [local simp] strip stripL LW' LR gW evOp oMove oAssign oPick oBinOp oUnOp oConvert oExtract oIndexAddr oIndex oLoad oStore oSlice oMakeSlice oCall oBuildSlice opd opds optOpd plain plain1 Tr.get_set tmOf builtinV binV isShift sameKind undef resultV resOne packV ltNat ltNum ltLst calleeV parts lss_nat unV DW grdOf heapOp LX isStore

section
variable {H : AH} {va vb vm : Value}

theorem ds_mod_len {X M L : Nat} (hM : 0 < M) (lM : (ds B64 M).length ≤ L) : (ds B64 (X % M)).length ≤ L :=
  Nat.le_trans (ds_len_mono two64 (Nat.le_of_lt (Nat.mod_lt X hM))) lM

theorem ds_len_blen {N L : Nat} (h : blen N ≤ 64 * L) : (ds B64 N).length ≤ L := by
  refine ds_len_le two64 ?_
  have h1 := blen_lt N
  have h2 : 2 ^ blen N ≤ 2 ^ (64 * L) := Nat.pow_le_pow_right (by decide) h
  rw [Nat.pow_mul] at h2
  exact Nat.lt_of_lt_of_le h1 h2

theorem ds_mulB_len {S : Nat} : (ds B64 (S * B64)).length ≤ (ds B64 S).length + 1 := by
  refine ds_len_le two64 ?_
  have h := ds_lt two64 S
  rw [Nat.pow_succ]
  exact Nat.mul_lt_mul_of_pos_right h (by decide)

theorem ds_mulL_len {A y : Nat} (hy : y < B64) : (ds B64 (A * y)).length ≤ (ds B64 A).length + 1 :=
  Nat.le_trans (ds_len_mono two64 (Nat.mul_le_mul_left A (Nat.le_of_lt hy))) ds_mulB_len

theorem ds_add_len {A B L : Nat} (hA : (ds B64 A).length ≤ L) (hB : (ds B64 B).length ≤ L) : (ds B64 (A + B)).length ≤ L + 1 := by
  refine ds_len_le two64 ?_
  have h1 := Nat.lt_of_lt_of_le (ds_lt two64 A) (Nat.pow_le_pow_right (by decide) hA)
  have h2 := Nat.lt_of_lt_of_le (ds_lt two64 B) (Nat.pow_le_pow_right (by decide) hB)
  rw [Nat.pow_succ]
  have h3 : B64 ^ L * 2 ≤ B64 ^ L * B64 := Nat.mul_le_mul_left _ two64
  generalize B64 ^ L * B64 = Q at *
  generalize B64 ^ L = P at *
  omega

set_option maxHeartbeats 1000000 in
theorem times_spec {A B M : Nat} (ha : Sl H va (ds B64 A)) (hb : Sl H vb (ds B64 B)) (hm : Sl H vm (ds B64 M)) (lA : (ds B64 A).length ≤ 1000000000000) (lB : (ds B64 B).length ≤ 1000000000000) (lM : (ds B64 M).length ≤ 1000000000000) (hM : 0 < M) :
    CW Try.prog cfg0 51 [va, vb, vm] H fun v H' => Keep H H' ∧ Own H.n H' v (ds B64 (A * B % M)) := by
  have hLim : Lim = 2000000000000 := rfl
  refine CW_intro 60 (by decide) (by decide) Try.func51 rfl rfl ?_
  obtain ⟨w, H1, c1, k1, h1⟩ := mul_spec ha hb (ds_dig two64 A) (ds_dig two64 B) (by omega) (by omega)
  rw [dv_ds two64, dv_ds two64] at h1
  have e3 : intBin .eql .i64 3 0 = some (.bool false) := rfl
  have e0 : intBin .eql .i64 0 0 = some (.bool true) := rfl
  apply W_seq; intro b1 hb1
  apply W_region
  simp
  show W _ _ b1 _ _; subst hb1
  apply W_seq; intro b1 hb1
  rcases h1 with ⟨hg, rfl⟩ | ⟨hl, u, rfl, o1⟩
  · apply W_seq; intro b2 hb2
    apply W_region
    simp [c1]
    show W _ _ b2 _ _; subst hb2
    apply W_seq; intro b2 hb2
    apply W_region
    simp [e3]
    show W _ _ b2 _ _; subst hb2
    refine W_cond (t := false) (by simp) ?_
    apply W_skip
    show W _ _ b1 _ _; subst hb1
    have l2 := hb.len ltNat
    obtain ⟨ys, hys⟩ : ∃ ys, ys = ds B64 B := ⟨_, rfl⟩
    have dy : Dig B64 ys := by rw [hys]; exact ds_dig two64 B
    have vy : dv B64 ys = B := by rw [hys]; exact dv_ds two64 B
    rw [← hys] at hb l2 lB
    rw [← vy]
    clear hys vy c1
    obtain ⟨n, hn⟩ : ∃ n, n = ys.length := ⟨_, rfl⟩
    rw [← hn] at l2
    apply W_seq; intro b1 hb1
    apply W_region
    simp
    show W _ _ b1 _ _; subst hb1
    apply W_seq; intro b1 hb1
    apply W_seq; intro b2 hb2
    apply W_region
    simp [l2, sub1_any (m := n) (by omega)]
    show W _ _ b2 _ _; subst hb2
    apply W_block
    refine W_loopK (fun m s' => s'.k = 60 ∧ Keep H s'.H ∧ m ≤ n ∧ ∃ (sv : Value), Own H.n s'.H sv (ds B64 (dv B64 (ys.drop m) * A % M)) ∧
      s'.tm.get 0 = some va ∧ s'.tm.get 1 = some vb ∧ s'.tm.get 2 = some vm ∧ s'.tm.get 11 = some sv ∧ s'.tm.get 12 = some (.int .i64 ((m : Int) - 1))) ?_ n _
      ⟨rfl, k1, Nat.le_refl _, .slice none 0 0, by rw [hn, List.drop_length]; simp [dv, ds_zero]; exact .nil, by simp, by simp, by simp, by simp, by simp⟩
    rintro m ⟨k, tm, H2⟩ ⟨hk, kH, hmn, sv, own, t0, t1, t2, t11, t12⟩ Q' hQ'
    simp only at hk kH own t0 t1 t2 t11 t12
    subst hk
    apply W_seq; intro b3 hb3
    apply W_seq; intro b4 hb4
    apply W_region
    simp [t12, geq_pred]
    show W _ _ b4 _ _; subst hb4
    by_cases hm0 : m = 0
    · subst hm0
      refine W_cond (t := false) (by simp) ?_
      apply W_exit
      apply hQ'
      left
      refine ⟨rfl, ?_⟩
      rw [List.drop_zero, Nat.mul_comm] at own
      show W _ _ b1 _ _; subst hb1
      apply W_seq; intro b4 hb4
      apply W_region
      simp [t11]
      show W _ _ b4 _ _; subst hb4
      apply W_ret
      simp
      exact ⟨kH, own⟩
    · refine W_cond (t := true) (by simp; omega) ?_
      apply W_skip
      show W _ _ b3 _ _; subst hb3
      obtain ⟨i, rfl⟩ : ∃ i, m = i + 1 := ⟨m - 1, by omega⟩
      have es : ((i + 1 : Nat) : Int) - 1 = (i : Int) := by omega
      rw [es] at t12
      have hi : i < ys.length := by omega
      obtain ⟨y, hy⟩ : ∃ y, y = ys[i] := ⟨_, rfl⟩
      have hyB : y < B64 := by rw [hy]; exact dy.get (List.getElem?_eq_getElem hi)
      obtain ⟨D, hD⟩ : ∃ D, D = dv B64 (ys.drop (i + 1)) := ⟨_, rfl⟩
      rw [← hD] at own
      have hD' : dv B64 (ys.drop i) = y + B64 * D := by rw [List.drop_eq_getElem_cons hi, hD, hy]; rfl
      obtain ⟨S, hS⟩ : ∃ S, S = D * A % M := ⟨_, rfl⟩
      rw [← hS] at own
      have lS : (ds B64 S).length ≤ 1000000000000 := by rw [hS]; exact ds_mod_len hM lM
      -- the shift
      obtain ⟨z, H3, c3, k3, o3, n3⟩ := makeSlice_own (H := H2) ltNat (n := 1) (by omega)
      have c3 : makeSliceV Try.prog H2 24 (.int .i64 1) (.int .i64 1) = some (z, H3) := c3
      obtain ⟨z4, H4, c4, o4, md4, ka4⟩ := o3.append k3.n (own.sl.keep k3) (by simp; omega) ltNat ltNat
      have k4 : Keep H2 H4 := ka4 H2 k3 (Nat.le_refl _)
      have d4 : List.replicate 1 0 = [0] := rfl
      rw [d4] at o4
      -- its rest
      obtain ⟨z5, H5, c5, k5, o5⟩ := norm_spec o4.sl (by simp; omega)
      rw [ds_mulB] at o5
      have l5 : (ds B64 (S * B64)).length ≤ 1000000000001 := Nat.le_trans ds_mulB_len (by omega)
      have kH5 := (kH.trans k4).trans k5
      obtain ⟨q6, r6, H6, c6, k6, oq6, or6, _⟩ := divide_call o5 (hm.keep kH5) k5.n (by omega) (by omega) hM
      have kH6 := kH5.trans k6
      have l6 : (ds B64 (S * B64 % M)).length ≤ 1000000000000 := ds_mod_len hM lM
      -- the limb
      have sb := hb.keep kH6
      have a7 := sb.adr ltNat (k := .i64) hi
      have d7 := sb.load hi
      rw [← hy] at d7
      obtain ⟨z7, H7, c7, k7, o7⟩ := limb_spec (ha.keep kH6) (ds_dig two64 A) hyB (by omega)
      rw [dv_ds two64] at o7
      have l7 : (ds B64 (A * y)).length ≤ 1000000000001 := Nat.le_trans (ds_mulL_len hyB) (by omega)
      obtain ⟨z8, H8, c8, k8, o8⟩ := plus_spec (or6.sl.keep k7) o7.sl (ds_dig two64 _) (ds_dig two64 _) (by omega) (by omega)
      rw [dv_ds two64, dv_ds two64] at o8
      have l8 : (ds B64 (S * B64 % M + A * y)).length ≤ 1000000000002 := ds_add_len (by omega) l7
      have kH8 := (kH6.trans k7).trans k8
      obtain ⟨q9, r9, H9, c9, k9, oq9, or9, _⟩ := divide_call o8 (hm.keep kH8) k8.n (by omega) (by omega) hM
      have kH9 := kH8.trans k9
      have hval : (S * B64 % M + A * y) % M = dv B64 (ys.drop i) * A % M := by rw [hD', hS]; exact times_step
      rw [hval] at or9
      apply W_seq; intro b3 hb3
      apply W_block
      apply W_seq; intro b4 hb4
      apply W_region
      simp [t11, c3, c4]
      show W _ _ b4 _ _; subst hb4
      apply W_seq; intro b4 hb4
      apply W_region
      simp [t2, c5, c6]
      show W _ _ b4 _ _; subst hb4
      apply W_seq; intro b4 hb4
      apply W_region
      simp [t0, t1, t12, a7, d7, c7, c8]
      show W _ _ b4 _ _; subst hb4
      apply W_region
      simp [t2, c9]
      show W _ _ b3 _ _; subst hb3
      apply W_region
      simp [t12, sub1_any (m := i) (by omega)]
      apply hQ'
      exact ⟨i, by omega, rfl, kH9, by omega, r9, or9.mono (Nat.le_trans (Nat.le_trans kH6.n k7.n) (Nat.le_refl _)) (.refl _), by simp [t0], by simp [t1], by simp [t2], by simp, by simp⟩
  · obtain ⟨q, r, H2, c2, k2, oq, orr, _⟩ := divide_call o1 (hm.keep k1) k1.n (by
      exact Nat.le_trans (ds_len_blen (L := 1048576) hl) (by decide)) (by omega) hM
    apply W_seq; intro b2 hb2
    apply W_region
    simp [c1]
    show W _ _ b2 _ _; subst hb2
    apply W_seq; intro b2 hb2
    apply W_region
    simp [e0]
    show W _ _ b2 _ _; subst hb2
    refine W_cond (t := true) (by simp) ?_
    apply W_seq; intro b2 hb2
    apply W_region
    simp [c2]
    show W _ _ b2 _ _; subst hb2
    apply W_seq; intro b2 hb2
    apply W_region
    simp
    show W _ _ b2 _ _; subst hb2
    apply W_ret
    simp [seqQ]
    exact ⟨k1.trans k2, orr⟩
end
end
end Go.Proofs.Ytldapilhmmbjhaa

/-
  The bits of a number (nat.Bit, Num.Bit), Int, and the reference's Power.
-/
namespace Go.Proofs.Ytldapilhmmbjhaa
open Go Ev
set_option linter.unusedVariables false
set_option linter.unusedSimpArgs false
noncomputable section

theorem bit_dig {w q r : Nat} (hr : r < w) (xs : List Nat) (dx : Dig (2 ^ w) xs) : dv (2 ^ w) xs / 2 ^ (w * q + r) % 2 = nth xs q / 2 ^ r % 2 := by
  rw [Nat.pow_add, Nat.pow_mul, ← Nat.div_div_eq_div_mul]
  by_cases hq : q < xs.length
  · have h := dv_lt (dx.take q)
    rw [List.length_take, Nat.min_eq_left (Nat.le_of_lt hq)] at h
    have e1 : dv (2 ^ w) xs / (2 ^ w) ^ q = xs[q] + 2 ^ w * dv (2 ^ w) (xs.drop (q + 1)) := by
      rw [dv_split' (2 ^ w) xs q (Nat.le_of_lt hq), Nat.add_mul_div_left _ _ (Nat.pow_pos (Nat.two_pow_pos w)), Nat.div_eq_of_lt h, Nat.zero_add, List.drop_eq_getElem_cons hq]
      rfl
    rw [e1, nth_get hq]
    obtain ⟨e, rfl⟩ : ∃ e, w = r + (e + 1) := ⟨w - r - 1, by omega⟩
    rw [Nat.pow_add, Nat.mul_assoc, Nat.add_mul_div_left _ _ (Nat.two_pow_pos r), Nat.pow_succ, Nat.mul_comm (2 ^ e) 2, Nat.mul_assoc, Nat.add_mul_mod_self_left]
  · have h := dv_lt dx
    have h2 : (2 ^ w) ^ xs.length ≤ (2 ^ w) ^ q := Nat.pow_le_pow_right (Nat.two_pow_pos w) (by omega)
    rw [Nat.div_eq_of_lt (Nat.lt_of_lt_of_le h h2), nth_out (by omega), Nat.zero_div]

theorem bit64 {xs : List Nat} (dx : Dig B64 xs) (i : Nat) : dv B64 xs / 2 ^ i % 2 = nth xs (i / 64) / 2 ^ (i % 64) % 2 := by
  have := bit_dig (w := 64) (q := i / 64) (r := i % 64) (Nat.mod_lt _ (by decide)) xs dx
  rwa [Nat.div_add_mod] at this
theorem bit32 {xs : List Nat} (dx : Dig b32 xs) (i : Nat) : dv b32 xs / 2 ^ i % 2 = nth xs (i / 32) / 2 ^ (i % 32) % 2 := by
  have := bit_dig (w := 32) (q := i / 32) (r := i % 32) (Nat.mod_lt _ (by decide)) xs dx
  rwa [Nat.div_add_mod] at this

theorem and1 {x : Nat} (hx : x < B64) : intBin .and .u64 (x : Int) 1 = some (.int .u64 ((x % 2 : Nat) : Int)) := by
  have := and_u64 (x := x) (y := 1) hx (by decide)
  rwa [Nat.and_one_is_mod] at this
theorem lssZ {k : IntKind} {x : Nat} : intBin .lss k (x : Int) 0 = some (.bool false) := by
  have := lss_nat (k := k) (x := x) (y := 0)
  rwa [decide_eq_false (Nat.not_lt_zero x)] at this
theorem quo64i {x : Nat} (h : x < 9223372036854775808) : intBin .quo .i64 (x : Int) 64 = some (.int .i64 ((x / 64 : Nat) : Int)) := quo_i64 (y := 64) h (by decide)
theorem rem64i {x : Nat} : intBin .rem .i64 (x : Int) 64 = some (.int .i64 ((x % 64 : Nat) : Int)) := rem_i64 (y := 64) (by decide)
theorem conv_ui {n : Nat} (h : n < 2) : convV Try.prog 55 3 (.int .u64 (n : Int)) = some (.int .i64 (n : Int)) := by
  have e : IntKind.i64.wrap (n : Int) = (n : Int) := wrap_nat (by omega)
  unfold convV
  simp only [Try.underlying3, Try.underlying55, e]

attribute [-simp] Int.natCast_add Int.natCast_mul Int.natCast_ediv Int.natCast_emod Int.natCast_pow
attribute [local simp] strip stripL LW' LR gW evOp oMove oAssign oPick oBinOp oUnOp oConvert oExtract oIndexAddr oIndex oLoad oStore oSlice oMakeSlice oCall oBuildSlice opd opds optOpd plain plain1 Tr.get_set tmOf builtinV binV isShift sameKind undef resultV resOne packV ltNat ltNum ltLst calleeV parts lss_nat unV DW grdOf heapOp LX isStore

section
variable {H : AH} {va vb vm : Value}

theorem bit_call {xs : List Nat} (ha : Sl H va xs) (dx : Dig B64 xs) {i : Nat} (hi : i < 9223372036854775808) : callI Try.prog cfg0 52 [va, .int .i64 (i : Int)] H = some (.int .i64 ((dv B64 xs / 2 ^ i % 2 : Nat) : Int), H) := by
  suffices hs : CW Try.prog cfg0 52 [va, .int .i64 (i : Int)] H fun v H' => H' = H ∧ v = .int .i64 ((dv B64 xs / 2 ^ i % 2 : Nat) : Int) by
    obtain ⟨_, _, hc, rfl, rfl⟩ := hs
    exact hc
  rw [bit64 dx]
  refine CW_intro 25 (by decide) (by decide) Try.func52 rfl rfl ?_
  have l1 := ha.len ltNat
  obtain ⟨q, hq⟩ : ∃ q, q = i / 64 := ⟨_, rfl⟩
  obtain ⟨r, hr⟩ : ∃ r, r = i % 64 := ⟨_, rfl⟩
  have e1 := quo64i hi
  have e2 := rem64i (x := i)
  have hr64 : r < 64 := by omega
  rw [← hq] at e1 ⊢
  rw [← hr] at e2 ⊢
  have g : intBin .geq .i64 (q : Int) (xs.length : Int) = some (.bool (decide (xs.length ≤ q))) := geq_nat
  apply W_seq; intro b1 hb1
  apply W_region
  simp
  show W _ _ b1 _ _; subst hb1
  apply W_seq; intro b1 hb1
  apply W_seq; intro b2 hb2
  apply W_region
  by_cases h : q < xs.length
  · rw [decide_eq_false (Nat.not_le.mpr h)] at g
    simp [lssZ, e1, l1, g]
    show W _ _ b2 _ _; subst hb2
    refine W_cond (t := false) (by simp) ?_
    apply W_skip
    show W _ _ b1 _ _; subst hb1
    have a1 := ha.adr ltNat (k := .i64) h
    have d1 := ha.load h
    obtain ⟨x, hx⟩ : ∃ x, x = nth xs q := ⟨_, rfl⟩
    have hxB : x < B64 := by rw [hx]; exact nth_lt dx (by decide) _
    rw [← nth_get h, ← hx] at d1
    rw [← hx]
    have e3 : shiftBin .shr .u64 (x : Int) (r : Int) = some (.int .u64 ((x / 2 ^ r : Nat) : Int)) := shr_u64 (by omega)
    obtain ⟨y, hy⟩ : ∃ y, y = x / 2 ^ r := ⟨_, rfl⟩
    rw [← hy] at e3 ⊢
    have hyB : y < B64 := by rw [hy]; exact Nat.lt_of_le_of_lt (Nat.div_le_self _ _) hxB
    have e4 := and1 hyB
    have e5 := conv_ui (n := y % 2) (by omega)
    apply W_seq; intro b2 hb2
    apply W_region
    simp [e1, e2, a1, d1, conv_int_uint (n := r) (Nat.lt_trans hr64 (by decide)), e3, e4, e5]
    show W _ _ b2 _ _; subst hb2
    apply W_ret
    simp
  · rw [decide_eq_true (Nat.not_lt.mp h)] at g
    simp [lssZ, e1, l1, g]
    show W _ _ b2 _ _; subst hb2
    refine W_cond (t := true) (by simp) ?_
    apply W_seq; intro b2 hb2
    apply W_region
    simp
    show W _ _ b2 _ _; subst hb2
    apply W_ret
    simp [seqQ, nth_out (Nat.not_lt.mp h)]

theorem refBit_call {N : Nat} (ha : Sl H va (ds b32 N)) {i : Nat} (hi : i < 9223372036854775808) : callI Try.prog cfg0 54 [va, .int .i64 (i : Int)] H = some (.int .i64 ((N / 2 ^ i % 2 : Nat) : Int), H) := by
  suffices hs : CW Try.prog cfg0 54 [va, .int .i64 (i : Int)] H fun v H' => H' = H ∧ v = .int .i64 ((N / 2 ^ i % 2 : Nat) : Int) by
    obtain ⟨_, _, hc, rfl, rfl⟩ := hs
    exact hc
  rw [← dv_ds two32 N]
  have dx := ds_dig two32 N
  generalize ds b32 N = xs at *
  rw [bit32 dx]
  refine CW_intro 24 (by decide) (by decide) Try.func54 rfl rfl ?_
  have l1 := ha.len ltNum
  obtain ⟨q, hq⟩ : ∃ q, q = i / 32 := ⟨_, rfl⟩
  obtain ⟨r, hr⟩ : ∃ r, r = i % 32 := ⟨_, rfl⟩
  have e1 := quo32i hi
  have e2 := rem32i (x := i)
  have hr64 : r < 32 := by omega
  rw [← hq] at e1 ⊢
  rw [← hr] at e2 ⊢
  have g : intBin .geq .i64 (q : Int) (xs.length : Int) = some (.bool (decide (xs.length ≤ q))) := geq_nat
  apply W_seq; intro b1 hb1
  apply W_region
  simp
  show W _ _ b1 _ _; subst hb1
  apply W_seq; intro b1 hb1
  apply W_seq; intro b2 hb2
  apply W_region
  by_cases h : q < xs.length
  · rw [decide_eq_false (Nat.not_le.mpr h)] at g
    simp [lssZ, e1, l1, g]
    show W _ _ b2 _ _; subst hb2
    refine W_cond (t := false) (by simp) ?_
    apply W_skip
    show W _ _ b1 _ _; subst hb1
    have a1 := ha.adr ltNum (k := .i64) h
    have d1 := ha.load h
    obtain ⟨x, hx⟩ : ∃ x, x = nth xs q := ⟨_, rfl⟩
    have hxB : x < B64 := by rw [hx]; exact b32_lt (nth_lt dx (by decide) _)
    rw [← nth_get h, ← hx] at d1
    rw [← hx]
    have e3 : shiftBin .shr .u64 (x : Int) (r : Int) = some (.int .u64 ((x / 2 ^ r : Nat) : Int)) := shr_u64 (by omega)
    obtain ⟨y, hy⟩ : ∃ y, y = x / 2 ^ r := ⟨_, rfl⟩
    rw [← hy] at e3 ⊢
    have hyB : y < B64 := by rw [hy]; exact Nat.lt_of_le_of_lt (Nat.div_le_self _ _) hxB
    have e4 := and1 hyB
    have e5 := conv_ui (n := y % 2) (by omega)
    apply W_seq; intro b2 hb2
    apply W_region
    simp [e1, e2, a1, d1, e3, e4, e5]
    show W _ _ b2 _ _; subst hb2
    apply W_ret
    simp
  · rw [decide_eq_true (Nat.not_lt.mp h)] at g
    simp [lssZ, e1, l1, g]
    show W _ _ b2 _ _; subst hb2
    refine W_cond (t := true) (by simp) ?_
    apply W_seq; intro b2 hb2
    apply W_region
    simp
    show W _ _ b2 _ _; subst hb2
    apply W_ret
    simp [seqQ, nth_out (Nat.not_lt.mp h)]

theorem refInt_call (x : Nat) (hx : x < B64) : ∃ v H', callI Try.prog cfg0 53 [.int .i64 (x : Int)] H = some (v, H') ∧ Keep H H' ∧ Own H.n H' v (ds b32 x) ∧ (ds b32 x).length ≤ 2 * Lim := by
  obtain ⟨v1, H1, c1, k1, o1⟩ := build1_call H ltLst x
  obtain ⟨v2, H2, c2, k2, o2, l2⟩ := of_call o1.sl (dig1 hx) (show 1 ≤ 2000000000000 by decide)
  rw [dv1] at o2 l2
  suffices hs : CW Try.prog cfg0 53 [.int .i64 (x : Int)] H fun v H' => v = v2 ∧ H' = H2 by
    obtain ⟨_, _, hc, rfl, rfl⟩ := hs
    exact ⟨_, _, hc, k1.trans k2, o2.mono k1.n (.refl _), l2⟩
  refine CW_intro 7 (by decide) (by decide) Try.func53 rfl rfl ?_
  apply W_seq; intro b1 hb1
  apply W_region
  simp
  show W _ _ b1 _ _; subst hb1
  apply W_seq; intro b1 hb1
  apply W_region
  simp [conv_iu hx, c1, c2]
  show W _ _ b1 _ _; subst hb1
  apply W_ret
  simp
end
end
end Go.Proofs.Ytldapilhmmbjhaa

/-
  The two Powers.
-/
namespace Go.Proofs.Ytldapilhmmbjhaa
open Go Ev
set_option linter.unusedVariables false
set_option linter.unusedSimpArgs false
noncomputable section

theorem pow_sq {A M e : Nat} : (A ^ e % M) * (A ^ e % M) % M = A ^ (2 * e) % M := by
  rw [← Nat.mul_mod, ← Nat.pow_add, Nat.two_mul]
theorem pow_mul1 {A M e : Nat} : (A ^ e % M) * (A % M) % M = A ^ (e + 1) % M := by
  rw [← Nat.mul_mod, Nat.pow_succ]
theorem half_of {E i : Nat} : E / 2 ^ i = 2 * (E / 2 ^ (i + 1)) + E / 2 ^ i % 2 := by
  rw [Nat.pow_succ, ← Nat.div_div_eq_div_mul]
  exact (Nat.div_add_mod _ 2).symm

theorem eqOne {x : Nat} : intBin .eql .i64 (x : Int) 1 = some (.bool (decide (x = 1))) := eql_nat (y := 1)
theorem subL {x : Nat} (h : x < 9223372036854775807) : intBin .sub .i64 (x : Int) 1 = some (.int .i64 ((x : Int) - 1)) := sub1_any h

attribute [-simp] Int.natCast_add Int.natCast_mul Int.natCast_ediv Int.natCast_emod Int.natCast_pow
attribute [local simp] strip stripL LW' LR gW evOp oMove oAssign oPick oBinOp oUnOp oConvert oExtract oIndexAddr oIndex oLoad oStore oSlice oMakeSlice oCall oBuildSlice opd opds optOpd plain plain1 Tr.get_set tmOf builtinV binV isShift sameKind undef resultV resOne packV ltNat ltNum ltLst calleeV parts lss_nat unV DW grdOf heapOp LX isStore

section
variable {H : AH} {va ve vm : Value}

/-- What the reference's Power answers. -/
def RefPowIs (n0 M Z : Nat) (v : Value) (H' : AH) : Prop := (M = 0 ∧ v = .tuple #[.slice none 0 0, .int .i64 30]) ∨ (0 < M ∧ ∃ u, v = .tuple #[u, .int .i64 0] ∧ Own n0 H' u (ds b32 Z))

theorem ds32_mod_len {X M L : Nat} (hM : 0 < M) (lM : (ds b32 M).length ≤ L) : (ds b32 (X % M)).length ≤ L :=
  Nat.le_trans (ds_len_mono two32 (Nat.le_of_lt (Nat.mod_lt X hM))) lM

set_option maxHeartbeats 1000000 in
theorem refPower_spec {A E M : Nat} (ha : Sl H va (ds b32 A)) (he : Sl H ve (ds b32 E)) (hm : Sl H vm (ds b32 M)) (lA : (ds b32 A).length ≤ 1000000000000) (lE : (ds b32 E).length ≤ 1000000000000) (lM : (ds b32 M).length ≤ 1000000000000) :
    CW Try.prog cfg0 36 [va, ve, vm] H fun v H' => Keep H H' ∧ RefPowIs H.n M (A ^ E % M) v H' := by
  have hLim : Lim = 2000000000000 := rfl
  refine CW_intro 53 (by decide) (by decide) Try.func36 rfl rfl ?_
  have z1 := zero_call hm
  apply W_seq; intro b1 hb1
  apply W_region
  simp
  show W _ _ b1 _ _; subst hb1
  apply W_seq; intro b1 hb1
  apply W_seq; intro b2 hb2
  apply W_region
  by_cases hM : M = 0
  · rw [decide_eq_true hM] at z1
    simp [z1]
    show W _ _ b2 _ _; subst hb2
    refine W_cond (t := true) (by simp) ?_
    apply W_seq; intro b2 hb2
    apply W_region
    simp
    show W _ _ b2 _ _; subst hb2
    apply W_ret
    simp [seqQ]
    exact ⟨.refl _, .inl ⟨hM, rfl⟩⟩
  rw [decide_eq_false hM] at z1
  simp [z1]
  show W _ _ b2 _ _; subst hb2
  refine W_cond (t := false) (by simp) ?_
  apply W_skip
  show W _ _ b1 _ _; subst hb1
  have hM0 : 0 < M := by omega
  obtain ⟨v1, H1, c1, k1, o1, l1⟩ := refInt_call (H := H) 1 (by decide)
  have c1 : callI Try.prog cfg0 53 [.int .i64 1] H = some (v1, H1) := c1
  obtain ⟨q2, r2, H2, c2, k2, oq2, or2⟩ := refDiv_call o1.sl (hm.keep k1) l1 (by omega) hM0
  have k02 := k1.trans k2
  obtain ⟨q3, r3, H3, c3, k3, oq3, or3⟩ := refDiv_call (ha.keep k02) (hm.keep k02) (by omega) (by omega) hM0
  have k03 := k02.trans k3
  have c4 := refLen_call (he.keep k03) (by omega)
  have bE : blen E ≤ 64 * 1000000000000 := blen_bound (ds_len_32 lE)
  obtain ⟨n, hn⟩ : ∃ n, n = blen E := ⟨_, rfl⟩
  have hE0 : E / 2 ^ n = 0 := Nat.div_eq_of_lt (by rw [hn]; exact blen_lt E)
  rw [← hn] at c4 bE
  obtain ⟨a, hA⟩ : ∃ a, a = A % M := ⟨_, rfl⟩
  rw [← hA] at or3
  have la : (ds b32 a).length ≤ 1000000000000 := by rw [hA]; exact ds32_mod_len hM0 lM
  apply W_seq; intro b1 hb1
  apply W_region
  simp [c1, c2]
  show W _ _ b1 _ _; subst hb1
  apply W_seq; intro b1 hb1
  apply W_region
  simp [c3]
  show W _ _ b1 _ _; subst hb1
  apply W_seq; intro b1 hb1
  apply W_seq; intro b2 hb2
  apply W_region
  simp [c4, subL (x := n) (by omega)]
  show W _ _ b2 _ _; subst hb2
  apply W_block
  refine W_loopK (fun m s' => s'.k = 53 ∧ Keep H3 s'.H ∧ m ≤ n ∧ ∃ (pv : Value), Own H.n s'.H pv (ds b32 (A ^ (E / 2 ^ m) % M)) ∧
    s'.tm.get 0 = some r3 ∧ s'.tm.get 1 = some ve ∧ s'.tm.get 2 = some vm ∧ s'.tm.get 9 = some pv ∧ s'.tm.get 10 = some (.int .i64 ((m : Int) - 1))) ?_ n _
    ⟨rfl, .refl _, Nat.le_refl _, r2, by rw [hE0, Nat.pow_zero]; exact or2.mono k1.n k3, by simp, by simp, by simp, by simp, by simp⟩
  rintro m ⟨k, tm, H4⟩ ⟨hk, kH, hmn, pv, own, t0, t1, t2, t9, t10⟩ Q' hQ'
  simp only at hk kH own t0 t1 t2 t9 t10
  subst hk
  apply W_seq; intro b3 hb3
  apply W_seq; intro b4 hb4
  apply W_region
  simp [t10, geq_pred]
  show W _ _ b4 _ _; subst hb4
  by_cases hm0 : m = 0
  · subst hm0
    refine W_cond (t := false) (by simp) ?_
    apply W_exit
    apply hQ'
    left
    refine ⟨rfl, ?_⟩
    rw [Nat.pow_zero, Nat.div_one] at own
    show W _ _ b1 _ _; subst hb1
    apply W_seq; intro b4 hb4
    apply W_region
    simp [t9]
    show W _ _ b4 _ _; subst hb4
    apply W_ret
    simp
    exact ⟨k03.trans kH, .inr ⟨hM0, pv, rfl, own⟩⟩
  · refine W_cond (t := true) (by simp; omega) ?_
    apply W_skip
    show W _ _ b3 _ _; subst hb3
    obtain ⟨i, rfl⟩ : ∃ i, m = i + 1 := ⟨m - 1, by omega⟩
    have es : ((i + 1 : Nat) : Int) - 1 = (i : Int) := by omega
    rw [es] at t10
    obtain ⟨e, hee⟩ : ∃ e, e = E / 2 ^ (i + 1) := ⟨_, rfl⟩
    have hh := half_of (E := E) (i := i)
    rw [← hee] at hh own
    obtain ⟨p, hp⟩ : ∃ p, p = A ^ e % M := ⟨_, rfl⟩
    rw [← hp] at own
    have lp : (ds b32 p).length ≤ 1000000000000 := by rw [hp]; exact ds32_mod_len hM0 lM
    have kH4 := k03.trans kH
    obtain ⟨v5, H5, c5, k5, o5⟩ := refMul_call own.sl own.sl (by omega) (by omega)
    have l5 : (ds b32 (p * p)).length ≤ 2000000000000 := Nat.le_trans ds32_mul_len (by omega)
    have kH5 := kH4.trans k5
    obtain ⟨q6, r6, H6, c6, k6, oq6, or6⟩ := refDiv_call o5.sl (hm.keep kH5) (by omega) (by omega) hM0
    have kH6 := kH5.trans k6
    obtain ⟨p2, hp2⟩ : ∃ p2, p2 = p * p % M := ⟨_, rfl⟩
    rw [← hp2] at or6
    have ep2 : p2 = A ^ (2 * e) % M := by rw [hp2, hp]; exact pow_sq
    have lp2 : (ds b32 p2).length ≤ 1000000000000 := by rw [ep2]; exact ds32_mod_len hM0 lM
    have or6' : Own H.n H6 r6 (ds b32 p2) := or6.mono kH5.n (.refl _)
    have c7 := refBit_call (he.keep kH6) (i := i) (by omega)
    obtain ⟨bt, hbt⟩ : ∃ bt, bt = E / 2 ^ i % 2 := ⟨_, rfl⟩
    rw [← hbt] at c7 hh
    refine W_thenK (fun s' => s'.k = 53 ∧ Keep H3 s'.H ∧ ∃ (pv : Value), Own H.n s'.H pv (ds b32 (A ^ (E / 2 ^ i) % M)) ∧
      s'.tm.get 0 = some r3 ∧ s'.tm.get 1 = some ve ∧ s'.tm.get 2 = some vm ∧ s'.tm.get 9 = some pv ∧ s'.tm.get 10 = some (.int .i64 (i : Int))) ?_ ?_
    · intro Q'' hQ''
      apply W_block
      apply W_seq; intro b3 hb3
      apply W_region
      simp [t2, t9, c5, c6]
      show W _ _ b3 _ _; subst hb3
      apply W_seq; intro b3 hb3
      apply W_region
      simp [t1, t10, c7, eqOne]
      show W _ _ b3 _ _; subst hb3
      by_cases hb : bt = 1
      · refine W_cond (t := true) (by simp [hb]) ?_
        obtain ⟨v8, H8, c8, k8, o8⟩ := refMul_call or6.sl ((or3.sl.keep kH).keep (k5.trans k6)) (by omega) (by omega)
        have l8 : (ds b32 (p2 * a)).length ≤ 2000000000000 := Nat.le_trans ds32_mul_len (by omega)
        have kH8 := kH6.trans k8
        obtain ⟨q9, r9, H9, c9, k9, oq9, or9⟩ := refDiv_call o8.sl (hm.keep kH8) (by omega) (by omega) hM0
        have ev : p2 * a % M = A ^ (E / 2 ^ i) % M := by rw [hh, hb, ep2, hA]; exact pow_mul1
        rw [ev] at or9
        apply W_region
        simp [t0, t2, c8, c9]
        apply hQ''
        exact ⟨rfl, ((kH.trans (k5.trans k6)).trans k8).trans k9, r9, or9.mono kH8.n (.refl _), by simp [t0], by simp [t1], by simp [t2], by simp, by simp [t10]⟩
      · refine W_cond (t := false) (by simp [hb]) ?_
        apply W_skip
        apply hQ''
        have hb0 : bt = 0 := by omega
        rw [hb0, Nat.add_zero] at hh
        rw [ep2, ← hh] at or6'
        exact ⟨rfl, kH.trans (k5.trans k6), r6, or6', by simp [t0], by simp [t1], by simp [t2], by simp, by simp [t10]⟩
    clear t0 t1 t2 t9 t10
    rintro ⟨k, tm, H7⟩ ⟨hk, kH7, pv', own', t0, t1, t2, t9, t10⟩
    simp only at hk kH7 own' t0 t1 t2 t9 t10
    subst hk
    apply W_region
    simp [t10, subL (x := i) (by omega)]
    apply hQ'
    exact ⟨i, by omega, rfl, kH7, by omega, pv', own', by simp [t0], by simp [t1], by simp [t2], by simp [t9], by simp⟩
end
end
end Go.Proofs.Ytldapilhmmbjhaa

/-
  div.Power.
-/
namespace Go.Proofs.Ytldapilhmmbjhaa
open Go Ev
set_option linter.unusedVariables false
set_option linter.unusedSimpArgs false
noncomputable section

attribute [-simp] Int.natCast_add Int.natCast_mul Int.natCast_ediv Int.natCast_emod Int.natCast_pow
attribute [local simp] strip stripL LW' LR gW evOp oMove oAssign oPick oBinOp oUnOp oConvert oExtract oIndexAddr oIndex oLoad oStore oSlice oMakeSlice oCall oBuildSlice opd opds optOpd plain plain1 Tr.get_set tmOf builtinV binV isShift sameKind undef resultV resOne packV ltNat ltNum ltLst calleeV parts lss_nat unV DW grdOf heapOp LX isStore

section
variable {H : AH} {va ve vm : Value} {xs es ms : List Nat}

theorem times_call {A B M : Nat} {va vb vm : Value} (ha : Sl H va (ds B64 A)) (hb : Sl H vb (ds B64 B)) (hm : Sl H vm (ds B64 M)) (lA : (ds B64 A).length ≤ 1000000000000) (lB : (ds B64 B).length ≤ 1000000000000) (lM : (ds B64 M).length ≤ 1000000000000) (hM : 0 < M) :
    ∃ v H', callI Try.prog cfg0 51 [va, vb, vm] H = some (v, H') ∧ Keep H H' ∧ Own H.n H' v (ds B64 (A * B % M)) := times_spec ha hb hm lA lB lM hM

set_option maxHeartbeats 1000000 in
theorem power_spec (ha : Sl H va xs) (he : Sl H ve es) (hm : Sl H vm ms) (dx : Dig B64 xs) (de : Dig B64 es) (dm : Dig B64 ms) (lx : xs.length ≤ 1000000000000) (le : es.length ≤ 1000000000000) (lm : ms.length ≤ 1000000000000) :
    CW Try.prog cfg0 35 [va, ve, vm] H fun v H' => Keep H H' ∧ OneIs H.n (dv B64 ms) (dv B64 xs ^ dv B64 es % dv B64 ms) v H' := by
  have hLim : Lim = 2000000000000 := rfl
  refine CW_intro 52 (by decide) (by decide) Try.func35 rfl rfl ?_
  obtain ⟨m1, H1, c1, k1, o1⟩ := norm_spec hm (by omega)
  rw [trimL_ds two64 dm] at o1
  have lM := Nat.le_trans (ds64_len dm) lm
  obtain ⟨M, hMd⟩ : ∃ M, M = dv B64 ms := ⟨_, rfl⟩
  rw [← hMd] at o1 lM ⊢
  have ll := o1.sl.len ltNat
  apply W_seq; intro b1 hb1
  apply W_region
  simp
  show W _ _ b1 _ _; subst hb1
  apply W_seq; intro b1 hb1
  apply W_region
  simp [c1]
  show W _ _ b1 _ _; subst hb1
  apply W_seq; intro b1 hb1
  apply W_seq; intro b2 hb2
  apply W_region
  simp [ll, eq0_nat, ds_len_zero two64]
  show W _ _ b2 _ _; subst hb2
  by_cases hM : M = 0
  · refine W_cond (t := true) (by simp [hM]) ?_
    apply W_seq; intro b2 hb2
    apply W_region
    simp
    show W _ _ b2 _ _; subst hb2
    apply W_ret
    simp [seqQ]
    exact ⟨k1, .inl ⟨hM, rfl⟩⟩
  refine W_cond (t := false) (by simp [hM]) ?_
  apply W_skip
  show W _ _ b1 _ _; subst hb1
  have hM0 : 0 < M := by omega
  have sm := o1.sl
  -- the base
  obtain ⟨a2, H2, c2, k2, o2⟩ := norm_spec (ha.keep k1) (by omega)
  rw [trimL_ds two64 dx] at o2
  have lA := Nat.le_trans (ds64_len dx) lx
  obtain ⟨A, hAd⟩ : ∃ A, A = dv B64 xs := ⟨_, rfl⟩
  rw [← hAd] at o2 lA ⊢
  obtain ⟨q3, r3, H3, c3, k3, oq3, or3, _⟩ := divide_call o2 (sm.keep k2) k2.n (by omega) (by omega) hM0
  have k13 := k2.trans k3
  obtain ⟨a, hA⟩ : ∃ a, a = A % M := ⟨_, rfl⟩
  rw [← hA] at or3
  have la : (ds B64 a).length ≤ 1000000000000 := by rw [hA]; exact ds_mod_len hM0 lM
  -- one
  obtain ⟨v4, H4, c4, k4, o4⟩ := build1_call H3 ltNat 1
  have c4 : buildSliceV Try.prog H3 24 1 [(0, .int .u64 1)] = some (v4, H4) := c4
  rw [← ds1 (by decide) (by decide : 1 < B64)] at o4
  have l1 : (ds B64 1).length ≤ 1 := by rw [ds1 (by decide) (by decide : 1 < B64)]; decide
  have k14 := k13.trans k4
  obtain ⟨q5, r5, H5, c5, k5, oq5, or5, _⟩ := divide_call o4 (sm.keep k14) k4.n (by omega) (by omega) hM0
  have k15 := k14.trans k5
  have k05 := k1.trans k15
  -- the exponent
  have c6 : callI Try.prog cfg0 31 [ve] H5 = some (.int .i64 (blen (dv B64 es) : Int), H5) := by
    obtain ⟨_, _, hc, rfl, rfl⟩ := length_spec (he.keep k05) de (Nat.le_trans le (by decide))
    exact hc
  obtain ⟨E, hEd⟩ : ∃ E, E = dv B64 es := ⟨_, rfl⟩
  have lE := Nat.le_trans (ds64_len de) le
  rw [← hEd] at c6 lE ⊢
  have bE : blen E ≤ 64 * 1000000000000 := blen_bound lE
  obtain ⟨n, hn⟩ : ∃ n, n = blen E := ⟨_, rfl⟩
  have hE0 : E / 2 ^ n = 0 := Nat.div_eq_of_lt (by rw [hn]; exact blen_lt E)
  rw [← hn] at c6 bE
  apply W_seq; intro b1 hb1
  apply W_region
  simp [c2, c3]
  show W _ _ b1 _ _; subst hb1
  apply W_seq; intro b1 hb1
  apply W_region
  simp [c4, c5]
  show W _ _ b1 _ _; subst hb1
  apply W_seq; intro b1 hb1
  apply W_seq; intro b2 hb2
  apply W_region
  simp [c6, subL (x := n) (by omega)]
  show W _ _ b2 _ _; subst hb2
  apply W_block
  refine W_loopK (fun m s' => s'.k = 52 ∧ Keep H5 s'.H ∧ m ≤ n ∧ ∃ (pv : Value), Own H.n s'.H pv (ds B64 (A ^ (E / 2 ^ m) % M)) ∧
    s'.tm.get 0 = some r3 ∧ s'.tm.get 1 = some ve ∧ s'.tm.get 2 = some m1 ∧ s'.tm.get 9 = some pv ∧ s'.tm.get 10 = some (.int .i64 ((m : Int) - 1))) ?_ n _
    ⟨rfl, .refl _, Nat.le_refl _, r5, by rw [hE0, Nat.pow_zero]; exact or5.mono (k1.trans k13).n (.refl _), by simp, by simp, by simp, by simp, by simp⟩
  rintro m ⟨k, tm, H6⟩ ⟨hk, kH, hmn, pv, own, t0, t1, t2, t9, t10⟩ Q' hQ'
  simp only at hk kH own t0 t1 t2 t9 t10
  subst hk
  apply W_seq; intro b3 hb3
  apply W_seq; intro b4 hb4
  apply W_region
  simp [t10, geq_pred]
  show W _ _ b4 _ _; subst hb4
  by_cases hm0 : m = 0
  · subst hm0
    refine W_cond (t := false) (by simp) ?_
    apply W_exit
    apply hQ'
    left
    refine ⟨rfl, ?_⟩
    rw [Nat.pow_zero, Nat.div_one] at own
    obtain ⟨Z, hZ⟩ : ∃ Z, Z = A ^ E % M := ⟨_, rfl⟩
    have lZ : (ds B64 Z).length ≤ 1000000000000 := by rw [hZ]; exact ds_mod_len hM0 lM
    rw [← hZ] at own ⊢
    have c7 := length_call own.sl (by omega)
    show W _ _ b1 _ _; subst hb1
    apply W_seq; intro b4 hb4
    apply W_seq; intro b5 hb5
    apply W_region
    simp [t9, c7, gtrMax]
    show W _ _ b5 _ _; subst hb5
    by_cases h1 : 67108864 < blen Z
    · refine W_cond (t := true) (by simp [h1]) ?_
      apply W_seq; intro b2 hb2
      apply W_region
      simp
      show W _ _ b2 _ _; subst hb2
      apply W_ret
      simp [seqQ]
      exact ⟨k05.trans kH, .inr (.inl ⟨hM0, h1, rfl⟩)⟩
    · refine W_cond (t := false) (by simp [h1]) ?_
      apply W_skip
      show W _ _ b4 _ _; subst hb4
      apply W_seq; intro b2 hb2
      apply W_region
      simp [t9]
      show W _ _ b2 _ _; subst hb2
      apply W_ret
      simp
      exact ⟨k05.trans kH, .inr (.inr ⟨hM0, by omega, pv, rfl, own⟩)⟩
  · refine W_cond (t := true) (by simp; omega) ?_
    apply W_skip
    show W _ _ b3 _ _; subst hb3
    obtain ⟨i, rfl⟩ : ∃ i, m = i + 1 := ⟨m - 1, by omega⟩
    have es' : ((i + 1 : Nat) : Int) - 1 = (i : Int) := by omega
    rw [es'] at t10
    obtain ⟨e, hee⟩ : ∃ e, e = E / 2 ^ (i + 1) := ⟨_, rfl⟩
    have hh := half_of (E := E) (i := i)
    rw [← hee] at hh own
    obtain ⟨p, hp⟩ : ∃ p, p = A ^ e % M := ⟨_, rfl⟩
    rw [← hp] at own
    have lp : (ds B64 p).length ≤ 1000000000000 := by rw [hp]; exact ds_mod_len hM0 lM
    have kH4 := k15.trans kH
    obtain ⟨r7, H7, c7, k7, o7⟩ := times_call own.sl own.sl (sm.keep kH4) lp lp lM hM0
    obtain ⟨p2, hp2⟩ : ∃ p2, p2 = p * p % M := ⟨_, rfl⟩
    rw [← hp2] at o7
    have ep2 : p2 = A ^ (2 * e) % M := by rw [hp2, hp]; exact pow_sq
    have lp2 : (ds B64 p2).length ≤ 1000000000000 := by rw [ep2]; exact ds_mod_len hM0 lM
    have o7' : Own H.n H7 r7 (ds B64 p2) := o7.mono (k05.trans kH).n (.refl _)
    have c8 := bit_call (he.keep ((k05.trans kH).trans k7)) de (i := i) (by omega)
    rw [← hEd] at c8
    obtain ⟨bt, hbt⟩ : ∃ bt, bt = E / 2 ^ i % 2 := ⟨_, rfl⟩
    rw [← hbt] at c8 hh
    refine W_thenK (fun s' => s'.k = 52 ∧ Keep H5 s'.H ∧ ∃ (pv : Value), Own H.n s'.H pv (ds B64 (A ^ (E / 2 ^ i) % M)) ∧
      s'.tm.get 0 = some r3 ∧ s'.tm.get 1 = some ve ∧ s'.tm.get 2 = some m1 ∧ s'.tm.get 9 = some pv ∧ s'.tm.get 10 = some (.int .i64 (i : Int))) ?_ ?_
    · intro Q'' hQ''
      apply W_block
      apply W_seq; intro b3 hb3
      apply W_region
      simp [t2, t9, c7]
      show W _ _ b3 _ _; subst hb3
      apply W_seq; intro b3 hb3
      apply W_region
      simp [t1, t10, c8, eqOne]
      show W _ _ b3 _ _; subst hb3
      by_cases hb : bt = 1
      · refine W_cond (t := true) (by simp [hb]) ?_
        obtain ⟨r9, H9, c9, k9, o9⟩ := times_call o7.sl ((or3.sl.keep (k4.trans k5)).keep (kH.trans k7)) ((sm.keep kH4).keep k7) lp2 la lM hM0
        have ev : p2 * a % M = A ^ (E / 2 ^ i) % M := by rw [hh, hb, ep2, hA]; exact pow_mul1
        rw [ev] at o9
        apply W_region
        simp [t0, t2, c9]
        apply hQ''
        exact ⟨rfl, (kH.trans k7).trans k9, r9, o9.mono ((k05.trans kH).trans k7).n (.refl _), by simp [t0], by simp [t1], by simp [t2], by simp, by simp [t10]⟩
      · refine W_cond (t := false) (by simp [hb]) ?_
        apply W_skip
        apply hQ''
        have hb0 : bt = 0 := by omega
        rw [hb0, Nat.add_zero] at hh
        rw [ep2, ← hh] at o7'
        exact ⟨rfl, kH.trans k7, r7, o7', by simp [t0], by simp [t1], by simp [t2], by simp, by simp [t10]⟩
    clear t0 t1 t2 t9 t10
    rintro ⟨k, tm, H8⟩ ⟨hk, kH8, pv', own', t0, t1, t2, t9, t10⟩
    simp only at hk kH8 own' t0 t1 t2 t9 t10
    subst hk
    apply W_region
    simp [t10, subL (x := i) (by omega)]
    apply hQ'
    exact ⟨i, by omega, rfl, kH8, by omega, pv', own', by simp [t0], by simp [t1], by simp [t2], by simp [t9], by simp⟩
end
end
end Go.Proofs.Ytldapilhmmbjhaa

/-
  surdlaw03.DivGcds: the walk.
-/
namespace Go.Proofs.Ytldapilhmmbjhaa
open Go Ev
set_option linter.unusedVariables false
set_option linter.unusedSimpArgs false
noncomputable section

def two (x0 x1 : List Nat) : Nat → List Nat
  | 0 => x0
  | _ => x1

theorem buildLL2 (H : AH) (v0 v1 : Value) (h0 : v0.cells = #[v0]) (h1 : v1.cells = #[v1]) :
    buildSliceV Try.prog H 62 2 [(0, v0), (1, v1)] = some (.slice (some ⟨H.n, 0, none⟩) 2 2, H.new 1 [v0, v1]) := by
  unfold buildSliceV
  simp only [tLL, zLst]
  have : Instr.fill (fun i => some (i * 1, 1)) ((Array.range (2 * 1)).map ((Value.slice none 0 0).cells[· % (Value.slice none 0 0).cells.size]!)) [(0, v0), (1, v1)] = some #[v0, v1] := by
    simp only [Instr.fill, h0, h1]
    kernel_rfl
  rw [this]
  have e : Nat.ble (2 * 1) (2 ^ 24) = true := by decide
  rw [e]
  rfl

theorem grp2 {n0 : Nat} {H : AH} {v0 v1 : Value} {x0 x1 : List Nat} (h0 : Own n0 H v0 x0) (h1 : Own n0 H v1 x1) (a01 : Apart v0 v1) (hn : n0 ≤ H.n) : Grp n0 (H.new 1 [v0, v1]) H.n [v0, v1] (two x0 x1) := by
  have hk := Keep.new H 1 [v0, v1]
  have sy : ∀ {v w : Value}, Apart v w → Apart w v := fun h c hc hc' => h c hc' hc
  refine ⟨hn, Nat.lt_succ_self _, by rw [AH.blk_new, if_pos rfl], ?_, ?_, ?_⟩
  · intro i w hi
    match i, hi with
    | 0, hi => cases hi; exact h0.mono (Nat.le_refl _) hk
    | 1, hi => cases hi; exact h1.mono (Nat.le_refl _) hk
  · intro i j w w' hij hi hj
    match i, j, hi, hj with
    | 0, 0, _, _ => exact absurd rfl hij
    | 1, 1, _, _ => exact absurd rfl hij
    | 0, 1, hi, hj => cases hi; cases hj; exact a01
    | 1, 0, hi, hj => cases hi; cases hj; exact sy a01
  · intro i w hi hw
    have := fun {v : Value} {x : List Nat} (h : Own n0 H v x) (e : vblk v = some H.n) => (h.blk_lo e).2
    match i, hi with
    | 0, hi => cases hi; exact absurd (this h0 hw) (Nat.lt_irrefl _)
    | 1, hi => cases hi; exact absurd (this h1 hw) (Nat.lt_irrefl _)

/-- What Mul answers, as the laws compare it. -/
theorem MulIs.ans {n0 N : Nat} {v : Value} {H' : AH} (h : MulIs n0 N v H') : ∃ (u : Value) (e : Nat) (xs : List Nat), v = .tuple #[u, .int .i64 (e : Int)] ∧ e < 1000 ∧ Own n0 H' u xs ∧ SameIs xs e N 0 ∧ (xs = [] ∨ xs = ds B64 N) := by
  rcases h with ⟨h, rfl⟩ | ⟨h, u, rfl, o⟩
  · exact ⟨.slice none 0 0, 3, [], rfl, by decide, .nil, .inr (.inl ⟨rfl, h, rfl, rfl⟩), .inl rfl⟩
  · exact ⟨u, 0, ds B64 N, rfl, by decide, o, .inr (.inr ⟨rfl, h, rfl, rfl⟩), .inr rfl⟩

attribute [-simp] Int.natCast_add Int.natCast_mul Int.natCast_ediv Int.natCast_emod Int.natCast_pow
attribute [local simp] strip stripL LW' LR gW evOp oMove oAssign oPick oBinOp oUnOp oConvert oExtract oIndexAddr oIndex oLoad oStore oSlice oMakeSlice oCall oBuildSlice opd opds optOpd plain plain1 Tr.get_set tmOf builtinV binV isShift sameKind undef resultV resOne packV ltNat ltNum ltLst calleeV parts lss_nat unV DW grdOf heapOp LX isStore

set_option maxHeartbeats 1000000 in
theorem divGcds_spec {H : AH} {va vb : Value} {xs ys : List Nat} (ha : Sl H va xs) (hb : Sl H vb ys) (dx : Dig B64 xs) (dy : Dig B64 ys) (lx : xs.length ≤ 1048576) (ly : ys.length ≤ 1048576) :
    CW Try.prog cfg0 6 [va, vb] H fun v H' => Keep H H' ∧ v = .bool true := by
  have hLim : Lim = 2000000000000 := rfl
  refine CW_intro 57 (by decide) (by decide) Try.func6 rfl rfl ?_
  obtain ⟨w, p, H1, c1, k1, sw, sp⟩ := lend_call ha (by omega)
  obtain ⟨o1, H2, c2, k2, oo1, lo1⟩ := of_call (ha.keep k1) dx (by omega)
  obtain ⟨o2, H3, c3, k3, oo2, lo2⟩ := of_call ((hb.keep k1).keep k2) dy (by omega)
  have k13 := k2.trans k3
  obtain ⟨g, H4, c4, k4, og⟩ := gcd_spec (sp.keep k13) (hb.keep (k1.trans k13)) dx dy (by omega) (by omega)
  have k14 := k13.trans k4
  obtain ⟨v5, H5, c5, k5, a5⟩ := lcm_spec (sp.keep k14) (hb.keep (k1.trans k14)) dx dy (by omega) (by omega)
  obtain ⟨l, e, xl, rfl, he, ol, sl, hxl⟩ := a5.ans
  have k15 := k14.trans k5
  have k35 := k4.trans k5
  have lgA : (ds B64 (Nat.gcd (dv B64 xs) (dv B64 ys))).length ≤ 1048576 := by
    rcases Nat.eq_zero_or_pos (dv B64 xs) with h | h
    · rw [h, Nat.gcd_zero_left]; exact Nat.le_trans (ds64_len dy) ly
    · exact Nat.le_trans (ds_len_mono two64 (Nat.gcd_le_left _ h)) (Nat.le_trans (ds64_len dx) lx)
  have lA : (ds b32 (dv B64 xs)).length ≤ 2 * Lim := lo1
  have lB : (ds b32 (dv B64 ys)).length ≤ 2 * Lim := lo2
  have lAx : (ds b32 (dv B64 xs)).length ≤ 2097152 := by
    have := dv_lt (halves_dig dx)
    rw [halves_dv, halves_len] at this
    exact Nat.le_trans (ds_len_le two32 this) (by omega)
  have lBx : (ds b32 (dv B64 ys)).length ≤ 2097152 := by
    have := dv_lt (halves_dig dy)
    rw [halves_dv, halves_len] at this
    exact Nat.le_trans (ds_len_le two32 this) (by omega)
  have lL : (ds b32 (dv B64 xs / Nat.gcd (dv B64 xs) (dv B64 ys) * dv B64 ys)).length ≤ 4194304 := by
    refine Nat.le_trans ds32_mul_len ?_
    have := ds_len_mono two32 (Nat.div_le_self (dv B64 xs) (Nat.gcd (dv B64 xs) (dv B64 ys)))
    omega
  generalize dv B64 xs = A at *
  generalize dv B64 ys = B at *
  obtain ⟨g2, H6, c6, k6, s6⟩ := refGcd_spec (oo1.sl.keep (k3.trans k35)) (oo2.sl.keep k35) lA lB
  have lg32 : (ds b32 (Nat.gcd A B)).length ≤ 17592186000000 := by
    rcases Nat.eq_zero_or_pos A with h | h
    · rw [h, Nat.gcd_zero_left]; omega
    · exact Nat.le_trans (ds_len_mono two32 (Nat.gcd_le_left B h)) (by omega)
  obtain ⟨_, H7, c7, k7, e7⟩ := is_spec s6 (og.sl.keep (k5.trans k6)) (ds_dig two32 _) lg32
  subst e7
  rw [pairs_ds, decide_eq_true rfl] at c7
  have k57 := k6.trans k7
  obtain ⟨lw, H8, c8, k8, s8⟩ := refLcm_spec ((oo1.sl.keep (k3.trans k35)).keep k57) ((oo2.sl.keep k35).keep k57) lA lB
  obtain ⟨_, H9, c9, k9, rfl⟩ := same_spec (ol.sl.keep (k57.trans k8)) s8 (by omega) sl he (by decide)
  have c9 : callI Try.prog cfg0 16 [l, .int .i64 (e : Int), lw, .int .i64 0] H8 = some (.bool true, H9) := c9
  have k59 := (k57.trans k8).trans k9
  have ogF := (og.mono (show H1.n ≤ H3.n from k13.n) (k5.trans k59))
  have olF := (ol.mono (show H1.n ≤ H4.n from k14.n) k59)
  have hbl := buildLL2 H9 g l ogF.isSlice.1 olF.isSlice.1
  have k19 := k15.trans k59
  have grp := grp2 ogF olF (apart_own og ol (Nat.le_refl _)) k19.n
  obtain ⟨_, H10, c10, rfl, ka10⟩ := ownRef_spec grp (by simp) (fun i => by
    match i with
    | 0 => show (ds B64 (Nat.gcd A B)).length ≤ _; omega
    | (n + 1) =>
      show xl.length ≤ _
      rcases hxl with rfl | rfl
      · exact Nat.zero_le _
      · have := ds_len_32 lL; omega)
  have c10 : callI Try.prog cfg0 17 [.slice (some ⟨H9.n, 0, none⟩) 2 2] (H9.new 1 [g, l]) = some (.bool true, H10) := c10
  have k110 : Keep H1 H10 := ka10 H1 (k19.trans (.new _ _ _)) (Nat.le_refl _)
  obtain ⟨_, H11, c11, e11, rfl⟩ := kept_spec (sw.keep k110) ((ha.keep k1).keep k110) (by omega)
  rw [e11] at c11
  obtain ⟨H12, c12, k12⟩ := lives_call H10
  apply W_seq; intro b1 hb1
  apply W_region
  simp
  show W _ _ b1 _ _; subst hb1
  apply W_seq; intro b1 hb1
  apply W_region
  simp [c1]
  show W _ _ b1 _ _; subst hb1
  apply W_seq; intro b1 hb1
  apply W_region
  simp [c2, c3]
  show W _ _ b1 _ _; subst hb1
  apply W_seq; intro b1 hb1
  apply W_region
  simp [c4]
  show W _ _ b1 _ _; subst hb1
  apply W_seq; intro b1 hb1
  apply W_region
  simp [c5]
  show W _ _ b1 _ _; subst hb1
  apply W_seq; intro b1 hb1
  apply W_region
  simp [c6, c7, c8, c9, hbl, c10, c11, c12]
  show W _ _ b1 _ _; subst hb1
  apply W_ret
  simp
  exact (k1.trans k110).trans k12
end
end Go.Proofs.Ytldapilhmmbjhaa

/-
  surdlaw03.DivPowers: the walk.
-/
namespace Go.Proofs.Ytldapilhmmbjhaa
open Go Ev
set_option linter.unusedVariables false
set_option linter.unusedSimpArgs false
noncomputable section

attribute [-simp] Int.natCast_add Int.natCast_mul Int.natCast_ediv Int.natCast_emod Int.natCast_pow
attribute [local simp] strip stripL LW' LR gW evOp oMove oAssign oPick oBinOp oUnOp oConvert oExtract oIndexAddr oIndex oLoad oStore oSlice oMakeSlice oCall oBuildSlice opd opds optOpd plain plain1 Tr.get_set tmOf builtinV binV isShift sameKind undef resultV resOne packV ltNat ltNum ltLst calleeV parts lss_nat unV DW grdOf heapOp LX isStore

theorem OneIs.ans {n0 M Z : Nat} {v : Value} {H' : AH} (h : OneIs n0 M Z v H') : ∃ (u : Value) (e : Nat) (xs : List Nat), v = .tuple #[u, .int .i64 (e : Int)] ∧ e < 1000 ∧ Own n0 H' u xs ∧ (xs = [] ∨ xs = ds B64 Z) ∧ (M = 0 → SameIs xs e 0 30) ∧ (0 < M → SameIs xs e Z 0) := by
  rcases h with ⟨h, rfl⟩ | ⟨h, hZ, rfl⟩ | ⟨h, hZ, u, rfl, o⟩
  · exact ⟨.slice none 0 0, 30, [], rfl, by decide, .nil, .inl rfl, fun _ => .inl ⟨by decide, rfl, rfl⟩, fun h' => by omega⟩
  · exact ⟨.slice none 0 0, 3, [], rfl, by decide, .nil, .inl rfl, fun h' => by omega, fun _ => .inr (.inl ⟨rfl, hZ, rfl, rfl⟩)⟩
  · exact ⟨u, 0, ds B64 Z, rfl, by decide, o, .inr rfl, fun h' => by omega, fun _ => .inr (.inr ⟨rfl, hZ, rfl, rfl⟩)⟩

theorem ds32_of {xs : List Nat} (dx : Dig B64 xs) {L : Nat} (lx : xs.length ≤ L) : (ds b32 (dv B64 xs)).length ≤ 2 * L := by
  have := dv_lt (halves_dig dx)
  rw [halves_dv, halves_len] at this
  exact Nat.le_trans (ds_len_le two32 this) (by omega)

set_option maxHeartbeats 1000000 in
theorem divPowers_spec {H : AH} {va vb vc : Value} {xs ys zs : List Nat} (ha : Sl H va xs) (hb : Sl H vb ys) (hc : Sl H vc zs) (dx : Dig B64 xs) (dy : Dig B64 ys) (dz : Dig B64 zs) (lx : xs.length ≤ 1048576) (ly : ys.length ≤ 1048576) (lz : zs.length ≤ 1048576) :
    CW Try.prog cfg0 9 [va, vb, vc] H fun v H' => Keep H H' ∧ v = .bool true := by
  have hLim : Lim = 2000000000000 := rfl
  refine CW_intro 41 (by decide) (by decide) Try.func9 rfl rfl ?_
  obtain ⟨v1, H1, c1, k1, a1⟩ := power_spec ha hb hc dx dy dz (by omega) (by omega) (by omega)
  obtain ⟨p, e, xp, rfl, he, op, hxp, s0, s1⟩ := a1.ans
  obtain ⟨o1, H2, c2, k2, oo1, lo1⟩ := of_call (ha.keep k1) dx (by omega)
  obtain ⟨o2, H3, c3, k3, oo2, lo2⟩ := of_call (hb.keep (k1.trans k2)) dy (by omega)
  obtain ⟨o3, H4, c4, k4, oo3, lo3⟩ := of_call (hc.keep ((k1.trans k2).trans k3)) dz (by omega)
  have lA := ds32_of dx lx
  have lB := ds32_of dy ly
  have lC := ds32_of dz lz
  have lM : (ds B64 (dv B64 zs)).length ≤ 1048576 := Nat.le_trans (ds64_len dz) lz
  generalize dv B64 xs = A at *
  generalize dv B64 ys = E at *
  generalize dv B64 zs = M at *
  obtain ⟨v5, H5, c5, k5, a5⟩ := refPower_spec (oo1.sl.keep (k3.trans k4)) (oo2.sl.keep k4) oo3.sl (by omega) (by omega) (by omega)
  obtain ⟨Z, hZ⟩ : ∃ Z, Z = A ^ E % M := ⟨_, rfl⟩
  rw [← hZ] at hxp s1 a5
  obtain ⟨w, code, N, rfl, hcode, sw, lN, ss⟩ : ∃ (w : Value) (code N : Nat), v5 = .tuple #[w, .int .i64 (code : Int)] ∧ code < 1000 ∧ Sl H5 w (ds b32 N) ∧ (ds b32 N).length ≤ 4000000000000 ∧ SameIs xp e N code := by
    rcases a5 with ⟨h, rfl⟩ | ⟨h, u, rfl, o⟩
    · exact ⟨.slice none 0 0, 30, 0, rfl, by decide, by rw [ds_zero]; exact .nil, by rw [ds_zero]; decide, s0 h⟩
    · exact ⟨u, 0, Z, rfl, by decide, o.sl, by rw [hZ]; exact ds32_mod_len h (by omega), s1 h⟩
  have k15 := ((k2.trans k3).trans k4).trans k5
  obtain ⟨_, H6, c6, k6, rfl⟩ := same_spec (op.sl.keep k15) sw (by omega) ss he hcode
  have opF := op.mono (Nat.le_refl _) (k15.trans k6)
  have hbl := buildLL1 H6 p opF.isSlice.1
  have k06 := (k1.trans k15).trans k6
  have grp := grp1 opF k06.n
  obtain ⟨_, H7, c7, rfl, ka7⟩ := ownRef_spec grp (by simp) (fun i => by
    rcases hxp with rfl | rfl
    · exact Nat.zero_le _
    · rcases Nat.eq_zero_or_pos M with h | h
      · rcases s0 h with ⟨_, _, h2⟩ | ⟨h2, _⟩ | ⟨h2, _⟩
        · rw [h2]; exact Nat.zero_le _
        · exact absurd h2 (by decide)
        · exact absurd h2 (by decide)
      · rw [hZ]; exact ds_mod_len h (by omega))
  have c7 : callI Try.prog cfg0 17 [.slice (some ⟨H6.n, 0, none⟩) 1 1] (H6.new 1 [p]) = some (.bool true, H7) := c7
  have k07 : Keep H H7 := ka7 H (k06.trans (.new _ _ _)) (Nat.le_refl _)
  obtain ⟨H8, c8, k8⟩ := lives_call H7
  apply W_seq; intro b1 hb1
  apply W_region
  simp
  show W _ _ b1 _ _; subst hb1
  apply W_seq; intro b1 hb1
  apply W_region
  simp [c1]
  show W _ _ b1 _ _; subst hb1
  apply W_seq; intro b1 hb1
  apply W_region
  simp [c2, c3, c4, c5]
  show W _ _ b1 _ _; subst hb1
  apply W_seq; intro b1 hb1
  apply W_region
  simp [c6, hbl, c7, c8]
  show W _ _ b1 _ _; subst hb1
  apply W_ret
  simp
  exact k07.trans k8
end
end Go.Proofs.Ytldapilhmmbjhaa

/-
  surdlaw03.DivBack: the walk.
-/
namespace Go.Proofs.Ytldapilhmmbjhaa
open Go Ev
set_option linter.unusedVariables false
set_option linter.unusedSimpArgs false
noncomputable section

theorem blen_mono {n m : Nat} (h : n ≤ m) : blen n ≤ blen m := by
  rcases Nat.eq_zero_or_pos n with h0 | h0
  · subst h0; exact Nat.zero_le _
  · have h1 := blen_ge (n := n) (by omega)
    have h2 := blen_lt m
    have := (Nat.pow_lt_pow_iff_right (a := 2) (by decide)).mp (Nat.lt_of_le_of_lt (Nat.le_trans h1 h) h2)
    omega

theorem blen_mul_le (A B : Nat) : blen (A * B) ≤ blen A + blen B := by
  rcases Nat.eq_zero_or_pos (A * B) with h0 | h0
  · rw [h0]; exact Nat.zero_le _
  · have h1 := blen_lt A
    have h2 := blen_lt B
    have h3 : A * B < 2 ^ (blen A + blen B) := by rw [Nat.pow_add]; exact Nat.mul_lt_mul'' h1 h2
    have h4 := blen_ge (n := A * B) (by omega)
    have := (Nat.pow_lt_pow_iff_right (a := 2) (by decide)).mp (Nat.lt_of_le_of_lt h4 h3)
    omega

theorem MulIs.ok {n0 N : Nat} {v : Value} {H' : AH} (h : MulIs n0 N v H') (hb : blen N ≤ 67108864) : ∃ u, v = .tuple #[u, .int .i64 0] ∧ Own n0 H' u (ds B64 N) := by
  rcases h with ⟨h, _⟩ | ⟨_, h⟩
  · omega
  · exact h

theorem ds64_blen {N L : Nat} (h : blen N ≤ 64 * L) : (ds B64 N).length ≤ L := by
  refine ds_len_le two64 ?_
  have h1 := blen_lt N
  have h2 : 2 ^ blen N ≤ 2 ^ (64 * L) := Nat.pow_le_pow_right (by decide) h
  rw [Nat.pow_mul] at h2
  exact Nat.lt_of_lt_of_le h1 h2

theorem lengthx_call {H : AH} {v : Value} {xs : List Nat} (h : Sl H v xs) (dx : Dig B64 xs) (lx : xs.length ≤ Lim) : callI Try.prog cfg0 31 [v] H = some (.int .i64 (blen (dv B64 xs) : Int), H) := by
  obtain ⟨_, _, hc, rfl, rfl⟩ := length_spec h dx (Nat.le_trans lx (by decide))
  exact hc

theorem cmp_eq {H : AH} {v w : Value} {xs ys : List Nat} {A : Nat} (hv : Sl H v xs) (hw : Sl H w ys) (dx : Dig B64 xs) (dy : Dig B64 ys) (lx : xs.length ≤ Lim) (ly : ys.length ≤ Lim) (e1 : dv B64 xs = A) (e2 : dv B64 ys = A) :
    callI Try.prog cfg0 33 [v, w] H = some (.int .i64 0, H) := by
  have := cmp_call hv hw dx dy lx ly
  rw [e1, e2, show cmpN A A = 0 by simp [cmpN]] at this
  exact this

attribute [-simp] Int.natCast_add Int.natCast_mul Int.natCast_ediv Int.natCast_emod Int.natCast_pow
attribute [local simp] strip stripL LW' LR gW evOp oMove oAssign oPick oBinOp oUnOp oConvert oExtract oIndexAddr oIndex oLoad oStore oSlice oMakeSlice oCall oBuildSlice opd opds optOpd plain plain1 Tr.get_set tmOf builtinV binV isShift sameKind undef resultV resOne packV ltNat ltNum ltLst calleeV parts lss_nat unV DW grdOf heapOp LX isStore

set_option maxHeartbeats 1000000 in
theorem divBack_spec {H : AH} {va vb : Value} {xs ys : List Nat} (ha : Sl H va xs) (hb : Sl H vb ys) (dx : Dig B64 xs) (dy : Dig B64 ys) (lx : xs.length ≤ 1048576) (ly : ys.length ≤ 1048576) :
    CW Try.prog cfg0 8 [va, vb] H fun v H' => Keep H H' ∧ v = .bool true := by
  have hLim : Lim = 2000000000000 := rfl
  refine CW_intro 73 (by decide) (by decide) Try.func8 rfl rfl ?_
  have c1 := lengthx_call ha dx (by omega)
  have c2 := lengthx_call hb dy (by omega)
  apply W_seq; intro b1 hb1
  apply W_region
  simp
  show W _ _ b1 _ _; subst hb1
  apply W_seq; intro b1 hb1
  apply W_seq; intro b2 hb2
  apply W_region
  have big : ∀ tm : Tr Value, tm.get 19 = some (.bool true) → W Try.prog cfg0 b2 ⟨73, tm, H⟩ (seqQ Try.prog cfg0 b1 fun ex s => (ex = .norm ∨ ex = .ret) ∧ ∃ vs, resultV Try.prog s [.tmp 4] = some vs ∧ Keep H s.H ∧ packV vs = .bool true) := fun tm t19 => by
    obtain ⟨H', cl, kl⟩ := lives_call H
    subst hb2
    refine W_cond (t := true) (by simp [t19]) ?_
    apply W_seq; intro b2 hb2
    apply W_region
    simp [cl]
    show W _ _ b2 _ _; subst hb2
    apply W_ret
    simp [seqQ]
    exact kl
  by_cases hA : 67108864 < blen (dv B64 xs)
  · simp [c1, gtrMax, hA]
    show W _ _ b2 _ _
    exact big _ (by simp)
  · by_cases hB : 67108864 < blen (dv B64 ys)
    · simp [c1, c2, gtrMax, hA, hB]
      show W _ _ b2 _ _
      exact big _ (by simp)
    · simp [c1, c2, gtrMax, hA, hB]
      show W _ _ b2 _ _; subst hb2
      refine W_cond (t := false) (by simp) ?_
      apply W_skip
      show W _ _ b1 _ _; subst hb1
      obtain ⟨v3, H3, c3, k3, h3⟩ := both_spec ha hb dx dy (by omega) (by omega)
      have c4 := lengthx_call (hb.keep k3) dy (by omega)
      rcases h3 with ⟨hB0, rfl⟩ | ⟨hB0, hbig, _⟩ | ⟨hB0, hq, hr, q, r, rfl, oq, orr, _⟩
      · obtain ⟨H4, c5, k5⟩ := lives_call H3
        rw [hB0] at c4
        have c4 : callI Try.prog cfg0 31 [vb] H3 = some (.int .i64 0, H3) := c4
        have f0 : intBin .eql .i64 0 0 = some (.bool true) := rfl
        have f30 : intBin .eql .i64 30 30 = some (.bool true) := rfl
        apply W_seq; intro b1 hb1
        apply W_region
        simp [c3]
        show W _ _ b1 _ _; subst hb1
        apply W_seq; intro b1 hb1
        apply W_seq; intro b2 hb2
        apply W_region
        simp [c4, f0]
        show W _ _ b2 _ _; subst hb2
        refine W_cond (t := true) (by simp) ?_
        apply W_seq; intro b2 hb2
        apply W_region
        simp [f30, c5]
        show W _ _ b2 _ _; subst hb2
        apply W_ret
        simp [seqQ]
        exact k3.trans k5
      · exfalso
        have h1 := blen_mono (Nat.div_le_self (dv B64 xs) (dv B64 ys))
        have h2 := blen_mono (Nat.mod_le (dv B64 xs) (dv B64 ys))
        omega
      · have dA := Nat.div_add_mod (dv B64 xs) (dv B64 ys)
        have mlt := Nat.mod_lt (dv B64 xs) hB0
        have lA := Nat.le_trans (ds64_len dx) lx
        have lq : (ds B64 (dv B64 xs / dv B64 ys)).length ≤ 1048576 := Nat.le_trans (ds_len_mono two64 (Nat.div_le_self _ _)) lA
        have lr : (ds B64 (dv B64 xs % dv B64 ys)).length ≤ 1048576 := Nat.le_trans (ds_len_mono two64 (Nat.mod_le _ _)) lA
        obtain ⟨v5, H5, c5, k5, h5⟩ := mul_spec oq.sl (hb.keep k3) (ds_dig two64 _) dy (by omega) (by omega)
        rw [dv_ds two64] at h5
        have hqB : dv B64 xs / dv B64 ys * dv B64 ys ≤ dv B64 xs := Nat.div_mul_le_self _ _
        obtain ⟨p, rfl, op⟩ := h5.ok (by have := blen_mono hqB; omega)
        have lp : (ds B64 (dv B64 xs / dv B64 ys * dv B64 ys)).length ≤ 1048576 := Nat.le_trans (ds_len_mono two64 hqB) lA
        obtain ⟨v6, H6, c6, k6, h6⟩ := natAdd_spec op.sl (orr.sl.keep k5) (ds_dig two64 _) (ds_dig two64 _) (by omega) (by omega)
        rw [dv_ds two64, dv_ds two64, Nat.mul_comm, dA] at h6
        obtain ⟨s, rfl, os⟩ := h6.ok (by omega)
        have k36 := k5.trans k6
        have c7 := cmp_eq os.sl ((ha.keep k3).keep k36) (ds_dig two64 _) dx (by omega) (by omega) (dv_ds two64 _) rfl
        have c8 := cmp_call (orr.sl.keep k36) ((hb.keep k3).keep k36) (ds_dig two64 _) dy (by omega) (by omega)
        rw [dv_ds two64] at c8
        obtain ⟨H9, c9, k9⟩ := lives_call H6
        have hBn : ¬ blen (dv B64 ys) = 0 := by have := blen_pos.mpr hB0; omega
        have f0 : intBin .eql .i64 0 0 = some (.bool true) := rfl
        apply W_seq; intro b1 hb1
        apply W_region
        simp [c3]
        show W _ _ b1 _ _; subst hb1
        apply W_seq; intro b1 hb1
        apply W_seq; intro b2 hb2
        apply W_region
        simp [c4, eq0_nat, hBn]
        show W _ _ b2 _ _; subst hb2
        refine W_cond (t := false) (by simp) ?_
        apply W_skip
        show W _ _ b1 _ _; subst hb1
        apply W_seq; intro b1 hb1
        apply W_region
        simp [c5]
        show W _ _ b1 _ _; subst hb1
        apply W_seq; intro b1 hb1
        apply W_region
        simp [c6]
        show W _ _ b1 _ _; subst hb1
        apply W_seq; intro b1 hb1
        apply W_region
        simp [f0, c7, c8, lss0, cmpN_lt, mlt, c9]
        show W _ _ b1 _ _; subst hb1
        apply W_ret
        simp
        exact ((k3.trans k5).trans k6).trans k9
end
end Go.Proofs.Ytldapilhmmbjhaa

/-
  surdlaw03.DivAdds: the walk.
-/
namespace Go.Proofs.Ytldapilhmmbjhaa
open Go Ev
set_option linter.unusedVariables false
set_option linter.unusedSimpArgs false
noncomputable section

theorem blen_le_of {n k : Nat} (h : n < 2 ^ k) : blen n ≤ k := by
  rcases Nat.eq_zero_or_pos n with h0 | h0
  · subst h0; exact Nat.zero_le _
  · have h4 := blen_ge (n := n) (by omega)
    have := (Nat.pow_lt_pow_iff_right (a := 2) (by decide)).mp (Nat.lt_of_le_of_lt h4 h)
    omega

theorem blen_add77 {E : Nat} : blen (E + 77) ≤ blen E + 8 := by
  apply blen_le_of
  have h1 := blen_lt E
  rw [Nat.pow_add]
  have h2 : 0 < 2 ^ blen E := Nat.two_pow_pos _
  generalize 2 ^ blen E = P at *
  show E + 77 < P * 256
  omega

theorem OneIs.ok {n0 M Z : Nat} {v : Value} {H' : AH} (h : OneIs n0 M Z v H') (hM : 0 < M) (hb : blen Z ≤ 67108864) : ∃ u, v = .tuple #[u, .int .i64 0] ∧ Own n0 H' u (ds B64 Z) := by
  rcases h with ⟨h, _⟩ | ⟨_, h, _⟩ | ⟨_, _, h⟩
  · omega
  · omega
  · exact h

theorem gtrM20 {x : Nat} : intBin .gtr .i64 (x : Int) 1048576 = some (.bool (decide (1048576 < x))) := gtr_nat (y := 1048576)

attribute [-simp] Int.natCast_add Int.natCast_mul Int.natCast_ediv Int.natCast_emod Int.natCast_pow
attribute [local simp] strip stripL LW' LR gW evOp oMove oAssign oPick oBinOp oUnOp oConvert oExtract oIndexAddr oIndex oLoad oStore oSlice oMakeSlice oCall oBuildSlice opd opds optOpd plain plain1 Tr.get_set tmOf builtinV binV isShift sameKind undef resultV resOne packV ltNat ltNum ltLst calleeV parts lss_nat unV DW grdOf heapOp LX isStore

set_option maxHeartbeats 1000000 in
theorem divAdds_spec {H : AH} {va vb vc : Value} {xs ys zs : List Nat} (ha : Sl H va xs) (hb : Sl H vb ys) (hc : Sl H vc zs) (dx : Dig B64 xs) (dy : Dig B64 ys) (dz : Dig B64 zs) (lx : xs.length ≤ 1048576) (ly : ys.length ≤ 1048576) (lz : zs.length ≤ 1048576) :
    CW Try.prog cfg0 10 [va, vb, vc] H fun v H' => Keep H H' ∧ v = .bool true := by
  have hLim : Lim = 2000000000000 := rfl
  refine CW_intro 105 (by decide) (by decide) Try.func10 rfl rfl ?_
  have c1 := lengthx_call hc dz (by omega)
  have c2 := lengthx_call hb dy (by omega)
  have lA := Nat.le_trans (ds64_len dx) lx
  have lE := Nat.le_trans (ds64_len dy) ly
  have lM := Nat.le_trans (ds64_len dz) lz
  apply W_seq; intro b1 hb1
  apply W_region
  simp
  show W _ _ b1 _ _; subst hb1
  apply W_seq; intro b1 hb1
  apply W_seq; intro b2 hb2
  apply W_region
  have big : ∀ tm : Tr Value, tm.get 32 = some (.bool true) → W Try.prog cfg0 b2 ⟨105, tm, H⟩ (seqQ Try.prog cfg0 b1 fun ex s => (ex = .norm ∨ ex = .ret) ∧ ∃ vs, resultV Try.prog s [.tmp 6] = some vs ∧ Keep H s.H ∧ packV vs = .bool true) := fun tm t19 => by
    obtain ⟨H', cl, kl⟩ := lives_call H
    subst hb2
    refine W_cond (t := true) (by simp [t19]) ?_
    apply W_seq; intro b2 hb2
    apply W_region
    simp [cl]
    show W _ _ b2 _ _; subst hb2
    apply W_ret
    simp [seqQ]
    exact kl
  have e0 := eq0_nat (k := .i64) (x := blen (dv B64 zs))
  have g1 := gtrM20 (x := blen (dv B64 zs))
  have g2 := gtrM20 (x := blen (dv B64 ys))
  by_cases hM : blen (dv B64 zs) = 0
  · rw [decide_eq_true hM] at e0
    simp [c1, e0]
    show W _ _ b2 _ _
    exact big _ (by simp)
  rw [decide_eq_false hM] at e0
  by_cases hM2 : 1048576 < blen (dv B64 zs)
  · rw [decide_eq_true hM2] at g1
    simp [c1, e0, g1]
    show W _ _ b2 _ _
    exact big _ (by simp)
  rw [decide_eq_false hM2] at g1
  by_cases hE2 : 1048576 < blen (dv B64 ys)
  · rw [decide_eq_true hE2] at g2
    simp [c1, c2, e0, g1, g2]
    show W _ _ b2 _ _
    exact big _ (by simp)
  rw [decide_eq_false hE2] at g2
  simp [c1, c2, e0, g1, g2]
  show W _ _ b2 _ _; subst hb2
  refine W_cond (t := false) (by simp) ?_
  apply W_skip
  show W _ _ b1 _ _; subst hb1
  clear big e0 g1 g2 c1 c2
  have hM0 : 0 < dv B64 zs := blen_pos.mp (by omega)
  -- 77
  obtain ⟨f, H1, c1, k1, of⟩ := build1_call H ltNat 77
  have c1 : buildSliceV Try.prog H 24 1 [(0, .int .u64 77)] = some (f, H1) := c1
  have df : Dig B64 [77] := dig1 (by decide)
  have vf : dv B64 [77] = 77 := dv1 77
  obtain ⟨v2, H2, c2, k2, h2⟩ := natAdd_spec (hb.keep k1) of.sl dy df (by omega) (by simp [hLim])
  rw [vf] at h2
  have b77 := blen_add77 (E := dv B64 ys)
  obtain ⟨s, rfl, os⟩ := h2.ok (by omega)
  have ls : (ds B64 (dv B64 ys + 77)).length ≤ 1048576 := ds64_blen (by omega)
  have k02 := k1.trans k2
  -- the powers
  obtain ⟨v3, H3, c3, k3, h3⟩ := power_spec (ha.keep k02) (hb.keep k02) (hc.keep k02) dx dy dz (by omega) (by omega) (by omega)
  have k03 := k02.trans k3
  obtain ⟨v4, H4, c4, k4, h4⟩ := power_spec (ha.keep k03) (of.sl.keep (k2.trans k3)) (hc.keep k03) dx df dz (by omega) (by simp) (by omega)
  rw [vf] at h4
  have k04 := k03.trans k4
  obtain ⟨v5, H5, c5, k5, h5⟩ := power_spec (ha.keep k04) (os.sl.keep (k3.trans k4)) (hc.keep k04) dx (ds_dig two64 _) dz (by omega) (by omega) (by omega)
  rw [dv_ds two64] at h5
  have k05 := k04.trans k5
  obtain ⟨A, hA⟩ : ∃ A, A = dv B64 xs := ⟨_, rfl⟩
  obtain ⟨E, hE⟩ : ∃ E, E = dv B64 ys := ⟨_, rfl⟩
  obtain ⟨M, hMd⟩ : ∃ M, M = dv B64 zs := ⟨_, rfl⟩
  rw [← hA, ← hE, ← hMd] at h3 h5
  rw [← hA, ← hMd] at h4
  rw [← hMd] at hM0 hM hM2 lM
  obtain ⟨P, hP⟩ : ∃ P, P = A ^ E % M := ⟨_, rfl⟩
  obtain ⟨Q, hQ⟩ : ∃ Q, Q = A ^ 77 % M := ⟨_, rfl⟩
  obtain ⟨R, hR⟩ : ∃ R, R = A ^ (E + 77) % M := ⟨_, rfl⟩
  rw [← hP] at h3
  rw [← hQ] at h4
  rw [← hR] at h5
  have hPQ : P * Q % M = R := by rw [hP, hQ, hR, ← Nat.mul_mod, ← Nat.pow_add]
  have bP : blen P ≤ blen M := blen_mono (by rw [hP]; exact Nat.le_of_lt (Nat.mod_lt _ hM0))
  have bQ : blen Q ≤ blen M := blen_mono (by rw [hQ]; exact Nat.le_of_lt (Nat.mod_lt _ hM0))
  have bR : blen R ≤ blen M := blen_mono (by rw [hR]; exact Nat.le_of_lt (Nat.mod_lt _ hM0))
  have bPQ := blen_mul_le P Q
  clear hP hQ hR
  obtain ⟨p, rfl, op⟩ := h3.ok hM0 (by omega)
  obtain ⟨q, rfl, oq⟩ := h4.ok hM0 (by omega)
  obtain ⟨r, rfl, orr⟩ := h5.ok hM0 (by omega)
  have lP : (ds B64 P).length ≤ 1048576 := ds64_blen (by omega)
  have lQ : (ds B64 Q).length ≤ 1048576 := ds64_blen (by omega)
  have lR : (ds B64 R).length ≤ 1048576 := ds64_blen (by omega)
  have lPQ : (ds B64 (P * Q)).length ≤ 1048576 := ds64_blen (by omega)
  obtain ⟨v6, H6, c6, k6, h6⟩ := mul_spec (op.sl.keep (k4.trans k5)) (oq.sl.keep k5) (ds_dig two64 _) (ds_dig two64 _) (by omega) (by omega)
  rw [dv_ds two64, dv_ds two64] at h6
  obtain ⟨m, rfl, om⟩ := h6.ok (by omega)
  have k06 := k05.trans k6
  obtain ⟨v7, H7, c7, k7, h7⟩ := rest_spec om.sl (hc.keep k06) (ds_dig two64 _) dz (by omega) (by omega)
  rw [dv_ds two64, ← hMd, hPQ] at h7
  obtain ⟨t, rfl, ot⟩ := h7.ok hM0 (by omega)
  have k07 := k06.trans k7
  have c8 := cmp_eq (orr.sl.keep (k6.trans k7)) ot.sl (ds_dig two64 _) (ds_dig two64 _) (by omega) (by omega) (dv_ds two64 _) (dv_ds two64 _)
  obtain ⟨H9, c9, k9⟩ := lives_call H7
  have f0 : intBin .eql .i64 0 0 = some (.bool true) := rfl
  apply W_seq; intro b1 hb1
  apply W_region
  simp [c1]
  show W _ _ b1 _ _; subst hb1
  apply W_seq; intro b1 hb1
  apply W_region
  simp [c2]
  show W _ _ b1 _ _; subst hb1
  apply W_seq; intro b1 hb1
  apply W_region
  simp [c3]
  show W _ _ b1 _ _; subst hb1
  apply W_seq; intro b1 hb1
  apply W_region
  simp [c4]
  show W _ _ b1 _ _; subst hb1
  apply W_seq; intro b1 hb1
  apply W_region
  simp [c5]
  show W _ _ b1 _ _; subst hb1
  apply W_seq; intro b1 hb1
  apply W_region
  simp [c6]
  show W _ _ b1 _ _; subst hb1
  apply W_seq; intro b1 hb1
  apply W_region
  simp [c7]
  show W _ _ b1 _ _; subst hb1
  apply W_seq; intro b1 hb1
  apply W_region
  simp [f0, c8, c9]
  show W _ _ b1 _ _; subst hb1
  apply W_ret
  simp
  exact k07.trans k9
end
end Go.Proofs.Ytldapilhmmbjhaa

/-
  ARGUMENTS BEHIND A CALL that wrote nothing that lay there before: each reads as it read.
-/
namespace Go.Proofs.Ytldapilhmmbjhaa
open Go.ChangeShapes Go.WideShapes Go.ChangeAt Go.RowKit Go.Proofs.Ytldapilhmmbjhaa.Ev
set_option linter.unusedVariables false

theorem laidOut : laidOutB Try.prog = true := by kernel_rfl

theorem args_kept {P : Program} (hl : laidOutB P = true) {H : Type} {enc : TypeId × Value → H} {W W' : World} (hb : Below W.heap.size W W') : ∀ (ts : List TypeId) (vs : List Value) (ds : List (DataW H)) (ps : List MemPlace),
    (ts.all fun t => P.readableRec t && decide (t < P.types.size)) = true → DataW.TrodAll enc P W 0 (fun _ => true) true ts vs ds ps → (∀ x ∈ ps, x.block < W.heap.size) →
    DataW.TrodAll enc P W' 0 (fun b => decide (b < W.heap.size)) true ts vs ds ps
  | [], [], [], _, _, h, _ => h
  | t :: ts, v :: vs, d :: ds, _, ht, ⟨p, q, h1, h2, e⟩, hlt => by
    subst e
    rw [List.all_cons, Bool.and_eq_true, Bool.and_eq_true] at ht
    exact ⟨p, q, Below.trod hl ht.1.1 (of_decide_eq_true ht.1.2) h1 hb (fun x hx => hlt x (List.mem_append_left _ hx)),
      args_kept hl hb ts vs ds q ht.2 h2 (fun x hx => hlt x (List.mem_append_right _ hx)), rfl⟩

end Go.Proofs.Ytldapilhmmbjhaa

/-
  LISTS OF LIMBS AS ARGUMENTS: what the reading of one says; the abstract heap that holds it (read-only).
-/
namespace Go.Proofs.Ytldapilhmmbjhaa
open Go Go.ChangeShapes Go.WideShapes Go.RowKit Go.Proofs.Ytldapilhmmbjhaa.Ev
set_option linter.unusedVariables false
noncomputable section

theorem bulk_one {H : Type} (d : DataW H) : 1 ≤ Rows.uptoBulk d := by
  cases d with
  | lit l => cases l <;> simp [Rows.uptoBulk]
  | nil => simp [Rows.uptoBulk]
  | ptr d => simp [Rows.uptoBulk]
  | slice elems spare => simp [Rows.uptoBulk]
  | agg parts => simp [Rows.uptoBulk]
  | iface t d => simp [Rows.uptoBulk]
  | map entries => simp [Rows.uptoBulk]
  | held h => simp [Rows.uptoBulk]

theorem bulk_len {H : Type} (l : List (DataW H)) : l.length ≤ Rows.uptoBulkAll l := by
  induction l with
  | nil => simp [Rows.uptoBulkAll]
  | cons x r ih => have := bulk_one x; simp only [Rows.uptoBulkAll, List.length_cons]; omega

theorem bulk_slice {H : Type} (elems spare : List (DataW H)) : elems.length ≤ Rows.uptoBulk (.slice elems spare) := by
  have h1 := bulk_len elems
  simp only [Rows.uptoBulk]
  omega

theorem bulk_part {H : Type} {d : DataW H} {l : List (DataW H)} (h : d ∈ l) : Rows.uptoBulk d ≤ Rows.uptoBulkAll l := by
  induction l with
  | nil => cases h
  | cons x r ih =>
    simp only [Rows.uptoBulkAll]
    cases List.mem_cons.1 h with
    | inl e => subst e; omega
    | inr e => have := ih e; omega

theorem bulk_bound {H : Type} {l : List (DataW H)} (hk : Rows.uptoSmall H l = true) : Rows.uptoBulkAll l ≤ 1048576 := of_decide_eq_true hk

/-- What lies behind an argument's slice. -/
def ArgIs (W : World) (v : Value) (xs : List Nat) : Prop :=
  (v = .slice none 0 0 ∧ xs = []) ∨ ∃ (a : Addr) (cap : Nat), v = .slice (some a) xs.length cap ∧ xs.length ≤ cap ∧ ∀ (i x : Nat), xs[i]? = some x → W.cell? (a.add i) = some (.int .u64 (x : Int))

theorem cU64 : Try.prog.cellsOf 55 = 1 := by kernel_rfl

theorem open_limbs {H : Type} {enc : TypeId × Value → H} {W : World} {r : Reach} {b0 : Nat} {t : TypeId} {v : Value} {d : DataW H} {ps : List MemPlace} (ht : Try.prog.underlying t = some (.slice 55)) (hval : Value.okWide Try.prog W r b0 t v)
    (h : DataW.Trod enc Try.prog W 0 (fun _ => true) true t v d ps) : ∃ xs, Dig 18446744073709551616 xs ∧ xs.length ≤ Rows.uptoBulk d ∧ ArgIs W v xs := by
  obtain ⟨fuel, hf⟩ := h
  obtain ⟨a, len, cap, rfl⟩ := okWide_slice ht hval
  have hc : (Value.slice a len cap).cells.toList = [.slice a len cap] := rfl
  rw [hc] at hf
  rcases Deep.open_slice1 ht cU64 hf with ⟨h1, h2⟩ | ⟨a', len', cap', m, n, V, D, Pl, h1, _, hl, _, hm, hx, hV⟩
  · cases h1
    exact ⟨[], .nil _, Nat.zero_le _, .inl ⟨rfl, rfl⟩⟩
  · cases h1
    rw [if_pos rfl] at hm
    rw [hm] at hx hV
    have hval : ∀ i, i < cap → ∃ x : Nat, V i = .int .u64 (x : Int) ∧ x < 18446744073709551616 := fun i hi => by
      obtain ⟨n', c', x', w'⟩ := DataW.trod_int Try.underlying55 (hV i hi).2
      simp at c'
      simp only [Lit.wf, Bool.and_eq_true, decide_eq_true_eq] at w'
      have e1 : IntKind.u64.min = 0 := by decide
      have e2 : IntKind.u64.max = 18446744073709551615 := by decide
      exact ⟨n'.toNat, by rw [c']; congr 1; omega, by omega⟩
    let f : Nat → Nat := fun i => match V i with | .int _ z => z.toNat | _ => 0
    have hfe : ∀ i, i < cap → V i = .int .u64 ((f i : Nat) : Int) ∧ f i < 18446744073709551616 := fun i hi => by
      obtain ⟨x, h1, h2⟩ := hval i hi
      have : f i = x := by show (match V i with | .int _ z => z.toNat | _ => 0) = x; rw [h1]; simp
      rw [this]; exact ⟨h1, h2⟩
    refine ⟨(List.range len).map f, ?_, ?_, .inr ⟨a', cap, by simp, by simpa using hl, ?_⟩⟩
    · intro x hx
      obtain ⟨i, hi, rfl⟩ := List.mem_map.mp hx
      exact (hfe i (Nat.lt_of_lt_of_le (List.mem_range.mp hi) hl)).2
    · simp only [Prod.mk.injEq] at hx
      rw [hx.1]
      have := bulk_slice ((List.range len).map D) ((List.range (cap - len)).map fun j => D (len + j))
      simpa using this
    · intro i x hi
      rw [List.getElem?_map] at hi
      by_cases hil : i < len
      · rw [List.getElem?_range hil] at hi
        cases hi
        have hic : i < cap := Nat.lt_of_lt_of_le hil hl
        rw [(hV i hic).1, (hfe i hic).1]
      · rw [List.getElem?_eq_none (by simp; omega)] at hi
        cases hi

/-- One argument more in the abstract heap. -/
theorem add_arg {W : World} {S : Nat → Prop} {L : Nat → Ev.Loc} {H : AH} (hI : Inv W.heap.size S L H W) {v : Value} {xs : List Nat} (h : ArgIs W v xs) :
    ∃ (S' : Nat → Prop) (L' : Nat → Ev.Loc) (H' : AH) (v0 : Value), Inv W.heap.size S' L' H' W ∧ (∀ i, S i → S' i) ∧ (∀ i, S i → L' i = L i) ∧ VR S' L' v0 v ∧ Sl H' v0 xs ∧ Keep H H' := by
  rcases h with ⟨rfl, rfl⟩ | ⟨a, cap, rfl, hcap, hc⟩
  · exact ⟨S, L, H, .slice none 0 0, hI, fun _ h => h, fun _ _ => rfl, .nilSlice, .nil, .refl H⟩
  · by_cases h0 : xs.length = 0
    · obtain rfl : xs = [] := List.length_eq_zero_iff.mp h0
      exact ⟨S, L, H, _, hI, fun _ h => h, fun _ _ => rfl, .emp 0 a cap, .emp 0, .refl H⟩
    · have hx0 := hc 0 xs[0] (List.getElem?_eq_getElem (by omega))
      have ea : a.add 0 = a := rfl
      rw [ea] at hx0
      have hspot : a.spot = none := by
        unfold World.cell? at hx0
        cases hs : a.spot with
        | none => rfl
        | some q =>
          rw [hs] at hx0
          split at hx0
          · simp at hx0
          · cases hx0
      have hblk : a.block < W.heap.size := World.block_lt_of_cell? W a hx0
      have hadd : ∀ k, a.add k = ⟨a.block, a.off + k, none⟩ := fun k => by
        unfold Addr.add
        by_cases hk : k = 0
        · subst hk; rw [if_pos rfl]
          cases a with
          | mk b o s => simp at hspot; subst hspot; rfl
        · rw [if_neg hk]
      have hn : ∀ i, S i → i ≠ H.n := fun i hi e => by have := hI.bd i hi; omega
      let L' : Nat → Ev.Loc := fun i => if i = H.n then ⟨a.block, a.off, 1, a.off + cap⟩ else L i
      let S' : Nat → Prop := fun i => i = H.n ∨ S i
      have hL : ∀ i, S i → L' i = L i := fun i hi => if_neg (hn i hi)
      have hLn : L' H.n = ⟨a.block, a.off, 1, a.off + cap⟩ := if_pos rfl
      let H' : AH := { n := H.n + 1, lw := H.lw, t := H.t.set H.n (.ro 1 (xs.map fun x : Nat => Value.int .u64 (x : Int))) }
      have hb : ∀ j, H'.blk j = if j = H.n then .ro 1 (xs.map fun x : Nat => Value.int .u64 (x : Int)) else H.blk j := fun j => by
        show (match (H.t.set H.n _).get j with | some b => b | none => Blk.dead) = _
        rw [Tr.get_set]
        by_cases e : j = H.n
        · rw [if_pos e, if_pos e]
        · rw [if_neg e, if_neg e]; rfl
      refine ⟨S', L', H', .slice (some ⟨H.n, 0, none⟩) xs.length xs.length, ⟨?_, ?_, ?_, ?_, hI.base⟩, fun i hi => .inr hi, hL, ?_, ?_, ?_⟩
      · intro i sz cs hi
        rw [hb] at hi
        by_cases e : i = H.n
        · rw [if_pos e] at hi
          cases hi
          subst e
          rw [hLn]
          refine ⟨.inl rfl, hblk, rfl, fun k v hk => ?_⟩
          rw [List.getElem?_map] at hk
          cases hxk : xs[k]? with
          | none => rw [hxk] at hk; cases hk
          | some x =>
            rw [hxk] at hk
            cases hk
            refine ⟨.int .u64 (x : Int), ?_, .int _ _⟩
            have := hc k x hxk
            rwa [hadd k] at this
        · rw [if_neg e] at hi
          obtain ⟨h1, h2, h3, h4⟩ := hI.ro i sz cs hi
          rw [hL i h1]
          refine ⟨.inr h1, h2, h3, fun k v hk => ?_⟩
          obtain ⟨v', h5, h6⟩ := h4 k v hk
          exact ⟨v', h5, h6.mono (fun _ h => .inr h) hL⟩
      · intro i sz cs hi
        rw [hb] at hi
        by_cases e : i = H.n
        · rw [if_pos e] at hi; cases hi
        · rw [if_neg e] at hi
          obtain ⟨h1, h2, h3, C, e', h4, h5, h6⟩ := hI.rw i sz cs hi
          rw [hL i h1]
          refine ⟨.inr h1, h2, h3, C, e', h4, h5, fun k v hk => ?_⟩
          obtain ⟨v', h7, h8⟩ := h6 k v hk
          exact ⟨v', h7, h8.mono (fun _ h => .inr h) hL⟩
      · intro i j sz cs sz' cs' hi hj hg
        rw [hb] at hi hj
        by_cases e : i = H.n
        · rw [if_pos e] at hi; cases hi
        · by_cases e2 : j = H.n
          · rw [if_pos e2] at hj; cases hj
          · rw [if_neg e] at hi
            rw [if_neg e2] at hj
            rw [hL i (hI.rw i _ _ hi).1, hL j (hI.rw j _ _ hj).1] at hg
            exact hI.dj i j _ _ _ _ hi hj hg
      · intro i hi
        rcases hi with hi | hi
        · subst hi; exact Nat.lt_succ_self _
        · exact Nat.lt_succ_of_lt (hI.bd i hi)
      · have hv := VR.slice (S := S') (L := L') H.n 0 xs.length xs.length cap (.inl rfl) hcap (Nat.le_refl _) (by rw [hLn]; simp)
        rw [hLn] at hv
        have e : (some (⟨a.block, a.off + 0, none⟩ : Addr)) = some a := by
          congr 1
          cases a with
          | mk b o s => simp at hspot; subst hspot; rfl
        rw [e] at hv
        exact hv
      · refine .mk H.n 0 xs.length xs (Nat.le_refl _) ⟨Nat.lt_succ_self _, xs.map fun x : Nat => Value.int .u64 (x : Int), ?_, ?_, fun i x hx => ?_, Nat.zero_le _⟩
        · unfold AH.cells; rw [hb, if_pos rfl]
        · unfold AH.size; rw [hb, if_pos rfl]
        · rw [Nat.zero_add, List.getElem?_map, hx]; rfl
      · exact ⟨Nat.le_succ _, Nat.min_le_left _ _, fun j hj => by rw [hb, if_neg (by omega)]⟩

/-- A law over two lists of limbs, on the machine. -/
theorem calls2 {f : Nat} {fn : Func} (hf : Try.prog.funcs[f]? = some fn) (hb : fn.body.isSome = true) {W : World} {v v' : Value} {xs ys : List Nat} (h1 : ArgIs W v xs) (h2 : ArgIs W v' ys)
    (hrun : ∀ (H : AH) (va vb : Value), Sl H va xs → Sl H vb ys → ∃ H', callI Try.prog cfg0 f [va, vb] H = some (.bool true, H')) :
    Calls Try.prog f #[v, v'] W fun e w' => e = .returned (.bool true) ∧ Below W.heap.size W w' := by
  obtain ⟨S1, L1, H1, v1, I1, s1, l1, r1, q1, k1⟩ := add_arg (noHeap_inv W) h1
  obtain ⟨S2, L2, H2, v2, I2, s2, l2, r2, q2, k2⟩ := add_arg I1 h2
  obtain ⟨H', hc⟩ := hrun H2 v1 v2 (q1.keep k2) q2
  obtain ⟨n, hr⟩ := callI_run hc
  have := run_calls (cfg_ok 0) hr hf hb (fun g hg => absurd hg (Nat.not_lt_zero g)) I2 (args' := [v, v']) (.cons (r1.mono s2 l2) (.cons r2 .nil))
  refine this.mono fun e w' ⟨v', he, hg⟩ => ?_
  have hbel := hg.below I2
  obtain ⟨L', _, _, hv⟩ := hg
  cases hv
  exact ⟨he, hbel⟩

/-- A law over three lists of limbs, on the machine. -/
theorem calls3 {f : Nat} {fn : Func} (hf : Try.prog.funcs[f]? = some fn) (hb : fn.body.isSome = true) {W : World} {v v' v'' : Value} {xs ys zs : List Nat} (h1 : ArgIs W v xs) (h2 : ArgIs W v' ys) (h3 : ArgIs W v'' zs)
    (hrun : ∀ (H : AH) (va vb vc : Value), Sl H va xs → Sl H vb ys → Sl H vc zs → ∃ H', callI Try.prog cfg0 f [va, vb, vc] H = some (.bool true, H')) :
    Calls Try.prog f #[v, v', v''] W fun e w' => e = .returned (.bool true) ∧ Below W.heap.size W w' := by
  obtain ⟨S1, L1, H1, v1, I1, s1, l1, r1, q1, k1⟩ := add_arg (noHeap_inv W) h1
  obtain ⟨S2, L2, H2, v2, I2, s2, l2, r2, q2, k2⟩ := add_arg I1 h2
  obtain ⟨S3, L3, H3, v3, I3, s3, l3, r3, q3, k3⟩ := add_arg I2 h3
  obtain ⟨H', hc⟩ := hrun H3 v1 v2 v3 (q1.keep (k2.trans k3)) (q2.keep k3) q3
  obtain ⟨n, hr⟩ := callI_run hc
  have := run_calls (cfg_ok 0) hr hf hb (fun g hg => absurd hg (Nat.not_lt_zero g)) I3 (args' := [v, v', v'']) (.cons ((r1.mono s2 l2).mono s3 l3) (.cons (r2.mono s3 l3) (.cons r3 .nil)))
  refine this.mono fun e w' ⟨v', he, hg⟩ => ?_
  have hbel := hg.below I3
  obtain ⟨L', _, _, hv⟩ := hg
  cases hv
  exact ⟨he, hbel⟩
end
end Go.Proofs.Ytldapilhmmbjhaa
