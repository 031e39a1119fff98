/-
  surdref01: Add, Sub, Cmp.
-/
import Derived.Test.YtldapilhmmbjhaaOc
namespace Go.Proofs.Ytldapilhmmbjhaa
open Go Ev
set_option linter.unusedVariables false
set_option linter.unusedSimpArgs false
noncomputable section

theorem dv_take_nth (B : Nat) (xs : List Nat) (i : Nat) : dv B (xs.take (i + 1)) = dv B (xs.take i) + B ^ i * nth xs i := by
  by_cases h : i < xs.length
  · rw [take_snoc h, dv_append, List.length_take, Nat.min_eq_left (by omega), nth_get h]
    simp [dv]
  · rw [List.take_of_length_le (by omega), List.take_of_length_le (by omega), nth_out (by omega), Nat.mul_zero, Nat.add_zero]

theorem nth_lt {B : Nat} {xs : List Nat} (h : Dig B xs) (hB : 0 < B) (i : Nat) : nth xs i < B := by
  by_cases hi : i < xs.length
  · rw [nth_get hi]; exact h.get (List.getElem?_eq_getElem hi)
  · rw [nth_out (by omega)]; exact hB

theorem dv_split' (B : Nat) (xs : List Nat) (j : Nat) (h : j ≤ xs.length) : dv B xs = dv B (xs.take j) + B ^ j * dv B (xs.drop j) := by
  have := congrArg (dv B) (List.take_append_drop j xs)
  rw [dv_append, List.length_take, Nat.min_eq_left h] at this
  exact this.symm

theorem dv_take_all {B : Nat} {xs : List Nat} {k : Nat} (hB : 0 < B) (h : dv B xs < B ^ k) : dv B (xs.take k) = dv B xs := by
  rcases Nat.lt_or_ge xs.length k with hk | hk
  · rw [List.take_of_length_le (by omega)]
  · have e := dv_split' B xs k hk
    have : dv B (xs.drop k) = 0 := by
      rcases Nat.eq_zero_or_pos (dv B (xs.drop k)) with h0 | h0
      · exact h0
      · exfalso
        have : B ^ k * 1 ≤ B ^ k * dv B (xs.drop k) := Nat.mul_le_mul_left _ h0
        omega
    rw [this, Nat.mul_zero] at e
    omega

theorem normal_lenlt {B : Nat} (hB : 2 ≤ B) {xs ys : List Nat} (hy : trimL ys = ys) (dx : Dig B xs) (dy : Dig B ys) (h : xs.length < ys.length) : dv B xs < dv B ys := by
  have h1 := dv_lt dx
  have e : ys = ds B (dv B ys) := by rw [← trimL_ds hB dy, hy]
  have hne : dv B ys ≠ 0 := by
    intro h0
    rw [h0, ds_zero] at e
    rw [e] at h
    simp at h
  have h2 := ds_ge hB hne
  rw [← e] at h2
  have h3 : B ^ xs.length ≤ B ^ (ys.length - 1) := Nat.pow_le_pow_right (by omega) (by omega)
  omega

/-- One limb more of a list that is being filled. -/
theorem Own.fill {n : Nat} {H : AH} {v : Value} {L : List Nat} {m : Nat} (h : Own n H v (L ++ List.replicate (m + 1) 0)) {i : Nat} (hL : L.length = i) (y : Nat) :
    ∃ H', storeV Try.prog H 55 (adr v i) (.int .u64 (y : Int)) = some H' ∧ Own n H' v ((L ++ [y]) ++ List.replicate m 0) ∧ But (vblk v) H H' ∧ KA n H H' := by
  obtain ⟨H', h1, h2, h3, h4, h5⟩ := h.put (i := i) (by simp; omega) y
  refine ⟨H', h1, ?_, ⟨h3, fun j _ hj => h4 j hj⟩, h5⟩
  rw [List.replicate_succ, set_mid _ _ _ _ hL] at h2
  simpa using h2

attribute [-simp] Int.natCast_add Int.natCast_mul Int.natCast_ediv Int.natCast_emod Int.natCast_pow
attribute [local simp] strip stripL LW' LR gW evOp oMove oAssign oPick oBinOp oUnOp oConvert oExtract oIndexAddr oIndex oLoad oStore oSlice oMakeSlice oCall oBuildSlice opd opds optOpd plain plain1 Tr.get_set tmOf builtinV binV isShift sameKind undef resultV resOne packV ltNat ltNum ltLst calleeV parts lss_nat unV DW grdOf heapOp LX isStore

theorem refAdd_spec {H : AH} {v w : Value} {xs ys : List Nat} (hv : Sl H v xs) (hw : Sl H w ys) (dx : Dig b32 xs) (dy : Dig b32 ys) (lx : xs.length ≤ 17592186000000) (ly : ys.length ≤ 17592186000000) :
    CW Try.prog cfg0 61 [v, w] H fun v' H' => Keep H H' ∧ Own H.n H' v' (ds b32 (dv b32 xs + dv b32 ys)) := by
  refine CW_intro 44 (by decide) (by decide) Try.func61 rfl rfl ?_
  have l1 := hv.len ltNum
  have l2 := hw.len ltNum
  obtain ⟨n, hn⟩ : ∃ n, n = max xs.length ys.length := ⟨_, rfl⟩
  obtain ⟨c0, H1, hmk, k1, o1, n1⟩ := makeSlice_own (H := H) ltNum (n := n + 1) (by omega)
  apply W_seq; intro b1 hb1
  apply W_region
  simp
  show W _ _ b1 _ _; subst hb1
  apply W_seq; intro b1 hb1
  apply W_region
  simp [l1]
  show W _ _ b1 _ _; subst hb1
  refine W_thenK (fun s' => s'.k = 44 ∧ s'.H = H ∧ s'.tm.get 0 = some v ∧ s'.tm.get 1 = some w ∧ s'.tm.get 5 = some (.int .i64 (n : Int))) ?_ ?_
  · intro Q' hQ'
    apply W_seq; intro b1 hb1
    apply W_region
    simp [l2, gtr_nat]
    show W _ _ b1 _ _; subst hb1
    by_cases hc : xs.length < ys.length
    · refine W_cond (t := true) (by simp [hc]) ?_
      apply W_region
      simp [l2]
      apply hQ'
      exact ⟨rfl, rfl, by simp, by simp, by simp; omega⟩
    · refine W_cond (t := false) (by simp [hc]) ?_
      apply W_skip
      apply hQ'
      exact ⟨rfl, rfl, by simp, by simp, by simp; omega⟩
  rintro ⟨k, tm, H'⟩ ⟨hk, hH, t0, t1, t5⟩
  simp only at hk hH t0 t1 t5
  subst hk; subst hH
  have hmk' : makeSliceV Try.prog H' 28 (.int .i64 ((n + 1 : Nat) : Int)) (.int .i64 ((n + 1 : Nat) : Int)) = some (c0, H1) := hmk
  apply W_seq; intro b1 hb1
  apply W_region
  simp [t5, add1_i64 (x := n) (by omega), hmk']
  show W _ _ b1 _ _; subst hb1
  apply W_seq; intro b1 hb1
  apply W_region
  simp
  show W _ _ b1 _ _; subst hb1
  apply W_seq; intro b1 hb1
  apply W_seq; intro b2 hb2
  apply W_region
  simp
  show W _ _ b2 _ _; subst hb2
  apply W_block
  refine W_loopK (fun m s' => s'.k = 44 ∧ Keep H' s'.H ∧ ∃ (i carry : Nat) (L : List Nat), m + i = n + 1 ∧ L.length = i ∧ carry ≤ 1 ∧ Dig b32 L ∧ dv b32 L + b32 ^ i * carry = dv b32 (xs.take i) + dv b32 (ys.take i) ∧ Own H'.n s'.H c0 (L ++ List.replicate m 0) ∧
    s'.tm.get 0 = some v ∧ s'.tm.get 1 = some w ∧ s'.tm.get 5 = some (.int .i64 (n : Int)) ∧ s'.tm.get 6 = some c0 ∧ s'.tm.get 7 = some (.int .u64 (carry : Int)) ∧ s'.tm.get 8 = some (.int .i64 (i : Int))) ?_ (n + 1) _
    ⟨rfl, k1, 0, 0, [], by omega, rfl, by omega, .nil _, by simp [dv], by simpa using o1, by simp [t0], by simp [t1], by simp [t5], by simp, by simp, by simp⟩
  clear t0 t1 t5
  rintro m ⟨k, tm, H2⟩ ⟨hk, kH, i, carry, L, hmi, hL, hc, dL, heq, own, t0, t1, t5, t6, t7, t8⟩ Q' hQ'
  simp only at hk kH own t0 t1 t5 t6 t7 t8
  subst hk
  apply W_seq; intro b3 hb3
  apply W_seq; intro b4 hb4
  apply W_region
  simp [t5, t8, leq_nat]
  show W _ _ b4 _ _; subst hb4
  by_cases hi : i ≤ n
  · refine W_cond (t := true) (by simp [hi]) ?_
    apply W_skip
    show W _ _ b3 _ _; subst hb3
    obtain ⟨m', rfl⟩ : ∃ m', m = m' + 1 := ⟨m - 1, by omega⟩
    have c1 := at_call (hv.keep kH) i
    have c2 := at_call (hw.keep kH) i
    have hx : nth xs i < 4294967296 := nth_lt dx (by decide) i
    have hy : nth ys i < 4294967296 := nth_lt dy (by decide) i
    have ex := dv_take_nth b32 xs i
    have ey := dv_take_nth b32 ys i
    obtain ⟨x, hxe⟩ : ∃ x, x = nth xs i := ⟨_, rfl⟩
    obtain ⟨y, hye⟩ : ∃ y, y = nth ys i := ⟨_, rfl⟩
    rw [← hxe] at c1 hx ex
    rw [← hye] at c2 hy ey
    have m1 : intBin .add .u64 (x : Int) (y : Int) = some (.int .u64 ((x + y : Nat) : Int)) := add_u64_lt (by show _ < 18446744073709551616; omega)
    have m2 : intBin .add .u64 ((x + y : Nat) : Int) (carry : Int) = some (.int .u64 ((x + y + carry : Nat) : Int)) := add_u64_lt (by show _ < 18446744073709551616; omega)
    obtain ⟨z, hz⟩ : ∃ z, z = x + y + carry := ⟨_, rfl⟩
    rw [← hz] at m2
    have hzB : z < B64 := by show z < 18446744073709551616; omega
    obtain ⟨H3, st3, own3, bt3, ka3⟩ := own.fill hL (z % 4294967296)
    have a3 := own.sl.adr ltNum (k := .i64) (i := i) (by simp; omega)
    apply W_seq; intro b3 hb3
    apply W_block
    apply W_seq; intro b4 hb4
    apply W_region
    simp [t0, t1, t7, t8, c1, c2, m1, m2]
    show W _ _ b4 _ _; subst hb4
    apply W_seq; intro b4 hb4
    apply W_region
    simp [t6, t8, rem32, a3, st3]
    show W _ _ b4 _ _; subst hb4
    apply W_region
    simp [quo32 hzB]
    show W _ _ b3 _ _; subst hb3
    apply W_region
    simp [t8, add1_i64 (x := i) (by omega)]
    apply hQ'
    refine ⟨m', by omega, rfl, ka3 H' kH (Nat.le_refl _), i + 1, z / 4294967296, L ++ [z % 4294967296], by omega, by simp [hL], by omega, dL.append (.cons (Nat.mod_lt _ (by decide)) (.nil _)), ?_, own3, by simp [t0], by simp [t1], by simp [t5], by simp [t6], by simp, by simp⟩
    rw [dv_append, hL, ex, ey]
    simp only [dv, Nat.mul_zero, Nat.add_zero]
    have e1 : b32 ^ i * (z % 4294967296 + 4294967296 * (z / 4294967296)) = b32 ^ i * (x + y + carry) := by rw [Nat.mod_add_div, hz]
    rw [Nat.mul_add, ← Nat.mul_assoc, show b32 ^ i * 4294967296 = b32 ^ (i + 1) from rfl, Nat.mul_add, Nat.mul_add] at e1
    omega
  · refine W_cond (t := false) (by simp [hi]) ?_
    apply W_exit
    apply hQ'
    left
    refine ⟨rfl, ?_⟩
    obtain rfl : i = n + 1 := by omega
    obtain rfl : m = 0 := by omega
    simp at own
    rw [List.take_of_length_le (by omega), List.take_of_length_le (by omega)] at heq
    have hsum : dv b32 L = dv b32 xs + dv b32 ys := by
      have h1 := dv_lt dx
      have h2 := dv_lt dy
      have h3 : b32 ^ xs.length ≤ b32 ^ n := Nat.pow_le_pow_right (by decide) (by omega)
      have h4 : b32 ^ ys.length ≤ b32 ^ n := Nat.pow_le_pow_right (by decide) (by omega)
      have h5 : b32 ^ (n + 1) = b32 ^ n * 4294967296 := rfl
      rcases Nat.lt_or_ge carry 1 with h0 | h0
      · obtain rfl : carry = 0 := by omega
        rw [Nat.mul_zero] at heq
        omega
      · obtain rfl : carry = 1 := by omega
        rw [Nat.mul_one] at heq
        omega
    obtain ⟨v5, H5, hc5, e5, o5, _⟩ := norm32_spec own (by omega)
    subst e5
    rw [trimL_ds two32 dL, hsum] at o5
    show W _ _ b1 _ _; subst hb1
    apply W_seq; intro b4 hb4
    apply W_region
    simp [t6, hc5]
    show W _ _ b4 _ _; subst hb4
    apply W_ret
    simp
    exact ⟨kH, o5⟩

theorem refSub_spec {H : AH} {v w : Value} {xs ys : List Nat} (hv : Sl H v xs) (hw : Sl H w ys) (dx : Dig b32 xs) (dy : Dig b32 ys) (lx : xs.length ≤ 17592186000000) (hle : dv b32 ys ≤ dv b32 xs) :
    CW Try.prog cfg0 64 [v, w] H fun v' H' => Keep H H' ∧ Own H.n H' v' (ds b32 (dv b32 xs - dv b32 ys)) := by
  refine CW_intro 39 (by decide) (by decide) Try.func64 rfl rfl ?_
  have l1 := hv.len ltNum
  obtain ⟨n, hn⟩ : ∃ n, n = xs.length := ⟨_, rfl⟩
  rw [← hn] at l1
  obtain ⟨c0, H1, hmk, k1, o1, n1⟩ := makeSlice_own (H := H) ltNum (n := n) (by omega)
  apply W_seq; intro b1 hb1
  apply W_region
  simp
  show W _ _ b1 _ _; subst hb1
  apply W_seq; intro b1 hb1
  apply W_region
  simp [l1, hmk]
  show W _ _ b1 _ _; subst hb1
  apply W_seq; intro b1 hb1
  apply W_region
  simp
  show W _ _ b1 _ _; subst hb1
  apply W_seq; intro b1 hb1
  apply W_seq; intro b2 hb2
  apply W_region
  simp [l1]
  show W _ _ b2 _ _; subst hb2
  apply W_block
  refine W_loopK (fun m s' => s'.k = 39 ∧ Keep H s'.H ∧ ∃ (i bor : Nat) (L : List Nat), m + i = n ∧ L.length = i ∧ bor ≤ 1 ∧ Dig b32 L ∧ dv b32 L + dv b32 (ys.take i) = dv b32 (xs.take i) + b32 ^ i * bor ∧ Own H.n s'.H c0 (L ++ List.replicate m 0) ∧
    s'.tm.get 0 = some v ∧ s'.tm.get 1 = some w ∧ s'.tm.get 5 = some c0 ∧ s'.tm.get 6 = some (.int .u64 (bor : Int)) ∧ s'.tm.get 13 = some (.int .i64 (n : Int)) ∧ s'.tm.get 14 = some (.int .i64 (i : Int))) ?_ n _
    ⟨rfl, k1, 0, 0, [], by omega, rfl, by omega, .nil _, by simp [dv], by simpa using o1, by simp, by simp, by simp, by simp, by simp, by simp⟩
  rintro m ⟨k, tm, H2⟩ ⟨hk, kH, i, bor, L, hmi, hL, hb, dL, heq, own, t0, t1, t5, t6, t13, t14⟩ Q' hQ'
  simp only at hk kH own t0 t1 t5 t6 t13 t14
  subst hk
  apply W_seq; intro b3 hb3
  apply W_region
  simp [t13, t14]
  show W _ _ b3 _ _; subst hb3
  apply W_seq; intro b3 hb3
  by_cases hi : i < n
  · refine W_cond (t := true) (by simp [hi]) ?_
    apply W_skip
    show W _ _ b3 _ _; subst hb3
    obtain ⟨m', rfl⟩ : ∃ m', m = m' + 1 := ⟨m - 1, by omega⟩
    have hi' : i < xs.length := by omega
    have sv := hv.keep kH
    have a1 := sv.adr ltNum (k := .i64) hi'
    have d1 := sv.top.load hi'
    have c2 := at_call (hw.keep kH).top i
    have hx : nth xs i < 4294967296 := nth_lt dx (by decide) i
    have hy : nth ys i < 4294967296 := nth_lt dy (by decide) i
    have ex := dv_take_nth b32 xs i
    have ey := dv_take_nth b32 ys i
    rw [← nth_get hi'] at d1
    obtain ⟨x, hxe⟩ : ∃ x, x = nth xs i := ⟨_, rfl⟩
    obtain ⟨y, hye⟩ : ∃ y, y = nth ys i := ⟨_, rfl⟩
    rw [← hxe] at d1 hx ex
    rw [← hye] at c2 hy ey
    have m1 : intBin .add .u64 (x : Int) 4294967296 = some (.int .u64 ((x + 4294967296 : Nat) : Int)) := add_u64_lt (y := 4294967296) (by show _ < 18446744073709551616; omega)
    have m2 : intBin .sub .u64 ((x + 4294967296 : Nat) : Int) (y : Int) = some (.int .u64 ((x + 4294967296 - y : Nat) : Int)) := sub_u64 (by show _ < 18446744073709551616; omega) (by omega)
    have m3 : intBin .sub .u64 ((x + 4294967296 - y : Nat) : Int) (bor : Int) = some (.int .u64 ((x + 4294967296 - y - bor : Nat) : Int)) := sub_u64 (by show _ < 18446744073709551616; omega) (by omega)
    obtain ⟨z, hz⟩ : ∃ z, z = x + 4294967296 - y - bor := ⟨_, rfl⟩
    rw [← hz] at m3
    have hzB : z < B64 := by show z < 18446744073709551616; omega
    have hz1 : z / 4294967296 ≤ 1 := by omega
    have m4 : intBin .sub .u64 1 ((z / 4294967296 : Nat) : Int) = some (.int .u64 ((1 - z / 4294967296 : Nat) : Int)) := sub_u64 (x := 1) (by decide) hz1
    obtain ⟨H3, st3, own3, bt3, ka3⟩ := own.fill hL (z % 4294967296)
    have a3 := own.sl.adr ltNum (k := .i64) (i := i) (by simp; omega)
    apply W_seq; intro b3 hb3
    apply W_block
    apply W_seq; intro b4 hb4
    apply W_region
    simp [t14]
    show W _ _ b4 _ _; subst hb4
    apply W_seq; intro b4 hb4
    apply W_reads (by kernel_rfl)
    simp [t0, t1, t6, a1, d1, c2, m1, m2, m3]
    show W _ _ b4 _ _; subst hb4
    apply W_seq; intro b4 hb4
    apply W_region
    simp [t5, rem32, a3, st3]
    show W _ _ b4 _ _; subst hb4
    apply W_region
    simp [quo32 hzB, m4]
    show W _ _ b3 _ _; subst hb3
    apply W_region
    simp [t14, add1_i64 (x := i) (by omega)]
    apply hQ'
    refine ⟨m', by omega, rfl, ka3 H kH (Nat.le_refl _), i + 1, 1 - z / 4294967296, L ++ [z % 4294967296], by omega, by simp [hL], by omega, dL.append (.cons (Nat.mod_lt _ (by decide)) (.nil _)), ?_, own3, by simp [t0], by simp [t1], by simp [t5], by simp, by simp [t13], by simp⟩
    rw [dv_append, hL, ex, ey]
    simp only [dv, Nat.mul_zero, Nat.add_zero]
    have e0 : z % 4294967296 + y + bor = x + 4294967296 * (1 - z / 4294967296) := by omega
    have e1 : b32 ^ i * (z % 4294967296 + y + bor) = b32 ^ i * (x + 4294967296 * (1 - z / 4294967296)) := by rw [e0]
    rw [Nat.mul_add (b32 ^ i) x, ← Nat.mul_assoc, show b32 ^ i * 4294967296 = b32 ^ (i + 1) from rfl, Nat.mul_add, Nat.mul_add] at e1
    omega
  · refine W_cond (t := false) (by simp [hi]) ?_
    apply W_exit
    apply hQ'
    left
    refine ⟨rfl, ?_⟩
    obtain rfl : i = n := by omega
    obtain rfl : m = 0 := by omega
    simp at own
    have hxl := dv_lt dx
    rw [← hn] at hxl
    rw [List.take_of_length_le (l := xs) (by omega), dv_take_all (by decide) (Nat.lt_of_le_of_lt hle hxl)] at heq
    have hsum : dv b32 L = dv b32 xs - dv b32 ys := by
      have h1 := dv_lt dL
      rw [hL] at h1
      rcases Nat.lt_or_ge bor 1 with h0 | h0
      · obtain rfl : bor = 0 := by omega
        rw [Nat.mul_zero] at heq
        omega
      · obtain rfl : bor = 1 := by omega
        rw [Nat.mul_one] at heq
        omega
    obtain ⟨v5, H5, hc5, e5, o5, _⟩ := norm32_spec own (by omega)
    subst e5
    rw [trimL_ds two32 dL, hsum] at o5
    show W _ _ b1 _ _; subst hb1
    apply W_seq; intro b4 hb4
    apply W_region
    simp [t5, hc5]
    show W _ _ b4 _ _; subst hb4
    apply W_ret
    simp
    exact ⟨kH, o5⟩

theorem refCmp_spec {va vb : Value} {xs ys : List Nat} {H : AH} (s1 : Sl H va xs) (s2 : Sl H vb ys) (dx : Dig b32 xs) (dy : Dig b32 ys) (tx : trimL xs = xs) (ty : trimL ys = ys) (lx : xs.length ≤ 17592186044416) (ly : ys.length ≤ 17592186044416) :
    CW Try.prog cfg0 63 [va, vb] H fun v H' => H' = H ∧ v = .int .i64 (cmpN (dv b32 xs) (dv b32 ys)) := by
  refine CW_intro 41 (by decide) (by decide) Try.func63 rfl rfl ?_
  have l1 := s1.len ltNum
  have l2 := s2.len ltNum
  apply W_seq; intro b1 hb1
  apply W_region
  simp
  show W _ _ b1 _ _; subst hb1
  apply W_seq; intro b1 hb1
  apply W_seq; intro b2 hb2
  apply W_region
  simp [l1, l2, neq_nat]
  show W _ _ b2 _ _; subst hb2
  by_cases hl : xs.length = ys.length
  · refine W_cond (t := false) (by simp [hl]) ?_
    apply W_skip
    show W _ _ b1 _ _; subst hb1
    apply W_seq; intro b1 hb1
    apply W_seq; intro b2 hb2
    have w1 : intBin .sub .i64 (xs.length : Int) 1 = some (.int .i64 ((xs.length : Int) - 1)) := by
      show some (Value.int .i64 (IntKind.i64.wrap ((xs.length : Int) - 1))) = _
      congr 2
      rw [IntKind.wrap_i64]; omega
    apply W_region
    simp [l1, w1]
    show W _ _ b2 _ _; subst hb2
    apply W_block
    refine W_loopK (fun n s => s.k = 41 ∧ s.H = H ∧ s.tm.get 0 = some va ∧ s.tm.get 1 = some vb ∧ s.tm.get 5 = some (.int .i64 ((n : Int) - 1)) ∧ n ≤ xs.length ∧ xs.drop n = ys.drop n) ?_ xs.length _ ⟨rfl, rfl, by simp, by simp, by simp, Nat.le_refl _, by rw [List.drop_length, hl, List.drop_length]⟩
    rintro n ⟨k, tm, H'⟩ ⟨h2, h3, h4, h5, h6, h7, h8⟩ Q' hQ'
    simp only at h2 h3 h4 h5 h6
    subst h2; subst h3
    have hge : intBin .geq .i64 ((n : Int) - 1) 0 = some (.bool (decide (0 < n))) := by
      show some (Value.bool (decide ((n : Int) - 1 ≥ 0))) = _
      congr 2; apply decide_eq_decide.mpr; omega
    apply W_seq; intro b2 hb2
    apply W_seq; intro b3 hb3
    apply W_region
    simp [h6, hge]
    show W _ _ b3 _ _; subst hb3
    by_cases hz : n = 0
    · subst hz
      refine W_cond (t := false) (by simp) ?_
      apply W_exit
      apply hQ'
      left
      refine ⟨rfl, ?_⟩
      show W _ _ b1 _ _; subst hb1
      apply W_seq; intro b4 hb4
      apply W_region
      simp
      show W _ _ b4 _ _; subst hb4
      apply W_ret
      have : xs = ys := by simpa using h8
      simp [cmpN, this]
    · have e : (n : Int) - 1 = ((n - 1 : Nat) : Int) := by omega
      refine W_cond (t := true) (by simp; omega) ?_
      apply W_skip
      show W _ _ b2 _ _; subst hb2
      have i1 : n - 1 < xs.length := by omega
      have i2 : n - 1 < ys.length := by omega
      have a1 := s1.adr ltNum (k := .i64) i1
      have a2 := s2.adr ltNum (k := .i64) i2
      have d1 := s1.load i1
      have d2 := s2.load i2
      rw [e] at h6
      have sx : xs = xs.take (n - 1) ++ xs[n - 1] :: xs.drop n := by
        have := List.take_append_drop (n - 1) xs
        rw [List.drop_eq_getElem_cons i1, show n - 1 + 1 = n by omega] at this
        exact this.symm
      have sy : ys = ys.take (n - 1) ++ ys[n - 1] :: ys.drop n := by
        have := List.take_append_drop (n - 1) ys
        rw [List.drop_eq_getElem_cons i2, show n - 1 + 1 = n by omega] at this
        exact this.symm
      have ltk : (xs.take (n - 1)).length = (ys.take (n - 1)).length := by simp [List.length_take, hl]
      apply W_seq; intro b4 hb4
      apply W_block
      apply W_seq; intro b5 hb5
      apply W_seq; intro b6 hb6
      apply W_loads (by kernel_rfl)
      simp [h4, h5, h6, a1, a2, d1, d2]
      show W _ _ b6 _ _; subst hb6
      by_cases hlt : xs[n - 1] < ys[n - 1]
      · refine W_cond (t := true) (by simp; omega) ?_
        apply W_seq; intro b7 hb7
        apply W_region
        simp
        show W _ _ b7 _ _; subst hb7
        apply W_ret
        have hd : dv b32 xs < dv b32 ys := by
          rw [sx, sy, h8]
          exact dv_cmp (dx.take _) (dy.take _) ltk hlt _
        apply hQ'
        simp [seqQ, blockQ, loopQ, cmpN, hd]
      · refine W_cond (t := false) (by simp; omega) ?_
        apply W_skip
        show W _ _ b5 _ _; subst hb5
        apply W_seq; intro b6 hb6
        apply W_loads (by kernel_rfl)
        simp [h4, h5, h6, a1, a2, d1, d2, gtr_nat]
        show W _ _ b6 _ _; subst hb6
        by_cases hgt : ys[n - 1] < xs[n - 1]
        · refine W_cond (t := true) (by simp; omega) ?_
          apply W_seq; intro b7 hb7
          apply W_region
          simp
          show W _ _ b7 _ _; subst hb7
          apply W_ret
          have hd : dv b32 ys < dv b32 xs := by
            rw [sx, sy, h8]
            exact dv_cmp (dy.take _) (dx.take _) ltk.symm hgt _
          have hd2 : ¬ dv b32 xs < dv b32 ys := by omega
          apply hQ'
          simp [seqQ, blockQ, loopQ, cmpN, hd, hd2]
        · refine W_cond (t := false) (by simp; omega) ?_
          apply W_skip
          show W _ _ b4 _ _; subst hb4
          have hw1 : intBin .sub .i64 ((n - 1 : Nat) : Int) 1 = some (.int .i64 (((n - 1 : Nat) : Int) - 1)) := by
            show some (Value.int .i64 (IntKind.i64.wrap (((n - 1 : Nat) : Int) - 1))) = _
            congr 2
            rw [IntKind.wrap_i64]; omega
          apply W_region
          simp [h6, hw1]
          apply hQ'
          refine ⟨n - 1, by omega, rfl, rfl, ?_⟩
          simp [h4, h5]
          refine ⟨by omega, ?_⟩
          rw [List.drop_eq_getElem_cons i1, List.drop_eq_getElem_cons i2, show n - 1 + 1 = n by omega, h8]
          congr 1
          omega
  · refine W_cond (t := true) (by simp; omega) ?_
    apply W_seq; intro b2 hb2
    apply W_seq; intro b3 hb3
    apply W_region
    simp [l1, l2]
    show W _ _ b3 _ _; subst hb3
    by_cases hlt : xs.length < ys.length
    · refine W_cond (t := true) (by simp; omega) ?_
      apply W_seq; intro b3 hb3
      apply W_region
      simp
      show W _ _ b3 _ _; subst hb3
      apply W_ret
      have := normal_lenlt two32 ty dx dy hlt
      simp [seqQ, cmpN, this]
    · refine W_cond (t := false) (by simp; omega) ?_
      apply W_skip
      show W _ _ b2 _ _; subst hb2
      apply W_seq; intro b2 hb2
      apply W_region
      simp
      show W _ _ b2 _ _; subst hb2
      apply W_ret
      have := normal_lenlt two32 tx dy dx (by omega)
      have h2 : ¬ dv b32 xs < dv b32 ys := by omega
      simp [seqQ, cmpN, this, h2]
end
end Go.Proofs.Ytldapilhmmbjhaa
