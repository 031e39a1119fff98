/-
  The engine and the walks that the claim's last text leans on, part 4 of 4: Od, Oe, Of, Ref, Rt, Make, Rc, Rd, Re, Rf, Rg, Th, Grows, Needs, Kept, ArgsA, Tf, Tg.
-/
import Derived.Test.YthlgggcpokfmaaaDoorM3
import Derived.Test.YthlgggcpokfmaaaDoorM2
import Derived.Carry
import Derived.Deep.Slices
import Derived.JoinedCond

/-
  surdref01: Add, Sub, Cmp.
-/
namespace Go.Proofs.YthlgggcpokfmaaaDoor
open Go Ev
set_option linter.unusedVariables false
set_option linter.unusedSimpArgs false
noncomputable section
set_option maxRecDepth 20000

theorem dv_take_nth (B : Nat) (xs : List Nat) (i : Nat) : dv B (xs.take (i + 1)) = dv B (xs.take i) + B ^ i * nth xs i := by
  by_cases h : i < xs.length
  · rw [take_snoc h, dv_append, List.length_take, Nat.min_eq_left (by omega), nth_get h]
    simp [dv]
  · rw [List.take_of_length_le (by omega), List.take_of_length_le (by omega), nth_out (by omega), Nat.mul_zero, Nat.add_zero]

theorem nth_lt {B : Nat} {xs : List Nat} (h : Dig B xs) (hB : 0 < B) (i : Nat) : nth xs i < B := by
  by_cases hi : i < xs.length
  · rw [nth_get hi]; exact h.get (List.getElem?_eq_getElem hi)
  · rw [nth_out (by omega)]; exact hB

theorem dv_split' (B : Nat) (xs : List Nat) (j : Nat) (h : j ≤ xs.length) : dv B xs = dv B (xs.take j) + B ^ j * dv B (xs.drop j) := by
  have := congrArg (dv B) (List.take_append_drop j xs)
  rw [dv_append, List.length_take, Nat.min_eq_left h] at this
  exact this.symm

theorem dv_take_all {B : Nat} {xs : List Nat} {k : Nat} (hB : 0 < B) (h : dv B xs < B ^ k) : dv B (xs.take k) = dv B xs := by
  rcases Nat.lt_or_ge xs.length k with hk | hk
  · rw [List.take_of_length_le (by omega)]
  · have e := dv_split' B xs k hk
    have : dv B (xs.drop k) = 0 := by
      rcases Nat.eq_zero_or_pos (dv B (xs.drop k)) with h0 | h0
      · exact h0
      · exfalso
        have : B ^ k * 1 ≤ B ^ k * dv B (xs.drop k) := Nat.mul_le_mul_left _ h0
        omega
    rw [this, Nat.mul_zero] at e
    omega

theorem normal_lenlt {B : Nat} (hB : 2 ≤ B) {xs ys : List Nat} (hy : trimL ys = ys) (dx : Dig B xs) (dy : Dig B ys) (h : xs.length < ys.length) : dv B xs < dv B ys := by
  have h1 := dv_lt dx
  have e : ys = ds B (dv B ys) := by rw [← trimL_ds hB dy, hy]
  have hne : dv B ys ≠ 0 := by
    intro h0
    rw [h0, ds_zero] at e
    rw [e] at h
    simp at h
  have h2 := ds_ge hB hne
  rw [← e] at h2
  have h3 : B ^ xs.length ≤ B ^ (ys.length - 1) := Nat.pow_le_pow_right (by omega) (by omega)
  omega

/-- One limb more of a list that is being filled. -/
theorem Own.fill {n : Nat} {H : AH} {v : Value} {L : List Nat} {m : Nat} (h : Own n H v (L ++ List.replicate (m + 1) 0)) {i : Nat} (hL : L.length = i) (y : Nat) :
    ∃ H', storeV Tryd.prog H 65 (adr v i) (.int .u64 (y : Int)) = some H' ∧ Own n H' v ((L ++ [y]) ++ List.replicate m 0) ∧ But (vblk v) H H' ∧ KA n H H' := by
  obtain ⟨H', h1, h2, h3, h4, h5⟩ := h.put (i := i) (by simp; omega) y
  refine ⟨H', h1, ?_, ⟨h3, fun j _ hj => h4 j hj⟩, h5⟩
  rw [List.replicate_succ, set_mid _ _ _ _ hL] at h2
  simpa using h2

attribute [-simp] Int.natCast_add Int.natCast_mul Int.natCast_ediv Int.natCast_emod Int.natCast_pow
attribute [local simp] strip stripL LW' LR gW evOp oMove oAssign oPick oBinOp oUnOp oConvert oExtract oIndexAddr oIndex oLoad oStore oSlice oMakeSlice oCall oBuildSlice opd opds optOpd plain plain1 Tr.get_set tmOf builtinV binV isShift sameKind undef resultV resOne packV ltNat ltNum ltLst calleeV parts lss_nat unV DW grdOf heapOp LX isStore

theorem refAdd_spec {H : AH} {v w : Value} {xs ys : List Nat} (hv : Sl H v xs) (hw : Sl H w ys) (dx : Dig b32 xs) (dy : Dig b32 ys) (lx : xs.length ≤ 17592186000000) (ly : ys.length ≤ 17592186000000) :
    CW Tryd.prog cfgR 36 [v, w] H fun v' H' => Keep H H' ∧ Own H.n H' v' (ds b32 (dv b32 xs + dv b32 ys)) := by
  refine CW_intro 44 (by decide) (by decide) Tryd.func36 rfl rfl ?_
  have l1 := hv.len ltNum
  have l2 := hw.len ltNum
  obtain ⟨n, hn⟩ : ∃ n, n = max xs.length ys.length := ⟨_, rfl⟩
  obtain ⟨c0, H1, hmk, k1, o1, n1⟩ := makeSlice_own (H := H) ltNum (n := n + 1) (by omega)
  apply W_seq; intro b1 hb1
  apply W_region
  simp
  show W _ _ b1 _ _; subst hb1
  apply W_seq; intro b1 hb1
  apply W_region
  simp [l1]
  show W _ _ b1 _ _; subst hb1
  refine W_thenK (fun s' => s'.k = 44 ∧ s'.H = H ∧ s'.tm.get 0 = some v ∧ s'.tm.get 1 = some w ∧ s'.tm.get 5 = some (.int .i64 (n : Int))) ?_ ?_
  · intro Q' hQ'
    apply W_seq; intro b1 hb1
    apply W_region
    simp [l2, gtr_nat]
    show W _ _ b1 _ _; subst hb1
    by_cases hc : xs.length < ys.length
    · refine W_cond (t := true) (by simp [hc]) ?_
      apply W_region
      simp [l2]
      apply hQ'
      exact ⟨rfl, rfl, by simp, by simp, by simp; omega⟩
    · refine W_cond (t := false) (by simp [hc]) ?_
      apply W_skip
      apply hQ'
      exact ⟨rfl, rfl, by simp, by simp, by simp; omega⟩
  rintro ⟨k, tm, H'⟩ ⟨hk, hH, t0, t1, t5⟩
  simp only at hk hH t0 t1 t5
  subst hk; subst hH
  have hmk' : makeSliceV Tryd.prog H' 40 (.int .i64 ((n + 1 : Nat) : Int)) (.int .i64 ((n + 1 : Nat) : Int)) = some (c0, H1) := hmk
  apply W_seq; intro b1 hb1
  apply W_region
  simp [t5, add1_i64 (x := n) (by omega), hmk']
  show W _ _ b1 _ _; subst hb1
  apply W_seq; intro b1 hb1
  apply W_region
  simp
  show W _ _ b1 _ _; subst hb1
  apply W_seq; intro b1 hb1
  apply W_seq; intro b2 hb2
  apply W_region
  simp
  show W _ _ b2 _ _; subst hb2
  apply W_block
  refine W_loopK (fun m s' => s'.k = 44 ∧ Keep H' s'.H ∧ ∃ (i carry : Nat) (L : List Nat), m + i = n + 1 ∧ L.length = i ∧ carry ≤ 1 ∧ Dig b32 L ∧ dv b32 L + b32 ^ i * carry = dv b32 (xs.take i) + dv b32 (ys.take i) ∧ Own H'.n s'.H c0 (L ++ List.replicate m 0) ∧
    s'.tm.get 0 = some v ∧ s'.tm.get 1 = some w ∧ s'.tm.get 5 = some (.int .i64 (n : Int)) ∧ s'.tm.get 6 = some c0 ∧ s'.tm.get 7 = some (.int .u64 (carry : Int)) ∧ s'.tm.get 8 = some (.int .i64 (i : Int))) ?_ (n + 1) _
    ⟨rfl, k1, 0, 0, [], by omega, rfl, by omega, .nil _, by simp [dv], by simpa using o1, by simp [t0], by simp [t1], by simp [t5], by simp, by simp, by simp⟩
  clear t0 t1 t5
  rintro m ⟨k, tm, H2⟩ ⟨hk, kH, i, carry, L, hmi, hL, hc, dL, heq, own, t0, t1, t5, t6, t7, t8⟩ Q' hQ'
  simp only at hk kH own t0 t1 t5 t6 t7 t8
  subst hk
  apply W_seq; intro b3 hb3
  apply W_seq; intro b4 hb4
  apply W_region
  simp [t5, t8, leq_nat]
  show W _ _ b4 _ _; subst hb4
  by_cases hi : i ≤ n
  · refine W_cond (t := true) (by simp [hi]) ?_
    apply W_skip
    show W _ _ b3 _ _; subst hb3
    obtain ⟨m', rfl⟩ : ∃ m', m = m' + 1 := ⟨m - 1, by omega⟩
    have c1 := at_call (hv.keep kH) i
    have c2 := at_call (hw.keep kH) i
    have hx : nth xs i < 4294967296 := nth_lt dx (by decide) i
    have hy : nth ys i < 4294967296 := nth_lt dy (by decide) i
    have ex := dv_take_nth b32 xs i
    have ey := dv_take_nth b32 ys i
    obtain ⟨x, hxe⟩ : ∃ x, x = nth xs i := ⟨_, rfl⟩
    obtain ⟨y, hye⟩ : ∃ y, y = nth ys i := ⟨_, rfl⟩
    rw [← hxe] at c1 hx ex
    rw [← hye] at c2 hy ey
    have m1 : intBin .add .u64 (x : Int) (y : Int) = some (.int .u64 ((x + y : Nat) : Int)) := add_u64_lt (by show _ < 18446744073709551616; omega)
    have m2 : intBin .add .u64 ((x + y : Nat) : Int) (carry : Int) = some (.int .u64 ((x + y + carry : Nat) : Int)) := add_u64_lt (by show _ < 18446744073709551616; omega)
    obtain ⟨z, hz⟩ : ∃ z, z = x + y + carry := ⟨_, rfl⟩
    rw [← hz] at m2
    have hzB : z < B64 := by show z < 18446744073709551616; omega
    obtain ⟨H3, st3, own3, bt3, ka3⟩ := own.fill hL (z % 4294967296)
    have a3 := own.sl.adr ltNum (k := .i64) (i := i) (by simp; omega)
    apply W_seq; intro b3 hb3
    apply W_block
    apply W_seq; intro b4 hb4
    apply W_region
    simp [t0, t1, t7, t8, c1, c2, m1, m2]
    show W _ _ b4 _ _; subst hb4
    apply W_seq; intro b4 hb4
    apply W_region
    simp [t6, t8, rem32, a3, st3]
    show W _ _ b4 _ _; subst hb4
    apply W_region
    simp [quo32 hzB]
    show W _ _ b3 _ _; subst hb3
    apply W_region
    simp [t8, add1_i64 (x := i) (by omega)]
    apply hQ'
    refine ⟨m', by omega, rfl, ka3 H' kH (Nat.le_refl _), i + 1, z / 4294967296, L ++ [z % 4294967296], by omega, by simp [hL], by omega, dL.append (.cons (Nat.mod_lt _ (by decide)) (.nil _)), ?_, own3, by simp [t0], by simp [t1], by simp [t5], by simp [t6], by simp, by simp⟩
    rw [dv_append, hL, ex, ey]
    simp only [dv, Nat.mul_zero, Nat.add_zero]
    have e1 : b32 ^ i * (z % 4294967296 + 4294967296 * (z / 4294967296)) = b32 ^ i * (x + y + carry) := by rw [Nat.mod_add_div, hz]
    rw [Nat.mul_add, ← Nat.mul_assoc, show b32 ^ i * 4294967296 = b32 ^ (i + 1) from rfl, Nat.mul_add, Nat.mul_add] at e1
    omega
  · refine W_cond (t := false) (by simp [hi]) ?_
    apply W_exit
    apply hQ'
    left
    refine ⟨rfl, ?_⟩
    obtain rfl : i = n + 1 := by omega
    obtain rfl : m = 0 := by omega
    simp at own
    rw [List.take_of_length_le (by omega), List.take_of_length_le (by omega)] at heq
    have hsum : dv b32 L = dv b32 xs + dv b32 ys := by
      have h1 := dv_lt dx
      have h2 := dv_lt dy
      have h3 : b32 ^ xs.length ≤ b32 ^ n := Nat.pow_le_pow_right (by decide) (by omega)
      have h4 : b32 ^ ys.length ≤ b32 ^ n := Nat.pow_le_pow_right (by decide) (by omega)
      have h5 : b32 ^ (n + 1) = b32 ^ n * 4294967296 := rfl
      rcases Nat.lt_or_ge carry 1 with h0 | h0
      · obtain rfl : carry = 0 := by omega
        rw [Nat.mul_zero] at heq
        omega
      · obtain rfl : carry = 1 := by omega
        rw [Nat.mul_one] at heq
        omega
    obtain ⟨v5, H5, hc5, e5, o5, _⟩ := norm32_spec own (by omega)
    subst e5
    rw [trimL_ds two32 dL, hsum] at o5
    show W _ _ b1 _ _; subst hb1
    apply W_seq; intro b4 hb4
    apply W_region
    simp [t6, hc5]
    show W _ _ b4 _ _; subst hb4
    apply W_ret
    simp
    exact ⟨kH, o5⟩

theorem refSub_spec {H : AH} {v w : Value} {xs ys : List Nat} (hv : Sl H v xs) (hw : Sl H w ys) (dx : Dig b32 xs) (dy : Dig b32 ys) (lx : xs.length ≤ 17592186000000) (hle : dv b32 ys ≤ dv b32 xs) :
    CW Tryd.prog cfgR 39 [v, w] H fun v' H' => Keep H H' ∧ Own H.n H' v' (ds b32 (dv b32 xs - dv b32 ys)) := by
  refine CW_intro 39 (by decide) (by decide) Tryd.func39 rfl rfl ?_
  have l1 := hv.len ltNum
  obtain ⟨n, hn⟩ : ∃ n, n = xs.length := ⟨_, rfl⟩
  rw [← hn] at l1
  obtain ⟨c0, H1, hmk, k1, o1, n1⟩ := makeSlice_own (H := H) ltNum (n := n) (by omega)
  apply W_seq; intro b1 hb1
  apply W_region
  simp
  show W _ _ b1 _ _; subst hb1
  apply W_seq; intro b1 hb1
  apply W_region
  simp [l1, hmk]
  show W _ _ b1 _ _; subst hb1
  apply W_seq; intro b1 hb1
  apply W_region
  simp
  show W _ _ b1 _ _; subst hb1
  apply W_seq; intro b1 hb1
  apply W_seq; intro b2 hb2
  apply W_region
  simp [l1]
  show W _ _ b2 _ _; subst hb2
  apply W_block
  refine W_loopK (fun m s' => s'.k = 39 ∧ Keep H s'.H ∧ ∃ (i bor : Nat) (L : List Nat), m + i = n ∧ L.length = i ∧ bor ≤ 1 ∧ Dig b32 L ∧ dv b32 L + dv b32 (ys.take i) = dv b32 (xs.take i) + b32 ^ i * bor ∧ Own H.n s'.H c0 (L ++ List.replicate m 0) ∧
    s'.tm.get 0 = some v ∧ s'.tm.get 1 = some w ∧ s'.tm.get 5 = some c0 ∧ s'.tm.get 6 = some (.int .u64 (bor : Int)) ∧ s'.tm.get 13 = some (.int .i64 (n : Int)) ∧ s'.tm.get 14 = some (.int .i64 (i : Int))) ?_ n _
    ⟨rfl, k1, 0, 0, [], by omega, rfl, by omega, .nil _, by simp [dv], by simpa using o1, by simp, by simp, by simp, by simp, by simp, by simp⟩
  rintro m ⟨k, tm, H2⟩ ⟨hk, kH, i, bor, L, hmi, hL, hb, dL, heq, own, t0, t1, t5, t6, t13, t14⟩ Q' hQ'
  simp only at hk kH own t0 t1 t5 t6 t13 t14
  subst hk
  apply W_seq; intro b3 hb3
  apply W_region
  simp [t13, t14]
  show W _ _ b3 _ _; subst hb3
  apply W_seq; intro b3 hb3
  by_cases hi : i < n
  · refine W_cond (t := true) (by simp [hi]) ?_
    apply W_skip
    show W _ _ b3 _ _; subst hb3
    obtain ⟨m', rfl⟩ : ∃ m', m = m' + 1 := ⟨m - 1, by omega⟩
    have hi' : i < xs.length := by omega
    have sv := hv.keep kH
    have a1 := sv.adr ltNum (k := .i64) hi'
    have d1 := sv.top.load hi'
    have c2 := at_call (hw.keep kH).top i
    have hx : nth xs i < 4294967296 := nth_lt dx (by decide) i
    have hy : nth ys i < 4294967296 := nth_lt dy (by decide) i
    have ex := dv_take_nth b32 xs i
    have ey := dv_take_nth b32 ys i
    rw [← nth_get hi'] at d1
    obtain ⟨x, hxe⟩ : ∃ x, x = nth xs i := ⟨_, rfl⟩
    obtain ⟨y, hye⟩ : ∃ y, y = nth ys i := ⟨_, rfl⟩
    rw [← hxe] at d1 hx ex
    rw [← hye] at c2 hy ey
    have m1 : intBin .add .u64 (x : Int) 4294967296 = some (.int .u64 ((x + 4294967296 : Nat) : Int)) := add_u64_lt (y := 4294967296) (by show _ < 18446744073709551616; omega)
    have m2 : intBin .sub .u64 ((x + 4294967296 : Nat) : Int) (y : Int) = some (.int .u64 ((x + 4294967296 - y : Nat) : Int)) := sub_u64 (by show _ < 18446744073709551616; omega) (by omega)
    have m3 : intBin .sub .u64 ((x + 4294967296 - y : Nat) : Int) (bor : Int) = some (.int .u64 ((x + 4294967296 - y - bor : Nat) : Int)) := sub_u64 (by show _ < 18446744073709551616; omega) (by omega)
    obtain ⟨z, hz⟩ : ∃ z, z = x + 4294967296 - y - bor := ⟨_, rfl⟩
    rw [← hz] at m3
    have hzB : z < B64 := by show z < 18446744073709551616; omega
    have hz1 : z / 4294967296 ≤ 1 := by omega
    have m4 : intBin .sub .u64 1 ((z / 4294967296 : Nat) : Int) = some (.int .u64 ((1 - z / 4294967296 : Nat) : Int)) := sub_u64 (x := 1) (by decide) hz1
    obtain ⟨H3, st3, own3, bt3, ka3⟩ := own.fill hL (z % 4294967296)
    have a3 := own.sl.adr ltNum (k := .i64) (i := i) (by simp; omega)
    apply W_seq; intro b3 hb3
    apply W_block
    apply W_seq; intro b4 hb4
    apply W_region
    simp [t14]
    show W _ _ b4 _ _; subst hb4
    apply W_seq; intro b4 hb4
    apply W_reads (by kernel_rfl)
    simp [t0, t1, t6, a1, d1, c2, m1, m2, m3]
    show W _ _ b4 _ _; subst hb4
    apply W_seq; intro b4 hb4
    apply W_region
    simp [t5, rem32, a3, st3]
    show W _ _ b4 _ _; subst hb4
    apply W_region
    simp [quo32 hzB, m4]
    show W _ _ b3 _ _; subst hb3
    apply W_region
    simp [t14, add1_i64 (x := i) (by omega)]
    apply hQ'
    refine ⟨m', by omega, rfl, ka3 H kH (Nat.le_refl _), i + 1, 1 - z / 4294967296, L ++ [z % 4294967296], by omega, by simp [hL], by omega, dL.append (.cons (Nat.mod_lt _ (by decide)) (.nil _)), ?_, own3, by simp [t0], by simp [t1], by simp [t5], by simp, by simp [t13], by simp⟩
    rw [dv_append, hL, ex, ey]
    simp only [dv, Nat.mul_zero, Nat.add_zero]
    have e0 : z % 4294967296 + y + bor = x + 4294967296 * (1 - z / 4294967296) := by omega
    have e1 : b32 ^ i * (z % 4294967296 + y + bor) = b32 ^ i * (x + 4294967296 * (1 - z / 4294967296)) := by rw [e0]
    rw [Nat.mul_add (b32 ^ i) x, ← Nat.mul_assoc, show b32 ^ i * 4294967296 = b32 ^ (i + 1) from rfl, Nat.mul_add, Nat.mul_add] at e1
    omega
  · refine W_cond (t := false) (by simp [hi]) ?_
    apply W_exit
    apply hQ'
    left
    refine ⟨rfl, ?_⟩
    obtain rfl : i = n := by omega
    obtain rfl : m = 0 := by omega
    simp at own
    have hxl := dv_lt dx
    rw [← hn] at hxl
    rw [List.take_of_length_le (l := xs) (by omega), dv_take_all (by decide) (Nat.lt_of_le_of_lt hle hxl)] at heq
    have hsum : dv b32 L = dv b32 xs - dv b32 ys := by
      have h1 := dv_lt dL
      rw [hL] at h1
      rcases Nat.lt_or_ge bor 1 with h0 | h0
      · obtain rfl : bor = 0 := by omega
        rw [Nat.mul_zero] at heq
        omega
      · obtain rfl : bor = 1 := by omega
        rw [Nat.mul_one] at heq
        omega
    obtain ⟨v5, H5, hc5, e5, o5, _⟩ := norm32_spec own (by omega)
    subst e5
    rw [trimL_ds two32 dL, hsum] at o5
    show W _ _ b1 _ _; subst hb1
    apply W_seq; intro b4 hb4
    apply W_region
    simp [t5, hc5]
    show W _ _ b4 _ _; subst hb4
    apply W_ret
    simp
    exact ⟨kH, o5⟩

theorem refCmp_spec {va vb : Value} {xs ys : List Nat} {H : AH} (s1 : Sl H va xs) (s2 : Sl H vb ys) (dx : Dig b32 xs) (dy : Dig b32 ys) (tx : trimL xs = xs) (ty : trimL ys = ys) (lx : xs.length ≤ 17592186044416) (ly : ys.length ≤ 17592186044416) :
    CW Tryd.prog cfgR 38 [va, vb] H fun v H' => H' = H ∧ v = .int .i64 (cmpN (dv b32 xs) (dv b32 ys)) := by
  refine CW_intro 41 (by decide) (by decide) Tryd.func38 rfl rfl ?_
  have l1 := s1.len ltNum
  have l2 := s2.len ltNum
  apply W_seq; intro b1 hb1
  apply W_region
  simp
  show W _ _ b1 _ _; subst hb1
  apply W_seq; intro b1 hb1
  apply W_seq; intro b2 hb2
  apply W_region
  simp [l1, l2, neq_nat]
  show W _ _ b2 _ _; subst hb2
  by_cases hl : xs.length = ys.length
  · refine W_cond (t := false) (by simp [hl]) ?_
    apply W_skip
    show W _ _ b1 _ _; subst hb1
    apply W_seq; intro b1 hb1
    apply W_seq; intro b2 hb2
    have w1 : intBin .sub .i64 (xs.length : Int) 1 = some (.int .i64 ((xs.length : Int) - 1)) := by
      show some (Value.int .i64 (IntKind.i64.wrap ((xs.length : Int) - 1))) = _
      congr 2
      rw [IntKind.wrap_i64]; omega
    apply W_region
    simp [l1, w1]
    show W _ _ b2 _ _; subst hb2
    apply W_block
    refine W_loopK (fun n s => s.k = 41 ∧ s.H = H ∧ s.tm.get 0 = some va ∧ s.tm.get 1 = some vb ∧ s.tm.get 5 = some (.int .i64 ((n : Int) - 1)) ∧ n ≤ xs.length ∧ xs.drop n = ys.drop n) ?_ xs.length _ ⟨rfl, rfl, by simp, by simp, by simp, Nat.le_refl _, by rw [List.drop_length, hl, List.drop_length]⟩
    rintro n ⟨k, tm, H'⟩ ⟨h2, h3, h4, h5, h6, h7, h8⟩ Q' hQ'
    simp only at h2 h3 h4 h5 h6
    subst h2; subst h3
    have hge : intBin .geq .i64 ((n : Int) - 1) 0 = some (.bool (decide (0 < n))) := by
      show some (Value.bool (decide ((n : Int) - 1 ≥ 0))) = _
      congr 2; apply decide_eq_decide.mpr; omega
    apply W_seq; intro b2 hb2
    apply W_seq; intro b3 hb3
    apply W_region
    simp [h6, hge]
    show W _ _ b3 _ _; subst hb3
    by_cases hz : n = 0
    · subst hz
      refine W_cond (t := false) (by simp) ?_
      apply W_exit
      apply hQ'
      left
      refine ⟨rfl, ?_⟩
      show W _ _ b1 _ _; subst hb1
      apply W_seq; intro b4 hb4
      apply W_region
      simp
      show W _ _ b4 _ _; subst hb4
      apply W_ret
      have : xs = ys := by simpa using h8
      simp [cmpN, this]
    · have e : (n : Int) - 1 = ((n - 1 : Nat) : Int) := by omega
      refine W_cond (t := true) (by simp; omega) ?_
      apply W_skip
      show W _ _ b2 _ _; subst hb2
      have i1 : n - 1 < xs.length := by omega
      have i2 : n - 1 < ys.length := by omega
      have a1 := s1.adr ltNum (k := .i64) i1
      have a2 := s2.adr ltNum (k := .i64) i2
      have d1 := s1.load i1
      have d2 := s2.load i2
      rw [e] at h6
      have sx : xs = xs.take (n - 1) ++ xs[n - 1] :: xs.drop n := by
        have := List.take_append_drop (n - 1) xs
        rw [List.drop_eq_getElem_cons i1, show n - 1 + 1 = n by omega] at this
        exact this.symm
      have sy : ys = ys.take (n - 1) ++ ys[n - 1] :: ys.drop n := by
        have := List.take_append_drop (n - 1) ys
        rw [List.drop_eq_getElem_cons i2, show n - 1 + 1 = n by omega] at this
        exact this.symm
      have ltk : (xs.take (n - 1)).length = (ys.take (n - 1)).length := by simp [List.length_take, hl]
      apply W_seq; intro b4 hb4
      apply W_block
      apply W_seq; intro b5 hb5
      apply W_seq; intro b6 hb6
      apply W_loads (by kernel_rfl)
      simp [h4, h5, h6, a1, a2, d1, d2]
      show W _ _ b6 _ _; subst hb6
      by_cases hlt : xs[n - 1] < ys[n - 1]
      · refine W_cond (t := true) (by simp; omega) ?_
        apply W_seq; intro b7 hb7
        apply W_region
        simp
        show W _ _ b7 _ _; subst hb7
        apply W_ret
        have hd : dv b32 xs < dv b32 ys := by
          rw [sx, sy, h8]
          exact dv_cmp (dx.take _) (dy.take _) ltk hlt _
        apply hQ'
        simp [seqQ, blockQ, loopQ, cmpN, hd]
      · refine W_cond (t := false) (by simp; omega) ?_
        apply W_skip
        show W _ _ b5 _ _; subst hb5
        apply W_seq; intro b6 hb6
        apply W_loads (by kernel_rfl)
        simp [h4, h5, h6, a1, a2, d1, d2, gtr_nat]
        show W _ _ b6 _ _; subst hb6
        by_cases hgt : ys[n - 1] < xs[n - 1]
        · refine W_cond (t := true) (by simp; omega) ?_
          apply W_seq; intro b7 hb7
          apply W_region
          simp
          show W _ _ b7 _ _; subst hb7
          apply W_ret
          have hd : dv b32 ys < dv b32 xs := by
            rw [sx, sy, h8]
            exact dv_cmp (dy.take _) (dx.take _) ltk.symm hgt _
          have hd2 : ¬ dv b32 xs < dv b32 ys := by omega
          apply hQ'
          simp [seqQ, blockQ, loopQ, cmpN, hd, hd2]
        · refine W_cond (t := false) (by simp; omega) ?_
          apply W_skip
          show W _ _ b4 _ _; subst hb4
          have hw1 : intBin .sub .i64 ((n - 1 : Nat) : Int) 1 = some (.int .i64 (((n - 1 : Nat) : Int) - 1)) := by
            show some (Value.int .i64 (IntKind.i64.wrap (((n - 1 : Nat) : Int) - 1))) = _
            congr 2
            rw [IntKind.wrap_i64]; omega
          apply W_region
          simp [h6, hw1]
          apply hQ'
          refine ⟨n - 1, by omega, rfl, rfl, ?_⟩
          simp [h4, h5]
          refine ⟨by omega, ?_⟩
          rw [List.drop_eq_getElem_cons i1, List.drop_eq_getElem_cons i2, show n - 1 + 1 = n by omega, h8]
          congr 1
          omega
  · refine W_cond (t := true) (by simp; omega) ?_
    apply W_seq; intro b2 hb2
    apply W_seq; intro b3 hb3
    apply W_region
    simp [l1, l2]
    show W _ _ b3 _ _; subst hb3
    by_cases hlt : xs.length < ys.length
    · refine W_cond (t := true) (by simp; omega) ?_
      apply W_seq; intro b3 hb3
      apply W_region
      simp
      show W _ _ b3 _ _; subst hb3
      apply W_ret
      have := normal_lenlt two32 ty dx dy hlt
      simp [seqQ, cmpN, this]
    · refine W_cond (t := false) (by simp; omega) ?_
      apply W_skip
      show W _ _ b2 _ _; subst hb2
      apply W_seq; intro b2 hb2
      apply W_region
      simp
      show W _ _ b2 _ _; subst hb2
      apply W_ret
      have := normal_lenlt two32 tx dy dx (by omega)
      have h2 : ¬ dv b32 xs < dv b32 ys := by omega
      simp [seqQ, cmpN, this, h2]
end
end Go.Proofs.YthlgggcpokfmaaaDoor

/-
  surdref01: Shl, Div.
-/
namespace Go.Proofs.YthlgggcpokfmaaaDoor
open Go Ev
set_option linter.unusedVariables false
set_option linter.unusedSimpArgs false
noncomputable section
set_option maxRecDepth 20000

theorem quo_i64 {x y : Nat} (hx : x < 9223372036854775808) (hy : 0 < y) : intBin .quo .i64 (x : Int) (y : Int) = some (.int .i64 ((x / y : Nat) : Int)) := by
  have hle : x / y ≤ x := Nat.div_le_self x y
  have h0 : ¬ ((y : Int) = 0) := by omega
  have e : IntKind.i64.wrap ((x : Int).tdiv (y : Int)) = ((x / y : Nat) : Int) := by
    rw [IntKind.wrap_i64, Int.tdiv_eq_ediv_of_nonneg (by omega), ← Int.natCast_ediv]
    generalize x / y = q at *
    omega
  show (if (y : Int) = 0 then none else some (Value.int .i64 (IntKind.i64.wrap ((x : Int).tdiv (y : Int))))) = _
  rw [if_neg h0, e]

theorem rem_i64 {x y : Nat} (hy : 0 < y) : intBin .rem .i64 (x : Int) (y : Int) = some (.int .i64 ((x % y : Nat) : Int)) := by
  have h0 : ¬ ((y : Int) = 0) := by omega
  have e : (x : Int).tmod (y : Int) = ((x % y : Nat) : Int) := by
    rw [Int.tmod_eq_emod_of_nonneg (by omega), ← Int.natCast_emod]
  show (if (y : Int) = 0 then none else some (Value.int .i64 ((x : Int).tmod (y : Int)))) = _
  rw [if_neg h0, e]

theorem quo32i {x : Nat} (hx : x < 9223372036854775808) : intBin .quo .i64 (x : Int) 32 = some (.int .i64 ((x / 32 : Nat) : Int)) := quo_i64 (y := 32) hx (by decide)
theorem rem32i {x : Nat} : intBin .rem .i64 (x : Int) 32 = some (.int .i64 ((x % 32 : Nat) : Int)) := rem_i64 (y := 32) (by decide)

/-- A digit of 32 bits, shifted: what stays and what goes up. -/
theorem fit32 {x c s : Nat} (hx : x < b32) (hs : s < 32) (hc : c < 2 ^ s) : x * 2 ^ s % b32 + c < b32 ∧ x * 2 ^ s / b32 < 2 ^ s ∧ x * 2 ^ s = x * 2 ^ s % b32 + b32 * (x * 2 ^ s / b32) ∧ x * 2 ^ s < B64 := by
  have e : b32 = 2 ^ (32 - s) * 2 ^ s := by rw [← Nat.pow_add, show 32 - s + s = 32 by omega]
  have hp := Nat.two_pow_pos s
  refine ⟨?_, ?_, (Nat.mod_add_div _ _).symm, ?_⟩
  · have e1 : x * 2 ^ s % b32 = x % 2 ^ (32 - s) * 2 ^ s := by rw [e, Nat.mul_mod_mul_right]
    have h2 : x % 2 ^ (32 - s) < 2 ^ (32 - s) := Nat.mod_lt _ (Nat.two_pow_pos _)
    rw [e1]
    have : (x % 2 ^ (32 - s) + 1) * 2 ^ s ≤ 2 ^ (32 - s) * 2 ^ s := Nat.mul_le_mul_right _ h2
    rw [← e, Nat.succ_mul] at this
    omega
  · rw [Nat.div_lt_iff_lt_mul (by decide), Nat.mul_comm]
    exact Nat.mul_lt_mul_of_pos_left hx hp
  · have h1 : 2 ^ s ≤ 2 ^ 32 := Nat.pow_le_pow_right (by decide) (by omega)
    have h2 : x * 2 ^ s ≤ 4294967295 * 2 ^ 32 := Nat.mul_le_mul (by have : x < 4294967296 := hx; omega) h1
    show _ < 18446744073709551616
    omega

attribute [-simp] Int.natCast_add Int.natCast_mul Int.natCast_ediv Int.natCast_emod Int.natCast_pow
attribute [local simp] strip stripL LW' LR gW evOp oMove oAssign oPick oBinOp oUnOp oConvert oExtract oIndexAddr oIndex oLoad oStore oSlice oMakeSlice oCall oBuildSlice opd opds optOpd plain plain1 Tr.get_set tmOf builtinV binV isShift sameKind undef resultV resOne packV ltNat ltNum ltLst calleeV parts lss_nat unV DW grdOf heapOp LX isStore

theorem refShl_spec {H : AH} {v : Value} {xs : List Nat} (hv : Sl H v xs) (dx : Dig b32 xs) (lx : xs.length ≤ 8000000000000) {n : Nat} (hn : n ≤ 8000000000000) :
    CW Tryd.prog cfgR 37 [v, .int .i64 (n : Int)] H fun v' H' => Keep H H' ∧ Own H.n H' v' (ds b32 (dv b32 xs * 2 ^ n)) := by
  refine CW_intro 55 (by decide) (by decide) Tryd.func37 rfl rfl ?_
  have l1 := hv.len ltNum
  apply W_seq; intro b1 hb1
  apply W_region
  simp
  show W _ _ b1 _ _; subst hb1
  apply W_seq; intro b1 hb1
  apply W_seq; intro b2 hb2
  apply W_region
  simp [l1, eq0_nat]
  show W _ _ b2 _ _; subst hb2
  by_cases h0 : xs.length = 0
  · obtain rfl : xs = [] := List.length_eq_zero_iff.mp h0
    refine W_cond (t := true) (by simp) ?_
    apply W_seq; intro b2 hb2
    apply W_region
    simp
    show W _ _ b2 _ _; subst hb2
    apply W_ret
    simp [seqQ, dv, ds_zero]
    exact ⟨.refl H, .nil⟩
  · refine W_cond (t := false) (by simp; intro h; exact h0 (by rw [h]; rfl)) ?_
    apply W_skip
    show W _ _ b1 _ _; subst hb1
    obtain ⟨w, hw⟩ : ∃ w, w = n / 32 := ⟨_, rfl⟩
    obtain ⟨s, hs⟩ : ∃ s, s = n % 32 := ⟨_, rfl⟩
    have hs32 : s < 32 := by omega
    have hnw : n = 32 * w + s := by omega
    have q1 : intBin .quo .i64 (n : Int) 32 = some (.int .i64 (w : Int)) := by rw [hw]; exact quo32i (by omega)
    have q2 : intBin .rem .i64 (n : Int) 32 = some (.int .i64 (s : Int)) := by rw [hs]; exact rem32i
    have q3 : intBin .add .i64 (xs.length : Int) (w : Int) = some (.int .i64 ((xs.length + w : Nat) : Int)) := add_i64 (by omega)
    obtain ⟨c0, H1, hmk, k1, o1, n1⟩ := makeSlice_own (H := H) ltNum (n := xs.length + w + 1) (by omega)
    apply W_seq; intro b1 hb1
    apply W_region
    simp [l1, q1, q3, add1_i64 (x := xs.length + w) (by omega), hmk]
    show W _ _ b1 _ _; subst hb1
    apply W_seq; intro b1 hb1
    apply W_region
    simp [q2]
    show W _ _ b1 _ _; subst hb1
    apply W_seq; intro b1 hb1
    apply W_seq; intro b2 hb2
    apply W_region
    simp [l1]
    show W _ _ b2 _ _; subst hb2
    apply W_block
    refine W_loopK (fun m s' => s'.k = 55 ∧ Keep H s'.H ∧ ∃ (i c : Nat) (L : List Nat), m + i = xs.length ∧ L.length = i ∧ c < 2 ^ s ∧ Dig b32 L ∧ dv b32 L + b32 ^ i * c = dv b32 (xs.take i) * 2 ^ s ∧ Own H.n s'.H c0 ((List.replicate w 0 ++ L) ++ c :: List.replicate m 0) ∧
      s'.tm.get 1 = some (.int .i64 (n : Int)) ∧ s'.tm.get 5 = some c0 ∧ s'.tm.get 6 = some (.int .i64 (s : Int)) ∧ s'.tm.get 21 = some v ∧ s'.tm.get 22 = some (.int .i64 (xs.length : Int)) ∧ s'.tm.get 23 = some (.int .i64 (i : Int))) ?_ xs.length _
      ⟨rfl, k1, 0, 0, [], by omega, rfl, Nat.two_pow_pos s, .nil _, by simp [dv], by
        have e : List.replicate (xs.length + w + 1) 0 = (List.replicate w 0 ++ []) ++ 0 :: List.replicate xs.length 0 := by
          rw [List.append_nil, ← List.replicate_succ, List.replicate_append_replicate]; congr 1; omega
        rw [← e]; exact o1, by simp, by simp, by simp, by simp, by simp, by simp⟩
    rintro m ⟨k, tm, H2⟩ ⟨hk, kH, i, c, L, hmi, hL, hc, dL, heq, own, t1, t5, t6, t21, t22, t23⟩ Q' hQ'
    simp only at hk kH own t1 t5 t6 t21 t22 t23
    subst hk
    apply W_seq; intro b3 hb3
    apply W_region
    simp [t22, t23]
    show W _ _ b3 _ _; subst hb3
    apply W_seq; intro b3 hb3
    by_cases hi : i < xs.length
    · refine W_cond (t := true) (by simp [hi]) ?_
      apply W_skip
      show W _ _ b3 _ _; subst hb3
      obtain ⟨m', rfl⟩ : ∃ m', m = m' + 1 := ⟨m - 1, by omega⟩
      have sv := hv.keep kH
      have a1 := sv.adr ltNum (k := .i64) hi
      have d1 := sv.load hi
      have hx : xs[i] < b32 := dx.get (List.getElem?_eq_getElem hi)
      obtain ⟨x, hxe⟩ : ∃ x, x = xs[i] := ⟨_, rfl⟩
      rw [← hxe] at d1 hx
      obtain ⟨f1, f2, f3, f4⟩ := fit32 hx hs32 hc
      obtain ⟨p, hp⟩ : ∃ p, p = x * 2 ^ s := ⟨_, rfl⟩
      rw [← hp] at f1 f2 f3 f4
      have m1 : shiftBin .shl .u64 (x : Int) (s : Int) = some (.int .u64 (p : Int)) := by rw [shl_u64 (by omega), ← hp, Nat.mod_eq_of_lt f4]
      have m2 : intBin .add .i64 (i : Int) (w : Int) = some (.int .i64 ((i + w : Nat) : Int)) := add_i64 (by omega)
      have lp : (List.replicate w 0 ++ L).length = i + w := by simp [hL]; omega
      have m3 : intBin .add .u64 (c : Int) ((p % 4294967296 : Nat) : Int) = some (.int .u64 ((p % 4294967296 + c : Nat) : Int)) := by
        rw [add_u64_lt (by rw [Nat.add_comm]; exact b32_lt f1), Nat.add_comm]
      have a2 := own.sl.adr ltNum (k := .i64) (i := i + w) (by simp [hL]; omega)
      have d2 := own.sl.load (i := i + w) (by simp [hL]; omega)
      rw [get_mid _ _ _ lp] at d2
      obtain ⟨H3, st3, own3, n3, bt3, ka3⟩ := own.put (i := i + w) (by simp [hL]; omega) (p % 4294967296 + c)
      rw [set_mid _ _ _ _ lp] at own3
      have a3 := own3.sl.adr ltNum (k := .i64) (i := i + w + 1) (by simp [hL]; omega)
      obtain ⟨H4, st4, own4, n4, bt4, ka4⟩ := own3.put (i := i + w + 1) (by simp [hL]; omega) (p / 4294967296)
      have hset : (List.replicate w 0 ++ L ++ (p % 4294967296 + c) :: List.replicate (m' + 1) 0).set (i + w + 1) (p / 4294967296) = (List.replicate w 0 ++ (L ++ [p % 4294967296 + c])) ++ (p / 4294967296) :: List.replicate m' 0 := by
        rw [show List.replicate w 0 ++ L ++ (p % 4294967296 + c) :: List.replicate (m' + 1) 0 = (List.replicate w 0 ++ (L ++ [p % 4294967296 + c])) ++ 0 :: List.replicate m' 0 by simp [List.replicate_succ]]
        exact set_mid _ _ _ _ (by simp [hL]; omega)
      rw [hset] at own4
      apply W_seq; intro b3 hb3
      apply W_block
      apply W_seq; intro b4 hb4
      apply W_region
      simp [t21, t23, a1, d1]
      show W _ _ b4 _ _; subst hb4
      apply W_seq; intro b4 hb4
      apply W_mem (by kernel_rfl)
      simp [t1, t5, t6, q1, m1, m2, m3, a2, d2, rem32, st3]
      show W _ _ b4 _ _; subst hb4
      apply W_region
      simp [t1, t5, t6, q1, m1, m2, add1_i64 (x := i + w) (by omega), a3, quo32 f4, st4]
      show W _ _ b3 _ _; subst hb3
      apply W_region
      simp [t23, add1_i64 (x := i) (by omega)]
      apply hQ'
      refine ⟨m', by omega, rfl, ka4 H (ka3 H kH (Nat.le_refl _)) (Nat.le_refl _), i + 1, p / 4294967296, L ++ [p % 4294967296 + c], by omega, by simp [hL], f2, dL.append (.cons f1 (.nil _)), ?_, own4, by simp [t1], by simp [t5], by simp [t6], by simp [t21], by simp [t22], by simp⟩
      rw [dv_append, hL, take_snoc hi, dv_append, List.length_take, Nat.min_eq_left (by omega), ← hxe]
      simp only [dv, Nat.mul_zero, Nat.add_zero]
      rw [Nat.add_mul, ← heq, Nat.mul_assoc (b32 ^ i) x, ← hp]
      have e1 : b32 ^ i * p = b32 ^ i * (p % b32 + b32 * (p / b32)) := by rw [← f3]
      rw [Nat.mul_add, ← Nat.mul_assoc, show b32 ^ i * b32 = b32 ^ (i + 1) from rfl] at e1
      have e2 : b32 ^ i * (p % 4294967296 + c) = b32 ^ i * (p % b32) + b32 ^ i * c := Nat.mul_add _ _ _
      have e3 : b32 ^ (i + 1) * (p / 4294967296) = b32 ^ (i + 1) * (p / b32) := rfl
      omega
    · refine W_cond (t := false) (by simp [hi]) ?_
      apply W_exit
      apply hQ'
      left
      refine ⟨rfl, ?_⟩
      obtain rfl : i = xs.length := by omega
      obtain rfl : m = 0 := by omega
      rw [List.take_length] at heq
      obtain ⟨v5, H5, hc5, e5, o5, _⟩ := norm32_spec own (by simp [hL]; omega)
      subst e5
      have dall : Dig b32 ((List.replicate w 0 ++ L) ++ [c]) := by
        refine Dig.append (Dig.append ?_ dL) (.cons ?_ (.nil _))
        · intro x hx
          rw [List.eq_of_mem_replicate hx]; decide
        · exact Nat.lt_of_lt_of_le hc (by show 2 ^ s ≤ 2 ^ 32; exact Nat.pow_le_pow_right (by decide) (by omega))
      have hval : dv b32 ((List.replicate w 0 ++ L) ++ [c]) = dv b32 xs * 2 ^ n := by
        rw [List.append_assoc, dv_append, dv_append, dv_zeros, List.length_replicate, hL]
        simp only [dv, Nat.mul_zero, Nat.add_zero]
        rw [heq, Nat.zero_add, hnw, Nat.pow_add, Nat.pow_mul]
        show b32 ^ w * (dv b32 xs * 2 ^ s) = dv b32 xs * (b32 ^ w * 2 ^ s)
        rw [Nat.mul_left_comm]
      simp only [List.replicate_zero] at o5
      rw [trimL_ds two32 dall, hval] at o5
      show W _ _ b1 _ _; subst hb1
      apply W_seq; intro b4 hb4
      apply W_region
      simp [t5, hc5]
      show W _ _ b4 _ _; subst hb4
      apply W_ret
      simp
      exact ⟨kH, o5⟩
end
end Go.Proofs.YthlgggcpokfmaaaDoor

/-
  surdref01: Div.
-/
namespace Go.Proofs.YthlgggcpokfmaaaDoor
open Go Ev
set_option linter.unusedVariables false
set_option linter.unusedSimpArgs false
noncomputable section
set_option maxRecDepth 20000

/-- A new block beside hidden ones. -/
theorem grown_new {H : AH} {bits : Nat} {ms : List (Nat × Nat × Nat)} {sz : Nat} {cs : List Value} : But none (H.new sz cs) (grown H ((vis H bits ms).new sz cs)) := by
  refine ⟨rfl, fun j hj _ => ?_⟩
  have hj' : j < H.n + 1 := hj
  rw [AH.blk_new]
  have e : (grown H ((vis H bits ms).new sz cs)).blk j = if H.n ≤ j then ((vis H bits ms).new sz cs).blk j else H.blk j := by
    unfold grown
    show (match (addT H.t ((vis H bits ms).new sz cs) H.n (H.n + 1 - H.n)).get j with | some b => b | none => Blk.dead) = _
    rw [addT_blk]
    by_cases c : H.n ≤ j
    · rw [if_pos (by omega), if_pos c]
    · rw [if_neg (by omega), if_neg c]; rfl
  rw [e]
  by_cases c : j = H.n
  · rw [if_pos (by omega), if_pos c, AH.blk_new, if_pos (show j = (vis H bits ms).n from c)]
  · rw [if_neg (by omega), if_neg c]

theorem grown_new_keep {H : AH} {bits : Nat} {ms : List (Nat × Nat × Nat)} {sz : Nat} {cs : List Value} : Keep H (grown H ((vis H bits ms).new sz cs)) := by
  refine ⟨Nat.le_succ _, Nat.min_le_left _ _, fun j hj => ?_⟩
  have := (grown_new (H := H) (bits := bits) (ms := ms) (sz := sz) (cs := cs)).blk j (show j < H.n + 1 by omega) (fun e => by cases e)
  rw [this, AH.blk_new, if_neg (by omega)]

/-- A list of one limb that is written out in a drawn region. -/
theorem DG_build1 {P : Program} {C : Cfg} {ops : Array Oper} {k i : Nat} {q : Bool} {ms : List (Nat × Nat × Nat)} {tm : Tr Value} {H : AH} {K : Tr Value → AH → Prop} {o : Oper} {r : List Oper} (x : Nat)
    (hg : gW tm (grdOf ops o) = some true) (hh : heapOp o.op = true) (hq : q = false)
    (he : ∀ Hv : AH, evOp P C (callI P C) tm Hv o.op = some (.slice (some ⟨Hv.n, 0, none⟩) 1 1, Hv.new 1 [limb x]))
    (h : ∀ G2 : AH, Own H.n G2 (.slice (some ⟨H.n, 0, none⟩) 1 1) [x] → Keep H G2 → G2.n = H.n + 1 → match o.dst with
      | none => DW P C ops k (i + 1) q ((i, H.n, H.n + 1) :: ms) r tm G2 K
      | some d => d < k ∧ DW P C ops k (i + 1) q ((i, H.n, H.n + 1) :: ms) r (tm.set d (.slice (some ⟨H.n, 0, none⟩) 1 1)) G2 K) : DG P C ops k i q ms (o :: r) tm H K := by
  refine DG_grow (v := .slice (some ⟨H.n, 0, none⟩) 1 1) (H2 := (vis H ((before ops).getD i 0) ms).new 1 [limb x]) hg hh hq (he _) (Nat.le_succ _) (Nat.le_refl _) ?_
  have hbt : Nat.blt H.n ((vis H ((before ops).getD i 0) ms).new 1 [limb x]).n = true := by rw [Nat.blt_eq]; exact Nat.lt_succ_self _
  rw [hbt]
  exact h _ ((Own.new H [x]).same grown_new) grown_new_keep rfl

theorem ms_one {i a b : Nat} {ms : List (Nat × Nat × Nat)} (h : cond (Nat.blt a b) [(i, a, b)] [] = ms) : ∀ x ∈ ms, x.1 = i ∧ a ≤ x.2.1 := by
  intro x hx
  rw [← h] at hx
  cases hbl : Nat.blt a b with
  | true => rw [hbl, cond_true] at hx; simp at hx; subst hx; exact ⟨rfl, Nat.le_refl _⟩
  | false => rw [hbl, cond_false] at hx; cases hx

/-- One step of the halving. -/
theorem halve_step {B R q r k : Nat} (e : R = B * q + r) (hr : r < B * 2 ^ (k + 1)) (hq : q + 2 ^ (k + 1) ≤ 4294967296) :
    (B * 2 ^ k ≤ r → R = B * (q + 2 ^ k) + (r - B * 2 ^ k) ∧ r - B * 2 ^ k < B * 2 ^ k ∧ q + 2 ^ k + 2 ^ k ≤ 4294967296) ∧
    (r < B * 2 ^ k → q + 2 ^ k ≤ 4294967296) := by
  have e2 : 2 ^ (k + 1) = 2 ^ k + 2 ^ k := by rw [Nat.pow_succ]; omega
  rw [e2] at hq
  rw [e2, Nat.mul_add] at hr
  have hp := Nat.two_pow_pos k
  refine ⟨fun h => ⟨?_, by omega, by omega⟩, fun h => by omega⟩
  rw [e, Nat.mul_add]; omega

theorem sub1_any {m : Nat} (h : m < 9223372036854775807) : intBin .sub .i64 (m : Int) 1 = some (.int .i64 ((m : Int) - 1)) := by
  show some (Value.int .i64 (IntKind.i64.wrap ((m : Int) - 1))) = _
  congr 2
  rw [IntKind.wrap_i64]; omega
theorem geq_pred {m : Nat} : intBin .geq .i64 ((m : Int) - 1) 0 = some (.bool (decide (0 < m))) := by
  show some (Value.bool (decide ((m : Int) - 1 ≥ 0))) = _
  congr 2; apply decide_eq_decide.mpr; omega
theorem geq_cmp {a b : Nat} : intBin .geq .i64 (cmpN a b) 0 = some (.bool (decide (b ≤ a))) := by
  show some (Value.bool (decide (cmpN a b ≥ 0))) = _
  congr 2; apply decide_eq_decide.mpr
  unfold cmpN
  split
  · omega
  · split <;> omega

attribute [-simp] Int.natCast_add Int.natCast_mul Int.natCast_ediv Int.natCast_emod Int.natCast_pow
attribute [local simp] strip stripL LW' LR gW evOp oMove oAssign oPick oBinOp oUnOp oConvert oExtract oIndexAddr oIndex oLoad oStore oSlice oMakeSlice oCall oBuildSlice opd opds optOpd plain plain1 Tr.get_set tmOf builtinV binV isShift sameKind undef resultV resOne packV ltNat ltNum ltLst calleeV parts lss_nat unV DW grdOf heapOp LX isStore

set_option maxHeartbeats 2000000 in
theorem refDiv_spec {H : AH} {va vb : Value} {xs ys : List Nat} (ha : Sl H va xs) (hb : Sl H vb ys) (dx : Dig b32 xs) (dy : Dig b32 ys) (ty : trimL ys = ys) (lx : xs.length ≤ 4000000000000) (ly : ys.length ≤ 4000000000000) (hy : 0 < dv b32 ys) :
    CW Tryd.prog cfgR 33 [va, vb] H fun v' H' => Keep H H' ∧ ∃ q r, v' = .tuple #[q, r] ∧ Own H.n H' q (ds b32 (dv b32 xs / dv b32 ys)) ∧ Own H.n H' r (ds b32 (dv b32 xs % dv b32 ys)) := by
  refine CW_intro 60 (by decide) (by decide) Tryd.func33 rfl rfl ?_
  have l1 := ha.len ltNum
  obtain ⟨n, hn⟩ : ∃ n, n = xs.length := ⟨_, rfl⟩
  rw [← hn] at l1
  obtain ⟨B, hB⟩ : ∃ B, B = dv b32 ys := ⟨_, rfl⟩
  rw [← hB] at hy
  have hBlt : B < b32 ^ ys.length := by
    have h1 := dv_lt dy
    rwa [← hB] at h1
  obtain ⟨c0, H1, hmk, k1, o1, n1⟩ := makeSlice_own (H := H) ltNum (n := n) (by omega)
  apply W_seq; intro b1 hb1
  apply W_region
  simp
  show W _ _ b1 _ _; subst hb1
  apply W_seq; intro b1 hb1
  apply W_region
  simp
  show W _ _ b1 _ _; subst hb1
  apply W_seq; intro b1 hb1
  apply W_region
  simp [l1, hmk]
  show W _ _ b1 _ _; subst hb1
  apply W_seq; intro b1 hb1
  apply W_seq; intro b2 hb2
  apply W_region
  simp [l1, sub1_any (m := n) (by omega)]
  show W _ _ b2 _ _; subst hb2
  apply W_block
  refine W_loopK (fun m s' => s'.k = 60 ∧ Keep H s'.H ∧ m ≤ n ∧ ∃ (L : List Nat) (R : Nat) (rv : Value), L.length + m = n ∧ Dig b32 L ∧ R < B ∧ dv b32 (xs.drop m) = B * dv b32 L + R ∧ Own H.n s'.H c0 (List.replicate m 0 ++ L) ∧ H1.n ≤ s'.H.n ∧ Own H1.n s'.H rv (ds b32 R) ∧
    s'.tm.get 0 = some va ∧ s'.tm.get 1 = some vb ∧ s'.tm.get 6 = some rv ∧ s'.tm.get 7 = some c0 ∧ s'.tm.get 8 = some (.int .i64 ((m : Int) - 1))) ?_ n _
    ⟨rfl, k1, Nat.le_refl _, [], 0, .slice none 0 0, by simp, .nil _, hy, by simp [hn, dv], by simpa using o1, Nat.le_refl _, by rw [ds_zero]; exact .nil, by simp, by simp, by simp, by simp, by simp⟩
  rintro m ⟨k, tm, H2⟩ ⟨hk, kH, hm, L, R, rv, hL, dL, hR, heq, own, hn1, ro, t0, t1, t6, t7, t8⟩ Q' hQ'
  simp only at hk kH own hn1 ro t0 t1 t6 t7 t8
  subst hk
  apply W_seq; intro b3 hb3
  apply W_seq; intro b4 hb4
  apply W_region
  simp [t8, geq_pred]
  show W _ _ b4 _ _; subst hb4
  by_cases hm0 : m = 0
  · subst hm0
    refine W_cond (t := false) (by simp) ?_
    apply W_exit
    apply hQ'
    left
    refine ⟨rfl, ?_⟩
    simp at own heq
    have hdiv : dv b32 xs / B = dv b32 L := by rw [heq, Nat.mul_add_div hy, Nat.div_eq_of_lt hR, Nat.add_zero]
    have hmod : dv b32 xs % B = R := by rw [heq, Nat.mul_add_mod, Nat.mod_eq_of_lt hR]
    obtain ⟨v5, H5, hc5, e5, o5, _⟩ := norm32_spec own (by omega)
    subst e5
    rw [trimL_ds two32 dL] at o5
    show W _ _ b1 _ _; subst hb1
    apply W_seq; intro b4 hb4
    apply W_region
    simp [t6, t7, hc5]
    show W _ _ b4 _ _; subst hb4
    apply W_ret
    simp
    rw [← hB, hdiv, hmod]
    exact ⟨kH, v5, rv, ⟨rfl, rfl⟩, o5, ro.mono k1.n (.refl _)⟩
  · refine W_cond (t := true) (by simp; omega) ?_
    apply W_skip
    show W _ _ b3 _ _; subst hb3
    obtain ⟨i, rfl⟩ : ∃ i, m = i + 1 := ⟨m - 1, by omega⟩
    have em : ((i + 1 : Nat) : Int) - 1 = (i : Int) := by omega
    rw [em] at t8
    have hi : i < xs.length := by omega
    have hx : xs[i] < b32 := dx.get (List.getElem?_eq_getElem hi)
    have hdrop : xs.drop i = xs[i] :: xs.drop (i + 1) := List.drop_eq_getElem_cons hi
    -- the rest with one digit more
    have lR : (ds b32 R).length ≤ ys.length := ds_len_le two32 (Nat.lt_trans hR hBlt)
    obtain ⟨v1, H3, hc1, k3, o3⟩ := refShl_spec (H := H2.top) ro.sl.top (ds_dig two32 R) (by omega) (n := 32) (by decide)
    have hc1' : callI Tryd.prog cfgR 37 [rv, .int .i64 32] H2.top = some (v1, H3) := hc1
    rw [dv_ds two32] at o3
    obtain ⟨G1, hG1⟩ : ∃ G1, G1 = grown H2 H3 := ⟨_, rfl⟩
    have kG1 : Keep H2 G1 := by rw [hG1]; exact grown_keep (.refl H2) k3
    have o3' : Own H2.n G1 v1 (ds b32 (R * 2 ^ 32)) := by rw [hG1]; exact o3.same (grown_but k3)
    have h3n : H2.n ≤ H3.n := k3.n
    have nG1 : G1.n = H3.n := by rw [hG1]; rfl
    obtain ⟨x, hxe⟩ : ∃ x, x = xs[i] := ⟨_, rfl⟩
    rw [← hxe] at hx hdrop
    have a1 : indexAddrV Tryd.prog 40 va (.int .i64 (i : Int)) = some (adr va i) := ha.adr ltNum hi
    apply W_seq; intro b3 hb3
    apply W_block
    apply W_seq; intro b4 hb4
    apply W_draw (by kernel_rfl)
    simp [t6]
    refine DG_grow (v := v1) (H2 := H3) rfl rfl rfl (by rw [vis_top rfl]; simp [t6, hc1']) h3n (keep_lw k3) ?_
    rw [← hG1]
    generalize hms : cond (Nat.blt H2.n H3.n) _ _ = ms
    have hms1 := ms_one hms
    simp [t0, t8, a1]
    have hld := fun bits => (ha.keep (kH.trans (vis_keep (bits := bits) kG1 fun x hx => (hms1 x hx).2))).load hi
    rw [← hxe] at hld
    refine DG_read (v := .int .u64 (x : Int)) rfl rfl rfl (by simp [hld]) ?_
    simp
    refine DG_build1 x rfl rfl rfl (fun Hv => by simp [build1_own _ ltNum]) ?_
    intro G2 oG2 kG2 nG2
    obtain ⟨v7, H7, hc7, e7, o7, _⟩ := norm32_spec oG2.top (by simp)
    subst e7
    have o3'' : Own H2.n G2 v1 (ds b32 (R * 2 ^ 32)) := o3'.mono (Nat.le_refl _) kG2
    have h1x : Dig b32 [x] := .cons hx (.nil _)
    have hR32 : R * 2 ^ 32 < b32 ^ (ys.length + 1) := by
      have : R * 2 ^ 32 < b32 ^ ys.length * 2 ^ 32 := Nat.mul_lt_mul_of_pos_right (Nat.lt_trans hR hBlt) (by decide)
      rw [show b32 ^ (ys.length + 1) = b32 ^ ys.length * b32 from rfl, show b32 = 2 ^ 32 by decide]
      exact this
    obtain ⟨v8, H8, hc8, k8, o8⟩ := refAdd_spec (H := G2.top) o3''.sl.top o7.sl (ds_dig two32 _) (trimL_dig h1x) (Nat.le_trans (ds_len_le two32 (k := ys.length + 1) hR32) (by omega)) (by have := trimL_len [x]; simp at this; omega)
    rw [dv_ds two32, dv_trimL, show dv b32 [x] = x by simp [dv]] at o8
    obtain ⟨G3, hG3⟩ : ∃ G3, G3 = grown G2 H8 := ⟨_, rfl⟩
    have kG3 : Keep G2 G3 := by rw [hG3]; exact grown_keep (.refl G2) k8
    obtain ⟨R1, hR1⟩ : ∃ R1, R1 = R * 2 ^ 32 + x := ⟨_, rfl⟩
    rw [← hR1] at o8
    have o8' : Own G2.n G3 v8 (ds b32 R1) := by rw [hG3]; exact o8.same (grown_but k8)
    have h8n : G2.n ≤ H8.n := k8.n
    simp
    refine DG_read (v := v7) rfl rfl rfl ?_ ?_
    · rw [vis_top (hidden_nil fun x hx => ?_)]
      · simp [hc7]
      · rcases List.mem_cons.mp hx with e | e
        · rw [e]; kernel_rfl
        · rw [(hms1 x e).1]; kernel_rfl
    simp
    refine DG_grow (v := v8) (H2 := H8) rfl rfl rfl ?_ h8n (keep_lw k8) ?_
    · rw [vis_top (hidden_nil fun x hx => ?_)]
      · simp [hc8]
      · rcases List.mem_cons.mp hx with e | e
        · rw [e]; kernel_rfl
        · rw [(hms1 x e).1]; kernel_rfl
    rw [← hG3]
    simp
    show W _ _ b4 _ _; subst hb4
    have kH3 : Keep H G3 := ((kH.trans kG1).trans kG2).trans kG3
    have own3 := own.mono (Nat.le_refl _) ((kG1.trans kG2).trans kG3)
    have or3 : Own H1.n G3 v8 (ds b32 R1) := o8'.mono (by have := kG1.n; have := kG2.n; omega) (.refl G3)
    have R1lt : R1 < B * 2 ^ 32 := by
      have h1 : (R + 1) * 2 ^ 32 ≤ B * 2 ^ 32 := Nat.mul_le_mul_right _ hR
      have h2 : x < 2 ^ 32 := hx
      rw [Nat.succ_mul] at h1
      omega
    apply W_seq; intro b4 hb4
    apply W_region
    simp
    show W _ _ b4 _ _; subst hb4
    -- the digit
    refine W_thenK (fun s' => s'.k = 60 ∧ Keep G3 s'.H ∧ ∃ (q r : Nat) (rv' : Value), q < 4294967296 ∧ R1 = B * q + r ∧ r < B ∧ Own H1.n s'.H rv' (ds b32 r) ∧
      s'.tm.get 0 = some va ∧ s'.tm.get 1 = some vb ∧ s'.tm.get 6 = some rv' ∧ s'.tm.get 7 = some c0 ∧ s'.tm.get 8 = some (.int .i64 (i : Int)) ∧ s'.tm.get 9 = some (.int .u64 (q : Int))) ?_ ?_
    · intro Q'' hQ''
      have hbG := hb.keep kH3
      have hB1 : (ds b32 R1).length ≤ ys.length + 1 := ds_len_le two32 (by
        have h2 : B * 2 ^ 32 < b32 ^ ys.length * 2 ^ 32 := Nat.mul_lt_mul_of_pos_right hBlt (by decide)
        rw [show b32 ^ (ys.length + 1) = b32 ^ ys.length * b32 from rfl, show b32 = 2 ^ 32 by decide]
        rw [show b32 = 2 ^ 32 by decide] at h2
        exact Nat.lt_trans R1lt h2)
      obtain ⟨v9, H9, hc9, e9, e9'⟩ := refCmp_spec or3.sl hbG (ds_dig two32 R1) dy (ds_trim two32 R1) ty (by omega) (by omega)
      subst e9; subst e9'
      rw [dv_ds two32, ← hB] at hc9
      apply W_seq; intro b4 hb4
      apply W_region
      simp [t1, hc9, geq_cmp]
      show W _ _ b4 _ _; subst hb4
      by_cases hge : B ≤ R1
      · refine W_cond (t := true) (by simp [hge]) ?_
        apply W_seq; intro b4 hb4
        apply W_region
        simp
        show W _ _ b4 _ _; subst hb4
        apply W_block
        refine W_loopK (fun kk s' => s'.k = 60 ∧ Keep H9 s'.H ∧ kk ≤ 32 ∧ ∃ (q r : Nat) (rv' : Value), q + 2 ^ kk ≤ 4294967296 ∧ R1 = B * q + r ∧ r < B * 2 ^ kk ∧ Own H1.n s'.H rv' (ds b32 r) ∧
          s'.tm.get 0 = some va ∧ s'.tm.get 1 = some vb ∧ s'.tm.get 6 = some rv' ∧ s'.tm.get 7 = some c0 ∧ s'.tm.get 8 = some (.int .i64 (i : Int)) ∧ s'.tm.get 9 = some (.int .u64 (q : Int)) ∧ s'.tm.get 10 = some (.int .i64 ((kk : Int) - 1))) ?_ 32 _
          ⟨rfl, .refl _, Nat.le_refl _, 0, R1, v8, by decide, by simp, R1lt, or3, by simp [t0], by simp [t1], by simp, by simp [t7], by simp [t8], by simp, by simp⟩
        clear t0 t1 t6 t7 t8
        rintro kk ⟨k, tm, H4⟩ ⟨hk, k4, hkk, q, r, rv', hq, hqr, hr, or4, t0, t1, t6, t7, t8, t9, t10⟩ Q5 hQ5
        simp only at hk k4 or4 t0 t1 t6 t7 t8 t9 t10
        subst hk
        apply W_seq; intro b5 hb5
        apply W_seq; intro b6 hb6
        apply W_region
        simp [t10, geq_pred]
        show W _ _ b6 _ _; subst hb6
        by_cases hk0 : kk = 0
        · subst hk0
          refine W_cond (t := false) (by simp) ?_
          apply W_exit
          apply hQ5
          left
          exact ⟨rfl, hQ'' _ ⟨rfl, k4, q, r, rv', by omega, hqr, by simpa using hr, or4, by simp [t0], by simp [t1], by simp [t6], by simp [t7], by simp [t8], by simp [t9]⟩⟩
        · refine W_cond (t := true) (by simp; omega) ?_
          apply W_skip
          show W _ _ b5 _ _; subst hb5
          obtain ⟨s, rfl⟩ : ∃ s, kk = s + 1 := ⟨kk - 1, by omega⟩
          have es : ((s + 1 : Nat) : Int) - 1 = (s : Int) := by omega
          rw [es] at t10
          obtain ⟨st1, st2⟩ := halve_step hqr hr hq
          have hb4' := hbG.keep k4
          obtain ⟨v5, H5, hc5, k5, o5⟩ := refShl_spec (H := H4) hb4' dy (by omega) (n := s) (by omega)
          rw [← hB] at o5
          have or5 := or4.mono (Nat.le_refl _) k5
          have rlt : r ≤ R1 := by rw [hqr]; omega
          have lr : (ds b32 r).length ≤ ys.length + 1 := by
            have h1 := ds_lt two32 R1
            have h2 : b32 ^ (ds b32 R1).length ≤ b32 ^ (ys.length + 1) := Nat.pow_le_pow_right (by decide) hB1
            exact ds_len_le two32 (by omega)
          have lbs : (ds b32 (B * 2 ^ s)).length ≤ ys.length + 1 := ds_len_le two32 (by
            have h1 : B * 2 ^ s ≤ B * 2 ^ 32 := Nat.mul_le_mul_left _ (Nat.pow_le_pow_right (by decide) (by omega))
            have h2 : B * 2 ^ 32 < b32 ^ ys.length * 2 ^ 32 := Nat.mul_lt_mul_of_pos_right hBlt (by decide)
            rw [show b32 ^ (ys.length + 1) = b32 ^ ys.length * b32 from rfl, show b32 = 2 ^ 32 by decide]
            rw [show b32 = 2 ^ 32 by decide] at h2
            exact Nat.lt_of_le_of_lt h1 h2)
          obtain ⟨v6, H6, hc6, e6, e6'⟩ := refCmp_spec or5.sl o5.sl (ds_dig two32 r) (ds_dig two32 _) (ds_trim two32 r) (ds_trim two32 _) (by omega) (by omega)
          subst e6; subst e6'
          rw [dv_ds two32, dv_ds two32] at hc6
          apply W_seq; intro b5 hb5
          apply W_block
          apply W_seq; intro b6 hb6
          apply W_region
          simp [t1, t10, hc5]
          show W _ _ b6 _ _; subst hb6
          apply W_seq; intro b6 hb6
          apply W_region
          simp [t6, hc6, geq_cmp]
          show W _ _ b6 _ _; subst hb6
          by_cases hs : B * 2 ^ s ≤ r
          · obtain ⟨g1, g2, g3⟩ := st1 hs
            obtain ⟨v7, H7, hc7, k7, o7⟩ := refSub_spec or5.sl o5.sl (ds_dig two32 r) (ds_dig two32 _) (by omega) (by rw [dv_ds two32, dv_ds two32]; exact hs)
            rw [dv_ds two32, dv_ds two32] at o7
            have sp := Nat.two_pow_pos s
            have m1 : shiftBin .shl .u64 1 (s : Int) = some (.int .u64 ((2 ^ s : Nat) : Int)) := by
              have := shl_u64 (x := 1) (s := s) (by omega)
              rw [Nat.one_mul, Nat.mod_eq_of_lt (by show _ < 18446744073709551616; omega)] at this
              exact this
            have m2 : intBin .add .u64 (q : Int) ((2 ^ s : Nat) : Int) = some (.int .u64 ((q + 2 ^ s : Nat) : Int)) := add_u64_lt (by show _ < 18446744073709551616; omega)
            refine W_cond (t := true) (by simp [hs]) ?_
            apply W_seq; intro b6 hb6
            apply W_region
            simp [t6, hc7]
            show W _ _ b6 _ _; subst hb6
            apply W_region
            simp [t9, t10, m1, m2]
            show W _ _ b5 _ _; subst hb5
            apply W_region
            simp [t10, sub1_any (m := s) (by omega)]
            apply hQ5
            exact ⟨s, Nat.lt_succ_self s, rfl, (k4.trans k5).trans k7, by show s ≤ 32; omega, q + 2 ^ s, r - B * 2 ^ s, v7, g3, g1, g2, o7.mono (by have := kG1.n; have := kG2.n; have := kG3.n; have := k4.n; have := k5.n; omega) (.refl _), by simp [t0], by simp [t1], by simp, by simp [t7], by simp [t8], by simp, by simp⟩
          · refine W_cond (t := false) (by simp [hs]) ?_
            apply W_skip
            show W _ _ b5 _ _; subst hb5
            apply W_region
            simp [t10, sub1_any (m := s) (by omega)]
            apply hQ5
            exact ⟨s, Nat.lt_succ_self s, rfl, k4.trans k5, by show s ≤ 32; omega, q, r, rv', st2 (by omega), hqr, by omega, or5, by simp [t0], by simp [t1], by simp [t6], by simp [t7], by simp [t8], by simp [t9], by simp⟩
      · refine W_cond (t := false) (by simp [hge]) ?_
        apply W_skip
        apply hQ''
        exact ⟨rfl, .refl _, 0, R1, v8, by decide, by simp, by omega, or3, by simp [t0], by simp [t1], by simp, by simp [t7], by simp [t8], by simp⟩
    clear t0 t1 t6 t7 t8
    rintro ⟨k, tm, H4⟩ ⟨hk, k4, q, r, rv', hq, hqr, hr, or4, t0, t1, t6, t7, t8, t9⟩
    simp only at hk k4 or4 t0 t1 t6 t7 t8 t9
    subst hk
    have own4 := own3.mono (Nat.le_refl _) k4
    have hrep : List.replicate (i + 1) 0 ++ L = List.replicate i 0 ++ 0 :: L := by rw [List.replicate_succ']; simp
    rw [hrep] at own4
    have a3 := own4.sl.adr ltNum (k := .i64) (i := i) (by simp)
    obtain ⟨H5, st5, own5, n5, b5, ka5⟩ := own4.put (i := i) (by simp) q
    rw [set_mid _ _ _ _ (by simp)] at own5
    have bt5 : But (vblk c0) H4 H5 := ⟨n5, fun j _ hj => b5 j hj⟩
    have ap : Apart c0 rv' := apart_own o1 or4 (Nat.le_refl _)
    apply W_region
    simp [t7, t8, t9, a3, st5]
    show W _ _ b3 _ _; subst hb3
    apply W_region
    simp [t8, sub1_any (m := i) (by omega)]
    apply hQ'
    refine ⟨i, Nat.lt_succ_self i, rfl, ka5 H (kH3.trans k4) (Nat.le_refl _), by show i ≤ n; omega, q :: L, r, rv', by simp; omega, .cons hq dL, hr, ?_, own5, by rw [n5]; have := kG1.n; have := kG2.n; have := kG3.n; have := k4.n; omega, or4.but bt5 ap, by simp [t0], by simp [t1], by simp [t6], by simp [t7], by simp⟩
    rw [hdrop]
    simp only [dv]
    rw [heq, Nat.mul_add b32, Nat.mul_add B, Nat.mul_left_comm B b32]
    rw [hqr] at hR1
    have e1 : R * 2 ^ 32 = b32 * R := by rw [Nat.mul_comm]
    omega
end
end Go.Proofs.YthlgggcpokfmaaaDoor

/-
  surdref01's Len, Zero, Div, Gcd as calls (picked out of XOh and XOi, for seats that lack the rest).
-/
namespace Go.Proofs.YthlgggcpokfmaaaDoor
open Go Ev
set_option linter.unusedVariables false
set_option linter.unusedSimpArgs false
noncomputable section
set_option maxRecDepth 20000

/-- The greatest list that the specifications below speak of. -/
abbrev Lim : Nat := 2000000000000

theorem ds64_len {xs : List Nat} (dx : Dig B64 xs) : (ds B64 (dv B64 xs)).length ≤ xs.length := ds_len_le two64 (dv_lt dx)

theorem ds_len_mono {B : Nat} (hB : 2 ≤ B) {n m : Nat} (h : n ≤ m) : (ds B n).length ≤ (ds B m).length := ds_len_le hB (Nat.lt_of_le_of_lt h (ds_lt hB m))

theorem ds_len_pos {B n : Nat} (hB : 2 ≤ B) : 0 < (ds B n).length ↔ 0 < n := by
  constructor
  · intro h
    rcases Nat.eq_zero_or_pos n with h0 | h0
    · subst h0; rw [ds_zero] at h; cases h
    · exact h0
  · intro h
    rw [ds_pos hB (by omega)]; simp

theorem ds_len_zero {B n : Nat} (hB : 2 ≤ B) : (ds B n).length = 0 ↔ n = 0 := by
  have := ds_len_pos (n := n) hB
  omega

theorem blen32 {N : Nat} (h : 0 < (ds b32 N).length) : blen N = 32 * ((ds b32 N).length - 1) + blen ((ds b32 N)[(ds b32 N).length - 1]) ∧ (ds b32 N)[(ds b32 N).length - 1] < b32 := by
  have hN : 0 < N := (ds_len_pos two32).mp h
  obtain ⟨k, hk⟩ : ∃ k, k = (ds b32 N).length - 1 := ⟨_, rfl⟩
  have hlt : k < (ds b32 N).length := by omega
  have e := dv_split' b32 (ds b32 N) k (by omega)
  rw [dv_ds two32, List.drop_eq_getElem_cons hlt, List.drop_eq_nil_of_le (by omega)] at e
  simp only [dv, Nat.mul_zero, Nat.add_zero] at e
  have hl := dv_lt ((ds_dig two32 N).take k)
  rw [List.length_take, Nat.min_eq_left (by omega)] at hl
  have hd : (ds b32 N)[k] < b32 := (ds_dig two32 N).get (List.getElem?_eq_getElem hlt)
  have hge := ds_ge two32 (n := N) (by omega)
  rw [← hk] at hge
  have hp : b32 ^ k = 2 ^ (32 * k) := by rw [Nat.pow_mul]
  rw [hp] at hge e hl
  have e2 : (ds b32 N)[(ds b32 N).length - 1] = (ds b32 N)[k] := by simp only [hk]
  rw [e2, ← hk]
  refine ⟨?_, hd⟩
  have hs := blen_shift hge
  have hq : N / 2 ^ (32 * k) = (ds b32 N)[k] := by
    generalize (ds b32 N)[k] = t at *
    generalize dv b32 ((ds b32 N).take k) = u at *
    rw [e, Nat.add_mul_div_left _ _ (Nat.two_pow_pos _), Nat.div_eq_of_lt hl, Nat.zero_add]
  rw [hq] at hs
  exact hs

theorem blen_le32 {x : Nat} (h : x < b32) : blen x ≤ 32 := by
  rcases Nat.lt_or_ge 32 (blen x) with h1 | h1
  · have h0 : x ≠ 0 := by rintro rfl; simp [blen] at h1
    have a := blen_ge h0
    have b : 2 ^ 32 ≤ 2 ^ (blen x - 1) := Nat.pow_le_pow_right (by decide) (by omega)
    have hx : x < 4294967296 := h
    omega
  · exact h1

theorem dig1 {x : Nat} (h : x < B64) : Dig B64 [x] := .cons h (.nil _)

theorem dv1 (x : Nat) : dv B64 [x] = x := by simp [dv]

theorem ds1 {x : Nat} (h0 : x ≠ 0) (h : x < B64) : ds B64 x = [x] := by rw [ds_pos two64 h0, Nat.mod_eq_of_lt h, Nat.div_eq_of_lt h, ds_zero]

attribute [-simp] Int.natCast_add Int.natCast_mul Int.natCast_ediv Int.natCast_emod Int.natCast_pow
attribute [local simp] strip stripL LW' LR gW evOp oMove oAssign oPick oBinOp oUnOp oConvert oExtract oIndexAddr oIndex oLoad oStore oSlice oMakeSlice oCall oBuildSlice opd opds optOpd plain plain1 Tr.get_set tmOf builtinV binV isShift sameKind undef resultV resOne packV ltNat ltNum ltLst calleeV parts lss_nat unV DW grdOf heapOp LX isStore

/-- A list of one limb that is written out. -/
theorem build1_call (H : AH) {t : TypeId} (ht : LT t) (x : Nat) : ∃ v N, buildSliceV Tryd.prog H t 1 [(0, .int .u64 (x : Int))] = some (v, N) ∧ Keep H N ∧ Own H.n N v [x] :=
  ⟨_, _, build1_own H ht x, .new _ _ _, Own.new H [x]⟩

theorem refLen_spec {H : AH} {v : Value} {N : Nat} (h : Sl H v (ds b32 N)) (hl : (ds b32 N).length ≤ 2 * Lim) :
    CW Tryd.prog cfgR 21 [v] H fun v' H' => H' = H ∧ v' = .int .i64 (blen N : Int) := by
  refine CW_intro 25 (by decide) (by decide) Tryd.func21 rfl rfl ?_
  have l1 := h.len ltNum
  obtain ⟨L, hL⟩ : ∃ L, L = (ds b32 N).length := ⟨_, rfl⟩
  rw [← hL] at l1
  have hl : L ≤ 4000000000000 := by rw [hL]; exact hl
  apply W_seq; intro b1 hb1
  apply W_region
  simp
  show W _ _ b1 _ _; subst hb1
  apply W_seq; intro b1 hb1
  apply W_seq; intro b2 hb2
  apply W_region
  simp [l1, eq0_nat]
  show W _ _ b2 _ _; subst hb2
  by_cases h0 : L = 0
  · refine W_cond (t := true) (by simp [h0]) ?_
    apply W_seq; intro b2 hb2
    apply W_region
    simp
    show W _ _ b2 _ _; subst hb2
    apply W_ret
    have : N = 0 := by rw [h0] at hL; exact (ds_len_zero two32).mp hL.symm
    subst this
    simp [seqQ, blen]
  · refine W_cond (t := false) (by simp [h0]) ?_
    apply W_skip
    show W _ _ b1 _ _; subst hb1
    obtain ⟨e, hd⟩ := blen32 (N := N) (by omega)
    have a1 := h.adr ltNum (k := .i64) (i := (ds b32 N).length - 1) (by omega)
    have d1 := h.load (i := (ds b32 N).length - 1) (by omega)
    obtain ⟨x, hx⟩ : ∃ x, x = (ds b32 N)[(ds b32 N).length - 1]'(by omega) := ⟨_, rfl⟩
    rw [← hx] at d1 hd e
    rw [← hL] at a1 d1 e
    have hx32 := blen_le32 hd
    have s1 : intBin .sub .i64 (L : Int) 1 = some (.int .i64 ((L - 1 : Nat) : Int)) := sub1_i64 (by omega) (by omega)
    have s2 : intBin .mul .i64 32 ((L - 1 : Nat) : Int) = some (.int .i64 ((32 * (L - 1) : Nat) : Int)) := mul32_i64 (by omega)
    apply W_seq; intro b1 hb1
    apply W_region
    simp [l1, s1, s2]
    show W _ _ b1 _ _; subst hb1
    apply W_seq; intro b1 hb1
    apply W_seq; intro b2 hb2
    apply W_region
    simp [l1, s1, a1, d1]
    show W _ _ b2 _ _; subst hb2
    apply W_block
    refine W_loopK (fun y s' => s'.k = 25 ∧ s'.H = H ∧ y < b32 ∧ ∃ n : Nat, n + blen y = blen N ∧ s'.tm.get 3 = some (.int .i64 (n : Int)) ∧ s'.tm.get 4 = some (.int .u64 (y : Int))) ?_ x _
      ⟨rfl, rfl, hd, 32 * (L - 1), e.symm, by simp, by simp⟩
    rintro y ⟨k, tm, H2⟩ ⟨hk, hH, hy, n, hn, t3, t4⟩ Q' hQ'
    simp only at hk hH t3 t4
    subst hk; subst hH
    apply W_seq; intro b3 hb3
    apply W_seq; intro b4 hb4
    apply W_region
    simp [t4, gtr0]
    show W _ _ b4 _ _; subst hb4
    by_cases hy0 : 0 < y
    · refine W_cond (t := true) (by simp [hy0]) ?_
      apply W_skip
      show W _ _ b3 _ _; subst hb3
      have hbh := blen_half hy0
      apply W_seq; intro b3 hb3
      apply W_block
      apply W_region
      simp [t3, add1_i64 (x := n) (by omega)]
      show W _ _ b3 _ _; subst hb3
      apply W_region
      simp [t4, quo2 (b32_lt hy)]
      apply hQ'
      exact ⟨y / 2, Nat.div_lt_self hy0 (by decide), rfl, rfl, Nat.lt_of_le_of_lt (Nat.div_le_self y 2) hy, n + 1, by omega, by simp, by simp⟩
    · refine W_cond (t := false) (by simp [hy0]) ?_
      apply W_exit
      apply hQ'
      left
      refine ⟨rfl, ?_⟩
      obtain rfl : y = 0 := by omega
      have hn' : n = blen N := by rw [← hn]; rfl
      show W _ _ b1 _ _; subst hb1
      apply W_seq; intro b4 hb4
      apply W_region
      simp [t3]
      show W _ _ b4 _ _; subst hb4
      apply W_ret
      simp [hn']

theorem refLen_call {H : AH} {v : Value} {N : Nat} (h : Sl H v (ds b32 N)) (hl : (ds b32 N).length ≤ 2 * Lim) : callI Tryd.prog cfgR 21 [v] H = some (.int .i64 (blen N : Int), H) := by
  obtain ⟨_, _, hc, rfl, rfl⟩ := refLen_spec h hl
  exact hc

theorem zero_call {H : AH} {v : Value} {N : Nat} (h : Sl H v (ds b32 N)) : callI Tryd.prog cfgR 24 [v] H = some (.bool (decide (N = 0)), H) := by
  obtain ⟨_, _, hc, rfl, rfl⟩ := zero_spec h
  rw [hc]
  congr 3
  exact decide_eq_decide.mpr (ds_len_zero two32)

theorem refDiv_call {H : AH} {va vb : Value} {A B : Nat} (ha : Sl H va (ds b32 A)) (hb : Sl H vb (ds b32 B)) (lA : (ds b32 A).length ≤ 2 * Lim) (lB : (ds b32 B).length ≤ 2 * Lim) (hB : 0 < B) :
    ∃ q r H', callI Tryd.prog cfgR 33 [va, vb] H = some (.tuple #[q, r], H') ∧ Keep H H' ∧ Own H.n H' q (ds b32 (A / B)) ∧ Own H.n H' r (ds b32 (A % B)) := by
  obtain ⟨v, H', hc, k, q, r, e, o1, o2⟩ := refDiv_spec ha hb (ds_dig two32 A) (ds_dig two32 B) (ds_trim two32 B) (Nat.le_trans lA (by decide)) (Nat.le_trans lB (by decide)) (by rw [dv_ds two32]; exact hB)
  subst e
  rw [dv_ds two32, dv_ds two32] at o1 o2
  exact ⟨q, r, H', hc, k, o1, o2⟩

section
variable {H : AH} {va vb : Value} {A B : Nat}
theorem refGcd_spec (ha : Sl H va (ds b32 A)) (hb : Sl H vb (ds b32 B)) (lA : (ds b32 A).length ≤ 2 * Lim) (lB : (ds b32 B).length ≤ 2 * Lim) :
    CW Tryd.prog cfgR 32 [va, vb] H fun v H' => Keep H H' ∧ Sl H' v (ds b32 (Nat.gcd A B)) := by
  refine CW_intro 19 (by decide) (by decide) Tryd.func32 rfl rfl ?_
  apply W_seq; intro b1 hb1
  apply W_region
  simp
  show W _ _ b1 _ _; subst hb1
  apply W_seq; intro b1 hb1
  apply W_block
  refine W_loopK (fun m s' => s'.k = 19 ∧ Keep H s'.H ∧ ∃ (a : Nat) (av bv : Value), Nat.gcd a m = Nat.gcd A B ∧ (ds b32 a).length ≤ 2 * Lim ∧ (ds b32 m).length ≤ 2 * Lim ∧ Sl s'.H av (ds b32 a) ∧ Sl s'.H bv (ds b32 m) ∧ s'.tm.get 0 = some av ∧ s'.tm.get 1 = some bv) ?_ B _
    ⟨rfl, .refl H, A, va, vb, rfl, lA, lB, ha, hb, by simp, by simp⟩
  rintro m ⟨k, tm, H3⟩ ⟨hk, k3, a, av, bv, hg, la, lm, oa, ob, t0, t1⟩ Q' hQ'
  simp only at hk k3 oa ob t0 t1
  subst hk
  have z := zero_call ob
  apply W_seq; intro b3 hb3
  apply W_seq; intro b4 hb4
  apply W_region
  simp [t1, z]
  show W _ _ b4 _ _; subst hb4
  by_cases hm : m = 0
  · refine W_cond (t := false) (by simp [hm]) ?_
    apply W_exit
    apply hQ'
    left
    refine ⟨rfl, ?_⟩
    subst hm
    rw [Nat.gcd_zero_right] at hg
    show W _ _ b1 _ _; subst hb1
    apply W_seq; intro b4 hb4
    apply W_region
    simp [t0]
    show W _ _ b4 _ _; subst hb4
    apply W_ret
    simp
    rw [← hg]
    exact ⟨k3, oa⟩
  · refine W_cond (t := true) (by simp [hm]) ?_
    apply W_skip
    show W _ _ b3 _ _; subst hb3
    obtain ⟨q, r, H4, c4, k4, oq, orr⟩ := refDiv_call oa ob la lm (by omega)
    apply W_block
    apply W_seq; intro b3 hb3
    apply W_region
    simp [t0, t1, c4]
    show W _ _ b3 _ _; subst hb3
    apply W_region
    simp [t1]
    apply hQ'
    refine ⟨a % m, Nat.mod_lt _ (by omega), rfl, k3.trans k4, m, bv, r, ?_, lm, Nat.le_trans (ds_len_mono two32 (Nat.mod_le a m)) la, ob.keep k4, orr.sl, by simp, by simp⟩
    rw [← hg, Nat.gcd_comm a m, Nat.gcd_rec m a, Nat.gcd_comm]

theorem of_call {H : AH} {v : Value} {xs : List Nat} (h : Sl H v xs) (dx : Dig B64 xs) (hl : xs.length ≤ Lim) : ∃ v' H', callI Tryd.prog cfgR 23 [v] H = some (v', H') ∧ Keep H H' ∧ Own H.n H' v' (ds b32 (dv B64 xs)) ∧ (ds b32 (dv B64 xs)).length ≤ 2 * Lim := by
  obtain ⟨v', H', hc, k, o⟩ := of_spec h dx (Nat.le_trans hl (by decide))
  refine ⟨v', H', hc, k, o, ?_⟩
  have h1 : dv B64 xs < b32 ^ (2 * xs.length) := by
    have := dv_lt (halves_dig dx)
    rwa [halves_dv, halves_len] at this
  have := ds_len_le two32 h1
  have hl : xs.length ≤ 2000000000000 := hl
  show _ ≤ 2 * 2000000000000
  omega

end
end
end Go.Proofs.YthlgggcpokfmaaaDoor

/-
  THE REFERENCE'S TREES (surdref15.E): what their values say; what of them is computed; the tree of an expression.
-/
namespace Go.Proofs.YthlgggcpokfmaaaDoor
open Go Ev
set_option linter.unusedVariables false
set_option linter.unusedSimpArgs false
noncomputable section
set_option maxRecDepth 20000

/-- A tree of the reference. -/
inductive RT where
  | node (op : Int) (neg : Bool) (N D : Nat) (bad : Bool) (args : List RT)

mutual
def RT.nodes : RT → Nat
  | .node _ _ _ _ _ args => 1 + rnodesAll args
def rnodesAll : List RT → Nat
  | [] => 0
  | t :: ts => t.nodes + rnodesAll ts
end
mutual
def RT.depth : RT → Nat
  | .node _ _ _ _ _ args => rdepthAll args + 1
def rdepthAll : List RT → Nat
  | [] => 0
  | t :: ts => max t.depth (rdepthAll ts)
end
/-- May a node be? -/
def rgood (op : Int) (bad : Bool) (n : Nat) : Bool := !bad && decide (0 ≤ op ∧ op < 16 ∧ n = arity op.toNat)
mutual
def RT.right : RT → Bool
  | .node op _ _ _ bad args => rgood op bad args.length && rrightAll args
def rrightAll : List RT → Bool
  | [] => true
  | t :: ts => t.right && rrightAll ts
end
mutual
/-- The numbers are not too great. -/
def RT.fit : RT → Prop
  | .node _ _ N D _ args => blen N ≤ 67108864 ∧ blen D ≤ 67108864 ∧ rfitAll args
def rfitAll : List RT → Prop
  | [] => True
  | t :: ts => t.fit ∧ rfitAll ts
end

/-- A number in lowest terms: sign, numerator, denominator. -/
def refNum (neg : Bool) (n d : Nat) : Bool × Nat × Nat := if n = 0 then (false, 0, 1) else (neg, n / Nat.gcd n d, d / Nat.gcd n d)
def refHead (op : Int) (neg : Bool) (abs den : List Nat) : (Bool × Nat × Nat) × Bool :=
  if op = 0 then (if dv B64 den = 0 then ((false, 0, 0), true) else (refNum neg (dv B64 abs) (dv B64 den), false))
  else ((false, 0, 0), neg || decide (0 < abs.length) || decide (0 < den.length))
mutual
def ET.ref : ET → RT
  | .node op neg abs den args => .node op (refHead op neg abs den).1.1 (refHead op neg abs den).1.2.1 (refHead op neg abs den).1.2.2 (refHead op neg abs den).2 (refAll args)
def refAll : List ET → List RT
  | [] => []
  | t :: ts => t.ref :: refAll ts
end

theorem refAll_map (l : List ET) : refAll l = l.map ET.ref := by
  induction l with
  | nil => rfl
  | cons x xs ih => simp [refAll, ih]
theorem refAll_len (l : List ET) : (refAll l).length = l.length := by rw [refAll_map]; simp
theorem rnodesAll_append (xs ys : List RT) : rnodesAll (xs ++ ys) = rnodesAll xs + rnodesAll ys := by
  induction xs with
  | nil => simp [rnodesAll]
  | cons x xs ih => simp [rnodesAll, ih, Nat.add_assoc]
theorem rdepthAll_append (xs ys : List RT) : rdepthAll (xs ++ ys) = max (rdepthAll xs) (rdepthAll ys) := by
  induction xs with
  | nil => simp [rdepthAll]
  | cons x xs ih => simp [rdepthAll, ih, Nat.max_assoc]
theorem rrightAll_append (xs ys : List RT) : rrightAll (xs ++ ys) = (rrightAll xs && rrightAll ys) := by
  induction xs with
  | nil => simp [rrightAll]
  | cons x xs ih => simp [rrightAll, ih, Bool.and_assoc]
theorem rnodes_pos (t : RT) : 0 < t.nodes := by cases t; simp only [RT.nodes]; omega
theorem rnodesAll_get {xs : List RT} {i : Nat} {t : RT} (hi : xs[i]? = some t) : t.nodes ≤ rnodesAll xs := by
  induction xs generalizing i with
  | nil => simp at hi
  | cons x xs ih =>
    cases i with
    | zero => simp at hi; subst hi; simp [rnodesAll]
    | succ i => simp at hi; have := ih hi; simp only [rnodesAll]; omega
theorem rfitAll_get {xs : List RT} (h : rfitAll xs) {i : Nat} {t : RT} (hi : xs[i]? = some t) : t.fit := by
  induction xs generalizing i with
  | nil => simp at hi
  | cons x xs ih =>
    cases i with
    | zero => simp at hi; subst hi; exact h.1
    | succ i => simp at hi; exact ih h.2 hi
theorem rnodesAll_len (xs : List RT) : xs.length ≤ rnodesAll xs := by
  induction xs with
  | nil => simp
  | cons x xs ih => have := rnodes_pos x; simp only [rnodesAll, List.length_cons]; omega
theorem rdepth_le_nodes : ∀ n (t : RT), t.nodes ≤ n → t.depth ≤ t.nodes := by
  intro n
  induction n with
  | zero => intro t h; have := rnodes_pos t; omega
  | succ n ih =>
    intro t h
    obtain ⟨op, neg, N, D, bad, args⟩ := t
    simp only [RT.nodes] at h
    simp only [RT.nodes, RT.depth]
    have key : ∀ l : List RT, rnodesAll l ≤ n → rdepthAll l ≤ rnodesAll l := by
      intro l
      induction l with
      | nil => intro _; simp [rdepthAll]
      | cons x xs ihl =>
        intro hl
        simp only [rnodesAll] at hl
        simp only [rdepthAll, rnodesAll]
        have h1 := ih x (by omega)
        have h2 := ihl (by omega)
        omega
    have := key args (by omega)
    omega

/-! ### the tree of an expression -/
theorem ref_nodes : ∀ n (t : ET), t.nodes ≤ n → t.ref.nodes = t.nodes := by
  intro n
  induction n with
  | zero => intro t h; have := nodes_pos t; omega
  | succ n ih =>
    intro t h
    obtain ⟨op, neg, abs, den, args⟩ := t
    simp only [ET.nodes] at h
    simp only [ET.ref, RT.nodes, ET.nodes]
    have key : ∀ l : List ET, nodesAll l ≤ n → rnodesAll (refAll l) = nodesAll l := by
      intro l
      induction l with
      | nil => intro _; rfl
      | cons x xs ihl =>
        intro hl
        simp only [nodesAll] at hl
        simp only [refAll, rnodesAll, nodesAll]
        rw [ih x (by omega), ihl (by omega)]
    rw [key args (by omega)]

theorem ref_depth : ∀ n (t : ET), t.nodes ≤ n → t.ref.depth = t.depth := by
  intro n
  induction n with
  | zero => intro t h; have := nodes_pos t; omega
  | succ n ih =>
    intro t h
    obtain ⟨op, neg, abs, den, args⟩ := t
    simp only [ET.nodes] at h
    simp only [ET.ref, RT.depth, ET.depth]
    have key : ∀ l : List ET, nodesAll l ≤ n → (l = [] ∧ rdepthAll (refAll l) = 0 ∧ depthAll l = 0) ∨ depthAll l = rdepthAll (refAll l) + 1 := by
      intro l
      induction l with
      | nil => intro _; exact .inl ⟨rfl, rfl, rfl⟩
      | cons x xs ihl =>
        intro hl
        simp only [nodesAll] at hl
        simp only [refAll, rdepthAll, depthAll]
        rw [ih x (by omega)]
        rcases ihl (by omega) with ⟨_, h1, h2⟩ | h1
        · right; rw [h1, h2]; omega
        · right; rw [h1]; omega
    rcases key args (by omega) with ⟨_, h1, h2⟩ | h1
    · rw [h1, h2]; omega
    · rw [h1]; omega

theorem ref_right : ∀ n (t : ET), t.nodes ≤ n → t.ref.right = t.allGood := by
  intro n
  induction n with
  | zero => intro t h; have := nodes_pos t; omega
  | succ n ih =>
    intro t h
    obtain ⟨op, neg, abs, den, args⟩ := t
    simp only [ET.nodes] at h
    simp only [ET.ref, RT.right, ET.allGood, ET.good, rgood, refAll_len]
    have key : ∀ l : List ET, nodesAll l ≤ n → rrightAll (refAll l) = goodAll l := by
      intro l
      induction l with
      | nil => intro _; rfl
      | cons x xs ihl =>
        intro hl
        simp only [nodesAll] at hl
        simp only [refAll, rrightAll, goodAll]
        rw [ih x (by omega), ihl (by omega)]
    rw [key args (by omega)]
    congr 1
    rw [Bool.and_comm]
    congr 1
    unfold refHead
    split
    · split
      · rename_i h; rw [h]; rfl
      · rename_i h
        show true = _
        exact (decide_eq_true (by omega)).symm
    · cases neg <;> cases abs <;> cases den <;> simp

theorem refNum_le (neg : Bool) (n d : Nat) (hd : 0 < d) : (refNum neg n d).2.1 ≤ n ∧ (refNum neg n d).2.2 ≤ d := by
  unfold refNum
  split
  · exact ⟨Nat.zero_le _, hd⟩
  · exact ⟨Nat.div_le_self _ _, Nat.div_le_self _ _⟩

theorem blen_mono1 {n m : Nat} (h : n ≤ m) : blen n ≤ blen m := by
  rcases Nat.eq_zero_or_pos n with h0 | h0
  · subst h0; exact Nat.zero_le _
  · have h1 := blen_ge (n := n) (by omega)
    have h2 := blen_lt m
    have := (Nat.pow_lt_pow_iff_right (a := 2) (by decide)).mp (Nat.lt_of_le_of_lt (Nat.le_trans h1 h) h2)
    omega

theorem ref_fit : ∀ n (t : ET), t.nodes ≤ n → t.wide 1048576 → t.ref.fit := by
  intro n
  induction n with
  | zero => intro t h; have := nodes_pos t; omega
  | succ n ih =>
    intro t h hw
    obtain ⟨op, neg, abs, den, args⟩ := t
    simp only [ET.nodes] at h
    obtain ⟨la, ld, da, dd, ws⟩ := hw
    simp only [ET.ref, RT.fit]
    have key : ∀ l : List ET, nodesAll l ≤ n → wideAll 1048576 l → rfitAll (refAll l) := by
      intro l
      induction l with
      | nil => intro _ _; trivial
      | cons x xs ihl =>
        intro hl hwl
        simp only [nodesAll] at hl
        exact ⟨ih x (by omega) hwl.1, ihl (by omega) hwl.2⟩
    have h1 := blen_small da la
    have h2 := blen_small dd ld
    have h0 : blen 0 = 0 := rfl
    refine ⟨?_, ?_, key args (by omega) ws⟩
    · unfold refHead
      split
      · split
        · show blen 0 ≤ _; omega
        · exact Nat.le_trans (blen_mono1 (refNum_le _ _ _ (by omega)).1) (by omega)
      · show blen 0 ≤ _; omega
    · unfold refHead
      split
      · split
        · show blen 0 ≤ _; omega
        · exact Nat.le_trans (blen_mono1 (refNum_le _ _ _ (by omega)).2) (by omega)
      · show blen 0 ≤ _; omega

/-! ### values -/
/-- A slice's block is of some kind. -/
def SlQ (Q : Nat → Prop) (H : AH) (v : Value) (xs : List Nat) : Prop := Sl H v xs ∧ ∀ c, vblk v = some c → Q c

/-- Heaps that agree on some blocks. -/
def Agr (Q : Nat → Prop) (H H' : AH) : Prop := H.n ≤ H'.n ∧ ∀ j, Q j → j < H.n → H'.blk j = H.blk j

theorem Sl.agr {Q : Nat → Prop} {H H' : AH} {v : Value} {xs : List Nat} (h : Sl H v xs) (hq : ∀ c, vblk v = some c → Q c) (k : Agr Q H H') : Sl H' v xs := by
  cases h with
  | nil => exact .nil
  | emp b => exact .emp b
  | mk b o cap xs h1 h2 =>
    obtain ⟨h3, cs, h4, h5, h6⟩ := h2
    have e := k.2 b (hq b rfl) h3
    exact .mk b o cap xs h1 ⟨Nat.lt_of_lt_of_le h3 k.1, cs, by unfold AH.cells; rw [e]; exact h4, by unfold AH.size; rw [e]; exact h5, h6⟩

mutual
/-- Cells of a tree of the reference, in blocks of Q. -/
inductive Rx (Q : Nat → Prop) (H : AH) : List Value → RT → Prop
  | mk {op : Int} {neg bad : Bool} {vn vd vx : Value} {N D : Nat} {args : List RT} : SlQ Q H vn (ds b32 N) → SlQ Q H vd (ds b32 D) → Rxs Q H vx args → Rx Q H [.int .i64 op, .bool neg, vn, vd, .bool bad, vx] (.node op neg N D bad args)
inductive Rxs (Q : Nat → Prop) (H : AH) : Value → List RT → Prop
  | nil : Rxs Q H (.slice none 0 0) []
  | mk (b cap : Nat) {cs : List Value} {args : List RT} : Q b → b < H.n → H.blk b = .rw 6 cs → args.length ≤ cap → (∀ (i : Nat) (t : RT), args[i]? = some t → Rx Q H ((cs.drop (i * 6)).take 6) t) →
      Rxs Q H (.slice (some ⟨b, 0, none⟩) args.length cap) args
end

theorem rx_agr {Q Q' : Nat → Prop} {H H' : AH} (k : Agr Q H H') (hQ : ∀ j, j < H.n → Q j → Q' j) : ∀ n (t : RT), t.nodes ≤ n → ∀ vs, Rx Q H vs t → Rx Q' H' vs t := by
  intro n
  induction n with
  | zero => intro t h; have := rnodes_pos t; omega
  | succ n ih =>
    intro t h vs hx
    cases hx with
    | mk h1 h2 h3 =>
      simp only [RT.nodes] at h
      refine .mk ⟨h1.1.agr h1.2 k, fun c hc => hQ c (h1.1.blk_lt hc) (h1.2 c hc)⟩ ⟨h2.1.agr h2.2 k, fun c hc => hQ c (h2.1.blk_lt hc) (h2.2 c hc)⟩ ?_
      cases h3 with
      | nil => exact .nil
      | mk b cap hq hb hc hl hf =>
        rename_i cs
        refine .mk b cap (cs := cs) (hQ b hb hq) (Nat.lt_of_lt_of_le hb k.1) ?_ hl fun i t hi => ?_
        · rw [k.2 b hq hb]; exact hc
        · have := rnodesAll_get hi
          exact ih t (by omega) _ (hf i t hi)

theorem Rx.agr {Q Q' : Nat → Prop} {H H' : AH} {vs : List Value} {t : RT} (h : Rx Q H vs t) (k : Agr Q H H') (hQ : ∀ j, j < H.n → Q j → Q' j) : Rx Q' H' vs t := rx_agr k hQ _ t (Nat.le_refl _) vs h
theorem Keep.agr {H H' : AH} (k : Keep H H') (Q : Nat → Prop) : Agr Q H H' := ⟨k.n, fun j _ hj => k.blk j hj⟩
theorem Rx.keep {Q : Nat → Prop} {H H' : AH} {vs : List Value} {t : RT} (h : Rx Q H vs t) (k : Keep H H') : Rx Q H' vs t := h.agr (k.agr Q) fun _ _ h => h
theorem Rx.len {Q : Nat → Prop} {H : AH} {vs : List Value} {t : RT} (h : Rx Q H vs t) : vs.length = 6 := by cases h; rfl
theorem Sl.one1 {H : AH} {v : Value} {xs : List Nat} (h : Sl H v xs) : one v = true := by cases h <;> rfl
theorem Rxs.one1 {Q : Nat → Prop} {H : AH} {v : Value} {l : List RT} (h : Rxs Q H v l) : one v = true := by cases h <;> rfl
theorem Rx.ones {Q : Nat → Prop} {H : AH} {vs : List Value} {t : RT} (h : Rx Q H vs t) : vs.all one = true := by
  cases h with
  | mk h1 h2 h3 =>
    simp only [List.all_cons, List.all_nil, h1.1.one1, h2.1.one1, h3.one1, Bool.and_true]
    rfl

/-! ### single operations -/
theorem aE : isAggT Tryd.prog 45 = some true := by kernel_rfl
theorem sE : sizeT Tryd.prog 45 = some 6 := by kernel_rfl
theorem aEs : isAggT Tryd.prog 43 = some false := by kernel_rfl
theorem aNum : isAggT Tryd.prog 40 = some false := by kernel_rfl
theorem zE : zeroT Tryd.prog 45 = some (.agg #[.int .i64 0, .bool false, .slice none 0 0, .slice none 0 0, .bool false, .slice none 0 0]) := by kernel_rfl
theorem uEs : Tryd.prog.underlying 43 = some (.slice 45) := by kernel_rfl
theorem sEs : sliceT Tryd.prog 43 = some (45, 6, 96) := by kernel_rfl

theorem Rxs.len {Q : Nat → Prop} {H : AH} {v : Value} {args : List RT} (h : Rxs Q H v args) : lenV Tryd.prog 43 v = some args.length := by
  unfold lenV
  rw [uEs]
  cases h <;> rfl

theorem load_e {H : AH} {b o : Nat} {cs vs : List Value} (h : H.cells b = some cs) (hk : (cs.drop o).take 6 = vs) (hl : vs.length = 6) : loadV Tryd.prog H 45 (.pointer (some ⟨b, o, none⟩)) = some (.agg vs.toArray) := by
  unfold loadV
  simp only [aE, sE, AH.read_def, h]
  have : o + 6 ≤ cs.length := by
    have := congrArg List.length hk
    rw [List.length_take, List.length_drop, hl] at this
    omega
  rw [Nat.ble_eq.mpr this, cond_true, hk]

theorem Rxs.at {Q : Nat → Prop} {H : AH} {v : Value} {args : List RT} (h : Rxs Q H v args) {i : Nat} {t : RT} (hi : args[i]? = some t) :
    ∃ (p : Value) (vs : List Value), indexAddrV Tryd.prog 43 v (.int .i64 (i : Int)) = some p ∧ (∀ H', Keep H H' → loadV Tryd.prog H' 45 p = some (.agg vs.toArray)) ∧ Rx Q H vs t := by
  have hlt : i < args.length := by
    rcases Nat.lt_or_ge i args.length with h' | h'
    · exact h'
    · rw [List.getElem?_eq_none h'] at hi; cases hi
  cases h with
  | nil => simp at hi
  | mk b cap hq hb hc hl hf =>
    rename_i cs
    have hE := hf i t hi
    have hc' : H.cells b = some cs := by unfold AH.cells; rw [hc]
    refine ⟨.pointer (some ⟨b, i * 6, none⟩), _, ?_, fun H' k => load_e ((cells_keep k hb).trans hc') rfl hE.len, hE⟩
    unfold indexAddrV
    simp only [uEs, sE]
    rw [if_pos (by omega)]
    simp

theorem feOp (b o : Nat) : fieldAddrV Tryd.prog 45 (.pointer (some ⟨b, o, none⟩)) 0 = some (.pointer (some ⟨b, o, none⟩)) := by kernel_rfl
theorem feNum (b o : Nat) : fieldAddrV Tryd.prog 45 (.pointer (some ⟨b, o, none⟩)) 1 = some (.pointer (some ⟨b, o + 1, none⟩)) := by kernel_rfl
theorem feBad (b o : Nat) : fieldAddrV Tryd.prog 45 (.pointer (some ⟨b, o, none⟩)) 2 = some (.pointer (some ⟨b, o + 4, none⟩)) := by kernel_rfl
theorem feArgs (b o : Nat) : fieldAddrV Tryd.prog 45 (.pointer (some ⟨b, o, none⟩)) 3 = some (.pointer (some ⟨b, o + 5, none⟩)) := by kernel_rfl
theorem feN (b o : Nat) : fieldAddrV Tryd.prog 42 (.pointer (some ⟨b, o, none⟩)) 1 = some (.pointer (some ⟨b, o + 1, none⟩)) := by kernel_rfl
theorem feD (b o : Nat) : fieldAddrV Tryd.prog 42 (.pointer (some ⟨b, o, none⟩)) 2 = some (.pointer (some ⟨b, o + 2, none⟩)) := by kernel_rfl
end
end Go.Proofs.YthlgggcpokfmaaaDoor

/-
  surdref01.Int, surdref07.Make, surdref15.arity, as calls.
-/
namespace Go.Proofs.YthlgggcpokfmaaaDoor
open Go Ev
set_option linter.unusedVariables false
set_option linter.unusedSimpArgs false
noncomputable section
set_option maxRecDepth 20000

theorem Sl.shape {H : AH} {v : Value} {xs : List Nat} (h : Sl H v xs) : ∃ a l c, v = .slice a l c := by cases h <;> exact ⟨_, _, _, rfl⟩
theorem Own.shape {n : Nat} {H : AH} {v : Value} {xs : List Nat} (h : Own n H v xs) : ∃ a l c, v = .slice a l c := h.sl.shape
theorem Own.slq {n : Nat} {H : AH} {v : Value} {xs : List Nat} (h : Own n H v xs) : SlQ (fun j => n ≤ j) H v xs := ⟨h.sl, fun c hc => (h.blk_lo hc).1⟩

theorem conv_iu {n : Nat} (h : n < B64) : convV Tryd.prog 3 65 (.int .i64 (n : Int)) = some (.int .u64 (n : Int)) := by
  have h : n < 18446744073709551616 := h
  have e : IntKind.u64.wrap (n : Int) = (n : Int) := by rw [IntKind.wrap_u64]; omega
  unfold convV
  simp only [Tryd.underlying3, Tryd.underlying65, e]

theorem buildR1 (a : Option Addr) (l c : Nat) : buildV Tryd.prog 42 [(2, .slice a l c)] = some (.agg #[.bool false, .slice none 0 0, .slice a l c]) := by kernel_rfl
theorem buildR3 (n : Bool) (a a' : Option Addr) (l c l' c' : Nat) : buildV Tryd.prog 42 [(0, .bool n), (1, .slice a l c), (2, .slice a' l' c')] = some (.agg #[.bool n, .slice a l c, .slice a' l' c']) := by kernel_rfl
theorem zR : zeroT Tryd.prog 42 = some (.agg #[.bool false, .slice none 0 0, .slice none 0 0]) := by kernel_rfl
theorem sR : sizeT Tryd.prog 42 = some 3 := by kernel_rfl
theorem aR : isAggT Tryd.prog 42 = some true := by kernel_rfl
theorem load_r {H : AH} {b o : Nat} {cs vs : List Value} (h : H.cells b = some cs) (hk : (cs.drop o).take 3 = vs) (hl : vs.length = 3) : loadV Tryd.prog H 42 (.pointer (some ⟨b, o, none⟩)) = some (.agg vs.toArray) := by
  unfold loadV
  simp only [aR, sR, AH.read_def, h]
  have : o + 3 ≤ cs.length := by
    have := congrArg List.length hk
    rw [List.length_take, List.length_drop, hl] at this
    omega
  rw [Nat.ble_eq.mpr this, cond_true, hk]

/-- A store anywhere into a block. -/
theorem store_at {H : AH} {sz : Nat} {cs ws : List Value} {t : TypeId} {n b o : Nat} (ht : sizeT Tryd.prog t = some n) (hb : H.blk b = .rw sz cs) {v : Value} (hv : v.cells.toList = ws) (hw : ws.length = n) (ho : o + n ≤ cs.length) (h1 : ws.all one = true) :
    ∃ H', storeV Tryd.prog H t (.pointer (some ⟨b, o, none⟩)) v = some H' ∧ H'.blk b = .rw sz (cs.take o ++ ws ++ cs.drop (o + n)) ∧ H'.n = H.n ∧ (∀ j, j ≠ b → H'.blk j = H.blk j) ∧ KAt b H H' ∧ H'.lw = min H.lw b := by
  have hs : v.cells.size = n := by rw [← hw, ← hv]; simp
  have hle : Nat.ble (o + n) cs.length = true := Nat.ble_eq.mpr ho
  refine ⟨{ n := H.n, lw := min H.lw b, t := H.t.set b (.rw sz (cs.take o ++ ws ++ cs.drop (o + n))) }, ?_, ?_, rfl, fun j hj => ?_, fun H0 k hn => ⟨k.n, ?_, fun j hj => ?_⟩, rfl⟩
  · unfold storeV
    simp only [ht, hs, hv]
    rw [show Nat.beq n n = true from by simp, cond_true, AH.write_def, hb]
    simp only [hw, hle, h1, Bool.and_self, cond_true]
  · unfold AH.blk; simp only [Tr.get_set, if_true]
  · unfold AH.blk; simp only [Tr.get_set]; rw [if_neg hj]
  · have := k.lw
    show min H0.lw H0.n ≤ min H.lw b
    omega
  · unfold AH.blk; simp only [Tr.get_set]
    rw [if_neg (by omega)]
    exact k.blk j hj

/-- What arity answers. -/
def arityZ (op : Int) : Int := if 0 ≤ op ∧ op < 16 then (arity op.toNat : Int) else -1

theorem arity_in (H : AH) : ∀ n : Nat, n < 16 → callI Tryd.prog cfgR 35 [.int .i64 (n : Int)] H = some (.int .i64 (arity n : Int), H) := by
  intro n hn
  match n, hn with
  | 0, _ => exact call_evI 20 _ _ _ _ (by kernel_rfl)
  | 1, _ => exact call_evI 20 _ _ _ _ (by kernel_rfl)
  | 2, _ => exact call_evI 20 _ _ _ _ (by kernel_rfl)
  | 3, _ => exact call_evI 20 _ _ _ _ (by kernel_rfl)
  | 4, _ => exact call_evI 20 _ _ _ _ (by kernel_rfl)
  | 5, _ => exact call_evI 20 _ _ _ _ (by kernel_rfl)
  | 6, _ => exact call_evI 20 _ _ _ _ (by kernel_rfl)
  | 7, _ => exact call_evI 20 _ _ _ _ (by kernel_rfl)
  | 8, _ => exact call_evI 20 _ _ _ _ (by kernel_rfl)
  | 9, _ => exact call_evI 20 _ _ _ _ (by kernel_rfl)
  | 10, _ => exact call_evI 20 _ _ _ _ (by kernel_rfl)
  | 11, _ => exact call_evI 20 _ _ _ _ (by kernel_rfl)
  | 12, _ => exact call_evI 20 _ _ _ _ (by kernel_rfl)
  | 13, _ => exact call_evI 20 _ _ _ _ (by kernel_rfl)
  | 14, _ => exact call_evI 20 _ _ _ _ (by kernel_rfl)
  | 15, _ => exact call_evI 20 _ _ _ _ (by kernel_rfl)
  | n + 16, h => omega

attribute [-simp] Int.natCast_add Int.natCast_mul Int.natCast_ediv Int.natCast_emod Int.natCast_pow
attribute [local simp] strip stripL LW' LR gW evOp oMove oAssign oPick oBinOp oUnOp oConvert oExtract oIndexAddr oIndex oLoad oStore oField oFieldAddr oSlice oMakeSlice oBuildSlice oBuild oAlloc oBox oNilCheck oCall opd opds optOpd plain plain1 Tr.get_set tmOf builtinV binV isShift sameKind undef resultV resOne packV ltNat calleeV parts unV DW grdOf heapOp LX isStore
section
variable {H : AH} {va vb vm : Value}

theorem arity_call (op : Int) : callI Tryd.prog cfgR 35 [.int .i64 op] H = some (.int .i64 (arityZ op), H) := by
  unfold arityZ
  split
  · rename_i h
    have := arity_in H op.toNat (by omega)
    rwa [Int.toNat_of_nonneg h.1] at this
  · rename_i h
    suffices hs : CW Tryd.prog cfgR 35 [.int .i64 op] H fun v H' => v = .int .i64 (-1) ∧ H' = H by
      obtain ⟨_, _, hc, rfl, rfl⟩ := hs
      exact hc
    refine CW_intro 36 (by decide) (by decide) Tryd.func35 rfl rfl ?_
    have f1 : intBin .lss .i64 op 0 = some (.bool (decide (op < 0))) := rfl
    have f2 : intBin .gtr .i64 op 15 = some (.bool (decide (op > 15))) := rfl
    apply W_seq; intro b1 hb1
    apply W_region
    simp
    show W _ _ b1 _ _; subst hb1
    apply W_seq; intro b1 hb1
    apply W_block
    apply W_seq; intro b2 hb2
    apply W_region
    by_cases h0 : op < 0
    · rw [decide_eq_true h0] at f1
      simp [f1]
      show W _ _ b2 _ _; subst hb2
      refine W_cond (t := true) (by simp) ?_
      apply W_seq; intro b1 hb1
      apply W_region
      simp
      show W _ _ b1 _ _; subst hb1
      apply W_ret
      simp [seqQ, blockQ]
    · rw [decide_eq_false h0] at f1
      rw [decide_eq_true (show op > 15 by omega)] at f2
      simp [f1, f2]
      show W _ _ b2 _ _; subst hb2
      refine W_cond (t := true) (by simp) ?_
      apply W_seq; intro b1 hb1
      apply W_region
      simp
      show W _ _ b1 _ _; subst hb1
      apply W_ret
      simp [seqQ, blockQ]

theorem refInt_call (x : Nat) (hx : x < B64) : ∃ v H', callI Tryd.prog cfgR 19 [.int .i64 (x : Int)] H = some (v, H') ∧ Keep H H' ∧ Own H.n H' v (ds b32 x) ∧ (ds b32 x).length ≤ 2 * Lim := by
  obtain ⟨v1, H1, c1, k1, o1⟩ := build1_call H ltLst x
  obtain ⟨v2, H2, c2, k2, o2, l2⟩ := of_call o1.sl (dig1 hx) (show 1 ≤ 2000000000000 by decide)
  rw [dv1] at o2 l2
  suffices hs : CW Tryd.prog cfgR 19 [.int .i64 (x : Int)] H fun v H' => v = v2 ∧ H' = H2 by
    obtain ⟨_, _, hc, rfl, rfl⟩ := hs
    exact ⟨_, _, hc, k1.trans k2, o2.mono k1.n (.refl _), l2⟩
  refine CW_intro 7 (by decide) (by decide) Tryd.func19 rfl rfl ?_
  apply W_seq; intro b1 hb1
  apply W_region
  simp
  show W _ _ b1 _ _; subst hb1
  apply W_seq; intro b1 hb1
  apply W_region
  simp [conv_iu hx, c1, c2]
  show W _ _ b1 _ _; subst hb1
  apply W_ret
  simp

/-- A number of the reference that a call has made: its cells. -/
def OwnR (n : Nat) (H : AH) (us : List Value) (r : Bool × Nat × Nat) : Prop := ∃ a b, us = [.bool r.1, a, b] ∧ Own n H a (ds b32 r.2.1) ∧ Own n H b (ds b32 r.2.2)

theorem make_call {vn vd : Value} {N D : Nat} (neg : Bool) (hn : Sl H vn (ds b32 N)) (hd : Sl H vd (ds b32 D)) (lN : (ds b32 N).length ≤ 2 * Lim) (lD : (ds b32 D).length ≤ 2 * Lim) (h0 : 0 < D) :
    ∃ us H', callI Tryd.prog cfgR 25 [.bool neg, vn, vd] H = some (.agg us.toArray, H') ∧ Keep H H' ∧ OwnR H.n H' us (refNum neg N D) := by
  suffices hs : CW Tryd.prog cfgR 25 [.bool neg, vn, vd] H fun v H' => ∃ us : List Value, v = .agg us.toArray ∧ Keep H H' ∧ OwnR H.n H' us (refNum neg N D) by
    obtain ⟨_, H', hc, us, rfl, h⟩ := hs
    exact ⟨us, H', hc, h⟩
  obtain ⟨r, hr⟩ : ∃ r, r = refNum neg N D := ⟨_, rfl⟩
  rw [← hr]
  unfold refNum at hr
  refine CW_intro 31 (by decide) (by decide) Tryd.func25 rfl rfl ?_
  have kB := Keep.new H 1 [.bool false, .slice none 0 0, .slice none 0 0]
  have bB : (H.new 1 [.bool false, .slice none 0 0, .slice none 0 0]).blk H.n = .rw 1 [.bool false, .slice none 0 0, .slice none 0 0] := by rw [AH.blk_new, if_pos rfl]
  have nB : (H.new 1 [.bool false, .slice none 0 0, .slice none 0 0]).n = H.n + 1 := rfl
  obtain ⟨HB, hHB⟩ : ∃ HB, HB = H.new 1 [.bool false, .slice none 0 0, .slice none 0 0] := ⟨_, rfl⟩
  rw [← hHB] at kB bB nB
  have z := zero_call (hn.keep kB)
  apply W_seq; intro b1 hb1
  apply W_region
  simp [zR, Value.cells, ← hHB]
  show W _ _ b1 _ _; subst hb1
  apply W_seq; intro b1 hb1
  apply W_seq; intro b2 hb2
  apply W_region
  simp [z]
  show W _ _ b2 _ _; subst hb2
  by_cases hN : N = 0
  · refine W_cond (t := true) (by simp [hN]) ?_
    rw [if_pos hN] at hr
    obtain ⟨v1, H1, c1, k1, o1, _⟩ := refInt_call (H := HB) 1 (by decide)
    obtain ⟨x, l, c, rfl⟩ := o1.shape
    obtain ⟨H2, st, blk, n2, oth, ka, _⟩ := store_at (H := H1) (b := H.n) (cs := [.bool false, .slice none 0 0, .slice none 0 0]) (sz := 1) (o := 0) sR (by rw [k1.blk _ (by omega)]; exact bB) (v := .agg #[.bool false, .slice none 0 0, .slice x l c]) (ws := [.bool false, .slice none 0 0, .slice x l c]) rfl rfl (by simp) rfl
    have c1 : callI Tryd.prog cfgR 19 [.int .i64 1] HB = some (.slice x l c, H1) := c1
    apply W_seq; intro b1 hb1
    apply W_region
    simp [c1, buildR1, st]
    show W _ _ b1 _ _; subst hb1
    apply W_ret
    have ld : loadV Tryd.prog H2 42 (.pointer (some ⟨H.n, 0, none⟩)) = some (.agg #[.bool false, .slice none 0 0, .slice x l c]) := load_r (vs := [.bool false, .slice none 0 0, .slice x l c]) (by unfold AH.cells; rw [blk]) rfl rfl
    simp [seqQ, ld]
    refine ⟨ka H (kB.trans k1) (Nat.le_refl _), _, _, by rw [hr], by rw [hr, ds_zero]; exact .nil, ?_⟩
    rw [hr]
    exact (o1.mono (m := H.n) (by omega) (.refl _)).but (b := some H.n) ⟨n2, fun j _ hj => oth j (fun e => hj (by rw [e]))⟩ fun c' e h => by
      cases e
      have := o1.blk_lo h
      omega
  · refine W_cond (t := false) (by simp [hN]) ?_
    rw [if_neg hN] at hr
    apply W_skip
    show W _ _ b1 _ _; subst hb1
    obtain ⟨_, H1, c1, k1, s1⟩ := refGcd_spec (hn.keep kB) (hd.keep kB) lN lD
    obtain ⟨g, hg⟩ : ∃ g, g = Nat.gcd N D := ⟨_, rfl⟩
    rw [← hg] at s1 hr
    have g0 : 0 < g := by rw [hg]; exact Nat.gcd_pos_of_pos_right _ h0
    have gl : (ds b32 g).length ≤ 2 * Lim := Nat.le_trans (ds_len_mono two32 (by rw [hg]; exact Nat.le_of_dvd h0 (Nat.gcd_dvd_right N D))) lD
    obtain ⟨q1, r1, H2, c2, k2, o2, _⟩ := refDiv_call (hn.keep (kB.trans k1)) s1 lN gl g0
    obtain ⟨q2, r2, H3, c3, k3, o3, _⟩ := refDiv_call (hd.keep ((kB.trans k1).trans k2)) (s1.keep k2) lD gl g0
    have n1 := k1.n
    have n2 := k2.n
    obtain ⟨x, l, c, rfl⟩ := o2.shape
    obtain ⟨x', l', c', rfl⟩ := o3.shape
    obtain ⟨H4, st, blk, n4, oth, ka, _⟩ := store_at (H := H3) (b := H.n) (cs := [.bool false, .slice none 0 0, .slice none 0 0]) (sz := 1) (o := 0) sR (by rw [k3.blk _ (by omega), k2.blk _ (by omega), k1.blk _ (by omega)]; exact bB) (v := .agg #[.bool neg, .slice x l c, .slice x' l' c']) (ws := [.bool neg, .slice x l c, .slice x' l' c']) rfl rfl (by simp) rfl
    apply W_seq; intro b1 hb1
    apply W_region
    simp [c1]
    show W _ _ b1 _ _; subst hb1
    apply W_seq; intro b1 hb1
    apply W_region
    simp [c2]
    show W _ _ b1 _ _; subst hb1
    apply W_seq; intro b1 hb1
    apply W_region
    simp [c3]
    show W _ _ b1 _ _; subst hb1
    apply W_seq; intro b1 hb1
    apply W_region
    simp [buildR3, st]
    show W _ _ b1 _ _; subst hb1
    apply W_ret
    have ld : loadV Tryd.prog H4 42 (.pointer (some ⟨H.n, 0, none⟩)) = some (.agg #[.bool neg, .slice x l c, .slice x' l' c']) := load_r (vs := [.bool neg, .slice x l c, .slice x' l' c']) (by unfold AH.cells; rw [blk]) rfl rfl
    simp [ld]
    have bt : But (some H.n) H3 H4 := ⟨n4, fun j _ hj => oth j (fun e => hj (by rw [e]))⟩
    refine ⟨ka H (((kB.trans k1).trans k2).trans k3) (Nat.le_refl _), _, _, by rw [hr], ?_, ?_⟩
    · rw [hr]
      exact (o2.mono (m := H.n) (by omega) k3).but bt fun c' e h => by
        cases e
        have := o2.blk_lo h
        omega
    · rw [hr]
      exact (o3.mono (m := H.n) (by omega) (.refl _)).but bt fun c' e h => by
        cases e
        have := o3.blk_lo h
        omega
end
end
end Go.Proofs.YthlgggcpokfmaaaDoor

/-
  surdref15: Nodes, Depth, right, large, Check, as calls.
-/
namespace Go.Proofs.YthlgggcpokfmaaaDoor
open Go Ev
set_option linter.unusedVariables false
set_option linter.unusedSimpArgs false
noncomputable section
set_option maxRecDepth 20000

theorem faDe (b o : Nat) : fieldAddrV Tryd.prog 45 (.pointer (some ⟨b, o, none⟩)) 3 = some (.pointer (some ⟨b, o + 5, none⟩)) := feArgs b o

/-- A part, laid into a new cell: what the loop's round sees. -/
theorem part_cell {Q : Nat → Prop} {H0 H : AH} {vx : Value} {args : List RT} (h3 : Rxs Q H0 vx args) (k : Keep H0 H) {i : Nat} {x : RT} (hx : args[i]? = some x) :
    ∃ (p : Value) (us : List Value) (H5 : AH), indexAddrV Tryd.prog 43 vx (.int .i64 (i : Int)) = some p ∧ loadV Tryd.prog H 45 p = some (.agg us.toArray) ∧
      storeV Tryd.prog (H.new 1 [.int .i64 0, .bool false, .slice none 0 0, .slice none 0 0, .bool false, .slice none 0 0]) 45 (.pointer (some ⟨H.n, 0, none⟩)) (.agg us.toArray) = some H5 ∧ Keep H H5 ∧
      loadV Tryd.prog H5 45 (.pointer (some ⟨H.n, 0, none⟩)) = some (.agg us.toArray) ∧ Rx Q H5 us x := by
  obtain ⟨p, us, e1, e2, e3⟩ := h3.at hx
  obtain ⟨H5, st5, k5, blk5, n5⟩ := alloc_store (H := H) (sz := 1) (zs := [.int .i64 0, .bool false, .slice none 0 0, .slice none 0 0, .bool false, .slice none 0 0]) sE rfl (v := .agg us.toArray) (ws := us) (by simp [Value.cells]) e3.len e3.ones
  refine ⟨p, us, H5, e1, e2 _ k, st5, k5, load_e (o := 0) (cs := us) (by unfold AH.cells; rw [blk5]) (by rw [List.drop_zero, List.take_of_length_le (by rw [e3.len]; omega)]) e3.len, e3.keep (k.trans k5)⟩

theorem take_snoc1 {α : Type} {l : List α} {i : Nat} {x : α} (hx : l[i]? = some x) : l.take (i + 1) = l.take i ++ [x] := by rw [List.take_add_one, hx]; rfl

theorem gtrN {k : IntKind} {x y : Nat} : intBin .gtr k (x : Int) (y : Int) = some (.bool (decide (y < x))) := gtrC rfl
theorem neqZZ {x y : Int} : intBin .neq .i64 x y = some (.bool (decide (x ≠ y))) := by
  show some (Value.bool (x != y)) = _
  congr 2
  by_cases h : x = y
  · subst h; simp
  · rw [decide_eq_true h]; simp [bne]; omega

attribute [-simp] Int.natCast_add Int.natCast_mul Int.natCast_ediv Int.natCast_emod Int.natCast_pow
attribute [local simp] strip stripL LW' LR gW evOp oMove oAssign oPick oBinOp oUnOp oConvert oExtract oIndexAddr oIndex oLoad oStore oField oFieldAddr oSlice oMakeSlice oBuildSlice oBuild oAlloc oBox oNilCheck oCall opd opds optOpd plain plain1 Tr.get_set tmOf builtinV binV isShift sameKind undef resultV resOne packV ltNat calleeV parts unV DW grdOf heapOp LX isStore
section
variable {Q : Nat → Prop}

set_option maxRecDepth 20000 in
theorem rnodes_ok : ∀ n (t : RT), t.nodes ≤ n → ∀ (H : AH) (vs : List Value), Rx Q H vs t → t.nodes ≤ 1000000000 →
    CW Tryd.prog cfgR 20 [.agg vs.toArray] H (fun v H' => v = .int .i64 (t.nodes : Int) ∧ Keep H H') := by
  intro n
  induction n with
  | zero => intro t h; have := rnodes_pos t; omega
  | succ n ih =>
  intro t ht H vs hE hb
  obtain ⟨op, neg, N, D, bad, args⟩ := t
  cases hE with
  | @mk _ _ _ vn vd vx _ _ _ h1 h2 h3 =>
  simp only [RT.nodes] at ht hb ⊢
  refine CW_intro 19 (by decide) (by decide) Tryd.func20 rfl rfl ?_
  have kB := Keep.new H 1 [.int .i64 op, .bool neg, vn, vd, .bool bad, vx]
  have cB := new_cells H 1 [.int .i64 op, .bool neg, vn, vd, .bool bad, vx]
  obtain ⟨HB, hHB⟩ : ∃ HB, HB = H.new 1 [.int .i64 op, .bool neg, vn, vd, .bool bad, vx] := ⟨_, rfl⟩
  rw [← hHB] at kB cB
  have l5 := load_cell aEs (o := 5) cB rfl
  have lx := h3.len
  obtain ⟨m0, hm0⟩ : ∃ m0, m0 = args.length := ⟨_, rfl⟩
  have la := rnodesAll_len args
  rw [← hm0] at lx la
  apply W_seq; intro b1 hb1
  apply W_region
  simp [Value.cells, ← hHB]
  show W _ _ b1 _ _; subst hb1
  apply W_seq; intro b1 hb1
  apply W_region
  simp
  show W _ _ b1 _ _; subst hb1
  apply W_seq; intro b1 hb1
  apply W_seq; intro b2 hb2
  apply W_region
  simp [feArgs, l5, lx]
  show W _ _ b2 _ _; subst hb2
  apply W_block
  refine W_loopK (fun m s' => s'.k = 19 ∧ Keep HB s'.H ∧ ∃ i : Nat, m + i = m0 ∧ s'.tm.get 3 = some (.int .i64 ((1 + rnodesAll (args.take i) : Nat) : Int)) ∧ s'.tm.get 7 = some vx ∧ s'.tm.get 8 = some (.int .i64 (m0 : Int)) ∧ s'.tm.get 9 = some (.int .i64 (i : Int))) ?_ m0 _
    ⟨rfl, .refl HB, 0, by omega, by simp [rnodesAll], by simp, by simp, by simp⟩
  rintro m ⟨k, tm, H4⟩ ⟨hk, kH, i, hmi, t3, t7, t8, t9⟩ Q' hQ'
  simp only at hk kH t3 t7 t8 t9
  subst hk
  apply W_seq; intro b3 hb3
  apply W_region
  simp [t8, t9, lssN]
  show W _ _ b3 _ _; subst hb3
  apply W_seq; intro b3 hb3
  by_cases hi : i < m0
  · refine W_cond (t := true) (by simp [hi]) ?_
    apply W_skip
    show W _ _ b3 _ _; subst hb3
    obtain ⟨x, hx⟩ : ∃ x, args[i]? = some x := ⟨_, List.getElem?_eq_getElem (by omega)⟩
    have hsum : rnodesAll (args.take (i + 1)) = rnodesAll (args.take i) + x.nodes := by rw [take_snoc1 hx, rnodesAll_append]; simp [rnodesAll]
    have hle : rnodesAll (args.take (i + 1)) ≤ rnodesAll args := by
      have := rnodesAll_append (args.take (i + 1)) (args.drop (i + 1))
      rw [List.take_append_drop] at this
      omega
    obtain ⟨p, us, H5, e1, e2, e3, k5, e5, r5⟩ := part_cell h3 (kB.trans kH) hx
    have hxn := rnodesAll_get hx
    obtain ⟨_, H6, c6, rfl, k6⟩ := ih x (by omega) H5 us r5 (by omega)
    apply W_seq; intro b3 hb3
    apply W_block
    apply W_seq; intro b4 hb4
    apply W_region
    simp [t7, t9, e1, e2, zE, Value.cells, e3]
    show W _ _ b4 _ _; subst hb4
    apply W_region
    simp [t3, e5, c6, addN (x := 1 + rnodesAll (args.take i)) (y := x.nodes) (by omega)]
    show W _ _ b3 _ _; subst hb3
    apply W_region
    simp [t9, add1N (x := i) (by omega)]
    apply hQ'
    refine ⟨m - 1, by omega, rfl, (kH.trans k5).trans k6, i + 1, by omega, ?_, by simp [t7], by simp [t8], by simp⟩
    simp
    rw [hsum, Nat.add_assoc]
  · refine W_cond (t := false) (by simp [hi]) ?_
    apply W_exit
    apply hQ'
    left
    refine ⟨rfl, ?_⟩
    obtain rfl : i = m0 := by omega
    rw [List.take_of_length_le (by omega)] at t3
    show W _ _ b1 _ _; subst hb1
    apply W_seq; intro b1 hb1
    apply W_region
    simp [t3]
    show W _ _ b1 _ _; subst hb1
    apply W_ret
    simp
    exact kB.trans kH

set_option maxRecDepth 20000 in
theorem rdepth_ok : ∀ n (t : RT), t.nodes ≤ n → ∀ (H : AH) (vs : List Value), Rx Q H vs t → t.nodes ≤ 1000000000 →
    CW Tryd.prog cfgR 22 [.agg vs.toArray] H (fun v H' => v = .int .i64 (t.depth : Int) ∧ Keep H H') := by
  intro n
  induction n with
  | zero => intro t h; have := rnodes_pos t; omega
  | succ n ih =>
  intro t ht H vs hE hb
  have hdn := rdepth_le_nodes _ t (Nat.le_refl _)
  obtain ⟨op, neg, N, D, bad, args⟩ := t
  cases hE with
  | @mk _ _ _ vn vd vx _ _ _ h1 h2 h3 =>
  simp only [RT.nodes, RT.depth] at ht hb hdn ⊢
  refine CW_intro 23 (by decide) (by decide) Tryd.func22 rfl rfl ?_
  have kB := Keep.new H 1 [.int .i64 op, .bool neg, vn, vd, .bool bad, vx]
  have cB := new_cells H 1 [.int .i64 op, .bool neg, vn, vd, .bool bad, vx]
  obtain ⟨HB, hHB⟩ : ∃ HB, HB = H.new 1 [.int .i64 op, .bool neg, vn, vd, .bool bad, vx] := ⟨_, rfl⟩
  rw [← hHB] at kB cB
  have l5 := load_cell aEs (o := 5) cB rfl
  have lx := h3.len
  obtain ⟨m0, hm0⟩ : ∃ m0, m0 = args.length := ⟨_, rfl⟩
  have la := rnodesAll_len args
  rw [← hm0] at lx la
  apply W_seq; intro b1 hb1
  apply W_region
  simp [Value.cells, ← hHB]
  show W _ _ b1 _ _; subst hb1
  apply W_seq; intro b1 hb1
  apply W_region
  simp
  show W _ _ b1 _ _; subst hb1
  apply W_seq; intro b1 hb1
  apply W_seq; intro b2 hb2
  apply W_region
  simp [feArgs, l5, lx]
  show W _ _ b2 _ _; subst hb2
  apply W_block
  refine W_loopK (fun m s' => s'.k = 23 ∧ Keep HB s'.H ∧ ∃ i : Nat, m + i = m0 ∧ s'.tm.get 3 = some (.int .i64 ((rdepthAll (args.take i) : Nat) : Int)) ∧ s'.tm.get 8 = some vx ∧ s'.tm.get 9 = some (.int .i64 (m0 : Int)) ∧ s'.tm.get 10 = some (.int .i64 (i : Int))) ?_ m0 _
    ⟨rfl, .refl HB, 0, by omega, by simp [rdepthAll], by simp, by simp, by simp⟩
  rintro m ⟨k, tm, H4⟩ ⟨hk, kH, i, hmi, t3, t8, t9, t10⟩ Q' hQ'
  simp only at hk kH t3 t8 t9 t10
  subst hk
  apply W_seq; intro b3 hb3
  apply W_region
  simp [t9, t10, lssN]
  show W _ _ b3 _ _; subst hb3
  apply W_seq; intro b3 hb3
  by_cases hi : i < m0
  · refine W_cond (t := true) (by simp [hi]) ?_
    apply W_skip
    show W _ _ b3 _ _; subst hb3
    obtain ⟨x, hx⟩ : ∃ x, args[i]? = some x := ⟨_, List.getElem?_eq_getElem (by omega)⟩
    have hmax : rdepthAll (args.take (i + 1)) = max (rdepthAll (args.take i)) x.depth := by rw [take_snoc1 hx, rdepthAll_append]; simp [rdepthAll]
    obtain ⟨p, us, H5, e1, e2, e3, k5, e5, r5⟩ := part_cell h3 (kB.trans kH) hx
    have hxn := rnodesAll_get hx
    obtain ⟨_, H6, c6, rfl, k6⟩ := ih x (by omega) H5 us r5 (by omega)
    apply W_seq; intro b3 hb3
    apply W_block
    apply W_seq; intro b4 hb4
    apply W_region
    simp [t8, t10, e1, e2, zE, Value.cells, e3]
    show W _ _ b4 _ _; subst hb4
    apply W_seq; intro b4 hb4
    apply W_region
    simp [e5, c6]
    show W _ _ b4 _ _; subst hb4
    apply W_seq; intro b4 hb4
    apply W_region
    simp [t3, gtrN (x := x.depth) (y := rdepthAll (args.take i))]
    show W _ _ b4 _ _; subst hb4
    by_cases hg : rdepthAll (args.take i) < x.depth
    · refine W_cond (t := true) (by simp [hg]) ?_
      apply W_region
      simp
      show W _ _ b3 _ _; subst hb3
      apply W_region
      simp [t10, add1N (x := i) (by omega)]
      apply hQ'
      refine ⟨m - 1, by omega, rfl, (kH.trans k5).trans k6, i + 1, by omega, ?_, by simp [t8], by simp [t9], by simp⟩
      simp
      rw [hmax]
      omega
    · refine W_cond (t := false) (by simp [hg]) ?_
      apply W_skip
      show W _ _ b3 _ _; subst hb3
      apply W_region
      simp [t10, add1N (x := i) (by omega)]
      apply hQ'
      refine ⟨m - 1, by omega, rfl, (kH.trans k5).trans k6, i + 1, by omega, ?_, by simp [t8], by simp [t9], by simp⟩
      simp
      rw [hmax, Nat.max_eq_left (by omega)]
      exact t3
  · refine W_cond (t := false) (by simp [hi]) ?_
    apply W_exit
    apply hQ'
    left
    refine ⟨rfl, ?_⟩
    obtain rfl : i = m0 := by omega
    rw [List.take_of_length_le (by omega)] at t3
    show W _ _ b1 _ _; subst hb1
    apply W_seq; intro b1 hb1
    apply W_region
    simp [t3, add1N (x := rdepthAll args) (by omega)]
    show W _ _ b1 _ _; subst hb1
    apply W_ret
    simp
    exact kB.trans kH
end
end
end Go.Proofs.YthlgggcpokfmaaaDoor

/-
  surdref15: right, large, Check; surdref17.Need, as calls.
-/
namespace Go.Proofs.YthlgggcpokfmaaaDoor
open Go Ev
set_option linter.unusedVariables false
set_option linter.unusedSimpArgs false
noncomputable section
set_option maxRecDepth 20000

theorem len_lim {N : Nat} (h : blen N ≤ 67108864) : (ds b32 N).length ≤ 2 * Lim := by
  obtain ⟨k, hk⟩ : ∃ k, k = (ds b32 N).length := ⟨_, rfl⟩
  rcases Nat.eq_zero_or_pos k with h0 | h0
  · omega
  · have := (blen32 (N := N) (by omega)).1
    show _ ≤ 2 * 2000000000000
    omega

theorem rfitAll_of {l : List RT} (h : rfitAll l) {i : Nat} {x : RT} (hx : l[i]? = some x) : x.fit := rfitAll_get h hx

attribute [-simp] Int.natCast_add Int.natCast_mul Int.natCast_ediv Int.natCast_emod Int.natCast_pow
attribute [local simp] strip stripL LW' LR gW evOp oMove oAssign oPick oBinOp oUnOp oConvert oExtract oIndexAddr oIndex oLoad oStore oField oFieldAddr oSlice oMakeSlice oBuildSlice oBuild oAlloc oBox oNilCheck oCall opd opds optOpd plain plain1 Tr.get_set tmOf builtinV binV isShift sameKind undef resultV resOne packV ltNat calleeV parts unV DW grdOf heapOp LX isStore
section
variable {Q : Nat → Prop}

theorem gtrBig {x : Nat} (h : x ≤ 67108864) : intBin .gtr .i64 (x : Int) 67108864 = some (.bool false) := by rw [gtrB, decide_eq_false (by omega)]

set_option maxHeartbeats 1000000 in
set_option maxRecDepth 20000 in
theorem rright_ok : ∀ n (t : RT), t.nodes ≤ n → ∀ (H : AH) (vs : List Value), Rx Q H vs t → t.fit → t.nodes ≤ 1000000000 →
    CW Tryd.prog cfgR 29 [.agg vs.toArray] H (fun v H' => v = .bool t.right ∧ Keep H H') := by
  intro n
  induction n with
  | zero => intro t h; have := rnodes_pos t; omega
  | succ n ih =>
  intro t ht H vs hE hf hb
  obtain ⟨op, neg, N, D, bad, args⟩ := t
  obtain ⟨fN, fD, fA⟩ := hf
  cases hE with
  | @mk _ _ _ vn vd vx _ _ _ h1 h2 h3 =>
  simp only [RT.nodes] at ht hb
  obtain ⟨R, hR⟩ : ∃ R, R = (RT.node op neg N D bad args).right := ⟨_, rfl⟩
  rw [← hR]
  simp only [RT.right] at hR
  obtain ⟨g, hg⟩ : ∃ g, g = rgood op bad args.length := ⟨_, rfl⟩
  rw [← hg] at hR
  unfold rgood at hg
  refine CW_intro 41 (by decide) (by decide) Tryd.func29 rfl rfl ?_
  have kB := Keep.new H 1 [.int .i64 op, .bool neg, vn, vd, .bool bad, vx]
  have cB := new_cells H 1 [.int .i64 op, .bool neg, vn, vd, .bool bad, vx]
  obtain ⟨HB, hHB⟩ : ∃ HB, HB = H.new 1 [.int .i64 op, .bool neg, vn, vd, .bool bad, vx] := ⟨_, rfl⟩
  rw [← hHB] at kB cB
  have cT : HB.top.cells H.n = some _ := cB
  have l0 := load_cell aInt (o := 0) cT rfl
  have l2 := load_cell aNum (o := 2) cT rfl
  have l3 := load_cell aNum (o := 3) cT rfl
  have l4 := load_cell aBool (o := 4) cT rfl
  have l5 := load_cell aEs (o := 5) cT rfl
  have l5' := load_cell aEs (o := 5) cB rfl
  have lx := h3.len
  have c1 := arity_call (H := HB.top) op
  have c2 := refLen_call ((h1.1.keep kB).keep (keep_topT _)) (len_lim fN)
  have c3 := refLen_call ((h2.1.keep kB).keep (keep_topT _)) (len_lim fD)
  have e1 := gtrBig fN
  have e2 := gtrBig fD
  obtain ⟨m0, hm0⟩ : ∃ m0, m0 = args.length := ⟨_, rfl⟩
  have la := rnodesAll_len args
  rw [← hm0] at lx la hg
  have e0 : intBin .neq .i64 (arityZ op) (m0 : Int) = some (.bool (decide (arityZ op ≠ (m0 : Int)))) := neqZZ
  apply W_seq; intro b1 hb1
  apply W_region
  simp [Value.cells, ← hHB]
  show W _ _ b1 _ _; subst hb1
  apply W_seq; intro b1 hb1
  apply W_seq; intro b2 hb2
  have no : ∀ tm : Tr Value, tm.get 29 = some (.bool true) → R = false → W Tryd.prog cfgR b2 ⟨41, tm, HB⟩ (seqQ Tryd.prog cfgR b1 fun ex s => (ex = .norm ∨ ex = .ret) ∧ ∃ vs, resultV Tryd.prog s [.tmp 2] = some vs ∧ packV vs = .bool R ∧ Keep H s.H) := fun tm ht hno => by
    rw [hno]
    subst hb2
    refine W_cond (t := true) (by simp [ht]) ?_
    apply W_seq; intro b2 hb2
    apply W_region
    simp
    show W _ _ b2 _ _; subst hb2
    apply W_ret
    simp [seqQ]
    exact kB
  apply W_reads (by kernel_rfl)
  by_cases hbad : bad = true
  · subst hbad
    simp [feBad, l4]
    show W _ _ b2 _ _
    exact no _ (by simp) (by rw [hR, hg]; rfl)
  have hbad : bad = false := by simpa using hbad
  subst hbad
  by_cases ha : arityZ op = (m0 : Int)
  · rw [decide_eq_false (by omega)] at e0
    simp [feOp, feBad, feArgs, feNum, feN, feD, l0, l2, l3, l4, l5, lx, c1, c2, c3, e0, e1, e2]
    show W _ _ b2 _ _; subst hb2
    refine W_cond (t := false) (by simp) ?_
    apply W_skip
    show W _ _ b1 _ _; subst hb1
    clear no
    have hgt : g = true := by
      rw [hg]
      unfold arityZ at ha
      split at ha
      · rename_i h
        rw [decide_eq_true ⟨h.1, h.2, by omega⟩]; rfl
      · omega
    rw [hgt, Bool.true_and] at hR
    apply W_seq; intro b1 hb1
    apply W_seq; intro b2 hb2
    apply W_region
    simp [feArgs, l5', lx]
    show W _ _ b2 _ _; subst hb2
    apply W_block
    refine W_loopK (fun m s' => s'.k = 41 ∧ Keep HB s'.H ∧ ∃ i : Nat, m + i = m0 ∧ rrightAll (args.take i) = true ∧ s'.tm.get 31 = some vx ∧ s'.tm.get 32 = some (.int .i64 (m0 : Int)) ∧ s'.tm.get 33 = some (.int .i64 (i : Int))) ?_ m0 _
      ⟨rfl, .refl HB, 0, by omega, by simp [rrightAll], by simp, by simp, by simp⟩
    rintro m ⟨k, tm, H4⟩ ⟨hk, kH, i, hmi, hok, t31, t32, t33⟩ Q' hQ'
    simp only at hk kH t31 t32 t33
    subst hk
    apply W_seq; intro b3 hb3
    apply W_region
    simp [t32, t33, lssN]
    show W _ _ b3 _ _; subst hb3
    apply W_seq; intro b3 hb3
    by_cases hi : i < m0
    · refine W_cond (t := true) (by simp [hi]) ?_
      apply W_skip
      show W _ _ b3 _ _; subst hb3
      obtain ⟨x, hx⟩ : ∃ x, args[i]? = some x := ⟨_, List.getElem?_eq_getElem (by omega)⟩
      have hnext : rrightAll (args.take (i + 1)) = x.right := by rw [take_snoc1 hx, rrightAll_append, hok]; simp [rrightAll]
      obtain ⟨p, us, H5, e1, e2, e3, k5, e5, r5⟩ := part_cell h3 (kB.trans kH) hx
      have hxn := rnodesAll_get hx
      obtain ⟨_, H6, c6, rfl, k6⟩ := ih x (by omega) H5 us r5 (rfitAll_get fA hx) (by omega)
      obtain ⟨r, hr⟩ : ∃ r, r = x.right := ⟨_, rfl⟩
      rw [← hr] at c6 hnext
      apply W_seq; intro b3 hb3
      apply W_block
      apply W_seq; intro b4 hb4
      apply W_region
      simp [t31, t33, e1, e2, zE, Value.cells, e3]
      show W _ _ b4 _ _; subst hb4
      apply W_seq; intro b4 hb4
      apply W_region
      simp [e5, c6]
      show W _ _ b4 _ _; subst hb4
      cases r with
      | true =>
        refine W_cond (t := false) (by simp) ?_
        apply W_skip
        show W _ _ b3 _ _; subst hb3
        apply W_region
        simp [t33, add1N (x := i) (by omega)]
        apply hQ'
        exact ⟨m - 1, by omega, rfl, (kH.trans k5).trans k6, i + 1, by omega, hnext, by simp [t31], by simp [t32], by simp⟩
      | false =>
        refine W_cond (t := true) (by simp) ?_
        apply W_seq; intro b1 hb1
        apply W_region
        simp
        show W _ _ b1 _ _; subst hb1
        apply W_ret
        apply hQ'
        have : rrightAll args = false := by
          have h := rrightAll_append (args.take (i + 1)) (args.drop (i + 1))
          rw [List.take_append_drop, hnext, Bool.false_and] at h
          exact h
        rw [this] at hR
        simp [loopQ, blockQ, seqQ, hR]
        exact ((kB.trans kH).trans k5).trans k6
    · refine W_cond (t := false) (by simp [hi]) ?_
      apply W_exit
      apply hQ'
      left
      refine ⟨rfl, ?_⟩
      obtain rfl : i = m0 := by omega
      rw [List.take_of_length_le (by omega)] at hok
      rw [hok] at hR
      show W _ _ b1 _ _; subst hb1
      apply W_seq; intro b1 hb1
      apply W_region
      simp
      show W _ _ b1 _ _; subst hb1
      apply W_ret
      simp [hR]
      exact kB.trans kH
  · rw [decide_eq_true ha] at e0
    simp [feOp, feBad, feArgs, feNum, feN, feD, l0, l2, l3, l4, l5, lx, c1, c2, c3, e0, e1, e2]
    show W _ _ b2 _ _
    refine no _ (by simp) ?_
    rw [hR, hg]
    have : decide (0 ≤ op ∧ op < 16 ∧ m0 = arity op.toNat) = false := decide_eq_false fun h => by
      unfold arityZ at ha
      rw [if_pos ⟨h.1, h.2.1⟩] at ha
      omega
    rw [this]
    rfl

section
variable {H : AH} {vs : List Value} {t : RT}

theorem load_box {Q : Nat → Prop} {H H' : AH} {vs : List Value} {t : RT} (h : Rx Q H vs t) (k : Keep (H.new 1 vs) H') : loadV Tryd.prog H' 45 (.pointer (some ⟨H.n, 0, none⟩)) = some (.agg vs.toArray) :=
  load_e (o := 0) (cs := vs) ((cells_keep k (Nat.lt_succ_self _)).trans (new_cells H 1 vs)) (by rw [List.drop_zero, List.take_of_length_le (by rw [h.len]; omega)]) h.len

theorem rnodes_call (h : Rx Q H vs t) (hb : t.nodes ≤ 1000000000) : ∃ H', callI Tryd.prog cfgR 20 [.agg vs.toArray] H = some (.int .i64 (t.nodes : Int), H') ∧ Keep H H' := by
  obtain ⟨_, H', hc, rfl, k⟩ := rnodes_ok _ t (Nat.le_refl _) H vs h hb
  exact ⟨H', hc, k⟩
theorem rdepth_call (h : Rx Q H vs t) (hb : t.nodes ≤ 1000000000) : ∃ H', callI Tryd.prog cfgR 22 [.agg vs.toArray] H = some (.int .i64 (t.depth : Int), H') ∧ Keep H H' := by
  obtain ⟨_, H', hc, rfl, k⟩ := rdepth_ok _ t (Nat.le_refl _) H vs h hb
  exact ⟨H', hc, k⟩
theorem rright_call (h : Rx Q H vs t) (hf : t.fit) (hb : t.nodes ≤ 1000000000) : ∃ H', callI Tryd.prog cfgR 29 [.agg vs.toArray] H = some (.bool t.right, H') ∧ Keep H H' := by
  obtain ⟨_, H', hc, rfl, k⟩ := rright_ok _ t (Nat.le_refl _) H vs h hf hb
  exact ⟨H', hc, k⟩

theorem rlarge_call (h : Rx Q H vs t) (hb : t.nodes ≤ 1000000000) : ∃ H', callI Tryd.prog cfgR 30 [.agg vs.toArray] H = some (.bool (decide (4000 < t.nodes ∨ 200 < t.depth)), H') ∧ Keep H H' := by
  suffices hs : CW Tryd.prog cfgR 30 [.agg vs.toArray] H fun v H' => v = .bool (decide (4000 < t.nodes ∨ 200 < t.depth)) ∧ Keep H H' by
    obtain ⟨_, H', hc, rfl, k⟩ := hs
    exact ⟨H', hc, k⟩
  obtain ⟨R, hR⟩ : ∃ R, R = decide (4000 < t.nodes ∨ 200 < t.depth) := ⟨_, rfl⟩
  rw [← hR]
  refine CW_intro 11 (by decide) (by decide) Tryd.func30 rfl rfl ?_
  have kB := Keep.new H 1 vs
  have lb := fun {H'} (k : Keep (H.new 1 vs) H') => load_box h k
  obtain ⟨HB, hHB⟩ : ∃ HB, HB = H.new 1 vs := ⟨_, rfl⟩
  rw [← hHB] at kB lb
  obtain ⟨H2, c2, k2⟩ := rnodes_call (h.keep kB) hb
  obtain ⟨H3, c3, k3⟩ := rdepth_call ((h.keep kB).keep k2) hb
  have l1 := lb (.refl HB)
  have l2 := lb k2
  have g1 : intBin .gtr .i64 (t.nodes : Int) 4000 = some (.bool (decide (4000 < t.nodes))) := gtrC (y := 4000) rfl
  have g2 : intBin .gtr .i64 (t.depth : Int) 200 = some (.bool (decide (200 < t.depth))) := gtrC (y := 200) rfl
  apply W_seq; intro b1 hb1
  apply W_region
  simp [Value.cells, ← hHB]
  show W _ _ b1 _ _; subst hb1
  apply W_seq; intro b1 hb1
  apply W_region
  by_cases h1 : 4000 < t.nodes
  · rw [decide_eq_true h1] at g1
    simp [l1, c2, g1]
    show W _ _ b1 _ _; subst hb1
    apply W_ret
    simp
    exact ⟨by rw [hR]; simp [h1], kB.trans k2⟩
  · rw [decide_eq_false h1] at g1
    simp [l1, c2, g1, l2, c3, g2]
    show W _ _ b1 _ _; subst hb1
    apply W_ret
    simp
    exact ⟨by rw [hR]; simp [h1], (kB.trans k2).trans k3⟩

/-- Check's answer. -/
def rcheckN (t : RT) : Nat := if t.right = false then 152 else if 4000 < t.nodes ∨ 200 < t.depth then 151 else 0

theorem rcheck_call (h : Rx Q H vs t) (hf : t.fit) (hb : t.nodes ≤ 1000000000) : ∃ H', callI Tryd.prog cfgR 18 [.agg vs.toArray] H = some (.int .i64 (rcheckN t : Int), H') ∧ Keep H H' := by
  suffices hs : CW Tryd.prog cfgR 18 [.agg vs.toArray] H fun v H' => v = .int .i64 (rcheckN t : Int) ∧ Keep H H' by
    obtain ⟨_, H', hc, rfl, k⟩ := hs
    exact ⟨H', hc, k⟩
  obtain ⟨R, hR⟩ : ∃ R, R = rcheckN t := ⟨_, rfl⟩
  rw [← hR]
  unfold rcheckN at hR
  refine CW_intro 8 (by decide) (by decide) Tryd.func18 rfl rfl ?_
  have kB := Keep.new H 1 vs
  have lb := fun {H'} (k : Keep (H.new 1 vs) H') => load_box h k
  obtain ⟨HB, hHB⟩ : ∃ HB, HB = H.new 1 vs := ⟨_, rfl⟩
  rw [← hHB] at kB lb
  obtain ⟨H2, c2, k2⟩ := rright_call (h.keep kB) hf hb
  obtain ⟨H3, c3, k3⟩ := rlarge_call ((h.keep kB).keep k2) hb
  have l1 := lb (.refl HB)
  have l2 := lb k2
  obtain ⟨g, hg⟩ : ∃ g, g = t.right := ⟨_, rfl⟩
  rw [← hg] at c2 hR
  obtain ⟨p, hp⟩ : ∃ p, p = decide (4000 < t.nodes ∨ 200 < t.depth) := ⟨_, rfl⟩
  rw [← hp] at c3
  apply W_seq; intro b1 hb1
  apply W_region
  simp [Value.cells, ← hHB]
  show W _ _ b1 _ _; subst hb1
  apply W_seq; intro b1 hb1
  apply W_seq; intro b2 hb2
  apply W_region
  simp [l1, c2]
  show W _ _ b2 _ _; subst hb2
  cases g with
  | false =>
    rw [if_pos rfl] at hR
    subst hR
    refine W_cond (t := true) (by simp) ?_
    apply W_seq; intro b1 hb1
    apply W_region
    simp
    show W _ _ b1 _ _; subst hb1
    apply W_ret
    simp [seqQ]
    exact kB.trans k2
  | true =>
    rw [if_neg (by decide)] at hR
    refine W_cond (t := false) (by simp) ?_
    apply W_skip
    show W _ _ b1 _ _; subst hb1
    apply W_seq; intro b1 hb1
    apply W_seq; intro b2 hb2
    apply W_region
    simp [l2, c3]
    show W _ _ b2 _ _; subst hb2
    cases p with
    | true =>
      rw [if_pos (of_decide_eq_true hp.symm)] at hR
      subst hR
      refine W_cond (t := true) (by simp) ?_
      apply W_seq; intro b1 hb1
      apply W_region
      simp
      show W _ _ b1 _ _; subst hb1
      apply W_ret
      simp [seqQ]
      exact (kB.trans k2).trans k3
    | false =>
      rw [if_neg (of_decide_eq_false hp.symm)] at hR
      subst hR
      refine W_cond (t := false) (by simp) ?_
      apply W_skip
      show W _ _ b1 _ _; subst hb1
      apply W_seq; intro b1 hb1
      apply W_region
      simp
      show W _ _ b1 _ _; subst hb1
      apply W_ret
      simp
      exact (kB.trans k2).trans k3

theorem rcheckN_lt (t : RT) : rcheckN t < 1000 := by
  unfold rcheckN
  split
  · decide
  · split <;> decide
end
end
end
end Go.Proofs.YthlgggcpokfmaaaDoor

/-
  surdref17.Need, as a call.
-/
namespace Go.Proofs.YthlgggcpokfmaaaDoor
open Go Ev
set_option linter.unusedVariables false
set_option linter.unusedSimpArgs false
noncomputable section
set_option maxRecDepth 20000

theorem rcheck_ref (t : ET) : rcheckN t.ref = checkN t := by
  unfold rcheckN checkN
  rw [ref_right _ t (Nat.le_refl _), ref_nodes _ t (Nat.le_refl _), ref_depth _ t (Nat.le_refl _)]

attribute [-simp] Int.natCast_add Int.natCast_mul Int.natCast_ediv Int.natCast_emod Int.natCast_pow
attribute [local simp] strip stripL LW' LR gW evOp oMove oAssign oPick oBinOp oUnOp oConvert oExtract oIndexAddr oIndex oLoad oStore oField oFieldAddr oSlice oMakeSlice oBuildSlice oBuild oAlloc oBox oNilCheck oCall opd opds optOpd plain plain1 Tr.get_set tmOf builtinV binV isShift sameKind undef resultV resOne packV ltNat calleeV parts unV DW grdOf heapOp LX isStore
section
variable {Q : Nat → Prop} {H : AH} {vs : List Value} {t : ET}

set_option maxRecDepth 20000 in
theorem rneed_call (h : Rx Q H vs t.ref) (hf : t.ref.fit) (hb : t.nodes ≤ 1000000000) (n clear size : Int) :
    ∃ H', callI Tryd.prog cfgR 9 [.agg vs.toArray, .int .i64 n, .int .i64 clear, .int .i64 size] H = some (needV (needA t n clear size), H') ∧ Keep H H' := by
  suffices hs : CW Tryd.prog cfgR 9 [.agg vs.toArray, .int .i64 n, .int .i64 clear, .int .i64 size] H fun v H' => v = needV (needA t n clear size) ∧ Keep H H' by
    obtain ⟨_, H', hc, rfl, k⟩ := hs
    exact ⟨H', hc, k⟩
  obtain ⟨r, hr⟩ : ∃ r, r = needA t n clear size := ⟨_, rfl⟩
  rw [← hr]
  unfold needA at hr
  unfold needV
  refine CW_intro 61 (by decide) (by decide) Tryd.func9 rfl rfl ?_
  have kB := Keep.new H 1 vs
  have lb := fun {H'} (k : Keep (H.new 1 vs) H') => load_box h k
  obtain ⟨HB, hHB⟩ : ∃ HB, HB = H.new 1 vs := ⟨_, rfl⟩
  rw [← hHB] at kB lb
  have hn := ref_nodes _ t (Nat.le_refl _)
  have hd := ref_depth _ t (Nat.le_refl _)
  have l1 := lb (.refl HB)
  obtain ⟨H2, c2, k2⟩ := rcheck_call (h.keep kB) hf (by omega)
  rw [rcheck_ref] at c2
  have l2 := lb k2
  have k02 := kB.trans k2
  have ck := checkN_lt t
  have e1 : intBin .neq .i64 (checkN t : Int) 0 = some (.bool (decide (checkN t ≠ 0))) := neqN (y := 0)
  obtain ⟨C, hC⟩ : ∃ C, C = checkN t := ⟨_, rfl⟩
  rw [← hC] at hr e1 ck c2
  apply W_seq; intro b1 hb1
  apply W_region
  simp [Value.cells, ← hHB]
  show W _ _ b1 _ _; subst hb1
  apply W_seq; intro b1 hb1
  apply W_seq; intro b2 hb2
  apply W_region
  simp [l1, c2]
  show W _ _ b2 _ _; subst hb2
  apply W_seq; intro b2 hb2
  apply W_region
  by_cases h0 : C ≠ 0
  · rw [if_pos h0] at hr
    rw [decide_eq_true h0] at e1
    subst hr
    simp [e1]
    show W _ _ b2 _ _; subst hb2
    refine W_cond (t := true) (by simp) ?_
    apply W_seq; intro b1 hb1
    apply W_region
    simp
    show W _ _ b1 _ _; subst hb1
    apply W_ret
    simp [seqQ]
    exact k02
  rw [if_neg h0] at hr
  rw [decide_eq_false h0] at e1
  simp [e1]
  show W _ _ b2 _ _; subst hb2
  refine W_cond (t := false) (by simp) ?_
  apply W_skip
  show W _ _ b1 _ _; subst hb1
  have h0 : C = 0 := by omega
  obtain ⟨_, hnodes, hdepth⟩ := checkN_zero (hC.symm.trans h0)
  apply W_seq; intro b1 hb1
  apply W_seq; intro b2 hb2
  have no : ∀ tm : Tr Value, tm.get 38 = some (.bool true) → ¬ inRange n clear size → W Tryd.prog cfgR b2 ⟨61, tm, H2⟩ (seqQ Tryd.prog cfgR b1 fun ex s => (ex = .norm ∨ ex = .ret) ∧ ∃ vs, resultV Tryd.prog s [.tmp 8, .tmp 9] = some vs ∧ packV vs = .tuple #[.int .i64 (r.1 : Int), .int .i64 (r.2 : Int)] ∧ Keep H s.H) := fun tm ht hno => by
    rw [if_neg hno] at hr
    subst hr
    subst hb2
    refine W_cond (t := true) (by simp [ht]) ?_
    apply W_seq; intro b2 hb2
    apply W_region
    simp
    show W _ _ b2 _ _; subst hb2
    apply W_ret
    simp [seqQ]
    exact k02
  have f1 : intBin .lss .i64 n (-1048576) = some (.bool (decide (n < -1048576))) := rfl
  have f2 : intBin .gtr .i64 n 1048576 = some (.bool (decide (n > 1048576))) := rfl
  have f3 : intBin .lss .i64 clear 0 = some (.bool (decide (clear < 0))) := rfl
  have f4 : intBin .gtr .i64 clear 1048576 = some (.bool (decide (clear > 1048576))) := rfl
  have f5 : intBin .lss .i64 size 0 = some (.bool (decide (size < 0))) := rfl
  have f6 : intBin .gtr .i64 size 1048576 = some (.bool (decide (size > 1048576))) := rfl
  apply W_region
  by_cases g1 : n < -1048576
  · rw [decide_eq_true g1] at f1
    simp [f1]
    show W _ _ b2 _ _
    exact no _ (by simp) (fun h => by unfold inRange at h; omega)
  rw [decide_eq_false g1] at f1
  by_cases g2 : n > 1048576
  · rw [decide_eq_true g2] at f2
    simp [f1, f2]
    show W _ _ b2 _ _
    exact no _ (by simp) (fun h => by unfold inRange at h; omega)
  rw [decide_eq_false g2] at f2
  by_cases g3 : clear < 0
  · rw [decide_eq_true g3] at f3
    simp [f1, f2, f3]
    show W _ _ b2 _ _
    exact no _ (by simp) (fun h => by unfold inRange at h; omega)
  rw [decide_eq_false g3] at f3
  by_cases g4 : clear > 1048576
  · rw [decide_eq_true g4] at f4
    simp [f1, f2, f3, f4]
    show W _ _ b2 _ _
    exact no _ (by simp) (fun h => by unfold inRange at h; omega)
  rw [decide_eq_false g4] at f4
  by_cases g5 : size < 0
  · rw [decide_eq_true g5] at f5
    simp [f1, f2, f3, f4, f5]
    show W _ _ b2 _ _
    exact no _ (by simp) (fun h => by unfold inRange at h; omega)
  rw [decide_eq_false g5] at f5
  by_cases g6 : size > 1048576
  · rw [decide_eq_true g6] at f6
    simp [f1, f2, f3, f4, f5, f6]
    show W _ _ b2 _ _
    exact no _ (by simp) (fun h => by unfold inRange at h; omega)
  rw [decide_eq_false g6] at f6
  clear no
  rw [if_pos (by unfold inRange; omega)] at hr
  obtain ⟨nn, hnn⟩ : ∃ nn, nn = n.toNat := ⟨_, rfl⟩
  obtain ⟨c, rfl⟩ : ∃ c : Nat, clear = (c : Int) := ⟨clear.toNat, by omega⟩
  obtain ⟨s, rfl⟩ : ∃ s : Nat, size = (s : Int) := ⟨size.toNat, by omega⟩
  rw [← hnn, Int.toNat_natCast, Int.toNat_natCast] at hr
  simp [f1, f2, f3, f4, f5, f6]
  show W _ _ b2 _ _; subst hb2
  refine W_cond (t := false) (by simp) ?_
  apply W_skip
  show W _ _ b1 _ _; subst hb1
  obtain ⟨H3, c3, k3⟩ := rnodes_call (h.keep k02) (by omega)
  rw [hn] at c3
  obtain ⟨v4, H4, c4, k4, o4, _⟩ := refInt_call (H := H3) t.nodes (by have : B64 = 18446744073709551616 := rfl; omega)
  have bl : blen t.nodes ≤ 64 := by
    have := blen_small (xs := [t.nodes]) (Dig.cons (by have : B64 = 18446744073709551616 := rfl; omega) (.nil _)) (L := 1) (by simp)
    simpa [dv] using this
  have c5 := refLen_call o4.sl (len_lim (by omega))
  have k04 := (k02.trans k3).trans k4
  have l3 := lb ((k2.trans k3).trans k4)
  obtain ⟨H6, c6, k6⟩ := rdepth_call (h.keep k04) (by omega)
  rw [hd] at c6
  have f7 : intBin .lss .i64 n 0 = some (.bool (decide (n < 0))) := rfl
  refine W_thenK (fun s' => s'.k = 61 ∧ s'.H = H2 ∧ s'.tm.get 1 = some (.int .i64 (nn : Int)) ∧ s'.tm.get 2 = some (.int .i64 (c : Int)) ∧ s'.tm.get 3 = some (.int .i64 (s : Int)) ∧ s'.tm.get 4 = some (.pointer (some ⟨H.n, 0, none⟩))) ?_ ?_
  · intro Q' hQ'
    apply W_seq; intro b2 hb2
    apply W_region
    simp [f7]
    show W _ _ b2 _ _; subst hb2
    by_cases g7 : n < 0
    · refine W_cond (t := true) (by simp [g7]) ?_
      apply W_region
      simp
      apply hQ'
      exact ⟨rfl, rfl, by simp; omega, by simp, by simp, by simp⟩
    · refine W_cond (t := false) (by simp [g7]) ?_
      apply W_skip
      apply hQ'
      exact ⟨rfl, rfl, by simp; omega, by simp, by simp, by simp⟩
  rintro ⟨k, tm, H2'⟩ ⟨hk, hH, t1, t2, t3, t4⟩
  simp only at hk hH t1 t2 t3 t4
  subst hk; subst hH
  obtain ⟨W1, hW1⟩ : ∃ W1, W1 = 2 * c + 2 * s + 16 := ⟨_, rfl⟩
  obtain ⟨P, hP⟩ : ∃ P, P = (t.depth + 2) * W1 := ⟨_, rfl⟩
  have hPle : P ≤ 202 * W1 := by rw [hP]; exact Nat.mul_le_mul_right _ (by omega)
  have a3 : intBin .add .i64 ((2 * c : Nat) : Int) ((2 * s : Nat) : Int) = some (.int .i64 ((2 * c + 2 * s : Nat) : Int)) := addN (by omega)
  have a4 : intBin .add .i64 ((2 * c + 2 * s : Nat) : Int) 16 = some (.int .i64 (W1 : Int)) := by rw [hW1]; exact addN (y := 16) (by omega)
  have a5 : intBin .add .i64 (t.depth : Int) 2 = some (.int .i64 ((t.depth + 2 : Nat) : Int)) := addN (y := 2) (by omega)
  have m6 : intBin .mul .i64 ((t.depth + 2 : Nat) : Int) (W1 : Int) = some (.int .i64 (P : Int)) := by rw [hP]; exact mulN (by omega)
  have a7 : intBin .add .i64 (nn : Int) (P : Int) = some (.int .i64 ((nn + P : Nat) : Int)) := addN (by omega)
  have a9 : intBin .add .i64 ((nn + P : Nat) : Int) ((2 * blen t.nodes : Nat) : Int) = some (.int .i64 ((nn + P + 2 * blen t.nodes : Nat) : Int)) := addN (by omega)
  have a10 : intBin .add .i64 ((nn + P + 2 * blen t.nodes : Nat) : Int) 128 = some (.int .i64 ((nn + P + 2 * blen t.nodes + 128 : Nat) : Int)) := addN (y := 128) (by omega)
  apply W_seq; intro b1 hb1
  apply W_region
  simp [t4, l2, c3, c4, c5]
  show W _ _ b1 _ _; subst hb1
  apply W_seq; intro b1 hb1
  apply W_region
  simp [t1, t2, t3, t4, l3, c6, a5, mul2N (x := c) (by omega), mul2N (x := s) (by omega), a3, a4, m6, a7, mul2N (x := blen t.nodes) (by omega), a9, a10]
  show W _ _ b1 _ _; subst hb1
  apply W_ret
  simp
  refine ⟨?_, k04.trans k6⟩
  rw [hr, needN, hP, hW1]
  exact ⟨rfl, rfl⟩
end
end
end Go.Proofs.YthlgggcpokfmaaaDoor

/-
  surdlaw17.tree, by recursion over the expression.
-/
namespace Go.Proofs.YthlgggcpokfmaaaDoor
open Go Ev
set_option linter.unusedVariables false
set_option linter.unusedSimpArgs false
noncomputable section
set_option maxRecDepth 20000

theorem bE (op : Int) : buildV Tryd.prog 45 [(0, .int .i64 op)] = some (.agg #[.int .i64 op, .bool false, .slice none 0 0, .slice none 0 0, .bool false, .slice none 0 0]) := by kernel_rfl
theorem sB : sizeT Tryd.prog 4 = some 1 := by kernel_rfl
theorem sEsl : sizeT Tryd.prog 43 = some 1 := by kernel_rfl
theorem bEs (H : AH) (v0 v1 v2 v3 v4 v5 : Value) : buildSliceV Tryd.prog H 43 1 [(0, .agg #[v0, v1, v2, v3, v4, v5])] = some (.slice (some ⟨H.n, 0, none⟩) 1 1, H.new 6 [v0, v1, v2, v3, v4, v5]) := by
  unfold buildSliceV
  simp only [sEs, zE]
  kernel_rfl

theorem kill_ka {n0 b : Nat} {H : AH} {sz : Nat} {cs : List Value} (h : n0 ≤ b) : KAt n0 H ((H.kill b).new sz cs) := fun H0 k hn0 => by
  have := k.n
  have eH : (H.kill b).n = H.n := rfl
  refine ⟨by show H0.n ≤ H.n + 1; omega, ?_, fun j hj => ?_⟩
  · have := k.lw
    show min H0.lw H0.n ≤ min H.lw b
    omega
  · rw [AH.blk_new, if_neg (by rw [eH]; omega), AH.blk_kill, if_neg (by omega)]
    exact k.blk j hj

theorem low_kat {n0 : Nat} {H H2 : AH} (h : KAt n0 H.top H2) : KAt n0 H (low H H2) := low_ka h

theorem eqlZZ {x y : Int} : intBin .eql .i64 x y = some (.bool (decide (x = y))) := by
  show some (Value.bool (x == y)) = _
  rfl

/-- The elements' list that the loop makes. -/
def OwnE (nh : Nat) (H : AH) (xv : Value) (l : List RT) : Prop :=
  (xv = .slice none 0 0 ∧ l = []) ∨ ∃ b cs, xv = .slice (some ⟨b, 0, none⟩) l.length l.length ∧ nh ≤ b ∧ b < H.n ∧ H.blk b = .rw 6 cs ∧ cs.length = l.length * 6 ∧
    ∀ (j : Nat) (u : RT), l[j]? = some u → Rx (fun j => nh ≤ j ∧ j ≠ b) H ((cs.drop (j * 6)).take 6) u

theorem OwnE.one1 {nh : Nat} {H : AH} {xv : Value} {l : List RT} (h : OwnE nh H xv l) : one xv = true ∧ xv.cells.toList = [xv] := by
  rcases h with ⟨rfl, _⟩ | ⟨b, cs, rfl, _⟩ <;> exact ⟨rfl, rfl⟩

/-- One element more: what append makes. -/
theorem OwnE.append {nh : Nat} {H : AH} {xv : Value} {l : List RT} (h : OwnE nh H xv l) (hn : nh ≤ H.n) {w : Nat} (hw : nh ≤ w) (hwn : w < H.n) {us : List Value} {x : RT} (hb : H.blk w = .rw 6 us) (hx : Rx (fun j => nh ≤ j) H us x) (hl : l.length < 1000000000)
    (hxb : ∀ b, vblk xv = some b → Rx (fun j => nh ≤ j ∧ j ≠ b) H us x ∧ b ≠ w) :
    ∃ H', appendV Tryd.prog H 43 43 xv (.slice (some ⟨w, 0, none⟩) 1 1) = some (.slice (some ⟨H.n, 0, none⟩) (l.length + 1) (l.length + 1), H') ∧ H'.n = H.n + 1 ∧ KAt nh H H' ∧
      (∀ j, j < H.n → vblk xv ≠ some j → H'.blk j = H.blk j) ∧ OwnE nh H' (.slice (some ⟨H.n, 0, none⟩) (l.length + 1) (l.length + 1)) (l ++ [x]) ∧ (vblk xv = none → H'.lw = H.lw) ∧ (∀ b, vblk xv = some b → H'.lw ≤ b ∧ b < H.n) := by
  have hul := hx.len
  have huo := hx.ones
  have hc : H.read w 0 6 = some us := by
    rw [AH.read_def]
    have : H.cells w = some us := by unfold AH.cells; rw [hb]
    simp only [this, Nat.zero_add]
    rw [Nat.ble_eq.mpr (by omega), cond_true, List.drop_zero, List.take_of_length_le (by omega)]
  rcases h with ⟨rfl, rfl⟩ | ⟨b, cs, rfl, hb1, hb2, hb3, hb4, hb5⟩
  · refine ⟨H.new 6 us, ?_, rfl, (Keep.new H 6 us).kat nh, fun j hj _ => ?_, .inr ⟨H.n, us, rfl, hn, Nat.lt_succ_self _, by rw [AH.blk_new, if_pos rfl], by simp [hul], fun j u hu => ?_⟩, fun _ => rfl, fun b hb => by cases hb⟩
    · unfold appendV
      simp only [sEs, zE, sliceCells, hc]
      rfl
    · rw [AH.blk_new, if_neg (by omega)]
    · match j, hu with
      | 0, hu =>
        cases hu
        rw [Nat.zero_mul, List.drop_zero, List.take_of_length_le (by omega)]
        exact hx.agr ⟨Nat.le_succ _, fun j _ hj => by rw [AH.blk_new, if_neg (by omega)]⟩ fun j hj hq => ⟨hq, by omega⟩
  · obtain ⟨hxq, hbw⟩ := hxb b rfl
    have eH : (H.kill b).n = H.n := rfl
    have e1 : Nat.ble ((l.length + 1) * 96) 140737488355328 = true := Nat.ble_eq.mpr (by omega)
    have e2 : Nat.ble (l.length + 1) 281474976710656 = true := Nat.ble_eq.mpr (by omega)
    have e3 : Nat.ble (0 + l.length * 6) cs.length = true := Nat.ble_eq.mpr (by omega)
    have oth : ∀ j, j < H.n → j ≠ b → ((H.kill b).new 6 (cs ++ us)).blk j = H.blk j := fun j hj hjb => by
      rw [AH.blk_new, if_neg (by rw [eH]; omega), AH.blk_kill, if_neg hjb]
    refine ⟨(H.kill b).new 6 (cs ++ us), ?_, rfl, kill_ka hb1, fun j hj hjb => oth j hj (fun e => hjb (by rw [e]; rfl)), .inr ⟨H.n, cs ++ us, by simp, hn, Nat.lt_succ_self _, by rw [AH.blk_new, if_pos eH.symm], by simp [hul, hb4]; omega, fun j u hu => ?_⟩, (fun h => by cases h),
      (fun b' hb' => by cases hb'; exact ⟨Nat.min_le_right _ _, hb2⟩)⟩
    · unfold appendV
      simp only [sEs, zE, sliceCells, hc, hb3, e1, e2, e3, huo]
      rw [List.drop_zero, List.take_of_length_le (by omega)]
      rfl
    · rw [List.getElem?_append] at hu
      split at hu
      · rename_i hj
        have : ((cs ++ us).drop (j * 6)).take 6 = (cs.drop (j * 6)).take 6 := by
          rw [List.drop_append_of_le_length (by omega), List.take_append_of_le_length (by rw [List.length_drop]; omega)]
        rw [this]
        exact (hb5 j u hu).agr ⟨Nat.le_succ _, fun i hi hin => oth i hin hi.2⟩ fun i hin hi => ⟨hi.1, by omega⟩
      · rename_i hj
        obtain rfl : j = l.length := by
          have := List.getElem?_eq_some_iff.mp hu
          obtain ⟨h, _⟩ := this
          simp at h
          omega
        simp at hu
        subst hu
        have : ((cs ++ us).drop (l.length * 6)).take 6 = us := by
          rw [← hb4, List.drop_left, List.take_of_length_le (by omega)]
        rw [this]
        exact hxq.agr ⟨Nat.le_succ _, fun i hi hin => oth i hin hi.2⟩ fun i hin hi => ⟨hi.1, by omega⟩

theorem OwnE.agr {nh : Nat} {H H' : AH} {xv : Value} {l : List RT} (h : OwnE nh H xv l) (hn : H.n ≤ H'.n) (k : ∀ j, nh ≤ j → j < H.n → H'.blk j = H.blk j) : OwnE nh H' xv l := by
  rcases h with h | ⟨b, cs, h1, h2, h3, h4, h5, h6⟩
  · exact .inl h
  · exact .inr ⟨b, cs, h1, h2, by omega, by rw [k b h2 h3]; exact h4, h5, fun j u hu => (h6 j u hu).agr ⟨hn, fun i hi hin => k i hi.1 hin⟩ fun _ _ h => h⟩

theorem OwnE.blk {nh : Nat} {H : AH} {xv : Value} {l : List RT} (h : OwnE nh H xv l) {b : Nat} (hb : vblk xv = some b) : nh ≤ b ∧ b < H.n := by
  rcases h with ⟨rfl, _⟩ | ⟨b', cs, rfl, h2, h3, _⟩
  · cases hb
  · cases hb; exact ⟨h2, h3⟩

theorem OwnE.rxs {nh n0 : Nat} (h0 : n0 ≤ nh) {H : AH} {xv : Value} {l : List RT} (h : OwnE nh H xv l) : Rxs (fun j => n0 ≤ j) H xv l := by
  rcases h with ⟨rfl, rfl⟩ | ⟨b, cs, rfl, h2, h3, h4, h5, h6⟩
  · exact .nil
  · exact .mk b l.length (cs := cs) (by omega) h3 h4 (Nat.le_refl _) fun j u hu => (h6 j u hu).agr ⟨Nat.le_refl _, fun _ _ _ => rfl⟩ fun i _ hi => by have := hi.1; omega

/-- What tree answers. -/
def TreeIs (H : AH) (t : ET) (v : Value) (H' : AH) : Prop := Keep H H' ∧ ∃ us : List Value, v = .agg us.toArray ∧ Rx (fun j => H.n ≤ j) H' us t.ref
end
end Go.Proofs.YthlgggcpokfmaaaDoor

/-
  surdlaw17.tree: the walk.
-/
namespace Go.Proofs.YthlgggcpokfmaaaDoor
open Go Ev
set_option linter.unusedVariables false
set_option linter.unusedSimpArgs false
noncomputable section
set_option maxRecDepth 20000

theorem aBs : isAggT Tryd.prog 4 = some false := by kernel_rfl

/-- What lies there when the tree's head has been made. -/
structure HeadIs (H : AH) (vs : List Value) (op : Int) (r : (Bool × Nat × Nat) × Bool) (c nh : Nat) (vn vd : Value) (s : St) : Prop where
  k : s.k = 70
  keep : Keep H s.H
  hc : H.n + 2 ≤ c
  hcn : c < nh
  hn : nh = s.H.n
  blk : s.H.blk c = .rw 1 [.int .i64 op, .bool r.1.1, vn, vd, .bool r.2, .slice none 0 0]
  box : s.H.blk H.n = .rw 1 vs
  res : s.H.blk (H.n + 1) = .rw 1 [.int .i64 0, .bool false, .slice none 0 0, .slice none 0 0, .bool false, .slice none 0 0]
  sn : SlQ (fun j => H.n + 2 ≤ j ∧ j ≠ c) s.H vn (ds b32 r.1.2.1)
  sd : SlQ (fun j => H.n + 2 ≤ j ∧ j ≠ c) s.H vd (ds b32 r.1.2.2)
  t1 : s.tm.get 1 = some (.pointer (some ⟨H.n, 0, none⟩))
  t2 : s.tm.get 2 = some (.pointer (some ⟨H.n + 1, 0, none⟩))
  t5 : s.tm.get 5 = some (.pointer (some ⟨c, 0, none⟩))

attribute [-simp] Int.natCast_add Int.natCast_mul Int.natCast_ediv Int.natCast_emod Int.natCast_pow
attribute [local simp] strip stripL LW' LR gW evOp oMove oAssign oPick oBinOp oUnOp oConvert oExtract oIndexAddr oIndex oLoad oStore oField oFieldAddr oSlice oMakeSlice oBuildSlice oBuild oAlloc oBox oNilCheck oCall opd opds optOpd plain plain1 Tr.get_set tmOf builtinV binV isShift sameKind undef resultV resOne packV ltNat calleeV parts unV DW grdOf heapOp LX isStore
theorem or3 (a b c : Bool) : (a || b || c) = (a || (b || c)) := Bool.or_assoc ..

set_option maxHeartbeats 2000000 in
set_option maxRecDepth 20000 in
theorem tree_ok : ∀ n (t : ET), t.nodes ≤ n → ∀ (H : AH) (vs : List Value), Ex H vs t → t.wide 1048576 → t.nodes ≤ 100000000 →
    CW Tryd.prog cfgR 10 [.agg vs.toArray] H (TreeIs H t) := by
  intro n
  induction n with
  | zero => intro t h; have := nodes_pos t; omega
  | succ n ih =>
  intro t ht H vs hE hw hb
  obtain ⟨op, neg, abs, den, args⟩ := t
  have hEk := hE
  obtain ⟨la, ld, da, dd, ws⟩ := hw
  simp only [ET.nodes] at ht hb
  cases hEk with
  | @mk _ _ va vd vx _ _ _ h1 h2 h3 =>
  unfold TreeIs
  simp only [ET.ref]
  obtain ⟨r, hr⟩ : ∃ r, r = refHead op neg abs den := ⟨_, rfl⟩
  rw [← hr]
  unfold refHead at hr
  refine CW_intro 70 (by decide) (by decide) Tryd.func10 rfl rfl ?_
  obtain ⟨vs, hvs⟩ : ∃ vs, vs = [Value.int .i64 op, .bool neg, va, vd, vx] := ⟨_, rfl⟩
  obtain ⟨zs, hzs⟩ : ∃ zs, zs = [Value.int .i64 0, .bool false, .slice none 0 0, .slice none 0 0, .bool false, .slice none 0 0] := ⟨_, rfl⟩
  have kB := Keep.new H 1 vs
  have cB := new_cells H 1 vs
  have bB : (H.new 1 vs).blk H.n = .rw 1 vs := by rw [AH.blk_new, if_pos rfl]
  have nB : (H.new 1 vs).n = H.n + 1 := rfl
  obtain ⟨HB, hHB⟩ : ∃ HB, HB = H.new 1 vs := ⟨_, rfl⟩
  rw [← hHB] at kB cB bB nB
  have kC := Keep.new HB 1 zs
  have bC : (HB.new 1 zs).blk HB.n = .rw 1 zs := by rw [AH.blk_new, if_pos rfl]
  have nC : (HB.new 1 zs).n = H.n + 2 := by show HB.n + 1 = _; omega
  obtain ⟨H1, hH1⟩ : ∃ H1, H1 = HB.new 1 zs := ⟨_, rfl⟩
  rw [← hH1] at kC bC nC
  rw [nB] at bC
  have bB1 : H1.blk H.n = .rw 1 vs := by rw [kC.blk _ (by omega)]; exact bB
  have k1 := kB.trans kC
  -- the numbers
  obtain ⟨v1, H2, c1, k2, o1, l1⟩ := of_call (H := H1.top) ((h1.keep k1).top) da (by show _ ≤ 2000000000000; omega)
  obtain ⟨G1, hG1⟩ : ∃ G1, G1 = grown H1 H2 := ⟨_, rfl⟩
  have kG1 : Keep H1 G1 := by rw [hG1]; exact grown_keep (.refl H1) k2
  have o1' : Own H1.n G1 v1 (ds b32 (dv B64 abs)) := by rw [hG1]; exact o1.same (grown_but k2)
  have n2 : H1.n ≤ H2.n := k2.n
  have nG1 : G1.n = H2.n := by rw [hG1]; rfl
  obtain ⟨v2, H3, c2, k3, o2, l2⟩ := of_call (H := G1.top) ((h2.keep (k1.trans kG1)).top) dd (by show _ ≤ 2000000000000; omega)
  obtain ⟨G2, hG2⟩ : ∃ G2, G2 = grown G1 H3 := ⟨_, rfl⟩
  have kG2 : Keep G1 G2 := by rw [hG2]; exact grown_keep (.refl G1) k3
  have o2' : Own G1.n G2 v2 (ds b32 (dv B64 den)) := by rw [hG2]; exact o2.same (grown_but k3)
  have n3 : G1.n ≤ H3.n := k3.n
  have nG2 : G2.n = H3.n := by rw [hG2]; rfl
  have box : ∀ {H' : AH} (k : Keep H1 H'), H'.cells H.n = some vs := fun k => by unfold AH.cells; rw [k.blk _ (by omega), bB1]
  have a2 : loadV Tryd.prog H1.top 25 (.pointer (some ⟨H.n, 2, none⟩)) = some va := load_cell aNat (box (keep_topT H1)) (by rw [hvs]; rfl)
  have a3 : ∀ bits ms, (∀ x ∈ ms, H1.n ≤ x.2.1) → loadV Tryd.prog (vis G1 bits ms) 25 (.pointer (some ⟨H.n, 3, none⟩)) = some vd := fun bits ms h => load_cell aNat (box (vis_keep kG1 h)) (by rw [hvs]; rfl)
  apply W_seq; intro b1 hb1
  apply W_region
  simp [Value.cells, zE, ← hvs, ← hzs, ← hHB, ← hH1]
  show W _ _ b1 _ _; subst hb1
  apply W_seq; intro b1 hb1
  apply W_draw (by kernel_rfl)
  simp [faNum, faN, faAbs]
  refine DG_read (v := va) rfl rfl rfl (by rw [vis_top rfl]; simp [a2]) ?_
  simp
  refine DG_grow (v := v1) (H2 := H2) rfl rfl rfl (by rw [vis_top rfl]; simp [c1]) n2 (keep_lw k2) ?_
  rw [← hG1]
  generalize hms : cond (Nat.blt H1.n H2.n) _ _ = ms
  have hms1 := ms_one hms
  simp [faNum, faD]
  refine DG_read (v := vd) rfl rfl rfl (by simp [a3 _ ms fun x hx => (hms1 x hx).2]) ?_
  simp
  refine DG_grow (v := v2) (H2 := H3) rfl rfl rfl ?_ n3 (keep_lw k3) ?_
  · rw [vis_top (hidden_nil fun x hx => by rw [(hms1 x hx).1]; kernel_rfl)]
    simp [c2]
  rw [← hG2]
  simp
  rw [nB]
  show W _ _ b1 _ _; subst hb1
  -- the new tree's cell
  have kH2 := k1.trans (kG1.trans kG2)
  have kH12 := kG1.trans kG2
  have nH := kH12.n
  obtain ⟨H4, st4, k4, blk4, n4⟩ := alloc_store (H := G2) (sz := 1) (zs := zs) sE (by rw [hzs]; rfl) (v := .agg #[.int .i64 op, .bool false, .slice none 0 0, .slice none 0 0, .bool false, .slice none 0 0]) (ws := [.int .i64 op, .bool false, .slice none 0 0, .slice none 0 0, .bool false, .slice none 0 0]) rfl rfl rfl
  have ld0 : loadV Tryd.prog G2 23 (.pointer (some ⟨H.n, 0, none⟩)) = some (.int .i64 op) := load_cell aOp (box kH12) (by rw [hvs]; rfl)
  apply W_seq; intro b1 hb1
  apply W_region
  simp [faOp, ld0, bE, zE, Value.cells, ← hzs, st4]
  show W _ _ b1 _ _; subst hb1
  have k14 := kH12.trans k4
  have k04 := k1.trans k14
  have o14 : Own H1.n H4 v1 (ds b32 (dv B64 abs)) := o1'.mono (Nat.le_refl _) (kG2.trans k4)
  have o24 : Own H1.n H4 v2 (ds b32 (dv B64 den)) := o2'.mono (by have := kG1.n; omega) k4
  have b14 : ∀ c, vblk v1 = some c → c < G2.n := fun c hc => (o1'.mono (Nat.le_refl _) kG2).blk_lo hc |>.2
  have b24 : ∀ c, vblk v2 = some c → c < G2.n := fun c hc => (o2'.blk_lo hc).2
  have ld4 : loadV Tryd.prog H4 23 (.pointer (some ⟨H.n, 0, none⟩)) = some (.int .i64 op) := load_cell aOp (box k14) (by rw [hvs]; rfl)
  have lneg : loadV Tryd.prog H4 4 (.pointer (some ⟨H.n, 1, none⟩)) = some (.bool neg) := load_cell aBs (box k14) (by rw [hvs]; rfl)
  have lab : loadV Tryd.prog H4 25 (.pointer (some ⟨H.n, 2, none⟩)) = some va := load_cell aNat (box k14) (by rw [hvs]; rfl)
  have lde : loadV Tryd.prog H4 25 (.pointer (some ⟨H.n, 3, none⟩)) = some vd := load_cell aNat (box k14) (by rw [hvs]; rfl)
  have blkR : H4.blk (H.n + 1) = .rw 1 zs := by rw [k14.blk _ (by omega)]; exact bC
  have blkX : H4.blk H.n = .rw 1 vs := by rw [k14.blk _ (by omega)]; exact bB1
  obtain ⟨c, hc⟩ : ∃ c, c = G2.n := ⟨_, rfl⟩
  rw [← hc] at blk4 n4 b14 b24 ⊢
  have hcn : H.n + 2 ≤ c := by omega
  have e0 : intBin .eql .i64 op 0 = some (.bool (decide (op = 0))) := eqlZZ
  refine W_thenK (fun s' => ∃ nh vn vd', HeadIs H vs op r c nh vn vd' s') ?_ ?_
  · intro Q' hQ'
    -- a store into the head
    have fin : ∀ (H5 H6 : AH) (tm : Tr Value) (vn vd' : Value), Keep H4 H5 → (∀ j, j ≠ c → H6.blk j = H5.blk j) → H6.n = H5.n → KAt c H5 H6 → H6.blk c = .rw 1 [.int .i64 op, .bool r.1.1, vn, vd', .bool r.2, .slice none 0 0] →
        SlQ (fun j => H.n + 2 ≤ j ∧ j ≠ c) H5 vn (ds b32 r.1.2.1) → SlQ (fun j => H.n + 2 ≤ j ∧ j ≠ c) H5 vd' (ds b32 r.1.2.2) →
        tm.get 1 = some (.pointer (some ⟨H.n, 0, none⟩)) → tm.get 2 = some (.pointer (some ⟨H.n + 1, 0, none⟩)) → tm.get 5 = some (.pointer (some ⟨c, 0, none⟩)) → Q' .norm ⟨70, tm, H6⟩ := fun H5 H6 tm vn vd' k5 oth n6 ka bl sn sd t1 t2 t5 => by
      have n5 := k5.n
      have ag : Agr (fun j => H.n + 2 ≤ j ∧ j ≠ c) H5 H6 := ⟨Nat.le_of_eq n6.symm, fun j hj _ => oth j hj.2⟩
      refine hQ' _ ⟨H6.n, vn, vd', rfl, ka H (k04.trans k5) (by omega), hcn, by show c < H6.n; omega, rfl, bl, ?_, ?_, ⟨sn.1.agr sn.2 ag, sn.2⟩, ⟨sd.1.agr sd.2 ag, sd.2⟩, t1, t2, t5⟩
      · show H6.blk H.n = _
        rw [oth _ (by omega), k5.blk _ (by omega)]; exact blkX
      · show H6.blk (H.n + 1) = _
        rw [oth _ (by omega), k5.blk _ (by omega), blkR, hzs]
    have nil0 : SlQ (fun j => H.n + 2 ≤ j ∧ j ≠ c) H4 (.slice none 0 0) (ds b32 0) := ⟨by rw [ds_zero]; exact .nil, fun b hb => by cases hb⟩
    apply W_seq; intro b2 hb2
    apply W_region
    simp [faOp, ld4, e0]
    show W _ _ b2 _ _; subst hb2
    by_cases h0 : op = 0
    · refine W_cond (t := true) (by simp [h0]) ?_
      rw [if_pos h0] at hr
      have z := zero_call o24.sl
      apply W_seq; intro b2 hb2
      apply W_region
      simp [z]
      show W _ _ b2 _ _; subst hb2
      by_cases hd0 : dv B64 den = 0
      · refine W_cond (t := true) (by simp [hd0]) ?_
        rw [if_pos hd0] at hr
        obtain ⟨H5, st5, blk5, n5, oth5, ka5, _⟩ := store_at (b := c) (o := 4) (v := .bool true) (ws := [.bool true]) sB blk4 rfl rfl (by simp) rfl
        apply W_region
        simp [feBad, st5]
        exact fin H4 H5 _ (.slice none 0 0) (.slice none 0 0) (.refl H4) oth5 n5 ka5 (by rw [blk5, hr]; rfl) (by rw [hr]; exact nil0) (by rw [hr]; exact nil0) (by simp) (by simp) (by simp)
      · refine W_cond (t := false) (by simp [hd0]) ?_
        rw [if_neg hd0] at hr
        obtain ⟨us, H5, c5, k5, own5⟩ := make_call (H := H4) neg o14.sl o24.sl l1 l2 (by omega)
        obtain ⟨x, y, rfl, ox, oy⟩ := own5
        have n5 := k5.n
        obtain ⟨H6, st6, blk6, n6, oth6, ka6, _⟩ := store_at (H := H5) (b := c) (o := 1) (cs := [.int .i64 op, .bool false, .slice none 0 0, .slice none 0 0, .bool false, .slice none 0 0]) (sz := 1) (v := .agg #[.bool (refNum neg (dv B64 abs) (dv B64 den)).1, x, y]) (ws := [.bool (refNum neg (dv B64 abs) (dv B64 den)).1, x, y]) sR (by rw [k5.blk _ (by omega)]; exact blk4) rfl rfl (by simp) (by
          obtain ⟨_, _, _, rfl⟩ := ox.shape
          obtain ⟨_, _, _, rfl⟩ := oy.shape
          rfl)
        have c5 : callI Tryd.prog cfgR 25 [.bool neg, v1, v2] H4 = some (.agg #[.bool (refNum neg (dv B64 abs) (dv B64 den)).1, x, y], H5) := c5
        apply W_region
        simp [faNum, faN, faNeg, lneg, c5, feNum, st6]
        exact fin H5 H6 _ x y k5 oth6 n6 ka6 (by rw [blk6, hr]; rfl) (by rw [hr]; exact ⟨ox.sl, fun b hb => by have := (ox.blk_lo hb).1; exact ⟨by omega, by omega⟩⟩) (by rw [hr]; exact ⟨oy.sl, fun b hb => by have := (oy.blk_lo hb).1; exact ⟨by omega, by omega⟩⟩) (by simp) (by simp) (by simp)
    · refine W_cond (t := false) (by simp [h0]) ?_
      rw [if_neg h0] at hr
      have f1 : intBin .gtr .i64 (abs.length : Int) 0 = some (.bool (decide (0 < abs.length))) := gtrZ
      have f2 : intBin .gtr .i64 (den.length : Int) 0 = some (.bool (decide (0 < den.length))) := gtrZ
      have la1 := (h1.keep k04).len ltNat
      have ld1 := (h2.keep k04).len ltNat
      obtain ⟨R, hR⟩ : ∃ R : Bool, R = (neg || decide (0 < abs.length) || decide (0 < den.length)) := ⟨_, rfl⟩
      rw [← hR] at hr
      obtain ⟨H5, st5, blk5, n5, oth5, ka5, _⟩ := store_at (b := c) (o := 4) (v := .bool R) (ws := [.bool R]) sB blk4 rfl rfl (by simp) rfl
      have done : ∀ tm : Tr Value, tm.get 1 = some (.pointer (some ⟨H.n, 0, none⟩)) → tm.get 2 = some (.pointer (some ⟨H.n + 1, 0, none⟩)) → tm.get 5 = some (.pointer (some ⟨c, 0, none⟩)) → Q' .norm ⟨70, tm, H5⟩ := fun tm t1 t2 t5 =>
        fin H4 H5 tm (.slice none 0 0) (.slice none 0 0) (.refl H4) oth5 n5 ka5 (by rw [blk5, hr]; rfl) (by rw [hr]; exact nil0) (by rw [hr]; exact nil0) t1 t2 t5
      apply W_region
      cases neg with
      | true =>
        rw [show R = true by rw [hR]; simp] at st5
        simp [faNum, faN, faNeg, lneg, feBad, st5]
        exact done _ (by simp) (by simp) (by simp)
      | false =>
        by_cases g1 : 0 < abs.length
        · rw [decide_eq_true g1] at f1
          rw [show R = true by rw [hR, decide_eq_true g1]; simp] at st5
          simp [faNum, faN, faNeg, faAbs, lneg, lab, la1, f1, feBad, st5]
          exact done _ (by simp) (by simp) (by simp)
        · rw [decide_eq_false g1] at f1 hR
          rw [Bool.false_or, Bool.false_or] at hR
          rw [← hR] at f2
          simp [faNum, faN, faNeg, faAbs, faD, lneg, lab, la1, f1, lde, ld1, f2, feBad, st5]
          exact done _ (by simp) (by simp) (by simp)
  rintro ⟨k, tm, HH⟩ ⟨nh, vn, vd', hh⟩
  obtain ⟨hk, keep, hc2, hcn, hn, blk, bx, res, sn, sd, t1, t2, t5⟩ := hh
  simp only at hk keep hn blk bx res sn sd t1 t2 t5
  subst hk
  clear st4 k4 blk4 ld0 k14 k04 o14 o24 b14 b24 ld4 lneg lab lde blkR blkX n4 kG1 kG2 kH2 kH12 o1' o2' a2 a3 box
  have lx : loadV Tryd.prog HH 30 (.pointer (some ⟨H.n, 4, none⟩)) = some vx := load_cell aExprs (o := 4) (cs := vs) (by unfold AH.cells; rw [bx]) (by rw [hvs]; rfl)
  have ln := h3.len
  obtain ⟨m0, hm0⟩ : ∃ m0, m0 = args.length := ⟨_, rfl⟩
  have la := nodesAll_len args
  rw [← hm0] at ln la
  have hH2n : H.n ≤ H.n + 2 := by omega
  apply W_seq; intro b1 hb1
  apply W_seq; intro b2 hb2
  apply W_region
  simp [t1, faArgs, lx, ln]
  show W _ _ b2 _ _; subst hb2
  apply W_block
  refine W_loopK (fun m s' => s'.k = 70 ∧ Keep H s'.H ∧ nh ≤ s'.H.n ∧ (∀ j, j < nh → j ≠ c → s'.H.blk j = HH.blk j) ∧ ∃ (i : Nat) (xv : Value), m + i = m0 ∧ s'.H.blk c = .rw 1 [.int .i64 op, .bool r.1.1, vn, vd', .bool r.2, xv] ∧ OwnE nh s'.H xv (refAll (args.take i)) ∧
    s'.tm.get 2 = some (.pointer (some ⟨H.n + 1, 0, none⟩)) ∧ s'.tm.get 5 = some (.pointer (some ⟨c, 0, none⟩)) ∧ s'.tm.get 55 = some vx ∧ s'.tm.get 56 = some (.int .i64 (m0 : Int)) ∧ s'.tm.get 57 = some (.int .i64 (i : Int))) ?_ m0 _
    ⟨rfl, keep, Nat.le_of_eq hn, fun _ _ _ => rfl, 0, .slice none 0 0, by omega, blk, .inl ⟨rfl, by simp [refAll]⟩, by simp [t2], by simp [t5], by simp, by simp, by simp⟩
  rintro m ⟨k, tm', Ha⟩ ⟨hk, kH, hna, oth, i, xv, hmi, blkc, own, t2, t5, t55, t56, t57⟩ Q' hQ'
  simp only at hk kH hna oth blkc own t2 t5 t55 t56 t57
  subst hk
  apply W_seq; intro b3 hb3
  apply W_region
  simp [t56, t57, lssN]
  show W _ _ b3 _ _; subst hb3
  by_cases hi : i < m0
  · refine W_thenK (fun s' => s' = ⟨70, tm'.set 58 (.bool (decide (i < m0))), Ha⟩) ?_ ?_
    · intro Q'' hQ''
      refine W_cond (t := true) (by simp [hi]) ?_
      apply W_skip
      exact hQ'' _ rfl
    rintro _ rfl
    obtain ⟨x, hx⟩ : ∃ x, args[i]? = some x := ⟨_, List.getElem?_eq_getElem (by omega)⟩
    have hxn := nodesAll_get hx
    obtain ⟨p, us, ha5, hl5, hE5⟩ : ∃ (p : Value) (us : List Value), indexAddrV Tryd.prog 30 vx (.int .i64 (i : Int)) = some p ∧ loadV Tryd.prog Ha 32 p = some (.agg us.toArray) ∧ Ex Ha us x := by
      obtain ⟨p, us, e1, e2, e3⟩ := h3.at hx
      exact ⟨p, us, e1, e2 _ kH, e3.keep kH⟩
    obtain ⟨Hb, st5, k5, blk5, n5⟩ := alloc_store (H := Ha) (sz := 1) (zs := [.int .i64 0, .bool false, .slice none 0 0, .slice none 0 0, .slice none 0 0]) sExpr rfl (v := .agg us.toArray) (ws := us) (by simp [Value.cells]) hE5.len hE5.ones
    have l5 : loadV Tryd.prog Hb.top 32 (.pointer (some ⟨Ha.n, 0, none⟩)) = some (.agg us.toArray) := load_expr (o := 0) (cs := us) (show Hb.cells Ha.n = _ by unfold AH.cells; rw [blk5]) (by rw [List.drop_zero, List.take_of_length_le (by rw [hE5.len]; omega)]) hE5.len
    have blkcb : Hb.blk c = .rw 1 [.int .i64 op, .bool r.1.1, vn, vd', .bool r.2, xv] := by rw [k5.blk _ (by omega)]; exact blkc
    have lX : loadV Tryd.prog Hb.top 43 (.pointer (some ⟨c, 5, none⟩)) = some xv := load_cell aEs (o := 5) (show Hb.cells c = some _ by unfold AH.cells; rw [blkcb]) rfl
    obtain ⟨_, H6, c6, k6, us', rfl, rx6⟩ := ih x (by omega) Hb.top us ((hE5.keep k5).keep (keep_topT Hb)) (wideAll_get ws hx) (by omega)
    have rlen := rx6.len
    obtain ⟨u0, u1, u2, u3, u4, u5, rfl⟩ : ∃ u0 u1 u2 u3 u4 u5, us' = [u0, u1, u2, u3, u4, u5] := by
      match us', rlen with
      | [u0, u1, u2, u3, u4, u5], _ => exact ⟨u0, u1, u2, u3, u4, u5, rfl⟩
    have c6 : callI Tryd.prog cfgR 10 [.agg us.toArray] Hb.top = some (.agg #[u0, u1, u2, u3, u4, u5], H6) := c6
    have n6 : Hb.n ≤ H6.n := k6.n
    obtain ⟨Gb, hGb⟩ : ∃ Gb, Gb = grown Hb H6 := ⟨_, rfl⟩
    have kGb : Keep Hb Gb := by rw [hGb]; exact grown_keep (.refl Hb) k6
    have nGb : Gb.n = H6.n := by rw [hGb]; rfl
    have rxb : Rx (fun j => Hb.n ≤ j) Gb [u0, u1, u2, u3, u4, u5] x.ref := by
      rw [hGb]
      exact rx6.agr ⟨Nat.le_refl _, fun j _ hj => (grown_but k6).blk j hj (fun e => by cases e)⟩ fun j _ h => h
    have bs := bEs Gb.top u0 u1 u2 u3 u4 u5
    obtain ⟨Gc, hGc⟩ : ∃ Gc, Gc = grown Gb (Gb.top.new 6 [u0, u1, u2, u3, u4, u5]) := ⟨_, rfl⟩
    have kGc : Keep Gb Gc := by rw [hGc]; exact grown_keep (.refl Gb) (Keep.new _ _ _)
    have nGc : Gc.n = Gb.n + 1 := by rw [hGc]; rfl
    have blkw : Gc.blk Gb.n = .rw 6 [u0, u1, u2, u3, u4, u5] := by
      have := (grown_but (Keep.new Gb.top 6 [u0, u1, u2, u3, u4, u5])).blk Gb.n (Nat.lt_succ_self _) (fun e => by cases e)
      rw [hGc, this, AH.blk_new, if_pos (show Gb.n = Gb.top.n from rfl)]
    have kac : Keep Ha Gc := (k5.trans kGb).trans kGc
    have n5' : Ha.n ≤ Hb.n := k5.n
    have ownT : OwnE nh Gc.top xv (refAll (args.take i)) := own.agr (by have := kac.n; exact this) fun j _ hj => kac.blk j hj
    have rxT : Rx (fun j => Hb.n ≤ j) Gc.top [u0, u1, u2, u3, u4, u5] x.ref := (rxb.keep kGc).keep (keep_topT Gc)
    have hlen : (refAll (args.take i)).length = i := by rw [refAll_len, List.length_take]; omega
    obtain ⟨Hd, hap, nd, kad, othd, ownd, hlw0, hlw1⟩ := ownT.append (H := Gc.top) (nh := nh) (us := [u0, u1, u2, u3, u4, u5]) (x := x.ref) (w := Gb.n) (by show nh ≤ Gc.n; omega) (by omega) (by show Gb.n < Gc.n; omega) blkw (rxT.agr ⟨Nat.le_refl _, fun _ _ _ => rfl⟩ fun j _ hj => by omega) (by omega) fun b hb => by
      have := own.blk hb
      exact ⟨rxT.agr ⟨Nat.le_refl _, fun _ _ _ => rfl⟩ fun j _ hj => ⟨by omega, by omega⟩, by omega⟩
    have hsnoc : refAll (args.take i) ++ [x.ref] = refAll (args.take (i + 1)) := by rw [take_snoc1 hx, refAll_map, refAll_map]; simp
    rw [hsnoc] at ownd
    rw [hlen] at hap ownd
    have nd' : Hd.n = Gc.n + 1 := nd
    have blkd : Hd.blk c = .rw 1 [.int .i64 op, .bool r.1.1, vn, vd', .bool r.2, xv] := by
      rw [othd c (by show c < Gc.n; omega) (fun e => by have := own.blk e; omega)]
      show Gc.blk c = _
      rw [kac.blk _ (by omega)]; exact blkc
    -- what is behind the store
    have fin : ∀ (G3 : AH), But none Hd G3 → KAt nh Gc G3 → ∃ H8, storeV Tryd.prog G3.top 43 (.pointer (some ⟨c, 5, none⟩)) (.slice (some ⟨Gc.n, 0, none⟩) (i + 1) (i + 1)) = some H8 ∧ G3.n ≤ H8.n ∧ H8.lw < G3.n ∧
        Keep H (low G3 H8) ∧ nh ≤ H8.n ∧ (∀ j, j < nh → j ≠ c → (low G3 H8).blk j = HH.blk j) ∧ (low G3 H8).blk c = .rw 1 [.int .i64 op, .bool r.1.1, vn, vd', .bool r.2, .slice (some ⟨Gc.n, 0, none⟩) (i + 1) (i + 1)] ∧ OwnE nh (low G3 H8) (.slice (some ⟨Gc.n, 0, none⟩) (i + 1) (i + 1)) (refAll (args.take (i + 1))) := fun G3 bt ka => by
      have b3 : G3.blk c = .rw 1 [.int .i64 op, .bool r.1.1, vn, vd', .bool r.2, xv] := by rw [bt.blk c (by omega) (fun e => by cases e)]; exact blkd
      obtain ⟨H8, st8, blk8, n8, oth8, ka8, lw8⟩ := store_at (H := G3.top) (b := c) (o := 5) (v := .slice (some ⟨Gc.n, 0, none⟩) (i + 1) (i + 1)) (ws := [.slice (some ⟨Gc.n, 0, none⟩) (i + 1) (i + 1)]) sEsl b3 rfl rfl (by simp) rfl
      have n8' : H8.n = G3.n := n8
      have e3 := bt.n
      refine ⟨H8, st8, by omega, ?_, ?_, by omega, fun j hj hjc => ?_, ?_, ?_⟩
      · rw [lw8]; show min G3.n c < G3.n; omega
      · have : Keep H G3 := ka H (kH.trans kac) (by omega)
        exact low_kat ka8 H this (by omega)
      · show H8.blk j = _
        rw [oth8 j hjc]
        show G3.blk j = _
        have e1 := (bt.blk j (by omega) (fun e => by cases e)).trans (othd j (by show j < Gc.n; omega) (fun e => by have := own.blk e; omega))
        rw [e1]
        show Gc.blk j = _
        rw [kac.blk _ (by omega)]
        exact oth j hj hjc
      · show H8.blk c = _
        rw [blk8]; rfl
      · refine ownd.agr (by show Hd.n ≤ H8.n; omega) fun j hj1 hj2 => ?_
        show H8.blk j = _
        rw [oth8 j (by omega)]
        exact bt.blk j hj2 (fun e => by cases e)
    refine W_thenK (fun s' => s'.k = 70 ∧ ∃ G3 H8, storeV Tryd.prog G3.top 43 (.pointer (some ⟨c, 5, none⟩)) (.slice (some ⟨Gc.n, 0, none⟩) (i + 1) (i + 1)) = some H8 ∧ But none Hd G3 ∧ KAt nh Gc G3 ∧ s'.H = low G3 H8 ∧ s'.tm.get 2 = some (.pointer (some ⟨H.n + 1, 0, none⟩)) ∧ s'.tm.get 5 = some (.pointer (some ⟨c, 0, none⟩)) ∧ s'.tm.get 55 = some vx ∧ s'.tm.get 56 = some (.int .i64 (m0 : Int)) ∧ s'.tm.get 57 = some (.int .i64 (i : Int))) ?_ ?_
    · intro Q'' hQ''
      apply W_block
      apply W_seq; intro b4 hb4
      apply W_region
      simp [t55, t57, ha5, hl5, zExpr, Value.cells, st5]
      show W _ _ b4 _ _; subst hb4
      apply W_draw (by kernel_rfl)
      simp [t5, feArgs]
      refine DG_read (v := xv) rfl rfl rfl (by rw [vis_top rfl]; simp [lX]) ?_
      simp
      refine DG_read (v := .agg us.toArray) rfl rfl rfl (by rw [vis_top rfl]; simp [l5]) ?_
      simp
      refine DG_grow (v := .agg #[u0, u1, u2, u3, u4, u5]) (H2 := H6) rfl rfl rfl (by rw [vis_top rfl]; simp [c6]) n6 (keep_lw k6) ?_
      rw [← hGb]
      generalize hms : cond (Nat.blt Hb.n H6.n) _ _ = ms
      have hms1 := ms_one hms
      simp
      refine DG_grow (v := .slice (some ⟨Gb.n, 0, none⟩) 1 1) (H2 := Gb.top.new 6 [u0, u1, u2, u3, u4, u5]) rfl rfl rfl ?_ (Nat.le_succ _) (Nat.le_refl _) ?_
      · rw [vis_top (hidden_nil fun x hx => by rw [(hms1 x hx).1]; kernel_rfl)]
        simp [bs]
        rfl
      rw [← hGc]
      have hbt : Nat.blt Gb.n (Gb.top.new 6 [u0, u1, u2, u3, u4, u5]).n = true := by rw [Nat.blt_eq]; exact Nat.lt_succ_self _
      rw [hbt, cond_true]
      have hid : ∀ bits : Nat, bits.testBit 3 = true → bits.testBit 4 = true → ∀ x ∈ ((4, Gb.n, (Gb.top.new 6 [u0, u1, u2, u3, u4, u5]).n) :: ms), bits.testBit x.1 = true := fun bits b3 b4 x hx => by
        rcases List.mem_cons.mp hx with e | e
        · rw [e]; exact b4
        · rw [(hms1 x e).1]; exact b3
      simp
      cases hxb : vblk xv with
      | none =>
        refine DG_grow (v := .slice (some ⟨Gc.n, 0, none⟩) (i + 1) (i + 1)) (H2 := Hd) rfl rfl rfl ?_ (by omega) (by rw [hlw0 hxb]; exact Nat.le_refl _) ?_
        · rw [vis_top (hidden_nil (hid _ (by kernel_rfl) (by kernel_rfl)))]
          simp [hap]
        have bt : But none Hd (grown Gc Hd) := ⟨rfl, fun j hj _ => by
          unfold AH.blk grown
          simp only [addT_blk]
          by_cases cj : Gc.n ≤ j
          · rw [if_pos (by omega)]; rfl
          · rw [if_neg (by omega)]
            exact (othd j (by show j < Gc.n; omega) (by rw [hxb]; intro e; cases e)).symm⟩
        have kag : KAt nh Gc (grown Gc Hd) := (show Keep Gc (grown Gc Hd) from ⟨by show Gc.n ≤ Hd.n; omega, Nat.min_le_left _ _, fun j hj => by
          rw [bt.blk j (by omega) (fun e => by cases e)]
          exact othd j hj (by rw [hxb]; intro e; cases e)⟩).kat nh
        obtain ⟨H8, st8, n8, lw8, _⟩ := fin _ bt kag
        have hbt2 : Nat.blt Gc.n Hd.n = true := by rw [Nat.blt_eq]; omega
        rw [hbt2, cond_true]
        simp [t5, feArgs]
        refine DG_write (v := .tuple #[]) (H2 := H8) rfl rfl (by kernel_rfl) (hidden_nil fun x hx => ?_) ?_ n8 lw8 ?_
        · rcases List.mem_cons.mp hx with e | e
          · rw [e]; kernel_rfl
          · exact hid _ (by kernel_rfl) (by kernel_rfl) x e
        · show evOp _ _ _ _ (grown Gc Hd).top _ = _
          simp [st8]
        simp
        exact hQ'' _ ⟨rfl, _, H8, st8, bt, kag, rfl, by simp [t2], by simp [t5], by simp [t55], by simp [t56], by simp [t57]⟩
      | some b =>
        have hb1 := hlw1 b hxb
        refine DG_write (v := .slice (some ⟨Gc.n, 0, none⟩) (i + 1) (i + 1)) (H2 := Hd) rfl rfl (by kernel_rfl) (hidden_nil (hid _ (by kernel_rfl) (by kernel_rfl))) ?_ (by omega) (by have h2 : b < Gc.n := hb1.2; omega) ?_
        · show evOp _ _ _ _ Gc.top _ = _
          simp [hap]
        have bt : But none Hd (low Gc Hd) := low_but Gc Hd
        have kag : KAt nh Gc (low Gc Hd) := low_kat kad
        obtain ⟨H8, st8, n8, lw8, _⟩ := fin _ bt kag
        have hbt2 : Nat.blt Gc.n Hd.n = true := by rw [Nat.blt_eq]; omega
        rw [hbt2, cond_true]
        simp [t5, feArgs]
        refine DG_write (v := .tuple #[]) (H2 := H8) rfl rfl (by kernel_rfl) (hidden_nil fun x hx => ?_) ?_ n8 lw8 ?_
        · rcases List.mem_cons.mp hx with e | e
          · rw [e]; kernel_rfl
          · exact hid _ (by kernel_rfl) (by kernel_rfl) x e
        · show evOp _ _ _ _ (low Gc Hd).top _ = _
          simp [st8]
        simp
        exact hQ'' _ ⟨rfl, _, H8, st8, bt, kag, by simp [low, Nat.min_assoc], by simp [t2], by simp [t5], by simp [t55], by simp [t56], by simp [t57]⟩
    rintro ⟨k, tm2, HX⟩ ⟨hk, G3, H8, st8, bt, ka, hX, u2', u5', u55, u56, u57⟩
    simp only at hk hX u2' u5' u55 u56 u57
    subst hk; subst hX
    obtain ⟨H8', st8', q1, q2, q3, q4, q5, q6, q7⟩ := fin G3 bt ka
    obtain rfl : H8' = H8 := Option.some.inj (st8'.symm.trans st8)
    apply W_region
    simp [u57, add1N (x := i) (by omega)]
    apply hQ'
    exact ⟨m - 1, by omega, rfl, q3, q4, q5, i + 1, .slice (some ⟨Gc.n, 0, none⟩) (i + 1) (i + 1), by omega, q6, q7, by simp [u2'], by simp [u5'], by simp [u55], by simp [u56], by simp⟩
  · refine W_seq fun b3 hb3 => ?_
    refine W_cond (t := false) (by simp [hi]) ?_
    apply W_exit
    apply hQ'
    left
    refine ⟨rfl, ?_⟩
    obtain rfl : i = m0 := by omega
    rw [List.take_of_length_le (by omega)] at own
    have lF : loadV Tryd.prog Ha 45 (.pointer (some ⟨c, 0, none⟩)) = some (.agg #[.int .i64 op, .bool r.1.1, vn, vd', .bool r.2, xv]) := load_e (o := 0) (vs := [.int .i64 op, .bool r.1.1, vn, vd', .bool r.2, xv]) (by unfold AH.cells; rw [blkc]) rfl rfl
    have on1 := own.one1.1
    have resb : Ha.blk (H.n + 1) = .rw 1 [.int .i64 0, .bool false, .slice none 0 0, .slice none 0 0, .bool false, .slice none 0 0] := by rw [oth _ (by omega) (by omega)]; exact res
    obtain ⟨H9, st9, blk9, n9, oth9, ka9, _⟩ := store_at (H := Ha) (b := H.n + 1) (o := 0) (v := .agg #[.int .i64 op, .bool r.1.1, vn, vd', .bool r.2, xv]) (ws := [.int .i64 op, .bool r.1.1, vn, vd', .bool r.2, xv]) sE resb rfl rfl (by simp) (by
      simp only [List.all_cons, List.all_nil, sn.1.one1, sd.1.one1, on1, Bool.and_true]
      rfl)
    have lR : loadV Tryd.prog H9 45 (.pointer (some ⟨H.n + 1, 0, none⟩)) = some (.agg #[.int .i64 op, .bool r.1.1, vn, vd', .bool r.2, xv]) := load_e (o := 0) (vs := [.int .i64 op, .bool r.1.1, vn, vd', .bool r.2, xv]) (by unfold AH.cells; rw [blk9]) rfl rfl
    show W _ _ b1 _ _; subst hb1
    apply W_seq; intro b1 hb1
    apply W_region
    simp [t5, lF, t2, st9]
    show W _ _ b1 _ _; subst hb1
    apply W_ret
    simp [t2, lR]
    have ag : Agr (fun j => H.n + 2 ≤ j ∧ j ≠ c) HH H9 := by
      refine ⟨by omega, fun j hj hjn => ?_⟩
      rw [oth9 j (by omega)]
      exact oth j (by omega) hj.2
    refine ⟨ka9 H kH (by omega), .mk ⟨sn.1.agr sn.2 ag, fun b hb => by have := (sn.2 b hb).1; omega⟩ ⟨sd.1.agr sd.2 ag, fun b hb => by have := (sd.2 b hb).1; omega⟩ ?_⟩
    exact (own.agr (H' := H9) (by omega) fun j hj _ => oth9 j (by omega)).rxs (by omega)
end
end Go.Proofs.YthlgggcpokfmaaaDoor

/-
  surdlaw17: one and lives, in any heap.
-/
namespace Go.Proofs.YthlgggcpokfmaaaDoor
open Go Ev
set_option linter.unusedVariables false
set_option linter.unusedSimpArgs false
noncomputable section
set_option maxRecDepth 20000

theorem store_blk {H : AH} {sz : Nat} {zs ws : List Value} {t : TypeId} {n b : Nat} (ht : sizeT Tryd.prog t = some n) (hb : H.blk b = .rw sz zs) (hz : zs.length = n) {v : Value} (hv : v.cells.toList = ws) (hw : ws.length = n) (h1 : ws.all one = true) :
    ∃ H', storeV Tryd.prog H t (.pointer (some ⟨b, 0, none⟩)) v = some H' ∧ H'.blk b = .rw sz ws ∧ H'.n = H.n ∧ (∀ j, j ≠ b → H'.blk j = H.blk j) ∧ KAt b H H' := by
  have hs : v.cells.size = n := by rw [← hw, ← hv]; simp
  have hle : Nat.ble (0 + ws.length) zs.length = true := Nat.ble_eq.mpr (by omega)
  refine ⟨{ n := H.n, lw := min H.lw b, t := H.t.set b (.rw sz ws) }, ?_, ?_, rfl, fun j hj => ?_, fun H0 k hn => ⟨k.n, ?_, fun j hj => ?_⟩⟩
  · unfold storeV
    simp only [ht, hs, hv]
    rw [show Nat.beq n n = true from by simp, cond_true, AH.write_def, hb]
    simp only [hle, h1, Bool.and_self, cond_true, List.take_zero, List.nil_append]
    rw [List.drop_of_length_le (by omega), List.append_nil]
  · unfold AH.blk; simp only [Tr.get_set, if_true]
  · unfold AH.blk; simp only [Tr.get_set]; rw [if_neg hj]
  · have := k.lw
    show min H0.lw H0.n ≤ min H.lw b
    omega
  · unfold AH.blk; simp only [Tr.get_set]
    rw [if_neg (by omega)]
    exact k.blk j hj

theorem buildNat1 (H : AH) : buildSliceV Tryd.prog H 25 1 [(0, .int .u64 1)] = some (.slice (some ⟨H.n, 0, none⟩) 1 1, H.new 1 [.int .u64 1]) := by
  unfold buildSliceV
  simp only [tNat, zU64]
  kernel_rfl
theorem buildWhole (b : Nat) : buildV Tryd.prog 27 [(1, .slice (some ⟨b, 0, none⟩) 1 1)] = some (.agg #[.bool false, .slice (some ⟨b, 0, none⟩) 1 1]) := by kernel_rfl
theorem buildRatio (b c : Nat) : buildV Tryd.prog 29 [(0, .agg #[.bool false, .slice (some ⟨b, 0, none⟩) 1 1]), (1, .slice (some ⟨c, 0, none⟩) 1 1)] = some (.agg #[.bool false, .slice (some ⟨b, 0, none⟩) 1 1, .slice (some ⟨c, 0, none⟩) 1 1]) := by kernel_rfl
theorem buildOne (b c : Nat) : buildV Tryd.prog 32 [(0, .int .i64 0), (1, .agg #[.bool false, .slice (some ⟨b, 0, none⟩) 1 1, .slice (some ⟨c, 0, none⟩) 1 1])] =
    some (.agg #[.int .i64 0, .bool false, .slice (some ⟨b, 0, none⟩) 1 1, .slice (some ⟨c, 0, none⟩) 1 1, .slice none 0 0]) := by kernel_rfl

def oneT : ET := .node 0 false [1] [1] []

attribute [-simp] Int.natCast_add Int.natCast_mul Int.natCast_ediv Int.natCast_emod Int.natCast_pow
attribute [local simp] strip stripL LW' LR gW evOp oMove oAssign oPick oBinOp oUnOp oConvert oExtract oIndexAddr oIndex oLoad oStore oField oFieldAddr oSlice oMakeSlice oBuildSlice oBuild oAlloc oBox oNilCheck oCall opd opds optOpd plain plain1 Tr.get_set tmOf builtinV binV isShift sameKind undef resultV resOne packV ltNat calleeV parts unV DW grdOf heapOp LX isStore

theorem nnew (H : AH) (sz : Nat) (cs : List Value) : (H.new sz cs).n = H.n + 1 := rfl

set_option maxRecDepth 20000 in
theorem one_call (H : AH) : ∃ vs H', callI Tryd.prog cfgR 14 [] H = some (.agg vs.toArray, H') ∧ Keep H H' ∧ Ex H' vs oneT := by
  suffices hs : CW Tryd.prog cfgR 14 [] H fun v H' => ∃ vs : List Value, v = .agg vs.toArray ∧ Keep H H' ∧ Ex H' vs oneT by
    obtain ⟨_, H', hc, vs, rfl, k⟩ := hs
    exact ⟨vs, H', hc, k⟩
  refine CW_intro 6 (by decide) (by decide) Tryd.func14 rfl rfl ?_
  let zs : List Value := [.int .i64 0, .bool false, .slice none 0 0, .slice none 0 0, .slice none 0 0]
  let ws : List Value := [.int .i64 0, .bool false, .slice (some ⟨H.n + 1, 0, none⟩) 1 1, .slice (some ⟨H.n + 2, 0, none⟩) 1 1, .slice none 0 0]
  obtain ⟨H1, hH1⟩ : ∃ H1, H1 = H.new 1 zs := ⟨_, rfl⟩
  have n1 : H1.n = H.n + 1 := by rw [hH1]; rfl
  obtain ⟨H2, hH2⟩ : ∃ H2, H2 = H1.new 1 [.int .u64 1] := ⟨_, rfl⟩
  have n2 : H2.n = H.n + 2 := by rw [hH2, nnew, n1]
  obtain ⟨H3, hH3⟩ : ∃ H3, H3 = H2.new 1 [.int .u64 1] := ⟨_, rfl⟩
  have k1 : Keep H H1 := by rw [hH1]; exact .new _ _ _
  have k2 : Keep H1 H2 := by rw [hH2]; exact .new _ _ _
  have k3 : Keep H2 H3 := by rw [hH3]; exact .new _ _ _
  have b3 : H3.blk H.n = .rw 1 zs := by rw [k3.blk _ (by omega), k2.blk _ (by omega), hH1, AH.blk_new, if_pos rfl]
  obtain ⟨H4, st4, b4, n4, o4, ka4⟩ := store_blk (H := H3) (b := H.n) (v := .agg ws.toArray) (ws := ws) sExpr b3 rfl rfl rfl rfl
  have k04 : Keep H H4 := ka4 H ((k1.trans k2).trans k3) (Nat.le_refl _)
  have l4 : loadV Tryd.prog H4 32 (.pointer (some ⟨H.n, 0, none⟩)) = some (.agg ws.toArray) := load_expr (cs := ws) (by unfold AH.cells; rw [b4]) rfl rfl
  have c1 := buildNat1 H1
  have c2 := buildNat1 H2
  rw [← hH2, n1] at c1
  rw [← hH3, n2] at c2
  have x1 : Sl H4 (.slice (some ⟨H.n + 1, 0, none⟩) 1 1) [1] := by
    have : H4.blk (H.n + 1) = .rw 1 [.int .u64 1] := by rw [o4 _ (by omega), k3.blk _ (by omega), hH2, AH.blk_new, if_pos n1.symm]
    refine .mk (H.n + 1) 0 1 [1] (Nat.le_refl _) ⟨by have := k3.n; omega, [.int .u64 1], ?_, ?_, fun i x hx => ?_, Nat.zero_le _⟩
    · unfold AH.cells; rw [this]
    · unfold AH.size; rw [this]
    · match i, hx with
      | 0, hx => cases hx; rfl
  have x2 : Sl H4 (.slice (some ⟨H.n + 2, 0, none⟩) 1 1) [1] := by
    have : H4.blk (H.n + 2) = .rw 1 [.int .u64 1] := by rw [o4 _ (by omega), hH3, AH.blk_new, if_pos n2.symm]
    refine .mk (H.n + 2) 0 1 [1] (Nat.le_refl _) ⟨by rw [n4, hH3, nnew]; omega, [.int .u64 1], ?_, ?_, fun i x hx => ?_, Nat.zero_le _⟩
    · unfold AH.cells; rw [this]
    · unfold AH.size; rw [this]
    · match i, hx with
      | 0, hx => cases hx; rfl
  apply W_seq; intro d1 hd1
  apply W_region
  simp [zExpr, Value.cells]
  rw [show H.new 1 [Value.int IntKind.i64 0, Value.bool false, Value.slice none 0 0, Value.slice none 0 0, Value.slice none 0 0] = H1 from hH1.symm]
  show W _ _ d1 _ _; subst hd1
  apply W_seq; intro d1 hd1
  apply W_region
  simp [c1, c2, buildWhole, buildRatio, buildOne]
  rw [show storeV Tryd.prog H3 32 (.pointer (some ⟨H.n, 0, none⟩)) (.agg #[.int .i64 0, .bool false, .slice (some ⟨H.n + 1, 0, none⟩) 1 1, .slice (some ⟨H.n + 2, 0, none⟩) 1 1, .slice none 0 0]) = some H4 from st4]
  simp
  show W _ _ d1 _ _; subst hd1
  apply W_ret
  simp [l4]
  exact ⟨k04, .mk x1 x2 .nil⟩

theorem oneT_need : needA oneT 10 0 1 = (194, 0) := by
  have h1 : checkN oneT = 0 := by
    unfold checkN oneT
    simp [ET.allGood, goodAll, ET.good, ET.nodes, nodesAll, ET.depth, depthAll, arity, dv]
  have h2 : blen 1 = 1 := blen_uniq (by decide) (.inr (by decide))
  unfold needA
  rw [h1, if_neg (by decide), if_pos (by decide)]
  unfold needN oneT
  simp [ET.nodes, nodesAll, ET.depth, depthAll, h2]

theorem reach194 {H : AH} : callI Tryd.prog cfgR 11 [.int .i64 194] H = some (.tuple #[.int .i64 256, .int .i64 0], H) := by
  obtain ⟨v, H', hc, rfl, hr⟩ := reach_spec (need := 194) (by decide) (by decide) (H := H)
  have : ReachIs 194 (.tuple #[.int .i64 256, .int .i64 0]) := .inr ⟨by decide, by decide, 2, by decide, by decide, .inr (by decide), rfl⟩
  rw [hr.uniq this] at hc
  exact hc

set_option maxRecDepth 20000 in
theorem livesAt {H : AH} (hR : RowsIn H) : ∃ H', callI Tryd.prog cfgR 7 [] H = some (.bool true, H') ∧ Keep H H' := by
  suffices hs : CW Tryd.prog cfgR 7 [] H fun v H' => v = .bool true ∧ Keep H H' by
    obtain ⟨_, H', hc, rfl, k⟩ := hs
    exact ⟨H', hc, k⟩
  obtain ⟨vs, H1, c1, k1, e1⟩ := one_call H
  have d1 : Dig B64 [1] := Dig.cons (by decide) (.nil _)
  obtain ⟨H2, c2, k2⟩ := need_call (vs := vs) (t := oneT) ⟨e1, hR.keep k1, ⟨by simp, by simp, d1, d1, trivial⟩, by unfold oneT; simp [ET.nodes, nodesAll]⟩ 10 0 1
  rw [oneT_need] at c2
  have c2 : callI Tryd.prog cfgR 8 [.agg vs.toArray, .int .i64 10, .int .i64 0, .int .i64 1] H1 = some (.tuple #[.int .i64 194, .int .i64 0], H2) := c2
  have c3 := reach194 (H := H2)
  have f1 : intBin .eql .i64 194 194 = some (.bool true) := rfl
  have f2 : intBin .eql .i64 0 0 = some (.bool true) := rfl
  have f3 : intBin .eql .i64 256 256 = some (.bool true) := rfl
  refine CW_intro 28 (by decide) (by decide) Tryd.func7 rfl rfl ?_
  apply W_seq; intro b1 hb1
  apply W_region
  simp
  show W _ _ b1 _ _; subst hb1
  apply W_seq; intro b1 hb1
  apply W_region
  simp [c1, c2]
  show W _ _ b1 _ _; subst hb1
  apply W_seq; intro b1 hb1
  apply W_region
  simp [c3]
  show W _ _ b1 _ _; subst hb1
  apply W_seq; intro b1 hb1
  apply W_region
  simp [f1, f2, f3]
  show W _ _ b1 _ _; subst hb1
  apply W_ret
  simp
  exact k1.trans k2
end
end Go.Proofs.YthlgggcpokfmaaaDoor

/-
  surdlaw17.BoundGrows: the walk.
-/
namespace Go.Proofs.YthlgggcpokfmaaaDoor
open Go Ev
set_option linter.unusedVariables false
set_option linter.unusedSimpArgs false
noncomputable section
set_option maxRecDepth 20000

theorem faHow0 (b o : Nat) : fieldAddrV Tryd.prog 34 (.pointer (some ⟨b, o, none⟩)) 0 = some (.pointer (some ⟨b, o, none⟩)) := by kernel_rfl
theorem faHow1 (b o : Nat) : fieldAddrV Tryd.prog 34 (.pointer (some ⟨b, o, none⟩)) 1 = some (.pointer (some ⟨b, o + 1, none⟩)) := by kernel_rfl
theorem faHow2 (b o : Nat) : fieldAddrV Tryd.prog 34 (.pointer (some ⟨b, o, none⟩)) 2 = some (.pointer (some ⟨b, o + 2, none⟩)) := by kernel_rfl

theorem sExprs : sliceT Tryd.prog 30 = some (32, 5, 88) := by kernel_rfl

theorem buildArgs (H : AH) (v0 v1 v2 v3 v4 : Value) : buildSliceV Tryd.prog H 30 1 [(0, .agg #[v0, v1, v2, v3, v4])] = some (.slice (some ⟨H.n, 0, none⟩) 1 1, H.new 5 [v0, v1, v2, v3, v4]) := by
  unfold buildSliceV
  simp only [sExprs, zExpr]
  kernel_rfl
theorem buildUp (b : Nat) : buildV Tryd.prog 32 [(0, .int .i64 2), (2, .slice (some ⟨b, 0, none⟩) 1 1)] =
    some (.agg #[.int .i64 2, .bool false, .slice none 0 0, .slice none 0 0, .slice (some ⟨b, 0, none⟩) 1 1]) := by kernel_rfl

/-- A tree around. -/
def upT (t : ET) : ET := .node 2 false [] [] [t]

theorem upT_nodes (t : ET) : (upT t).nodes = t.nodes + 1 := by unfold upT; simp [ET.nodes, nodesAll]; omega
theorem upT_depth (t : ET) : (upT t).depth = t.depth + 1 := by unfold upT; simp [ET.depth, depthAll]

theorem conv_uint_int {n : Nat} (h : n < 9223372036854775808) : convV Tryd.prog 51 3 (.int .u64 (n : Int)) = some (.int .i64 (n : Int)) := by
  have e : IntKind.i64.wrap (n : Int) = (n : Int) := wrap_nat h
  unfold convV
  simp only [Tryd.underlying3, Tryd.underlying51, e]

theorem rem1000 {d : Nat} : intBin .rem .u64 (d : Int) 1000 = some (.int .u64 ((d % 1000 : Nat) : Int)) := by
  show (if (1000 : Int) = 0 then none else some (Value.int .u64 ((d : Int).tmod 1000))) = _
  rw [if_neg (by decide)]
  congr 2

theorem blen_mono' {n m : Nat} (h : n ≤ m) : blen n ≤ blen m := by
  rcases Nat.eq_zero_or_pos n with h0 | h0
  · subst h0; exact Nat.zero_le _
  · have h1 := blen_ge (n := n) (by omega)
    have h2 := blen_lt m
    have := (Nat.pow_lt_pow_iff_right (a := 2) (by decide)).mp (Nat.lt_of_le_of_lt (Nat.le_trans h1 h) h2)
    omega

theorem needA_bad {t : ET} {n c s : Int} (h : (needA t n c s).2 ≠ 0) : (needA t n c s).1 = 0 := by
  unfold needA at h ⊢
  split
  · rfl
  · split
    · rename_i h1 h2; rw [if_neg h1, if_pos h2] at h; exact absurd rfl h
    · rfl
theorem needA_ok {t : ET} {n c s : Int} (h : (needA t n c s).2 = 0) : checkN t = 0 ∧ inRange n c s ∧ (needA t n c s).1 = needN t n.toNat c.toNat s.toNat := by
  unfold needA at h ⊢
  by_cases h1 : checkN t ≠ 0
  · rw [if_pos h1] at h; exact absurd h h1
  · rw [if_neg h1] at h ⊢
    by_cases h2 : inRange n c s
    · rw [if_pos h2]; exact ⟨by omega, h2, rfl⟩
    · rw [if_neg h2] at h; exact absurd h (by decide)
theorem needA_in {t : ET} {n c s : Int} (h1 : checkN t = 0) (h2 : inRange n c s) : needA t n c s = (needN t n.toNat c.toNat s.toNat, 0) := by
  unfold needA
  rw [if_neg (by omega), if_pos h2]
theorem needA_code {t : ET} {n c s : Int} (h2 : inRange n c s) : (needA t n c s).2 = checkN t := by
  unfold needA
  by_cases h : checkN t ≠ 0
  · rw [if_pos h]
  · rw [if_neg h, if_pos h2]; show 0 = _; omega

theorem needN_n (t : ET) (n c s k : Nat) : needN t (n + k) c s = needN t n c s + k := by unfold needN; omega
theorem needN_c (t : ET) (n c s k : Nat) : needN t n c s ≤ needN t n (c + k) s := by
  unfold needN
  have := Nat.mul_le_mul_left (t.depth + 2) (show 2 * c + 2 * s + 16 ≤ 2 * (c + k) + 2 * s + 16 by omega)
  omega
theorem needN_up (t : ET) (n c s : Nat) : needN t n c s < needN (upT t) n c s := by
  unfold needN
  rw [upT_nodes, upT_depth]
  have h1 := blen_mono' (Nat.le_succ t.nodes)
  have h2 : (t.depth + 1 + 2) * (2 * c + 2 * s + 16) = (t.depth + 2) * (2 * c + 2 * s + 16) + (2 * c + 2 * s + 16) := by
    rw [show t.depth + 1 + 2 = (t.depth + 2) + 1 from rfl, Nat.succ_mul]
  rw [h2]
  show _ < n + _ + 2 * blen (Nat.succ t.nodes) + 128
  omega

attribute [-simp] Int.natCast_add Int.natCast_mul Int.natCast_ediv Int.natCast_emod Int.natCast_pow
attribute [local simp] strip stripL LW' LR gW evOp oMove oAssign oPick oBinOp oUnOp oConvert oExtract oIndexAddr oIndex oLoad oStore oField oFieldAddr oSlice oMakeSlice oBuildSlice oBuild oAlloc oBox oNilCheck oCall opd opds optOpd plain plain1 Tr.get_set tmOf builtinV binV isShift sameKind undef resultV resOne packV ltNat calleeV parts unV DW grdOf heapOp LX isStore

theorem eqNN {k : IntKind} {x y : Nat} : intBin .eql k (x : Int) (y : Int) = some (.bool (decide (x = y))) := by
  show some (Value.bool ((x : Int) == (y : Int))) = _
  congr 2
  by_cases h : x = y
  · subst h; simp
  · rw [decide_eq_false h]; simp; omega

set_option maxHeartbeats 1000000 in
set_option maxRecDepth 20000 in
theorem divGrows_spec {H : AH} {vs : List Value} {t : ET} (h : TreeIn H vs t) (hn : t.nodes ≤ 1048577) (n c s : Int) {d : Nat} :
    CW Tryd.prog cfgR 6 [.agg vs.toArray, .agg #[.int .i64 n, .int .i64 c, .int .i64 s], .int .u64 (d : Int)] H fun v H' => Keep H H' ∧ v = .bool true := by
  refine CW_intro 125 (by decide) (by decide) Tryd.func6 rfl rfl ?_
  have k1 := Keep.new H 1 vs
  have c1 := new_cells H 1 vs
  have m1 : (H.new 1 vs).n = H.n + 1 := rfl
  obtain ⟨H1, hH1⟩ : ∃ H1, H1 = H.new 1 vs := ⟨_, rfl⟩
  rw [← hH1] at k1 c1 m1
  have k2 := Keep.new H1 1 [.int .i64 n, .int .i64 c, .int .i64 s]
  have c2 := new_cells H1 1 [.int .i64 n, .int .i64 c, .int .i64 s]
  have m2 : (H1.new 1 [.int .i64 n, .int .i64 c, .int .i64 s]).n = H1.n + 1 := rfl
  obtain ⟨H2, hH2⟩ : ∃ H2, H2 = H1.new 1 [.int .i64 n, .int .i64 c, .int .i64 s] := ⟨_, rfl⟩
  rw [← hH2] at k2 c2 m2
  rw [m1] at c2
  have k02 := k1.trans k2
  have le : ∀ {H'}, Keep H2 H' → loadV Tryd.prog H' 32 (.pointer (some ⟨H.n, 0, none⟩)) = some (.agg vs.toArray) := fun k =>
    load_expr (o := 0) ((cells_keep k (by omega)).trans ((cells_keep k2 (by omega)).trans c1)) (by rw [List.drop_zero, List.take_of_length_le (by rw [h.ex.len]; omega)]) h.ex.len
  have l0 : ∀ {H'}, Keep H2 H' → loadV Tryd.prog H' 3 (.pointer (some ⟨H.n + 1, 0, none⟩)) = some (.int .i64 n) := fun k => load_cell aInt ((cells_keep k (by omega)).trans c2) rfl
  have l1 : ∀ {H'}, Keep H2 H' → loadV Tryd.prog H' 3 (.pointer (some ⟨H.n + 1, 1, none⟩)) = some (.int .i64 c) := fun k => load_cell aInt ((cells_keep k (by omega)).trans c2) rfl
  have l2 : ∀ {H'}, Keep H2 H' → loadV Tryd.prog H' 3 (.pointer (some ⟨H.n + 1, 2, none⟩)) = some (.int .i64 s) := fun k => load_cell aInt ((cells_keep k (by omega)).trans c2) rfl
  have h2 := h.keep k02
  obtain ⟨H3, c3, k3⟩ := need_call h2 n c s
  obtain ⟨a, ha⟩ : ∃ a, a = (needA t n c s).1 := ⟨_, rfl⟩
  obtain ⟨e, he⟩ : ∃ e, e = (needA t n c s).2 := ⟨_, rfl⟩
  have c3 : callI Tryd.prog cfgR 8 [.agg vs.toArray, .int .i64 n, .int .i64 c, .int .i64 s] H2 = some (.tuple #[.int .i64 (a : Int), .int .i64 (e : Int)], H3) := by rw [ha, he]; exact c3
  apply W_seq; intro b1 hb1
  apply W_region
  simp [Value.cells, ← hH1, ← hH2]
  rw [m1]
  show W _ _ b1 _ _; subst hb1
  apply W_seq; intro b1 hb1
  apply W_region
  simp [faHow0, faHow1, faHow2, le (.refl H2), l0 (.refl H2), l1 (.refl H2), l2 (.refl H2), c3]
  show W _ _ b1 _ _; subst hb1
  have e1 : intBin .neq .i64 (e : Int) 0 = some (.bool (decide (e ≠ 0))) := neqN (y := 0)
  have f00 : intBin .eql .i64 0 0 = some (.bool true) := rfl
  apply W_seq; intro b1 hb1
  apply W_seq; intro b2 hb2
  apply W_region
  by_cases h0 : e ≠ 0
  · rw [decide_eq_true h0] at e1
    have ha0 : a = 0 := by rw [ha]; exact needA_bad (by rw [← he]; exact h0)
    subst ha0
    obtain ⟨H4, c4, k4⟩ := livesAt (h2.keep k3).rows
    simp [e1]
    show W _ _ b2 _ _; subst hb2
    refine W_cond (t := true) (by simp) ?_
    apply W_seq; intro b2 hb2
    apply W_region
    simp [f00, c4]
    show W _ _ b2 _ _; subst hb2
    apply W_ret
    simp [seqQ]
    exact (k02.trans k3).trans k4
  rw [decide_eq_false h0] at e1
  simp [e1]
  show W _ _ b2 _ _; subst hb2
  refine W_cond (t := false) (by simp) ?_
  apply W_skip
  show W _ _ b1 _ _; subst hb1
  have h0 : e = 0 := by omega
  rw [h0] at he
  obtain ⟨hck, hin, hneed⟩ := needA_ok he.symm
  rw [← ha] at hneed
  obtain ⟨k, hk⟩ : ∃ k, k = d % 1000 := ⟨_, rfl⟩
  have hk1 : k < 1000 := by omega
  have r1 := rem1000 (d := d)
  rw [← hk] at r1
  have hin' := hin
  unfold inRange at hin'
  obtain ⟨cc, rfl⟩ : ∃ cc : Nat, c = (cc : Int) := ⟨c.toNat, by omega⟩
  obtain ⟨ss, rfl⟩ : ∃ ss : Nat, s = (ss : Int) := ⟨s.toNat, by omega⟩
  rw [Int.toNat_natCast, Int.toNat_natCast] at hneed
  have hsmall : a < 1000000000 := by
    rw [hneed]
    unfold needN
    obtain ⟨_, hn1, hd1⟩ := checkN_zero hck
    have bl : blen t.nodes ≤ 64 := by
      have := blen_small (xs := [t.nodes]) (Dig.cons (by have : B64 = 18446744073709551616 := rfl; omega) (.nil _)) (L := 1) (by simp)
      simpa [dv] using this
    have := Nat.mul_le_mul_right (2 * cc + 2 * ss + 16) (show t.depth + 2 ≤ 202 by omega)
    omega
  have f01 : intBin .neq .i64 0 0 = some (.bool false) := rfl
  apply W_seq; intro b1 hb1
  apply W_region
  simp [r1, conv_uint_int (n := k) (by omega)]
  show W _ _ b1 _ _; subst hb1
  -- with n
  refine W_thenK (fun s' => s'.k = 125 ∧ Keep H2 s'.H ∧ s'.tm.get 3 = some (.pointer (some ⟨H.n, 0, none⟩)) ∧ s'.tm.get 4 = some (.pointer (some ⟨H.n + 1, 0, none⟩)) ∧ s'.tm.get 7 = some (.int .i64 (a : Int)) ∧ s'.tm.get 9 = some (.int .i64 (k : Int))) ?_ ?_
  · intro Q' hQ'
    apply W_seq; intro b2 hb2
    apply W_region
    have g1 : intBin .geq .i64 n 0 = some (.bool (decide (n ≥ 0))) := rfl
    by_cases n0 : n ≥ 0
    · obtain ⟨nn, rfl⟩ : ∃ nn : Nat, n = (nn : Int) := ⟨n.toNat, by omega⟩
      rw [decide_eq_true n0] at g1
      rw [Int.toNat_natCast] at hneed
      have ad : intBin .add .i64 (nn : Int) (k : Int) = some (.int .i64 ((nn + k : Nat) : Int)) := addN (by omega)
      have g2 : intBin .leq .i64 ((nn + k : Nat) : Int) 1048576 = some (.bool (decide (nn + k ≤ 1048576))) := by
        show some (Value.bool (decide (((nn + k : Nat) : Int) ≤ 1048576))) = _
        congr 2
        exact decide_eq_decide.mpr (by omega)
      by_cases n1 : nn + k ≤ 1048576
      · rw [decide_eq_true n1] at g2
        obtain ⟨H4, c4, k4⟩ := need_call (h2.keep k3) ((nn + k : Nat) : Int) cc ss
        rw [needA_in hck (by unfold inRange; omega), Int.toNat_natCast, Int.toNat_natCast, Int.toNat_natCast, needN_n, ← hneed] at c4
        have c4 : callI Tryd.prog cfgR 8 [.agg vs.toArray, .int .i64 ((nn + k : Nat) : Int), .int .i64 (cc : Int), .int .i64 (ss : Int)] H3 = some (.tuple #[.int .i64 ((a + k : Nat) : Int), .int .i64 0], H4) := c4
        have ad2 : intBin .add .i64 (a : Int) (k : Int) = some (.int .i64 ((a + k : Nat) : Int)) := addN (by omega)
        have ne : intBin .neq .i64 ((a + k : Nat) : Int) ((a + k : Nat) : Int) = some (.bool false) := by rw [neqN]; simp
        simp [faHow0, l0 k3, g1, ad, g2]
        show W _ _ b2 _ _; subst hb2
        refine W_cond (t := true) (by simp) ?_
        apply W_seq; intro b2 hb2
        apply W_region
        simp [faHow0, faHow1, faHow2, le k3, l0 k3, l1 k3, l2 k3, ad, c4]
        show W _ _ b2 _ _; subst hb2
        apply W_seq; intro b2 hb2
        apply W_region
        simp [f01, ad2, ne]
        show W _ _ b2 _ _; subst hb2
        refine W_cond (t := false) (by simp) ?_
        apply W_skip
        apply hQ'
        exact ⟨rfl, k3.trans k4, by simp, by simp, by simp, by simp⟩
      · rw [decide_eq_false n1] at g2
        simp [faHow0, l0 k3, g1, ad, g2]
        show W _ _ b2 _ _; subst hb2
        refine W_cond (t := false) (by simp) ?_
        apply W_skip
        apply hQ'
        exact ⟨rfl, k3, by simp, by simp, by simp, by simp⟩
    · rw [decide_eq_false n0] at g1
      simp [faHow0, l0 k3, g1]
      show W _ _ b2 _ _; subst hb2
      refine W_cond (t := false) (by simp) ?_
      apply W_skip
      apply hQ'
      exact ⟨rfl, k3, by simp, by simp, by simp, by simp⟩
  rintro ⟨kk, tm, H3⟩ ⟨hkk, k3, t3, t4, t7, t9⟩
  simp only at hkk k3 t3 t4 t7 t9
  subst hkk
  -- with clear
  refine W_thenK (fun s' => s'.k = 125 ∧ Keep H2 s'.H ∧ s'.tm.get 3 = some (.pointer (some ⟨H.n, 0, none⟩)) ∧ s'.tm.get 4 = some (.pointer (some ⟨H.n + 1, 0, none⟩)) ∧ s'.tm.get 7 = some (.int .i64 (a : Int))) ?_ ?_
  · intro Q' hQ'
    apply W_seq; intro b2 hb2
    apply W_region
    have ad : intBin .add .i64 (cc : Int) (k : Int) = some (.int .i64 ((cc + k : Nat) : Int)) := addN (by omega)
    have g2 : intBin .leq .i64 ((cc + k : Nat) : Int) 1048576 = some (.bool (decide (cc + k ≤ 1048576))) := by
      show some (Value.bool (decide (((cc + k : Nat) : Int) ≤ 1048576))) = _
      congr 2
      exact decide_eq_decide.mpr (by omega)
    by_cases n1 : cc + k ≤ 1048576
    · rw [decide_eq_true n1] at g2
      obtain ⟨H4, c4, k4⟩ := need_call (h2.keep k3) n ((cc + k : Nat) : Int) ss
      rw [needA_in hck (by unfold inRange; omega), Int.toNat_natCast, Int.toNat_natCast] at c4
      obtain ⟨b, hb⟩ : ∃ b, b = needN t n.toNat (cc + k) ss := ⟨_, rfl⟩
      rw [← hb] at c4
      have c4 : callI Tryd.prog cfgR 8 [.agg vs.toArray, .int .i64 n, .int .i64 ((cc + k : Nat) : Int), .int .i64 (ss : Int)] H3 = some (.tuple #[.int .i64 (b : Int), .int .i64 0], H4) := c4
      have hge : a ≤ b := by rw [hneed, hb]; exact needN_c _ _ _ _ _
      have lt : intBin .lss .i64 (b : Int) (a : Int) = some (.bool false) := by rw [lssN, decide_eq_false (by omega)]
      simp [faHow1, t4, t9, l1 k3, ad, g2]
      show W _ _ b2 _ _; subst hb2
      refine W_cond (t := true) (by simp) ?_
      apply W_seq; intro b2 hb2
      apply W_region
      simp [faHow0, faHow1, faHow2, t3, t4, t9, le k3, l0 k3, l1 k3, l2 k3, ad, c4]
      show W _ _ b2 _ _; subst hb2
      apply W_seq; intro b2 hb2
      apply W_region
      simp [f01, t7, lt]
      show W _ _ b2 _ _; subst hb2
      refine W_cond (t := false) (by simp) ?_
      apply W_skip
      apply hQ'
      exact ⟨rfl, k3.trans k4, by simp [t3], by simp [t4], by simp [t7]⟩
    · rw [decide_eq_false n1] at g2
      simp [faHow1, t4, t9, l1 k3, ad, g2]
      show W _ _ b2 _ _; subst hb2
      refine W_cond (t := false) (by simp) ?_
      apply W_skip
      apply hQ'
      exact ⟨rfl, k3, by simp [t3], by simp [t4], by simp [t7]⟩
  clear k3 t3 t4 t7 t9
  rintro ⟨kk, tm, H3⟩ ⟨hkk, k3, t3, t4, t7⟩
  simp only at hkk k3 t3 t4 t7
  subst hkk
  -- the tree around
  have hex := h.ex
  obtain ⟨v0, v1, v2, v3, v4, rfl⟩ : ∃ v0 v1 v2 v3 v4, vs = [v0, v1, v2, v3, v4] := by cases hex; exact ⟨_, _, _, _, _, rfl⟩
  have bs := buildArgs H3 v0 v1 v2 v3 v4
  have k4 := Keep.new H3 5 [v0, v1, v2, v3, v4]
  have c4 := new_cells H3 5 [v0, v1, v2, v3, v4]
  have m4 : (H3.new 5 [v0, v1, v2, v3, v4]).n = H3.n + 1 := rfl
  obtain ⟨H4, hH4⟩ : ∃ H4, H4 = H3.new 5 [v0, v1, v2, v3, v4] := ⟨_, rfl⟩
  rw [← hH4] at bs k4 c4 m4
  obtain ⟨H5, st5, k5, b5, m5⟩ := alloc_store (H := H4) (sz := 1) (zs := [.int .i64 0, .bool false, .slice none 0 0, .slice none 0 0, .slice none 0 0]) sExpr rfl (v := .agg #[.int .i64 2, .bool false, .slice none 0 0, .slice none 0 0, .slice (some ⟨H3.n, 0, none⟩) 1 1])
    (ws := [.int .i64 2, .bool false, .slice none 0 0, .slice none 0 0, .slice (some ⟨H3.n, 0, none⟩) 1 1]) rfl rfl rfl
  have k25 := (k3.trans k4).trans k5
  have lu : ∀ {H'}, Keep H5 H' → loadV Tryd.prog H' 32 (.pointer (some ⟨H4.n, 0, none⟩)) = some (.agg #[.int .i64 2, .bool false, .slice none 0 0, .slice none 0 0, .slice (some ⟨H3.n, 0, none⟩) 1 1]) := fun k =>
    load_expr (o := 0) (vs := [.int .i64 2, .bool false, .slice none 0 0, .slice none 0 0, .slice (some ⟨H3.n, 0, none⟩) 1 1]) ((cells_keep k (by omega)).trans (by unfold AH.cells; rw [b5])) rfl rfl
  have hup : TreeIn H5 [.int .i64 2, .bool false, .slice none 0 0, .slice none 0 0, .slice (some ⟨H3.n, 0, none⟩) 1 1] (upT t) := by
    have h5 := h2.keep k25
    refine ⟨.mk .nil .nil ?_, h5.rows, ⟨Nat.zero_le _, Nat.zero_le _, .nil _, .nil _, h.wide, trivial⟩, by rw [upT_nodes]; omega⟩
    refine Xs.mk (args := [t]) H3.n 0 1 (cs := [v0, v1, v2, v3, v4]) (by omega) ((cells_keep k5 (by omega)).trans c4) (Nat.le_refl _) fun i t' hi => ?_
    match i, hi with
    | 0, hi => cases hi; exact h5.ex
  obtain ⟨H6, c6, k6⟩ := need_call hup n cc ss
  obtain ⟨b, hb⟩ : ∃ b, b = (needA (upT t) n cc ss).1 := ⟨_, rfl⟩
  obtain ⟨q, hq⟩ : ∃ q, q = (needA (upT t) n cc ss).2 := ⟨_, rfl⟩
  have c6 : callI Tryd.prog cfgR 8 [.agg #[.int .i64 2, .bool false, .slice none 0 0, .slice none 0 0, .slice (some ⟨H3.n, 0, none⟩) 1 1], .int .i64 n, .int .i64 (cc : Int), .int .i64 (ss : Int)] H5 = some (.tuple #[.int .i64 (b : Int), .int .i64 (q : Int)], H6) := by rw [hb, hq]; exact c6
  obtain ⟨H7, c7, k7⟩ := check_call (hup.keep k6)
  rw [← needA_code hin, ← hq] at c7
  have c7 : callI Tryd.prog cfgR 13 [.agg #[.int .i64 2, .bool false, .slice none 0 0, .slice none 0 0, .slice (some ⟨H3.n, 0, none⟩) 1 1]] H6 = some (.int .i64 (q : Int), H7) := c7
  obtain ⟨H8, c8, k8⟩ := livesAt ((hup.keep k6).keep k7).rows
  have e7 : intBin .eql .i64 (q : Int) (q : Int) = some (.bool true) := by rw [eqNN]; simp
  have e8 : intBin .neq .i64 (q : Int) 0 = some (.bool (decide (q ≠ 0))) := neqN (y := 0)
  have kEnd : Keep H H8 := (((k02.trans k25).trans k6).trans k7).trans k8
  have le3 := le k3
  have le3 : loadV Tryd.prog H3 32 (.pointer (some ⟨H.n, 0, none⟩)) = some (.agg #[v0, v1, v2, v3, v4]) := le3
  apply W_seq; intro b1 hb1
  apply W_region
  simp [t3, le3, bs, buildUp, zExpr, Value.cells, st5]
  show W _ _ b1 _ _; subst hb1
  apply W_seq; intro b1 hb1
  apply W_region
  simp [faHow0, faHow1, faHow2, t4, lu (.refl H5), l0 k25, l1 k25, l2 k25, c6]
  show W _ _ b1 _ _; subst hb1
  apply W_seq; intro b1 hb1
  apply W_region
  by_cases hq0 : q ≠ 0
  · rw [decide_eq_true hq0] at e8
    simp [lu k6, c7, e7, e8, c8]
    show W _ _ b1 _ _; subst hb1
    apply W_ret
    simp
    exact kEnd
  · rw [decide_eq_false hq0] at e8
    have hgt : a < b := by
      rw [hneed, hb, (needA_ok (t := upT t) (by rw [← hq]; omega)).2.2, Int.toNat_natCast, Int.toNat_natCast]
      exact needN_up _ _ _ _
    have g9 : intBin .gtr .i64 (b : Int) (a : Int) = some (.bool true) := by
      rw [gtrC (y := a) rfl, decide_eq_true hgt]
    simp [lu k6, c7, e7, e8, t7, g9, c8]
    show W _ _ b1 _ _; subst hb1
    apply W_ret
    simp
    exact kEnd
end
end Go.Proofs.YthlgggcpokfmaaaDoor

/-
  surdlaw17.BoundNeeds: the walk.
-/
namespace Go.Proofs.YthlgggcpokfmaaaDoor
open Go Ev
set_option linter.unusedVariables false
set_option linter.unusedSimpArgs false
noncomputable section
set_option maxRecDepth 20000
attribute [-simp] Int.natCast_add Int.natCast_mul Int.natCast_ediv Int.natCast_emod Int.natCast_pow
attribute [local simp] strip stripL LW' LR gW evOp oMove oAssign oPick oBinOp oUnOp oConvert oExtract oIndexAddr oIndex oLoad oStore oField oFieldAddr oSlice oMakeSlice oBuildSlice oBuild oAlloc oBox oNilCheck oCall opd opds optOpd plain plain1 Tr.get_set tmOf builtinV binV isShift sameKind undef resultV resOne packV ltNat calleeV parts unV DW grdOf heapOp LX isStore

set_option maxHeartbeats 1000000 in
set_option maxRecDepth 20000 in
theorem needs_spec {H : AH} {vs : List Value} {t : ET} (h : TreeIn H vs t) (n c s : Int) :
    CW Tryd.prog cfgR 4 [.agg vs.toArray, .agg #[.int .i64 n, .int .i64 c, .int .i64 s]] H fun v H' => Keep H H' ∧ v = .bool true := by
  refine CW_intro 43 (by decide) (by decide) Tryd.func4 rfl rfl ?_
  have k1 := Keep.new H 1 vs
  have c1 := new_cells H 1 vs
  have m1 : (H.new 1 vs).n = H.n + 1 := rfl
  obtain ⟨H1, hH1⟩ : ∃ H1, H1 = H.new 1 vs := ⟨_, rfl⟩
  rw [← hH1] at k1 c1 m1
  have k2 := Keep.new H1 1 [.int .i64 n, .int .i64 c, .int .i64 s]
  have c2 := new_cells H1 1 [.int .i64 n, .int .i64 c, .int .i64 s]
  have m2 : (H1.new 1 [.int .i64 n, .int .i64 c, .int .i64 s]).n = H1.n + 1 := rfl
  obtain ⟨H2, hH2⟩ : ∃ H2, H2 = H1.new 1 [.int .i64 n, .int .i64 c, .int .i64 s] := ⟨_, rfl⟩
  rw [← hH2] at k2 c2 m2
  rw [m1] at c2
  have k02 := k1.trans k2
  have le : ∀ {H'}, Keep H2 H' → loadV Tryd.prog H' 32 (.pointer (some ⟨H.n, 0, none⟩)) = some (.agg vs.toArray) := fun k =>
    load_expr (o := 0) ((cells_keep k (by omega)).trans ((cells_keep k2 (by omega)).trans c1)) (by rw [List.drop_zero, List.take_of_length_le (by rw [h.ex.len]; omega)]) h.ex.len
  have l0 : ∀ {H'}, Keep H2 H' → loadV Tryd.prog H' 3 (.pointer (some ⟨H.n + 1, 0, none⟩)) = some (.int .i64 n) := fun k => load_cell aInt ((cells_keep k (by omega)).trans c2) rfl
  have l1 : ∀ {H'}, Keep H2 H' → loadV Tryd.prog H' 3 (.pointer (some ⟨H.n + 1, 1, none⟩)) = some (.int .i64 c) := fun k => load_cell aInt ((cells_keep k (by omega)).trans c2) rfl
  have l2 : ∀ {H'}, Keep H2 H' → loadV Tryd.prog H' 3 (.pointer (some ⟨H.n + 1, 2, none⟩)) = some (.int .i64 s) := fun k => load_cell aInt ((cells_keep k (by omega)).trans c2) rfl
  have h2 := h.keep k02
  obtain ⟨H3, c3, k3⟩ := need_call h2 n c s
  have k23 : Keep H2 H3 := k3
  obtain ⟨_, H4, c4, k4, us, rfl, rx⟩ := tree_ok _ t (Nat.le_refl _) H3.top vs ((h2.keep k3).keep (keep_topT H3)).ex h.wide (by have := h.nodes; omega)
  have n4 : H3.n ≤ H4.n := k4.n
  obtain ⟨G1, hG1⟩ : ∃ G1, G1 = grown H3 H4 := ⟨_, rfl⟩
  have kG1 : Keep H3 G1 := by rw [hG1]; exact grown_keep (.refl H3) k4
  have rx1 : Rx (fun j => H3.n ≤ j) G1 us t.ref := by
    rw [hG1]
    exact rx.agr ⟨Nat.le_refl _, fun j _ hj => (grown_but k4).blk j hj (fun e => by cases e)⟩ fun j _ h => h
  have nG1 : G1.n = H4.n := by rw [hG1]; rfl
  have fit := ref_fit _ t (Nat.le_refl _) h.wide
  obtain ⟨H5, c5, k5⟩ := rneed_call (rx1.keep (keep_topT G1)) fit (by have := h.nodes; omega) n c s
  have n5 : G1.n ≤ H5.n := k5.n
  obtain ⟨G2, hG2⟩ : ∃ G2, G2 = grown G1 H5 := ⟨_, rfl⟩
  have kG2 : Keep G1 G2 := by rw [hG2]; exact grown_keep (.refl G1) k5
  obtain ⟨H6, c6, k6⟩ := livesAt (((h2.keep k3).keep kG1).keep kG2).rows
  obtain ⟨a, ha⟩ : ∃ a, a = (needA t n c s).1 := ⟨_, rfl⟩
  obtain ⟨e, he⟩ : ∃ e, e = (needA t n c s).2 := ⟨_, rfl⟩
  have c3 : callI Tryd.prog cfgR 8 [.agg vs.toArray, .int .i64 n, .int .i64 c, .int .i64 s] H2 = some (.tuple #[.int .i64 (a : Int), .int .i64 (e : Int)], H3) := by rw [ha, he]; exact c3
  have c5 : callI Tryd.prog cfgR 9 [.agg us.toArray, .int .i64 n, .int .i64 c, .int .i64 s] G1.top = some (.tuple #[.int .i64 (a : Int), .int .i64 (e : Int)], H5) := by rw [ha, he]; exact c5
  apply W_seq; intro b1 hb1
  apply W_region
  simp [Value.cells, ← hH1, ← hH2]
  show W _ _ b1 _ _; subst hb1
  rw [m1]
  apply W_seq; intro b1 hb1
  apply W_region
  simp [faHow0, faHow1, faHow2, le (.refl H2), l0 (.refl H2), l1 (.refl H2), l2 (.refl H2), c3]
  show W _ _ b1 _ _; subst hb1
  apply W_seq; intro b1 hb1
  apply W_draw (by kernel_rfl)
  simp
  refine DG_read (v := .agg vs.toArray) rfl rfl rfl (by rw [vis_top rfl]; simp [le (k23.trans (keep_topT H3))]) ?_
  simp
  refine DG_grow (v := .agg us.toArray) (H2 := H4) rfl rfl rfl (by rw [vis_top rfl]; simp [c4]) n4 (keep_lw k4) ?_
  rw [← hG1]
  generalize hms : cond (Nat.blt H3.n H4.n) _ _ = ms
  have hms1 := ms_one hms
  have vk : ∀ bits, Keep H2 (vis G1 bits ms) := fun bits => k23.trans (vis_keep kG1 fun x hx => (hms1 x hx).2)
  simp [faHow0, faHow1, faHow2]
  refine DG_read (v := .int .i64 n) rfl rfl rfl (by simp [l0 (vk _)]) ?_
  simp
  refine DG_read (v := .int .i64 c) rfl rfl rfl (by simp [l1 (vk _)]) ?_
  simp
  refine DG_read (v := .int .i64 s) rfl rfl rfl (by simp [l2 (vk _)]) ?_
  simp
  refine DG_grow (v := .tuple #[.int .i64 (a : Int), .int .i64 (e : Int)]) (H2 := H5) rfl rfl rfl ?_ n5 (keep_lw k5) ?_
  · rw [vis_top (hidden_nil fun x hx => by rw [(hms1 x hx).1]; kernel_rfl)]
    simp [c5]
  rw [← hG2]
  simp
  show W _ _ b1 _ _; subst hb1
  have q1 : intBin .eql .i64 (a : Int) (a : Int) = some (.bool true) := by rw [eqlZZ]; simp
  have q2 : intBin .eql .i64 (e : Int) (e : Int) = some (.bool true) := by rw [eqlZZ]; simp
  apply W_seq; intro b1 hb1
  apply W_region
  simp [q1, q2, c6]
  show W _ _ b1 _ _; subst hb1
  apply W_ret
  simp
  exact k02.trans (k3.trans (kG1.trans (kG2.trans k6)))
end
end Go.Proofs.YthlgggcpokfmaaaDoor

/-
  ARGUMENTS BEHIND A CALL that wrote nothing that lay there before: each reads as it read.
-/
namespace Go.Proofs.YthlgggcpokfmaaaDoor
open Go.ChangeShapes Go.WideShapes Go.ChangeAt Go.RowKit Go.Proofs.YthlgggcpokfmaaaDoor.Ev
set_option linter.unusedVariables false

theorem laidOut : laidOutB Tryd.prog = true := by kernel_rfl

theorem args_kept {P : Program} (hl : laidOutB P = true) {H : Type} {enc : TypeId × Value → H} {W W' : World} (hb : Below W.heap.size W W') : ∀ (ts : List TypeId) (vs : List Value) (ds : List (DataW H)) (ps : List MemPlace),
    (ts.all fun t => P.readableRec t && decide (t < P.types.size)) = true → DataW.TrodAll enc P W 0 (fun _ => true) true ts vs ds ps → (∀ x ∈ ps, x.block < W.heap.size) →
    DataW.TrodAll enc P W' 0 (fun b => decide (b < W.heap.size)) true ts vs ds ps
  | [], [], [], _, _, h, _ => h
  | t :: ts, v :: vs, d :: ds, _, ht, ⟨p, q, h1, h2, e⟩, hlt => by
    subst e
    rw [List.all_cons, Bool.and_eq_true, Bool.and_eq_true] at ht
    exact ⟨p, q, Below.trod hl ht.1.1 (of_decide_eq_true ht.1.2) h1 hb (fun x hx => hlt x (List.mem_append_left _ hx)),
      args_kept hl hb ts vs ds q ht.2 h2 (fun x hx => hlt x (List.mem_append_right _ hx)), rfl⟩

end Go.Proofs.YthlgggcpokfmaaaDoor

/-
  LISTS OF LIMBS AS ARGUMENTS: what the reading of one says; the abstract heap that holds it (read-only).
-/
namespace Go.Proofs.YthlgggcpokfmaaaDoor
open Go Go.ChangeShapes Go.WideShapes Go.RowKit Go.Proofs.YthlgggcpokfmaaaDoor.Ev
set_option linter.unusedVariables false
noncomputable section
set_option maxRecDepth 20000

theorem bulk_one {H : Type} (d : DataW H) : 1 ≤ Rows.uptoBulk d := by
  cases d with
  | lit l => cases l <;> simp [Rows.uptoBulk]
  | nil => simp [Rows.uptoBulk]
  | ptr d => simp [Rows.uptoBulk]
  | slice elems spare => simp [Rows.uptoBulk]
  | agg parts => simp [Rows.uptoBulk]
  | iface t d => simp [Rows.uptoBulk]
  | map entries => simp [Rows.uptoBulk]
  | held h => simp [Rows.uptoBulk]

theorem bulk_len {H : Type} (l : List (DataW H)) : l.length ≤ Rows.uptoBulkAll l := by
  induction l with
  | nil => simp [Rows.uptoBulkAll]
  | cons x r ih => have := bulk_one x; simp only [Rows.uptoBulkAll, List.length_cons]; omega

theorem bulk_slice {H : Type} (elems spare : List (DataW H)) : elems.length ≤ Rows.uptoBulk (.slice elems spare) := by
  have h1 := bulk_len elems
  simp only [Rows.uptoBulk]
  omega

theorem bulk_part {H : Type} {d : DataW H} {l : List (DataW H)} (h : d ∈ l) : Rows.uptoBulk d ≤ Rows.uptoBulkAll l := by
  induction l with
  | nil => cases h
  | cons x r ih =>
    simp only [Rows.uptoBulkAll]
    cases List.mem_cons.1 h with
    | inl e => subst e; omega
    | inr e => have := ih e; omega

theorem bulk_bound {H : Type} {l : List (DataW H)} (hk : Rows.uptoSmall H l = true) : Rows.uptoBulkAll l ≤ 1048576 := of_decide_eq_true hk

/-- What lies behind an argument's slice. -/
def ArgIs (W : World) (v : Value) (xs : List Nat) : Prop :=
  (v = .slice none 0 0 ∧ xs = []) ∨ ∃ (a : Addr) (cap : Nat), v = .slice (some a) xs.length cap ∧ xs.length ≤ cap ∧ ∀ (i x : Nat), xs[i]? = some x → W.cell? (a.add i) = some (.int .u64 (x : Int))

theorem cU64 : Tryd.prog.cellsOf 65 = 1 := by kernel_rfl

set_option maxRecDepth 20000 in
theorem open_limbs {H : Type} {enc : TypeId × Value → H} {W : World} {r : Reach} {b0 : Nat} {t : TypeId} {v : Value} {d : DataW H} {ps : List MemPlace} (ht : Tryd.prog.underlying t = some (.slice 65)) (hval : Value.okWide Tryd.prog W r b0 t v)
    (h : DataW.Trod enc Tryd.prog W 0 (fun _ => true) true t v d ps) : ∃ xs, Dig 18446744073709551616 xs ∧ xs.length ≤ Rows.uptoBulk d ∧ ArgIs W v xs := by
  obtain ⟨fuel, hf⟩ := h
  obtain ⟨a, len, cap, rfl⟩ := okWide_slice ht hval
  have hc : (Value.slice a len cap).cells.toList = [.slice a len cap] := rfl
  rw [hc] at hf
  rcases Deep.open_slice1 ht cU64 hf with ⟨h1, h2⟩ | ⟨a', len', cap', m, n, V, D, Pl, h1, _, hl, _, hm, hx, hV⟩
  · cases h1
    exact ⟨[], .nil _, Nat.zero_le _, .inl ⟨rfl, rfl⟩⟩
  · cases h1
    rw [if_pos rfl] at hm
    rw [hm] at hx hV
    have hval : ∀ i, i < cap → ∃ x : Nat, V i = .int .u64 (x : Int) ∧ x < 18446744073709551616 := fun i hi => by
      obtain ⟨n', c', x', w'⟩ := DataW.trod_int Tryd.underlying65 (hV i hi).2
      simp at c'
      simp only [Lit.wf, Bool.and_eq_true, decide_eq_true_eq] at w'
      have e1 : IntKind.u64.min = 0 := by decide
      have e2 : IntKind.u64.max = 18446744073709551615 := by decide
      exact ⟨n'.toNat, by rw [c']; congr 1; omega, by omega⟩
    let f : Nat → Nat := fun i => match V i with | .int _ z => z.toNat | _ => 0
    have hfe : ∀ i, i < cap → V i = .int .u64 ((f i : Nat) : Int) ∧ f i < 18446744073709551616 := fun i hi => by
      obtain ⟨x, h1, h2⟩ := hval i hi
      have : f i = x := by show (match V i with | .int _ z => z.toNat | _ => 0) = x; rw [h1]; simp
      rw [this]; exact ⟨h1, h2⟩
    refine ⟨(List.range len).map f, ?_, ?_, .inr ⟨a', cap, by simp, by simpa using hl, ?_⟩⟩
    · intro x hx
      obtain ⟨i, hi, rfl⟩ := List.mem_map.mp hx
      exact (hfe i (Nat.lt_of_lt_of_le (List.mem_range.mp hi) hl)).2
    · simp only [Prod.mk.injEq] at hx
      rw [hx.1]
      have := bulk_slice ((List.range len).map D) ((List.range (cap - len)).map fun j => D (len + j))
      simpa using this
    · intro i x hi
      rw [List.getElem?_map] at hi
      by_cases hil : i < len
      · rw [List.getElem?_range hil] at hi
        cases hi
        have hic : i < cap := Nat.lt_of_lt_of_le hil hl
        rw [(hV i hic).1, (hfe i hic).1]
      · rw [List.getElem?_eq_none (by simp; omega)] at hi
        cases hi

/-- One argument more in the abstract heap. -/
theorem add_arg {W : World} {S : Nat → Prop} {L : Nat → Ev.Loc} {H : AH} (hI : Inv W.heap.size S L H W) {v : Value} {xs : List Nat} (h : ArgIs W v xs) :
    ∃ (S' : Nat → Prop) (L' : Nat → Ev.Loc) (H' : AH) (v0 : Value), Inv W.heap.size S' L' H' W ∧ (∀ i, S i → S' i) ∧ (∀ i, S i → L' i = L i) ∧ VR S' L' v0 v ∧ Sl H' v0 xs ∧ Keep H H' := by
  rcases h with ⟨rfl, rfl⟩ | ⟨a, cap, rfl, hcap, hc⟩
  · exact ⟨S, L, H, .slice none 0 0, hI, fun _ h => h, fun _ _ => rfl, .nilSlice, .nil, .refl H⟩
  · by_cases h0 : xs.length = 0
    · obtain rfl : xs = [] := List.length_eq_zero_iff.mp h0
      exact ⟨S, L, H, _, hI, fun _ h => h, fun _ _ => rfl, .emp 0 a cap, .emp 0, .refl H⟩
    · have hx0 := hc 0 xs[0] (List.getElem?_eq_getElem (by omega))
      have ea : a.add 0 = a := rfl
      rw [ea] at hx0
      have hspot : a.spot = none := by
        unfold World.cell? at hx0
        cases hs : a.spot with
        | none => rfl
        | some q =>
          rw [hs] at hx0
          split at hx0
          · simp at hx0
          · cases hx0
      have hblk : a.block < W.heap.size := World.block_lt_of_cell? W a hx0
      have hadd : ∀ k, a.add k = ⟨a.block, a.off + k, none⟩ := fun k => by
        unfold Addr.add
        by_cases hk : k = 0
        · subst hk; rw [if_pos rfl]
          cases a with
          | mk b o s => simp at hspot; subst hspot; rfl
        · rw [if_neg hk]
      have hn : ∀ i, S i → i ≠ H.n := fun i hi e => by have := hI.bd i hi; omega
      let L' : Nat → Ev.Loc := fun i => if i = H.n then ⟨a.block, a.off, 1, a.off + cap⟩ else L i
      let S' : Nat → Prop := fun i => i = H.n ∨ S i
      have hL : ∀ i, S i → L' i = L i := fun i hi => if_neg (hn i hi)
      have hLn : L' H.n = ⟨a.block, a.off, 1, a.off + cap⟩ := if_pos rfl
      let H' : AH := { n := H.n + 1, lw := H.lw, t := H.t.set H.n (.ro 1 (xs.map fun x : Nat => Value.int .u64 (x : Int))) }
      have hb : ∀ j, H'.blk j = if j = H.n then .ro 1 (xs.map fun x : Nat => Value.int .u64 (x : Int)) else H.blk j := fun j => by
        show (match (H.t.set H.n _).get j with | some b => b | none => Blk.dead) = _
        rw [Tr.get_set]
        by_cases e : j = H.n
        · rw [if_pos e, if_pos e]
        · rw [if_neg e, if_neg e]; rfl
      refine ⟨S', L', H', .slice (some ⟨H.n, 0, none⟩) xs.length xs.length, ⟨?_, ?_, ?_, ?_, hI.base⟩, fun i hi => .inr hi, hL, ?_, ?_, ?_⟩
      · intro i sz cs hi
        rw [hb] at hi
        by_cases e : i = H.n
        · rw [if_pos e] at hi
          cases hi
          subst e
          rw [hLn]
          refine ⟨.inl rfl, hblk, rfl, fun k v hk => ?_⟩
          rw [List.getElem?_map] at hk
          cases hxk : xs[k]? with
          | none => rw [hxk] at hk; cases hk
          | some x =>
            rw [hxk] at hk
            cases hk
            refine ⟨.int .u64 (x : Int), ?_, .int _ _⟩
            have := hc k x hxk
            rwa [hadd k] at this
        · rw [if_neg e] at hi
          obtain ⟨h1, h2, h3, h4⟩ := hI.ro i sz cs hi
          rw [hL i h1]
          refine ⟨.inr h1, h2, h3, fun k v hk => ?_⟩
          obtain ⟨v', h5, h6⟩ := h4 k v hk
          exact ⟨v', h5, h6.mono (fun _ h => .inr h) hL⟩
      · intro i sz cs hi
        rw [hb] at hi
        by_cases e : i = H.n
        · rw [if_pos e] at hi; cases hi
        · rw [if_neg e] at hi
          obtain ⟨h1, h2, h3, C, e', h4, h5, h6⟩ := hI.rw i sz cs hi
          rw [hL i h1]
          refine ⟨.inr h1, h2, h3, C, e', h4, h5, fun k v hk => ?_⟩
          obtain ⟨v', h7, h8⟩ := h6 k v hk
          exact ⟨v', h7, h8.mono (fun _ h => .inr h) hL⟩
      · intro i j sz cs sz' cs' hi hj hg
        rw [hb] at hi hj
        by_cases e : i = H.n
        · rw [if_pos e] at hi; cases hi
        · by_cases e2 : j = H.n
          · rw [if_pos e2] at hj; cases hj
          · rw [if_neg e] at hi
            rw [if_neg e2] at hj
            rw [hL i (hI.rw i _ _ hi).1, hL j (hI.rw j _ _ hj).1] at hg
            exact hI.dj i j _ _ _ _ hi hj hg
      · intro i hi
        rcases hi with hi | hi
        · subst hi; exact Nat.lt_succ_self _
        · exact Nat.lt_succ_of_lt (hI.bd i hi)
      · have hv := VR.slice (S := S') (L := L') H.n 0 xs.length xs.length cap (.inl rfl) hcap (Nat.le_refl _) (by rw [hLn]; simp)
        rw [hLn] at hv
        have e : (some (⟨a.block, a.off + 0, none⟩ : Addr)) = some a := by
          congr 1
          cases a with
          | mk b o s => simp at hspot; subst hspot; rfl
        rw [e] at hv
        exact hv
      · refine .mk H.n 0 xs.length xs (Nat.le_refl _) ⟨Nat.lt_succ_self _, xs.map fun x : Nat => Value.int .u64 (x : Int), ?_, ?_, fun i x hx => ?_, Nat.zero_le _⟩
        · unfold AH.cells; rw [hb, if_pos rfl]
        · unfold AH.size; rw [hb, if_pos rfl]
        · rw [Nat.zero_add, List.getElem?_map, hx]; rfl
      · exact ⟨Nat.le_succ _, Nat.min_le_left _ _, fun j hj => by rw [hb, if_neg (by omega)]⟩

end
end Go.Proofs.YthlgggcpokfmaaaDoor

/-
  EXPRESSIONS AS ARGUMENTS: what the reading of one says; the abstract heap that holds it.
-/
namespace Go.Proofs.YthlgggcpokfmaaaDoor
open Go Go.ChangeShapes Go.WideShapes Go.RowKit Go.Proofs.YthlgggcpokfmaaaDoor.Ev
set_option linter.unusedVariables false
noncomputable section
set_option maxRecDepth 20000

mutual
/-- Cells of an expression, in the world. -/
inductive WEx (W : World) : List Value → ET → Prop
  | mk {op : Int} {neg : Bool} {va vd vx : Value} {abs den : List Nat} {args : List ET} : ArgIs W va abs → ArgIs W vd den → WXs W vx args → WEx W [.int .i64 op, .bool neg, va, vd, vx] (.node op neg abs den args)
inductive WXs (W : World) : Value → List ET → Prop
  | nil : WXs W (.slice none 0 0) []
  | mk (a : Addr) (cap : Nat) {args : List ET} (F : Nat → List Value) : args.length ≤ cap → (∀ i, i < args.length → W.cells? 0 (a.add (i * 5)) 5 = some (F i)) → (∀ (i : Nat) (t : ET), args[i]? = some t → WEx W (F i) t) →
      WXs W (.slice (some a) args.length cap) args
end

instance : Inhabited ET := ⟨.node 0 false [] [] []⟩

set_option maxRecDepth 20000 in
theorem open_limbs_at {H : Type} {enc : TypeId × Value → H} {W : World} {t : TypeId} {fuel : Nat} {cs : List Value} {x : DataW H × List MemPlace} (ht : Tryd.prog.underlying t = some (.slice 65))
    (hf : DataW.trod enc Tryd.prog W 0 (fun _ => true) true fuel t cs = some x) : ∃ v xs, cs = [v] ∧ Dig 18446744073709551616 xs ∧ xs.length ≤ Rows.uptoBulk x.1 ∧ ArgIs W v xs := by
  rcases Deep.open_slice1 ht cU64 hf with ⟨h1, h2⟩ | ⟨a', len', cap', m, n, V, D, Pl, h1, _, hl, _, hm, hx, hV⟩
  · exact ⟨_, [], h1, .nil _, Nat.zero_le _, .inl ⟨rfl, rfl⟩⟩
  · rw [if_pos rfl] at hm
    rw [hm] at hx hV
    have hval : ∀ i, i < cap' → ∃ x : Nat, V i = .int .u64 (x : Int) ∧ x < 18446744073709551616 := fun i hi => by
      obtain ⟨n', c', x', w'⟩ := DataW.trod_int Tryd.underlying65 (hV i hi).2
      simp at c'
      simp only [Lit.wf, Bool.and_eq_true, decide_eq_true_eq] at w'
      have e1 : IntKind.u64.min = 0 := by decide
      have e2 : IntKind.u64.max = 18446744073709551615 := by decide
      exact ⟨n'.toNat, by rw [c']; congr 1; omega, by omega⟩
    let f : Nat → Nat := fun i => match V i with | .int _ z => z.toNat | _ => 0
    have hfe : ∀ i, i < cap' → V i = .int .u64 ((f i : Nat) : Int) ∧ f i < 18446744073709551616 := fun i hi => by
      obtain ⟨x, h1, h2⟩ := hval i hi
      have : f i = x := by show (match V i with | .int _ z => z.toNat | _ => 0) = x; rw [h1]; simp
      rw [this]; exact ⟨h1, h2⟩
    refine ⟨_, (List.range len').map f, h1, ?_, ?_, .inr ⟨a', cap', by simp, by simpa using hl, ?_⟩⟩
    · intro x hx
      obtain ⟨i, hi, rfl⟩ := List.mem_map.mp hx
      exact (hfe i (Nat.lt_of_lt_of_le (List.mem_range.mp hi) hl)).2
    · rw [hx]
      have := bulk_slice ((List.range len').map D) ((List.range (cap' - len')).map fun j => D (len' + j))
      simpa using this
    · intro i x hi
      rw [List.getElem?_map] at hi
      by_cases hil : i < len'
      · rw [List.getElem?_range hil] at hi
        cases hi
        have hic : i < cap' := Nat.lt_of_lt_of_le hil hl
        rw [(hV i hic).1, (hfe i hic).1]
      · rw [List.getElem?_eq_none (by simp; omega)] at hi
        cases hi

theorem uExpr : ∃ f0 f1 f2, Tryd.prog.underlying 32 = some (.struct #[f0, f1, f2]) ∧ f0.type = 23 ∧ f0.offset = 0 ∧ f1.type = 29 ∧ f1.offset = 1 ∧ f2.type = 30 ∧ f2.offset = 4 := ⟨_, _, _, Tryd.underlying32, rfl, rfl, rfl, rfl, rfl, rfl⟩
theorem uRatio : ∃ f0 f1, Tryd.prog.underlying 29 = some (.struct #[f0, f1]) ∧ f0.type = 27 ∧ f0.offset = 0 ∧ f1.type = 25 ∧ f1.offset = 2 := ⟨_, _, Tryd.underlying29, rfl, rfl, rfl, rfl⟩
theorem uWhole : ∃ f0 f1, Tryd.prog.underlying 27 = some (.struct #[f0, f1]) ∧ f0.type = 4 ∧ f0.offset = 0 ∧ f1.type = 25 ∧ f1.offset = 1 := ⟨_, _, Tryd.underlying27, rfl, rfl, rfl, rfl⟩
theorem cExpr : Tryd.prog.cellsOf 32 = 5 := by kernel_rfl
theorem cRatio : Tryd.prog.cellsOf 29 = 3 := by kernel_rfl
theorem cWhole : Tryd.prog.cellsOf 27 = 2 := by kernel_rfl
theorem cNat : Tryd.prog.cellsOf 25 = 1 := by kernel_rfl
theorem cBool : Tryd.prog.cellsOf 4 = 1 := by kernel_rfl
theorem cExprs : Tryd.prog.cellsOf 30 = 1 := by kernel_rfl

theorem nodesAll_map {H : Type} {f : Nat → ET} {D : Nat → DataW H} : ∀ (l : List Nat), (∀ i ∈ l, (f i).nodes ≤ Rows.uptoBulk (D i)) → nodesAll (l.map f) ≤ Rows.uptoBulkAll (l.map D)
  | [], _ => Nat.le_refl _
  | i :: l, h => by
    have h1 := h i (List.mem_cons_self ..)
    have h2 := nodesAll_map l fun j hj => h j (List.mem_cons_of_mem _ hj)
    simp only [List.map_cons, nodesAll, Rows.uptoBulkAll]
    omega
theorem wideAll_map {f : Nat → ET} {L : Nat} : ∀ (l : List Nat), (∀ i ∈ l, (f i).wide L) → wideAll L (l.map f)
  | [], _ => trivial
  | i :: l, h => ⟨h i (List.mem_cons_self ..), wideAll_map l fun j hj => h j (List.mem_cons_of_mem _ hj)⟩

set_option maxRecDepth 20000 in
theorem open_tree {H : Type} {enc : TypeId × Value → H} {W : World} : ∀ (N : Nat) (d : DataW H), Rows.uptoBulk d ≤ N → ∀ (fuel : Nat) (cs : List Value) (ps : List MemPlace), DataW.trod enc Tryd.prog W 0 (fun _ => true) true fuel 32 cs = some (d, ps) →
    ∃ t : ET, WEx W cs t ∧ (∀ L, Rows.uptoBulk d ≤ L → t.wide L) ∧ t.nodes ≤ Rows.uptoBulk d := by
  intro N
  induction N with
  | zero => intro d hd; have := bulk_one d; omega
  | succ N ih =>
    intro d hd fuel cs ps h
    obtain ⟨f0, f1, f2, hu, e1, e2, e3, e4, e5, e6⟩ := uExpr
    obtain ⟨y0, y1, y2, n, hx, hl, h0, h1, h2⟩ := Deep.trod_struct3 hu h
    rw [e1, e2, cOp] at h0
    rw [e3, e4, cRatio] at h1
    rw [e5, e6, cExprs] at h2
    rw [cExpr] at hl
    obtain ⟨g0, g1, hu2, i1, i2, i3, i4⟩ := uRatio
    obtain ⟨z0, z1, n2, hx2, hl2, j0, j1⟩ := trod_struct2 hu2 h1
    rw [i1, i2, cWhole] at j0
    rw [i3, i4, cNat] at j1
    obtain ⟨k0, k1, hu3, m1, m2, m3, m4⟩ := uWhole
    obtain ⟨w0, w1, n3, hx3, hl3, q0, q1⟩ := trod_struct2 hu3 j0
    rw [m1, m2, cBool] at q0
    rw [m3, m4, cNat] at q1
    obtain ⟨op, c0, x0, _⟩ := DataW.trod_int uOp h0
    obtain ⟨neg, cb, xb⟩ := DataW.trod_bool Tryd.underlying4 q0
    obtain ⟨va, abs, ca, da, la, ra⟩ := open_limbs_at uNat q1
    obtain ⟨vd, den, cd, dd, ld, rd⟩ := open_limbs_at uNat j1
    simp only [Prod.mk.injEq] at hx
    obtain ⟨hxd, _⟩ := hx
    have hb1 : Rows.uptoBulk w1.1 + 1 ≤ Rows.uptoBulk z0.1 := by rw [hx3]; simp only [Rows.uptoBulk, Rows.uptoBulkAll]; omega
    have hb2 : Rows.uptoBulk z0.1 + Rows.uptoBulk z1.1 + 1 ≤ Rows.uptoBulk y1.1 := by rw [hx2]; simp only [Rows.uptoBulk, Rows.uptoBulkAll]; omega
    have hb3 : Rows.uptoBulk y1.1 + Rows.uptoBulk y2.1 + 1 ≤ Rows.uptoBulk d := by rw [hxd]; simp only [Rows.uptoBulk, Rows.uptoBulkAll]; omega
    match cs, hl with
    | [a0, a1, a2, a3, a4], _ =>
    simp at c0 cb ca cd h2
    subst c0; subst cb; subst ca; subst cd
    have u : Tryd.prog.underlying 30 = some (.slice 32) := by kernel_rfl
    rcases Deep.open_slice u h2 with ⟨p1, p2⟩ | ⟨a, len, cap, m, nn, D, Pl, p1, _, hlc, _, hm, p2, hV⟩
    · cases p1
      refine ⟨.node op neg abs den [], .mk ra rd .nil, fun L hL => ⟨by omega, by omega, da, dd, trivial⟩, ?_⟩
      simp only [ET.nodes, nodesAll]
      have := bulk_one d
      omega
    · cases p1
      rw [if_pos rfl] at hm
      subst hm
      rw [cExpr] at hV p2
      have hb4 : Rows.uptoBulkAll ((List.range len).map D) + 1 ≤ Rows.uptoBulk y2.1 := by rw [p2]; simp only [Rows.uptoBulk]; omega
      obtain ⟨F, hF⟩ := Deep.choose_lt (α := List Value × ET) (n := len) (p := fun i q => W.cells? 0 (a.add (i * 5)) 5 = some q.1 ∧ WEx W q.1 q.2 ∧ (∀ L, Rows.uptoBulk (D i) ≤ L → q.2.wide L) ∧ q.2.nodes ≤ Rows.uptoBulk (D i)) (fun i hi => by
        obtain ⟨cs', s1, s2⟩ := hV i (Nat.lt_of_lt_of_le hi hlc)
        have hbi : Rows.uptoBulk (D i) ≤ Rows.uptoBulkAll ((List.range len).map D) := bulk_part (List.mem_map.mpr ⟨i, List.mem_range.mpr hi, rfl⟩)
        obtain ⟨t, t1, t2, t3⟩ := ih (D i) (by omega) _ _ _ s2
        exact ⟨(cs', t), s1, t1, t2, t3⟩)
      have hlen : ((List.range len).map fun i => (F i).2).length = len := by simp
      have hw : WXs W (.slice (some a) ((List.range len).map fun i => (F i).2).length m) ((List.range len).map fun i => (F i).2) := by
        refine .mk a m (fun i => (F i).1) (by rw [hlen]; exact hlc) (fun i hi => (hF i (by rwa [hlen] at hi)).1) (fun i t ht => ?_)
        have hi : i < len := by
          rcases Nat.lt_or_ge i len with h | h
          · exact h
          · rw [List.getElem?_eq_none (by rw [hlen]; exact h)] at ht; cases ht
        rw [List.getElem?_map, List.getElem?_range hi] at ht
        cases ht
        exact (hF i hi).2.1
      rw [hlen] at hw
      refine ⟨.node op neg abs den ((List.range len).map fun i => (F i).2), .mk ra rd hw, fun L hL => ⟨by omega, by omega, da, dd, wideAll_map _ fun i hi => ?_⟩, ?_⟩
      · have hi := List.mem_range.mp hi
        have hbi : Rows.uptoBulk (D i) ≤ Rows.uptoBulkAll ((List.range len).map D) := bulk_part (List.mem_map.mpr ⟨i, List.mem_range.mpr hi, rfl⟩)
        exact (hF i hi).2.2.1 L (by omega)
      · have := nodesAll_map (D := D) (f := fun i => (F i).2) (List.range len) fun i hi => (hF i (List.mem_range.mp hi)).2.2.2
        simp only [ET.nodes]
        omega
end
end Go.Proofs.YthlgggcpokfmaaaDoor

/-
  EXPRESSIONS AS ARGUMENTS: the abstract heap that holds one (read-only).
-/
namespace Go.Proofs.YthlgggcpokfmaaaDoor
open Go Go.ChangeShapes Go.WideShapes Go.RowKit Go.Proofs.YthlgggcpokfmaaaDoor.Ev
set_option linter.unusedVariables false
noncomputable section
set_option maxRecDepth 20000

theorem add_block {W : World} {S : Nat → Prop} {L : Nat → Ev.Loc} {H : AH} (hI : Inv W.heap.size S L H W) {g o sz cap : Nat} {cs cs' : List Value} (hg : g < W.heap.size)
    (hc : ∀ (k : Nat) (v' : Value), cs'[k]? = some v' → W.cell? ⟨g, o + k, none⟩ = some v') (hv : VRs S L cs cs') :
    ∃ (S' : Nat → Prop) (L' : Nat → Ev.Loc) (H' : AH), Inv W.heap.size S' L' H' W ∧ (∀ i, S i → S' i) ∧ (∀ i, S i → L' i = L i) ∧ Keep H H' ∧ H'.cells H.n = some cs ∧ S' H.n ∧ L' H.n = ⟨g, o, sz, o + cap * sz⟩ ∧ H'.n = H.n + 1 := by
  have hn : ∀ i, S i → i ≠ H.n := fun i hi e => by have := hI.bd i hi; omega
  let L' : Nat → Ev.Loc := fun i => if i = H.n then ⟨g, o, sz, o + cap * sz⟩ else L i
  let S' : Nat → Prop := fun i => i = H.n ∨ S i
  have hL : ∀ i, S i → L' i = L i := fun i hi => if_neg (hn i hi)
  have hLn : L' H.n = ⟨g, o, sz, o + cap * sz⟩ := if_pos rfl
  let H' : AH := { n := H.n + 1, lw := H.lw, t := H.t.set H.n (.ro sz cs) }
  have hb : ∀ j, H'.blk j = if j = H.n then .ro sz cs else H.blk j := fun j => by
    show (match (H.t.set H.n _).get j with | some b => b | none => Blk.dead) = _
    rw [Tr.get_set]
    by_cases e : j = H.n
    · rw [if_pos e, if_pos e]
    · rw [if_neg e, if_neg e]; rfl
  refine ⟨S', L', H', ⟨?_, ?_, ?_, ?_, hI.base⟩, fun i hi => .inr hi, hL, ?_, ?_, .inl rfl, hLn, rfl⟩
  · intro i sz2 cs2 hi
    rw [hb] at hi
    by_cases e : i = H.n
    · rw [if_pos e] at hi
      cases hi
      subst e
      rw [hLn]
      refine ⟨.inl rfl, hg, rfl, fun k v hk => ?_⟩
      obtain ⟨v', h1, h2⟩ := hv.get hk
      exact ⟨v', hc k v' h1, h2.mono (fun _ h => .inr h) hL⟩
    · rw [if_neg e] at hi
      obtain ⟨h1, h2, h3, h4⟩ := hI.ro i sz2 cs2 hi
      rw [hL i h1]
      refine ⟨.inr h1, h2, h3, fun k v hk => ?_⟩
      obtain ⟨v', h5, h6⟩ := h4 k v hk
      exact ⟨v', h5, h6.mono (fun _ h => .inr h) hL⟩
  · intro i sz2 cs2 hi
    rw [hb] at hi
    by_cases e : i = H.n
    · rw [if_pos e] at hi; cases hi
    · rw [if_neg e] at hi
      obtain ⟨h1, h2, h3, C, e', h4, h5, h6⟩ := hI.rw i sz2 cs2 hi
      rw [hL i h1]
      refine ⟨.inr h1, h2, h3, C, e', h4, h5, fun k v hk => ?_⟩
      obtain ⟨v', h7, h8⟩ := h6 k v hk
      exact ⟨v', h7, h8.mono (fun _ h => .inr h) hL⟩
  · intro i j sz2 cs2 sz' cs' hi hj hg
    rw [hb] at hi hj
    by_cases e : i = H.n
    · rw [if_pos e] at hi; cases hi
    · by_cases e2 : j = H.n
      · rw [if_pos e2] at hj; cases hj
      · rw [if_neg e] at hi
        rw [if_neg e2] at hj
        rw [hL i (hI.rw i _ _ hi).1, hL j (hI.rw j _ _ hj).1] at hg
        exact hI.dj i j _ _ _ _ hi hj hg
  · intro i hi
    rcases hi with hi | hi
    · subst hi; exact Nat.lt_succ_self _
    · exact Nat.lt_succ_of_lt (hI.bd i hi)
  · exact ⟨Nat.le_succ _, Nat.min_le_left _ _, fun j hj => by rw [hb, if_neg (by omega)]⟩
  · unfold AH.cells; rw [hb, if_pos rfl]

theorem flat_len {G : Nat → List Value} : ∀ m, (∀ i, i < m → (G i).length = 5) → (((List.range m).map G).flatten).length = m * 5
  | 0, _ => rfl
  | m + 1, h => by
    rw [List.range_succ, List.map_append, List.flatten_append, List.length_append, flat_len m fun i hi => h i (by omega)]
    simp [h m (by omega)]
    omega

theorem flat_get {G : Nat → List Value} : ∀ m, (∀ i, i < m → (G i).length = 5) → ∀ i, i < m → ((((List.range m).map G).flatten).drop (i * 5)).take 5 = G i
  | 0, _, i, hi => absurd hi (Nat.not_lt_zero i)
  | m + 1, h, i, hi => by
    have hl := flat_len m fun i hi => h i (by omega)
    rw [List.range_succ, List.map_append, List.flatten_append]
    by_cases e : i = m
    · subst e
      rw [List.drop_append_of_le_length (by omega), List.drop_of_length_le (by omega), List.nil_append]
      simp only [List.map_cons, List.map_nil, List.flatten_cons, List.flatten_nil, List.append_nil]
      rw [List.take_of_length_le (by rw [h i (by omega)]; omega)]
    · rw [List.drop_append_of_le_length (by omega), List.take_append_of_le_length (by rw [List.length_drop]; omega)]
      exact flat_get m (fun i hi => h i (by omega)) i (by omega)

theorem flat_cells {W : World} {a : Addr} (hspot : a.spot = none) {F : Nat → List Value} : ∀ m, (∀ i, i < m → W.cells? 0 (a.add (i * 5)) 5 = some (F i)) →
    ∀ (k : Nat) (v' : Value), (((List.range m).map F).flatten)[k]? = some v' → W.cell? ⟨a.block, a.off + k, none⟩ = some v'
  | 0, _, k, v', hk => by simp at hk
  | m + 1, h, k, v', hk => by
    have hadd : ∀ k, a.add k = ⟨a.block, a.off + k, none⟩ := fun k => by
      unfold Addr.add
      by_cases hk : k = 0
      · subst hk; rw [if_pos rfl]
        cases a with
        | mk b o s => simp at hspot; subst hspot; rfl
      · rw [if_neg hk]
    have hF : ∀ i, i < m + 1 → (F i).length = 5 := fun i hi => (World.cells?_some (h i hi)).2.1
    have hl := flat_len m fun i hi => hF i (by omega)
    rw [List.range_succ, List.map_append, List.flatten_append] at hk
    by_cases e : k < m * 5
    · rw [List.getElem?_append_left (by omega)] at hk
      exact flat_cells hspot m (fun i hi => h i (by omega)) k v' hk
    · rw [List.getElem?_append_right (by omega), hl] at hk
      simp only [List.map_cons, List.map_nil, List.flatten_cons, List.flatten_nil, List.append_nil] at hk
      obtain ⟨_, _, h3⟩ := World.cells?_some (h m (by omega))
      have hj : k - m * 5 < 5 := by
        rcases Nat.lt_or_ge (k - m * 5) 5 with h' | h'
        · exact h'
        · rw [List.getElem?_eq_none (by rw [hF m (by omega)]; exact h')] at hk; cases hk
      have := h3 (k - m * 5) hj
      rw [hk, Deep.add_add, hadd, show m * 5 + (k - m * 5) = k by omega] at this
      exact this

theorem VRs_flat {S : Nat → Prop} {L : Nat → Ev.Loc} {G F : Nat → List Value} : ∀ m, (∀ i, i < m → VRs S L (G i) (F i)) → VRs S L ((List.range m).map G).flatten ((List.range m).map F).flatten
  | 0, _ => .nil
  | m + 1, h => by
    rw [List.range_succ, List.map_append, List.flatten_append, List.map_append, List.flatten_append]
    refine (VRs_flat m fun i hi => h i (by omega)).append ?_
    simpa using h m (by omega)

theorem add_tree {W : World} : ∀ (N : Nat) (t : ET), t.nodes ≤ N → ∀ (cs : List Value), WEx W cs t → ∀ {S : Nat → Prop} {L : Nat → Ev.Loc} {H : AH}, Inv W.heap.size S L H W →
    ∃ (S' : Nat → Prop) (L' : Nat → Ev.Loc) (H' : AH) (vs : List Value), Inv W.heap.size S' L' H' W ∧ (∀ i, S i → S' i) ∧ (∀ i, S i → L' i = L i) ∧ VRs S' L' vs cs ∧ Ex H' vs t ∧ Keep H H' := by
  intro N
  induction N with
  | zero => intro t h; have := nodes_pos t; omega
  | succ N ih =>
  intro t ht cs hw S L H hI
  cases hw with
  | @mk op neg va vd vx abs den args ra rd rx =>
  simp only [ET.nodes] at ht
  obtain ⟨S1, L1, H1, wa, I1, s1, l1, r1, q1, k1⟩ := add_arg hI ra
  obtain ⟨S2, L2, H2, wd, I2, s2, l2, r2, q2, k2⟩ := add_arg I1 rd
  -- the arguments
  suffices hx : ∃ (S' : Nat → Prop) (L' : Nat → Ev.Loc) (H' : AH) (wx : Value), Inv W.heap.size S' L' H' W ∧ (∀ i, S2 i → S' i) ∧ (∀ i, S2 i → L' i = L2 i) ∧ VR S' L' wx vx ∧ Xs H' wx args ∧ Keep H2 H' by
    obtain ⟨S3, L3, H3, wx, I3, s3, l3, r3, q3, k3⟩ := hx
    refine ⟨S3, L3, H3, [.int .i64 op, .bool neg, wa, wd, wx], I3, fun i h => s3 i (s2 i (s1 i h)), fun i h => by rw [l3 i (s2 i (s1 i h)), l2 i (s1 i h), l1 i h], ?_, .mk (q1.keep (k2.trans k3)) (q2.keep k3) q3, (k1.trans k2).trans k3⟩
    exact .cons (.int .i64 op) (.cons (.bool neg) (.cons ((r1.mono s2 l2).mono s3 l3) (.cons (r2.mono s3 l3) (.cons r3 .nil))))
  cases rx with
  | nil => exact ⟨S2, L2, H2, .slice none 0 0, I2, fun _ h => h, fun _ _ => rfl, .nilSlice, .nil, .refl _⟩
  | mk a cap F hcap hF hE =>
    by_cases h0 : args.length = 0
    · obtain rfl : args = [] := List.length_eq_zero_iff.mp h0
      exact ⟨S2, L2, H2, .slice (some ⟨0, 0, some 0⟩) 0 0, I2, fun _ h => h, fun _ _ => rfl, .emp 0 a cap, .emp 0, .refl _⟩
    · have hget : ∀ i, i < args.length → args[i]? = some (args.getD i default) := fun i hi => by
        rw [List.getElem?_eq_getElem hi]
        simp [List.getD, List.getElem?_eq_getElem hi]
      have key : ∀ m, m ≤ args.length → ∃ (S' : Nat → Prop) (L' : Nat → Ev.Loc) (H' : AH) (G : Nat → List Value), Inv W.heap.size S' L' H' W ∧ (∀ i, S2 i → S' i) ∧ (∀ i, S2 i → L' i = L2 i) ∧ (∀ i, i < m → VRs S' L' (G i) (F i) ∧ Ex H' (G i) (args.getD i default)) ∧ Keep H2 H' := by
        intro m
        induction m with
        | zero => intro _; exact ⟨S2, L2, H2, fun _ => [], I2, fun _ h => h, fun _ _ => rfl, fun i hi => absurd hi (Nat.not_lt_zero i), .refl _⟩
        | succ m ihm =>
          intro hm
          obtain ⟨S3, L3, H3, G, I3, s3, l3, g3, k3⟩ := ihm (by omega)
          have hm' := hget m (by omega)
          have hn := nodesAll_get hm'
          obtain ⟨S4, L4, H4, vs, I4, s4, l4, r4, q4, k4⟩ := ih (args.getD m default) (by omega) (F m) (hE m _ hm') I3
          refine ⟨S4, L4, H4, fun i => if i = m then vs else G i, I4, fun i h => s4 i (s3 i h), fun i h => by rw [l4 i (s3 i h), l3 i h], fun i hi => ?_, k3.trans k4⟩
          by_cases e : i = m
          · subst e; simp only [if_pos]; exact ⟨r4, q4⟩
          · simp only [if_neg e]
            obtain ⟨g1, g2⟩ := g3 i (by omega)
            exact ⟨g1.mono s4 l4, g2.keep k4⟩
      obtain ⟨S3, L3, H3, G, I3, s3, l3, g3, k3⟩ := key args.length (Nat.le_refl _)
      have hF0 := hF 0 (by omega)
      obtain ⟨_, f1, f2⟩ := World.cells?_some hF0
      have hx0 := f2 0 (by omega)
      rw [Deep.add_add, List.getElem?_eq_getElem (by omega)] at hx0
      have ea : a.add (0 * 5 + 0) = a := rfl
      rw [ea] at hx0
      have hspot : a.spot = none := by
        have hx1 := hx0
        unfold World.cell? at hx1
        cases hs : a.spot with
        | none => rfl
        | some q =>
          rw [hs] at hx1
          split at hx1
          · simp at hx1
          · cases hx1
      have hblk : a.block < W.heap.size := World.block_lt_of_cell? W a hx0
      have hG : ∀ i, i < args.length → (G i).length = 5 := fun i hi => (g3 i hi).2.len
      obtain ⟨S4, L4, H4, I4, s4, l4, k4, c4, sn, ln, n4⟩ := add_block (g := a.block) (o := a.off) (sz := 5) (cap := cap) (cs := ((List.range args.length).map G).flatten) (cs' := ((List.range args.length).map F).flatten) I3 hblk
        (flat_cells hspot args.length hF) (VRs_flat args.length fun i hi => (g3 i hi).1)
      refine ⟨S4, L4, H4, .slice (some ⟨H3.n, 0, none⟩) args.length args.length, I4, fun i h => s4 i (s3 i h), fun i h => by rw [l4 i (s3 i h), l3 i h], ?_, ?_, k3.trans k4⟩
      · have hv := VR.slice (S := S4) (L := L4) H3.n 0 args.length args.length cap sn hcap (Nat.le_refl _) (by rw [ln]; simp)
        rw [ln] at hv
        have e : (some (⟨a.block, a.off + 0, none⟩ : Addr)) = some a := by
          congr 1
          cases a with
          | mk b o s => simp at hspot; subst hspot; rfl
        rw [e] at hv
        exact hv
      · refine .mk H3.n 0 args.length (by omega) c4 (Nat.le_refl _) fun i t hi => ?_
        have hlt : i < args.length := by
          rcases Nat.lt_or_ge i args.length with h' | h'
          · exact h'
          · rw [List.getElem?_eq_none h'] at hi; cases hi
        rw [Nat.zero_add, flat_get args.length hG i hlt]
        have := (g3 i hlt).2.keep k4
        rw [hget i hlt] at hi
        cases hi
        exact this
end
end Go.Proofs.YthlgggcpokfmaaaDoor
