/-
  surdref01: Limbs, Is, Len, at, Zero.
-/
import Derived.Test.YtldapilhmmbjhaaOb
namespace Go.Proofs.Ytldapilhmmbjhaa
open Go Ev
set_option linter.unusedVariables false
set_option linter.unusedSimpArgs false
noncomputable section

theorem b32_lt {x : Nat} (h : x < b32) : x < B64 := Nat.lt_trans h (by decide)
theorem Dig.to64 {xs : List Nat} (h : Dig b32 xs) : Dig B64 xs := fun x hx => b32_lt (h x hx)

attribute [-simp] Int.natCast_add Int.natCast_mul Int.natCast_ediv Int.natCast_emod Int.natCast_pow
attribute [local simp] strip stripL LW' LR gW evOp oMove oAssign oPick oBinOp oUnOp oConvert oExtract oIndexAddr oIndex oLoad oStore oSlice oMakeSlice oCall oBuildSlice opd opds optOpd plain plain1 Tr.get_set tmOf builtinV binV isShift sameKind undef resultV resOne packV ltNat ltNum ltLst calleeV parts lss_nat unV DW grdOf heapOp LX isStore

theorem limbs_spec {H : AH} {v : Value} {ys : List Nat} (h : Sl H v ys) (dy : Dig b32 ys) (hlen : ys.length ≤ 17592186000000) :
    CW Try.prog cfg0 42 [v] H fun v' H' => Keep H H' ∧ Own H.n H' v' (pairs ys) := by
  refine CW_intro 34 (by decide) (by decide) Try.func42 rfl rfl ?_
  have l0 := h.len ltNum
  apply W_seq; intro b1 hb1
  apply W_region
  simp
  show W _ _ b1 _ _; subst hb1
  apply W_seq; intro b1 hb1
  apply W_region
  simp
  show W _ _ b1 _ _; subst hb1
  apply W_seq; intro b1 hb1
  apply W_seq; intro b2 hb2
  apply W_region
  simp
  show W _ _ b2 _ _; subst hb2
  apply W_block
  refine W_loopK (fun m s' => s'.k = 34 ∧ Keep H s'.H ∧ ∃ (i : Nat) (a : Value) (L : List Nat), m = ys.length - i ∧ i ≤ ys.length + 1 ∧ L.length ≤ i ∧ L ++ pairs (ys.drop i) = pairs ys ∧ Own H.n s'.H a L ∧ s'.tm.get 0 = some v ∧ s'.tm.get 3 = some a ∧ s'.tm.get 4 = some (.int .i64 (i : Int))) ?_ ys.length _
    ⟨rfl, .refl H, 0, .slice none 0 0, [], by omega, by omega, Nat.le_refl _, by simp, .nil, by simp, by simp, by simp⟩
  rintro m ⟨k, tm, H2⟩ ⟨hk, kH, i, a, L, hmi, hiy, hLi, hL, own, t0, t3, t4⟩ Q' hQ'
  simp only at hk kH own t0 t3 t4
  subst hk
  apply W_seq; intro b3 hb3
  apply W_seq; intro b4 hb4
  apply W_region
  simp [t0, t4, l0]
  show W _ _ b4 _ _; subst hb4
  by_cases hi : i < ys.length
  · refine W_cond (t := true) (by simp [hi]) ?_
    apply W_skip
    show W _ _ b3 _ _; subst hb3
    have s2 := h.keep kH
    have a1 := s2.adr ltNum (k := .i64) hi
    have d1 := s2.load hi
    have hx : ys[i] < b32 := dy.get (List.getElem?_eq_getElem hi)
    obtain ⟨x, hxe⟩ : ∃ x, x = ys[i] := ⟨_, rfl⟩
    obtain ⟨w, hw⟩ : ∃ w, w = x + nth ys (i + 1) * 4294967296 := ⟨_, rfl⟩
    have hpd := pairs_drop hi
    rw [← hxe] at d1 hx hpd
    have hpd' : pairs (ys.drop i) = w :: pairs (ys.drop (i + 2)) := by rw [hw]; exact hpd
    have hb := build1_own H2 ltLst w
    have kn := Keep.new H2 1 ([w].map limb)
    have ow := Own.new H2 [w]
    obtain ⟨v', H4, hap, own4, mod4, ka4⟩ := (own.mono (Nat.le_refl _) kn).append (Nat.le_trans kH.n kn.n) ow.sl (by simp; omega) ltLst ltLst
    simp at hap hb
    apply W_seq; intro b3 hb3
    apply W_block
    apply W_seq; intro b4 hb4
    apply W_region
    simp [t0, t4, a1, d1]
    show W _ _ b4 _ _; subst hb4
    refine W_thenK (fun s' => s'.k = 34 ∧ s'.H = H2 ∧ s'.tm.get 0 = some v ∧ s'.tm.get 3 = some a ∧ s'.tm.get 4 = some (.int .i64 (i : Int)) ∧ s'.tm.get 5 = some (.int .u64 (w : Int))) ?_ ?_
    · intro Q'' hQ''
      apply W_seq; intro b4 hb4
      apply W_region
      simp [t0, t4, l0, add1_i64 (x := i) (by omega)]
      show W _ _ b4 _ _; subst hb4
      by_cases hi1 : i + 1 < ys.length
      · refine W_cond (t := true) (by simp [hi1]) ?_
        have a2 := s2.adr ltNum (k := .i64) hi1
        have d2 := s2.load hi1
        have hz : ys[i + 1] < b32 := dy.get (List.getElem?_eq_getElem hi1)
        rw [nth_get hi1] at hw
        obtain ⟨z, hze⟩ : ∃ z, z = ys[i + 1] := ⟨_, rfl⟩
        rw [← hze] at d2 hz hw
        have hz' : z < 4294967296 := hz
        have hx' : x < 4294967296 := hx
        have m1 : intBin .mul .u64 (z : Int) 4294967296 = some (.int .u64 ((z * 4294967296 : Nat) : Int)) := by rw [mulR, Nat.mod_eq_of_lt (by show _ < 18446744073709551616; omega)]
        have m2 : intBin .add .u64 (x : Int) ((z * 4294967296 : Nat) : Int) = some (.int .u64 (w : Int)) := by rw [hw]; exact add_u64_lt (by show _ < 18446744073709551616; omega)
        apply W_region
        simp [t0, t4, add1_i64 (x := i) (by omega), a2, d2, m1, m2]
        apply hQ''
        exact ⟨rfl, rfl, by simp [t0], by simp [t3], by simp [t4], by simp⟩
      · refine W_cond (t := false) (by simp [hi1]) ?_
        apply W_skip
        apply hQ''
        rw [nth_out (by omega), Nat.zero_mul, Nat.add_zero] at hw
        exact ⟨rfl, rfl, by simp [t0], by simp [t3], by simp [t4], by simp [hw]⟩
    clear t0 t3 t4
    rintro ⟨k, tm, H3⟩ ⟨hk, hH, t0, t3, t4, t5⟩
    simp only at hk hH t0 t3 t4 t5
    subst hk; subst hH
    apply W_region
    simp [t3, t5, hb, hap]
    show W _ _ b3 _ _; subst hb3
    apply W_region
    simp [t4, add2_i64 (x := i) (by omega)]
    apply hQ'
    refine ⟨ys.length - (i + 2), by omega, rfl, ka4 H (kH.trans kn) (Nat.le_refl _), i + 2, v', L ++ [w], rfl, by omega, by simp; omega, ?_, own4, by simp [t0], by simp, by simp⟩
    rw [← hL, hpd']; simp
  · refine W_cond (t := false) (by simp [hi]) ?_
    apply W_exit
    apply hQ'
    left
    refine ⟨rfl, ?_⟩
    rw [List.drop_eq_nil_of_le (by omega)] at hL
    simp [pairs] at hL
    show W _ _ b1 _ _; subst hb1
    apply W_seq; intro b4 hb4
    apply W_region
    simp [t3]
    show W _ _ b4 _ _; subst hb4
    apply W_ret
    simp
    rw [← hL]
    exact ⟨kH, own⟩

theorem is_spec {H : AH} {v w : Value} {ys zs : List Nat} (h : Sl H v ys) (hw : Sl H w zs) (dy : Dig b32 ys) (hlen : ys.length ≤ 17592186000000) :
    CW Try.prog cfg0 29 [v, w] H fun v' H' => Keep H H' ∧ v' = .bool (decide (pairs ys = zs)) := by
  refine CW_intro 29 (by decide) (by decide) Try.func29 rfl rfl ?_
  obtain ⟨v1, H1, hc1, k1, o1⟩ := limbs_spec h dy hlen
  have hpl := pairs_len ys
  generalize pairs ys = xs at *
  have s1 := o1.sl
  have s2 := hw.keep k1
  have l1 := s1.len ltLst
  have l2 := s2.len ltLst
  apply W_seq; intro b1 hb1
  apply W_region
  simp
  show W _ _ b1 _ _; subst hb1
  apply W_seq; intro b1 hb1
  apply W_region
  simp [hc1]
  show W _ _ b1 _ _; subst hb1
  apply W_seq; intro b1 hb1
  apply W_seq; intro b2 hb2
  apply W_region
  simp [l1, l2, neq_nat]
  show W _ _ b2 _ _; subst hb2
  by_cases hl : xs.length = zs.length
  · refine W_cond (t := false) (by simp [hl]) ?_
    apply W_skip
    show W _ _ b1 _ _; subst hb1
    apply W_seq; intro b1 hb1
    apply W_seq; intro b2 hb2
    apply W_region
    simp [l1]
    show W _ _ b2 _ _; subst hb2
    apply W_block
    refine W_loopK (fun m s' => s'.k = 29 ∧ s'.H = H1 ∧ ∃ (i : Nat), m + i = xs.length ∧ xs.take i = zs.take i ∧ s'.tm.get 1 = some w ∧ s'.tm.get 5 = some v1 ∧ s'.tm.get 15 = some (.int .i64 (xs.length : Int)) ∧ s'.tm.get 16 = some (.int .i64 (i : Int))) ?_ xs.length _
      ⟨rfl, rfl, 0, by omega, rfl, by simp, by simp, by simp, by simp⟩
    rintro m ⟨k, tm, H2⟩ ⟨hk, hH, i, hmi, he, t1, t5, t15, t16⟩ Q' hQ'
    simp only at hk hH t1 t5 t15 t16
    subst hk; subst hH
    apply W_seq; intro b3 hb3
    apply W_region
    simp [t15, t16]
    show W _ _ b3 _ _; subst hb3
    apply W_seq; intro b3 hb3
    by_cases hi : i < xs.length
    · refine W_cond (t := true) (by simp [hi]) ?_
      apply W_skip
      show W _ _ b3 _ _; subst hb3
      have hi2 : i < zs.length := by omega
      have a1 := s1.adr ltLst (k := .i64) hi
      have d1 := s1.load hi
      have a2 := s2.adr ltLst (k := .i64) hi2
      have d2 := s2.load hi2
      apply W_seq; intro b3 hb3
      apply W_block
      apply W_seq; intro b4 hb4
      apply W_region
      simp [t16]
      show W _ _ b4 _ _; subst hb4
      apply W_seq; intro b4 hb4
      apply W_loads (by kernel_rfl)
      simp [t1, t5, a1, a2, d1, d2, neq_nat]
      show W _ _ b4 _ _; subst hb4
      by_cases hne : xs[i] = zs[i]
      · refine W_cond (t := false) (by simp [hne]) ?_
        apply W_skip
        show W _ _ b3 _ _; subst hb3
        apply W_region
        simp [t16, add1_i64 (x := i) (by omega)]
        apply hQ'
        refine ⟨m - 1, by omega, rfl, rfl, i + 1, by omega, ?_, by simp [t1], by simp [t5], by simp [t15], by simp⟩
        rw [take_snoc hi, take_snoc hi2, he, hne]
      · refine W_cond (t := true) (by simp [hne]) ?_
        apply W_seq; intro b4 hb4
        apply W_region
        simp
        show W _ _ b4 _ _; subst hb4
        apply W_ret
        have hd : xs ≠ zs := by
          intro e
          apply hne
          subst e; rfl
        apply hQ'
        simp [seqQ, blockQ, loopQ, hd]
        exact k1
    · refine W_cond (t := false) (by simp [hi]) ?_
      apply W_exit
      apply hQ'
      left
      refine ⟨rfl, ?_⟩
      obtain rfl : i = xs.length := by omega
      have he' : xs = zs := by rwa [List.take_length, hl, List.take_length] at he
      show W _ _ b1 _ _; subst hb1
      apply W_seq; intro b4 hb4
      apply W_region
      simp
      show W _ _ b4 _ _; subst hb4
      apply W_ret
      simp [he']
      exact k1
  · refine W_cond (t := true) (by simp [hl]) ?_
    apply W_seq; intro b2 hb2
    apply W_region
    simp
    show W _ _ b2 _ _; subst hb2
    apply W_ret
    have hd : xs ≠ zs := fun e => hl (by rw [e])
    simp [seqQ, hd]
    exact k1

theorem zero_spec {H : AH} {v : Value} {ys : List Nat} (h : Sl H v ys) :
    CW Try.prog cfg0 39 [v] H fun v' H' => H' = H ∧ v' = .bool (decide (ys.length = 0)) := by
  refine CW_intro 6 (by decide) (by decide) Try.func39 rfl rfl ?_
  have l1 := h.len ltNum
  apply W_seq; intro b1 hb1
  apply W_region
  simp
  show W _ _ b1 _ _; subst hb1
  apply W_seq; intro b1 hb1
  apply W_region
  simp [l1, eq0_nat]
  show W _ _ b1 _ _; subst hb1
  apply W_ret
  simp

theorem at_spec {H : AH} {v : Value} {ys : List Nat} (h : Sl H v ys) (i : Nat) :
    CW Try.prog cfg0 76 [v, .int .i64 (i : Int)] H fun v' H' => H' = H ∧ v' = .int .u64 (nth ys i : Int) := by
  refine CW_intro 13 (by decide) (by decide) Try.func76 rfl rfl ?_
  have l1 := h.len ltNum
  apply W_seq; intro b1 hb1
  apply W_region
  simp
  show W _ _ b1 _ _; subst hb1
  apply W_seq; intro b1 hb1
  apply W_seq; intro b2 hb2
  apply W_region
  simp [l1]
  show W _ _ b2 _ _; subst hb2
  by_cases hi : i < ys.length
  · refine W_cond (t := true) (by simp [hi]) ?_
    have a1 := h.adr ltNum (k := .i64) hi
    have d1 := h.load hi
    apply W_seq; intro b2 hb2
    apply W_region
    simp [a1, d1]
    show W _ _ b2 _ _; subst hb2
    apply W_ret
    simp [seqQ, nth_get hi]
  · refine W_cond (t := false) (by simp [hi]) ?_
    apply W_skip
    show W _ _ b1 _ _; subst hb1
    apply W_seq; intro b2 hb2
    apply W_region
    simp
    show W _ _ b2 _ _; subst hb2
    apply W_ret
    simp [nth_out (Nat.le_of_not_lt hi)]

theorem at_call {H : AH} {v : Value} {ys : List Nat} (h : Sl H v ys) (i : Nat) : callI Try.prog cfg0 76 [v, .int .i64 (i : Int)] H = some (.int .u64 (nth ys i : Int), H) := by
  obtain ⟨_, _, hc, rfl, rfl⟩ := at_spec h i
  exact hc
end
end Go.Proofs.Ytldapilhmmbjhaa
