/-
  bits.Div64: the walk.
-/
import Derived.Test.YtldapilhmmbjhaaNl
namespace Go.Proofs.Ytldapilhmmbjhaa
open Go Ev
set_option linter.unusedVariables false
set_option linter.unusedSimpArgs false
noncomputable section

theorem eql0 {x : Nat} : intBin .eql .u64 (x : Int) 0 = some (.bool (decide (x = 0))) := eql_nat (y := 0)

theorem conv_int_uint {n : Nat} (h : n < B64) : convV Try.prog 3 75 (.int .i64 (n : Int)) = some (.int .u64 (n : Int)) := by
  have h : n < 18446744073709551616 := h
  have e : IntKind.u64.wrap (n : Int) = (n : Int) := by rw [IntKind.wrap_u64]; omega
  unfold convV
  simp only [Try.underlying3, Try.underlying75, e]

theorem total_div {U N1 N0 b B yn qh u2 ql r3 : Nat} (e1 : yn * qh + u2 = U * b + N1) (e2 : yn * ql + r3 = u2 * b + N0) (hB : B = b * b) : U * B + (N1 * b + N0) = yn * (qh * b + ql) + r3 := by
  subst hB
  have e3 : (yn * qh + u2) * b = (U * b + N1) * b := by rw [e1]
  rw [Nat.add_mul, Nat.add_mul, Nat.mul_assoc, Nat.mul_assoc] at e3
  rw [Nat.mul_add]
  omega

attribute [-simp] Int.natCast_add Int.natCast_mul Int.natCast_ediv Int.natCast_emod Int.natCast_pow
attribute [local simp] strip stripL LW' gW evOp oMove oAssign oPick oBinOp oUnOp oConvert oExtract oIndexAddr oIndex oLoad oStore oSlice oMakeSlice oCall oBuildSlice opd opds optOpd plain plain1 Tr.get_set tmOf builtinV binV isShift sameKind undef resultV resOne packV ltNat ltNum ltLst calleeV parts lss_nat

theorem div64_spec {h l y : Nat} (hh : h < y) (hl : l < B64) (hy : y < B64) {H : AH} :
    CW Try.prog cfg0 55 [.int .u64 (h : Int), .int .u64 (l : Int), .int .u64 (y : Int)] H fun v H' => H' = H ∧ v = .tuple #[.int .u64 (((h * B64 + l) / y : Nat) : Int), .int .u64 (((h * B64 + l) % y : Nat) : Int)] := by
  refine CW_intro 135 (by decide) (by decide) Try.func55 rfl rfl ?_
  have y0 : 0 < y := by omega
  apply W_seq; intro b1 hb1
  apply W_region
  simp
  show W _ _ b1 _ _; subst hb1
  apply W_seq; intro b1 hb1
  apply W_seq; intro b2 hb2
  apply W_region
  simp [eql0]
  show W _ _ b2 _ _; subst hb2
  refine W_cond (t := false) (by simp; omega) ?_
  apply W_skip
  show W _ _ b1 _ _; subst hb1
  apply W_seq; intro b1 hb1
  apply W_seq; intro b2 hb2
  apply W_region
  simp [leq_nat]
  show W _ _ b2 _ _; subst hb2
  refine W_cond (t := false) (by simp; omega) ?_
  apply W_skip
  show W _ _ b1 _ _; subst hb1
  apply W_seq; intro b1 hb1
  apply W_seq; intro b2 hb2
  apply W_region
  simp [eql0]
  show W _ _ b2 _ _; subst hb2
  by_cases h0 : h = 0
  · subst h0
    refine W_cond (t := true) (by simp) ?_
    apply W_seq; intro b2 hb2
    apply W_loads (by kernel_rfl)
    simp [quo_u64 hl y0, rem_u64 (x := l) y0]
    show W _ _ b2 _ _; subst hb2
    apply W_ret
    simp [seqQ]
  · refine W_cond (t := false) (by simp; omega) ?_
    apply W_skip
    show W _ _ b1 _ _; subst hb1
    obtain ⟨v1, H1, hc1, e1, e2⟩ := lz_spec (H := H) hy
    subst e1; subst e2
    have hbl : blen y ≤ 64 := by
      rcases Nat.lt_or_ge 64 (blen y) with h | h
      · have a := blen_ge (n := y) (by omega)
        have b : 2 ^ 64 ≤ 2 ^ (blen y - 1) := Nat.pow_le_pow_right (by decide) (by omega)
        have hy : y < 18446744073709551616 := hy
        omega
      · exact h
    have hbl0 : 0 < blen y := by unfold blen; rw [if_neg (by omega)]; omega
    obtain ⟨s, hs⟩ : ∃ s, s = 64 - blen y := ⟨_, rfl⟩
    have h64 : s < 64 := by omega
    have es : (64 - (blen y : Int)) = (s : Int) := by omega
    rw [es] at hc1
    have ylt : y < 2 ^ (64 - s) := by have := blen_lt y; rwa [show blen y = 64 - s by omega] at this
    have yge : 2 ^ (63 - s) ≤ y := by have := blen_ge (n := y) (by omega); rwa [show blen y - 1 = 63 - s by omega] at this
    apply W_seq; intro b1 hb1
    apply W_region
    simp [hc1, conv_int_uint (n := s) (Nat.lt_trans h64 (by decide))]
    show W _ _ b1 _ _; subst hb1
    -- the numbers
    have eB : B64 = 2 ^ (64 - s) * 2 ^ s := by rw [← Nat.pow_add, show 64 - s + s = 64 by omega]
    obtain ⟨yn, hyn⟩ : ∃ yn, yn = y * 2 ^ s := ⟨_, rfl⟩
    have ynlt : yn < B64 := by rw [hyn, eB]; exact Nat.mul_lt_mul_of_pos_right ylt (Nat.two_pow_pos s)
    have ynge : 9223372036854775808 ≤ yn := by
      have : 2 ^ (63 - s) * 2 ^ s ≤ y * 2 ^ s := Nat.mul_le_mul_right _ yge
      rw [← Nat.pow_add, show 63 - s + s = 63 by omega, ← hyn] at this
      exact this
    have hlow : l / 2 ^ (64 - s) < 2 ^ s := by
      rw [Nat.div_lt_iff_lt_mul (Nat.two_pow_pos _), ← Nat.pow_add, show s + (64 - s) = 64 by omega]
      exact hl
    obtain ⟨u, hu⟩ : ∃ u, u = h * 2 ^ s + l / 2 ^ (64 - s) := ⟨_, rfl⟩
    have hhs : h * 2 ^ s + 2 ^ s ≤ yn := by rw [hyn, ← Nat.succ_mul]; exact Nat.mul_le_mul_right _ hh
    have ult : u < yn := by omega
    obtain ⟨n, hn⟩ : ∃ n, n = l * 2 ^ s % B64 := ⟨_, rfl⟩
    have nlt : n < B64 := by rw [hn]; exact Nat.mod_lt _ (by decide)
    have total : (h * B64 + l) * 2 ^ s = u * B64 + n := by
      have := limb_shift (x := l) h64
      rw [← hn] at this
      rw [Nat.add_mul, this, hu, Nat.add_mul, Nat.mul_comm B64 (l / _), Nat.mul_assoc h, Nat.mul_comm B64, ← Nat.mul_assoc]
      omega
    obtain ⟨y1, hy1⟩ : ∃ y1, y1 = yn / 4294967296 := ⟨_, rfl⟩
    obtain ⟨w0, hw0⟩ : ∃ w0, w0 = yn % 4294967296 := ⟨_, rfl⟩
    have eyn : yn = y1 * 4294967296 + w0 := by omega
    have ynlt' : yn < 18446744073709551616 := ynlt
    have y1lo : 2147483648 ≤ y1 := by omega
    have y1hi : y1 < 4294967296 := by omega
    have w0hi : w0 < 4294967296 := by omega
    obtain ⟨n1, hn1⟩ : ∃ n1, n1 = n / 4294967296 := ⟨_, rfl⟩
    obtain ⟨n0, hn0⟩ : ∃ n0, n0 = n % 4294967296 := ⟨_, rfl⟩
    have nlt' : n < 18446744073709551616 := nlt
    have en : n = n1 * 4294967296 + n0 := by omega
    have n1hi : n1 < 4294967296 := by omega
    have n0hi : n0 < 4294967296 := by omega
    have ulB : u < B64 := Nat.lt_trans ult ynlt
    have hpos := Nat.two_pow_pos s
    have hhB : h * 2 ^ s < B64 := by omega
    have hlB : l / 2 ^ (64 - s) < B64 := Nat.lt_of_le_of_lt (Nat.div_le_self _ _) hl
    -- the operations
    have f8 : shiftBin .shl .u64 (y : Int) (s : Int) = some (.int .u64 (yn : Int)) := by rw [shl_u64 (by omega), ← hyn, Nat.mod_eq_of_lt ynlt]
    have f9 : shiftBin .shr .u64 (yn : Int) 32 = some (.int .u64 (y1 : Int)) := by rw [shr32, ← hy1]
    have f10 : intBin .and .u64 (yn : Int) 4294967295 = some (.int .u64 (w0 : Int)) := by rw [and32 ynlt, ← hw0]
    have f11a : shiftBin .shl .u64 (h : Int) (s : Int) = some (.int .u64 ((h * 2 ^ s : Nat) : Int)) := by rw [shl_u64 (by omega), Nat.mod_eq_of_lt hhB]
    have f11b : intBin .sub .u64 64 (s : Int) = some (.int .u64 ((64 - s : Nat) : Int)) := sub_u64 (x := 64) (by decide) (by omega)
    have f11c : shiftBin .shr .u64 (l : Int) ((64 - s : Nat) : Int) = some (.int .u64 ((l / 2 ^ (64 - s) : Nat) : Int)) := shr_u64 (by omega)
    have f11d : intBin .or .u64 ((h * 2 ^ s : Nat) : Int) ((l / 2 ^ (64 - s) : Nat) : Int) = some (.int .u64 (u : Int)) := by rw [or_u64 hhB hlB, or_add hlow, ← hu]
    have f12 : shiftBin .shl .u64 (l : Int) (s : Int) = some (.int .u64 (n : Int)) := by rw [shl_u64 (by omega), ← hn]
    have f13 : shiftBin .shr .u64 (n : Int) 32 = some (.int .u64 (n1 : Int)) := by rw [shr32, ← hn1]
    have f14 : intBin .and .u64 (n : Int) 4294967295 = some (.int .u64 (n0 : Int)) := by rw [and32 nlt, ← hn0]
    have f15 : intBin .quo .u64 (u : Int) (y1 : Int) = some (.int .u64 ((u / y1 : Nat) : Int)) := quo_u64 ulB (by omega)
    have f16 : ∀ z : Nat, z < B64 → (intBin .mul .u64 ((z / y1 : Nat) : Int) (y1 : Int) = some (.int .u64 ((z / y1 * y1 : Nat) : Int)) ∧ intBin .sub .u64 (z : Int) ((z / y1 * y1 : Nat) : Int) = some (.int .u64 ((z % y1 : Nat) : Int))) := fun z hz => by
      have a := Nat.div_mul_le_self z y1
      refine ⟨by rw [mul_u64, Nat.mod_eq_of_lt (Nat.lt_of_le_of_lt a hz)], ?_⟩
      rw [sub_u64 hz a]
      have := Nat.div_add_mod z y1
      rw [Nat.mul_comm] at this
      rw [show z - z / y1 * y1 = z % y1 by omega]
    iterate 9
      apply W_seq; intro b hb
      apply W_region
      simp [f8, f9, f10, f11a, f11b, f11c, f11d, f12, f13, f14, f15, (f16 u ulB).1, (f16 u ulB).2]
      show W _ _ b _ _; subst hb
    refine W_then (fun s' => s'.k = 135 ∧ s'.H = H1 ∧ s'.tm.get 2 = some (.int .u64 (yn : Int)) ∧ s'.tm.get 8 = some (.int .u64 (s : Int)) ∧ s'.tm.get 9 = some (.int .u64 (y1 : Int)) ∧ s'.tm.get 10 = some (.int .u64 (w0 : Int)) ∧
      s'.tm.get 11 = some (.int .u64 (u : Int)) ∧ s'.tm.get 13 = some (.int .u64 (n1 : Int)) ∧ s'.tm.get 14 = some (.int .u64 (n0 : Int)) ∧ ∃ q : Nat, q = (u * 4294967296 + n1) / (y1 * 4294967296 + w0) ∧ q < 4294967296 ∧ s'.tm.get 15 = some (.int .u64 (q : Int))) ?_ ?_
    · apply W_block
      refine W_loopK (fun m s' => s'.k = 135 ∧ s'.H = H1 ∧ s'.tm.get 2 = some (.int .u64 (yn : Int)) ∧ s'.tm.get 8 = some (.int .u64 (s : Int)) ∧ s'.tm.get 9 = some (.int .u64 (y1 : Int)) ∧ s'.tm.get 10 = some (.int .u64 (w0 : Int)) ∧
        s'.tm.get 11 = some (.int .u64 (u : Int)) ∧ s'.tm.get 13 = some (.int .u64 (n1 : Int)) ∧ s'.tm.get 14 = some (.int .u64 (n0 : Int)) ∧ ∃ r : Nat, Est y1 w0 u n1 m r ∧ s'.tm.get 15 = some (.int .u64 (m : Int)) ∧ s'.tm.get 16 = some (.int .u64 (r : Int))) ?_ (u / y1) _
        ⟨rfl, rfl, by simp, by simp, by simp, by simp, by simp, by simp, by simp, _, est_start y1lo y1hi w0hi (by rw [← eyn]; exact ult) n1hi, by simp, by simp⟩
      rintro q ⟨k, tm, H2⟩ ⟨hk, hH, k2, k8, k9, k10, k11, k13, k14, r, E, tq, tr⟩ Q' hQ'
      simp only at hk hH k2 k8 k9 k10 k11 k13 k14 tq tr
      subst hk; subst hH
      have hqB : q < B64 := Nat.lt_of_le_of_lt E.qhi (by decide)
      have hrB := E.rhi
      apply W_seq; intro b3 hb3
      have qle := E.qhi
      have rB : 4294967296 * r < B64 := by show _ < 18446744073709551616; omega
      have mB : (4294967296 * r + n1) % B64 = 4294967296 * r + n1 := Nat.mod_eq_of_lt (by show _ < 18446744073709551616; omega)
      have key : ∀ tm', W Try.prog cfg0 b3 ⟨135, tm', H2⟩ Q' → W Try.prog cfg0 b3 ⟨135, tm', H2⟩ Q' := fun _ h => h
      have down : estT w0 n1 q r = true → ∀ tm', tm'.get 2 = some (.int .u64 (yn : Int)) → tm'.get 8 = some (.int .u64 (s : Int)) → tm'.get 9 = some (.int .u64 (y1 : Int)) → tm'.get 10 = some (.int .u64 (w0 : Int)) →
        tm'.get 11 = some (.int .u64 (u : Int)) → tm'.get 13 = some (.int .u64 (n1 : Int)) → tm'.get 14 = some (.int .u64 (n0 : Int)) → tm'.get 15 = some (.int .u64 (q : Int)) → tm'.get 16 = some (.int .u64 (r : Int)) → W Try.prog cfg0 b3 ⟨135, tm', H2⟩ Q' := fun ht tm' k2 k8 k9 k10 k11 k13 k14 tq tr => by
        obtain ⟨q0, e1, ge1, q1⟩ := E.down ht
        have f1 : intBin .sub .u64 (q : Int) 1 = some (.int .u64 ((q - 1 : Nat) : Int)) := sub1_u64 hqB q0
        have f2 : intBin .add .u64 (r : Int) (y1 : Int) = some (.int .u64 ((r + y1 : Nat) : Int)) := by rw [add_u64, Nat.mod_eq_of_lt (by show _ < 18446744073709551616; omega)]
        subst hb3
        apply W_block
        apply W_seq; intro b4 hb4
        apply W_region
        simp [tq, f1]
        show W _ _ b4 _ _; subst hb4
        apply W_seq; intro b4 hb4
        apply W_region
        simp [tr, k9, f2]
        show W _ _ b4 _ _; subst hb4
        apply W_seq; intro b4 hb4
        apply W_region
        simp [geqL]
        show W _ _ b4 _ _; subst hb4
        by_cases hr : 4294967296 ≤ r + y1
        · refine W_cond (t := true) (by simp [hr]) ?_
          apply W_exit
          right
          refine ⟨by decide, ?_⟩
          apply hQ'
          left
          have := est_break y1lo w0hi E.uhi E.dhi e1 ge1 hr q1
          exact ⟨rfl, rfl, rfl, rfl, by simp [k2], by simp [k8], by simp [k9], by simp [k10], by simp [k11], by simp [k13], by simp [k14], q - 1, this.1, this.2, by simp⟩
        · refine W_cond (t := false) (by simp [hr]) ?_
          apply W_skip
          apply hQ'
          exact ⟨q - 1, by omega, rfl, rfl, by simp [k2], by simp [k8], by simp [k9], by simp [k10], by simp [k11], by simp [k13], by simp [k14], r + y1, ⟨y1lo, y1hi, w0hi, E.uhi, E.dhi, e1, ge1, by omega, by omega⟩, by simp, by simp⟩
      apply W_seq; intro b4 hb4
      apply W_region
      by_cases hq : 4294967296 ≤ q
      · simp [tq, geqL, hq]
        show W _ _ b4 _ _; subst hb4
        refine W_cond (t := true) (by simp) ?_
        apply W_skip
        show W _ _ b3 _ _
        exact down (by simp [estT, hq]) _ (by simp [k2]) (by simp [k8]) (by simp [k9]) (by simp [k10]) (by simp [k11]) (by simp [k13]) (by simp [k14]) (by simp [tq]) (by simp [tr])
      · have hqw : q * w0 < B64 := by
          have a : q * w0 ≤ 4294967295 * w0 := Nat.mul_le_mul_right _ (by omega)
          show _ < 18446744073709551616
          omega
        have g1 : intBin .mul .u64 (q : Int) (w0 : Int) = some (.int .u64 ((q * w0 : Nat) : Int)) := by rw [mul_u64, Nat.mod_eq_of_lt hqw]
        have g2 : intBin .mul .u64 4294967296 (r : Int) = some (.int .u64 ((4294967296 * r : Nat) : Int)) := by rw [mulL, Nat.mod_eq_of_lt rB]
        have g3 : intBin .add .u64 ((4294967296 * r : Nat) : Int) (n1 : Int) = some (.int .u64 ((4294967296 * r + n1 : Nat) : Int)) := by rw [add_u64, mB]
        simp [tq, geqL, hq, tr, k10, k13, g1, g2, g3, gtr_nat]
        show W _ _ b4 _ _; subst hb4
        by_cases ht : 4294967296 * r + n1 < q * w0
        · refine W_cond (t := true) (by simp [ht]) ?_
          apply W_skip
          show W _ _ b3 _ _
          exact down (by simp [estT, ht]) _ (by simp [k2]) (by simp [k8]) (by simp [k9]) (by simp [k10]) (by simp [k11]) (by simp [k13]) (by simp [k14]) (by simp [tq]) (by simp [tr])
        · refine W_cond (t := false) (by simp [ht]) ?_
          apply W_exit
          apply hQ'
          left
          have := E.stop (by simp [estT, ht]; omega)
          exact ⟨rfl, rfl, rfl, rfl, by simp [k2], by simp [k8], by simp [k9], by simp [k10], by simp [k11], by simp [k13], by simp [k14], q, this.1, this.2, by simp [tq]⟩
    rintro ⟨k, tm, H2⟩ ⟨hk, hH, k2, k8, k9, k10, k11, k13, k14, qh, hqh, hqlt, k15⟩
    simp only at hk hH k2 k8 k9 k10 k11 k13 k14 k15
    subst hk; subst hH
    have ynpos : 0 < yn := by omega
    obtain ⟨u2, hu2⟩ : ∃ u2, u2 = (u * 4294967296 + n1) % yn := ⟨_, rfl⟩
    have u2lt : u2 < yn := by rw [hu2]; exact Nat.mod_lt _ ynpos
    have u2B : u2 < B64 := Nat.lt_trans u2lt ynlt
    rw [← eyn] at hqh
    have hrest := rest_mod (u := u) (b := 4294967296) (d := n1) (q := qh) ynlt ynpos hqh
    rw [← hu2] at hrest
    obtain ⟨pa, hpa⟩ : ∃ pa, pa = u * 4294967296 % B64 := ⟨_, rfl⟩
    obtain ⟨pb, hpb⟩ : ∃ pb, pb = (pa + n1) % B64 := ⟨_, rfl⟩
    obtain ⟨pc, hpc⟩ : ∃ pc, pc = qh * yn % B64 := ⟨_, rfl⟩
    rw [← hpa, ← hpb, ← hpc] at hrest
    have g21 : intBin .mul .u64 (u : Int) 4294967296 = some (.int .u64 (pa : Int)) := by rw [mulR, hpa]
    have g21a : intBin .add .u64 (pa : Int) (n1 : Int) = some (.int .u64 (pb : Int)) := by rw [add_u64, hpb]
    have g21b : intBin .mul .u64 (qh : Int) (yn : Int) = some (.int .u64 (pc : Int)) := by rw [mul_u64, hpc]
    have g21c : intBin .sub .u64 (pb : Int) (pc : Int) = some (.int .u64 (u2 : Int)) := by
      rw [subm_u64 (by rw [hpc]; exact Nat.le_of_lt (Nat.mod_lt _ (by decide))), hrest]
    have g22 : intBin .quo .u64 (u2 : Int) (y1 : Int) = some (.int .u64 ((u2 / y1 : Nat) : Int)) := quo_u64 u2B (by omega)
    apply W_seq; intro b hb
    apply W_region
    simp [k11, k13, k15, k2, g21, g21a, g21b, g21c]
    show W _ _ b _ _; subst hb
    apply W_seq; intro b hb
    apply W_region
    simp [k9, g22]
    show W _ _ b _ _; subst hb
    apply W_seq; intro b hb
    apply W_region
    simp [k9, (f16 u2 u2B).1, (f16 u2 u2B).2]
    show W _ _ b _ _; subst hb
    refine W_then (fun s' => s'.k = 135 ∧ s'.H = H2 ∧ s'.tm.get 2 = some (.int .u64 (yn : Int)) ∧ s'.tm.get 8 = some (.int .u64 (s : Int)) ∧ s'.tm.get 9 = some (.int .u64 (y1 : Int)) ∧ s'.tm.get 10 = some (.int .u64 (w0 : Int)) ∧
      s'.tm.get 11 = some (.int .u64 (u : Int)) ∧ s'.tm.get 13 = some (.int .u64 (n1 : Int)) ∧ s'.tm.get 14 = some (.int .u64 (n0 : Int)) ∧ s'.tm.get 15 = some (.int .u64 (qh : Int)) ∧ s'.tm.get 17 = some (.int .u64 (u2 : Int)) ∧ ∃ q : Nat, q = (u2 * 4294967296 + n0) / (y1 * 4294967296 + w0) ∧ q < 4294967296 ∧ s'.tm.get 18 = some (.int .u64 (q : Int))) ?_ ?_
    · apply W_block
      refine W_loopK (fun m s' => s'.k = 135 ∧ s'.H = H2 ∧ s'.tm.get 2 = some (.int .u64 (yn : Int)) ∧ s'.tm.get 8 = some (.int .u64 (s : Int)) ∧ s'.tm.get 9 = some (.int .u64 (y1 : Int)) ∧ s'.tm.get 10 = some (.int .u64 (w0 : Int)) ∧
        s'.tm.get 11 = some (.int .u64 (u : Int)) ∧ s'.tm.get 13 = some (.int .u64 (n1 : Int)) ∧ s'.tm.get 14 = some (.int .u64 (n0 : Int)) ∧ s'.tm.get 15 = some (.int .u64 (qh : Int)) ∧ s'.tm.get 17 = some (.int .u64 (u2 : Int)) ∧ ∃ r : Nat, Est y1 w0 u2 n0 m r ∧ s'.tm.get 18 = some (.int .u64 (m : Int)) ∧ s'.tm.get 16 = some (.int .u64 (r : Int))) ?_ (u2 / y1) _
        ⟨rfl, rfl, by simp [k2], by simp [k8], by simp [k9], by simp [k10], by simp [k11], by simp [k13], by simp [k14], by simp [k15], by simp, _, est_start y1lo y1hi w0hi (by rw [← eyn]; exact u2lt) n0hi, by simp, by simp⟩
      clear k2 k8 k9 k10 k11 k13 k14 k15
      rintro q ⟨k, tm, H3⟩ ⟨hk, hH, k2, k8, k9, k10, k11, k13, k14, k15, k17, r, E, tq, tr⟩ Q' hQ'
      simp only at hk hH k2 k8 k9 k10 k11 k13 k14 k15 k17 tq tr
      subst hk; subst hH
      have hqB : q < B64 := Nat.lt_of_le_of_lt E.qhi (by decide)
      have hrB := E.rhi
      apply W_seq; intro b3 hb3
      have qle := E.qhi
      have rB : 4294967296 * r < B64 := by show _ < 18446744073709551616; omega
      have mB : (4294967296 * r + n0) % B64 = 4294967296 * r + n0 := Nat.mod_eq_of_lt (by show _ < 18446744073709551616; omega)
      have key : ∀ tm', W Try.prog cfg0 b3 ⟨135, tm', H3⟩ Q' → W Try.prog cfg0 b3 ⟨135, tm', H3⟩ Q' := fun _ h => h
      have down : estT w0 n0 q r = true → ∀ tm', tm'.get 2 = some (.int .u64 (yn : Int)) → tm'.get 8 = some (.int .u64 (s : Int)) → tm'.get 9 = some (.int .u64 (y1 : Int)) → tm'.get 10 = some (.int .u64 (w0 : Int)) →
        tm'.get 11 = some (.int .u64 (u : Int)) → tm'.get 13 = some (.int .u64 (n1 : Int)) → tm'.get 14 = some (.int .u64 (n0 : Int)) → tm'.get 15 = some (.int .u64 (qh : Int)) → tm'.get 17 = some (.int .u64 (u2 : Int)) → tm'.get 18 = some (.int .u64 (q : Int)) → tm'.get 16 = some (.int .u64 (r : Int)) → W Try.prog cfg0 b3 ⟨135, tm', H3⟩ Q' := fun ht tm' k2 k8 k9 k10 k11 k13 k14 k15 k17 tq tr => by
        obtain ⟨q0, e1, ge1, q1⟩ := E.down ht
        have f1 : intBin .sub .u64 (q : Int) 1 = some (.int .u64 ((q - 1 : Nat) : Int)) := sub1_u64 hqB q0
        have f2 : intBin .add .u64 (r : Int) (y1 : Int) = some (.int .u64 ((r + y1 : Nat) : Int)) := by rw [add_u64, Nat.mod_eq_of_lt (by show _ < 18446744073709551616; omega)]
        subst hb3
        apply W_block
        apply W_seq; intro b4 hb4
        apply W_region
        simp [tq, f1]
        show W _ _ b4 _ _; subst hb4
        apply W_seq; intro b4 hb4
        apply W_region
        simp [tr, k9, f2]
        show W _ _ b4 _ _; subst hb4
        apply W_seq; intro b4 hb4
        apply W_region
        simp [geqL]
        show W _ _ b4 _ _; subst hb4
        by_cases hr : 4294967296 ≤ r + y1
        · refine W_cond (t := true) (by simp [hr]) ?_
          apply W_exit
          right
          refine ⟨by decide, ?_⟩
          apply hQ'
          left
          have := est_break y1lo w0hi E.uhi E.dhi e1 ge1 hr q1
          exact ⟨rfl, rfl, rfl, rfl, by simp [k2], by simp [k8], by simp [k9], by simp [k10], by simp [k11], by simp [k13], by simp [k14], by simp [k15], by simp [k17], q - 1, this.1, this.2, by simp⟩
        · refine W_cond (t := false) (by simp [hr]) ?_
          apply W_skip
          apply hQ'
          exact ⟨q - 1, by omega, rfl, rfl, by simp [k2], by simp [k8], by simp [k9], by simp [k10], by simp [k11], by simp [k13], by simp [k14], by simp [k15], by simp [k17], r + y1, ⟨y1lo, y1hi, w0hi, E.uhi, E.dhi, e1, ge1, by omega, by omega⟩, by simp, by simp⟩
      apply W_seq; intro b4 hb4
      apply W_region
      by_cases hq : 4294967296 ≤ q
      · simp [tq, geqL, hq]
        show W _ _ b4 _ _; subst hb4
        refine W_cond (t := true) (by simp) ?_
        apply W_skip
        show W _ _ b3 _ _
        exact down (by simp [estT, hq]) _ (by simp [k2]) (by simp [k8]) (by simp [k9]) (by simp [k10]) (by simp [k11]) (by simp [k13]) (by simp [k14]) (by simp [k15]) (by simp [k17]) (by simp [tq]) (by simp [tr])
      · have hqw : q * w0 < B64 := by
          have a : q * w0 ≤ 4294967295 * w0 := Nat.mul_le_mul_right _ (by omega)
          show _ < 18446744073709551616
          omega
        have g1 : intBin .mul .u64 (q : Int) (w0 : Int) = some (.int .u64 ((q * w0 : Nat) : Int)) := by rw [mul_u64, Nat.mod_eq_of_lt hqw]
        have g2 : intBin .mul .u64 4294967296 (r : Int) = some (.int .u64 ((4294967296 * r : Nat) : Int)) := by rw [mulL, Nat.mod_eq_of_lt rB]
        have g3 : intBin .add .u64 ((4294967296 * r : Nat) : Int) (n0 : Int) = some (.int .u64 ((4294967296 * r + n0 : Nat) : Int)) := by rw [add_u64, mB]
        simp [tq, geqL, hq, tr, k10, k14, g1, g2, g3, gtr_nat]
        show W _ _ b4 _ _; subst hb4
        by_cases ht : 4294967296 * r + n0 < q * w0
        · refine W_cond (t := true) (by simp [ht]) ?_
          apply W_skip
          show W _ _ b3 _ _
          exact down (by simp [estT, ht]) _ (by simp [k2]) (by simp [k8]) (by simp [k9]) (by simp [k10]) (by simp [k11]) (by simp [k13]) (by simp [k14]) (by simp [k15]) (by simp [k17]) (by simp [tq]) (by simp [tr])
        · refine W_cond (t := false) (by simp [ht]) ?_
          apply W_exit
          apply hQ'
          left
          have := E.stop (by simp [estT, ht]; omega)
          exact ⟨rfl, rfl, rfl, rfl, by simp [k2], by simp [k8], by simp [k9], by simp [k10], by simp [k11], by simp [k13], by simp [k14], by simp [k15], by simp [k17], q, this.1, this.2, by simp [tq]⟩
    rintro ⟨k, tm, H3⟩ ⟨hk, hH, k2, k8, k9, k10, k11, k13, k14, k15, k17, ql, hql, hqllt, k18⟩
    simp only at hk hH k2 k8 k9 k10 k11 k13 k14 k15 k17 k18
    subst hk; subst hH
    rw [← eyn] at hql
    obtain ⟨r3, hr3⟩ : ∃ r3, r3 = (u2 * 4294967296 + n0) % yn := ⟨_, rfl⟩
    have r3lt : r3 < yn := by rw [hr3]; exact Nat.mod_lt _ ynpos
    have hrest2 := rest_mod (u := u2) (b := 4294967296) (d := n0) (q := ql) ynlt ynpos hql
    obtain ⟨pd, hpd⟩ : ∃ pd, pd = u2 * 4294967296 % B64 := ⟨_, rfl⟩
    obtain ⟨pe, hpe⟩ : ∃ pe, pe = (pd + n0) % B64 := ⟨_, rfl⟩
    obtain ⟨pf, hpf⟩ : ∃ pf, pf = ql * yn % B64 := ⟨_, rfl⟩
    rw [← hr3, ← hpd, ← hpe, ← hpf] at hrest2
    have j1 : intBin .mul .u64 (qh : Int) 4294967296 = some (.int .u64 ((qh * 4294967296 : Nat) : Int)) := by rw [mulR, Nat.mod_eq_of_lt (by show _ < 18446744073709551616; omega)]
    have j2 : intBin .add .u64 ((qh * 4294967296 : Nat) : Int) (ql : Int) = some (.int .u64 ((qh * 4294967296 + ql : Nat) : Int)) := by rw [add_u64, Nat.mod_eq_of_lt (by show _ < 18446744073709551616; omega)]
    have j3 : intBin .mul .u64 (u2 : Int) 4294967296 = some (.int .u64 (pd : Int)) := by rw [mulR, hpd]
    have j4 : intBin .add .u64 (pd : Int) (n0 : Int) = some (.int .u64 (pe : Int)) := by rw [add_u64, hpe]
    have j5 : intBin .mul .u64 (ql : Int) (yn : Int) = some (.int .u64 (pf : Int)) := by rw [mul_u64, hpf]
    have j6 : intBin .sub .u64 (pe : Int) (pf : Int) = some (.int .u64 (r3 : Int)) := by
      rw [subm_u64 (by rw [hpf]; exact Nat.le_of_lt (Nat.mod_lt _ (by decide))), hrest2]
    have j7 : shiftBin .shr .u64 (r3 : Int) (s : Int) = some (.int .u64 ((r3 / 2 ^ s : Nat) : Int)) := shr_u64 (by omega)
    have all : (h * B64 + l) * 2 ^ s = yn * (qh * 4294967296 + ql) + r3 := by
      have e1 := Nat.div_add_mod (u * 4294967296 + n1) yn
      rw [← hqh, ← hu2] at e1
      have e2 := Nat.div_add_mod (u2 * 4294967296 + n0) yn
      rw [← hql, ← hr3] at e2
      rw [total, en]
      exact total_div e1 e2 (by decide)
    have hquo : (h * B64 + l) / y = qh * 4294967296 + ql := by
      rw [← Nat.mul_div_mul_right _ _ (Nat.two_pow_pos s), all, ← hyn, Nat.add_comm, Nat.add_mul_div_left _ _ ynpos, Nat.div_eq_of_lt r3lt, Nat.zero_add]
    have hrem : (h * B64 + l) % y = r3 / 2 ^ s := by
      have : (h * B64 + l) % y * 2 ^ s = r3 := by
        rw [← Nat.mul_mod_mul_right, all, ← hyn, Nat.add_comm, Nat.add_mul_mod_self_left, Nat.mod_eq_of_lt r3lt]
      rw [← this, Nat.mul_div_cancel _ (Nat.two_pow_pos s)]
    rw [hquo, hrem]
    apply W_seq; intro b hb
    apply W_region
    simp [k2, k8, k14, k15, k17, k18, j1, j2, j3, j4, j5, j6, j7]
    show W _ _ b _ _; subst hb
    apply W_ret
    simp
end
end Go.Proofs.Ytldapilhmmbjhaa
