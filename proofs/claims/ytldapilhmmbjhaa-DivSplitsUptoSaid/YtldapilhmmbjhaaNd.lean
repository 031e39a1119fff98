/-
  bits.Len64, LeadingZeros64; nat.Length, nat.From.
-/
import Derived.Test.YtldapilhmmbjhaaNc
namespace Go.Proofs.Ytldapilhmmbjhaa
open Go Ev
set_option linter.unusedVariables false
set_option linter.unusedSimpArgs false
noncomputable section

/-- How many bits. -/
def blen (n : Nat) : Nat := if n = 0 then 0 else Nat.log2 n + 1

theorem blen_lt (n : Nat) : n < 2 ^ blen n := by
  unfold blen
  split
  · omega
  · exact Nat.lt_log2_self

theorem blen_ge {n : Nat} (h : n ≠ 0) : 2 ^ (blen n - 1) ≤ n := by
  unfold blen
  rw [if_neg h]
  exact Nat.log2_self_le h

theorem blen_uniq {n k : Nat} (h1 : n < 2 ^ k) (h2 : k = 0 ∨ 2 ^ (k - 1) ≤ n) : blen n = k := by
  rcases h2 with h2 | h2
  · subst h2
    have : n = 0 := by simpa using h1
    subst this; rfl
  · have hn : n ≠ 0 := by
      have := Nat.two_pow_pos (k - 1); omega
    have a : 2 ^ (blen n - 1) < 2 ^ k := Nat.lt_of_le_of_lt (blen_ge hn) h1
    have b : 2 ^ (k - 1) < 2 ^ blen n := Nat.lt_of_le_of_lt h2 (blen_lt n)
    have a' := (Nat.pow_lt_pow_iff_right (by decide)).mp a
    have b' := (Nat.pow_lt_pow_iff_right (by decide)).mp b
    omega

theorem blen_shift {n k : Nat} (h : 2 ^ k ≤ n) : blen n = k + blen (n / 2 ^ k) := by
  have hk := Nat.two_pow_pos k
  have hq : n / 2 ^ k ≠ 0 := by
    have := Nat.div_pos h hk; omega
  apply blen_uniq
  · rw [Nat.pow_add, Nat.mul_comm]
    have := blen_lt (n / 2 ^ k)
    exact (Nat.div_lt_iff_lt_mul hk).mp this
  · right
    have h1 := blen_ge hq
    have h2 : blen (n / 2 ^ k) ≠ 0 := by unfold blen; rw [if_neg hq]; omega
    rw [show k + blen (n / 2 ^ k) - 1 = (blen (n / 2 ^ k) - 1) + k by omega, Nat.pow_add]
    exact (Nat.le_div_iff_mul_le hk).mp h1

theorem fdiv_nat (x k : Nat) : (x : Int).fdiv (2 ^ k) = ((x / 2 ^ k : Nat) : Int) := by
  rw [Int.fdiv_eq_ediv_of_nonneg _ (Int.le_of_lt (Int.pow_pos (by decide)))]
  rw [Int.natCast_ediv, Int.natCast_pow]; rfl
theorem bits_u64 : IntKind.u64.bits = 64 := rfl
theorem bits_i64 : IntKind.i64.bits = 64 := rfl

def tabOk (s : ByteArray) : Bool := (List.range 256).all fun n => match s[n]? with | some b => Nat.beq b.toNat (blen n) | none => false

theorem tab_spec {s : ByteArray} (h : tabOk s = true) {n : Nat} (hn : n < 256) : indexV Try.prog 9 (.string s) (.int .u8 (n : Int)) = some (.int .u8 (blen n : Int)) := by
  unfold tabOk at h
  rw [List.all_eq_true] at h
  have := h n (List.mem_range.mpr hn)
  split at this
  · rename_i b hb
    have e := Nat.eq_of_beq_eq_true this
    unfold indexV
    simp only [Try.underlying9]
    rw [if_pos (by omega)]
    simp only [Int.toNat_natCast, hb, e]
  · cases this

attribute [local simp] strip stripL LW' gW evOp oMove oAssign oPick oBinOp oUnOp oConvert oExtract oIndexAddr oIndex oLoad oStore oSlice oMakeSlice oCall opd opds optOpd plain plain1 Tr.get_set tmOf builtinV binV isShift sameKind intBin undef resultV resOne packV ltNat ltNum ltLst calleeV shiftBin

theorem len64_spec {x : Nat} {H : AH} (hx : x < B64) :
    CW Try.prog cfg0 45 [.int .u64 (x : Int)] H fun v H' => H' = H ∧ v = .int .i64 (blen x : Int) := by
  have hx : x < 18446744073709551616 := hx
  refine CW_intro 25 (by decide) (by decide) Try.func45 rfl rfl ?_
  apply W_seq; intro b1 hb1
  apply W_region
  simp
  show W _ _ b1 _ _; subst hb1
  refine W_then (fun s => s.k = 25 ∧ s.H = H ∧ ∃ y n : Nat, s.tm.get 0 = some (.int .u64 (y : Int)) ∧ s.tm.get 2 = some (.int .i64 (n : Int)) ∧ y < 4294967296 ∧ n ≤ 32 ∧ blen x = n + blen y) ?_ ?_
  · apply W_seq; intro b1 hb1
    apply W_region
    simp
    show W _ _ b1 _ _; subst hb1
    by_cases h : 4294967296 ≤ x
    · have f1 : (x : Int).fdiv 4294967296 = ((x / 4294967296 : Nat) : Int) := fdiv_nat x 32
      have f2 : blen x = 32 + blen (x / 4294967296) := blen_shift (k := 32) h
      refine W_cond (t := true) (by simp; omega) ?_
      apply W_seq; intro b1 hb1
      apply W_region
      simp [bits_u64, f1]
      show W _ _ b1 _ _; subst hb1
      apply W_region
      simp
      exact ⟨x / 4294967296, rfl, 32, rfl, by omega, by omega, f2⟩
    · refine W_cond (t := false) (by simp; omega) ?_
      apply W_skip
      simp
      exact ⟨x, rfl, 0, rfl, by omega, by omega, by omega⟩
  rintro ⟨k, tm, H'⟩ ⟨h2, h3, y, n, h4, h5, h6, h7, h8⟩
  simp only at h2 h3 h4 h5
  subst h2; subst h3
  refine W_then (fun s => s.k = 25 ∧ s.H = H' ∧ ∃ y n : Nat, s.tm.get 0 = some (.int .u64 (y : Int)) ∧ s.tm.get 2 = some (.int .i64 (n : Int)) ∧ y < 65536 ∧ n ≤ 48 ∧ blen x = n + blen y) ?_ ?_
  · apply W_seq; intro b1 hb1
    apply W_region
    simp [h4, h5]
    show W _ _ b1 _ _; subst hb1
    by_cases h : 65536 ≤ y
    · have f1 : (y : Int).fdiv 65536 = ((y / 65536 : Nat) : Int) := fdiv_nat y 16
      have f2 : blen y = 16 + blen (y / 65536) := blen_shift (k := 16) h
      have hw : IntKind.i64.wrap ((n : Int) + 16) = ((n + 16 : Nat) : Int) := by rw [IntKind.wrap_i64]; omega
      refine W_cond (t := true) (by simp; omega) ?_
      apply W_seq; intro b1 hb1
      apply W_region
      simp [h4, h5, bits_u64, f1]
      show W _ _ b1 _ _; subst hb1
      apply W_region
      simp [h4, h5, hw]
      exact ⟨y / 65536, rfl, n + 16, rfl, by omega, by omega, by omega⟩
    · refine W_cond (t := false) (by simp; omega) ?_
      apply W_skip
      simp [h4, h5]
      exact ⟨y, rfl, n, rfl, by omega, by omega, h8⟩
  rintro ⟨k, tm, H'⟩ ⟨h2, h3, y, n, h4, h5, h6, h7, h8⟩
  simp only at h2 h3 h4 h5
  subst h2; subst h3
  refine W_then (fun s => s.k = 25 ∧ s.H = H' ∧ ∃ y n : Nat, s.tm.get 0 = some (.int .u64 (y : Int)) ∧ s.tm.get 2 = some (.int .i64 (n : Int)) ∧ y < 256 ∧ n ≤ 56 ∧ blen x = n + blen y) ?_ ?_
  · apply W_seq; intro b1 hb1
    apply W_region
    simp [h4, h5]
    show W _ _ b1 _ _; subst hb1
    by_cases h : 256 ≤ y
    · have f1 : (y : Int).fdiv 256 = ((y / 256 : Nat) : Int) := fdiv_nat y 8
      have f2 : blen y = 8 + blen (y / 256) := blen_shift (k := 8) h
      have hw : IntKind.i64.wrap ((n : Int) + 8) = ((n + 8 : Nat) : Int) := by rw [IntKind.wrap_i64]; omega
      refine W_cond (t := true) (by simp; omega) ?_
      apply W_seq; intro b1 hb1
      apply W_region
      simp [h4, h5, bits_u64, f1]
      show W _ _ b1 _ _; subst hb1
      apply W_region
      simp [h4, h5, hw]
      exact ⟨y / 256, rfl, n + 8, rfl, by omega, by omega, by omega⟩
    · refine W_cond (t := false) (by simp; omega) ?_
      apply W_skip
      simp [h4, h5]
      exact ⟨y, rfl, n, rfl, by omega, by omega, h8⟩
  rintro ⟨k, tm, H'⟩ ⟨h2, h3, y, n, h4, h5, h6, h7, h8⟩
  simp only at h2 h3 h4 h5
  subst h2; subst h3
  apply W_seq; intro b1 hb1
  apply W_region
  have hb8 : blen y ≤ 8 := by
    rcases Nat.lt_or_ge 8 (blen y) with h | h
    · have h0 : y ≠ 0 := by rintro rfl; simp [blen] at h
      have a := blen_ge h0
      have b : 2 ^ 8 ≤ 2 ^ (blen y - 1) := Nat.pow_le_pow_right (by decide) (by omega)
      omega
    · exact h
  generalize hs : ByteArray.mk _ = s
  have ht : tabOk s = true := by rw [← hs]; kernel_rfl
  have e1 := tab_spec ht h6
  have e2 : IntKind.u8.wrap (y : Int) = (y : Int) := by rw [IntKind.wrap_u8]; omega
  have e3 : IntKind.i64.wrap (blen y : Int) = (blen y : Int) := wrap_nat (by omega)
  have e4 : IntKind.i64.wrap ((n : Int) + (blen y : Int)) = (blen x : Int) := by rw [IntKind.wrap_i64, h8]; omega
  simp [h4, h5, convV, Try.underlying55, Try.underlying5, Try.underlying3, e1, e2, e3, e4]
  show W _ _ b1 _ _; subst hb1
  apply W_ret
  simp
end
end Go.Proofs.Ytldapilhmmbjhaa
