/-
  bits.Mul64.
-/
import Derived.Test.YtldapilhmmbjhaaNh
namespace Go.Proofs.Ytldapilhmmbjhaa
open Go Ev
set_option linter.unusedVariables false
set_option linter.unusedSimpArgs false
noncomputable section

theorem and32 {x : Nat} (hx : x < B64) : intBin .and .u64 (x : Int) 4294967295 = some (.int .u64 ((x % 4294967296 : Nat) : Int)) := by
  have := and_u64 (x := x) (y := 4294967295) hx (by decide)
  rw [show x &&& 4294967295 = x % 4294967296 from Nat.and_two_pow_sub_one_eq_mod x 32] at this
  exact this
theorem shr32 {x : Nat} : shiftBin .shr .u64 (x : Int) 32 = some (.int .u64 ((x / 4294967296 : Nat) : Int)) := shr_u64 (x := x) (s := 32) (by omega)

theorem mul64_arith {x y : Nat} (hx : x < B64) (hy : y < B64) :
    let x0 := x % 4294967296; let x1 := x / 4294967296; let y0 := y % 4294967296; let y1 := y / 4294967296
    let w0 := x0 * y0 % B64
    let t := (x1 * y0 % B64 + w0 / 4294967296) % B64
    let w1 := (t % 4294967296 + x0 * y1 % B64) % B64
    ((x1 * y1 % B64 + t / 4294967296) % B64 + w1 / 4294967296) % B64 = x * y / B64 := by
  intro x0 x1 y0 y1 w0 t w1
  have hx : x < 18446744073709551616 := hx
  have hy : y < 18446744073709551616 := hy
  have a0 : x0 ≤ 4294967295 := by show x % 4294967296 ≤ _; omega
  have a1 : x1 ≤ 4294967295 := by show x / 4294967296 ≤ _; omega
  have b0 : y0 ≤ 4294967295 := by show y % 4294967296 ≤ _; omega
  have b1 : y1 ≤ 4294967295 := by show y / 4294967296 ≤ _; omega
  have ex : x = 4294967296 * x1 + x0 := (Nat.div_add_mod x 4294967296).symm
  have ey : y = 4294967296 * y1 + y0 := (Nat.div_add_mod y 4294967296).symm
  have p00 : x0 * y0 ≤ 18446744065119617025 := Nat.mul_le_mul a0 b0
  have p10 : x1 * y0 ≤ 18446744065119617025 := Nat.mul_le_mul a1 b0
  have p01 : x0 * y1 ≤ 18446744065119617025 := Nat.mul_le_mul a0 b1
  have p11 : x1 * y1 ≤ 18446744065119617025 := Nat.mul_le_mul a1 b1
  have e : x * y = 18446744073709551616 * (x1 * y1) + 4294967296 * (x1 * y0) + 4294967296 * (x0 * y1) + x0 * y0 := by
    rw [ex, ey]
    simp only [Nat.mul_add, Nat.add_mul]
    rw [show 4294967296 * x1 * (4294967296 * y1) = 18446744073709551616 * (x1 * y1) by rw [Nat.mul_mul_mul_comm]]
    rw [Nat.mul_assoc 4294967296 x1 y0, Nat.mul_left_comm x0 4294967296 y1]
    omega
  rw [e]
  show ((x1 * y1 % 18446744073709551616 + t / 4294967296) % 18446744073709551616 + w1 / 4294967296) % 18446744073709551616 = _ / 18446744073709551616
  have hw0 : w0 = x0 * y0 := Nat.mod_eq_of_lt (by show _ < 18446744073709551616; omega)
  have ht : t = x1 * y0 + x0 * y0 / 4294967296 := by
    show (x1 * y0 % 18446744073709551616 + w0 / 4294967296) % 18446744073709551616 = _
    rw [hw0]; omega
  have hw1 : w1 = t % 4294967296 + x0 * y1 := by
    show (t % 4294967296 + x0 * y1 % 18446744073709551616) % 18446744073709551616 = _
    omega
  generalize x1 * y1 = p11 at *
  generalize x1 * y0 = p10 at *
  generalize x0 * y1 = p01 at *
  generalize x0 * y0 = p00 at *
  clear_value t w1
  omega

attribute [-simp] Int.natCast_add Int.natCast_mul Int.natCast_ediv Int.natCast_emod Int.natCast_pow
attribute [local simp] strip stripL LW' gW evOp oMove oAssign oPick oBinOp oUnOp oConvert oExtract oIndexAddr oIndex oLoad oStore oSlice oMakeSlice oCall oBuildSlice opd opds optOpd plain plain1 Tr.get_set tmOf builtinV binV isShift sameKind undef resultV resOne packV ltNat ltNum ltLst calleeV parts lss_nat

theorem mul64_spec {x y : Nat} (hx : x < B64) (hy : y < B64) {H : AH} :
    CW Try.prog cfg0 74 [.int .u64 (x : Int), .int .u64 (y : Int)] H fun v H' => H' = H ∧ v = .tuple #[.int .u64 ((x * y / B64 : Nat) : Int), .int .u64 ((x * y % B64 : Nat) : Int)] := by
  refine CW_intro 51 (by decide) (by decide) Try.func74 rfl rfl ?_
  have ht : ∀ z : Nat, z % B64 < B64 := fun z => Nat.mod_lt _ (by decide)
  have key := mul64_arith hx hy
  simp only at key
  iterate 12
    apply W_seq; intro b hb
    apply W_region
    simp [and32 hx, and32 hy, shr32, mul_u64, add_u64, and32 (ht _)]
    show W _ _ b _ _; subst hb
  apply W_ret
  simp
  have key2 := key
  simp only [Nat.mod_add_mod, Nat.add_mod_mod] at key2
  rw [← key2]
end
end Go.Proofs.Ytldapilhmmbjhaa
