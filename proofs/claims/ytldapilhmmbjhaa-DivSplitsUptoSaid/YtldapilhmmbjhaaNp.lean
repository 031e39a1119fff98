/-
  PLAIN NUMBERS: lists of digits by any base, the least first: their value (dv), a number's digits (ds), without noughts at the top (trimL). No program in sight.
-/
import Derived.KernelRfl
namespace Go.Proofs.Ytldapilhmmbjhaa
set_option linter.unusedVariables false
set_option linter.unusedSimpArgs false

def trimL : List Nat → List Nat
  | [] => []
  | x :: xs => match trimL xs with
    | [] => if x = 0 then [] else [x]
    | y :: ys => x :: y :: ys

theorem trimL_snoc0 : ∀ (xs : List Nat), trimL (xs ++ [0]) = trimL xs
  | [] => rfl
  | x :: xs => by simp [trimL, trimL_snoc0 xs]

theorem trimL_snoc : ∀ (xs : List Nat) (x : Nat), x ≠ 0 → trimL (xs ++ [x]) = xs ++ [x]
  | [], x, h => by simp [trimL, h]
  | y :: xs, x, h => by
    have := trimL_snoc xs x h
    simp only [List.cons_append, trimL, this]
    cases xs <;> rfl

theorem trimL_len (xs : List Nat) : (trimL xs).length ≤ xs.length := by
  induction xs with
  | nil => simp [trimL]
  | cons x xs ih =>
    simp only [trimL]
    split
    · split <;> simp
    · rename_i y ys e
      rw [e] at ih
      simp at ih ⊢
      exact ih

/-- Digits below the base. -/
def Dig (B : Nat) (xs : List Nat) : Prop := ∀ x ∈ xs, x < B

theorem Dig.nil (B : Nat) : Dig B [] := fun x h => by cases h
theorem Dig.cons {B x : Nat} {xs : List Nat} (h : x < B) (hs : Dig B xs) : Dig B (x :: xs) := fun y hy => by
  rcases List.mem_cons.mp hy with e | e
  · rw [e]; exact h
  · exact hs y e
theorem Dig.tail {B x : Nat} {xs : List Nat} (h : Dig B (x :: xs)) : Dig B xs := fun y hy => h y (List.mem_cons_of_mem _ hy)
theorem Dig.head {B x : Nat} {xs : List Nat} (h : Dig B (x :: xs)) : x < B := h x (List.mem_cons_self ..)
theorem Dig.append {B : Nat} {xs ys : List Nat} (h : Dig B xs) (h' : Dig B ys) : Dig B (xs ++ ys) := fun y hy => by
  rcases List.mem_append.mp hy with e | e
  · exact h y e
  · exact h' y e
theorem Dig.get {B : Nat} {xs : List Nat} (h : Dig B xs) {i x : Nat} (hi : xs[i]? = some x) : x < B := h x (List.mem_of_getElem? hi)
theorem Dig.take {B : Nat} {xs : List Nat} (h : Dig B xs) (n : Nat) : Dig B (xs.take n) := fun y hy => h y (List.mem_of_mem_take hy)
theorem Dig.drop {B : Nat} {xs : List Nat} (h : Dig B xs) (n : Nat) : Dig B (xs.drop n) := fun y hy => h y (List.mem_of_mem_drop hy)

/-- The value. -/
def dv (B : Nat) : List Nat → Nat
  | [] => 0
  | x :: xs => x + B * dv B xs

theorem dv_append (B : Nat) : ∀ (xs ys : List Nat), dv B (xs ++ ys) = dv B xs + B ^ xs.length * dv B ys
  | [], ys => by simp [dv]
  | x :: xs, ys => by simp only [List.cons_append, dv, dv_append B xs ys, List.length_cons, Nat.pow_succ, Nat.mul_add]; rw [Nat.add_assoc, ← Nat.mul_assoc, Nat.mul_comm B (B ^ _)]

theorem dv_lt {B : Nat} : ∀ {xs : List Nat}, Dig B xs → dv B xs < B ^ xs.length
  | [], _ => by simp [dv]
  | x :: xs, h => by
    have h1 := h.head
    have h2 := dv_lt h.tail
    simp only [dv, List.length_cons, Nat.pow_succ]
    have : B * dv B xs + B ≤ B * B ^ xs.length := by rw [← Nat.mul_succ]; exact Nat.mul_le_mul_left _ h2
    rw [Nat.mul_comm (B ^ _) B]
    omega

theorem dv_zeros (B : Nat) : ∀ n, dv B (List.replicate n 0) = 0
  | 0 => rfl
  | n + 1 => by simp [List.replicate_succ, dv, dv_zeros B n]

theorem dv_trimL (B : Nat) : ∀ (xs : List Nat), dv B (trimL xs) = dv B xs
  | [] => rfl
  | x :: xs => by
    have ih := dv_trimL B xs
    simp only [trimL]
    split
    · rename_i e
      rw [e] at ih
      simp only [dv] at ih ⊢
      split
      · rename_i h; simp [dv, h, ← ih]
      · simp [dv, ← ih]
    · rename_i y ys e
      rw [e] at ih
      simp only [dv] at ih ⊢
      rw [ih]

theorem trimL_dig {B : Nat} : ∀ {xs : List Nat}, Dig B xs → Dig B (trimL xs)
  | [], h => h
  | x :: xs, h => by
    have ih := trimL_dig h.tail
    simp only [trimL]
    split
    · split
      · exact .nil B
      · exact .cons h.head (.nil B)
    · rename_i y ys e
      rw [e] at ih
      exact .cons h.head ih

theorem trimL_idem : ∀ (xs : List Nat), trimL (trimL xs) = trimL xs
  | [] => rfl
  | x :: xs => by
    have ih := trimL_idem xs
    simp only [trimL]
    split
    · split
      · rfl
      · rename_i h; simp [trimL, h]
    · rename_i y ys e
      rw [e] at ih
      simp only [trimL] at ih ⊢
      rw [ih]

/-- A number's digits. -/
def ds (B : Nat) (n : Nat) : List Nat := if h : n = 0 ∨ B < 2 then [] else n % B :: ds B (n / B)
termination_by n
decreasing_by exact Nat.div_lt_self (by omega) (by omega)

theorem ds_zero (B : Nat) : ds B 0 = [] := by rw [ds]; simp
theorem ds_pos {B n : Nat} (hB : 2 ≤ B) (hn : n ≠ 0) : ds B n = n % B :: ds B (n / B) := by rw [ds, dif_neg (by omega)]

theorem dv_ds {B : Nat} (hB : 2 ≤ B) (n : Nat) : dv B (ds B n) = n := by
  induction n using Nat.strongRecOn with
  | _ n ih =>
    by_cases h : n = 0
    · subst h; rw [ds_zero]; rfl
    · rw [ds_pos hB h]
      simp only [dv]
      rw [ih (n / B) (Nat.div_lt_self (by omega) (by omega))]
      exact Nat.mod_add_div n B

theorem ds_dig {B : Nat} (hB : 2 ≤ B) (n : Nat) : Dig B (ds B n) := by
  induction n using Nat.strongRecOn with
  | _ n ih =>
    by_cases h : n = 0
    · subst h; rw [ds_zero]; exact .nil B
    · rw [ds_pos hB h]
      exact .cons (Nat.mod_lt _ (by omega)) (ih (n / B) (Nat.div_lt_self (by omega) (by omega)))

theorem trimL_nil_iff (B : Nat) (hB : 2 ≤ B) : ∀ {xs : List Nat}, dv B xs = 0 → trimL xs = []
  | [], _ => rfl
  | x :: xs, h => by
    simp only [dv] at h
    have h1 : x = 0 := by omega
    have h2 : dv B xs = 0 := by
      have : B * dv B xs = 0 := by omega
      rcases Nat.mul_eq_zero.mp this with e | e
      · omega
      · exact e
    simp [trimL, trimL_nil_iff B hB h2, h1]

/-- Trimmed digits are the number's digits. -/
theorem trimL_ds {B : Nat} (hB : 2 ≤ B) : ∀ {xs : List Nat}, Dig B xs → trimL xs = ds B (dv B xs)
  | [], _ => (ds_zero B).symm
  | x :: xs, h => by
    have ih := trimL_ds hB h.tail
    have hx := h.head
    by_cases h0 : dv B (x :: xs) = 0
    · rw [h0, ds_zero]; exact trimL_nil_iff B hB h0
    · have e1 : (x + B * dv B xs) % B = x := by rw [Nat.add_mul_mod_self_left]; exact Nat.mod_eq_of_lt hx
      have e2 : (x + B * dv B xs) / B = dv B xs := by rw [Nat.add_mul_div_left _ _ (by omega), Nat.div_eq_of_lt hx, Nat.zero_add]
      rw [ds_pos hB h0]
      simp only [dv, e1, e2]
      rw [← ih]
      simp only [trimL]
      split
      · rename_i e
        split
        · rename_i hz
          exfalso; apply h0
          have : dv B xs = 0 := by rw [← dv_trimL B xs, e]; rfl
          simp [dv, hz, this]
        · rw [e]
      · rename_i y ys e; rw [e]

theorem ds_trim {B : Nat} (hB : 2 ≤ B) (n : Nat) : trimL (ds B n) = ds B n := by
  rw [trimL_ds hB (ds_dig hB n), dv_ds hB]

theorem ds_len_le {B : Nat} (hB : 2 ≤ B) : ∀ {k n : Nat}, n < B ^ k → (ds B n).length ≤ k
  | 0, n, h => by
    have : n = 0 := by simpa using h
    subst this; rw [ds_zero]; exact Nat.le_refl _
  | k + 1, n, h => by
    by_cases h0 : n = 0
    · subst h0; rw [ds_zero]; exact Nat.zero_le _
    · rw [ds_pos hB h0]
      have : n / B < B ^ k := by rw [Nat.div_lt_iff_lt_mul (by omega)]; rw [Nat.pow_succ] at h; exact h
      simpa using ds_len_le hB this

theorem ds_lt {B : Nat} (hB : 2 ≤ B) (n : Nat) : n < B ^ (ds B n).length := by
  have := dv_lt (ds_dig hB n)
  rwa [dv_ds hB] at this

theorem ds_ge {B : Nat} (hB : 2 ≤ B) {n : Nat} (hn : n ≠ 0) : B ^ ((ds B n).length - 1) ≤ n := by
  rcases Nat.lt_or_ge n (B ^ ((ds B n).length - 1)) with h | h
  · have := ds_len_le hB h
    have h2 : (ds B n).length ≠ 0 := by rw [ds_pos hB hn]; simp
    omega
  · exact h

theorem ds_nil_iff {B : Nat} (hB : 2 ≤ B) {n : Nat} : ds B n = [] ↔ n = 0 := by
  constructor
  · intro h; have := dv_ds hB n; rw [h] at this; exact this.symm
  · rintro rfl; exact ds_zero B

theorem ds_inj {B : Nat} (hB : 2 ≤ B) {n m : Nat} (h : ds B n = ds B m) : n = m := by
  rw [← dv_ds hB n, h, dv_ds hB]

/-- Where the limbs are compared from the top: a higher part decides. -/
theorem dv_cmp {B : Nat} {xs ys : List Nat} {x y : Nat} (h1 : Dig B xs) (h2 : Dig B ys) (hl : xs.length = ys.length) (h : x < y) (zs : List Nat) : dv B (xs ++ x :: zs) < dv B (ys ++ y :: zs) := by
  rw [dv_append, dv_append, ← hl]
  simp only [dv]
  have a := dv_lt h1
  have hm : B ^ xs.length * (x + 1 + B * dv B zs) ≤ B ^ xs.length * (y + B * dv B zs) := Nat.mul_le_mul_left _ (by omega)
  have e : B ^ xs.length * (x + 1 + B * dv B zs) = B ^ xs.length * (x + B * dv B zs) + B ^ xs.length := by
    rw [show x + 1 + B * dv B zs = (x + B * dv B zs) + 1 by omega, Nat.mul_succ]
  omega

end Go.Proofs.Ytldapilhmmbjhaa
