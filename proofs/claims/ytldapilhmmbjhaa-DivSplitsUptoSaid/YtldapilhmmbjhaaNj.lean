/-
  nat.trim of a new list is of the same new list. nat.told.
-/
import Derived.Test.YtldapilhmmbjhaaNi
namespace Go.Proofs.Ytldapilhmmbjhaa
open Go Ev
set_option linter.unusedVariables false
set_option linter.unusedSimpArgs false
noncomputable section

theorem Own.cut {n0 : Nat} {H : AH} {v : Value} {xs : List Nat} (h : Own n0 H v xs) {t : TypeId} (ht : LT t) {m : Nat} (hm : m ≤ xs.length) (h0 : 0 < xs.length) :
    ∃ v', sliceV Try.prog H t v none (some (.int .i64 (m : Int))) none = some v' ∧ Own n0 H v' (xs.take m) := by
  cases h with
  | nil => cases h0
  | mk b o cap xs cs h1 h2 h3 h4 h5 h6 =>
    have hl : (xs.take m).length = m := by rw [List.length_take]; omega
    have hsz : H.size b = some 1 := by unfold AH.size; rw [h4]
    refine ⟨.slice (some ⟨b, o, none⟩) (xs.take m).length cap, ?_, .mk b o cap _ cs (by omega) h2 h3 h4 h5 fun i x hx => h6 i x ?_⟩
    · unfold sliceV
      simp only [ht.1, sU64]
      unfold cutV boundV
      simp only [hsz, Option.isSome_some, Option.isNone_none, Bool.true_or]
      rw [if_pos (by omega)]
      have e1 : Nat.ble m cap = true := Nat.ble_eq.mpr (by omega)
      simp [boundV, e1, hl]
    · rw [List.getElem?_take] at hx
      split at hx
      · exact hx
      · cases hx

attribute [local simp] strip stripL LW' gW evOp oMove oAssign oPick oBinOp oUnOp oConvert oExtract oIndexAddr oIndex oLoad oStore oSlice oMakeSlice oCall opd opds optOpd plain plain1 Tr.get_set tmOf builtinV binV isShift sameKind intBin undef resultV resOne packV ltNat ltNum ltLst calleeV

theorem trim_own {v : Value} {xs : List Nat} {H : AH} {n0 : Nat} (hs : Own n0 H v xs) (hlen : xs.length < 1152921504606846976) :
    CW Try.prog cfg0 44 [v] H fun v' H' => H' = H ∧ Own n0 H v' (trimL xs) := by
  refine CW_intro 21 (by decide) (by decide) Try.func44 rfl rfl ?_
  apply W_seq; intro b1 hb1
  apply W_region
  simp
  show W _ _ b1 _ _; subst hb1
  apply W_seq; intro b1 hb1
  apply W_block
  refine W_loop (fun n s => s.k = 21 ∧ s.H = H ∧ ∃ v', s.tm.get 0 = some v' ∧ n ≤ xs.length ∧ Own n0 H v' (xs.take n) ∧ trimL (xs.take n) = trimL xs) ?_ xs.length _ ⟨rfl, rfl, v, by simp, Nat.le_refl _, by rw [List.take_length]; exact hs, by rw [List.take_length]⟩
  rintro n ⟨k, tm, H'⟩ ⟨h2, h3, v', h4, h5, h6, h7⟩
  simp only at h2 h3 h4
  subst h2; subst h3
  have hl : (xs.take n).length = n := by rw [List.length_take]; omega
  have hlenv := h6.sl.len ltNat
  rw [hl] at hlenv
  apply W_seq; intro b2 hb2
  apply W_seq; intro b3 hb3
  apply W_region
  by_cases hz : n = 0
  · subst hz
    simp [h4, hlenv]
    show W _ _ b3 _ _; subst hb3
    refine W_cond (t := false) (by simp) ?_
    apply W_exit
    left
    refine ⟨rfl, ?_⟩
    show W _ _ b1 _ _; subst hb1
    apply W_seq; intro b4 hb4
    apply W_region
    simp [h4]
    show W _ _ b4 _ _; subst hb4
    apply W_ret
    simp
    rw [← h7]
    exact h6
  · have hn : 0 < n := Nat.pos_of_ne_zero hz
    have hw : IntKind.i64.wrap ((n : Int) - 1) = ((n - 1 : Nat) : Int) := wrap_sub1 hn (by omega)
    have hi : n - 1 < (xs.take n).length := by omega
    have ha := h6.sl.adr ltNat (k := .i64) hi
    have hld := h6.sl.load hi
    simp [h4, hlenv, hn, hw, ha, hld]
    show W _ _ b3 _ _; subst hb3
    have hx : n - 1 < xs.length := by omega
    have htake : xs.take n = xs.take (n - 1) ++ [xs[n - 1]] := by
      have := List.take_append_getElem (l := xs) (i := n - 1) hx
      rw [this, show n - 1 + 1 = n by omega]
    by_cases h0 : xs[n - 1] = 0
    · refine W_cond (t := true) (by simp [h0]) ?_
      apply W_skip
      show W _ _ b2 _ _; subst hb2
      apply W_block
      apply W_region
      obtain ⟨v2, hv2, hs2⟩ := h6.cut ltNat (m := n - 1) (by omega) (by omega)
      simp [h4, hlenv, hw, hv2]
      refine ⟨n - 1, by omega, rfl, rfl, v2, by simp, by omega, ?_, ?_⟩
      · rw [List.take_take, show min (n - 1) n = n - 1 by omega] at hs2; exact hs2
      · rw [← h7, htake, h0, trimL_snoc0]
    · refine W_cond (t := false) (by simp; exact h0) ?_
      apply W_exit
      left
      refine ⟨rfl, ?_⟩
      show W _ _ b1 _ _; subst hb1
      apply W_seq; intro b4 hb4
      apply W_region
      simp [h4]
      show W _ _ b4 _ _; subst hb4
      apply W_ret
      simp
      rw [← h7]
      have : trimL (xs.take n) = xs.take n := by rw [htake]; exact trimL_snoc _ _ h0
      rw [this]
      exact h6

theorem told_spec {v : Value} {xs : List Nat} {H : AH} {n0 : Nat} (hs : Own n0 H v xs) (dx : Dig B64 xs) (hlen : xs.length ≤ 17592186044416) :
    CW Try.prog cfg0 50 [v] H fun v' H' => H' = H ∧ ((67108864 < blen (dv B64 xs) ∧ v' = .tuple #[.slice none 0 0, .int .i64 3]) ∨
      (blen (dv B64 xs) ≤ 67108864 ∧ ∃ u, v' = .tuple #[u, .int .i64 0] ∧ Own n0 H u (ds B64 (dv B64 xs)))) := by
  refine CW_intro 10 (by decide) (by decide) Try.func50 rfl rfl ?_
  obtain ⟨v1, H1, hc1, e1, s1⟩ := trim_own hs (by omega)
  subst e1
  have dt := trimL_dig dx
  obtain ⟨v2, H2, hc2, e2, e3⟩ := length_spec s1.sl dt (Nat.le_trans (trimL_len xs) hlen)
  subst e2; subst e3
  rw [dv_trimL] at hc2
  rw [trimL_ds two64 dx] at s1
  apply W_seq; intro b1 hb1
  apply W_region
  simp
  show W _ _ b1 _ _; subst hb1
  apply W_seq; intro b1 hb1
  apply W_region
  simp [hc1]
  show W _ _ b1 _ _; subst hb1
  apply W_seq; intro b1 hb1
  apply W_seq; intro b2 hb2
  apply W_region
  simp [hc2]
  show W _ _ b2 _ _; subst hb2
  by_cases h : 67108864 < blen (dv B64 xs)
  · refine W_cond (t := true) (by simp; omega) ?_
    apply W_seq; intro b2 hb2
    apply W_region
    simp
    show W _ _ b2 _ _; subst hb2
    apply W_ret
    simp [seqQ, h]
  · refine W_cond (t := false) (by simp; omega) ?_
    apply W_skip
    show W _ _ b1 _ _; subst hb1
    apply W_seq; intro b2 hb2
    apply W_region
    simp
    show W _ _ b2 _ _; subst hb2
    apply W_ret
    simp [h]
    exact ⟨by omega, s1⟩
end
end Go.Proofs.Ytldapilhmmbjhaa
