/-
  surdlaw03: lives (the document's examples).
-/
import Derived.Test.YtldapilhmmbjhaaOi
namespace Go.Proofs.Ytldapilhmmbjhaa
open Go Ev
set_option linter.unusedVariables false
set_option linter.unusedSimpArgs false
noncomputable section

attribute [-simp] Int.natCast_add Int.natCast_mul Int.natCast_ediv Int.natCast_emod Int.natCast_pow
attribute [local simp] strip stripL LW' LR gW evOp oMove oAssign oPick oBinOp oUnOp oConvert oExtract oIndexAddr oIndex oLoad oStore oSlice oMakeSlice oCall oBuildSlice opd opds optOpd plain plain1 Tr.get_set tmOf builtinV binV isShift sameKind undef resultV resOne packV ltNat ltNum ltLst calleeV parts lss_nat unV DW grdOf heapOp LX isStore

set_option maxHeartbeats 1000000 in
theorem lives_spec (H : AH) : CW Try.prog cfg0 11 [] H fun v H' => Keep H H' ∧ v = .bool true := by
  refine CW_intro 38 (by decide) (by decide) Try.func11 rfl rfl ?_
  obtain ⟨v1, N1, b1c, k1, o1⟩ := build1_call H ltNat 100
  obtain ⟨v2, N2, b2c, k2, o2⟩ := build1_call N1 ltNat 7
  have b1c : buildSliceV Try.prog H 24 1 [(0, .int .u64 100)] = some (v1, N1) := b1c
  have b2c : buildSliceV Try.prog N1 24 1 [(0, .int .u64 7)] = some (v2, N2) := b2c
  obtain ⟨vb, H1, c1, k3, hb⟩ := both_spec (o1.sl.keep k2) o2.sl (dig1 (by decide)) (dig1 (by decide)) (by decide) (by decide)
  rw [dv1, dv1] at hb
  obtain ⟨q, r, rfl, oq, orr⟩ : ∃ q r, vb = .tuple #[q, r, .int .i64 0] ∧ Own N2.n H1 q [14] ∧ Own N2.n H1 r [2] := by
    rcases hb with ⟨h, _⟩ | ⟨_, h, _⟩ | ⟨_, _, _, q, r, e, oq, orr, _⟩
    · exact absurd h (by decide)
    · exact absurd h (by decide)
    · refine ⟨q, r, e, ?_, ?_⟩
      · rwa [show (100 : Nat) / 7 = 14 by decide, ds1 (by decide) (by decide)] at oq
      · rwa [show (100 : Nat) % 7 = 2 by decide, ds1 (by decide) (by decide)] at orr
  obtain ⟨v3, N3, b3c, k4, o3⟩ := build1_call H1 ltNat 14
  have b3c : buildSliceV Try.prog H1 24 1 [(0, .int .u64 14)] = some (v3, N3) := b3c
  have c3 := cmp_call (oq.sl.keep k4) o3.sl (dig1 (by decide)) (dig1 (by decide)) (by decide) (by decide)
  rw [show cmpN (dv B64 [14]) (dv B64 [14]) = 0 by simp [cmpN]] at c3
  obtain ⟨v4, N4, b4c, k5, o4⟩ := build1_call N3 ltNat 2
  have b4c : buildSliceV Try.prog N3 24 1 [(0, .int .u64 2)] = some (v4, N4) := b4c
  have c4 := cmp_call ((orr.sl.keep k4).keep k5) o4.sl (dig1 (by decide)) (dig1 (by decide)) (by decide) (by decide)
  rw [show cmpN (dv B64 [2]) (dv B64 [2]) = 0 by simp [cmpN]] at c4
  obtain ⟨v5, N5, b5c, k6, o5⟩ := build1_call N4 ltNat 48
  have b5c : buildSliceV Try.prog N4 24 1 [(0, .int .u64 48)] = some (v5, N5) := b5c
  obtain ⟨v6, N6, b6c, k7, o6⟩ := build1_call N5 ltNat 36
  have b6c : buildSliceV Try.prog N5 24 1 [(0, .int .u64 36)] = some (v6, N6) := b6c
  obtain ⟨vg, H2, c5, k8, og⟩ := gcd_spec (o5.sl.keep k7) o6.sl (dig1 (by decide)) (dig1 (by decide)) (by decide) (by decide)
  rw [dv1, dv1, show Nat.gcd 48 36 = 12 by decide, ds1 (by decide) (by decide)] at og
  obtain ⟨v7, N7, b7c, k9, o7⟩ := build1_call H2 ltNat 12
  have b7c : buildSliceV Try.prog H2 24 1 [(0, .int .u64 12)] = some (v7, N7) := b7c
  have c6 := cmp_call (og.sl.keep k9) o7.sl (dig1 (by decide)) (dig1 (by decide)) (by decide) (by decide)
  rw [show cmpN (dv B64 [12]) (dv B64 [12]) = 0 by simp [cmpN]] at c6
  have lq := oq.sl.len ltNat
  have f0 : intBin .eql .i64 0 0 = some (.bool true) := rfl
  have f1 : intBin .eql .i64 1 1 = some (.bool true) := rfl
  apply W_seq; intro b1 hb1
  apply W_region
  simp
  show W _ _ b1 _ _; subst hb1
  apply W_seq; intro b1 hb1
  apply W_region
  simp [b1c, b2c, c1]
  show W _ _ b1 _ _; subst hb1
  apply W_seq; intro b1 hb1
  apply W_region
  simp [f0, f1, b3c, c3, b4c, c4, b5c, b6c, c5, b7c, c6, lq]
  show W _ _ b1 _ _; subst hb1
  apply W_ret
  simp
  exact (((((((k1.trans k2).trans k3).trans k4).trans k5).trans k6).trans k7).trans k8).trans k9

theorem lives_call (H : AH) : ∃ H', callI Try.prog cfg0 11 [] H = some (.bool true, H') ∧ Keep H H' := by
  obtain ⟨_, H', hc, k, rfl⟩ := lives_spec H
  exact ⟨H', hc, k⟩

/-! ### the list of lists that a call with dots is given -/
theorem tLL : sliceT Try.prog 62 = some (23, 1, 24) := by kernel_rfl
theorem zLst : zeroT Try.prog 23 = some (.slice none 0 0) := by kernel_rfl

theorem buildLL1 (H : AH) (v : Value) (hv : v.cells = #[v]) : buildSliceV Try.prog H 62 1 [(0, v)] = some (.slice (some ⟨H.n, 0, none⟩) 1 1, H.new 1 [v]) := by
  unfold buildSliceV
  simp only [tLL, zLst]
  have : Instr.fill (fun i => some (i * 1, 1)) ((Array.range (1 * 1)).map ((Value.slice none 0 0).cells[· % (Value.slice none 0 0).cells.size]!)) [(0, v)] = some #[v] := by
    simp only [Instr.fill, hv]
    kernel_rfl
  rw [this]
  have e : Nat.ble (1 * 1) (2 ^ 24) = true := by decide
  rw [e]
  rfl

theorem grp1 {n0 : Nat} {H : AH} {v : Value} {xs : List Nat} (h : Own n0 H v xs) (hn : n0 ≤ H.n) : Grp n0 (H.new 1 [v]) H.n [v] (fun _ => xs) := by
  have hk := Keep.new H 1 [v]
  refine ⟨hn, Nat.lt_succ_self _, by rw [AH.blk_new, if_pos rfl], ?_, ?_, ?_⟩
  · intro i w hi
    match i, hi with
    | 0, hi => cases hi; exact h.mono (Nat.le_refl _) hk
  · intro i j w w' hij hi hj
    match i, j, hi, hj with
    | 0, 0, _, _ => exact absurd rfl hij
  · intro i w hi hw
    match i, hi with
    | 0, hi =>
      cases hi
      have := (h.blk_lo hw).2
      omega
end
end Go.Proofs.Ytldapilhmmbjhaa
