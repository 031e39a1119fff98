/-
  surdlaw03.DivSplits: the walk.
-/
import Derived.Test.YtldapilhmmbjhaaOj
namespace Go.Proofs.Ytldapilhmmbjhaa
open Go Ev
set_option linter.unusedVariables false
set_option linter.unusedSimpArgs false
noncomputable section

theorem of_call {H : AH} {v : Value} {xs : List Nat} (h : Sl H v xs) (dx : Dig B64 xs) (hl : xs.length ≤ Lim) : ∃ v' H', callI Try.prog cfg0 14 [v] H = some (v', H') ∧ Keep H H' ∧ Own H.n H' v' (ds b32 (dv B64 xs)) ∧ (ds b32 (dv B64 xs)).length ≤ 2 * Lim := by
  obtain ⟨v', H', hc, k, o⟩ := of_spec h dx (Nat.le_trans hl (by decide))
  refine ⟨v', H', hc, k, o, ?_⟩
  have h1 : dv B64 xs < b32 ^ (2 * xs.length) := by
    have := dv_lt (halves_dig dx)
    rwa [halves_dv, halves_len] at this
  have := ds_len_le two32 h1
  have hl : xs.length ≤ 2000000000000 := hl
  show _ ≤ 2 * 2000000000000
  omega

theorem eql_self {k : IntKind} {x : Int} : intBin .eql k x x = some (.bool true) := by
  show some (Value.bool (x == x)) = _
  simp

attribute [-simp] Int.natCast_add Int.natCast_mul Int.natCast_ediv Int.natCast_emod Int.natCast_pow
attribute [local simp] strip stripL LW' LR gW evOp oMove oAssign oPick oBinOp oUnOp oConvert oExtract oIndexAddr oIndex oLoad oStore oSlice oMakeSlice oCall oBuildSlice opd opds optOpd plain plain1 Tr.get_set tmOf builtinV binV isShift sameKind undef resultV resOne packV ltNat ltNum ltLst calleeV parts lss_nat unV DW grdOf heapOp LX isStore

set_option maxHeartbeats 1000000 in
theorem divSplits_spec {H : AH} {va vb : Value} {xs ys : List Nat} (ha : Sl H va xs) (hb : Sl H vb ys) (dx : Dig B64 xs) (dy : Dig B64 ys) (lx : xs.length ≤ Lim) (ly : ys.length ≤ Lim) :
    CW Try.prog cfg0 4 [va, vb] H fun v H' => Keep H H' ∧ v = .bool true := by
  refine CW_intro 52 (by decide) (by decide) Try.func4 rfl rfl ?_
  obtain ⟨v1, H1, c1, k1, a1⟩ := split_spec ha hb dx dy lx ly
  obtain ⟨v2, H2, c2, k2, o2, l2⟩ := of_call (ha.keep k1) dx lx
  obtain ⟨v3, H3, c3, k3, o3, l3⟩ := of_call ((hb.keep k1).keep k2) dy ly
  obtain ⟨v4, H4, c4, k4, a4⟩ := refSplit_spec (o2.sl.keep k3) o3.sl l2 l3
  have lA : (ds b32 (dv B64 xs)).length ≤ 2 * Lim := l2
  generalize dv B64 xs = A at *
  generalize dv B64 ys = B at *
  have k234 := (k2.trans k3).trans k4
  have kH := k1.trans k234
  apply W_seq; intro b1 hb1
  apply W_region
  simp
  show W _ _ b1 _ _; subst hb1
  have fin : ∀ (b : Code) (n kk : Nat) (cv wv : Value) (xs' : List Nat) (e N code : Nat) (tm : Tr Value), kk < 9223372036854775808 → tm.get 5 = some (.int .i64 (kk : Int)) → tm.get 8 = some (.int .i64 (kk : Int)) → tm.get 6 = some cv → tm.get 7 = some (.int .i64 (e : Int)) → tm.get 9 = some wv → tm.get 10 = some (.int .i64 (code : Int)) →
      Own H.n H4 cv xs' → Sl H4 wv (ds b32 N) → (ds b32 N).length ≤ 2 * Lim → SameIs xs' e N code → e < 1000 → code < 1000 → xs'.length ≤ 8000000000000 →
      b = sndC (sndC (sndC (sndC (Try.f4.body.getD .skip)))) →
      W Try.prog cfg0 b ⟨52, tm, H4⟩ fun ex s => (ex = .norm ∨ ex = .ret) ∧ ∃ vs, resultV Try.prog s Try.f4.results.toList = some vs ∧ Keep H s.H ∧ packV vs = .bool true := fun b n kk cv wv xs' e N code tm hkk t5 t8 t6 t7 t9 t10 ocv swv lN hs he hcd hl hb => by
    subst hb
    obtain ⟨_, H5, c5, k5, rfl⟩ := same_spec ocv.sl swv lN hs he hcd
    have ocv5 := ocv.mono (Nat.le_refl _) k5
    have hn : H.n ≤ H5.n := Nat.le_trans kH.n k5.n
    have hbl := buildLL1 H5 cv ocv.isSlice.1
    obtain ⟨_, H6, c6, rfl, ka6⟩ := ownRef_spec (grp1 ocv5 hn) (by simp) (fun _ => hl)
    have c6 : callI Try.prog cfg0 17 [.slice (some ⟨H5.n, 0, none⟩) 1 1] (H5.new 1 [cv]) = some (.bool true, H6) := c6
    have k6 : Keep H H6 := ka6 H ((kH.trans k5).trans (.new _ _ _)) (Nat.le_refl _)
    obtain ⟨H7, c7, k7⟩ := lives_call H6
    show W _ _ (.seq (.region 5 _ _) _) _ _
    apply W_seq; intro b1 hb1
    apply W_region
    simp [t5, t6, t7, t8, t9, t10, eql_self, c5, hbl, c6, c7]
    show W _ _ b1 _ _; subst hb1
    apply W_ret
    simp [Try.f4]
    exact k6.trans k7
  rcases a4 with ⟨hbad, rfl⟩ | ⟨hA, hB, k, c, u, hsp, rfl, su, lc⟩
  · obtain rfl : v1 = .tuple #[.int .i64 0, .slice none 0 0, .int .i64 1] := by
      rcases a1 with ⟨_, h⟩ | ⟨h1, h2, _⟩
      · exact h
      · omega
    apply W_seq; intro b1 hb1
    apply W_region
    simp [c1]
    show W _ _ b1 _ _; subst hb1
    apply W_seq; intro b1 hb1
    apply W_region
    simp [c2, c3, c4]
    show W _ _ b1 _ _; subst hb1
    apply W_seq; intro b1 hb1
    apply W_seq; intro b2 hb2
    have f1 : intBin .eql .i64 1 0 = some (.bool false) := rfl
    apply W_region
    simp [f1]
    show W _ _ b2 _ _; subst hb2
    refine W_cond (t := false) (by simp) ?_
    apply W_skip
    show W _ _ b1 _ _
    exact fin b1 0 0 (.slice none 0 0) (.slice none 0 0) [] 1 0 1 _ (by decide) (by simp) (by simp) (by simp) (by simp) (by simp) (by simp) .nil (by rw [ds_zero]; exact .nil) (by rw [ds_zero]; exact Nat.zero_le _) (.inl ⟨by decide, rfl, rfl⟩) (by decide) (by decide) (by simp) hb1
  · have hkb : k < 64 * (2 * Lim) := by
      have h1 := ds_lt two32 A
      have h2 : b32 ^ (ds b32 A).length ≤ B64 ^ (ds b32 A).length := Nat.pow_le_pow_left (by decide) _
      exact split_bound hsp.1 hA hB (Nat.le_trans (ds_len_le two64 (Nat.lt_of_lt_of_le h1 h2)) lA)
    have hkb : k < 64 * (2 * 2000000000000) := hkb
    have f0 : intBin .eql .i64 0 0 = some (.bool true) := rfl
    have c5 := refLen_call su lc
    have l64 : (ds B64 c).length ≤ 8000000000000 := by
      have h1 := ds_lt two32 c
      have h2 : b32 ^ (ds b32 c).length ≤ B64 ^ (ds b32 c).length := Nat.pow_le_pow_left (by decide) _
      exact Nat.le_trans (ds_len_le two64 (Nat.lt_of_lt_of_le h1 h2)) (Nat.le_trans lc (by decide))
    rcases a1 with ⟨h, _⟩ | ⟨_, _, k', c', hsp', h⟩
    · omega
    · obtain ⟨rfl, rfl⟩ := hsp.uniq (by omega) hsp'
      rcases h with ⟨hbig, rfl⟩ | ⟨hsm, u', rfl, ou'⟩
      · apply W_seq; intro b1 hb1
        apply W_region
        simp [c1]
        show W _ _ b1 _ _; subst hb1
        apply W_seq; intro b1 hb1
        apply W_region
        simp [c2, c3, c4]
        show W _ _ b1 _ _; subst hb1
        apply W_seq; intro b1 hb1
        apply W_seq; intro b2 hb2
        apply W_region
        simp [f0, c5, gtrMax, hbig]
        show W _ _ b2 _ _; subst hb2
        refine W_cond (t := true) (by simp) ?_
        apply W_region
        simp
        show W _ _ b1 _ _
        exact fin b1 0 0 (.slice none 0 0) u [] 3 c 0 _ (by decide) (by simp) (by simp) (by simp) (by simp) (by simp) (by simp) .nil su lc (.inr (.inl ⟨rfl, hbig, rfl, rfl⟩)) (by decide) (by decide) (by simp) hb1
      · have hnb : ¬ 67108864 < blen c := by omega
        apply W_seq; intro b1 hb1
        apply W_region
        simp [c1]
        show W _ _ b1 _ _; subst hb1
        apply W_seq; intro b1 hb1
        apply W_region
        simp [c2, c3, c4]
        show W _ _ b1 _ _; subst hb1
        apply W_seq; intro b1 hb1
        apply W_seq; intro b2 hb2
        apply W_region
        simp [f0, c5, gtrMax, hnb]
        show W _ _ b2 _ _; subst hb2
        refine W_cond (t := false) (by simp) ?_
        apply W_skip
        show W _ _ b1 _ _
        exact fin b1 0 k u' u (ds B64 c) 0 c 0 _ (by omega) (by simp) (by simp) (by simp) (by simp) (by simp) (by simp) (ou'.mono (Nat.le_refl _) k234) su lc (.inr (.inr ⟨rfl, hsm, rfl, rfl⟩)) (by decide) (by decide) l64 hb1
end
end Go.Proofs.Ytldapilhmmbjhaa
