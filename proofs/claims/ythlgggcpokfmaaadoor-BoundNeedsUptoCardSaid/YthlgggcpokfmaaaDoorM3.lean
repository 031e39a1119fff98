/-
  The engine and the walks that the claim's last text leans on, part 3 of 4: Tc, Td, Reach, Te, Nf, Ng, Nh, Ni, Nj, Nk, Nq, Nl, Nm, Nr, Ns, Nt, Nu, Nv, Nw, Nx, Oa, Ob, Oc.
-/
import Derived.Test.YthlgggcpokfmaaaDoorM2

/-
  expr: look, by recursion over the tree.
-/
namespace Go.Proofs.YthlgggcpokfmaaaDoor
open Go Ev
set_option linter.unusedVariables false
set_option linter.unusedSimpArgs false
noncomputable section
set_option maxRecDepth 20000

/-- What lies below a block's number stays, if a cell from it on is written. -/
def KAt (n0 : Nat) (H H1 : AH) : Prop := ∀ H0, Keep H0 H → H0.n ≤ n0 → Keep H0 H1
theorem KAt.refl (n0 : Nat) (H : AH) : KAt n0 H H := fun _ k _ => k
theorem KAt.trans {n0 : Nat} {H H1 H2 : AH} (a : KAt n0 H H1) (b : KAt n0 H1 H2) : KAt n0 H H2 := fun H0 k h => b H0 (a H0 k h) h
theorem Keep.kat {H H' : AH} (k : Keep H H') (n0 : Nat) : KAt n0 H H' := fun H0 k0 _ => k0.trans k

theorem sInt : sizeT Tryd.prog 3 = some 1 := by kernel_rfl

theorem store_cell {H : AH} {t : TypeId} (ht : sizeT Tryd.prog t = some 1) {b sz : Nat} {x y : Value} (h : H.blk b = .rw sz [x]) (hy : y.cells = #[y]) (h1 : one y = true) :
    ∃ H', storeV Tryd.prog H t (.pointer (some ⟨b, 0, none⟩)) y = some H' ∧ H'.blk b = .rw sz [y] ∧ H'.n = H.n ∧ (∀ j, j ≠ b → H'.blk j = H.blk j) ∧ KAt b H H' := by
  refine ⟨{ n := H.n, lw := min H.lw b, t := H.t.set b (.rw sz [y]) }, ?_, ?_, rfl, fun j hj => ?_, fun H0 k hn => ⟨k.n, ?_, fun j hj => ?_⟩⟩
  · unfold storeV
    simp only [ht, hy]
    rw [show Nat.beq (#[y] : Array Value).size 1 = true from rfl, cond_true, AH.write_def, h]
    simp [h1]
    rfl
  · unfold AH.blk; simp only [Tr.get_set, if_true]
  · unfold AH.blk; simp only [Tr.get_set]; rw [if_neg hj]
  · have := k.lw
    show min H0.lw H0.n ≤ min H.lw b
    omega
  · unfold AH.blk; simp only [Tr.get_set]
    rw [if_neg (by omega)]
    exact k.blk j hj

theorem maxN (a b : Nat) : minmaxV true [.int .i64 (a : Int), .int .i64 (b : Int)] = some (.int .i64 ((max a b : Nat) : Int)) := by
  unfold minmaxV
  simp only [sameKind, BEq.rfl, cond_true]
  congr 2
  by_cases h : (a : Int) < b
  · rw [if_pos h]; omega
  · rw [if_neg h]; omega

theorem addN {x y : Nat} (h : x + y < 9223372036854775808) : intBin .add .i64 (x : Int) (y : Int) = some (.int .i64 ((x + y : Nat) : Int)) := by
  show some (Value.int .i64 (IntKind.i64.wrap ((x : Int) + y))) = _
  rw [← Int.natCast_add, wrap_nat h]
theorem add1N {x : Nat} (h : x + 1 < 9223372036854775808) : intBin .add .i64 (x : Int) 1 = some (.int .i64 ((x + 1 : Nat) : Int)) := addN (y := 1) h

theorem zExpr : zeroT Tryd.prog 32 = some (.agg #[.int .i64 0, .bool false, .slice none 0 0, .slice none 0 0, .slice none 0 0]) := by kernel_rfl

theorem Ex.ones {H : AH} {vs : List Value} {t : ET} (h : Ex H vs t) : vs.all one = true := by
  have hs : ∀ {v : Value} {xs : List Nat}, Sl H v xs → one v = true := fun h => by cases h <;> rfl
  cases h with
  | mk h1 h2 h3 =>
    have h4 : ∀ {v : Value} {l : List ET}, Xs H v l → one v = true := fun h => by cases h <;> rfl
    simp only [List.all_cons, List.all_nil, hs h1, hs h2, h4 h3, Bool.and_true]
    rfl

/-- What look answers and leaves. -/
def LookIs (H : AH) (b c : Nat) (t : ET) (v : Value) (H' : AH) : Prop :=
  v = .tuple #[.bool t.allGood, .int .i64 (t.depth : Int)] ∧ KAt b H H' ∧ H.n ≤ H'.n ∧ H'.blk b = .rw 1 [.int .i64 ((c + t.nodes : Nat) : Int)]

attribute [-simp] Int.natCast_add Int.natCast_mul Int.natCast_ediv Int.natCast_emod Int.natCast_pow
attribute [local simp] strip stripL LW' LR gW evOp oMove oAssign oPick oBinOp oUnOp oConvert oExtract oIndexAddr oIndex oLoad oStore oField oFieldAddr oSlice oMakeSlice oBuildSlice oBuild oAlloc oBox oNilCheck oCall opd opds optOpd plain plain1 Tr.get_set tmOf builtinV binV isShift sameKind undef resultV resOne packV ltNat calleeV parts unV DW grdOf heapOp LX isStore

theorem lssN {k : IntKind} {x y : Nat} : intBin .lss k (x : Int) (y : Int) = some (.bool (decide (x < y))) := by
  show some (Value.bool (decide ((x : Int) < y))) = _
  congr 2
  exact decide_eq_decide.mpr (by omega)
theorem notMost {x : Nat} (h : x ≤ 4611686018427387903) : intBin .gtr .i64 (x : Int) 4611686018427387903 = some (.bool false) := by
  show some (Value.bool (decide ((x : Int) > 4611686018427387903))) = _
  congr 2
  exact decide_eq_false (by omega)

set_option maxRecDepth 20000 in
theorem look_ok : ∀ n (t : ET), t.nodes ≤ n → ∀ (H0 H : AH) (vs : List Value) (b c deep : Nat), Ex H0 vs t → RowsIn H0 → t.wide 1048576 → Keep H0 H → H0.n ≤ b → b < H.n → H.blk b = .rw 1 [.int .i64 (c : Int)] →
    c + t.nodes ≤ 1000000000 → deep + t.nodes ≤ 1000000000 →
    CW Tryd.prog cfgR 26 [.agg vs.toArray, .int .i64 (deep : Int), .pointer (some ⟨b, 0, none⟩), .int .i64 4611686018427387903] H (LookIs H b c t) := by
  intro n
  induction n with
  | zero => intro t h; have := nodes_pos t; omega
  | succ n ih =>
  intro t ht H0 H vs b c deep hE hR hw k0 hb hbn hblk hc hdp
  obtain ⟨op, neg, abs, den, args⟩ := t
  have hEk := hE
  have hlen := hE.len
  have hones := hE.ones
  obtain ⟨wa, wd, da, dd, ws⟩ := hw
  simp only [ET.nodes] at ht hc hdp
  unfold LookIs
  simp only [ET.nodes]
  refine CW_intro 60 (by decide) (by decide) Tryd.func26 rfl rfl ?_
  -- the box
  have kB := Keep.new H 1 vs
  have blkB : (H.new 1 vs).blk H.n = .rw 1 vs := by rw [AH.blk_new, if_pos rfl]
  have blkb : (H.new 1 vs).blk b = .rw 1 [.int .i64 (c : Int)] := by rw [AH.blk_new, if_neg (by omega)]; exact hblk
  have nB : (H.new 1 vs).n = H.n + 1 := rfl
  obtain ⟨HB, hHB⟩ : ∃ HB, HB = H.new 1 vs := ⟨_, rfl⟩
  rw [← hHB] at kB blkB blkb nB
  have cb : HB.cells b = some [.int .i64 (c : Int)] := by unfold AH.cells; rw [blkb]
  have l1 := load_cell aInt (o := 0) cb rfl
  obtain ⟨H2, st2, blk2, n2, oth2, ka2⟩ := store_cell sInt (y := .int .i64 ((c + 1 : Nat) : Int)) blkb rfl rfl
  have cb2 : H2.cells b = some [.int .i64 ((c + 1 : Nat) : Int)] := by unfold AH.cells; rw [blk2]
  have l2 := load_cell aInt (o := 0) cb2 rfl
  have cB2 : H2.cells H.n = some vs := by unfold AH.cells; rw [oth2 H.n (by omega), blkB]
  have l3 := load_expr (o := 0) cB2 (vs := vs) (by rw [List.drop_zero, List.take_of_length_le (by omega)]) hlen
  have k02 : Keep H0 H2 := ka2 H0 (k0.trans kB) hb
  obtain ⟨_, H3, c3, k3, rfl⟩ := shape_spec (hEk.keep k02) (hR.keep k02) da dd wa wd
  obtain ⟨g, hg⟩ : ∃ g : Bool, g = (ET.node op neg abs den args).good := ⟨_, rfl⟩
  rw [← hg] at c3
  have k03 := k02.trans k3
  have cB3 : H3.cells H.n = some vs := by rw [cells_keep k3 (by omega)]; exact cB2
  cases hEk with
  | @mk _ _ va vd vx _ _ _ h1 h2 h3 =>
  have l4 := load_cell aExprs (o := 4) cB3 rfl
  have lx := h3.len
  have la := nodesAll_len args
  have q1 := notMost (x := c + 1) (by omega)
  have q2 := notMost (x := deep) (by omega)
  have blk3 : H3.blk b = .rw 1 [.int .i64 ((c + 1 : Nat) : Int)] := by rw [k3.blk b (by omega)]; exact blk2
  have ka3 : KAt b H H3 := ((kB.kat b).trans ka2).trans (k3.kat b)
  have n3 := k3.n
  apply W_seq; intro d1 hd1
  apply W_region
  simp [Value.cells, ← hHB]
  show W _ _ d1 _ _; subst hd1
  apply W_seq; intro d1 hd1
  apply W_region
  simp [l1, add1N (x := c) (by omega), st2]
  show W _ _ d1 _ _; subst hd1
  apply W_seq; intro d1 hd1
  apply W_seq; intro d2 hd2
  apply W_region
  simp [l2, q1, q2]
  show W _ _ d2 _ _; subst hd2
  refine W_cond (t := false) (by simp) ?_
  apply W_skip
  show W _ _ d1 _ _; subst hd1
  apply W_seq; intro d1 hd1
  apply W_region
  simp only [List.toArray] at c3 l3
  simp [l3, c3]
  show W _ _ d1 _ _; subst hd1
  apply W_seq; intro d1 hd1
  apply W_region
  simp
  show W _ _ d1 _ _; subst hd1
  apply W_seq; intro d1 hd1
  apply W_seq; intro d2 hd2
  apply W_region
  simp [faArgs, l4, lx]
  show W _ _ d2 _ _; subst hd2
  apply W_block
  obtain ⟨m0, hm0⟩ : ∃ m0, m0 = args.length := ⟨_, rfl⟩
  rw [← hm0] at lx la
  refine W_loopK (fun m s' => s'.k = 60 ∧ Keep H0 s'.H ∧ KAt b H s'.H ∧ H3.n ≤ s'.H.n ∧ ∃ (i : Nat) (ok : Bool) (d : Nat), m + i = m0 ∧ ok = (g && goodAll (args.take i)) ∧ d = max 1 (depthAll (args.take i)) ∧ s'.H.blk b = .rw 1 [.int .i64 ((c + 1 + nodesAll (args.take i) : Nat) : Int)] ∧
    s'.tm.get 1 = some (.int .i64 (deep : Int)) ∧ s'.tm.get 2 = some (.pointer (some ⟨b, 0, none⟩)) ∧ s'.tm.get 3 = some (.int .i64 4611686018427387903) ∧ s'.tm.get 10 = some (.bool ok) ∧ s'.tm.get 11 = some (.int .i64 (d : Int)) ∧
    s'.tm.get 34 = some vx ∧ s'.tm.get 35 = some (.int .i64 (m0 : Int)) ∧ s'.tm.get 36 = some (.int .i64 (i : Int))) ?_ m0 _
    ⟨rfl, k03, ka3, Nat.le_refl _, 0, g, 1, by omega, by simp [goodAll], by simp [depthAll], by simpa [nodesAll] using blk3, by simp, by simp, by simp, by simp, by simp, by simp, by simp [hm0], by simp⟩
  rintro m ⟨k, tm, H4⟩ ⟨hk, kH, kaH, hn4, i, ok, d, hmi, hok, hd, blk4, t1, t2, t3, t10, t11, t34, t35, t36⟩ Q' hQ'
  simp only at hk kH kaH hn4 blk4 t1 t2 t3 t10 t11 t34 t35 t36
  subst hk
  apply W_seq; intro d3 hd3
  apply W_region
  simp [t35, t36, lssN]
  show W _ _ d3 _ _; subst hd3
  apply W_seq; intro d3 hd3
  by_cases hi : i < m0
  · refine W_cond (t := true) (by simp [hi]) ?_
    apply W_skip
    show W _ _ d3 _ _; subst hd3
    obtain ⟨x, hx⟩ : ∃ x, args[i]? = some x := ⟨_, List.getElem?_eq_getElem (by omega)⟩
    have htk : args.take (i + 1) = args.take i ++ [x] := by
      rw [List.take_add_one, hx]; rfl
    have hsum : nodesAll (args.take (i + 1)) = nodesAll (args.take i) + x.nodes := by rw [htk, nodesAll_append]; simp [nodesAll]
    have hle : nodesAll (args.take (i + 1)) ≤ nodesAll args := by
      have := nodesAll_append (args.take (i + 1)) (args.drop (i + 1))
      rw [List.take_append_drop] at this
      omega
    have hx3 := h3
    obtain ⟨p, us, ha5, hl5, hE5⟩ : ∃ (p : Value) (us : List Value), indexAddrV Tryd.prog 30 vx (.int .i64 (i : Int)) = some p ∧ loadV Tryd.prog H4 32 p = some (.agg us.toArray) ∧ Ex H0 us x := by
      obtain ⟨p, us, e1, e2, e3⟩ := h3.at hx
      exact ⟨p, us, e1, e2 _ kH, e3⟩
    obtain ⟨H5, st5, k5, blk5, n5⟩ := alloc_store (H := H4) (sz := 1) (zs := [.int .i64 0, .bool false, .slice none 0 0, .slice none 0 0, .slice none 0 0]) sExpr rfl (v := .agg us.toArray) (ws := us) (by simp [Value.cells]) hE5.len hE5.ones
    have c5 : H5.cells H4.n = some us := by unfold AH.cells; rw [blk5]
    have l5 := load_expr (o := 0) c5 (vs := us) (by rw [List.drop_zero, List.take_of_length_le (by rw [hE5.len]; omega)]) hE5.len
    have hb5 : H5.blk b = .rw 1 [.int .i64 ((c + 1 + nodesAll (args.take i) : Nat) : Int)] := by rw [k5.blk b (by omega)]; exact blk4
    have hxn := nodesAll_get hx
    obtain ⟨_, H6, c6, rfl, ka6, n6, blk6⟩ := ih x (by omega) H0 H5 us b (c + 1 + nodesAll (args.take i)) (deep + 1) hE5 hR (wideAll_get ws hx) (kH.trans k5) hb (by omega) hb5 (by omega) (by omega)
    have k06 : Keep H0 H6 := ka6 H0 (kH.trans k5) hb
    have ka06 : KAt b H H6 := (kaH.trans (k5.kat b)).trans ka6
    apply W_seq; intro d3 hd3
    apply W_block
    apply W_seq; intro d4 hd4
    apply W_region
    simp [t34, t36, ha5, hl5, zExpr, Value.cells, st5]
    show W _ _ d4 _ _; subst hd4
    apply W_seq; intro d4 hd4
    apply W_region
    simp [t1, t2, t3, l5, add1N (x := deep) (by omega), c6]
    show W _ _ d4 _ _; subst hd4
    apply W_seq; intro d4 hd4
    apply W_region
    cases ok with
    | true =>
      simp [t10]
      show W _ _ d4 _ _; subst hd4
      have xd := depth_le_nodes _ x (Nat.le_refl _)
      apply W_region
      simp [t11, add1N (x := x.depth) (by omega), maxN]
      show W _ _ d3 _ _; subst hd3
      apply W_region
      simp [t36, add1N (x := i) (by omega)]
      apply hQ'
      refine ⟨m - 1, by omega, rfl, k06, ka06, by simp; omega, i + 1, x.allGood, max d (x.depth + 1), by omega, ?_, ?_, ?_, by simp [t1], by simp [t2], by simp [t3], by simp, by simp, by simp [t34], by simp [t35], by simp⟩
      · rw [htk, goodAll_append, ← Bool.and_assoc, ← hok]; simp [goodAll]
      · rw [htk, depthAll_append, hd]; simp [depthAll, Nat.max_assoc]
      · show H6.blk b = _
        rw [blk6, hsum]
        congr 4
        omega
    | false =>
      simp [t10]
      show W _ _ d4 _ _; subst hd4
      have xd := depth_le_nodes _ x (Nat.le_refl _)
      apply W_region
      simp [t11, add1N (x := x.depth) (by omega), maxN]
      show W _ _ d3 _ _; subst hd3
      apply W_region
      simp [t36, add1N (x := i) (by omega)]
      apply hQ'
      refine ⟨m - 1, by omega, rfl, k06, ka06, by simp; omega, i + 1, false, max d (x.depth + 1), by omega, ?_, ?_, ?_, by simp [t1], by simp [t2], by simp [t3], by simp, by simp, by simp [t34], by simp [t35], by simp⟩
      · rw [htk, goodAll_append, ← Bool.and_assoc, ← hok]; simp
      · rw [htk, depthAll_append, hd]; simp [depthAll, Nat.max_assoc]
      · show H6.blk b = _
        rw [blk6, hsum]
        congr 4
        omega
  · refine W_cond (t := false) (by simp [hi]) ?_
    apply W_exit
    apply hQ'
    left
    refine ⟨rfl, ?_⟩
    obtain rfl : i = m0 := by omega
    rw [List.take_of_length_le (by omega)] at hok hd blk4
    show W _ _ d1 _ _; subst hd1
    apply W_seq; intro d4 hd4
    apply W_region
    simp [t10, t11]
    show W _ _ d4 _ _; subst hd4
    apply W_ret
    simp
    refine ⟨⟨?_, ?_⟩, kaH, by omega, ?_⟩
    · rw [hok, hg]; simp [ET.allGood]
    · rw [hd]; simp [ET.depth]
    · rw [blk4]
      congr 4
      omega
end
end Go.Proofs.YthlgggcpokfmaaaDoor

/-
  expr: Check, Nodes, Depth; bits.Len.
-/
namespace Go.Proofs.YthlgggcpokfmaaaDoor
open Go Ev
set_option linter.unusedVariables false
set_option linter.unusedSimpArgs false
noncomputable section
set_option maxRecDepth 20000

/-- A tree in the heap, not too great. -/
structure TreeIn (H : AH) (vs : List Value) (t : ET) : Prop where
  ex : Ex H vs t
  rows : RowsIn H
  wide : t.wide 1048576
  nodes : t.nodes ≤ 2000000

theorem TreeIn.keep {H H' : AH} {vs : List Value} {t : ET} (h : TreeIn H vs t) (k : Keep H H') : TreeIn H' vs t := ⟨h.ex.keep k, h.rows.keep k, h.wide, h.nodes⟩

theorem zInt : zeroT Tryd.prog 3 = some (.int .i64 0) := by kernel_rfl

/-- Check's answer. -/
def checkN (t : ET) : Nat := if t.allGood = false then 152 else if 4000 < t.nodes ∨ 200 < t.depth then 151 else 0

/-- The calls of look, over a new count. -/
theorem look_call {H : AH} {vs : List Value} {t : ET} (h : TreeIn H vs t) :
    ∃ H2, storeV Tryd.prog ((H.new 1 vs).new 1 [.int .i64 0]) 3 (.pointer (some ⟨H.n + 1, 0, none⟩)) (.int .i64 0) = some H2 ∧ loadV Tryd.prog H2 32 (.pointer (some ⟨H.n, 0, none⟩)) = some (.agg vs.toArray) ∧
    ∃ H3, callI Tryd.prog cfgR 26 [.agg vs.toArray, .int .i64 1, .pointer (some ⟨H.n + 1, 0, none⟩), .int .i64 4611686018427387903] H2 = some (.tuple #[.bool t.allGood, .int .i64 (t.depth : Int)], H3) ∧ Keep H H3 ∧
    loadV Tryd.prog H3 3 (.pointer (some ⟨H.n + 1, 0, none⟩)) = some (.int .i64 (t.nodes : Int)) := by
  have kB := Keep.new H 1 vs
  have blkB : (H.new 1 vs).blk H.n = .rw 1 vs := by rw [AH.blk_new, if_pos rfl]
  have nB : (H.new 1 vs).n = H.n + 1 := rfl
  obtain ⟨HB, hHB⟩ : ∃ HB, HB = H.new 1 vs := ⟨_, rfl⟩
  rw [← hHB] at kB blkB nB ⊢
  obtain ⟨H2, st2, k2, blk2, n2⟩ := alloc_store (H := HB) (sz := 1) (zs := [.int .i64 0]) sInt rfl (v := .int .i64 0) (ws := [.int .i64 0]) rfl rfl rfl
  rw [nB] at st2 blk2
  have cB2 : H2.cells H.n = some vs := by rw [cells_keep k2 (by omega)]; unfold AH.cells; rw [blkB]
  have l2 := load_expr (o := 0) cB2 (vs := vs) (by rw [List.drop_zero, List.take_of_length_le (by rw [h.ex.len]; omega)]) h.ex.len
  obtain ⟨_, H3, c3, rfl, ka3, n3, blk3⟩ := look_ok _ t (Nat.le_refl _) H H2 vs (H.n + 1) 0 1 h.ex h.rows h.wide (kB.trans k2) (Nat.le_succ _) (by omega) blk2 (by have := h.nodes; omega) (by have := h.nodes; omega)
  rw [Nat.zero_add] at blk3
  have c3 : callI Tryd.prog cfgR 26 [.agg vs.toArray, .int .i64 1, .pointer (some ⟨H.n + 1, 0, none⟩), .int .i64 4611686018427387903] H2 = some (.tuple #[.bool t.allGood, .int .i64 (t.depth : Int)], H3) := c3
  refine ⟨H2, st2, l2, H3, c3, ka3 H (kB.trans k2) (Nat.le_succ _), load_cell aInt (cs := [.int .i64 (t.nodes : Int)]) ?_ rfl⟩
  unfold AH.cells; rw [blk3]

attribute [-simp] Int.natCast_add Int.natCast_mul Int.natCast_ediv Int.natCast_emod Int.natCast_pow
attribute [local simp] strip stripL LW' LR gW evOp oMove oAssign oPick oBinOp oUnOp oConvert oExtract oIndexAddr oIndex oLoad oStore oField oFieldAddr oSlice oMakeSlice oBuildSlice oBuild oAlloc oBox oNilCheck oCall opd opds optOpd plain plain1 Tr.get_set tmOf builtinV binV isShift sameKind undef resultV resOne packV ltNat calleeV parts unV DW grdOf heapOp LX isStore

section
variable {H : AH} {vs : List Value} {t : ET}

theorem new_n (H : AH) (sz : Nat) (cs : List Value) : (H.new sz cs).n = H.n + 1 := rfl

theorem depth_call (h : TreeIn H vs t) : ∃ H', callI Tryd.prog cfgR 17 [.agg vs.toArray] H = some (.int .i64 (t.depth : Int), H') ∧ Keep H H' := by
  suffices hs : CW Tryd.prog cfgR 17 [.agg vs.toArray] H fun v H' => v = .int .i64 (t.depth : Int) ∧ Keep H H' by
    obtain ⟨_, H', hc, rfl, k⟩ := hs
    exact ⟨H', hc, k⟩
  obtain ⟨H2, st, ld, H3, lc, k3, ln⟩ := look_call h
  refine CW_intro 12 (by decide) (by decide) Tryd.func17 rfl rfl ?_
  apply W_seq; intro b1 hb1
  apply W_region
  simp [Value.cells]
  show W _ _ b1 _ _; subst hb1
  apply W_seq; intro b1 hb1
  apply W_region
  simp [zInt, Value.cells, new_n, st]
  show W _ _ b1 _ _; subst hb1
  apply W_seq; intro b1 hb1
  apply W_region
  simp [ld, lc]
  show W _ _ b1 _ _; subst hb1
  apply W_seq; intro b1 hb1
  apply W_region
  simp
  show W _ _ b1 _ _; subst hb1
  apply W_ret
  simp
  exact k3

theorem nodes_call (h : TreeIn H vs t) : ∃ H', callI Tryd.prog cfgR 16 [.agg vs.toArray] H = some (.int .i64 (t.nodes : Int), H') ∧ Keep H H' := by
  suffices hs : CW Tryd.prog cfgR 16 [.agg vs.toArray] H fun v H' => v = .int .i64 (t.nodes : Int) ∧ Keep H H' by
    obtain ⟨_, H', hc, rfl, k⟩ := hs
    exact ⟨H', hc, k⟩
  obtain ⟨H2, st, ld, H3, lc, k3, ln⟩ := look_call h
  refine CW_intro 7 (by decide) (by decide) Tryd.func16 rfl rfl ?_
  apply W_seq; intro b1 hb1
  apply W_region
  simp [Value.cells]
  show W _ _ b1 _ _; subst hb1
  apply W_seq; intro b1 hb1
  apply W_region
  simp [zInt, Value.cells, new_n, st]
  show W _ _ b1 _ _; subst hb1
  apply W_seq; intro b1 hb1
  apply W_region
  simp [ld, lc]
  show W _ _ b1 _ _; subst hb1
  apply W_seq; intro b1 hb1
  apply W_region
  simp [ln]
  show W _ _ b1 _ _; subst hb1
  apply W_ret
  simp
  exact k3

theorem gtrC {k : IntKind} {x y : Nat} {z : Int} (hz : z = (y : Int)) : intBin .gtr k (x : Int) z = some (.bool (decide (y < x))) := by
  subst hz
  show some (Value.bool (decide ((x : Int) > (y : Int)))) = _
  congr 2
  exact decide_eq_decide.mpr (by omega)

set_option maxRecDepth 20000 in
theorem check_call (h : TreeIn H vs t) : ∃ H', callI Tryd.prog cfgR 13 [.agg vs.toArray] H = some (.int .i64 (checkN t : Int), H') ∧ Keep H H' := by
  suffices hs : CW Tryd.prog cfgR 13 [.agg vs.toArray] H fun v H' => v = .int .i64 (checkN t : Int) ∧ Keep H H' by
    obtain ⟨_, H', hc, rfl, k⟩ := hs
    exact ⟨H', hc, k⟩
  obtain ⟨H2, st, ld, H3, lc, k3, ln⟩ := look_call h
  obtain ⟨C, hC⟩ : ∃ C, C = checkN t := ⟨_, rfl⟩
  rw [← hC]
  unfold checkN at hC
  refine CW_intro 21 (by decide) (by decide) Tryd.func13 rfl rfl ?_
  apply W_seq; intro b1 hb1
  apply W_region
  simp [Value.cells]
  show W _ _ b1 _ _; subst hb1
  apply W_seq; intro b1 hb1
  apply W_region
  simp [zInt, Value.cells, new_n, st]
  show W _ _ b1 _ _; subst hb1
  apply W_seq; intro b1 hb1
  apply W_region
  simp [ld, lc]
  show W _ _ b1 _ _; subst hb1
  apply W_seq; intro b1 hb1
  apply W_block
  apply W_seq; intro b2 hb2
  apply W_region
  simp
  show W _ _ b2 _ _; subst hb2
  obtain ⟨g, hg⟩ : ∃ g, g = t.allGood := ⟨_, rfl⟩
  rw [← hg] at hC ⊢
  cases g with
  | false =>
    rw [if_pos rfl] at hC
    subst hC
    refine W_cond (t := true) (by simp) ?_
    apply W_seq; intro b2 hb2
    apply W_region
    simp
    show W _ _ b2 _ _; subst hb2
    apply W_ret
    simp [seqQ, blockQ]
    exact k3
  | true =>
    rw [if_neg (by decide)] at hC
    refine W_cond (t := false) (by simp) ?_
    have g1 : intBin .gtr .i64 (t.nodes : Int) 4000 = some (.bool (decide (4000 < t.nodes))) := gtrC (y := 4000) rfl
    have g2 : intBin .gtr .i64 (t.depth : Int) 200 = some (.bool (decide (200 < t.depth))) := gtrC (y := 200) rfl
    apply W_seq; intro b2 hb2
    apply W_region
    by_cases h1 : 4000 < t.nodes
    · rw [decide_eq_true h1] at g1
      rw [if_pos (.inl h1)] at hC
      subst hC
      simp [ln, g1]
      show W _ _ b2 _ _; subst hb2
      refine W_cond (t := true) (by simp) ?_
      apply W_seq; intro b2 hb2
      apply W_region
      simp
      show W _ _ b2 _ _; subst hb2
      apply W_ret
      simp [seqQ, blockQ]
      exact k3
    · rw [decide_eq_false h1] at g1
      by_cases h2 : 200 < t.depth
      · rw [decide_eq_true h2] at g2
        rw [if_pos (.inr h2)] at hC
        subst hC
        simp [ln, g1, g2]
        show W _ _ b2 _ _; subst hb2
        refine W_cond (t := true) (by simp) ?_
        apply W_seq; intro b2 hb2
        apply W_region
        simp
        show W _ _ b2 _ _; subst hb2
        apply W_ret
        simp [seqQ, blockQ]
        exact k3
      · rw [decide_eq_false h2] at g2
        rw [if_neg (by omega)] at hC
        subst hC
        simp [ln, g1, g2]
        show W _ _ b2 _ _; subst hb2
        refine W_cond (t := false) (by simp) ?_
        apply W_skip
        show W _ _ b1 _ _; subst hb1
        apply W_seq; intro b2 hb2
        apply W_region
        simp
        show W _ _ b2 _ _; subst hb2
        apply W_ret
        simp
        exact k3

theorem bitsLen_call {x : Nat} (hx : x < B64) : callI Tryd.prog cfgR 15 [.int .u64 (x : Int)] H = some (.int .i64 (blen x : Int), H) := by
  have hc : callI Tryd.prog cfgR 28 [.int .u64 (x : Int)] H = some (.int .i64 (blen x : Int), H) := by
    obtain ⟨_, _, hc, rfl, rfl⟩ := len64_spec hx (H := H)
    exact hc
  suffices hs : CW Tryd.prog cfgR 15 [.int .u64 (x : Int)] H fun v H' => v = .int .i64 (blen x : Int) ∧ H' = H by
    obtain ⟨_, H', hc, rfl, rfl⟩ := hs
    exact hc
  refine CW_intro 8 (by decide) (by decide) Tryd.func15 rfl rfl ?_
  apply W_seq; intro b1 hb1
  apply W_region
  simp
  show W _ _ b1 _ _; subst hb1
  apply W_seq; intro b1 hb1
  refine W_cond (t := false) (by simp) ?_
  apply W_skip
  show W _ _ b1 _ _; subst hb1
  apply W_seq; intro b1 hb1
  apply W_region
  simp [hc]
  show W _ _ b1 _ _; subst hb1
  apply W_ret
  simp
end
end
end Go.Proofs.YthlgggcpokfmaaaDoor

/-
  bound.Reach and surdref17.Reach: the least 64 times a power of 2 that is no less; errors.
-/
namespace Go.Proofs.YthlgggcpokfmaaaDoor
open Go Ev
set_option linter.unusedVariables false
set_option linter.unusedSimpArgs false
noncomputable section

/-- What both Reach answer. -/
def ReachIs (need : Int) (v : Value) : Prop :=
  ((need < 1 ∨ 2097152 < need) ∧ v = .tuple #[.int .i64 0, .int .i64 1]) ∨
  (1 ≤ need ∧ need ≤ 2097152 ∧ ∃ j : Nat, j ≤ 15 ∧ need ≤ ((64 * 2 ^ j : Nat) : Int) ∧ (j = 0 ∨ ((64 * 2 ^ (j - 1) : Nat) : Int) < need) ∧ v = .tuple #[.int .i64 ((64 * 2 ^ j : Nat) : Int), .int .i64 0])

theorem ReachIs.uniq {need : Int} {v v' : Value} (h : ReachIs need v) (h' : ReachIs need v') : v = v' := by
  rcases h with ⟨a, rfl⟩ | ⟨a, b, j, c, d, e, rfl⟩
  · rcases h' with ⟨_, rfl⟩ | ⟨a', b', _⟩
    · rfl
    · omega
  · rcases h' with ⟨a', rfl⟩ | ⟨a', b', j', c', d', e', rfl⟩
    · omega
    · have : j = j' := by
        rcases Nat.lt_trichotomy j j' with h | h | h
        · exfalso
          have : 2 ^ j ≤ 2 ^ (j' - 1) := Nat.pow_le_pow_right (by decide) (by omega)
          rcases e' with e' | e' <;> omega
        · exact h
        · exfalso
          have : 2 ^ j' ≤ 2 ^ (j - 1) := Nat.pow_le_pow_right (by decide) (by omega)
          rcases e with e | e <;> omega
      subst this; rfl

attribute [local simp] strip stripL LW' gW evOp oMove oAssign oPick oBinOp oUnOp oConvert oExtract oIndexAddr oIndex oLoad oStore oSlice oMakeSlice oCall opd opds optOpd plain plain1 Tr.get_set tmOf builtinV binV isShift sameKind intBin undef resultV resOne packV calleeV

theorem reach_spec {need : Int} (lo : -9223372036854775808 ≤ need) (hi : need < 9223372036854775808) {H : AH} :
    CW Tryd.prog cfgR 11 [.int .i64 need] H fun v H' => H' = H ∧ ReachIs need v := by
  refine CW_intro 17 (by decide) (by decide) Tryd.func11 rfl rfl ?_
  apply W_seq; intro b1 hb1
  apply W_region
  simp
  show W _ _ b1 _ _; subst hb1
  apply W_seq; intro b1 hb1
  apply W_seq; intro b2 hb2
  apply W_region
  by_cases h1 : need < 1
  · simp [h1]
    show W _ _ b2 _ _; subst hb2
    refine W_cond (t := true) (by simp) ?_
    apply W_seq; intro b2 hb2
    apply W_region
    simp
    show W _ _ b2 _ _; subst hb2
    apply W_ret
    simp [seqQ]
    exact .inl ⟨.inl h1, rfl⟩
  · by_cases h2 : 2097152 < need
    · simp [h1, h2]
      show W _ _ b2 _ _; subst hb2
      refine W_cond (t := true) (by simp) ?_
      apply W_seq; intro b2 hb2
      apply W_region
      simp
      show W _ _ b2 _ _; subst hb2
      apply W_ret
      simp [seqQ]
      exact .inl ⟨.inr h2, rfl⟩
    · simp [h1, h2]
      show W _ _ b2 _ _; subst hb2
      refine W_cond (t := false) (by simp) ?_
      apply W_skip
      show W _ _ b1 _ _; subst hb1
      apply W_seq; intro b1 hb1
      apply W_region
      simp
      show W _ _ b1 _ _; subst hb1
      apply W_seq; intro b1 hb1
      apply W_block
      refine W_loopK (fun m s' => s'.k = 17 ∧ s'.H = H ∧ ∃ j p : Nat, p = 64 * 2 ^ j ∧ m + j = 15 ∧ (j = 0 ∨ ((64 * 2 ^ (j - 1) : Nat) : Int) < need) ∧ s'.tm.get 0 = some (.int .i64 need) ∧ s'.tm.get 4 = some (.int .i64 (p : Int))) ?_ 15 _
        ⟨rfl, rfl, 0, 64, rfl, rfl, .inl rfl, by simp, by simp⟩
      rintro m ⟨k, tm, H2⟩ ⟨hk, hH, j, p, hp, hm, hj, t0, t4⟩ Q' hQ'
      simp only at hk hH t0 t4
      subst hk; subst hH
      apply W_seq; intro b3 hb3
      apply W_seq; intro b4 hb4
      apply W_region
      simp [t4, t0]
      show W _ _ b4 _ _; subst hb4
      by_cases h : (p : Int) < need
      · have hj15 : j < 15 := by
          rcases Nat.lt_or_ge j 15 with h' | h'
          · exact h'
          · exfalso
            have : 2 ^ 15 ≤ 2 ^ j := Nat.pow_le_pow_right (by decide) h'
            omega
        have hp2 : p * 2 = 64 * 2 ^ (j + 1) := by rw [hp, Nat.pow_succ]; omega
        have hw : IntKind.i64.wrap ((p : Int) * 2) = ((p * 2 : Nat) : Int) := by
          rw [IntKind.wrap_i64]; omega
        refine W_cond (t := true) (by simp; omega) ?_
        apply W_skip
        show W _ _ b3 _ _; subst hb3
        apply W_block
        apply W_region
        simp [t4, t0, hw]
        apply hQ'
        refine ⟨14 - j, by omega, rfl, rfl, j + 1, p * 2, hp2, by omega, .inr (by rw [Nat.add_sub_cancel, ← hp]; exact h), by simp [t0], ?_⟩
        simp
      · refine W_cond (t := false) (by simp; omega) ?_
        apply W_exit
        apply hQ'
        left
        refine ⟨rfl, ?_⟩
        show W _ _ b1 _ _; subst hb1
        apply W_seq; intro b4 hb4
        apply W_region
        simp [t4, t0]
        show W _ _ b4 _ _; subst hb4
        apply W_ret
        simp
        exact .inr ⟨by omega, by omega, j, by omega, by omega, hj, by rw [← hp]⟩
theorem reachRef_spec {need : Int} (lo : -9223372036854775808 ≤ need) (hi : need < 9223372036854775808) {H : AH} :
    CW Tryd.prog cfgR 12 [.int .i64 need] H fun v H' => H' = H ∧ ReachIs need v := by
  refine CW_intro 17 (by decide) (by decide) Tryd.func12 rfl rfl ?_
  apply W_seq; intro b1 hb1
  apply W_region
  simp
  show W _ _ b1 _ _; subst hb1
  apply W_seq; intro b1 hb1
  apply W_seq; intro b2 hb2
  apply W_region
  by_cases h1 : need < 1
  · simp [h1]
    show W _ _ b2 _ _; subst hb2
    refine W_cond (t := true) (by simp) ?_
    apply W_seq; intro b2 hb2
    apply W_region
    simp
    show W _ _ b2 _ _; subst hb2
    apply W_ret
    simp [seqQ]
    exact .inl ⟨.inl h1, rfl⟩
  · by_cases h2 : 2097152 < need
    · simp [h1, h2]
      show W _ _ b2 _ _; subst hb2
      refine W_cond (t := true) (by simp) ?_
      apply W_seq; intro b2 hb2
      apply W_region
      simp
      show W _ _ b2 _ _; subst hb2
      apply W_ret
      simp [seqQ]
      exact .inl ⟨.inr h2, rfl⟩
    · simp [h1, h2]
      show W _ _ b2 _ _; subst hb2
      refine W_cond (t := false) (by simp) ?_
      apply W_skip
      show W _ _ b1 _ _; subst hb1
      apply W_seq; intro b1 hb1
      apply W_region
      simp
      show W _ _ b1 _ _; subst hb1
      apply W_seq; intro b1 hb1
      apply W_block
      refine W_loopK (fun m s' => s'.k = 17 ∧ s'.H = H ∧ ∃ j p : Nat, p = 64 * 2 ^ j ∧ m + j = 15 ∧ (j = 0 ∨ ((64 * 2 ^ (j - 1) : Nat) : Int) < need) ∧ s'.tm.get 0 = some (.int .i64 need) ∧ s'.tm.get 4 = some (.int .i64 (p : Int))) ?_ 15 _
        ⟨rfl, rfl, 0, 64, rfl, rfl, .inl rfl, by simp, by simp⟩
      rintro m ⟨k, tm, H2⟩ ⟨hk, hH, j, p, hp, hm, hj, t0, t4⟩ Q' hQ'
      simp only at hk hH t0 t4
      subst hk; subst hH
      apply W_seq; intro b3 hb3
      apply W_seq; intro b4 hb4
      apply W_region
      simp [t4, t0]
      show W _ _ b4 _ _; subst hb4
      by_cases h : (p : Int) < need
      · have hj15 : j < 15 := by
          rcases Nat.lt_or_ge j 15 with h' | h'
          · exact h'
          · exfalso
            have : 2 ^ 15 ≤ 2 ^ j := Nat.pow_le_pow_right (by decide) h'
            omega
        have hp2 : p * 2 = 64 * 2 ^ (j + 1) := by rw [hp, Nat.pow_succ]; omega
        have hw : IntKind.i64.wrap ((p : Int) * 2) = ((p * 2 : Nat) : Int) := by
          rw [IntKind.wrap_i64]; omega
        refine W_cond (t := true) (by simp; omega) ?_
        apply W_skip
        show W _ _ b3 _ _; subst hb3
        apply W_block
        apply W_region
        simp [t4, t0, hw]
        apply hQ'
        refine ⟨14 - j, by omega, rfl, rfl, j + 1, p * 2, hp2, by omega, .inr (by rw [Nat.add_sub_cancel, ← hp]; exact h), by simp [t0], ?_⟩
        simp
      · refine W_cond (t := false) (by simp; omega) ?_
        apply W_exit
        apply hQ'
        left
        refine ⟨rfl, ?_⟩
        show W _ _ b1 _ _; subst hb1
        apply W_seq; intro b4 hb4
        apply W_region
        simp [t4, t0]
        show W _ _ b4 _ _; subst hb4
        apply W_ret
        simp
        exact .inr ⟨by omega, by omega, j, by omega, by omega, hj, by rw [← hp]⟩

theorem callI_of_run {n : Nat} {C : Cfg} {f : FuncId} {args : List Value} {H : AH} {r : Value × AH} (h : run Tryd.prog C n f args H = some r) : callI Tryd.prog C f args H = some r :=
  call_evI n f args H r h

set_option maxRecDepth 100000 in
theorem lives_runs : saysTrue (run Tryd.prog cfgR 100000 7 [] rowsHeap) = true := by kernel_rfl

theorem lives_call : ∃ H', callI Tryd.prog cfgR 7 [] rowsHeap = some (.bool true, H') := by
  obtain ⟨H', h⟩ := saysTrue_some lives_runs
  exact ⟨H', callI_of_run h⟩

theorem law_spec {need : Int} (lo : -9223372036854775808 ≤ need) (hi : need < 9223372036854775808) :
    CW Tryd.prog cfgR 5 [.int .i64 need] rowsHeap fun v H' => v = .bool true := by
  refine CW_intro 42 (by decide) (by decide) Tryd.func5 rfl rfl ?_
  obtain ⟨v1, H1, hc1, e1, r1⟩ := reach_spec lo hi (H := rowsHeap)
  obtain ⟨v2, H2, hc2, e2, r2⟩ := reachRef_spec lo hi (H := rowsHeap)
  subst e1; subst e2
  obtain rfl := r1.uniq r2
  obtain ⟨H3, hl⟩ := lives_call
  apply W_seq; intro b1 hb1
  apply W_region
  simp
  show W _ _ b1 _ _; subst hb1
  rcases r1 with ⟨a, rfl⟩ | ⟨a, b, j, c, d, e, rfl⟩
  · apply W_seq; intro b1 hb1
    apply W_region
    simp [hc1]
    show W _ _ b1 _ _; subst hb1
    apply W_seq; intro b1 hb1
    apply W_region
    simp [hc2]
    show W _ _ b1 _ _; subst hb1
    apply W_seq; intro b1 hb1
    apply W_region
    simp [hl]
    show W _ _ b1 _ _; subst hb1
    apply W_ret
    simp
  · obtain ⟨p, hp⟩ : ∃ p : Nat, p = 64 * 2 ^ j := ⟨_, rfl⟩
    rw [← hp] at hc1 hc2 d
    have hw : IntKind.i64.wrap (2 * need) = 2 * need := by rw [IntKind.wrap_i64]; omega
    have hlt : ¬ need ≤ 64 → (p : Int) < 2 * need := by
      intro h
      rcases e with e | e
      · subst e; omega
      · by_cases hj : j = 0
        · subst hj; omega
        · have : 2 ^ j = 2 * 2 ^ (j - 1) := by rw [← Nat.pow_succ']; congr 1; omega
          omega
    apply W_seq; intro b1 hb1
    apply W_region
    simp [hc1]
    show W _ _ b1 _ _; subst hb1
    apply W_seq; intro b1 hb1
    apply W_region
    simp [hc2]
    show W _ _ b1 _ _; subst hb1
    apply W_seq; intro b1 hb1
    apply W_region
    by_cases h64 : need ≤ 64
    · simp [hl, h64]
      show W _ _ b1 _ _; subst hb1
      apply W_ret
      simp
    · simp [hl, h64, hw, hlt h64]
      show W _ _ b1 _ _; subst hb1
      apply W_ret
      simp
end
end Go.Proofs.YthlgggcpokfmaaaDoor

/-
  bound: Need; the law's one and lives.
-/
namespace Go.Proofs.YthlgggcpokfmaaaDoor
open Go Ev
set_option linter.unusedVariables false
set_option linter.unusedSimpArgs false
noncomputable section
set_option maxRecDepth 20000

def inRange (n clear size : Int) : Prop := -1048576 ≤ n ∧ n ≤ 1048576 ∧ 0 ≤ clear ∧ clear ≤ 1048576 ∧ 0 ≤ size ∧ size ≤ 1048576
instance (n clear size : Int) : Decidable (inRange n clear size) := by unfold inRange; exact inferInstance

def needN (t : ET) (n clear size : Nat) : Nat := n + (t.depth + 2) * (2 * clear + 2 * size + 16) + 2 * blen t.nodes + 128

/-- Need's answer. -/
def needA (t : ET) (n clear size : Int) : Nat × Nat :=
  if checkN t ≠ 0 then (0, checkN t) else if inRange n clear size then (needN t n.toNat clear.toNat size.toNat, 0) else (0, 1)
def needV (r : Nat × Nat) : Value := .tuple #[.int .i64 (r.1 : Int), .int .i64 (r.2 : Int)]

theorem mulN {x y : Nat} (h : x * y < 9223372036854775808) : intBin .mul .i64 (x : Int) (y : Int) = some (.int .i64 ((x * y : Nat) : Int)) := by
  show some (Value.int .i64 (IntKind.i64.wrap ((x : Int) * y))) = _
  rw [← Int.natCast_mul, wrap_nat h]
theorem mul2N {x : Nat} (h : 2 * x < 9223372036854775808) : intBin .mul .i64 2 (x : Int) = some (.int .i64 ((2 * x : Nat) : Int)) := mulN (x := 2) h

theorem conv_uint {n : Nat} (h : n < 9223372036854775808) : convV Tryd.prog 3 51 (.int .i64 (n : Int)) = some (.int .u64 (n : Int)) := by
  have e : IntKind.u64.wrap (n : Int) = (n : Int) := by rw [IntKind.wrap_u64]; omega
  unfold convV
  simp only [Tryd.underlying3, Tryd.underlying51, e]

theorem checkN_zero {t : ET} (h : checkN t = 0) : t.allGood = true ∧ t.nodes ≤ 4000 ∧ t.depth ≤ 200 := by
  unfold checkN at h
  split at h
  · exact absurd h (by decide)
  · rename_i h1
    split at h
    · exact absurd h (by decide)
    · rename_i h2
      exact ⟨by simpa using h1, by omega, by omega⟩

theorem checkN_lt (t : ET) : checkN t < 1000 := by
  unfold checkN
  split
  · decide
  · split <;> decide

attribute [-simp] Int.natCast_add Int.natCast_mul Int.natCast_ediv Int.natCast_emod Int.natCast_pow
attribute [local simp] strip stripL LW' LR gW evOp oMove oAssign oPick oBinOp oUnOp oConvert oExtract oIndexAddr oIndex oLoad oStore oField oFieldAddr oSlice oMakeSlice oBuildSlice oBuild oAlloc oBox oNilCheck oCall opd opds optOpd plain plain1 Tr.get_set tmOf builtinV binV isShift sameKind undef resultV resOne packV ltNat calleeV parts unV DW grdOf heapOp LX isStore

section
variable {H : AH} {vs : List Value} {t : ET}

set_option maxRecDepth 20000 in
theorem need_call (h : TreeIn H vs t) (n clear size : Int) : ∃ H', callI Tryd.prog cfgR 8 [.agg vs.toArray, .int .i64 n, .int .i64 clear, .int .i64 size] H = some (needV (needA t n clear size), H') ∧ Keep H H' := by
  suffices hs : CW Tryd.prog cfgR 8 [.agg vs.toArray, .int .i64 n, .int .i64 clear, .int .i64 size] H fun v H' => v = needV (needA t n clear size) ∧ Keep H H' by
    obtain ⟨_, H', hc, rfl, k⟩ := hs
    exact ⟨H', hc, k⟩
  obtain ⟨r, hr⟩ : ∃ r, r = needA t n clear size := ⟨_, rfl⟩
  rw [← hr]
  unfold needA at hr
  unfold needV
  refine CW_intro 60 (by decide) (by decide) Tryd.func8 rfl rfl ?_
  have kB := Keep.new H 1 vs
  have cB := new_cells H 1 vs
  have nB : (H.new 1 vs).n = H.n + 1 := rfl
  obtain ⟨HB, hHB⟩ : ∃ HB, HB = H.new 1 vs := ⟨_, rfl⟩
  rw [← hHB] at kB cB nB
  have lb : ∀ {H'}, Keep HB H' → loadV Tryd.prog H' 32 (.pointer (some ⟨H.n, 0, none⟩)) = some (.agg vs.toArray) := fun k =>
    load_expr (o := 0) ((cells_keep k (by omega)).trans cB) (by rw [List.drop_zero, List.take_of_length_le (by rw [h.ex.len]; omega)]) h.ex.len
  have l1 := lb (.refl HB)
  obtain ⟨H2, c2, k2⟩ := check_call (h.keep kB)
  have l2 := lb k2
  have k02 := kB.trans k2
  apply W_seq; intro b1 hb1
  apply W_region
  simp [Value.cells, ← hHB]
  show W _ _ b1 _ _; subst hb1
  apply W_seq; intro b1 hb1
  apply W_seq; intro b2 hb2
  apply W_region
  simp [l1, c2]
  show W _ _ b2 _ _; subst hb2
  have ck := checkN_lt t
  have e1 : intBin .neq .i64 (checkN t : Int) 0 = some (.bool (decide (checkN t ≠ 0))) := neqN (y := 0)
  obtain ⟨C, hC⟩ : ∃ C, C = checkN t := ⟨_, rfl⟩
  rw [← hC] at hr e1 ck ⊢
  apply W_seq; intro b2 hb2
  apply W_region
  by_cases h0 : C ≠ 0
  · rw [if_pos h0] at hr
    rw [decide_eq_true h0] at e1
    subst hr
    simp [e1]
    show W _ _ b2 _ _; subst hb2
    refine W_cond (t := true) (by simp) ?_
    apply W_seq; intro b2 hb2
    apply W_region
    simp
    show W _ _ b2 _ _; subst hb2
    apply W_ret
    simp [seqQ]
    exact k02
  rw [if_neg h0] at hr
  rw [decide_eq_false h0] at e1
  simp [e1]
  show W _ _ b2 _ _; subst hb2
  refine W_cond (t := false) (by simp) ?_
  apply W_skip
  show W _ _ b1 _ _; subst hb1
  have h0 : C = 0 := by omega
  obtain ⟨_, hnodes, hdepth⟩ := checkN_zero (hC.symm.trans h0)
  apply W_seq; intro b1 hb1
  apply W_seq; intro b2 hb2
  have no : ∀ tm : Tr Value, tm.get 38 = some (.bool true) → ¬ inRange n clear size → W Tryd.prog cfgR b2 ⟨60, tm, H2⟩ (seqQ Tryd.prog cfgR b1 fun ex s => (ex = .norm ∨ ex = .ret) ∧ ∃ vs, resultV Tryd.prog s [.tmp 8, .tmp 9] = some vs ∧ packV vs = .tuple #[.int .i64 (r.1 : Int), .int .i64 (r.2 : Int)] ∧ Keep H s.H) := fun tm ht hno => by
    rw [if_neg hno] at hr
    subst hr
    subst hb2
    refine W_cond (t := true) (by simp [ht]) ?_
    apply W_seq; intro b2 hb2
    apply W_region
    simp
    show W _ _ b2 _ _; subst hb2
    apply W_ret
    simp [seqQ]
    exact k02
  have f1 : intBin .lss .i64 n (-1048576) = some (.bool (decide (n < -1048576))) := rfl
  have f2 : intBin .gtr .i64 n 1048576 = some (.bool (decide (n > 1048576))) := rfl
  have f3 : intBin .lss .i64 clear 0 = some (.bool (decide (clear < 0))) := rfl
  have f4 : intBin .gtr .i64 clear 1048576 = some (.bool (decide (clear > 1048576))) := rfl
  have f5 : intBin .lss .i64 size 0 = some (.bool (decide (size < 0))) := rfl
  have f6 : intBin .gtr .i64 size 1048576 = some (.bool (decide (size > 1048576))) := rfl
  apply W_region
  by_cases g1 : n < -1048576
  · rw [decide_eq_true g1] at f1
    simp [f1]
    show W _ _ b2 _ _
    exact no _ (by simp) (fun h => by unfold inRange at h; omega)
  rw [decide_eq_false g1] at f1
  by_cases g2 : n > 1048576
  · rw [decide_eq_true g2] at f2
    simp [f1, f2]
    show W _ _ b2 _ _
    exact no _ (by simp) (fun h => by unfold inRange at h; omega)
  rw [decide_eq_false g2] at f2
  by_cases g3 : clear < 0
  · rw [decide_eq_true g3] at f3
    simp [f1, f2, f3]
    show W _ _ b2 _ _
    exact no _ (by simp) (fun h => by unfold inRange at h; omega)
  rw [decide_eq_false g3] at f3
  by_cases g4 : clear > 1048576
  · rw [decide_eq_true g4] at f4
    simp [f1, f2, f3, f4]
    show W _ _ b2 _ _
    exact no _ (by simp) (fun h => by unfold inRange at h; omega)
  rw [decide_eq_false g4] at f4
  by_cases g5 : size < 0
  · rw [decide_eq_true g5] at f5
    simp [f1, f2, f3, f4, f5]
    show W _ _ b2 _ _
    exact no _ (by simp) (fun h => by unfold inRange at h; omega)
  rw [decide_eq_false g5] at f5
  by_cases g6 : size > 1048576
  · rw [decide_eq_true g6] at f6
    simp [f1, f2, f3, f4, f5, f6]
    show W _ _ b2 _ _
    exact no _ (by simp) (fun h => by unfold inRange at h; omega)
  rw [decide_eq_false g6] at f6
  clear no
  rw [if_pos (by unfold inRange; omega)] at hr
  obtain ⟨nn, hnn⟩ : ∃ nn, nn = n.toNat := ⟨_, rfl⟩
  obtain ⟨c, rfl⟩ : ∃ c : Nat, clear = (c : Int) := ⟨clear.toNat, by omega⟩
  obtain ⟨s, rfl⟩ : ∃ s : Nat, size = (s : Int) := ⟨size.toNat, by omega⟩
  rw [← hnn, Int.toNat_natCast, Int.toNat_natCast] at hr
  simp [f1, f2, f3, f4, f5, f6]
  show W _ _ b2 _ _; subst hb2
  refine W_cond (t := false) (by simp) ?_
  apply W_skip
  show W _ _ b1 _ _; subst hb1
  obtain ⟨H3, c3, k3⟩ := nodes_call (h.keep k02)
  have l3 := lb (k2.trans k3)
  have k03 := k02.trans k3
  obtain ⟨H4, c4, k4⟩ := depth_call (h.keep k03)
  have c5 := bitsLen_call (H := H3) (x := t.nodes) (by have : B64 = 18446744073709551616 := rfl; omega)
  have bl : blen t.nodes ≤ 64 := by
    have := blen_small (xs := [t.nodes]) (Dig.cons (by have : B64 = 18446744073709551616 := rfl; omega) (.nil _)) (L := 1) (by simp)
    simpa [dv] using this
  have mx : minmaxV true [.int .i64 n, .int .i64 0] = some (.int .i64 (nn : Int)) := by
    unfold minmaxV
    simp only [sameKind, BEq.rfl, cond_true]
    congr 2
    by_cases h : n < 0
    · rw [if_pos h]; omega
    · rw [if_neg h]; omega
  obtain ⟨W1, hW1⟩ : ∃ W1, W1 = 2 * c + 2 * s + 16 := ⟨_, rfl⟩
  obtain ⟨P, hP⟩ : ∃ P, P = (t.depth + 2) * W1 := ⟨_, rfl⟩
  have hPle : P ≤ 202 * W1 := by rw [hP]; exact Nat.mul_le_mul_right _ (by omega)
  have a3 : intBin .add .i64 ((2 * c : Nat) : Int) ((2 * s : Nat) : Int) = some (.int .i64 ((2 * c + 2 * s : Nat) : Int)) := addN (by omega)
  have a4 : intBin .add .i64 ((2 * c + 2 * s : Nat) : Int) 16 = some (.int .i64 (W1 : Int)) := by rw [hW1]; exact addN (y := 16) (by omega)
  have a5 : intBin .add .i64 (t.depth : Int) 2 = some (.int .i64 ((t.depth + 2 : Nat) : Int)) := addN (y := 2) (by omega)
  have m6 : intBin .mul .i64 ((t.depth + 2 : Nat) : Int) (W1 : Int) = some (.int .i64 (P : Int)) := by rw [hP]; exact mulN (by omega)
  have a7 : intBin .add .i64 (nn : Int) (P : Int) = some (.int .i64 ((nn + P : Nat) : Int)) := addN (by omega)
  have a9 : intBin .add .i64 ((nn + P : Nat) : Int) ((2 * blen t.nodes : Nat) : Int) = some (.int .i64 ((nn + P + 2 * blen t.nodes : Nat) : Int)) := addN (by omega)
  have a10 : intBin .add .i64 ((nn + P + 2 * blen t.nodes : Nat) : Int) 128 = some (.int .i64 ((nn + P + 2 * blen t.nodes + 128 : Nat) : Int)) := addN (y := 128) (by omega)
  apply W_seq; intro b1 hb1
  apply W_region
  simp [l2, c3, conv_uint (n := t.nodes) (by omega), c5]
  show W _ _ b1 _ _; subst hb1
  apply W_seq; intro b1 hb1
  apply W_region
  simp [mx, l3, c4, a5, mul2N (x := c) (by omega), mul2N (x := s) (by omega), a3, a4, m6, a7, mul2N (x := blen t.nodes) (by omega), a9, a10]
  show W _ _ b1 _ _; subst hb1
  apply W_ret
  simp
  refine ⟨?_, k03.trans k4⟩
  rw [hr, needN, hP, hW1]
  exact ⟨rfl, rfl⟩
end
end
end Go.Proofs.YthlgggcpokfmaaaDoor

/-
  LISTS OF LIMBS: make, write. div.up.
-/
namespace Go.Proofs.YthlgggcpokfmaaaDoor
open Go Ev
set_option linter.unusedVariables false
set_option linter.unusedSimpArgs false
noncomputable section
set_option maxRecDepth 20000

theorem zeros_limb (n : Nat) : zeros (Value.int .u64 0).cells n = (List.replicate n 0).map limb := by
  unfold zeros
  apply List.ext_getElem?
  intro i
  rw [List.getElem?_map, List.getElem?_map, List.getElem?_replicate]
  by_cases h : i < n
  · rw [if_pos h, List.getElem?_range h]
    simp [limb, Value.cells, Nat.mod_one]
  · rw [if_neg h, List.getElem?_eq_none (by simp; omega)]
    rfl

theorem makeSlice_own {H : AH} {t : TypeId} (ht : LT t) {n : Nat} (hn : n ≤ 17592186044416) :
    ∃ v H', makeSliceV Tryd.prog H t (.int .i64 (n : Int)) (.int .i64 (n : Int)) = some (v, H') ∧ Keep H H' ∧ Own H.n H' v (List.replicate n 0) ∧ H'.n = H.n + 1 := by
  refine ⟨.slice (some ⟨H.n, 0, none⟩) n n, H.new 1 ((List.replicate n 0).map limb), ?_, .new _ _ _, ?_, rfl⟩
  · unfold makeSliceV
    simp only [ht.2, zU64]
    rw [if_pos (by omega)]
    simp only [Int.toNat_natCast, Nat.mul_one, zeros_limb]
  · have := Own.new H (List.replicate n 0)
    rwa [List.length_replicate] at this

/-- A write: the list changes, and nothing else. -/
theorem Own.store {n : Nat} {H : AH} {v : Value} {xs : List Nat} (h : Own n H v xs) {i : Nat} (hi : i < xs.length) (y : Nat) :
    ∃ H', storeV Tryd.prog H 65 (adr v i) (.int .u64 (y : Int)) = some H' ∧ Own n H' v (xs.set i y) ∧ H'.n = H.n ∧
      ∀ H0, Keep H0 H → H0.n ≤ n → Keep H0 H' := by
  cases h with
  | nil => cases hi
  | mk b o cap xs cs h1 h2 h3 h4 h5 h6 =>
    have hlen : Nat.ble (o + i + 1) cs.length = true := Nat.ble_eq.mpr (by omega)
    have e0 : (Value.int .u64 (y : Int)).cells = #[.int .u64 (y : Int)] := rfl
    have hw : H.write b (o + i) [.int .u64 (y : Int)] = some { n := H.n, lw := min H.lw b, t := H.t.set b (.rw 1 (cs.take (o + i) ++ [.int .u64 (y : Int)] ++ cs.drop (o + i + 1))) } := by
      rw [AH.write_def, h4]
      simp only [List.length_singleton, hlen, Bool.true_and]
      rfl
    refine ⟨{ n := H.n, lw := min H.lw b, t := H.t.set b (.rw 1 (cs.take (o + i) ++ [.int .u64 (y : Int)] ++ cs.drop (o + i + 1))) }, ?_, ?_, rfl, ?_⟩
    · unfold storeV Go.Proofs.YthlgggcpokfmaaaDoor.adr
      simp only [sU64, e0]
      rw [show Nat.beq (#[Value.int .u64 (y : Int)] : Array Value).size 1 = true from rfl, cond_true]
      exact hw
    · have hl : (xs.set i y).length = xs.length := List.length_set
      rw [← hl]
      refine .mk b o cap _ (cs.take (o + i) ++ [.int .u64 (y : Int)] ++ cs.drop (o + i + 1)) (by omega) h2 h3 ?_ ?_ ?_
      · unfold AH.blk; simp only [Tr.get_set, if_true]
      · simp only [List.length_append, List.length_take, List.length_drop, List.length_singleton]; omega
      · intro j x hj
        rw [List.getElem?_set] at hj
        by_cases e : i = j
        · subst e
          rw [if_pos rfl, if_pos hi] at hj
          cases hj
          rw [List.append_assoc, List.getElem?_append_right (by rw [List.length_take]; omega)]
          rw [List.length_take, show o + i - min (o + i) cs.length = 0 by omega]
          rfl
        · rw [if_neg e] at hj
          have := h6 j x hj
          rcases Nat.lt_or_ge (o + j) (o + i) with hlt | hge
          · rw [List.append_assoc, List.getElem?_append_left (by rw [List.length_take]; omega), List.getElem?_take, if_pos hlt]
            exact this
          · rw [List.getElem?_append_right (by simp only [List.length_append, List.length_take, List.length_singleton]; omega), List.getElem?_drop]
            simp only [List.length_append, List.length_take, List.length_singleton]
            rw [show o + i + 1 + (o + j - (min (o + i) cs.length + 1)) = o + j by omega]
            exact this
    · intro H0 k hn
      refine ⟨k.n, ?_, fun j hj => ?_⟩
      · have := k.lw
        show min H0.lw H0.n ≤ min H.lw b
        omega
      · have : j ≠ b := by omega
        rw [← k.blk j hj]
        unfold AH.blk
        simp only [Tr.get_set, if_neg this]
end
end Go.Proofs.YthlgggcpokfmaaaDoor

/-
  u64 arithmetic as naturals: or, and, shifts, sums. div.up, div.down.
-/
namespace Go.Proofs.YthlgggcpokfmaaaDoor
open Go Ev
set_option linter.unusedVariables false
set_option linter.unusedSimpArgs false
noncomputable section
set_option maxRecDepth 20000

theorem bv_nat {x : Nat} (h : x < B64) : (BitVec.ofInt 64 (x : Int)).toNat = x := by
  have h : x < 18446744073709551616 := h
  simp [BitVec.toNat_ofInt]
  omega

theorem or_u64 {x y : Nat} (hx : x < B64) (hy : y < B64) : intBin .or .u64 (x : Int) (y : Int) = some (.int .u64 ((x ||| y : Nat) : Int)) := by
  have h : x ||| y < 2 ^ 64 := Nat.or_lt_two_pow hx hy
  have e : (BitVec.ofInt 64 (x : Int) ||| BitVec.ofInt 64 (y : Int)).toNat = x ||| y := by rw [BitVec.toNat_or, bv_nat hx, bv_nat hy]
  show some (Value.int .u64 (IntKind.u64.wrap ((BitVec.ofInt 64 (x : Int) ||| BitVec.ofInt 64 (y : Int)).toNat : Nat))) = _
  rw [e, IntKind.wrap_u64]
  have h : x ||| y < 18446744073709551616 := h
  rw [Int.emod_eq_of_lt (by omega) (by omega)]

theorem and_u64 {x y : Nat} (hx : x < B64) (hy : y < B64) : intBin .and .u64 (x : Int) (y : Int) = some (.int .u64 ((x &&& y : Nat) : Int)) := by
  have h : x &&& y < 2 ^ 64 := Nat.and_lt_two_pow _ hy
  have e : (BitVec.ofInt 64 (x : Int) &&& BitVec.ofInt 64 (y : Int)).toNat = x &&& y := by rw [BitVec.toNat_and, bv_nat hx, bv_nat hy]
  show some (Value.int .u64 (IntKind.u64.wrap ((BitVec.ofInt 64 (x : Int) &&& BitVec.ofInt 64 (y : Int)).toNat : Nat))) = _
  rw [e, IntKind.wrap_u64]
  have h : x &&& y < 18446744073709551616 := h
  rw [Int.emod_eq_of_lt (by omega) (by omega)]

theorem shl_u64 {x s : Nat} (hs : s ≤ 64) : shiftBin .shl .u64 (x : Int) (s : Int) = some (.int .u64 ((x * 2 ^ s % B64 : Nat) : Int)) := by
  unfold shiftBin
  rw [if_neg (by omega)]
  simp only [show IntKind.u64.bits = 64 from rfl, Int.toNat_natCast, Nat.min_eq_left hs, IntKind.wrap_u64]
  congr 2

theorem shr_u64 {x s : Nat} (hs : s ≤ 64) : shiftBin .shr .u64 (x : Int) (s : Int) = some (.int .u64 ((x / 2 ^ s : Nat) : Int)) := by
  unfold shiftBin
  rw [if_neg (by omega)]
  simp only [show IntKind.u64.bits = 64 from rfl, Int.toNat_natCast, Nat.min_eq_left hs]
  rw [fdiv_nat]

theorem add_u64 {x y : Nat} : intBin .add .u64 (x : Int) (y : Int) = some (.int .u64 (((x + y) % B64 : Nat) : Int)) := by
  unfold intBin
  simp only [IntKind.wrap_u64]
  congr 2

theorem mul_u64 {x y : Nat} : intBin .mul .u64 (x : Int) (y : Int) = some (.int .u64 ((x * y % B64 : Nat) : Int)) := by
  unfold intBin
  simp only [IntKind.wrap_u64]
  congr 2

theorem add_i64 {x y : Nat} (h : x + y < 9223372036854775808) : intBin .add .i64 (x : Int) (y : Int) = some (.int .i64 ((x + y : Nat) : Int)) := by
  show some (Value.int .i64 (IntKind.i64.wrap ((x : Int) + (y : Int)))) = _
  have e : IntKind.i64.wrap ((x : Int) + (y : Int)) = ((x + y : Nat) : Int) := by rw [IntKind.wrap_i64]; omega
  rw [e]
theorem add1_i64 {x : Nat} (h : x < 9223372036854775800) : intBin .add .i64 (x : Int) 1 = some (.int .i64 ((x + 1 : Nat) : Int)) := by
  have := add_i64 (x := x) (y := 1) (by omega)
  simpa using this
theorem sub_i64 {x y : Nat} (h : x < 9223372036854775808) (hy : y ≤ x) : intBin .sub .i64 (x : Int) (y : Int) = some (.int .i64 ((x - y : Nat) : Int)) := by
  show some (Value.int .i64 (IntKind.i64.wrap ((x : Int) - (y : Int)))) = _
  have e : IntKind.i64.wrap ((x : Int) - (y : Int)) = ((x - y : Nat) : Int) := by rw [IntKind.wrap_i64]; omega
  rw [e]
theorem sub1_i64 {x : Nat} (h : x < 9223372036854775808) (hx : 0 < x) : intBin .sub .i64 (x : Int) 1 = some (.int .i64 ((x - 1 : Nat) : Int)) := by
  have := sub_i64 (x := x) (y := 1) h hx
  simpa using this
theorem sub_u64 {x y : Nat} (hx : x < B64) (hy : y ≤ x) : intBin .sub .u64 (x : Int) (y : Int) = some (.int .u64 ((x - y : Nat) : Int)) := by
  have hx : x < 18446744073709551616 := hx
  show some (Value.int .u64 (IntKind.u64.wrap ((x : Int) - (y : Int)))) = _
  have e : IntKind.u64.wrap ((x : Int) - (y : Int)) = ((x - y : Nat) : Int) := by rw [IntKind.wrap_u64]; omega
  rw [e]
theorem lss_nat {k : IntKind} {x y : Nat} : intBin .lss k (x : Int) (y : Int) = some (.bool (decide (x < y))) := by
  show some (Value.bool (decide ((x : Int) < (y : Int)))) = _
  congr 2; simp
theorem leq_nat {k : IntKind} {x y : Nat} : intBin .leq k (x : Int) (y : Int) = some (.bool (decide (x ≤ y))) := by
  show some (Value.bool (decide ((x : Int) ≤ (y : Int)))) = _
  congr 2; simp
theorem gtr_nat {k : IntKind} {x y : Nat} : intBin .gtr k (x : Int) (y : Int) = some (.bool (decide (y < x))) := by
  show some (Value.bool (decide ((x : Int) > (y : Int)))) = _
  congr 2; simp
theorem geq_nat {k : IntKind} {x y : Nat} : intBin .geq k (x : Int) (y : Int) = some (.bool (decide (y ≤ x))) := by
  show some (Value.bool (decide ((x : Int) ≥ (y : Int)))) = _
  congr 2; simp
theorem eql_nat {k : IntKind} {x y : Nat} : intBin .eql k (x : Int) (y : Int) = some (.bool (decide (x = y))) := by
  show some (Value.bool ((x : Int) == (y : Int))) = _
  congr 2
  by_cases h : x = y
  · simp [h]
  · have : ¬ (x : Int) = (y : Int) := by omega
    simp [h, this]
theorem neq_nat {k : IntKind} {x y : Nat} : intBin .neq k (x : Int) (y : Int) = some (.bool (decide (x ≠ y))) := by
  show some (Value.bool ((x : Int) != (y : Int))) = _
  congr 2
  by_cases h : x = y
  · simp [h]
  · have : ¬ (x : Int) = (y : Int) := by omega
    simp [h, this]

theorem or_add {s a b : Nat} (hb : b < 2 ^ s) : (a * 2 ^ s) ||| b = a * 2 ^ s + b := by
  rw [Nat.mul_comm, Nat.two_pow_add_eq_or_of_lt hb]
end
end Go.Proofs.YthlgggcpokfmaaaDoor

/-
  div.up: shifted to the left by less than a limb.
-/
namespace Go.Proofs.YthlgggcpokfmaaaDoor
open Go Ev
set_option linter.unusedVariables false
set_option linter.unusedSimpArgs false
noncomputable section
set_option maxRecDepth 20000

theorem set_mid (L : List Nat) (c y : Nat) (R : List Nat) {i : Nat} (h : L.length = i) : (L ++ c :: R).set i y = L ++ y :: R := by
  subst h
  rw [List.set_append_right _ _ (Nat.le_refl _), Nat.sub_self]
  rfl

theorem get_mid (L : List Nat) (c : Nat) (R : List Nat) {i : Nat} (h : L.length = i) (hi : i < (L ++ c :: R).length) : (L ++ c :: R)[i] = c := by
  subst h
  simp

theorem take_snoc {xs : List Nat} {i : Nat} (h : i < xs.length) : xs.take (i + 1) = xs.take i ++ [xs[i]] := (List.take_append_getElem (l := xs) (i := i) h).symm

/-- A limb, shifted: what stays and what goes up. -/
theorem limb_shift {x s : Nat} (hs : s < 64) : x * 2 ^ s = x * 2 ^ s % B64 + B64 * (x / 2 ^ (64 - s)) := by
  have e : B64 = 2 ^ (64 - s) * 2 ^ s := by rw [← Nat.pow_add, show 64 - s + s = 64 by omega]
  have h1 : x * 2 ^ s / B64 = x / 2 ^ (64 - s) := by
    rw [e, Nat.mul_div_mul_right _ _ (Nat.two_pow_pos s)]
  have := Nat.mod_add_div (x * 2 ^ s) B64
  rw [h1] at this
  exact this.symm

theorem limb_low {x s : Nat} (hs : s < 64) : ∃ a, x * 2 ^ s % B64 = a * 2 ^ s ∧ a < 2 ^ (64 - s) := by
  have e : B64 = 2 ^ (64 - s) * 2 ^ s := by rw [← Nat.pow_add, show 64 - s + s = 64 by omega]
  refine ⟨x % 2 ^ (64 - s), ?_, Nat.mod_lt _ (Nat.two_pow_pos _)⟩
  rw [e, Nat.mul_mod_mul_right]

theorem limb_fit {x c s : Nat} (hs : s < 64) (hc : c < 2 ^ s) : x * 2 ^ s % B64 + c < B64 := by
  obtain ⟨a, e1, h⟩ := limb_low (x := x) hs
  have e : B64 = 2 ^ (64 - s) * 2 ^ s := by rw [← Nat.pow_add, show 64 - s + s = 64 by omega]
  rw [e1, e]
  have : (a + 1) * 2 ^ s ≤ 2 ^ (64 - s) * 2 ^ s := Nat.mul_le_mul_right _ h
  rw [Nat.succ_mul] at this
  omega

attribute [-simp] Int.natCast_add Int.natCast_mul Int.natCast_ediv Int.natCast_emod Int.natCast_pow
attribute [local simp] strip stripL LW' gW evOp oMove oAssign oPick oBinOp oUnOp oConvert oExtract oIndexAddr oIndex oLoad oStore oSlice oMakeSlice oCall oBuildSlice opd opds optOpd plain plain1 Tr.get_set tmOf builtinV binV isShift sameKind undef resultV resOne packV ltNat ltNum ltLst calleeV parts lss_nat

theorem up_spec {v : Value} {xs : List Nat} {H : AH} (hs : Sl H v xs) (dx : Dig B64 xs) (hlen : xs.length ≤ 17592186044000) {s : Nat} (h64 : s < 64) :
    CW Tryd.prog cfgR 57 [v, .int .u64 (s : Int)] H fun v' H' => Keep H H' ∧ ∃ ys, Own H.n H' v' ys ∧ Dig B64 ys ∧ ys.length = xs.length + 1 ∧ dv B64 ys = dv B64 xs * 2 ^ s := by
  refine CW_intro 39 (by decide) (by decide) Tryd.func57 rfl rfl ?_
  obtain ⟨c0, H1, hmk, k1, o1, n1⟩ := makeSlice_own (H := H) ltNat (n := xs.length + 1) (by omega)
  have l0 := hs.len ltNat
  apply W_seq; intro b1 hb1
  apply W_region
  simp
  show W _ _ b1 _ _; subst hb1
  apply W_seq; intro b1 hb1
  apply W_region
  simp [l0, add1_i64 (x := xs.length) (by omega), hmk]
  show W _ _ b1 _ _; subst hb1
  apply W_seq; intro b1 hb1
  apply W_seq; intro b2 hb2
  apply W_region
  simp [l0]
  show W _ _ b2 _ _; subst hb2
  apply W_block
  refine W_loopK (fun m s' => s'.k = 39 ∧ ∃ (i c : Nat) (L : List Nat), m + i = xs.length ∧ L.length = i ∧ c < 2 ^ s ∧ Dig B64 L ∧ dv B64 L + B64 ^ i * c = dv B64 (xs.take i) * 2 ^ s ∧ Keep H s'.H ∧ Own H.n s'.H c0 (L ++ c :: List.replicate m 0) ∧
    s'.tm.get 1 = some (.int .u64 (s : Int)) ∧ s'.tm.get 5 = some c0 ∧ s'.tm.get 12 = some v ∧ s'.tm.get 13 = some (.int .i64 (xs.length : Int)) ∧ s'.tm.get 14 = some (.int .i64 (i : Int))) ?_ xs.length _
    ⟨rfl, 0, 0, [], by omega, rfl, Nat.two_pow_pos s, .nil _, by simp [dv], k1, o1, by simp, by simp, by simp, by simp, by simp⟩
  rintro m ⟨k, tm, H2⟩ ⟨hk, i, c, L, hmi, hL, hc, dL, hv, kH, own, t1, t5, t12, t13, t14⟩ Q' hQ'
  simp only at hk t1 t5 t12 t13 t14 kH own
  subst hk
  apply W_seq; intro b3 hb3
  apply W_region
  simp [t13, t14]
  show W _ _ b3 _ _; subst hb3
  apply W_seq; intro b3 hb3
  by_cases hi : i < xs.length
  · refine W_cond (t := true) (by simp [hi]) ?_
    apply W_skip
    show W _ _ b3 _ _; subst hb3
    have s2 := hs.keep kH
    have a1 := s2.adr ltNat (k := .i64) hi
    have d1 := s2.load hi
    have hx : xs[i] < B64 := dx.get (List.getElem?_eq_getElem hi)
    obtain ⟨m', rfl⟩ : ∃ m', m = m' + 1 := ⟨m - 1, by omega⟩
    have hlen2 : (L ++ c :: List.replicate (m' + 1) 0).length = xs.length + 1 := by simp; omega
    have own1 := own.sl
    have a2 := own1.adr ltNat (k := .i64) (i := i) (by omega)
    have d2 := own1.load (i := i) (by omega)
    rw [get_mid L c _ hL] at d2
    have hcB : c < B64 := Nat.lt_of_lt_of_le hc (by show 2 ^ s ≤ 2 ^ 64; exact Nat.pow_le_pow_right (by decide) (by omega))
    have hm : xs[i] * 2 ^ s % B64 < B64 := Nat.mod_lt _ (by decide)
    have hor : c ||| xs[i] * 2 ^ s % B64 = xs[i] * 2 ^ s % B64 + c := by
      obtain ⟨a, e1, _⟩ := limb_low (x := xs[i]) h64
      rw [Nat.or_comm, e1, or_add hc]
    obtain ⟨H3, st1, own3, n3, kp3⟩ := own.store (i := i) (by omega) (xs[i] * 2 ^ s % B64 + c)
    rw [set_mid L c _ _ hL] at own3
    have a3 := own3.sl.adr ltNat (k := .i64) (i := i + 1) (by simp; omega)
    obtain ⟨H4, st2, own4, n4, kp4⟩ := own3.store (i := i + 1) (by simp; omega) (xs[i] / 2 ^ (64 - s))
    have hset : (L ++ (xs[i] * 2 ^ s % B64 + c) :: List.replicate (m' + 1) 0).set (i + 1) (xs[i] / 2 ^ (64 - s)) = (L ++ [xs[i] * 2 ^ s % B64 + c]) ++ (xs[i] / 2 ^ (64 - s)) :: List.replicate m' 0 := by
      rw [show L ++ (xs[i] * 2 ^ s % B64 + c) :: List.replicate (m' + 1) 0 = (L ++ [xs[i] * 2 ^ s % B64 + c]) ++ 0 :: List.replicate m' 0 by simp [List.replicate_succ]]
      exact set_mid _ _ _ _ (by simp [hL])
    rw [hset] at own4
    have sh2 : shiftBin .shr .u64 ((xs[i] / 2 : Nat) : Int) ((63 - s : Nat) : Int) = some (.int .u64 ((xs[i] / 2 ^ (64 - s) : Nat) : Int)) := by
      rw [shr_u64 (by omega), Nat.div_div_eq_div_mul]
      rw [show 2 * 2 ^ (63 - s) = 2 ^ (64 - s) by rw [← Nat.pow_succ', show (63 - s).succ = 64 - s by omega]]
    have sh1 : shiftBin .shr .u64 (xs[i] : Int) 1 = some (.int .u64 ((xs[i] / 2 : Nat) : Int)) := shr_u64 (s := 1) (by omega)
    have sb : intBin .sub .u64 63 (s : Int) = some (.int .u64 ((63 - s : Nat) : Int)) := sub_u64 (x := 63) (by decide) (by omega)
    apply W_seq; intro b3 hb3
    apply W_block
    apply W_seq; intro b4 hb4
    apply W_region
    simp [t12, t14, a1, d1]
    show W _ _ b4 _ _; subst hb4
    apply W_seq; intro b4 hb4
    apply W_region
    simp [t1, t5, a2, d2, shl_u64 (x := xs[i]) (s := s) (by omega), or_u64 hcB hm, hor, st1]
    show W _ _ b4 _ _; subst hb4
    apply W_region
    simp [t1, t5, add1_i64 (x := i) (by omega), sh1, sb, sh2, a3, st2]
    show W _ _ b3 _ _; subst hb3
    apply W_region
    simp [t14, add1_i64 (x := i) (by omega)]
    apply hQ'
    refine ⟨m', by omega, rfl, i + 1, xs[i] / 2 ^ (64 - s), L ++ [xs[i] * 2 ^ s % B64 + c], by omega, by simp [hL], ?_, ?_, ?_, kp4 H (kp3 H kH (Nat.le_refl _)) (Nat.le_refl _), ?_, ?_⟩
    · rw [Nat.div_lt_iff_lt_mul (Nat.two_pow_pos _), ← Nat.pow_add, show s + (64 - s) = 64 by omega]
      exact hx
    · exact dL.append (.cons (limb_fit h64 hc) (.nil _))
    · rw [dv_append, hL, take_snoc hi, dv_append, List.length_take, Nat.min_eq_left (by omega)]
      simp only [dv, Nat.mul_zero, Nat.add_zero]
      have e1 := limb_shift (x := xs[i]) h64
      generalize hq : xs[i] * 2 ^ s % B64 = q at e1 ⊢
      generalize xs[i] / 2 ^ (64 - s) = r at e1 ⊢
      rw [Nat.add_mul, ← hv, Nat.mul_assoc (B64 ^ i) xs[i], e1, Nat.pow_succ, Nat.mul_assoc (B64 ^ i) B64 r, Nat.mul_add, Nat.mul_add]
      omega
    · simpa using own4
    · exact ⟨by simp [t1], by simp [t5], by simp [t12], by simp [t13], by simp⟩
  · refine W_cond (t := false) (by simp [hi]) ?_
    apply W_exit
    apply hQ'
    left
    refine ⟨rfl, ?_⟩
    have hi' : i = xs.length := by omega
    obtain rfl : m = 0 := by omega
    show W _ _ b1 _ _; subst hb1
    apply W_seq; intro b4 hb4
    apply W_region
    simp [t5]
    show W _ _ b4 _ _; subst hb4
    apply W_ret
    simp
    refine ⟨kH, L ++ [c], by simpa using own, ?_, by simp [hL, hi'], ?_⟩
    · have hcB : c < B64 := Nat.lt_of_lt_of_le hc (by show 2 ^ s ≤ 2 ^ 64; exact Nat.pow_le_pow_right (by decide) (by omega))
      exact dL.append (.cons hcB (.nil _))
    · rw [dv_append, hL]
      simp only [dv, Nat.mul_zero, Nat.add_zero]
      rw [hv, hi', List.take_length]
end
end Go.Proofs.YthlgggcpokfmaaaDoor

/-
  bits.Mul64.
-/
namespace Go.Proofs.YthlgggcpokfmaaaDoor
open Go Ev
set_option linter.unusedVariables false
set_option linter.unusedSimpArgs false
noncomputable section
set_option maxRecDepth 20000

theorem and32 {x : Nat} (hx : x < B64) : intBin .and .u64 (x : Int) 4294967295 = some (.int .u64 ((x % 4294967296 : Nat) : Int)) := by
  have := and_u64 (x := x) (y := 4294967295) hx (by decide)
  rw [show x &&& 4294967295 = x % 4294967296 from Nat.and_two_pow_sub_one_eq_mod x 32] at this
  exact this
theorem shr32 {x : Nat} : shiftBin .shr .u64 (x : Int) 32 = some (.int .u64 ((x / 4294967296 : Nat) : Int)) := shr_u64 (x := x) (s := 32) (by omega)

theorem mul64_arith {x y : Nat} (hx : x < B64) (hy : y < B64) :
    let x0 := x % 4294967296; let x1 := x / 4294967296; let y0 := y % 4294967296; let y1 := y / 4294967296
    let w0 := x0 * y0 % B64
    let t := (x1 * y0 % B64 + w0 / 4294967296) % B64
    let w1 := (t % 4294967296 + x0 * y1 % B64) % B64
    ((x1 * y1 % B64 + t / 4294967296) % B64 + w1 / 4294967296) % B64 = x * y / B64 := by
  intro x0 x1 y0 y1 w0 t w1
  have hx : x < 18446744073709551616 := hx
  have hy : y < 18446744073709551616 := hy
  have a0 : x0 ≤ 4294967295 := by show x % 4294967296 ≤ _; omega
  have a1 : x1 ≤ 4294967295 := by show x / 4294967296 ≤ _; omega
  have b0 : y0 ≤ 4294967295 := by show y % 4294967296 ≤ _; omega
  have b1 : y1 ≤ 4294967295 := by show y / 4294967296 ≤ _; omega
  have ex : x = 4294967296 * x1 + x0 := (Nat.div_add_mod x 4294967296).symm
  have ey : y = 4294967296 * y1 + y0 := (Nat.div_add_mod y 4294967296).symm
  have p00 : x0 * y0 ≤ 18446744065119617025 := Nat.mul_le_mul a0 b0
  have p10 : x1 * y0 ≤ 18446744065119617025 := Nat.mul_le_mul a1 b0
  have p01 : x0 * y1 ≤ 18446744065119617025 := Nat.mul_le_mul a0 b1
  have p11 : x1 * y1 ≤ 18446744065119617025 := Nat.mul_le_mul a1 b1
  have e : x * y = 18446744073709551616 * (x1 * y1) + 4294967296 * (x1 * y0) + 4294967296 * (x0 * y1) + x0 * y0 := by
    rw [ex, ey]
    simp only [Nat.mul_add, Nat.add_mul]
    rw [show 4294967296 * x1 * (4294967296 * y1) = 18446744073709551616 * (x1 * y1) by rw [Nat.mul_mul_mul_comm]]
    rw [Nat.mul_assoc 4294967296 x1 y0, Nat.mul_left_comm x0 4294967296 y1]
    omega
  rw [e]
  show ((x1 * y1 % 18446744073709551616 + t / 4294967296) % 18446744073709551616 + w1 / 4294967296) % 18446744073709551616 = _ / 18446744073709551616
  have hw0 : w0 = x0 * y0 := Nat.mod_eq_of_lt (by show _ < 18446744073709551616; omega)
  have ht : t = x1 * y0 + x0 * y0 / 4294967296 := by
    show (x1 * y0 % 18446744073709551616 + w0 / 4294967296) % 18446744073709551616 = _
    rw [hw0]; omega
  have hw1 : w1 = t % 4294967296 + x0 * y1 := by
    show (t % 4294967296 + x0 * y1 % 18446744073709551616) % 18446744073709551616 = _
    omega
  generalize x1 * y1 = p11 at *
  generalize x1 * y0 = p10 at *
  generalize x0 * y1 = p01 at *
  generalize x0 * y0 = p00 at *
  clear_value t w1
  omega

attribute [-simp] Int.natCast_add Int.natCast_mul Int.natCast_ediv Int.natCast_emod Int.natCast_pow
attribute [local simp] strip stripL LW' gW evOp oMove oAssign oPick oBinOp oUnOp oConvert oExtract oIndexAddr oIndex oLoad oStore oSlice oMakeSlice oCall oBuildSlice opd opds optOpd plain plain1 Tr.get_set tmOf builtinV binV isShift sameKind undef resultV resOne packV ltNat ltNum ltLst calleeV parts lss_nat

theorem mul64_spec {x y : Nat} (hx : x < B64) (hy : y < B64) {H : AH} :
    CW Tryd.prog cfgR 61 [.int .u64 (x : Int), .int .u64 (y : Int)] H fun v H' => H' = H ∧ v = .tuple #[.int .u64 ((x * y / B64 : Nat) : Int), .int .u64 ((x * y % B64 : Nat) : Int)] := by
  refine CW_intro 51 (by decide) (by decide) Tryd.func61 rfl rfl ?_
  have ht : ∀ z : Nat, z % B64 < B64 := fun z => Nat.mod_lt _ (by decide)
  have key := mul64_arith hx hy
  simp only at key
  iterate 12
    apply W_seq; intro b hb
    apply W_region
    simp [and32 hx, and32 hy, shr32, mul_u64, add_u64, and32 (ht _)]
    show W _ _ b _ _; subst hb
  apply W_ret
  simp
  have key2 := key
  simp only [Nat.mod_add_mod, Nat.add_mod_mod] at key2
  rw [← key2]
end
end Go.Proofs.YthlgggcpokfmaaaDoor

/-
  nat.trim of a new list is of the same new list. nat.told.
-/
namespace Go.Proofs.YthlgggcpokfmaaaDoor
open Go Ev
set_option linter.unusedVariables false
set_option linter.unusedSimpArgs false
noncomputable section
set_option maxRecDepth 20000

theorem Own.cut {n0 : Nat} {H : AH} {v : Value} {xs : List Nat} (h : Own n0 H v xs) {t : TypeId} (ht : LT t) {m : Nat} (hm : m ≤ xs.length) (h0 : 0 < xs.length) :
    ∃ v', sliceV Tryd.prog H t v none (some (.int .i64 (m : Int))) none = some v' ∧ Own n0 H v' (xs.take m) := by
  cases h with
  | nil => cases h0
  | mk b o cap xs cs h1 h2 h3 h4 h5 h6 =>
    have hl : (xs.take m).length = m := by rw [List.length_take]; omega
    have hsz : H.size b = some 1 := by unfold AH.size; rw [h4]
    refine ⟨.slice (some ⟨b, o, none⟩) (xs.take m).length cap, ?_, .mk b o cap _ cs (by omega) h2 h3 h4 h5 fun i x hx => h6 i x ?_⟩
    · unfold sliceV
      simp only [ht.1, sU64]
      unfold cutV boundV
      simp only [hsz, Option.isSome_some, Option.isNone_none, Bool.true_or]
      rw [if_pos (by omega)]
      have e1 : Nat.ble m cap = true := Nat.ble_eq.mpr (by omega)
      simp [boundV, e1, hl]
    · rw [List.getElem?_take] at hx
      split at hx
      · exact hx
      · cases hx

attribute [local simp] strip stripL LW' gW evOp oMove oAssign oPick oBinOp oUnOp oConvert oExtract oIndexAddr oIndex oLoad oStore oSlice oMakeSlice oCall opd opds optOpd plain plain1 Tr.get_set tmOf builtinV binV isShift sameKind intBin undef resultV resOne packV ltNat ltNum ltLst calleeV

theorem trim_own {v : Value} {xs : List Nat} {H : AH} {n0 : Nat} (hs : Own n0 H v xs) (hlen : xs.length < 1152921504606846976) :
    CW Tryd.prog cfgR 43 [v] H fun v' H' => H' = H ∧ Own n0 H v' (trimL xs) := by
  refine CW_intro 21 (by decide) (by decide) Tryd.func43 rfl rfl ?_
  apply W_seq; intro b1 hb1
  apply W_region
  simp
  show W _ _ b1 _ _; subst hb1
  apply W_seq; intro b1 hb1
  apply W_block
  refine W_loop (fun n s => s.k = 21 ∧ s.H = H ∧ ∃ v', s.tm.get 0 = some v' ∧ n ≤ xs.length ∧ Own n0 H v' (xs.take n) ∧ trimL (xs.take n) = trimL xs) ?_ xs.length _ ⟨rfl, rfl, v, by simp, Nat.le_refl _, by rw [List.take_length]; exact hs, by rw [List.take_length]⟩
  rintro n ⟨k, tm, H'⟩ ⟨h2, h3, v', h4, h5, h6, h7⟩
  simp only at h2 h3 h4
  subst h2; subst h3
  have hl : (xs.take n).length = n := by rw [List.length_take]; omega
  have hlenv := h6.sl.len ltNat
  rw [hl] at hlenv
  apply W_seq; intro b2 hb2
  apply W_seq; intro b3 hb3
  apply W_region
  by_cases hz : n = 0
  · subst hz
    simp [h4, hlenv]
    show W _ _ b3 _ _; subst hb3
    refine W_cond (t := false) (by simp) ?_
    apply W_exit
    left
    refine ⟨rfl, ?_⟩
    show W _ _ b1 _ _; subst hb1
    apply W_seq; intro b4 hb4
    apply W_region
    simp [h4]
    show W _ _ b4 _ _; subst hb4
    apply W_ret
    simp
    rw [← h7]
    exact h6
  · have hn : 0 < n := Nat.pos_of_ne_zero hz
    have hw : IntKind.i64.wrap ((n : Int) - 1) = ((n - 1 : Nat) : Int) := wrap_sub1 hn (by omega)
    have hi : n - 1 < (xs.take n).length := by omega
    have ha := h6.sl.adr ltNat (k := .i64) hi
    have hld := h6.sl.load hi
    simp [h4, hlenv, hn, hw, ha, hld]
    show W _ _ b3 _ _; subst hb3
    have hx : n - 1 < xs.length := by omega
    have htake : xs.take n = xs.take (n - 1) ++ [xs[n - 1]] := by
      have := List.take_append_getElem (l := xs) (i := n - 1) hx
      rw [this, show n - 1 + 1 = n by omega]
    by_cases h0 : xs[n - 1] = 0
    · refine W_cond (t := true) (by simp [h0]) ?_
      apply W_skip
      show W _ _ b2 _ _; subst hb2
      apply W_block
      apply W_region
      obtain ⟨v2, hv2, hs2⟩ := h6.cut ltNat (m := n - 1) (by omega) (by omega)
      simp [h4, hlenv, hw, hv2]
      refine ⟨n - 1, by omega, rfl, rfl, v2, by simp, by omega, ?_, ?_⟩
      · rw [List.take_take, show min (n - 1) n = n - 1 by omega] at hs2; exact hs2
      · rw [← h7, htake, h0, trimL_snoc0]
    · refine W_cond (t := false) (by simp; exact h0) ?_
      apply W_exit
      left
      refine ⟨rfl, ?_⟩
      show W _ _ b1 _ _; subst hb1
      apply W_seq; intro b4 hb4
      apply W_region
      simp [h4]
      show W _ _ b4 _ _; subst hb4
      apply W_ret
      simp
      rw [← h7]
      have : trimL (xs.take n) = xs.take n := by rw [htake]; exact trimL_snoc _ _ h0
      rw [this]
      exact h6

end
end Go.Proofs.YthlgggcpokfmaaaDoor

/-
  div.down: shifted back.
-/
namespace Go.Proofs.YthlgggcpokfmaaaDoor
open Go Ev
set_option linter.unusedVariables false
set_option linter.unusedSimpArgs false
noncomputable section
set_option maxRecDepth 20000

/-- A list's limb, or 0. -/
def nth (xs : List Nat) (i : Nat) : Nat := xs[i]?.getD 0

theorem nth_get {xs : List Nat} {i : Nat} (h : i < xs.length) : nth xs i = xs[i] := by unfold nth; rw [List.getElem?_eq_getElem h]; rfl
theorem nth_out {xs : List Nat} {i : Nat} (h : xs.length ≤ i) : nth xs i = 0 := by unfold nth; rw [List.getElem?_eq_none h]; rfl

attribute [-simp] Int.natCast_add Int.natCast_mul Int.natCast_ediv Int.natCast_emod Int.natCast_pow
attribute [local simp] strip stripL LW' gW evOp oMove oAssign oPick oBinOp oUnOp oConvert oExtract oIndexAddr oIndex oLoad oStore oSlice oMakeSlice oCall oBuildSlice opd opds optOpd plain plain1 Tr.get_set tmOf builtinV binV isShift sameKind undef resultV resOne packV ltNat ltNum ltLst calleeV parts lss_nat

theorem down_spec {v : Value} {xs : List Nat} {H : AH} (hs : Sl H v xs) (dx : Dig B64 xs) (hlen : xs.length ≤ 17592186044000) {s : Nat} (h64 : s < 64) :
    CW Tryd.prog cfgR 59 [v, .int .u64 (s : Int)] H fun v' H' => Keep H H' ∧ Own H.n H' v' (ds B64 (dv B64 xs / 2 ^ s)) := by
  refine CW_intro 47 (by decide) (by decide) Tryd.func59 rfl rfl ?_
  obtain ⟨c0, H1, hmk, k1, o1, n1⟩ := makeSlice_own (H := H) ltNat (n := xs.length) (by omega)
  have l0 := hs.len ltNat
  apply W_seq; intro b1 hb1
  apply W_region
  simp
  show W _ _ b1 _ _; subst hb1
  apply W_seq; intro b1 hb1
  apply W_region
  simp [l0, hmk]
  show W _ _ b1 _ _; subst hb1
  apply W_seq; intro b1 hb1
  apply W_seq; intro b2 hb2
  apply W_region
  simp [l0]
  show W _ _ b2 _ _; subst hb2
  apply W_block
  refine W_loopK (fun m s' => s'.k = 47 ∧ ∃ (i : Nat) (L : List Nat), m + i = xs.length ∧ L.length = i ∧ Dig B64 L ∧ dv B64 L * 2 ^ s + nth xs 0 % 2 ^ s = dv B64 (xs.take i) + B64 ^ i * (nth xs i % 2 ^ s) ∧ Keep H s'.H ∧ Own H.n s'.H c0 (L ++ List.replicate m 0) ∧
    s'.tm.get 0 = some v ∧ s'.tm.get 1 = some (.int .u64 (s : Int)) ∧ s'.tm.get 5 = some c0 ∧ s'.tm.get 11 = some v ∧ s'.tm.get 12 = some (.int .i64 (xs.length : Int)) ∧ s'.tm.get 13 = some (.int .i64 (i : Int))) ?_ xs.length _
    ⟨rfl, 0, [], by omega, rfl, .nil _, by simp [dv], k1, o1, by simp, by simp, by simp, by simp, by simp, by simp⟩
  rintro m ⟨k, tm, H2⟩ ⟨hk, i, L, hmi, hL, dL, hv, kH, own, t0, t1, t5, t11, t12, t13⟩ Q' hQ'
  simp only at hk t0 t1 t5 t11 t12 t13 kH own
  subst hk
  apply W_seq; intro b3 hb3
  apply W_region
  simp [t12, t13]
  show W _ _ b3 _ _; subst hb3
  apply W_seq; intro b3 hb3
  by_cases hi : i < xs.length
  · refine W_cond (t := true) (by simp [hi]) ?_
    apply W_skip
    show W _ _ b3 _ _; subst hb3
    have s2 := hs.keep kH
    have a1 := s2.adr ltNat (k := .i64) hi
    have d1 := s2.load hi
    have hx : xs[i] < B64 := dx.get (List.getElem?_eq_getElem hi)
    obtain ⟨m', rfl⟩ : ∃ m', m = m' + 1 := ⟨m - 1, by omega⟩
    have own' : Own H.n H2 c0 (L ++ 0 :: List.replicate m' 0) := by rw [List.replicate_succ] at own; exact own
    have a2 := own'.sl.adr ltNat (k := .i64) (i := i) (by simp; omega)
    have hq : xs[i] / 2 ^ s < 2 ^ (64 - s) := by
      rw [Nat.div_lt_iff_lt_mul (Nat.two_pow_pos _), ← Nat.pow_add, show 64 - s + s = 64 by omega]
      exact hx
    have hqB : xs[i] / 2 ^ s < B64 := Nat.lt_of_lt_of_le hq (by show _ ≤ 2 ^ 64; exact Nat.pow_le_pow_right (by decide) (by omega))
    obtain ⟨H3, st1, own3, n3, kp3⟩ := own'.store (i := i) (by simp; omega) (xs[i] / 2 ^ s)
    rw [set_mid L 0 _ _ hL] at own3
    have kH3 := kp3 H kH (Nat.le_refl _)
    apply W_seq; intro b3 hb3
    have low : nth xs (i + 1) % 2 ^ s < 2 ^ s := Nat.mod_lt _ (Nat.two_pow_pos _)
    have e64 : 2 ^ s * 2 ^ (64 - s) = B64 := by rw [← Nat.pow_add, show s + (64 - s) = 64 by omega]
    have fin : ∀ (tm4 : Tr Value) (H4 : AH), Keep H H4 → Own H.n H4 c0 (L ++ (nth xs (i + 1) % 2 ^ s * 2 ^ (64 - s) + xs[i] / 2 ^ s) :: List.replicate m' 0) → tm4.get 0 = some v → tm4.get 1 = some (.int .u64 (s : Int)) → tm4.get 5 = some c0 → tm4.get 11 = some v →
        tm4.get 12 = some (.int .i64 (xs.length : Int)) → tm4.get 13 = some (.int .i64 (i : Int)) → W Tryd.prog cfgR b3 ⟨47, tm4, H4⟩ Q' := fun tm4 H4 k4 o4 q0 q1 q5 q11 q12 q13 => by
      subst hb3
      apply W_region
      simp [q13, add1_i64 (x := i) (by omega)]
      apply hQ'
      refine ⟨m', by omega, rfl, i + 1, L ++ [nth xs (i + 1) % 2 ^ s * 2 ^ (64 - s) + xs[i] / 2 ^ s], by omega, by simp [hL], ?_, ?_, k4, by simpa using o4, by simp [q0], by simp [q1], by simp [q5], by simp [q11], by simp [q12], by simp⟩
      · refine dL.append (.cons ?_ (.nil _))
        have : (nth xs (i + 1) % 2 ^ s + 1) * 2 ^ (64 - s) ≤ 2 ^ s * 2 ^ (64 - s) := Nat.mul_le_mul_right _ low
        rw [e64, Nat.succ_mul] at this
        omega
      · rw [dv_append, hL, take_snoc hi, dv_append, List.length_take, Nat.min_eq_left (by omega)]
        simp only [dv, Nat.mul_zero, Nat.add_zero]
        rw [nth_get hi] at hv
        have e1 : 2 ^ s * (xs[i] / 2 ^ s) + xs[i] % 2 ^ s = xs[i] := Nat.div_add_mod _ _
        generalize nth xs (i + 1) % 2 ^ s = u at *
        generalize hr : xs[i] % 2 ^ s = r at *
        generalize hqq : xs[i] / 2 ^ s = q at *
        have e2 : (u * 2 ^ (64 - s) + q) * 2 ^ s = B64 * u + 2 ^ s * q := by rw [Nat.add_mul, Nat.mul_assoc, Nat.mul_comm (2 ^ (64 - s)), e64, Nat.mul_comm u, Nat.mul_comm q]
        have e3 : B64 ^ i * xs[i] = B64 ^ i * (2 ^ s * q) + B64 ^ i * r := by rw [← Nat.mul_add, e1]
        rw [Nat.add_mul, Nat.mul_assoc (B64 ^ i), e2, Nat.mul_add, e3, Nat.pow_succ, Nat.mul_assoc (B64 ^ i) B64 u]
        omega
    apply W_block
    apply W_seq; intro b4 hb4
    apply W_region
    simp [t11, t13, a1, d1]
    show W _ _ b4 _ _; subst hb4
    apply W_seq; intro b4 hb4
    apply W_region
    simp [t1, t5, t13, shr_u64 (x := xs[i]) (s := s) (by omega), a2, st1]
    show W _ _ b4 _ _; subst hb4
    apply W_seq; intro b4 hb4
    apply W_region
    simp [t0, l0, add1_i64 (x := i) (by omega)]
    show W _ _ b4 _ _; subst hb4
    by_cases hi2 : i + 1 < xs.length
    · refine W_cond (t := true) (by simp [hi2]) ?_
      have s3 := hs.keep kH3
      have a4 := s3.adr ltNat (k := .i64) hi2
      have d4 := s3.load hi2
      have a5 := own3.sl.adr ltNat (k := .i64) (i := i) (by simp; omega)
      have d5 := own3.sl.load (i := i) (by simp; omega)
      rw [get_mid L _ _ hL] at d5
      have hx1 : xs[i + 1] < B64 := dx.get (List.getElem?_eq_getElem hi2)
      have n1 : nth xs (i + 1) = xs[i + 1] := nth_get hi2
      have sb : intBin .sub .u64 63 (s : Int) = some (.int .u64 ((63 - s : Nat) : Int)) := sub_u64 (x := 63) (by decide) (by omega)
      have sh1 : shiftBin .shl .u64 (xs[i + 1] : Int) 1 = some (.int .u64 ((xs[i + 1] * 2 % B64 : Nat) : Int)) := shl_u64 (s := 1) (by omega)
      have em : xs[i + 1] * 2 % B64 * 2 ^ (63 - s) % B64 = nth xs (i + 1) % 2 ^ s * 2 ^ (64 - s) := by
        rw [n1, Nat.mod_mul_mod, Nat.mul_assoc, show 2 * 2 ^ (63 - s) = 2 ^ (64 - s) by rw [← Nat.pow_succ', show (63 - s).succ = 64 - s by omega], ← e64, Nat.mul_mod_mul_right]
      have sh2 : shiftBin .shl .u64 ((xs[i + 1] * 2 % B64 : Nat) : Int) ((63 - s : Nat) : Int) = some (.int .u64 ((nth xs (i + 1) % 2 ^ s * 2 ^ (64 - s) : Nat) : Int)) := by
        rw [shl_u64 (by omega), em]
      have hwB : nth xs (i + 1) % 2 ^ s * 2 ^ (64 - s) < B64 := by rw [← em]; exact Nat.mod_lt _ (by decide)
      have hor : xs[i] / 2 ^ s ||| nth xs (i + 1) % 2 ^ s * 2 ^ (64 - s) = nth xs (i + 1) % 2 ^ s * 2 ^ (64 - s) + xs[i] / 2 ^ s := by
        rw [Nat.or_comm, or_add hq]
      obtain ⟨H4, st4, own4, n4, kp4⟩ := own3.store (i := i) (by simp; omega) (nth xs (i + 1) % 2 ^ s * 2 ^ (64 - s) + xs[i] / 2 ^ s)
      rw [set_mid L _ _ _ hL] at own4
      apply W_mem (by kernel_rfl)
      simp [t0, t1, t5, a4, d4, a5, d5, add1_i64 (x := i) (by omega), sb, sh1, sh2, or_u64 hqB hwB, hor, st4]
      exact fin _ _ (kp4 H kH3 (Nat.le_refl _)) own4 (by simp [t0]) (by simp [t1]) (by simp [t5]) (by simp [t11]) (by simp [t12]) (by simp [t13])
    · refine W_cond (t := false) (by simp [hi2]) ?_
      apply W_skip
      have n0 : nth xs (i + 1) = 0 := nth_out (by omega)
      exact fin _ _ kH3 (by rw [n0]; simpa using own3) (by simp [t0]) (by simp [t1]) (by simp [t5]) (by simp [t11]) (by simp [t12]) (by simp [t13])
  · refine W_cond (t := false) (by simp [hi]) ?_
    apply W_exit
    apply hQ'
    left
    refine ⟨rfl, ?_⟩
    obtain rfl : m = 0 := by omega
    have hi' : i = xs.length := by omega
    obtain ⟨v5, H5, hc5, k5, o5⟩ := norm_spec own.sl (by simp; omega)
    show W _ _ b1 _ _; subst hb1
    apply W_seq; intro b4 hb4
    apply W_region
    simp [t5, hc5]
    show W _ _ b4 _ _; subst hb4
    apply W_ret
    simp
    refine ⟨kH.trans k5, ?_⟩
    have e : dv B64 xs / 2 ^ s = dv B64 L := by
      rw [hi', nth_out (Nat.le_refl _), List.take_length, Nat.zero_mod, Nat.mul_zero, Nat.add_zero] at hv
      rw [← hv, Nat.add_comm, Nat.add_mul_div_right _ _ (Nat.two_pow_pos _), Nat.div_eq_of_lt (Nat.mod_lt _ (Nat.two_pow_pos _)), Nat.zero_add]
    rw [e, ← trimL_ds two64 dL]
    have o5' : Own H2.n H5 v5 (trimL L) := by simpa using o5
    exact o5'.mono kH.n (.refl H5)
end
end Go.Proofs.YthlgggcpokfmaaaDoor

/-
  PLAIN LAW: a quotient's digit by the highest digits (Knuth): what the trial's test says.
-/
namespace Go.Proofs.YthlgggcpokfmaaaDoor
set_option linter.unusedVariables false

theorem est_num {b y1 y0 u d q r : Nat} (hq : q * y1 + r = u) : u * b + d = q * (y1 * b) + (b * r + d) := by
  rw [← hq, Nat.add_mul, Nat.mul_assoc, Nat.mul_comm r b]; omega

/-- The test holds: the digit is less. -/
theorem est_true {b y1 y0 u d q r : Nat} (hq : q * y1 + r = u) (hu : u < y1 * b + y0) (hd : d < b) (ht : b ≤ q ∨ b * r + d < q * y0) : (u * b + d) / (y1 * b + y0) < q := by
  have hy : 0 < y1 * b + y0 := by omega
  rw [Nat.div_lt_iff_lt_mul hy]
  rcases ht with ht | ht
  · have h1 : (u + 1) * b ≤ (y1 * b + y0) * b := Nat.mul_le_mul_right _ hu
    have h2 : b * (y1 * b + y0) ≤ q * (y1 * b + y0) := Nat.mul_le_mul_right _ ht
    rw [Nat.succ_mul] at h1
    rw [Nat.mul_comm b] at h2
    omega
  · rw [est_num (y0 := y0) (d := d) (b := b) hq, Nat.mul_add]
    omega

/-- The test fails: the digit is no less. -/
theorem est_false {b y1 y0 u d q r : Nat} (hq : q * y1 + r = u) (hy : 0 < y1 * b + y0) (ht : q * y0 ≤ b * r + d) : q ≤ (u * b + d) / (y1 * b + y0) := by
  rw [Nat.le_div_iff_mul_le hy, est_num (y0 := y0) (d := d) (b := b) hq, Nat.mul_add]
  omega

/-- The first trial is not below the digit. -/
theorem est_first {b y1 y0 u d : Nat} (h1 : 0 < y1) (hd : d < b) : (u * b + d) / (y1 * b + y0) ≤ u / y1 := by
  have hb : 0 < b := by omega
  have hy : 0 < y1 * b + y0 := by have := Nat.mul_pos h1 hb; omega
  have h2 : (u * b + d) / (y1 * b + y0) ≤ (u * b + d) / (y1 * b) := by
    rw [Nat.le_div_iff_mul_le (Nat.mul_pos h1 hb)]
    have := Nat.div_mul_le_self (u * b + d) (y1 * b + y0)
    rw [Nat.mul_add] at this
    omega
  have h3 : (u * b + d) / (y1 * b) = u / y1 := by
    rw [Nat.mul_comm y1 b, ← Nat.div_div_eq_div_mul, Nat.add_comm, Nat.add_mul_div_right _ _ hb, Nat.div_eq_of_lt hd, Nat.zero_add]
  omega

/-- The first trial is at most b + 1. -/
theorem est_small {b y1 y0 u : Nat} (h1 : b ≤ 2 * y1) (h0 : y0 < b) (hu : u < y1 * b + y0) (hp : 0 < y1) : u / y1 ≤ b + 1 := by
  have : u / y1 < b + 2 := by
    rw [Nat.div_lt_iff_lt_mul hp, Nat.add_mul, Nat.mul_comm b y1]
    omega
  omega

end Go.Proofs.YthlgggcpokfmaaaDoor

/-
  bits.Div64.
-/
namespace Go.Proofs.YthlgggcpokfmaaaDoor
open Go Ev
set_option linter.unusedVariables false
set_option linter.unusedSimpArgs false
noncomputable section
set_option maxRecDepth 20000

theorem quo_u64 {x y : Nat} (hx : x < B64) (hy : 0 < y) : intBin .quo .u64 (x : Int) (y : Int) = some (.int .u64 ((x / y : Nat) : Int)) := by
  have hx : x < 18446744073709551616 := hx
  have hle : x / y ≤ x := Nat.div_le_self x y
  have h0 : ¬ ((y : Int) = 0) := by omega
  have e : IntKind.u64.wrap ((x : Int).tdiv (y : Int)) = ((x / y : Nat) : Int) := by
    rw [IntKind.wrap_u64, Int.tdiv_eq_ediv_of_nonneg (by omega), ← Int.natCast_ediv]
    generalize x / y = q at *
    omega
  show (if (y : Int) = 0 then none else some (Value.int .u64 (IntKind.u64.wrap ((x : Int).tdiv (y : Int))))) = _
  rw [if_neg h0, e]

theorem rem_u64 {x y : Nat} (hy : 0 < y) : intBin .rem .u64 (x : Int) (y : Int) = some (.int .u64 ((x % y : Nat) : Int)) := by
  have h0 : ¬ ((y : Int) = 0) := by omega
  have e : (x : Int).tmod (y : Int) = ((x % y : Nat) : Int) := by
    rw [Int.tmod_eq_emod_of_nonneg (by omega), ← Int.natCast_emod]
  show (if (y : Int) = 0 then none else some (Value.int .u64 ((x : Int).tmod (y : Int)))) = _
  rw [if_neg h0, e]

theorem subm_u64 {x y : Nat} (hy : y ≤ B64) : intBin .sub .u64 (x : Int) (y : Int) = some (.int .u64 (((x + B64 - y) % B64 : Nat) : Int)) := by
  have hy : y ≤ 18446744073709551616 := hy
  have e : IntKind.u64.wrap ((x : Int) - (y : Int)) = (((x + 18446744073709551616 - y) % 18446744073709551616 : Nat) : Int) := by rw [IntKind.wrap_u64]; omega
  show some (Value.int .u64 (IntKind.u64.wrap ((x : Int) - (y : Int)))) = _
  rw [e]

/-- A rest, reckoned modulo 2^64. -/
theorem rest_mod {u b d q y : Nat} (hy : y < B64) (hy0 : 0 < y) (hq : q = (u * b + d) / y) : ((u * b % B64 + d) % B64 + B64 - q * y % B64) % B64 = (u * b + d) % y := by
  have e := Nat.div_add_mod (u * b + d) y
  rw [← hq, Nat.mul_comm y q] at e
  have hr : (u * b + d) % y < y := Nat.mod_lt _ hy0
  generalize (u * b + d) % y = r at *
  generalize q * y = p at *
  rw [Nat.mod_add_mod, ← e]
  have hy : y < 18446744073709551616 := hy
  show ((p + r) % 18446744073709551616 + 18446744073709551616 - p % 18446744073709551616) % 18446744073709551616 = r
  omega

abbrev b32 : Nat := 4294967296
theorem geqL {x : Nat} : intBin .geq .u64 (x : Int) 4294967296 = some (.bool (decide (4294967296 ≤ x))) := geq_nat (y := 4294967296)
theorem mulL {x : Nat} : intBin .mul .u64 4294967296 (x : Int) = some (.int .u64 ((4294967296 * x % B64 : Nat) : Int)) := mul_u64 (x := 4294967296)
theorem mulR {x : Nat} : intBin .mul .u64 (x : Int) 4294967296 = some (.int .u64 ((x * 4294967296 % B64 : Nat) : Int)) := mul_u64 (y := 4294967296)
theorem sub1_u64 {x : Nat} (hx : x < B64) (h : 0 < x) : intBin .sub .u64 (x : Int) 1 = some (.int .u64 ((x - 1 : Nat) : Int)) := sub_u64 (y := 1) hx h

/-- One round's arithmetic: the trial, its rest, the number and the divisor. -/
structure Est (y1 y0 u d q r : Nat) : Prop where
  y1lo : 2147483648 ≤ y1
  y1hi : y1 < 4294967296
  y0hi : y0 < 4294967296
  uhi : u < y1 * 4294967296 + y0
  dhi : d < 4294967296
  eq : q * y1 + r = u
  ge : (u * 4294967296 + d) / (y1 * 4294967296 + y0) ≤ q
  rhi : r < 4294967296
  qhi : q ≤ 4294967297

/-- Does the trial's test hold? -/
def estT (y0 d q r : Nat) : Bool := decide (4294967296 ≤ q) || decide (4294967296 * r + d < q * y0)

theorem Est.down {y1 y0 u d q r : Nat} (h : Est y1 y0 u d q r) (ht : estT y0 d q r = true) : 0 < q ∧ (q - 1) * y1 + (r + y1) = u ∧ (u * 4294967296 + d) / (y1 * 4294967296 + y0) ≤ q - 1 ∧ q - 1 ≤ 4294967296 := by
  have ht' : 4294967296 ≤ q ∨ 4294967296 * r + d < q * y0 := by simpa [estT] using ht
  have h1 := est_true h.eq h.uhi h.dhi ht'
  have hq : 0 < q := Nat.lt_of_le_of_lt (Nat.zero_le _) h1
  refine ⟨hq, ?_, Nat.le_sub_one_of_lt h1, by have := h.qhi; omega⟩
  obtain ⟨q', rfl⟩ : ∃ q', q = q' + 1 := ⟨q - 1, by omega⟩
  have := h.eq
  rw [Nat.succ_mul] at this
  rw [Nat.add_sub_cancel]
  omega

theorem Est.stop {y1 y0 u d q r : Nat} (h : Est y1 y0 u d q r) (ht : estT y0 d q r = false) : q = (u * 4294967296 + d) / (y1 * 4294967296 + y0) ∧ q < 4294967296 := by
  have ht' : q < 4294967296 ∧ q * y0 ≤ 4294967296 * r + d := by simpa [estT] using ht
  have := est_false h.eq (by have := h.y1lo; omega) ht'.2
  exact ⟨Nat.le_antisymm this h.ge, ht'.1⟩

/-- The break: the rest has grown over. -/
theorem est_break {y1 y0 u d q r : Nat} (y1lo : 2147483648 ≤ y1) (y0hi : y0 < 4294967296) (uhi : u < y1 * 4294967296 + y0) (dhi : d < 4294967296) (eq : q * y1 + r = u) (ge : (u * 4294967296 + d) / (y1 * 4294967296 + y0) ≤ q) (hr : 4294967296 ≤ r) (hq : q ≤ 4294967296) :
    q = (u * 4294967296 + d) / (y1 * 4294967296 + y0) ∧ q < 4294967296 := by
  have h1 : q * y0 ≤ 4294967296 * r + d := by
    have a : q * y0 ≤ 4294967296 * y0 := Nat.mul_le_mul_right _ hq
    omega
  have h2 := est_false eq (show 0 < y1 * 4294967296 + y0 by omega) h1
  have h3 : q = (u * 4294967296 + d) / (y1 * 4294967296 + y0) := Nat.le_antisymm h2 ge
  refine ⟨h3, ?_⟩
  rw [h3, Nat.div_lt_iff_lt_mul (by omega)]
  have : (u + 1) * 4294967296 ≤ (y1 * 4294967296 + y0) * 4294967296 := Nat.mul_le_mul_right _ uhi
  rw [Nat.succ_mul, Nat.mul_comm (y1 * 4294967296 + y0)] at this
  omega

theorem est_start {y1 y0 u d : Nat} (y1lo : 2147483648 ≤ y1) (y1hi : y1 < 4294967296) (y0hi : y0 < 4294967296) (uhi : u < y1 * 4294967296 + y0) (dhi : d < 4294967296) : Est y1 y0 u d (u / y1) (u % y1) :=
  ⟨y1lo, y1hi, y0hi, uhi, dhi, by rw [Nat.mul_comm]; exact Nat.div_add_mod u y1, est_first (by omega) dhi, Nat.lt_of_lt_of_le (Nat.mod_lt _ (by omega)) (by omega), est_small (by omega) y0hi uhi (by omega)⟩
end
end Go.Proofs.YthlgggcpokfmaaaDoor

/-
  bits.Div64: the walk.
-/
namespace Go.Proofs.YthlgggcpokfmaaaDoor
open Go Ev
set_option linter.unusedVariables false
set_option linter.unusedSimpArgs false
noncomputable section
set_option maxRecDepth 20000

theorem eql0 {x : Nat} : intBin .eql .u64 (x : Int) 0 = some (.bool (decide (x = 0))) := eql_nat (y := 0)

theorem conv_int_uint {n : Nat} (h : n < B64) : convV Tryd.prog 3 51 (.int .i64 (n : Int)) = some (.int .u64 (n : Int)) := by
  have h : n < 18446744073709551616 := h
  have e : IntKind.u64.wrap (n : Int) = (n : Int) := by rw [IntKind.wrap_u64]; omega
  unfold convV
  simp only [Tryd.underlying3, Tryd.underlying51, e]

theorem total_div {U N1 N0 b B yn qh u2 ql r3 : Nat} (e1 : yn * qh + u2 = U * b + N1) (e2 : yn * ql + r3 = u2 * b + N0) (hB : B = b * b) : U * B + (N1 * b + N0) = yn * (qh * b + ql) + r3 := by
  subst hB
  have e3 : (yn * qh + u2) * b = (U * b + N1) * b := by rw [e1]
  rw [Nat.add_mul, Nat.add_mul, Nat.mul_assoc, Nat.mul_assoc] at e3
  rw [Nat.mul_add]
  omega

attribute [-simp] Int.natCast_add Int.natCast_mul Int.natCast_ediv Int.natCast_emod Int.natCast_pow
attribute [local simp] strip stripL LW' gW evOp oMove oAssign oPick oBinOp oUnOp oConvert oExtract oIndexAddr oIndex oLoad oStore oSlice oMakeSlice oCall oBuildSlice opd opds optOpd plain plain1 Tr.get_set tmOf builtinV binV isShift sameKind undef resultV resOne packV ltNat ltNum ltLst calleeV parts lss_nat

theorem div64_spec {h l y : Nat} (hh : h < y) (hl : l < B64) (hy : y < B64) {H : AH} :
    CW Tryd.prog cfgR 55 [.int .u64 (h : Int), .int .u64 (l : Int), .int .u64 (y : Int)] H fun v H' => H' = H ∧ v = .tuple #[.int .u64 (((h * B64 + l) / y : Nat) : Int), .int .u64 (((h * B64 + l) % y : Nat) : Int)] := by
  refine CW_intro 135 (by decide) (by decide) Tryd.func55 rfl rfl ?_
  have y0 : 0 < y := by omega
  apply W_seq; intro b1 hb1
  apply W_region
  simp
  show W _ _ b1 _ _; subst hb1
  apply W_seq; intro b1 hb1
  apply W_seq; intro b2 hb2
  apply W_region
  simp [eql0]
  show W _ _ b2 _ _; subst hb2
  refine W_cond (t := false) (by simp; omega) ?_
  apply W_skip
  show W _ _ b1 _ _; subst hb1
  apply W_seq; intro b1 hb1
  apply W_seq; intro b2 hb2
  apply W_region
  simp [leq_nat]
  show W _ _ b2 _ _; subst hb2
  refine W_cond (t := false) (by simp; omega) ?_
  apply W_skip
  show W _ _ b1 _ _; subst hb1
  apply W_seq; intro b1 hb1
  apply W_seq; intro b2 hb2
  apply W_region
  simp [eql0]
  show W _ _ b2 _ _; subst hb2
  by_cases h0 : h = 0
  · subst h0
    refine W_cond (t := true) (by simp) ?_
    apply W_seq; intro b2 hb2
    apply W_loads (by kernel_rfl)
    simp [quo_u64 hl y0, rem_u64 (x := l) y0]
    show W _ _ b2 _ _; subst hb2
    apply W_ret
    simp [seqQ]
  · refine W_cond (t := false) (by simp; omega) ?_
    apply W_skip
    show W _ _ b1 _ _; subst hb1
    obtain ⟨v1, H1, hc1, e1, e2⟩ := lz_spec (H := H) hy
    subst e1; subst e2
    have hbl : blen y ≤ 64 := by
      rcases Nat.lt_or_ge 64 (blen y) with h | h
      · have a := blen_ge (n := y) (by omega)
        have b : 2 ^ 64 ≤ 2 ^ (blen y - 1) := Nat.pow_le_pow_right (by decide) (by omega)
        have hy : y < 18446744073709551616 := hy
        omega
      · exact h
    have hbl0 : 0 < blen y := by unfold blen; rw [if_neg (by omega)]; omega
    obtain ⟨s, hs⟩ : ∃ s, s = 64 - blen y := ⟨_, rfl⟩
    have h64 : s < 64 := by omega
    have es : (64 - (blen y : Int)) = (s : Int) := by omega
    rw [es] at hc1
    have ylt : y < 2 ^ (64 - s) := by have := blen_lt y; rwa [show blen y = 64 - s by omega] at this
    have yge : 2 ^ (63 - s) ≤ y := by have := blen_ge (n := y) (by omega); rwa [show blen y - 1 = 63 - s by omega] at this
    apply W_seq; intro b1 hb1
    apply W_region
    simp [hc1, conv_int_uint (n := s) (Nat.lt_trans h64 (by decide))]
    show W _ _ b1 _ _; subst hb1
    -- the numbers
    have eB : B64 = 2 ^ (64 - s) * 2 ^ s := by rw [← Nat.pow_add, show 64 - s + s = 64 by omega]
    obtain ⟨yn, hyn⟩ : ∃ yn, yn = y * 2 ^ s := ⟨_, rfl⟩
    have ynlt : yn < B64 := by rw [hyn, eB]; exact Nat.mul_lt_mul_of_pos_right ylt (Nat.two_pow_pos s)
    have ynge : 9223372036854775808 ≤ yn := by
      have : 2 ^ (63 - s) * 2 ^ s ≤ y * 2 ^ s := Nat.mul_le_mul_right _ yge
      rw [← Nat.pow_add, show 63 - s + s = 63 by omega, ← hyn] at this
      exact this
    have hlow : l / 2 ^ (64 - s) < 2 ^ s := by
      rw [Nat.div_lt_iff_lt_mul (Nat.two_pow_pos _), ← Nat.pow_add, show s + (64 - s) = 64 by omega]
      exact hl
    obtain ⟨u, hu⟩ : ∃ u, u = h * 2 ^ s + l / 2 ^ (64 - s) := ⟨_, rfl⟩
    have hhs : h * 2 ^ s + 2 ^ s ≤ yn := by rw [hyn, ← Nat.succ_mul]; exact Nat.mul_le_mul_right _ hh
    have ult : u < yn := by omega
    obtain ⟨n, hn⟩ : ∃ n, n = l * 2 ^ s % B64 := ⟨_, rfl⟩
    have nlt : n < B64 := by rw [hn]; exact Nat.mod_lt _ (by decide)
    have total : (h * B64 + l) * 2 ^ s = u * B64 + n := by
      have := limb_shift (x := l) h64
      rw [← hn] at this
      rw [Nat.add_mul, this, hu, Nat.add_mul, Nat.mul_comm B64 (l / _), Nat.mul_assoc h, Nat.mul_comm B64, ← Nat.mul_assoc]
      omega
    obtain ⟨y1, hy1⟩ : ∃ y1, y1 = yn / 4294967296 := ⟨_, rfl⟩
    obtain ⟨w0, hw0⟩ : ∃ w0, w0 = yn % 4294967296 := ⟨_, rfl⟩
    have eyn : yn = y1 * 4294967296 + w0 := by omega
    have ynlt' : yn < 18446744073709551616 := ynlt
    have y1lo : 2147483648 ≤ y1 := by omega
    have y1hi : y1 < 4294967296 := by omega
    have w0hi : w0 < 4294967296 := by omega
    obtain ⟨n1, hn1⟩ : ∃ n1, n1 = n / 4294967296 := ⟨_, rfl⟩
    obtain ⟨n0, hn0⟩ : ∃ n0, n0 = n % 4294967296 := ⟨_, rfl⟩
    have nlt' : n < 18446744073709551616 := nlt
    have en : n = n1 * 4294967296 + n0 := by omega
    have n1hi : n1 < 4294967296 := by omega
    have n0hi : n0 < 4294967296 := by omega
    have ulB : u < B64 := Nat.lt_trans ult ynlt
    have hpos := Nat.two_pow_pos s
    have hhB : h * 2 ^ s < B64 := by omega
    have hlB : l / 2 ^ (64 - s) < B64 := Nat.lt_of_le_of_lt (Nat.div_le_self _ _) hl
    -- the operations
    have f8 : shiftBin .shl .u64 (y : Int) (s : Int) = some (.int .u64 (yn : Int)) := by rw [shl_u64 (by omega), ← hyn, Nat.mod_eq_of_lt ynlt]
    have f9 : shiftBin .shr .u64 (yn : Int) 32 = some (.int .u64 (y1 : Int)) := by rw [shr32, ← hy1]
    have f10 : intBin .and .u64 (yn : Int) 4294967295 = some (.int .u64 (w0 : Int)) := by rw [and32 ynlt, ← hw0]
    have f11a : shiftBin .shl .u64 (h : Int) (s : Int) = some (.int .u64 ((h * 2 ^ s : Nat) : Int)) := by rw [shl_u64 (by omega), Nat.mod_eq_of_lt hhB]
    have f11b : intBin .sub .u64 64 (s : Int) = some (.int .u64 ((64 - s : Nat) : Int)) := sub_u64 (x := 64) (by decide) (by omega)
    have f11c : shiftBin .shr .u64 (l : Int) ((64 - s : Nat) : Int) = some (.int .u64 ((l / 2 ^ (64 - s) : Nat) : Int)) := shr_u64 (by omega)
    have f11d : intBin .or .u64 ((h * 2 ^ s : Nat) : Int) ((l / 2 ^ (64 - s) : Nat) : Int) = some (.int .u64 (u : Int)) := by rw [or_u64 hhB hlB, or_add hlow, ← hu]
    have f12 : shiftBin .shl .u64 (l : Int) (s : Int) = some (.int .u64 (n : Int)) := by rw [shl_u64 (by omega), ← hn]
    have f13 : shiftBin .shr .u64 (n : Int) 32 = some (.int .u64 (n1 : Int)) := by rw [shr32, ← hn1]
    have f14 : intBin .and .u64 (n : Int) 4294967295 = some (.int .u64 (n0 : Int)) := by rw [and32 nlt, ← hn0]
    have f15 : intBin .quo .u64 (u : Int) (y1 : Int) = some (.int .u64 ((u / y1 : Nat) : Int)) := quo_u64 ulB (by omega)
    have f16 : ∀ z : Nat, z < B64 → (intBin .mul .u64 ((z / y1 : Nat) : Int) (y1 : Int) = some (.int .u64 ((z / y1 * y1 : Nat) : Int)) ∧ intBin .sub .u64 (z : Int) ((z / y1 * y1 : Nat) : Int) = some (.int .u64 ((z % y1 : Nat) : Int))) := fun z hz => by
      have a := Nat.div_mul_le_self z y1
      refine ⟨by rw [mul_u64, Nat.mod_eq_of_lt (Nat.lt_of_le_of_lt a hz)], ?_⟩
      rw [sub_u64 hz a]
      have := Nat.div_add_mod z y1
      rw [Nat.mul_comm] at this
      rw [show z - z / y1 * y1 = z % y1 by omega]
    iterate 9
      apply W_seq; intro b hb
      apply W_region
      simp [f8, f9, f10, f11a, f11b, f11c, f11d, f12, f13, f14, f15, (f16 u ulB).1, (f16 u ulB).2]
      show W _ _ b _ _; subst hb
    refine W_then (fun s' => s'.k = 135 ∧ s'.H = H1 ∧ s'.tm.get 2 = some (.int .u64 (yn : Int)) ∧ s'.tm.get 8 = some (.int .u64 (s : Int)) ∧ s'.tm.get 9 = some (.int .u64 (y1 : Int)) ∧ s'.tm.get 10 = some (.int .u64 (w0 : Int)) ∧
      s'.tm.get 11 = some (.int .u64 (u : Int)) ∧ s'.tm.get 13 = some (.int .u64 (n1 : Int)) ∧ s'.tm.get 14 = some (.int .u64 (n0 : Int)) ∧ ∃ q : Nat, q = (u * 4294967296 + n1) / (y1 * 4294967296 + w0) ∧ q < 4294967296 ∧ s'.tm.get 15 = some (.int .u64 (q : Int))) ?_ ?_
    · apply W_block
      refine W_loopK (fun m s' => s'.k = 135 ∧ s'.H = H1 ∧ s'.tm.get 2 = some (.int .u64 (yn : Int)) ∧ s'.tm.get 8 = some (.int .u64 (s : Int)) ∧ s'.tm.get 9 = some (.int .u64 (y1 : Int)) ∧ s'.tm.get 10 = some (.int .u64 (w0 : Int)) ∧
        s'.tm.get 11 = some (.int .u64 (u : Int)) ∧ s'.tm.get 13 = some (.int .u64 (n1 : Int)) ∧ s'.tm.get 14 = some (.int .u64 (n0 : Int)) ∧ ∃ r : Nat, Est y1 w0 u n1 m r ∧ s'.tm.get 15 = some (.int .u64 (m : Int)) ∧ s'.tm.get 16 = some (.int .u64 (r : Int))) ?_ (u / y1) _
        ⟨rfl, rfl, by simp, by simp, by simp, by simp, by simp, by simp, by simp, _, est_start y1lo y1hi w0hi (by rw [← eyn]; exact ult) n1hi, by simp, by simp⟩
      rintro q ⟨k, tm, H2⟩ ⟨hk, hH, k2, k8, k9, k10, k11, k13, k14, r, E, tq, tr⟩ Q' hQ'
      simp only at hk hH k2 k8 k9 k10 k11 k13 k14 tq tr
      subst hk; subst hH
      have hqB : q < B64 := Nat.lt_of_le_of_lt E.qhi (by decide)
      have hrB := E.rhi
      apply W_seq; intro b3 hb3
      have qle := E.qhi
      have rB : 4294967296 * r < B64 := by show _ < 18446744073709551616; omega
      have mB : (4294967296 * r + n1) % B64 = 4294967296 * r + n1 := Nat.mod_eq_of_lt (by show _ < 18446744073709551616; omega)
      have key : ∀ tm', W Tryd.prog cfgR b3 ⟨135, tm', H2⟩ Q' → W Tryd.prog cfgR b3 ⟨135, tm', H2⟩ Q' := fun _ h => h
      have down : estT w0 n1 q r = true → ∀ tm', tm'.get 2 = some (.int .u64 (yn : Int)) → tm'.get 8 = some (.int .u64 (s : Int)) → tm'.get 9 = some (.int .u64 (y1 : Int)) → tm'.get 10 = some (.int .u64 (w0 : Int)) →
        tm'.get 11 = some (.int .u64 (u : Int)) → tm'.get 13 = some (.int .u64 (n1 : Int)) → tm'.get 14 = some (.int .u64 (n0 : Int)) → tm'.get 15 = some (.int .u64 (q : Int)) → tm'.get 16 = some (.int .u64 (r : Int)) → W Tryd.prog cfgR b3 ⟨135, tm', H2⟩ Q' := fun ht tm' k2 k8 k9 k10 k11 k13 k14 tq tr => by
        obtain ⟨q0, e1, ge1, q1⟩ := E.down ht
        have f1 : intBin .sub .u64 (q : Int) 1 = some (.int .u64 ((q - 1 : Nat) : Int)) := sub1_u64 hqB q0
        have f2 : intBin .add .u64 (r : Int) (y1 : Int) = some (.int .u64 ((r + y1 : Nat) : Int)) := by rw [add_u64, Nat.mod_eq_of_lt (by show _ < 18446744073709551616; omega)]
        subst hb3
        apply W_block
        apply W_seq; intro b4 hb4
        apply W_region
        simp [tq, f1]
        show W _ _ b4 _ _; subst hb4
        apply W_seq; intro b4 hb4
        apply W_region
        simp [tr, k9, f2]
        show W _ _ b4 _ _; subst hb4
        apply W_seq; intro b4 hb4
        apply W_region
        simp [geqL]
        show W _ _ b4 _ _; subst hb4
        by_cases hr : 4294967296 ≤ r + y1
        · refine W_cond (t := true) (by simp [hr]) ?_
          apply W_exit
          right
          refine ⟨by decide, ?_⟩
          apply hQ'
          left
          have := est_break y1lo w0hi E.uhi E.dhi e1 ge1 hr q1
          exact ⟨rfl, rfl, rfl, rfl, by simp [k2], by simp [k8], by simp [k9], by simp [k10], by simp [k11], by simp [k13], by simp [k14], q - 1, this.1, this.2, by simp⟩
        · refine W_cond (t := false) (by simp [hr]) ?_
          apply W_skip
          apply hQ'
          exact ⟨q - 1, by omega, rfl, rfl, by simp [k2], by simp [k8], by simp [k9], by simp [k10], by simp [k11], by simp [k13], by simp [k14], r + y1, ⟨y1lo, y1hi, w0hi, E.uhi, E.dhi, e1, ge1, by omega, by omega⟩, by simp, by simp⟩
      apply W_seq; intro b4 hb4
      apply W_region
      by_cases hq : 4294967296 ≤ q
      · simp [tq, geqL, hq]
        show W _ _ b4 _ _; subst hb4
        refine W_cond (t := true) (by simp) ?_
        apply W_skip
        show W _ _ b3 _ _
        exact down (by simp [estT, hq]) _ (by simp [k2]) (by simp [k8]) (by simp [k9]) (by simp [k10]) (by simp [k11]) (by simp [k13]) (by simp [k14]) (by simp [tq]) (by simp [tr])
      · have hqw : q * w0 < B64 := by
          have a : q * w0 ≤ 4294967295 * w0 := Nat.mul_le_mul_right _ (by omega)
          show _ < 18446744073709551616
          omega
        have g1 : intBin .mul .u64 (q : Int) (w0 : Int) = some (.int .u64 ((q * w0 : Nat) : Int)) := by rw [mul_u64, Nat.mod_eq_of_lt hqw]
        have g2 : intBin .mul .u64 4294967296 (r : Int) = some (.int .u64 ((4294967296 * r : Nat) : Int)) := by rw [mulL, Nat.mod_eq_of_lt rB]
        have g3 : intBin .add .u64 ((4294967296 * r : Nat) : Int) (n1 : Int) = some (.int .u64 ((4294967296 * r + n1 : Nat) : Int)) := by rw [add_u64, mB]
        simp [tq, geqL, hq, tr, k10, k13, g1, g2, g3, gtr_nat]
        show W _ _ b4 _ _; subst hb4
        by_cases ht : 4294967296 * r + n1 < q * w0
        · refine W_cond (t := true) (by simp [ht]) ?_
          apply W_skip
          show W _ _ b3 _ _
          exact down (by simp [estT, ht]) _ (by simp [k2]) (by simp [k8]) (by simp [k9]) (by simp [k10]) (by simp [k11]) (by simp [k13]) (by simp [k14]) (by simp [tq]) (by simp [tr])
        · refine W_cond (t := false) (by simp [ht]) ?_
          apply W_exit
          apply hQ'
          left
          have := E.stop (by simp [estT, ht]; omega)
          exact ⟨rfl, rfl, rfl, rfl, by simp [k2], by simp [k8], by simp [k9], by simp [k10], by simp [k11], by simp [k13], by simp [k14], q, this.1, this.2, by simp [tq]⟩
    rintro ⟨k, tm, H2⟩ ⟨hk, hH, k2, k8, k9, k10, k11, k13, k14, qh, hqh, hqlt, k15⟩
    simp only at hk hH k2 k8 k9 k10 k11 k13 k14 k15
    subst hk; subst hH
    have ynpos : 0 < yn := by omega
    obtain ⟨u2, hu2⟩ : ∃ u2, u2 = (u * 4294967296 + n1) % yn := ⟨_, rfl⟩
    have u2lt : u2 < yn := by rw [hu2]; exact Nat.mod_lt _ ynpos
    have u2B : u2 < B64 := Nat.lt_trans u2lt ynlt
    rw [← eyn] at hqh
    have hrest := rest_mod (u := u) (b := 4294967296) (d := n1) (q := qh) ynlt ynpos hqh
    rw [← hu2] at hrest
    obtain ⟨pa, hpa⟩ : ∃ pa, pa = u * 4294967296 % B64 := ⟨_, rfl⟩
    obtain ⟨pb, hpb⟩ : ∃ pb, pb = (pa + n1) % B64 := ⟨_, rfl⟩
    obtain ⟨pc, hpc⟩ : ∃ pc, pc = qh * yn % B64 := ⟨_, rfl⟩
    rw [← hpa, ← hpb, ← hpc] at hrest
    have g21 : intBin .mul .u64 (u : Int) 4294967296 = some (.int .u64 (pa : Int)) := by rw [mulR, hpa]
    have g21a : intBin .add .u64 (pa : Int) (n1 : Int) = some (.int .u64 (pb : Int)) := by rw [add_u64, hpb]
    have g21b : intBin .mul .u64 (qh : Int) (yn : Int) = some (.int .u64 (pc : Int)) := by rw [mul_u64, hpc]
    have g21c : intBin .sub .u64 (pb : Int) (pc : Int) = some (.int .u64 (u2 : Int)) := by
      rw [subm_u64 (by rw [hpc]; exact Nat.le_of_lt (Nat.mod_lt _ (by decide))), hrest]
    have g22 : intBin .quo .u64 (u2 : Int) (y1 : Int) = some (.int .u64 ((u2 / y1 : Nat) : Int)) := quo_u64 u2B (by omega)
    apply W_seq; intro b hb
    apply W_region
    simp [k11, k13, k15, k2, g21, g21a, g21b, g21c]
    show W _ _ b _ _; subst hb
    apply W_seq; intro b hb
    apply W_region
    simp [k9, g22]
    show W _ _ b _ _; subst hb
    apply W_seq; intro b hb
    apply W_region
    simp [k9, (f16 u2 u2B).1, (f16 u2 u2B).2]
    show W _ _ b _ _; subst hb
    refine W_then (fun s' => s'.k = 135 ∧ s'.H = H2 ∧ s'.tm.get 2 = some (.int .u64 (yn : Int)) ∧ s'.tm.get 8 = some (.int .u64 (s : Int)) ∧ s'.tm.get 9 = some (.int .u64 (y1 : Int)) ∧ s'.tm.get 10 = some (.int .u64 (w0 : Int)) ∧
      s'.tm.get 11 = some (.int .u64 (u : Int)) ∧ s'.tm.get 13 = some (.int .u64 (n1 : Int)) ∧ s'.tm.get 14 = some (.int .u64 (n0 : Int)) ∧ s'.tm.get 15 = some (.int .u64 (qh : Int)) ∧ s'.tm.get 17 = some (.int .u64 (u2 : Int)) ∧ ∃ q : Nat, q = (u2 * 4294967296 + n0) / (y1 * 4294967296 + w0) ∧ q < 4294967296 ∧ s'.tm.get 18 = some (.int .u64 (q : Int))) ?_ ?_
    · apply W_block
      refine W_loopK (fun m s' => s'.k = 135 ∧ s'.H = H2 ∧ s'.tm.get 2 = some (.int .u64 (yn : Int)) ∧ s'.tm.get 8 = some (.int .u64 (s : Int)) ∧ s'.tm.get 9 = some (.int .u64 (y1 : Int)) ∧ s'.tm.get 10 = some (.int .u64 (w0 : Int)) ∧
        s'.tm.get 11 = some (.int .u64 (u : Int)) ∧ s'.tm.get 13 = some (.int .u64 (n1 : Int)) ∧ s'.tm.get 14 = some (.int .u64 (n0 : Int)) ∧ s'.tm.get 15 = some (.int .u64 (qh : Int)) ∧ s'.tm.get 17 = some (.int .u64 (u2 : Int)) ∧ ∃ r : Nat, Est y1 w0 u2 n0 m r ∧ s'.tm.get 18 = some (.int .u64 (m : Int)) ∧ s'.tm.get 16 = some (.int .u64 (r : Int))) ?_ (u2 / y1) _
        ⟨rfl, rfl, by simp [k2], by simp [k8], by simp [k9], by simp [k10], by simp [k11], by simp [k13], by simp [k14], by simp [k15], by simp, _, est_start y1lo y1hi w0hi (by rw [← eyn]; exact u2lt) n0hi, by simp, by simp⟩
      clear k2 k8 k9 k10 k11 k13 k14 k15
      rintro q ⟨k, tm, H3⟩ ⟨hk, hH, k2, k8, k9, k10, k11, k13, k14, k15, k17, r, E, tq, tr⟩ Q' hQ'
      simp only at hk hH k2 k8 k9 k10 k11 k13 k14 k15 k17 tq tr
      subst hk; subst hH
      have hqB : q < B64 := Nat.lt_of_le_of_lt E.qhi (by decide)
      have hrB := E.rhi
      apply W_seq; intro b3 hb3
      have qle := E.qhi
      have rB : 4294967296 * r < B64 := by show _ < 18446744073709551616; omega
      have mB : (4294967296 * r + n0) % B64 = 4294967296 * r + n0 := Nat.mod_eq_of_lt (by show _ < 18446744073709551616; omega)
      have key : ∀ tm', W Tryd.prog cfgR b3 ⟨135, tm', H3⟩ Q' → W Tryd.prog cfgR b3 ⟨135, tm', H3⟩ Q' := fun _ h => h
      have down : estT w0 n0 q r = true → ∀ tm', tm'.get 2 = some (.int .u64 (yn : Int)) → tm'.get 8 = some (.int .u64 (s : Int)) → tm'.get 9 = some (.int .u64 (y1 : Int)) → tm'.get 10 = some (.int .u64 (w0 : Int)) →
        tm'.get 11 = some (.int .u64 (u : Int)) → tm'.get 13 = some (.int .u64 (n1 : Int)) → tm'.get 14 = some (.int .u64 (n0 : Int)) → tm'.get 15 = some (.int .u64 (qh : Int)) → tm'.get 17 = some (.int .u64 (u2 : Int)) → tm'.get 18 = some (.int .u64 (q : Int)) → tm'.get 16 = some (.int .u64 (r : Int)) → W Tryd.prog cfgR b3 ⟨135, tm', H3⟩ Q' := fun ht tm' k2 k8 k9 k10 k11 k13 k14 k15 k17 tq tr => by
        obtain ⟨q0, e1, ge1, q1⟩ := E.down ht
        have f1 : intBin .sub .u64 (q : Int) 1 = some (.int .u64 ((q - 1 : Nat) : Int)) := sub1_u64 hqB q0
        have f2 : intBin .add .u64 (r : Int) (y1 : Int) = some (.int .u64 ((r + y1 : Nat) : Int)) := by rw [add_u64, Nat.mod_eq_of_lt (by show _ < 18446744073709551616; omega)]
        subst hb3
        apply W_block
        apply W_seq; intro b4 hb4
        apply W_region
        simp [tq, f1]
        show W _ _ b4 _ _; subst hb4
        apply W_seq; intro b4 hb4
        apply W_region
        simp [tr, k9, f2]
        show W _ _ b4 _ _; subst hb4
        apply W_seq; intro b4 hb4
        apply W_region
        simp [geqL]
        show W _ _ b4 _ _; subst hb4
        by_cases hr : 4294967296 ≤ r + y1
        · refine W_cond (t := true) (by simp [hr]) ?_
          apply W_exit
          right
          refine ⟨by decide, ?_⟩
          apply hQ'
          left
          have := est_break y1lo w0hi E.uhi E.dhi e1 ge1 hr q1
          exact ⟨rfl, rfl, rfl, rfl, by simp [k2], by simp [k8], by simp [k9], by simp [k10], by simp [k11], by simp [k13], by simp [k14], by simp [k15], by simp [k17], q - 1, this.1, this.2, by simp⟩
        · refine W_cond (t := false) (by simp [hr]) ?_
          apply W_skip
          apply hQ'
          exact ⟨q - 1, by omega, rfl, rfl, by simp [k2], by simp [k8], by simp [k9], by simp [k10], by simp [k11], by simp [k13], by simp [k14], by simp [k15], by simp [k17], r + y1, ⟨y1lo, y1hi, w0hi, E.uhi, E.dhi, e1, ge1, by omega, by omega⟩, by simp, by simp⟩
      apply W_seq; intro b4 hb4
      apply W_region
      by_cases hq : 4294967296 ≤ q
      · simp [tq, geqL, hq]
        show W _ _ b4 _ _; subst hb4
        refine W_cond (t := true) (by simp) ?_
        apply W_skip
        show W _ _ b3 _ _
        exact down (by simp [estT, hq]) _ (by simp [k2]) (by simp [k8]) (by simp [k9]) (by simp [k10]) (by simp [k11]) (by simp [k13]) (by simp [k14]) (by simp [k15]) (by simp [k17]) (by simp [tq]) (by simp [tr])
      · have hqw : q * w0 < B64 := by
          have a : q * w0 ≤ 4294967295 * w0 := Nat.mul_le_mul_right _ (by omega)
          show _ < 18446744073709551616
          omega
        have g1 : intBin .mul .u64 (q : Int) (w0 : Int) = some (.int .u64 ((q * w0 : Nat) : Int)) := by rw [mul_u64, Nat.mod_eq_of_lt hqw]
        have g2 : intBin .mul .u64 4294967296 (r : Int) = some (.int .u64 ((4294967296 * r : Nat) : Int)) := by rw [mulL, Nat.mod_eq_of_lt rB]
        have g3 : intBin .add .u64 ((4294967296 * r : Nat) : Int) (n0 : Int) = some (.int .u64 ((4294967296 * r + n0 : Nat) : Int)) := by rw [add_u64, mB]
        simp [tq, geqL, hq, tr, k10, k14, g1, g2, g3, gtr_nat]
        show W _ _ b4 _ _; subst hb4
        by_cases ht : 4294967296 * r + n0 < q * w0
        · refine W_cond (t := true) (by simp [ht]) ?_
          apply W_skip
          show W _ _ b3 _ _
          exact down (by simp [estT, ht]) _ (by simp [k2]) (by simp [k8]) (by simp [k9]) (by simp [k10]) (by simp [k11]) (by simp [k13]) (by simp [k14]) (by simp [k15]) (by simp [k17]) (by simp [tq]) (by simp [tr])
        · refine W_cond (t := false) (by simp [ht]) ?_
          apply W_exit
          apply hQ'
          left
          have := E.stop (by simp [estT, ht]; omega)
          exact ⟨rfl, rfl, rfl, rfl, by simp [k2], by simp [k8], by simp [k9], by simp [k10], by simp [k11], by simp [k13], by simp [k14], by simp [k15], by simp [k17], q, this.1, this.2, by simp [tq]⟩
    rintro ⟨k, tm, H3⟩ ⟨hk, hH, k2, k8, k9, k10, k11, k13, k14, k15, k17, ql, hql, hqllt, k18⟩
    simp only at hk hH k2 k8 k9 k10 k11 k13 k14 k15 k17 k18
    subst hk; subst hH
    rw [← eyn] at hql
    obtain ⟨r3, hr3⟩ : ∃ r3, r3 = (u2 * 4294967296 + n0) % yn := ⟨_, rfl⟩
    have r3lt : r3 < yn := by rw [hr3]; exact Nat.mod_lt _ ynpos
    have hrest2 := rest_mod (u := u2) (b := 4294967296) (d := n0) (q := ql) ynlt ynpos hql
    obtain ⟨pd, hpd⟩ : ∃ pd, pd = u2 * 4294967296 % B64 := ⟨_, rfl⟩
    obtain ⟨pe, hpe⟩ : ∃ pe, pe = (pd + n0) % B64 := ⟨_, rfl⟩
    obtain ⟨pf, hpf⟩ : ∃ pf, pf = ql * yn % B64 := ⟨_, rfl⟩
    rw [← hr3, ← hpd, ← hpe, ← hpf] at hrest2
    have j1 : intBin .mul .u64 (qh : Int) 4294967296 = some (.int .u64 ((qh * 4294967296 : Nat) : Int)) := by rw [mulR, Nat.mod_eq_of_lt (by show _ < 18446744073709551616; omega)]
    have j2 : intBin .add .u64 ((qh * 4294967296 : Nat) : Int) (ql : Int) = some (.int .u64 ((qh * 4294967296 + ql : Nat) : Int)) := by rw [add_u64, Nat.mod_eq_of_lt (by show _ < 18446744073709551616; omega)]
    have j3 : intBin .mul .u64 (u2 : Int) 4294967296 = some (.int .u64 (pd : Int)) := by rw [mulR, hpd]
    have j4 : intBin .add .u64 (pd : Int) (n0 : Int) = some (.int .u64 (pe : Int)) := by rw [add_u64, hpe]
    have j5 : intBin .mul .u64 (ql : Int) (yn : Int) = some (.int .u64 (pf : Int)) := by rw [mul_u64, hpf]
    have j6 : intBin .sub .u64 (pe : Int) (pf : Int) = some (.int .u64 (r3 : Int)) := by
      rw [subm_u64 (by rw [hpf]; exact Nat.le_of_lt (Nat.mod_lt _ (by decide))), hrest2]
    have j7 : shiftBin .shr .u64 (r3 : Int) (s : Int) = some (.int .u64 ((r3 / 2 ^ s : Nat) : Int)) := shr_u64 (by omega)
    have all : (h * B64 + l) * 2 ^ s = yn * (qh * 4294967296 + ql) + r3 := by
      have e1 := Nat.div_add_mod (u * 4294967296 + n1) yn
      rw [← hqh, ← hu2] at e1
      have e2 := Nat.div_add_mod (u2 * 4294967296 + n0) yn
      rw [← hql, ← hr3] at e2
      rw [total, en]
      exact total_div e1 e2 (by decide)
    have hquo : (h * B64 + l) / y = qh * 4294967296 + ql := by
      rw [← Nat.mul_div_mul_right _ _ (Nat.two_pow_pos s), all, ← hyn, Nat.add_comm, Nat.add_mul_div_left _ _ ynpos, Nat.div_eq_of_lt r3lt, Nat.zero_add]
    have hrem : (h * B64 + l) % y = r3 / 2 ^ s := by
      have : (h * B64 + l) % y * 2 ^ s = r3 := by
        rw [← Nat.mul_mod_mul_right, all, ← hyn, Nat.add_comm, Nat.add_mul_mod_self_left, Nat.mod_eq_of_lt r3lt]
      rw [← this, Nat.mul_div_cancel _ (Nat.two_pow_pos s)]
    rw [hquo, hrem]
    apply W_seq; intro b hb
    apply W_region
    simp [k2, k8, k14, k15, k17, k18, j1, j2, j3, j4, j5, j6, j7]
    show W _ _ b _ _; subst hb
    apply W_ret
    simp
end
end Go.Proofs.YthlgggcpokfmaaaDoor

/-
  PLAIN LAW of div.guess (Knuth's D): the trial digit by the highest digits; what the multiplying and the taking away leave.
-/
namespace Go.Proofs.YthlgggcpokfmaaaDoor
set_option linter.unusedVariables false

/-- The numbers: V = (y1 B + y0) P + v', U = (u B + d) P + u'. -/
structure Top (B P V U y1 y0 v' u d u' : Nat) : Prop where
  hV : V = (y1 * B + y0) * P + v'
  hU : U = (u * B + d) * P + u'
  vlt : v' < P
  ult : u' < P
  d_lt : d < B
  y0lt : y0 < B
  y1pos : 0 < y1

section
variable {B P V U y1 y0 v' u d u' q r : Nat}

theorem Top.Ppos (T : Top B P V U y1 y0 v' u d u') : 0 < P := Nat.lt_of_le_of_lt (Nat.zero_le _) T.vlt
theorem Top.Bpos (T : Top B P V U y1 y0 v' u d u') : 0 < B := Nat.lt_of_le_of_lt (Nat.zero_le _) T.d_lt

theorem Top.Vge (T : Top B P V U y1 y0 v' u d u') : B * P ≤ V := by
  rw [T.hV]
  have : B * P ≤ (y1 * B + y0) * P := Nat.mul_le_mul_right _ (by
    have : 1 * B ≤ y1 * B := Nat.mul_le_mul_right _ T.y1pos
    omega)
  omega

theorem Top.Vpos (T : Top B P V U y1 y0 v' u d u') : 0 < V := Nat.lt_of_lt_of_le (Nat.mul_pos T.Bpos T.Ppos) T.Vge

theorem Top.Ult (T : Top B P V U y1 y0 v' u d u') : U < (u * B + d + 1) * P := by
  rw [T.hU, Nat.succ_mul]
  have := T.ult
  omega

/-- The digit is at most what the highest digit alone lets. -/
theorem Top.first (T : Top B P V U y1 y0 v' u d u') : U / V ≤ u / y1 := by
  rw [Nat.le_div_iff_mul_le T.y1pos]
  have h1 : U / V * V ≤ U := Nat.div_mul_le_self U V
  have h2 : U / V * (y1 * B * P) ≤ U / V * V := Nat.mul_le_mul_left _ (by
    rw [T.hV, Nat.add_mul]
    omega)
  have h3 := T.Ult
  have h4 : (u * B + d + 1) * P ≤ ((u + 1) * B) * P := Nat.mul_le_mul_right _ (by
    have := T.d_lt
    rw [Nat.succ_mul]; omega)
  have h5 : (U / V * y1) * (B * P) < (u + 1) * (B * P) := by
    rw [Nat.mul_assoc] at h2 h4
    rw [Nat.mul_assoc]
    omega
  have := Nat.lt_of_mul_lt_mul_right h5
  omega

/-- The highest digit is at most the divisor's, and then the digit is less than the base. -/
theorem Top.high {un un1 : Nat} (T : Top B P V U y1 y0 v' (un * B + un1) d u') (h : U < V * B) : un ≤ y1 := by
  rcases Nat.lt_or_ge y1 un with hlt | hge
  · exfalso
    have h1 : V < (y1 + 1) * B * P := by
      rw [T.hV]
      have a : (y1 * B + y0 + 1) * P ≤ (y1 + 1) * B * P := Nat.mul_le_mul_right _ (by have := T.y0lt; rw [Nat.succ_mul]; omega)
      have b := T.vlt
      rw [Nat.succ_mul] at a
      omega
    have h2 : V * B ≤ ((y1 + 1) * B * P) * B := Nat.mul_le_mul_right _ (Nat.le_of_lt h1)
    have h3 : ((y1 + 1) * B * P) * B ≤ U := by
      rw [T.hU]
      have a : ((y1 + 1) * B) * B ≤ (un * B) * B := Nat.mul_le_mul_right _ (Nat.mul_le_mul_right _ hlt)
      have b : ((y1 + 1) * B) * B * P ≤ ((un * B + un1) * B + d) * P := Nat.mul_le_mul_right _ (by
        rw [Nat.add_mul (un * B) un1 B]; omega)
      rw [Nat.mul_right_comm _ P B]
      omega
    omega
  · exact hge

/-- The test holds: the digit is less. -/
theorem Top.true (T : Top B P V U y1 y0 v' u d u') (hq : q * y1 + r = u) (ht : r * B + d < q * y0) : U / V < q := by
  rw [Nat.div_lt_iff_lt_mul T.Vpos]
  have h1 : q * ((y1 * B + y0) * P) ≤ q * V := Nat.mul_le_mul_left _ (by rw [T.hV]; omega)
  have h2 : (u * B + d + 1) * P ≤ (q * (y1 * B + y0)) * P := Nat.mul_le_mul_right _ (by
    rw [← hq, Nat.add_mul, Nat.mul_add, Nat.mul_assoc]; omega)
  have h3 := T.Ult
  rw [Nat.mul_assoc] at h2
  omega

/-- The test fails: the trial is at most one too great. -/
theorem Top.false (T : Top B P V U y1 y0 v' u d u') (hq : q * y1 + r = u) (hlt : q < B) (ht : q * y0 ≤ r * B + d) : q ≤ U / V + 1 := by
  have h1 : q * V ≤ q * ((y1 * B + y0) * P) + q * P := by
    rw [← Nat.mul_add]
    exact Nat.mul_le_mul_left _ (by rw [T.hV]; have := T.vlt; omega)
  have h2 : (q * (y1 * B + y0)) * P ≤ (u * B + d) * P := Nat.mul_le_mul_right _ (by
    rw [← hq, Nat.add_mul, Nat.mul_add, Nat.mul_assoc]; omega)
  rw [Nat.mul_assoc] at h2
  have h3 : q * P < B * P := Nat.mul_lt_mul_of_pos_right hlt T.Ppos
  have h4 := T.Vge
  have h5 : q * V < U + V := by
    have := T.hU
    omega
  have h6 : q * V < (U / V + 2) * V := by
    have a := Nat.div_add_mod U V
    have b := Nat.mod_lt U T.Vpos
    rw [Nat.mul_comm] at a
    rw [Nat.add_mul, Nat.two_mul]
    omega
  have := Nat.lt_of_mul_lt_mul_right h6
  omega
end

/-- What the taking away leaves. -/
theorem take_away {N U V q R b : Nat} (hV : 0 < V) (hge : U / V ≤ q) (hle : q ≤ U / V + 1) (hU : U < N) (hR : R < N) (hb : b ≤ 1) (e : R + q * V = U + N * b) :
    (b = 0 ∧ q = U / V ∧ R = U % V) ∨ (b = 1 ∧ q = U / V + 1 ∧ R + V = N + U % V) := by
  have a := Nat.div_add_mod U V
  have m := Nat.mod_lt U hV
  rw [Nat.mul_comm] at a
  rcases Nat.lt_or_ge (U / V) q with h | h
  · right
    obtain rfl : q = U / V + 1 := by omega
    rw [Nat.add_mul, Nat.one_mul] at e
    have hb1 : b = 1 := by
      rcases Nat.lt_or_ge b 1 with h0 | h0
      · exfalso
        obtain rfl : b = 0 := by omega
        rw [Nat.mul_zero] at e
        omega
      · omega
    subst hb1
    rw [Nat.mul_one] at e
    exact ⟨rfl, rfl, by omega⟩
  · left
    obtain rfl : q = U / V := by omega
    have hb0 : b = 0 := by
      rcases Nat.lt_or_ge b 1 with h0 | h0
      · omega
      · exfalso
        obtain rfl : b = 1 := by omega
        rw [Nat.mul_one] at e
        omega
    subst hb0
    rw [Nat.mul_zero] at e
    exact ⟨rfl, rfl, by omega⟩

/-- A step of the multiplying and taking away. -/
theorem mul_sub_step {B x y q carry borrow : Nat} (hx : x < B) (hq : q < B) (hc : carry < B) (hy : y < B) (hb : borrow ≤ 1) :
    let p := x * q
    let sum := (p % B + carry) % B
    let carry' := p / B + (p % B + carry) / B
    let y' := (y + B - sum - borrow) % B
    let borrow' := if y < sum + borrow then 1 else 0
    carry' < B ∧ y' < B ∧ y' + x * q + carry + borrow = y + B * (carry' + borrow') := by
  intro p sum carry' y' borrow'
  have hB : 0 < B := by omega
  have hp : p ≤ (B - 1) * (B - 1) := Nat.mul_le_mul (by omega) (by omega)
  have e1 := Nat.div_add_mod p B
  have e2 := Nat.div_add_mod (p % B + carry) B
  have hs : sum < B := Nat.mod_lt _ hB
  have hcy : carry' * B + sum = p + carry := by
    show (p / B + (p % B + carry) / B) * B + (p % B + carry) % B = p + carry
    rw [Nat.add_mul, Nat.mul_comm (p / B), Nat.mul_comm ((p % B + carry) / B)]
    omega
  have hcB : carry' < B := by
    have : (B - 1) * (B - 1) + (B - 1) = (B - 1) * B := by
      obtain ⟨b, rfl⟩ : ∃ b, B = b + 1 := ⟨B - 1, by omega⟩
      rw [Nat.add_sub_cancel, Nat.mul_succ]
    have h3 : carry' * B ≤ (B - 1) * B := by omega
    have := Nat.le_of_mul_le_mul_right h3 hB
    omega
  refine ⟨hcB, Nat.mod_lt _ hB, ?_⟩
  show (y + B - sum - borrow) % B + p + carry + borrow = y + B * (carry' + if y < sum + borrow then 1 else 0)
  have key : (y + B - sum - borrow) % B + sum + borrow = y + B * (if y < sum + borrow then 1 else 0) := by
    by_cases h : y < sum + borrow
    · rw [if_pos h, Nat.mod_eq_of_lt (by omega)]; omega
    · rw [if_neg h]
      have : y + B - sum - borrow = (y - sum - borrow) + B := by omega
      rw [this, Nat.add_mod_right, Nat.mod_eq_of_lt (by omega)]; omega
  rw [Nat.mul_add, Nat.mul_comm B carry']
  omega
end Go.Proofs.YthlgggcpokfmaaaDoor

/-
  LISTS OF LIMBS: which block a slice lies in; lists that stay while another block is written; parts of a list.
-/
namespace Go.Proofs.YthlgggcpokfmaaaDoor
open Go Ev
set_option linter.unusedVariables false
set_option linter.unusedSimpArgs false
noncomputable section
set_option maxRecDepth 20000

/-- A slice's block. -/
def vblk : Value → Option Nat
  | .slice (some ⟨b, _, none⟩) _ _ => some b
  | _ => none

/-- Two slices lie in two blocks. -/
def Apart (v w : Value) : Prop := ∀ b, vblk v = some b → vblk w ≠ some b

/-- The same heap, but for one block. -/
structure But (b : Option Nat) (H H' : AH) : Prop where
  n : H'.n = H.n
  blk : ∀ j, j < H.n → b ≠ some j → H'.blk j = H.blk j

theorem But.refl (b : Option Nat) (H : AH) : But b H H := ⟨rfl, fun _ _ _ => rfl⟩
theorem But.trans {b : Option Nat} {H H1 H2 : AH} (x : But b H H1) (y : But b H1 H2) : But b H H2 := ⟨y.n.trans x.n, fun j hn hj => (y.blk j (by rw [x.n]; exact hn) hj).trans (x.blk j hn hj)⟩

theorem At.but {b : Option Nat} {H H' : AH} {c o : Nat} {xs : List Nat} (h : At H c o xs) (k : But b H H') (hb : b ≠ some c) : At H' c o xs := by
  obtain ⟨h1, cs, h2, h3, h4⟩ := h
  have e := k.blk c h1 hb
  exact ⟨by rw [k.n]; exact h1, cs, by unfold AH.cells; rw [e]; exact h2, by unfold AH.size; rw [e]; exact h3, h4⟩

theorem Sl.but {b : Option Nat} {H H' : AH} {v : Value} {xs : List Nat} (h : Sl H v xs) (k : But b H H') (hb : ∀ c, b = some c → vblk v ≠ some c) : Sl H' v xs := by
  cases h with
  | nil => exact .nil
  | emp b => exact .emp b
  | mk c o cap xs h1 h2 => exact .mk c o cap xs h1 (h2.but k fun e => hb c e rfl)

theorem Own.but {b : Option Nat} {n0 : Nat} {H H' : AH} {v : Value} {xs : List Nat} (h : Own n0 H v xs) (k : But b H H') (hb : ∀ c, b = some c → vblk v ≠ some c) : Own n0 H' v xs := by
  cases h with
  | nil => exact .nil
  | mk c o cap xs cs h1 h2 h3 h4 h5 h6 => exact .mk c o cap xs cs h1 h2 (by rw [k.n]; exact h3) (by rw [k.blk c h3 fun e => hb c e rfl]; exact h4) h5 h6

theorem Own.blk_lo {n0 : Nat} {H : AH} {v : Value} {xs : List Nat} (h : Own n0 H v xs) {b : Nat} (hb : vblk v = some b) : n0 ≤ b ∧ b < H.n := by
  cases h with
  | nil => cases hb
  | mk c o cap xs cs h1 h2 h3 h4 h5 h6 => cases hb; exact ⟨h2, h3⟩

theorem Sl.blk_lt {H : AH} {v : Value} {xs : List Nat} (h : Sl H v xs) {b : Nat} (hb : vblk v = some b) : b < H.n := by
  cases h with
  | nil => cases hb
  | emp _ => cases hb
  | mk c o cap xs h1 h2 => cases hb; exact h2.1

/-- A write: the list changes, and no other block. -/
theorem Own.put {n : Nat} {H : AH} {v : Value} {xs : List Nat} (h : Own n H v xs) {i : Nat} (hi : i < xs.length) (y : Nat) :
    ∃ H', storeV Tryd.prog H 65 (adr v i) (.int .u64 (y : Int)) = some H' ∧ Own n H' v (xs.set i y) ∧ H'.n = H.n ∧ (∀ j, vblk v ≠ some j → H'.blk j = H.blk j) ∧
      ∀ H0, Keep H0 H → H0.n ≤ n → Keep H0 H' := by
  cases h with
  | nil => cases hi
  | mk b o cap xs cs h1 h2 h3 h4 h5 h6 =>
    have hlen : Nat.ble (o + i + 1) cs.length = true := Nat.ble_eq.mpr (by omega)
    have e0 : (Value.int .u64 (y : Int)).cells = #[.int .u64 (y : Int)] := rfl
    have hw : H.write b (o + i) [.int .u64 (y : Int)] = some { n := H.n, lw := min H.lw b, t := H.t.set b (.rw 1 (cs.take (o + i) ++ [.int .u64 (y : Int)] ++ cs.drop (o + i + 1))) } := by
      rw [AH.write_def, h4]
      simp only [List.length_singleton, hlen, Bool.true_and]
      rfl
    refine ⟨{ n := H.n, lw := min H.lw b, t := H.t.set b (.rw 1 (cs.take (o + i) ++ [.int .u64 (y : Int)] ++ cs.drop (o + i + 1))) }, ?_, ?_, rfl, ?_, ?_⟩
    · unfold storeV Go.Proofs.YthlgggcpokfmaaaDoor.adr
      simp only [sU64, e0]
      rw [show Nat.beq (#[Value.int .u64 (y : Int)] : Array Value).size 1 = true from rfl, cond_true]
      exact hw
    · have hl : (xs.set i y).length = xs.length := List.length_set
      rw [← hl]
      refine .mk b o cap _ (cs.take (o + i) ++ [.int .u64 (y : Int)] ++ cs.drop (o + i + 1)) (by omega) h2 h3 ?_ ?_ ?_
      · unfold AH.blk; simp only [Tr.get_set, if_true]
      · simp only [List.length_append, List.length_take, List.length_drop, List.length_singleton]; omega
      · intro j x hj
        rw [List.getElem?_set] at hj
        by_cases e : i = j
        · subst e
          rw [if_pos rfl, if_pos hi] at hj
          cases hj
          rw [List.append_assoc, List.getElem?_append_right (by rw [List.length_take]; omega)]
          rw [List.length_take, show o + i - min (o + i) cs.length = 0 by omega]
          rfl
        · rw [if_neg e] at hj
          have := h6 j x hj
          rcases Nat.lt_or_ge (o + j) (o + i) with hlt | hge
          · rw [List.append_assoc, List.getElem?_append_left (by rw [List.length_take]; omega), List.getElem?_take, if_pos hlt]
            exact this
          · rw [List.getElem?_append_right (by simp only [List.length_append, List.length_take, List.length_singleton]; omega), List.getElem?_drop]
            simp only [List.length_append, List.length_take, List.length_singleton]
            rw [show o + i + 1 + (o + j - (min (o + i) cs.length + 1)) = o + j by omega]
            exact this
    · intro j hj
      have : j ≠ b := fun e => hj (by rw [e]; rfl)
      unfold AH.blk
      simp only [Tr.get_set, if_neg this]
    · intro H0 k hn
      refine ⟨k.n, ?_, fun j hj => ?_⟩
      · have := k.lw
        show min H0.lw H0.n ≤ min H.lw b
        omega
      · have : j ≠ b := by omega
        rw [← k.blk j hj]
        unfold AH.blk
        simp only [Tr.get_set, if_neg this]

/-- A slice whose limbs are another's, from a place on. -/
def View (w v : Value) (j m : Nat) : Prop := ∀ (t : TypeId), LT t → ∀ (k : IntKind) (i : Nat), i < m → indexAddrV Tryd.prog t w (.int k (i : Int)) = some (adr v (j + i))

/-- 'v[j:j+m]' of a list. -/
theorem Sl.part {H : AH} {v : Value} {xs : List Nat} (h : Sl H v xs) {t : TypeId} (ht : LT t) {j m : Nat} (hm : j + m ≤ xs.length) (h0 : 0 < m) :
    ∃ w, sliceV Tryd.prog H t v (some (.int .i64 (j : Int))) (some (.int .i64 ((j + m : Nat) : Int))) none = some w ∧ Sl H w ((xs.drop j).take m) ∧ View w v j m ∧ vblk w = vblk v := by
  cases h with
  | nil => simp at hm; omega
  | emp b => simp at hm; omega
  | mk b o cap xs h1 h2 =>
    have hl : ((xs.drop j).take m).length = m := by rw [List.length_take, List.length_drop]; omega
    obtain ⟨h2a, cs, h3, h4, h5⟩ := h2
    refine ⟨.slice (some ⟨b, o + j, none⟩) ((xs.drop j).take m).length (cap - j), ?_, .mk b (o + j) (cap - j) _ (by omega) ⟨h2a, cs, h3, h4, fun i x hx => ?_, by have := (List.getElem?_eq_some_iff.mp (h5.1 j _ (List.getElem?_eq_getElem (show j < xs.length by omega)))).1; omega⟩, ?_, rfl⟩
    · unfold sliceV
      simp only [ht.1, sU64]
      unfold cutV boundV
      simp only [h4, Option.isSome_some, Option.isNone_none, Bool.true_or]
      rw [if_pos (by omega)]
      have e1 : Nat.ble (j + m) cap = true := Nat.ble_eq.mpr (by omega)
      have e2 : Nat.blt j cap = true := by rw [Nat.blt_eq]; omega
      simp only [boundV, Int.toNat_natCast]
      rw [if_pos (by omega)]
      simp [e1, e2, hl]
    · rw [List.getElem?_take] at hx
      split at hx
      · rw [List.getElem?_drop] at hx
        have := h5.1 (j + i) x hx
        rwa [← Nat.add_assoc] at this
      · cases hx
    · intro t ht k i hi
      unfold indexAddrV Go.Proofs.YthlgggcpokfmaaaDoor.adr
      simp only [ht.1, sU64]
      rw [if_pos (by omega)]
      simp [Nat.add_assoc]
end
end Go.Proofs.YthlgggcpokfmaaaDoor

/-
  div.guess: the walk.
-/
namespace Go.Proofs.YthlgggcpokfmaaaDoor
open Go Ev
set_option linter.unusedVariables false
set_option linter.unusedSimpArgs false
noncomputable section
set_option maxRecDepth 20000

/-- What lay there before stays. -/
def KA (n0 : Nat) (H H1 : AH) : Prop := ∀ H0, Keep H0 H → H0.n ≤ n0 → Keep H0 H1
theorem KA.refl (n0 : Nat) (H : AH) : KA n0 H H := fun _ k _ => k
theorem KA.trans {n0 : Nat} {H H1 H2 : AH} (a : KA n0 H H1) (b : KA n0 H1 H2) : KA n0 H H2 := fun H0 k h => b H0 (a H0 k h) h

theorem Own.segload {n0 : Nat} {H : AH} {U0 : Value} {pre us post : List Nat} (h : Own n0 H U0 (pre ++ us ++ post)) {j : Nat} (hj : pre.length = j) {i : Nat} (hi : i < us.length) :
    loadV Tryd.prog H 65 (adr U0 (j + i)) = some (.int .u64 (us[i] : Nat)) := by
  subst hj
  have := h.sl.load (i := pre.length + i) (by simp; omega)
  rw [this]
  congr 3
  rw [List.getElem_append_left (by simp; omega), List.getElem_append_right (by omega)]
  simp

theorem Own.segstore {n0 : Nat} {H : AH} {U0 : Value} {pre us post : List Nat} (h : Own n0 H U0 (pre ++ us ++ post)) {j : Nat} (hj : pre.length = j) {i : Nat} (hi : i < us.length) (y : Nat) :
    ∃ H', storeV Tryd.prog H 65 (adr U0 (j + i)) (.int .u64 (y : Int)) = some H' ∧ Own n0 H' U0 (pre ++ us.set i y ++ post) ∧ But (vblk U0) H H' ∧ KA n0 H H' := by
  subst hj
  obtain ⟨H', h1, h2, h3, h4, h5⟩ := h.put (i := pre.length + i) (by simp; omega) y
  refine ⟨H', h1, ?_, ⟨h3, fun j _ => h4 j⟩, h5⟩
  rw [List.set_append_left _ _ (by simp; omega), List.set_append_right _ _ (by omega), Nat.add_sub_cancel_left] at h2
  exact h2

theorem add64_call0 (x y : Nat) (H : AH) : callI Tryd.prog cfgR 60 [.int .u64 (x : Int), .int .u64 (y : Int), .int .u64 0] H =
    some (.tuple #[.int .u64 (((x + y) % B64 : Nat) : Int), .int .u64 (((x + y) / B64 : Nat) : Int)], H) := add64_call x y 0 H (by omega)

theorem mul64_call {x y : Nat} (hx : x < B64) (hy : y < B64) (H : AH) : callI Tryd.prog cfgR 61 [.int .u64 (x : Int), .int .u64 (y : Int)] H =
    some (.tuple #[.int .u64 ((x * y / B64 : Nat) : Int), .int .u64 ((x * y % B64 : Nat) : Int)], H) := by
  obtain ⟨v, H', h, rfl, rfl⟩ := mul64_spec hx hy (H := H)
  exact h

theorem div64_call {h l y : Nat} (hh : h < y) (hl : l < B64) (hy : y < B64) (H : AH) : callI Tryd.prog cfgR 55 [.int .u64 (h : Int), .int .u64 (l : Int), .int .u64 (y : Int)] H =
    some (.tuple #[.int .u64 (((h * B64 + l) / y : Nat) : Int), .int .u64 (((h * B64 + l) % y : Nat) : Int)], H) := by
  obtain ⟨v, H', h, rfl, rfl⟩ := div64_spec hh hl hy (H := H)
  exact h

theorem neq0_u64 {x : Nat} : intBin .neq .u64 (x : Int) 0 = some (.bool (decide (x ≠ 0))) := neq_nat (y := 0)
theorem sub2_i64 {x : Nat} (h : x < 9223372036854775808) (hx : 2 ≤ x) : intBin .sub .i64 (x : Int) 2 = some (.int .i64 ((x - 2 : Nat) : Int)) := sub_i64 (x := x) (y := 2) h hx
theorem add_u64_lt {x y : Nat} (h : x + y < B64) : intBin .add .u64 (x : Int) (y : Int) = some (.int .u64 ((x + y : Nat) : Int)) := by rw [add_u64, Nat.mod_eq_of_lt h]

theorem split_last {xs : List Nat} {n : Nat} (h : xs.length = n + 1) : xs = xs.take n ++ [xs[n]'(by omega)] := by
  have := List.take_append_getElem (l := xs) (i := n) (by omega)
  rw [this, ← h, List.take_length]

/-- The highest digits. -/
theorem top_of {us vs : List Nat} {n : Nat} (hu : us.length = n + 1) (hv : vs.length = n) (h2 : 2 ≤ n) (du : Dig B64 us) (dv' : Dig B64 vs) (hp : 0 < vs[n - 1]'(by omega)) :
    Top B64 (B64 ^ (n - 2)) (dv B64 vs) (dv B64 us) (vs[n - 1]'(by omega)) (vs[n - 2]'(by omega)) (dv B64 (vs.take (n - 2))) ((us[n]'(by omega)) * B64 + us[n - 1]'(by omega)) (us[n - 2]'(by omega)) (dv B64 (us.take (n - 2))) := by
  obtain ⟨m, rfl⟩ : ∃ m, n = m + 2 := ⟨n - 2, by omega⟩
  simp only [Nat.add_sub_cancel, show m + 2 - 1 = m + 1 by omega] at hp ⊢
  have e1 : vs = vs.take m ++ [vs[m]'(by omega), vs[m + 1]'(by omega)] := by
    have a := split_last (n := m + 1) hv
    have b := take_snoc (xs := vs) (i := m) (by omega)
    rw [b, List.append_assoc] at a
    exact a
  have e2 : us = us.take m ++ [us[m]'(by omega), us[m + 1]'(by omega), us[m + 2]'(by omega)] := by
    have a := split_last (n := m + 2) hu
    have b := take_snoc (xs := us) (i := m + 1) (by omega)
    have c := take_snoc (xs := us) (i := m) (by omega)
    rw [b, c, List.append_assoc, List.append_assoc] at a
    exact a
  have l1 : (vs.take m).length = m := by rw [List.length_take]; omega
  have l2 : (us.take m).length = m := by rw [List.length_take]; omega
  refine ⟨?_, ?_, ?_, ?_, du.get (List.getElem?_eq_getElem (by omega)), dv'.get (List.getElem?_eq_getElem (by omega)), hp⟩
  · have := congrArg (dv B64) e1
    rw [this, dv_append, l1]
    simp only [dv, Nat.mul_zero, Nat.add_zero]
    rw [Nat.add_comm, Nat.mul_comm (B64 ^ m), Nat.mul_comm B64, Nat.add_comm (vs[m])]
  · have := congrArg (dv B64) e2
    rw [this, dv_append, l2]
    simp only [dv, Nat.mul_zero, Nat.add_zero]
    rw [Nat.add_comm, Nat.mul_comm (B64 ^ m), Nat.mul_comm B64 (us[m + 1] + _), Nat.add_comm (us[m + 1]), Nat.mul_comm B64 us[m + 2], Nat.add_comm (us[m])]
  · have := dv_lt (dv'.take m)
    rwa [l1] at this
  · have := dv_lt (du.take m)
    rwa [l2] at this
end
end Go.Proofs.YthlgggcpokfmaaaDoor

/-
  div.guess: the walk.
-/
namespace Go.Proofs.YthlgggcpokfmaaaDoor
open Go Ev
set_option linter.unusedVariables false
set_option linter.unusedSimpArgs false
noncomputable section
set_option maxRecDepth 20000

attribute [-simp] Int.natCast_add Int.natCast_mul Int.natCast_ediv Int.natCast_emod Int.natCast_pow
attribute [local simp] strip stripL LW' LR gW evOp oMove oAssign oPick oBinOp oUnOp oConvert oExtract oIndexAddr oIndex oLoad oStore oSlice oMakeSlice oCall oBuildSlice opd opds optOpd plain plain1 Tr.get_set tmOf builtinV binV isShift sameKind undef resultV resOne packV ltNat ltNum ltLst calleeV parts lss_nat unV

theorem div0_lt {x B : Nat} (hB : 0 < B) (h : x / B = 0) : x < B := by
  rcases Nat.lt_or_ge x B with h' | h'
  · exact h'
  · have := Nat.div_pos h' hB; omega

/-- What the trial comes to. -/
structure Trial (V U y1 u q r : Nat) (sure : Bool) : Prop where
  ge : U / V ≤ q
  lt : q < B64
  no : sure = false → q * y1 + r = u ∧ r < B64
  yes : sure = true → q ≤ U / V + 1

set_option maxHeartbeats 2000000 in
theorem guess_spec {n0 n j : Nat} {H : AH} {U0 uv vv : Value} {pre us post vs : List Nat} (hu : Own n0 H U0 (pre ++ us ++ post)) (hj : pre.length = j) (hus : us.length = n + 1) (hview : View uv U0 j (n + 1))
    (du : Dig B64 us) (hv : Sl H vv vs) (hap : Apart U0 vv) (hvs : vs.length = n) (h2 : 2 ≤ n) (hn : n ≤ 17592186044416) (dvs : Dig B64 vs) (hp : 0 < vs[n - 1]'(by omega)) (hlt : dv B64 us < dv B64 vs * B64) :
    CW Tryd.prog cfgR 58 [uv, vv] H fun v H' => v = .int .u64 ((dv B64 us / dv B64 vs : Nat) : Int) ∧ But (vblk U0) H H' ∧ KA n0 H H' ∧ ∃ us', us'.length = n + 1 ∧ Dig B64 us' ∧ dv B64 us' = dv B64 us % dv B64 vs ∧ Own n0 H' U0 (pre ++ us' ++ post) := by
  refine CW_intro 195 (by decide) (by decide) Tryd.func58 rfl rfl ?_
  have T := top_of hus hvs h2 du dvs hp
  have Vpos := T.Vpos
  obtain ⟨V, hV⟩ : ∃ V, V = dv B64 vs := ⟨_, rfl⟩
  obtain ⟨U, hU⟩ : ∃ U, U = dv B64 us := ⟨_, rfl⟩
  obtain ⟨un, hun⟩ : ∃ un, un = us[n]'(by omega) := ⟨_, rfl⟩
  obtain ⟨un1, hun1⟩ : ∃ un1, un1 = us[n - 1]'(by omega) := ⟨_, rfl⟩
  obtain ⟨un2, hun2⟩ : ∃ un2, un2 = us[n - 2]'(by omega) := ⟨_, rfl⟩
  obtain ⟨y1, hy1⟩ : ∃ y1, y1 = vs[n - 1]'(by omega) := ⟨_, rfl⟩
  obtain ⟨y0, hy0⟩ : ∃ y0, y0 = vs[n - 2]'(by omega) := ⟨_, rfl⟩
  rw [← hV, ← hU, ← hun, ← hun1, ← hun2, ← hy1, ← hy0] at T
  rw [← hV, ← hU] at hlt ⊢
  rw [← hV] at Vpos
  rw [← hy1] at hp
  have bun : un < B64 := by rw [hun]; exact du.get (List.getElem?_eq_getElem (by omega))
  have bun1 : un1 < B64 := by rw [hun1]; exact du.get (List.getElem?_eq_getElem (by omega))
  have bun2 : un2 < B64 := by rw [hun2]; exact du.get (List.getElem?_eq_getElem (by omega))
  have by1 : y1 < B64 := by rw [hy1]; exact dvs.get (List.getElem?_eq_getElem (by omega))
  have by0 : y0 < B64 := by rw [hy0]; exact dvs.get (List.getElem?_eq_getElem (by omega))
  have hQB : U / V < B64 := by rw [Nat.div_lt_iff_lt_mul Vpos, Nat.mul_comm]; exact hlt
  have lenv := hv.len ltNat
  rw [hvs] at lenv
  have s1 : intBin .sub .i64 (n : Int) 1 = some (.int .i64 ((n - 1 : Nat) : Int)) := sub1_i64 (by omega) (by omega)
  have s2 : intBin .sub .i64 (n : Int) 2 = some (.int .i64 ((n - 2 : Nat) : Int)) := sub2_i64 (by omega) h2
  have an : indexAddrV Tryd.prog 25 uv (.int .i64 (n : Int)) = some (adr U0 (j + n)) := hview _ ltNat .i64 n (by omega)
  have an1 : indexAddrV Tryd.prog 25 uv (.int .i64 ((n - 1 : Nat) : Int)) = some (adr U0 (j + (n - 1))) := hview _ ltNat .i64 (n - 1) (by omega)
  have an2 : indexAddrV Tryd.prog 25 uv (.int .i64 ((n - 2 : Nat) : Int)) = some (adr U0 (j + (n - 2))) := hview _ ltNat .i64 (n - 2) (by omega)
  have av1 : indexAddrV Tryd.prog 25 vv (.int .i64 ((n - 1 : Nat) : Int)) = some (adr vv (n - 1)) := hv.adr ltNat (by omega)
  have av2 : indexAddrV Tryd.prog 25 vv (.int .i64 ((n - 2 : Nat) : Int)) = some (adr vv (n - 2)) := hv.adr ltNat (by omega)
  have ln : loadV Tryd.prog H 65 (adr U0 (j + n)) = some (.int .u64 (un : Int)) := by rw [hun]; exact hu.segload hj (by omega)
  have ln1 : loadV Tryd.prog H 65 (adr U0 (j + (n - 1))) = some (.int .u64 (un1 : Int)) := by rw [hun1]; exact hu.segload hj (by omega)
  have ln2 : loadV Tryd.prog H 65 (adr U0 (j + (n - 2))) = some (.int .u64 (un2 : Int)) := by rw [hun2]; exact hu.segload hj (by omega)
  have lv1 : loadV Tryd.prog H 65 (adr vv (n - 1)) = some (.int .u64 (y1 : Int)) := by rw [hy1]; exact hv.load (by omega)
  have lv2 : loadV Tryd.prog H 65 (adr vv (n - 2)) = some (.int .u64 (y0 : Int)) := by rw [hy0]; exact hv.load (by omega)
  have topload : ∀ (a : Value), loadV Tryd.prog H.top 65 a = loadV Tryd.prog H 65 a := fun _ => rfl
  apply W_seq; intro b1 hb1
  apply W_region
  simp
  show W _ _ b1 _ _; subst hb1
  apply W_seq; intro b1 hb1
  apply W_region
  simp [lenv]
  show W _ _ b1 _ _; subst hb1
  apply W_seq; intro b1 hb1
  apply W_region
  simp
  show W _ _ b1 _ _; subst hb1
  apply W_seq; intro b1 hb1
  apply W_region
  simp
  show W _ _ b1 _ _; subst hb1
  refine W_thenK (fun s' => s'.k = 195 ∧ s'.H = H ∧ s'.tm.get 0 = some uv ∧ s'.tm.get 1 = some vv ∧ s'.tm.get 5 = some (.int .i64 (n : Int)) ∧
    ∃ (q r : Nat) (sure : Bool), Trial V U y1 (un * B64 + un1) q r sure ∧ s'.tm.get 6 = some (.int .u64 (q : Int)) ∧ s'.tm.get 7 = some (.int .u64 (r : Int)) ∧ s'.tm.get 8 = some (.bool sure)) ?_ ?_
  · intro Q' hQ'
    apply W_seq; intro b1 hb1
    apply W_loads (by kernel_rfl)
    simp [lenv, an, s1, av1, ln, lv1, geq_nat]
    show W _ _ b1 _ _; subst hb1
    by_cases hge : y1 ≤ un
    · have hEq : un = y1 := Nat.le_antisymm (T.high hlt) hge
      refine W_cond (t := true) (by simp [hge]) ?_
      apply W_seq; intro b1 hb1
      apply W_region
      simp
      show W _ _ b1 _ _; subst hb1
      apply W_seq; intro b1 hb1
      apply W_region
      simp
      show W _ _ b1 _ _; subst hb1
      apply W_seq; intro b1 hb1
      apply W_reads (by kernel_rfl)
      simp [s1, an1, av1, topload, ln1, lv1, add64_call0]
      show W _ _ b1 _ _; subst hb1
      apply W_region
      simp [neq0_u64]
      apply hQ'
      have hB1 : ((18446744073709551615 : Nat) : Int) = 18446744073709551615 := rfl
      have he : 18446744073709551615 * y1 + (un1 + y1) = un * B64 + un1 := by
        rw [hEq]
        show 18446744073709551615 * y1 + (un1 + y1) = y1 * 18446744073709551616 + un1
        omega
      refine ⟨rfl, rfl, by simp, by simp, by simp, 18446744073709551615, (un1 + y1) % B64, decide ((un1 + y1) / B64 ≠ 0), ⟨?_, by decide, ?_, ?_⟩, by simp [hB1], by simp, by simp⟩
      · have : U / V < 18446744073709551616 := hQB
        omega
      · intro h
        have h0 : (un1 + y1) / B64 = 0 := by
          have := of_decide_eq_false h
          omega
        have hm : (un1 + y1) % B64 = un1 + y1 := Nat.mod_eq_of_lt (div0_lt (by decide) h0)
        rw [hm]
        refine ⟨he, ?_⟩
        rw [← hm]; exact Nat.mod_lt _ (by decide)
      · intro h
        have h0 : ¬ (un1 + y1) / B64 = 0 := of_decide_eq_true h
        refine T.false he (by decide) ?_
        have h1 : B64 ≤ un1 + y1 := by
          rcases Nat.lt_or_ge (un1 + y1) B64 with h' | h'
          · exact absurd (Nat.div_eq_of_lt h') h0
          · exact h'
        have h2 : B64 * B64 ≤ (un1 + y1) * B64 := Nat.mul_le_mul_right _ h1
        have h3 : 18446744073709551615 * y0 ≤ B64 * B64 := Nat.mul_le_mul (by decide) (by omega)
        omega
    · refine W_cond (t := false) (by simp; omega) ?_
      have hlt1 : un < y1 := by omega
      apply W_reads (by kernel_rfl)
      simp [s1, an, an1, av1, topload, ln, ln1, lv1, div64_call hlt1 bun1 by1]
      apply hQ'
      refine ⟨rfl, rfl, by simp, by simp, by simp, (un * B64 + un1) / y1, (un * B64 + un1) % y1, false, ⟨T.first, ?_, ?_, fun h => by cases h⟩, by simp, by simp, by simp⟩
      · rw [Nat.div_lt_iff_lt_mul hp, Nat.mul_comm B64 y1]
        have : (un + 1) * B64 ≤ y1 * B64 := Nat.mul_le_mul_right _ hlt1
        rw [Nat.succ_mul] at this
        omega
      · intro _
        exact ⟨by rw [Nat.mul_comm]; exact Nat.div_add_mod _ _, Nat.lt_trans (Nat.mod_lt _ hp) by1⟩
  rintro ⟨k, tm, H'⟩ ⟨hk, hH, t0, t1, t5, q, r, sure, Tr0, t6, t7, t8⟩
  simp only at hk hH t0 t1 t5 t6 t7 t8
  subst hk; subst hH
  refine W_thenK (fun s' => s'.k = 195 ∧ s'.H = H' ∧ s'.tm.get 0 = some uv ∧ s'.tm.get 1 = some vv ∧ s'.tm.get 5 = some (.int .i64 (n : Int)) ∧
    ∃ (q : Nat), U / V ≤ q ∧ q ≤ U / V + 1 ∧ q < B64 ∧ s'.tm.get 6 = some (.int .u64 (q : Int))) ?_ ?_
  · intro Q'' hQ''
    apply W_block
    refine W_loopK (fun m s' => s'.k = 195 ∧ s'.H = H' ∧ s'.tm.get 0 = some uv ∧ s'.tm.get 1 = some vv ∧ s'.tm.get 5 = some (.int .i64 (n : Int)) ∧
      ∃ (r : Nat) (sure : Bool), Trial V U y1 (un * B64 + un1) m r sure ∧ s'.tm.get 6 = some (.int .u64 (m : Int)) ∧ s'.tm.get 7 = some (.int .u64 (r : Int)) ∧ s'.tm.get 8 = some (.bool sure)) ?_ q _
      ⟨rfl, rfl, t0, t1, t5, r, sure, Tr0, t6, t7, t8⟩
    clear t0 t1 t5 t6 t7 t8 Tr0
    rintro q ⟨k, tm, H2⟩ ⟨hk, hH, t0, t1, t5, r, sure, Tr0, t6, t7, t8⟩ Q' hQ'
    simp only at hk hH t0 t1 t5 t6 t7 t8
    subst hk; subst hH
    apply W_seq; intro b3 hb3
    apply W_seq; intro b4 hb4
    apply W_region
    simp [t8]
    show W _ _ b4 _ _; subst hb4
    cases sure with
    | true =>
      refine W_cond (t := false) (by simp) ?_
      apply W_exit
      apply hQ'
      left
      exact ⟨rfl, hQ'' _ ⟨rfl, rfl, by simp [t0], by simp [t1], by simp [t5], q, Tr0.ge, Tr0.yes rfl, Tr0.lt, by simp [t6]⟩⟩
    | false =>
      refine W_cond (t := true) (by simp) ?_
      apply W_skip
      show W _ _ b3 _ _; subst hb3
      obtain ⟨hqr, hrB⟩ := Tr0.no rfl
      have hqB := Tr0.lt
      apply W_block
      apply W_seq; intro b3 hb3
      apply W_region
      simp [t6, t1, t5, s2, av2, lv2, mul64_call hqB by0]
      show W _ _ b3 _ _; subst hb3
      obtain ⟨hi, hhi⟩ : ∃ hi, hi = q * y0 / B64 := ⟨_, rfl⟩
      obtain ⟨lo, hlo⟩ : ∃ lo, lo = q * y0 % B64 := ⟨_, rfl⟩
      have ehl : q * y0 = B64 * hi + lo := by rw [hhi, hlo]; exact (Nat.div_add_mod _ _).symm
      have hloB : lo < B64 := by rw [hlo]; exact Nat.mod_lt _ (by decide)
      rw [← hhi, ← hlo]
      -- the test
      have stop : q * y0 ≤ r * B64 + un2 → q ≤ U / V + 1 := fun h => T.false hqr hqB h
      have on : r * B64 + un2 < q * y0 → 0 < q ∧ U / V ≤ q - 1 ∧ (q - 1) * y1 + (r + y1) = un * B64 + un1 := fun h => by
        have h1 := T.true hqr h
        have hq0 : 0 < q := Nat.lt_of_le_of_lt (Nat.zero_le _) h1
        refine ⟨hq0, Nat.le_sub_one_of_lt h1, ?_⟩
        obtain ⟨q', rfl⟩ : ∃ q', q = q' + 1 := ⟨q - 1, by omega⟩
        rw [Nat.succ_mul] at hqr
        rw [Nat.add_sub_cancel]
        omega
      apply W_seq; intro b3 hb3
      apply W_seq; intro b4 hb4
      have exitk : ∀ tm', q * y0 ≤ r * B64 + un2 → tm'.get 0 = some uv → tm'.get 1 = some vv → tm'.get 5 = some (.int .i64 (n : Int)) → tm'.get 6 = some (.int .u64 (q : Int)) → Q' (.exit 0) ⟨195, tm', H2⟩ := fun tm' h a b c d => by
        apply hQ'
        left
        exact ⟨rfl, hQ'' _ ⟨rfl, rfl, a, b, c, q, Tr0.ge, stop h, hqB, d⟩⟩
      have onk : ∀ tm', r * B64 + un2 < q * y0 → tm'.get 0 = some uv → tm'.get 1 = some vv → tm'.get 5 = some (.int .i64 (n : Int)) → tm'.get 6 = some (.int .u64 (q : Int)) → tm'.get 7 = some (.int .u64 (r : Int)) → tm'.get 8 = some (.bool false) →
          W Tryd.prog cfgR b3 ⟨195, tm', H2⟩ (blockQ 1 Q') := fun tm' h t0 t1 t5 t6 t7 t8 => by
        obtain ⟨hq0, hge, heq⟩ := on h
        subst hb3
        apply W_seq; intro b3 hb3
        apply W_region
        simp [t6, sub1_u64 hqB hq0]
        show W _ _ b3 _ _; subst hb3
        apply W_seq; intro b3 hb3
        apply W_region
        simp
        show W _ _ b3 _ _; subst hb3
        apply W_seq; intro b3 hb3
        apply W_region
        simp [t7, t1, t5, s1, av1, lv1, add64_call0]
        show W _ _ b3 _ _; subst hb3
        apply W_seq; intro b3 hb3
        apply W_region
        simp [neq0_u64]
        show W _ _ b3 _ _; subst hb3
        by_cases hov : (r + y1) / B64 = 0
        · refine W_cond (t := false) (by simp; exact div0_lt (by decide) hov) ?_
          have hm : (r + y1) % B64 = r + y1 := Nat.mod_eq_of_lt (div0_lt (by decide) hov)
          apply W_skip
          apply hQ'
          refine ⟨q - 1, by omega, rfl, rfl, by simp [t0], by simp [t1], by simp [t5], (r + y1) % B64, false, ⟨hge, by omega, fun _ => ⟨by rw [hm]; exact heq, Nat.mod_lt _ (by decide)⟩, fun h => by cases h⟩, by simp, by simp, by simp [t8]⟩
        · have h1 : B64 ≤ r + y1 := by
            rcases Nat.lt_or_ge (r + y1) B64 with h' | h'
            · exact absurd (Nat.div_eq_of_lt h') hov
            · exact h'
          refine W_cond (t := true) (by simp; exact h1) ?_
          apply W_exit
          right
          refine ⟨by decide, ?_⟩
          apply hQ'
          left
          refine ⟨rfl, hQ'' _ ⟨rfl, rfl, by simp [t0], by simp [t1], by simp [t5], q - 1, hge, ?_, by omega, by simp⟩⟩
          refine T.false heq (by omega) ?_
          have h2 : B64 * B64 ≤ (r + y1) * B64 := Nat.mul_le_mul_right _ h1
          have h3 : (q - 1) * y0 ≤ B64 * B64 := Nat.mul_le_mul (by omega) (by omega)
          omega
      apply W_region
      by_cases c1 : hi < r
      · simp [t7, c1]
        show W _ _ b4 _ _; subst hb4
        refine W_cond (t := true) (by simp) ?_
        apply W_exit
        right
        refine ⟨by decide, exitk _ ?_ (by simp [t0]) (by simp [t1]) (by simp [t5]) (by simp [t6])⟩
        have : B64 * (hi + 1) ≤ B64 * r := Nat.mul_le_mul_left _ c1
        rw [Nat.mul_succ, Nat.mul_comm B64 r] at this
        omega
      · by_cases c2 : hi = r
        · by_cases c3 : lo ≤ un2
          · simp [t7, t0, t5, c1, eql_nat, c2, s2, an2, ln2, leq_nat, c3]
            show W _ _ b4 _ _; subst hb4
            refine W_cond (t := true) (by simp) ?_
            apply W_exit
            right
            refine ⟨by decide, exitk _ ?_ (by simp [t0]) (by simp [t1]) (by simp [t5]) (by simp [t6])⟩
            rw [ehl, c2, Nat.mul_comm]
            omega
          · simp [t7, t0, t5, c1, eql_nat, c2, s2, an2, ln2, leq_nat, c3]
            show W _ _ b4 _ _; subst hb4
            refine W_cond (t := false) (by simp) ?_
            apply W_skip
            show W _ _ b3 _ _
            refine onk _ ?_ (by simp [t0]) (by simp [t1]) (by simp [t5]) (by simp [t6]) (by simp [t7]) (by simp [t8])
            rw [ehl, c2, Nat.mul_comm]
            omega
        · simp [t7, t0, t5, c1, eql_nat, c2]
          show W _ _ b4 _ _; subst hb4
          refine W_cond (t := false) (by simp) ?_
          apply W_skip
          show W _ _ b3 _ _
          refine onk _ ?_ (by simp [t0]) (by simp [t1]) (by simp [t5]) (by simp [t6]) (by simp [t7]) (by simp [t8])
          have : B64 * (r + 1) ≤ B64 * hi := Nat.mul_le_mul_left _ (by omega)
          rw [Nat.mul_succ, Nat.mul_comm B64 r] at this
          omega
  clear t0 t1 t5 t6 t7 t8 Tr0 q r sure
  rintro ⟨k, tm, H2⟩ ⟨hk, hH, t0, t1, t5, q, qge, qle, qB, t6⟩
  simp only at hk hH t0 t1 t5 t6
  subst hk; subst hH
  have hvlen : ∀ {H1 : AH}, But (vblk U0) H2 H1 → Sl H1 vv vs := fun k => hv.but k hap
  apply W_seq; intro b1 hb1
  apply W_region
  simp
  show W _ _ b1 _ _; subst hb1
  -- the multiplying and taking away
  refine W_thenK (fun s' => s'.k = 195 ∧ s'.tm.get 0 = some uv ∧ s'.tm.get 1 = some vv ∧ s'.tm.get 5 = some (.int .i64 (n : Int)) ∧ s'.tm.get 6 = some (.int .u64 (q : Int)) ∧ But (vblk U0) H2 s'.H ∧ KA n0 H2 s'.H ∧
    ∃ (L : List Nat) (carry borrow : Nat), L.length = n ∧ Dig B64 L ∧ carry < B64 ∧ borrow ≤ 1 ∧ dv B64 L + q * V = dv B64 (us.take n) + B64 ^ n * (carry + borrow) ∧ Own n0 s'.H U0 (pre ++ (L ++ us.drop n) ++ post) ∧
      s'.tm.get 13 = some (.int .u64 (carry : Int)) ∧ s'.tm.get 14 = some (.int .u64 (borrow : Int))) ?_ ?_
  · intro Q'' hQ''
    apply W_seq; intro b1 hb1
    apply W_region
    simp [t1, lenv]
    show W _ _ b1 _ _; subst hb1
    apply W_block
    refine W_loopK (fun m s' => s'.k = 195 ∧ s'.tm.get 0 = some uv ∧ s'.tm.get 1 = some vv ∧ s'.tm.get 5 = some (.int .i64 (n : Int)) ∧ s'.tm.get 6 = some (.int .u64 (q : Int)) ∧ But (vblk U0) H2 s'.H ∧ KA n0 H2 s'.H ∧
      s'.tm.get 113 = some vv ∧ s'.tm.get 114 = some (.int .i64 (n : Int)) ∧
      ∃ (i : Nat) (L : List Nat) (carry borrow : Nat), m + i = n ∧ L.length = i ∧ Dig B64 L ∧ carry < B64 ∧ borrow ≤ 1 ∧ dv B64 L + q * dv B64 (vs.take i) = dv B64 (us.take i) + B64 ^ i * (carry + borrow) ∧ Own n0 s'.H U0 (pre ++ (L ++ us.drop i) ++ post) ∧
        s'.tm.get 13 = some (.int .u64 (carry : Int)) ∧ s'.tm.get 14 = some (.int .u64 (borrow : Int)) ∧ s'.tm.get 115 = some (.int .i64 (i : Int))) ?_ n _
      ⟨rfl, by simp [t0], by simp [t1], by simp [t5], by simp [t6], .refl _ _, .refl _ _, by simp [t1], by simp, 0, [], 0, 0, by omega, rfl, .nil _, by decide, by omega, by simp [dv], by simpa using hu, by simp, by simp, by simp⟩
    clear t0 t1 t5 t6
    rintro m ⟨k, tm, H3⟩ ⟨hk, t0, t1, t5, t6, kb, ka, t113, t114, i, L, carry, borrow, hmi, hL, dL, hc, hb, heq, own, t13, t14, t115⟩ Q' hQ'
    simp only at hk t0 t1 t5 t6 kb ka t113 t114 t13 t14 t115 own
    subst hk
    apply W_seq; intro b3 hb3
    apply W_region
    simp [t114, t115]
    show W _ _ b3 _ _; subst hb3
    apply W_seq; intro b3 hb3
    by_cases hi : i < n
    · refine W_cond (t := true) (by simp [hi]) ?_
      apply W_skip
      show W _ _ b3 _ _; subst hb3
      have hv3 := hvlen kb
      have a1 : indexAddrV Tryd.prog 25 vv (.int .i64 (i : Int)) = some (adr vv i) := hv3.adr ltNat (by omega)
      have hx : vs[i] < B64 := dvs.get (List.getElem?_eq_getElem (by omega))
      have d1 : loadV Tryd.prog H3 65 (adr vv i) = some (.int .u64 (vs[i] : Nat)) := hv3.load (by omega)
      have a2 : indexAddrV Tryd.prog 25 uv (.int .i64 (i : Int)) = some (adr U0 (j + i)) := hview _ ltNat .i64 i (by omega)
      have hud : us.drop i = us[i] :: us.drop (i + 1) := List.drop_eq_getElem_cons (by omega)
      have huB : us[i] < B64 := du.get (List.getElem?_eq_getElem (by omega))
      have d2 : loadV Tryd.prog H3 65 (adr U0 (j + i)) = some (.int .u64 (us[i] : Nat)) := by
        have := own.segload hj (i := i) (by simp; omega)
        rw [this]
        congr 3
        rw [List.getElem_append_right (by omega)]
        simp [hL]
      obtain ⟨x, hxe⟩ : ∃ x, x = vs[i] := ⟨_, rfl⟩
      obtain ⟨y, hye⟩ : ∃ y, y = us[i] := ⟨_, rfl⟩
      rw [← hxe] at hx d1
      rw [← hye] at huB d2 hud
      have step := mul_sub_step hx qB hc huB hb
      simp only at step
      obtain ⟨ph, hph⟩ : ∃ ph, ph = x * q / B64 := ⟨_, rfl⟩
      obtain ⟨pl, hpl⟩ : ∃ pl, pl = x * q % B64 := ⟨_, rfl⟩
      rw [← hph, ← hpl] at step
      obtain ⟨sm, hsm⟩ : ∃ sm, sm = (pl + carry) % B64 := ⟨_, rfl⟩
      obtain ⟨ov, hov⟩ : ∃ ov, ov = (pl + carry) / B64 := ⟨_, rfl⟩
      rw [← hsm, ← hov] at step
      obtain ⟨y', hy'⟩ : ∃ y', y' = (y + B64 - sm - borrow) % B64 := ⟨_, rfl⟩
      obtain ⟨b', hb'⟩ : ∃ b', b' = (if y < sm + borrow then 1 else 0) := ⟨_, rfl⟩
      rw [← hy', ← hb'] at step
      obtain ⟨st1, st2, st3⟩ := step
      have m1 : callI Tryd.prog cfgR 61 [.int .u64 (x : Int), .int .u64 (q : Int)] H3 = some (.tuple #[.int .u64 (ph : Int), .int .u64 (pl : Int)], H3) := by rw [hph, hpl]; exact mul64_call hx qB H3
      have m2 : callI Tryd.prog cfgR 60 [.int .u64 (pl : Int), .int .u64 (carry : Int), .int .u64 0] H3 = some (.tuple #[.int .u64 (sm : Int), .int .u64 (ov : Int)], H3) := by rw [hsm, hov]; exact add64_call0 pl carry H3
      have m3 : intBin .add .u64 (ph : Int) (ov : Int) = some (.int .u64 ((ph + ov : Nat) : Int)) := add_u64_lt st1
      have m4 : callI Tryd.prog cfgR 62 [.int .u64 (y : Int), .int .u64 (sm : Int), .int .u64 (borrow : Int)] H3 = some (.tuple #[.int .u64 (y' : Int), .int .u64 (b' : Int)], H3) := by rw [hy', hb']; exact sub64_call y sm borrow H3 hb
      obtain ⟨H4, sto, own4, kb4, ka4⟩ := own.segstore hj (i := i) (by simp; omega) y'
      rw [hud, set_mid L y y' _ hL] at own4
      apply W_seq; intro b3 hb3
      apply W_block
      apply W_seq; intro b4 hb4
      apply W_region
      simp [t113, t115, a1, d1]
      show W _ _ b4 _ _; subst hb4
      apply W_seq; intro b4 hb4
      apply W_region
      simp [t6, m1]
      show W _ _ b4 _ _; subst hb4
      apply W_seq; intro b4 hb4
      apply W_region
      simp [t13, m2]
      show W _ _ b4 _ _; subst hb4
      apply W_seq; intro b4 hb4
      apply W_region
      simp [m3]
      show W _ _ b4 _ _; subst hb4
      apply W_region
      simp [t0, t14, a2, d2, m4, sto]
      show W _ _ b3 _ _; subst hb3
      apply W_region
      simp [t115, add1_i64 (x := i) (by omega)]
      apply hQ'
      refine ⟨m - 1, by omega, rfl, by simp [t0], by simp [t1], by simp [t5], by simp [t6], kb.trans kb4, ka.trans ka4, by simp [t113], by simp [t114], i + 1, L ++ [y'], ph + ov, b', by omega, by simp [hL], dL.append (.cons st2 (.nil _)), st1, ?_, ?_, by simpa using own4, by simp, by simp, by simp⟩
      · rw [hb']; split <;> omega
      · rw [dv_append, hL, take_snoc (xs := vs) (by omega), take_snoc (xs := us) (by omega), dv_append, dv_append, List.length_take, List.length_take, Nat.min_eq_left (by omega), Nat.min_eq_left (by omega), ← hxe, ← hye]
        simp only [dv, Nat.mul_zero, Nat.add_zero]
        have e1 : B64 ^ i * (y' + x * q + carry + borrow) = B64 ^ i * (y + B64 * (ph + ov + b')) := by rw [st3]
        rw [Nat.mul_add (B64 ^ i) y, ← Nat.mul_assoc (B64 ^ i) B64, show B64 ^ i * B64 = B64 ^ (i + 1) from rfl] at e1
        rw [show y' + x * q + carry + borrow = y' + x * q + (carry + borrow) by omega, Nat.mul_add, Nat.mul_add] at e1
        rw [Nat.mul_add q, show q * (B64 ^ i * x) = B64 ^ i * (x * q) by rw [Nat.mul_left_comm, Nat.mul_comm q x]]
        omega
    · refine W_cond (t := false) (by simp [hi]) ?_
      apply W_exit
      apply hQ'
      left
      obtain rfl : i = n := by omega
      have e1 : vs.take i = vs := by rw [← hvs, List.take_length]
      rw [e1, ← hV] at heq
      exact ⟨rfl, hQ'' _ ⟨rfl, by simp [t0], by simp [t1], by simp [t5], by simp [t6], kb, ka, L, carry, borrow, hL, dL, hc, hb, heq, own, by simp [t13], by simp [t14]⟩⟩
  clear t0 t1 t5 t6
  rintro ⟨k, tm, H3⟩ ⟨hk, t0, t1, t5, t6, kb, ka, L, carry, borrow, hL, dL, hc, hb, heq, own, t13, t14⟩
  simp only at hk t0 t1 t5 t6 kb ka own t13 t14
  subst hk
  have hdn : us.drop n = [un] := by
    rw [List.drop_eq_getElem_cons (by omega), List.drop_eq_nil_of_le (by omega), ← hun]
  have hUe : U = dv B64 (us.take n) + B64 ^ n * un := by
    have := congrArg (dv B64) (split_last hus)
    rw [dv_append, List.length_take, Nat.min_eq_left (by omega), ← hun, ← hU] at this
    simpa [dv] using this
  rw [hdn] at own
  have d2 : loadV Tryd.prog H3 65 (adr U0 (j + n)) = some (.int .u64 (un : Int)) := by
    have := own.segload hj (i := n) (by simp; omega)
    rw [this, get_mid L un [] hL]
  obtain ⟨y', hy'⟩ : ∃ y', y' = (un + B64 - carry - borrow) % B64 := ⟨_, rfl⟩
  obtain ⟨b', hb'⟩ : ∃ b', b' = (if un < carry + borrow then 1 else 0) := ⟨_, rfl⟩
  have hb1 : b' ≤ 1 := by rw [hb']; split <;> omega
  have hy'B : y' < B64 := by rw [hy']; exact Nat.mod_lt _ (by decide)
  have hst : y' + (carry + borrow) = un + B64 * b' := by
    by_cases h : un < carry + borrow
    · rw [hy', hb', if_pos h, Nat.mod_eq_of_lt (by omega)]; omega
    · rw [hy', hb', if_neg h]
      have : un + B64 - carry - borrow = (un - carry - borrow) + B64 := by omega
      rw [this, Nat.add_mod_right, Nat.mod_eq_of_lt (by omega)]; omega
  have m4 : callI Tryd.prog cfgR 62 [.int .u64 (un : Int), .int .u64 (carry : Int), .int .u64 (borrow : Int)] H3 = some (.tuple #[.int .u64 (y' : Int), .int .u64 (b' : Int)], H3) := by rw [hy', hb']; exact sub64_call un carry borrow H3 hb
  obtain ⟨H4, sto, own4, kb4, ka4⟩ := own.segstore hj (i := n) (by simp; omega) y'
  rw [set_mid L un y' [] hL] at own4
  have dL' : Dig B64 (L ++ [y']) := dL.append (.cons hy'B (.nil _))
  have hR : dv B64 (L ++ [y']) + q * V = U + B64 ^ (n + 1) * b' := by
    rw [dv_append, hL]
    simp only [dv, Nat.mul_zero, Nat.add_zero]
    have e1 : B64 ^ n * (y' + (carry + borrow)) = B64 ^ n * (un + B64 * b') := by rw [hst]
    rw [Nat.mul_add, Nat.mul_add (B64 ^ n) un, ← Nat.mul_assoc (B64 ^ n) B64, show B64 ^ n * B64 = B64 ^ (n + 1) from rfl] at e1
    omega
  have hRlt : dv B64 (L ++ [y']) < B64 ^ (n + 1) := by
    have := dv_lt dL'
    simpa [hL] using this
  have hUlt : U < B64 ^ (n + 1) := by
    have := dv_lt du
    rwa [hus, ← hU] at this
  have ta := take_away Vpos qge qle hUlt hRlt hb1 hR
  apply W_seq; intro b1 hb1'
  apply W_region
  simp [t0, t5, t13, t14, an, d2, m4, sto]
  show W _ _ b1 _ _; subst hb1'
  rcases ta with ⟨rfl, rfl, hRe⟩ | ⟨rfl, hq1, hRe⟩
  · apply W_seq; intro b1 hb1'
    apply W_seq; intro b2 hb2
    apply W_region
    simp [neq0_u64]
    show W _ _ b2 _ _; subst hb2
    refine W_cond (t := false) (by simp) ?_
    apply W_skip
    show W _ _ b1 _ _; subst hb1'
    apply W_seq; intro b1 hb1'
    apply W_region
    simp [t6]
    show W _ _ b1 _ _; subst hb1'
    apply W_ret
    simp
    exact ⟨kb.trans kb4, ka.trans ka4, L ++ [y'], by simp [hL], dL', hRe, by simpa using own4⟩
  · have hq0 : 0 < q := by rw [hq1]; exact Nat.succ_pos _
    have hqe : q - 1 = U / V := by rw [hq1]; rfl
    apply W_seq; intro b1 hb1'
    apply W_seq; intro b2 hb2
    apply W_region
    simp [neq0_u64]
    show W _ _ b2 _ _; subst hb2
    refine W_cond (t := true) (by simp) ?_
    apply W_seq; intro b2 hb2
    apply W_region
    simp [t6, sub1_u64 qB hq0]
    show W _ _ b2 _ _; subst hb2
    apply W_seq; intro b2 hb2
    apply W_region
    simp
    show W _ _ b2 _ _; subst hb2
    obtain ⟨us', hus'⟩ : ∃ us', us' = L ++ [y'] := ⟨_, rfl⟩
    have us'len : us'.length = n + 1 := by rw [hus']; simp [hL]
    rw [← hus'] at own4 dL' hRe hRlt
    have kb5 := kb.trans kb4
    have ka5 := ka.trans ka4
    have seg1 : us'.take n ++ us'.drop n = us' := List.take_append_drop n us'
    -- adding back
    refine W_thenK (fun s' => s'.k = 195 ∧ s'.tm.get 0 = some uv ∧ s'.tm.get 5 = some (.int .i64 (n : Int)) ∧ s'.tm.get 6 = some (.int .u64 ((U / V : Nat) : Int)) ∧ But (vblk U0) H2 s'.H ∧ KA n0 H2 s'.H ∧
      ∃ (L : List Nat) (back : Nat), L.length = n ∧ Dig B64 L ∧ back ≤ 1 ∧ dv B64 L + B64 ^ n * back = dv B64 (us'.take n) + V ∧ Own n0 s'.H U0 (pre ++ (L ++ us'.drop n) ++ post) ∧
        s'.tm.get 21 = some (.int .u64 (back : Int))) ?_ ?_
    · intro Q'' hQ''
      apply W_seq; intro b3 hb3
      apply W_region
      simp [t1, lenv]
      show W _ _ b3 _ _; subst hb3
      apply W_block
      refine W_loopK (fun m s' => s'.k = 195 ∧ s'.tm.get 0 = some uv ∧ s'.tm.get 5 = some (.int .i64 (n : Int)) ∧ s'.tm.get 6 = some (.int .u64 ((U / V : Nat) : Int)) ∧ But (vblk U0) H2 s'.H ∧ KA n0 H2 s'.H ∧
        s'.tm.get 166 = some vv ∧ s'.tm.get 167 = some (.int .i64 (n : Int)) ∧
        ∃ (i : Nat) (L : List Nat) (back : Nat), m + i = n ∧ L.length = i ∧ Dig B64 L ∧ back ≤ 1 ∧ dv B64 L + B64 ^ i * back = dv B64 (us'.take i) + dv B64 (vs.take i) ∧ Own n0 s'.H U0 (pre ++ (L ++ us'.drop i) ++ post) ∧
          s'.tm.get 21 = some (.int .u64 (back : Int)) ∧ s'.tm.get 168 = some (.int .i64 (i : Int))) ?_ n _
        ⟨rfl, by simp [t0], by simp [t5], by simp [hqe], kb5, ka5, by simp [t1], by simp, 0, [], 0, by omega, rfl, .nil _, by omega, by simp [dv], by simpa using own4, by simp, by simp⟩
      clear t0 t1 t5 t6 t13 t14
      rintro m ⟨k, tm, H5⟩ ⟨hk, t0, t5, t6, kb, ka, t166, t167, i, L1, back, hmi, hL1, dL1, hbk, heq2, own, t21, t168⟩ Q' hQ'
      simp only at hk t0 t5 t6 kb ka t166 t167 t21 t168 own
      subst hk
      apply W_seq; intro b3 hb3
      apply W_region
      simp [t167, t168]
      show W _ _ b3 _ _; subst hb3
      apply W_seq; intro b3 hb3
      by_cases hi : i < n
      · refine W_cond (t := true) (by simp [hi]) ?_
        apply W_skip
        show W _ _ b3 _ _; subst hb3
        have hv3 := hvlen kb
        have a1 : indexAddrV Tryd.prog 25 vv (.int .i64 (i : Int)) = some (adr vv i) := hv3.adr ltNat (by omega)
        have hx : vs[i] < B64 := dvs.get (List.getElem?_eq_getElem (by omega))
        have d1 : loadV Tryd.prog H5 65 (adr vv i) = some (.int .u64 (vs[i] : Nat)) := hv3.load (by omega)
        have a2 : indexAddrV Tryd.prog 25 uv (.int .i64 (i : Int)) = some (adr U0 (j + i)) := hview _ ltNat .i64 i (by omega)
        have hud : us'.drop i = us'[i] :: us'.drop (i + 1) := List.drop_eq_getElem_cons (by omega)
        have huB : us'[i] < B64 := dL'.get (List.getElem?_eq_getElem (by omega))
        have d2 : loadV Tryd.prog H5 65 (adr U0 (j + i)) = some (.int .u64 (us'[i] : Nat)) := by
          have := own.segload hj (i := i) (by simp; omega)
          rw [this]
          congr 3
          rw [List.getElem_append_right (by omega)]
          simp [hL1]
        obtain ⟨x, hxe⟩ : ∃ x, x = vs[i] := ⟨_, rfl⟩
        obtain ⟨y, hye⟩ : ∃ y, y = us'[i] := ⟨_, rfl⟩
        rw [← hxe] at hx d1
        rw [← hye] at huB d2 hud
        obtain ⟨y2, hy2⟩ : ∃ y2, y2 = (y + x + back) % B64 := ⟨_, rfl⟩
        obtain ⟨c2, hc2⟩ : ∃ c2, c2 = (y + x + back) / B64 := ⟨_, rfl⟩
        have m4 : callI Tryd.prog cfgR 60 [.int .u64 (y : Int), .int .u64 (x : Int), .int .u64 (back : Int)] H5 = some (.tuple #[.int .u64 (y2 : Int), .int .u64 (c2 : Int)], H5) := by rw [hy2, hc2]; exact add64_call y x back H5 hbk
        have hdm : B64 * c2 + y2 = y + x + back := by rw [hy2, hc2]; exact Nat.div_add_mod _ _
        have hc1 : c2 ≤ 1 := by
          have : c2 < 2 := by rw [hc2, Nat.div_lt_iff_lt_mul (by decide)]; omega
          omega
        obtain ⟨H6, sto, own6, kb6, ka6⟩ := own.segstore hj (i := i) (by simp; omega) y2
        rw [hud, set_mid L1 y y2 _ hL1] at own6
        apply W_seq; intro b3 hb3
        apply W_block
        apply W_seq; intro b4 hb4
        apply W_region
        simp [t166, t168, a1, d1]
        show W _ _ b4 _ _; subst hb4
        apply W_region
        simp [t0, t21, a2, d2, m4, sto]
        show W _ _ b3 _ _; subst hb3
        apply W_region
        simp [t168, add1_i64 (x := i) (by omega)]
        apply hQ'
        refine ⟨m - 1, by omega, rfl, by simp [t0], by simp [t5], by simp [t6], kb.trans kb6, ka.trans ka6, by simp [t166], by simp [t167], i + 1, L1 ++ [y2], c2, by omega, by simp [hL1], dL1.append (.cons (by rw [hy2]; exact Nat.mod_lt _ (by decide)) (.nil _)), hc1, ?_, by simpa using own6, by simp, by simp⟩
        rw [dv_append, hL1, take_snoc (xs := vs) (by omega), take_snoc (xs := us') (by omega), dv_append, dv_append, List.length_take, List.length_take, Nat.min_eq_left (by omega), Nat.min_eq_left (by omega), ← hxe, ← hye]
        simp only [dv, Nat.mul_zero, Nat.add_zero]
        have e1 : B64 ^ i * (B64 * c2 + y2) = B64 ^ i * (y + x + back) := by rw [hdm]
        rw [Nat.mul_add, ← Nat.mul_assoc (B64 ^ i) B64, show B64 ^ i * B64 = B64 ^ (i + 1) from rfl, Nat.mul_add, Nat.mul_add] at e1
        omega
      · refine W_cond (t := false) (by simp [hi]) ?_
        apply W_exit
        apply hQ'
        left
        obtain rfl : i = n := by omega
        have e1 : vs.take i = vs := by rw [← hvs, List.take_length]
        rw [e1, ← hV] at heq2
        exact ⟨rfl, hQ'' _ ⟨rfl, by simp [t0], by simp [t5], by simp [t6], kb, ka, L1, back, hL1, dL1, hbk, heq2, own, by simp [t21]⟩⟩
    clear t0 t1 t5 t6 t13 t14
    rintro ⟨k, tm, H5⟩ ⟨hk, t0, t5, t6, kb, ka, L2, back, hL2, dL2, hbk, heq2, own, t21⟩
    simp only at hk t0 t5 t6 kb ka own t21
    subst hk
    have hdn2 : us'.drop n = [y'] := by rw [hus', ← hL]; simp
    rw [hdn2] at own
    have d3 : loadV Tryd.prog H5 65 (adr U0 (j + n)) = some (.int .u64 (y' : Int)) := by
      have := own.segload hj (i := n) (by simp; omega)
      rw [this, get_mid L2 y' [] hL2]
    obtain ⟨z, hz⟩ : ∃ z, z = (y' + back) % B64 := ⟨_, rfl⟩
    obtain ⟨t, ht⟩ : ∃ t, t = (y' + back) / B64 := ⟨_, rfl⟩
    have hzt : B64 * t + z = y' + back := by rw [hz, ht]; exact Nat.div_add_mod _ _
    have hzB : z < B64 := by rw [hz]; exact Nat.mod_lt _ (by decide)
    have ma : intBin .add .u64 (y' : Int) (back : Int) = some (.int .u64 (z : Int)) := by rw [add_u64, hz]
    obtain ⟨H6, sto6, own6, kb6, ka6⟩ := own.segstore hj (i := n) (by simp; omega) z
    rw [set_mid L2 y' z [] hL2] at own6
    have dz : Dig B64 (L2 ++ [z]) := dL2.append (.cons hzB (.nil _))
    have fin : dv B64 (L2 ++ [z]) = U % V := by
      have hlt2 : dv B64 (L2 ++ [z]) < B64 ^ (n + 1) := by
        have := dv_lt dz
        simpa [hL2] using this
      have hus2 : dv B64 us' = dv B64 (us'.take n) + B64 ^ n * y' := by
        have := congrArg (dv B64) seg1
        rw [hdn2, dv_append, List.length_take, Nat.min_eq_left (by omega)] at this
        rw [← this]; simp [dv]
      have e0 : dv B64 (L2 ++ [z]) = dv B64 L2 + B64 ^ n * z := by rw [dv_append, hL2]; simp [dv]
      have e1 : B64 ^ n * (B64 * t + z) = B64 ^ n * (y' + back) := by rw [hzt]
      rw [Nat.mul_add, ← Nat.mul_assoc (B64 ^ n) B64, show B64 ^ n * B64 = B64 ^ (n + 1) from rfl, Nat.mul_add] at e1
      have ht1 : t ≤ 1 := by
        have : t < 2 := by rw [ht, Nat.div_lt_iff_lt_mul (by decide)]; omega
        omega
      have hm : U % V < B64 ^ (n + 1) := Nat.lt_of_le_of_lt (Nat.mod_le _ _) hUlt
      have hmod : U % V < V := Nat.mod_lt _ Vpos
      rcases Nat.lt_or_ge t 1 with h0 | h0
      · exfalso
        obtain rfl : t = 0 := by omega
        rw [Nat.mul_zero] at e1
        omega
      · obtain rfl : t = 1 := by omega
        rw [Nat.mul_one] at e1
        omega
    apply W_region
    simp [t0, t5, t21, an, d3, ma, sto6]
    show W _ _ b1 _ _; subst hb1'
    apply W_seq; intro b1 hb1'
    apply W_region
    simp [t6]
    show W _ _ b1 _ _; subst hb1'
    apply W_ret
    simp
    exact ⟨kb.trans kb6, ka.trans ka6, L2 ++ [z], by simp [hL2], dz, fin, by simpa using own6⟩
end
end Go.Proofs.YthlgggcpokfmaaaDoor

/-
  HEAPS OF DRAWN REGIONS: as an operation sees them (top), behind new blocks (grown), behind a write (low).
-/
namespace Go.Proofs.YthlgggcpokfmaaaDoor
open Go Ev
set_option linter.unusedVariables false
set_option linter.unusedSimpArgs false
noncomputable section
set_option maxRecDepth 20000

theorem Keep.top {H0 H : AH} (k : Keep H0 H) : Keep H0 H.top := ⟨k.n, by have := k.n; show min H0.lw H0.n ≤ H.n; omega, k.blk⟩
theorem keep_top (H : AH) : Keep H H.top := (Keep.refl H).top
theorem Sl.top {H : AH} {v : Value} {xs : List Nat} (h : Sl H v xs) : Sl H.top v xs := h.keep (keep_top H)
theorem Own.top {n : Nat} {H : AH} {v : Value} {xs : List Nat} (h : Own n H v xs) : Own n H.top v xs := h.mono (Nat.le_refl _) (keep_top H)

theorem vis_top {H : AH} {bits : Nat} {ms : List (Nat × Nat × Nat)} (h : hidden bits ms = []) : vis H bits ms = H.top := by
  unfold vis
  rw [h]; rfl

theorem addT_blk (t : Tr Blk) (H2 : AH) (n : Nat) : ∀ (k j : Nat), (addT t H2 n k).get j = if n ≤ j ∧ j < n + k then some (H2.blk j) else t.get j
  | 0, j => by rw [if_neg (by omega)]; rfl
  | k + 1, j => by
    simp only [addT, Tr.get_set]
    by_cases e : j = n + k
    · subst e; rw [if_pos rfl, if_pos (by omega)]
    · rw [if_neg e, addT_blk t H2 n k j]
      by_cases c : n ≤ j ∧ j < n + k
      · rw [if_pos c, if_pos (by omega)]
      · rw [if_neg c, if_neg (by omega)]

/-- The heap behind an operation that only made new blocks is as the operation left it. -/
theorem grown_but {H H2 : AH} (k : Keep H.top H2) : But none H2 (grown H H2) := by
  refine ⟨rfl, fun j hj _ => ?_⟩
  unfold AH.blk grown
  simp only [addT_blk]
  by_cases c : H.n ≤ j
  · have := k.n
    have : H.n ≤ H2.n := this
    rw [if_pos (by omega)]
    rfl
  · rw [if_neg (by omega)]
    exact (k.blk j (by show j < H.n; omega)).symm

theorem grown_keep {H0 H H2 : AH} (k0 : Keep H0 H) (k : Keep H.top H2) : Keep H0 (grown H H2) := by
  refine ⟨Nat.le_trans k0.n k.n, k0.lw, fun j hj => ?_⟩
  have hn := k0.n
  have : j < H.n := by omega
  unfold grown AH.blk
  simp only [addT_blk]
  rw [if_neg (by omega)]
  exact k0.blk j hj

theorem keep_lw {H H2 : AH} (k : Keep H.top H2) : H.n ≤ H2.lw := by have := k.lw; have : min H.n H.n ≤ H2.lw := this; omega

theorem low_but (H H2 : AH) : But none H2 (low H H2) := ⟨rfl, fun j _ _ => rfl⟩
theorem low_ka {n0 : Nat} {H H2 : AH} (h : KA n0 H.top H2) : KA n0 H (low H H2) := fun H0 k hn => by
  have k2 := h H0 k.top hn
  refine ⟨k2.n, ?_, k2.blk⟩
  have := k.lw
  have := k2.lw
  show min H0.lw H0.n ≤ min H.lw H2.lw
  omega
theorem But.none {b : Option Nat} {H H' H2 : AH} (k : But b H H') (k2 : But none H' H2) : But b H H2 :=
  ⟨k2.n.trans k.n, fun j hn hj => (k2.blk j (by rw [k.n]; exact hn) (fun e => by cases e)).trans (k.blk j hn hj)⟩
theorem Sl.same {H H' : AH} {v : Value} {xs : List Nat} (h : Sl H v xs) (k : But none H H') : Sl H' v xs := h.but k fun c e => by cases e
theorem Own.same {n : Nat} {H H' : AH} {v : Value} {xs : List Nat} (h : Own n H v xs) (k : But none H H') : Own n H' v xs := h.but k fun c e => by cases e
theorem But.top {b : Option Nat} {H H' : AH} (k : But b H.top H') : But b H H' := ⟨k.n, k.blk⟩

theorem Own.store_lw {n : Nat} {H H' : AH} {v : Value} {xs : List Nat} (h : Own n H v xs) {i : Nat} (hi : i < xs.length) {y : Nat} (st : storeV Tryd.prog H.top 65 (adr v i) (.int .u64 (y : Int)) = some H') : H'.lw < H.n := by
  cases h with
  | nil => cases hi
  | mk b o cap xs cs h1 h2 h3 h4 h5 h6 =>
    unfold storeV adr at st
    simp only [sU64] at st
    have h4' : H.top.blk b = .rw 1 cs := h4
    rw [show Nat.beq (Value.int .u64 (y : Int)).cells.size 1 = true from rfl, cond_true, AH.write_def, h4'] at st
    simp only at st
    cases hc : (Nat.ble (o + i + (Value.int .u64 (y : Int)).cells.toList.length) cs.length && (Value.int .u64 (y : Int)).cells.toList.all one) with
    | false => rw [hc] at st; cases st
    | true =>
      rw [hc, cond_true] at st
      cases st
      show min H.n b < H.n
      omega

/-- A write of a drawn region. -/
theorem Own.putTop {n : Nat} {H : AH} {v : Value} {xs : List Nat} (h : Own n H v xs) {i : Nat} (hi : i < xs.length) (y : Nat) :
    ∃ H2, storeV Tryd.prog H.top 65 (adr v i) (.int .u64 (y : Int)) = some H2 ∧ H2.n = H.n ∧ H2.lw < H.n ∧ Own n (low H H2) v (xs.set i y) ∧ But (vblk v) H (low H H2) ∧ KA n H (low H H2) := by
  obtain ⟨H2, h1, h2, h3, h4, h5⟩ := h.top.put hi y
  exact ⟨H2, h1, h3, h.store_lw hi h1, h2.same (low_but H H2), (But.none (b := vblk v) (H := H) (H' := H2) ⟨h3, fun j _ hj => h4 j hj⟩ (low_but H H2)), low_ka h5⟩
end
end Go.Proofs.YthlgggcpokfmaaaDoor

/-
  div.divide: the walk.
-/
namespace Go.Proofs.YthlgggcpokfmaaaDoor
open Go Ev
set_option linter.unusedVariables false
set_option linter.unusedSimpArgs false
noncomputable section
set_option maxRecDepth 20000

/-- What a later heap, of which something is hidden, keeps. -/
theorem hideT_get (t : Tr Blk) : ∀ (hs : List Nat) (j : Nat), j ∉ hs → (hideT t hs).get j = t.get j
  | [], j, _ => rfl
  | i :: r, j, h => by
    simp only [hideT, Tr.get_set]
    rw [if_neg (by intro e; subst e; exact h (List.mem_cons_self ..))]
    exact hideT_get t r j (fun h' => h (List.mem_cons_of_mem _ h'))

theorem hidden_ge {n bits : Nat} : ∀ {ms : List (Nat × Nat × Nat)}, (∀ x ∈ ms, n ≤ x.2.1) → ∀ i ∈ hidden bits ms, n ≤ i
  | [], _, i, h => by cases h
  | (k, lo, hi) :: r, hm, i, h => by
    have ih := hidden_ge (bits := bits) (ms := r) (fun x hx => hm x (List.mem_cons_of_mem _ hx)) i
    have h0 : n ≤ lo := hm (k, lo, hi) (List.mem_cons_self ..)
    unfold hidden at h
    cases hb : bits.testBit k with
    | true => rw [hb, cond_true] at h; exact ih h
    | false =>
      rw [hb, cond_false] at h
      rcases List.mem_append.mp h with h | h
      · obtain ⟨a, _, rfl⟩ := List.mem_map.mp h; omega
      · exact ih h

theorem vis_keep {H0 H : AH} {bits : Nat} {ms : List (Nat × Nat × Nat)} (k : Keep H0 H) (h : ∀ x ∈ ms, H0.n ≤ x.2.1) : Keep H0 (vis H bits ms) := by
  have k2 := k.top
  refine ⟨k2.n, k2.lw, fun j hj => ?_⟩
  rw [← k.blk j hj]
  unfold vis AH.blk
  simp only
  rw [hideT_get]
  intro hm
  have := hidden_ge h j hm
  omega

theorem conv_lz {n : Nat} (h : n ≤ 64) : convV Tryd.prog 3 51 (.int .i64 (64 - (n : Int))) = some (.int .u64 ((64 - n : Nat) : Int)) := by
  have := conv_int_uint (n := 64 - n) (by show _ < 18446744073709551616; omega)
  rw [← this]
  congr 2
  omega

theorem blen64 {x : Nat} (hx : x < B64) : blen x ≤ 64 := by
  rcases Nat.lt_or_ge 64 (blen x) with h | h
  · have h0 : x ≠ 0 := by rintro rfl; simp [blen] at h
    have a := blen_ge h0
    have b : 2 ^ 64 ≤ 2 ^ (blen x - 1) := Nat.pow_le_pow_right (by decide) (by omega)
    have hx : x < 18446744073709551616 := hx
    omega
  · exact h

theorem dv_split (xs : List Nat) (j : Nat) (h : j ≤ xs.length) : dv B64 xs = dv B64 (xs.take j) + B64 ^ j * dv B64 (xs.drop j) := by
  have := congrArg (dv B64) (List.take_append_drop j xs)
  rw [dv_append, List.length_take, Nat.min_eq_left h] at this
  exact this.symm

/-- A normal list's highest limb. -/
theorem normal_top {xs : List Nat} (dx : Dig B64 xs) (tx : trimL xs = xs) (h : 0 < xs.length) : 0 < xs[xs.length - 1] := by
  rcases Nat.eq_zero_or_pos (xs[xs.length - 1]) with h0 | h0
  · exfalso
    have hs := split_last (n := xs.length - 1) (xs := xs) (by omega)
    have e : xs = xs.take (xs.length - 1) ++ [0] := by
      rw [h0] at hs; exact hs
    have := congrArg trimL e
    rw [trimL_snoc0, tx] at this
    have := congrArg List.length this
    have := trimL_len (xs.take (xs.length - 1))
    rw [List.length_take] at this
    omega
  · exact h0

theorem normal_ge {xs : List Nat} (dx : Dig B64 xs) (tx : trimL xs = xs) (h : 0 < xs.length) : B64 ^ (xs.length - 1) ≤ dv B64 xs := by
  rw [dv_split xs (xs.length - 1) (by omega), List.drop_eq_getElem_cons (by omega), List.drop_eq_nil_of_le (by omega)]
  have := normal_top dx tx h
  simp only [dv, Nat.mul_zero, Nat.add_zero]
  have : B64 ^ (xs.length - 1) * 1 ≤ B64 ^ (xs.length - 1) * xs[xs.length - 1] := Nat.mul_le_mul_left _ (by omega)
  omega

theorem normal_ds {xs : List Nat} (dx : Dig B64 xs) (tx : trimL xs = xs) : xs = ds B64 (dv B64 xs) := by rw [← trimL_ds two64 dx, tx]

/-- The numbers of the divisor, shifted. -/
theorem shift_top {ys : List Nat} (dy : Dig B64 ys) (ty : trimL ys = ys) {n : Nat} (hn : ys.length = n) (h2 : 0 < n) {s : Nat} (hs : s = 64 - blen (ys[n - 1]'(by omega))) :
    s < 64 ∧ dv B64 ys * 2 ^ s < B64 ^ n := by
  subst hn
  have h0 := normal_top dy ty (by omega)
  have hB := dy.get (List.getElem?_eq_getElem (show ys.length - 1 < ys.length by omega))
  have hbl := blen64 hB
  have hbl0 : 0 < blen (ys[ys.length - 1]) := by unfold blen; rw [if_neg (by omega)]; omega
  refine ⟨by omega, ?_⟩
  have hlt := blen_lt (ys[ys.length - 1])
  have e := dv_split ys (ys.length - 1) (by omega)
  rw [List.drop_eq_getElem_cons (by omega), List.drop_eq_nil_of_le (by omega)] at e
  simp only [dv, Nat.mul_zero, Nat.add_zero] at e
  have hl := dv_lt (dy.take (ys.length - 1))
  rw [List.length_take, Nat.min_eq_left (by omega)] at hl
  generalize ys[ys.length - 1] = y at *
  have h1 : dv B64 ys < B64 ^ (ys.length - 1) * 2 ^ blen y := by
    have : B64 ^ (ys.length - 1) * (y + 1) ≤ B64 ^ (ys.length - 1) * 2 ^ blen y := Nat.mul_le_mul_left _ hlt
    rw [Nat.mul_succ] at this
    omega
  have h3 : dv B64 ys * 2 ^ s < B64 ^ (ys.length - 1) * 2 ^ blen y * 2 ^ s := Nat.mul_lt_mul_of_pos_right h1 (Nat.two_pow_pos s)
  have h4 : B64 ^ (ys.length - 1) * 2 ^ blen y * 2 ^ s = B64 ^ ys.length := by
    rw [Nat.mul_assoc, ← Nat.pow_add, hs, show blen y + (64 - blen y) = 64 by omega]
    obtain ⟨m, hm⟩ : ∃ m, ys.length = m + 1 := ⟨ys.length - 1, by omega⟩
    rw [hm, Nat.add_sub_cancel, show (2 : Nat) ^ 64 = B64 by decide]
    rfl
  rwa [h4] at h3

attribute [-simp] Int.natCast_add Int.natCast_mul Int.natCast_ediv Int.natCast_emod Int.natCast_pow
attribute [local simp] strip stripL LW' LR gW evOp oMove oAssign oPick oBinOp oUnOp oConvert oExtract oIndexAddr oIndex oLoad oStore oSlice oMakeSlice oCall oBuildSlice opd opds optOpd plain plain1 Tr.get_set tmOf builtinV binV isShift sameKind undef resultV resOne packV ltNat ltNum ltLst calleeV parts lss_nat unV DW grdOf heapOp LX isStore

/-- What divide answers. -/
def DivideIs (n0 : Nat) (H : AH) (A B : Nat) (v : Value) (H' : AH) : Prop :=
  Keep H H' ∧ ∃ q r, v = .tuple #[q, r] ∧ Own H.n H' q (ds B64 (A / B)) ∧ Own n0 H' r (ds B64 (A % B)) ∧ Apart q r

theorem apart_own {n m : Nat} {H H' : AH} {v w : Value} {xs ys : List Nat} (a : Own n H v xs) (b : Own m H' w ys) (h : H.n ≤ m) : Apart v w := fun c hc hc' => by
  have := (a.blk_lo hc).2
  have := (b.blk_lo hc').1
  omega

theorem cmpN_lt {a b : Nat} : (cmpN a b < 0) ↔ a < b := by
  unfold cmpN
  split
  · simp; assumption
  · split <;> simp <;> omega

theorem lss0 {a : Int} : intBin .lss .i64 a 0 = some (.bool (decide (a < 0))) := rfl

/-- Code behind its first part. -/
def sndC : Code → Code
  | .seq _ b => b
  | c => c

/-- The code behind the two easy cases. -/
def divideTail : Code := sndC (sndC (sndC (Tryd.f53.body.getD .skip)))

set_option maxHeartbeats 2000000 in
/-- By one limb. -/
theorem divide_one {n0 : Nat} {H : AH} {va vb : Value} {xs ys : List Nat} (ha : Own n0 H va xs) (hb : Sl H vb ys) (hn0 : n0 ≤ H.n) (dx : Dig B64 xs) (dy : Dig B64 ys) (tx : trimL xs = xs) (ty : trimL ys = ys) (lx : xs.length ≤ 17592186040000) (ly : ys.length ≤ 17592186040000) (hy : 0 < ys.length)
    (rest : ∀ tm : Tr Value, tm.get 0 = some va → tm.get 1 = some vb → 2 ≤ ys.length → dv B64 ys ≤ dv B64 xs → W Tryd.prog cfgR divideTail ⟨104, tm, H⟩ fun ex s => (ex = .norm ∨ ex = .ret) ∧ ∃ vs, resultV Tryd.prog s Tryd.f53.results.toList = some vs ∧ DivideIs n0 H (dv B64 xs) (dv B64 ys) (packV vs) s.H) :
    CW Tryd.prog cfgR 53 [va, vb] H (DivideIs n0 H (dv B64 xs) (dv B64 ys)) := by
  refine CW_intro 104 (by decide) (by decide) Tryd.func53 rfl rfl ?_
  obtain ⟨v1, H1, hc1, e1, e2⟩ := compare_spec ha.sl hb dx dy (by omega) (by omega)
  subst e1; subst e2
  have Bpos : 0 < dv B64 ys := Nat.lt_of_lt_of_le (Nat.pow_pos (by decide)) (normal_ge dy ty hy)
  have lenb := hb.len ltNat
  have lena := ha.sl.len ltNat
  apply W_seq; intro b1 hb1
  apply W_region
  simp
  show W _ _ b1 _ _; subst hb1
  apply W_seq; intro b1 hb1
  apply W_seq; intro b2 hb2
  apply W_region
  simp [hc1, lss0, cmpN_lt]
  show W _ _ b2 _ _; subst hb2
  by_cases hlt : dv B64 xs < dv B64 ys
  · refine W_cond (t := true) (by simp [hlt]) ?_
    apply W_seq; intro b2 hb2
    apply W_region
    simp
    show W _ _ b2 _ _; subst hb2
    apply W_ret
    simp [seqQ]
    refine ⟨.refl H1, _, _, rfl, ?_, ?_, fun c hc => by cases hc⟩
    · rw [Nat.div_eq_of_lt hlt, ds_zero]; exact .nil
    · rw [Nat.mod_eq_of_lt hlt, ← normal_ds dx tx]; exact ha
  · refine W_cond (t := false) (by simp [hlt]) ?_
    apply W_skip
    show W _ _ b1 _ _; subst hb1
    apply W_seq; intro b1 hb1
    apply W_seq; intro b2 hb2
    apply W_region
    simp [lenb]
    show W _ _ b2 _ _; subst hb2
    by_cases h1 : ys.length = 1
    · refine W_cond (t := true) (by simp [h1]) ?_
      obtain ⟨y, rfl⟩ : ∃ y, ys = [y] := by
        match ys, h1 with
        | [y], _ => exact ⟨y, rfl⟩
      have hyB : y < B64 := dy.head
      have eB : dv B64 [y] = y := by simp [dv]
      rw [eB] at Bpos hlt ⊢
      obtain ⟨q0, H2, hmk, k2, o2, n2⟩ := makeSlice_own (H := H1) ltNat (n := xs.length) (by omega)
      have hx0 : 0 < xs.length := by
        rcases Nat.eq_zero_or_pos xs.length with h | h
        · exfalso
          have : xs = [] := List.length_eq_zero_iff.mp h
          subst this
          exact hlt Bpos
        · exact h
      have w1 : intBin .sub .i64 (xs.length : Int) 1 = some (.int .i64 ((xs.length : Int) - 1)) := by
        rw [sub1_i64 (by omega) hx0]; congr 2; omega
      apply W_seq; intro b2 hb2
      apply W_region
      simp [lena, hmk]
      show W _ _ b2 _ _; subst hb2
      refine W_thenK (fun s' => s'.k = 104 ∧ Keep H1 s'.H ∧ ∃ (L : List Nat) (r : Nat), L.length = xs.length ∧ Dig B64 L ∧ r < y ∧ dv B64 xs = y * dv B64 L + r ∧ Own H1.n s'.H q0 L ∧ s'.tm.get 6 = some q0 ∧ s'.tm.get 7 = some (.int .u64 (r : Int))) ?_ ?_
      · intro Q'' hQ''
        apply W_seq; intro b2 hb2
        apply W_region
        simp [lena, w1]
        show W _ _ b2 _ _; subst hb2
        apply W_block
        refine W_loopK (fun m s' => s'.k = 104 ∧ Keep H1 s'.H ∧ m ≤ xs.length ∧ ∃ (L : List Nat) (r : Nat), L.length + m = xs.length ∧ Dig B64 L ∧ r < y ∧ dv B64 (xs.drop m) = y * dv B64 L + r ∧ Own H1.n s'.H q0 (List.replicate m 0 ++ L) ∧
          s'.tm.get 0 = some va ∧ s'.tm.get 1 = some vb ∧ s'.tm.get 6 = some q0 ∧ s'.tm.get 7 = some (.int .u64 (r : Int)) ∧ s'.tm.get 8 = some (.int .i64 ((m : Int) - 1))) ?_ xs.length _
          ⟨rfl, k2, Nat.le_refl _, [], 0, by simp, .nil _, Bpos, by simp [dv], by simpa using o2, by simp, by simp, by simp, by simp, by simp⟩
        rintro m ⟨k, tm, H3⟩ ⟨hk, k3, hm, L, r, hL, dL, hr, heq, own, t0, t1, t6, t7, t8⟩ Q' hQ'
        simp only at hk k3 own t0 t1 t6 t7 t8
        subst hk
        apply W_seq; intro b3 hb3
        apply W_seq; intro b4 hb4
        apply W_region
        have hge : intBin .geq .i64 ((m : Int) - 1) 0 = some (.bool (decide (0 < m))) := by
          show some (Value.bool (decide ((m : Int) - 1 ≥ 0))) = _
          congr 2; apply decide_eq_decide.mpr; omega
        simp [t8, hge]
        show W _ _ b4 _ _; subst hb4
        by_cases hm0 : m = 0
        · subst hm0
          refine W_cond (t := false) (by simp) ?_
          apply W_exit
          apply hQ'
          left
          exact ⟨rfl, hQ'' _ ⟨rfl, k3, L, r, by omega, dL, hr, by simpa using heq, by simpa using own, by simp [t6], by simp [t7]⟩⟩
        · refine W_cond (t := true) (by simp; omega) ?_
          apply W_skip
          show W _ _ b3 _ _; subst hb3
          have em : (m : Int) - 1 = ((m - 1 : Nat) : Int) := by omega
          rw [em] at t8
          have hi : m - 1 < xs.length := by omega
          have sa := (ha.sl.keep k3)
          have sb := (hb.keep k3)
          have a1 := sa.adr ltNat (k := .i64) hi
          have d1 := sa.top.load hi
          have a2 : indexAddrV Tryd.prog 25 vb (.int .i64 0) = some (adr vb 0) := sb.adr ltNat (k := .i64) (i := 0) (by simp)
          have d2 : loadV Tryd.prog H3.top 65 (adr vb 0) = some (.int .u64 (y : Int)) := sb.top.load (i := 0) (by simp)
          have hxB : xs[m - 1] < B64 := dx.get (List.getElem?_eq_getElem hi)
          obtain ⟨x, hxe⟩ : ∃ x, x = xs[m - 1] := ⟨_, rfl⟩
          rw [← hxe] at d1 hxB
          have dc := div64_call hr hxB hyB H3.top
          obtain ⟨q, hq⟩ : ∃ q, q = (r * B64 + x) / y := ⟨_, rfl⟩
          obtain ⟨r', hr'⟩ : ∃ r', r' = (r * B64 + x) % y := ⟨_, rfl⟩
          rw [← hq, ← hr'] at dc
          have a3 := own.sl.adr ltNat (k := .i64) (i := m - 1) (by simp; omega)
          obtain ⟨H4, st4, n4, lw4, own4, bt4, kp4⟩ := own.putTop (i := m - 1) (by simp; omega) q
          have hdrop : xs.drop (m - 1) = x :: xs.drop m := by
            rw [List.drop_eq_getElem_cons hi, show m - 1 + 1 = m by omega, ← hxe]
          apply W_seq; intro b3 hb3
          apply W_block
          apply W_rws (by kernel_rfl)
          simp [t0, t1, t6, t7, t8, a1, a2, d1, d2, dc, a3, st4, n4, lw4, isStore]
          show W _ _ b3 _ _; subst hb3
          have w2 : intBin .sub .i64 ((m - 1 : Nat) : Int) 1 = some (.int .i64 (((m - 1 : Nat) : Int) - 1)) := by
            show some (Value.int .i64 (IntKind.i64.wrap (((m - 1 : Nat) : Int) - 1))) = _
            congr 2
            rw [IntKind.wrap_i64]; omega
          apply W_region
          simp [t8, w2]
          apply hQ'
          refine ⟨m - 1, by omega, rfl, kp4 H1 k3 (Nat.le_refl _), by show m - 1 ≤ _; omega, q :: L, r', by simp; omega, .cons ?_ dL, ?_, ?_, ?_, by simp [t0], by simp [t1], by simp [t6], by simp, by simp⟩
          · rw [hq, Nat.div_lt_iff_lt_mul Bpos]
            have : (r + 1) * B64 ≤ y * B64 := Nat.mul_le_mul_right _ hr
            rw [Nat.succ_mul] at this
            rw [Nat.mul_comm B64 y]
            omega
          · rw [hr']; exact Nat.mod_lt _ Bpos
          · rw [hdrop]
            simp only [dv]
            rw [heq]
            have e := Nat.div_add_mod (r * B64 + x) y
            rw [← hq, ← hr'] at e
            rw [Nat.mul_add, Nat.mul_add, ← Nat.mul_assoc, Nat.mul_comm B64 y, Nat.mul_assoc]
            rw [Nat.mul_comm r B64] at e
            omega
          · have hrep : List.replicate m 0 ++ L = List.replicate (m - 1) 0 ++ 0 :: L := by
              obtain ⟨m', rfl⟩ : ∃ m', m = m' + 1 := ⟨m - 1, by omega⟩
              rw [List.replicate_succ']; simp
            rw [hrep, set_mid _ _ _ _ (by simp)] at own4
            exact own4
      rintro ⟨k, tm, H3⟩ ⟨hk, k3, L, r, hL, dL, hr, heq, own, t6, t7⟩
      simp only at hk k3 own t6 t7
      subst hk
      obtain ⟨v4, H4, hc4, k4, o4⟩ := norm_spec own.sl (by omega)
      obtain ⟨v5, H5, hc5, k5, o5⟩ := from_spec (x := r) (H := H4) (by omega)
      apply W_seq; intro b hb
      apply W_region
      simp [t6, t7, hc4, hc5]
      show W _ _ b _ _; subst hb
      apply W_ret
      simp [seqQ]
      have hdiv : dv B64 xs / y = dv B64 L := by
        rw [heq, Nat.mul_add_div Bpos, Nat.div_eq_of_lt hr, Nat.add_zero]
      have hmod : dv B64 xs % y = r := by
        rw [heq, Nat.mul_add_mod, Nat.mod_eq_of_lt hr]
      rw [trimL_ds two64 dL] at o4
      refine ⟨(k3.trans k4).trans k5, v4, v5, rfl, ?_, ?_, apart_own o4 o5 (Nat.le_refl _)⟩
      · rw [hdiv]; exact o4.mono k3.n k5
      · rw [hmod]; exact o5.mono (Nat.le_trans hn0 (k3.trans k4).n) (.refl H5)
    · refine W_cond (t := false) (by simp; omega) ?_
      apply W_skip
      show W _ _ b1 _ _; subst hb1
      exact rest _ (by simp) (by simp) (by omega) (Nat.le_of_not_lt hlt)
end
end Go.Proofs.YthlgggcpokfmaaaDoor

/-
  div.divide: the walk, by Knuth's way.
-/
namespace Go.Proofs.YthlgggcpokfmaaaDoor
open Go Ev
set_option linter.unusedVariables false
set_option linter.unusedSimpArgs false
noncomputable section
set_option maxRecDepth 20000

theorem Own.n_lt {n : Nat} {H : AH} {v : Value} {xs : List Nat} (h : Own n H v xs) (h0 : 0 < xs.length) : n < H.n := by
  cases h with
  | nil => cases h0
  | mk b o cap xs cs h1 h2 h3 h4 h5 h6 => omega

theorem blt_of {a b : Nat} (h : a < b) : Nat.blt a b = true := by rw [Nat.blt_eq]; exact h

theorem add_i64' {x y : Nat} (h : x + y < 9223372036854775808) : intBin .add .i64 (x : Int) (y : Int) = some (.int .i64 ((x + y : Nat) : Int)) := add_i64 h

theorem hidden_nil {bits : Nat} : ∀ {ms : List (Nat × Nat × Nat)}, (∀ x ∈ ms, bits.testBit x.1 = true) → hidden bits ms = []
  | [], _ => rfl
  | (k, lo, hi) :: r, h => by
    have h1 : bits.testBit k = true := h (k, lo, hi) (List.mem_cons_self ..)
    unfold hidden
    rw [h1, cond_true]
    exact hidden_nil fun x hx => h x (List.mem_cons_of_mem _ hx)

/-- 'v[:m]', the value. -/
def cutTo (v : Value) (m : Nat) : Value :=
  match v with
  | .slice a _ c => .slice a m c
  | v => v

theorem Sl.cutTo {H : AH} {v : Value} {xs : List Nat} (h : Sl H v xs) {t : TypeId} (ht : LT t) {m : Nat} (hm : m ≤ xs.length) (h0 : 0 < xs.length) :
    sliceV Tryd.prog H t v none (some (.int .i64 (m : Int))) none = some (cutTo v m) ∧ Sl H (Go.Proofs.YthlgggcpokfmaaaDoor.cutTo v m) (xs.take m) := by
  cases h with
  | nil => cases h0
  | emp b => cases h0
  | mk b o cap xs h1 h2 =>
    have hl : (xs.take m).length = m := by rw [List.length_take]; omega
    obtain ⟨h2a, cs, h3, h4, h5⟩ := h2
    have hs : Sl H (.slice (some ⟨b, o, none⟩) (xs.take m).length cap) (xs.take m) := .mk b o cap _ (by omega) ⟨h2a, cs, h3, h4, fun i x hx => h5.1 i x (by
      rw [List.getElem?_take] at hx
      split at hx
      · exact hx
      · cases hx), h5.2⟩
    rw [hl] at hs
    refine ⟨?_, hs⟩
    unfold sliceV
    simp only [ht.1, sU64]
    unfold cutV boundV
    simp only [h4, Option.isSome_some, Option.isNone_none, Bool.true_or]
    rw [if_pos (by omega)]
    have e1 : Nat.ble m cap = true := Nat.ble_eq.mpr (by omega)
    simp [boundV, e1, Go.Proofs.YthlgggcpokfmaaaDoor.cutTo]

/-- One digit of Knuth's way. -/
theorem knuth_step {X vs : List Nat} {j n : Nat} (dX : Dig B64 X) (hj : j + n + 1 ≤ X.length) (dvs : Dig B64 vs) (hvs : vs.length = n) (hlt : dv B64 (X.drop (j + 1)) < dv B64 vs) :
    dv B64 ((X.drop j).take (n + 1)) = dv B64 (X.drop j) ∧ dv B64 ((X.drop j).take (n + 1)) < dv B64 vs * B64 ∧ dv B64 (X.drop (j + n + 1)) = 0 := by
  have hV := dv_lt dvs
  rw [hvs] at hV
  have e1 : dv B64 (X.drop (j + 1)) = dv B64 ((X.drop (j + 1)).take n) + B64 ^ n * dv B64 ((X.drop (j + 1)).drop n) := dv_split _ n (by rw [List.length_drop]; omega)
  have z : dv B64 ((X.drop (j + 1)).drop n) = 0 := by
    rcases Nat.eq_zero_or_pos (dv B64 ((X.drop (j + 1)).drop n)) with h | h
    · exact h
    · exfalso
      have : B64 ^ n * 1 ≤ B64 ^ n * dv B64 ((X.drop (j + 1)).drop n) := Nat.mul_le_mul_left _ h
      omega
  rw [List.drop_drop] at z
  have z' : dv B64 (X.drop (j + n + 1)) = 0 := by rw [show j + n + 1 = j + 1 + n by omega]; exact z
  have e2 := dv_split (X.drop j) (n + 1) (by rw [List.length_drop]; omega)
  rw [List.drop_drop, show j + (n + 1) = j + n + 1 by omega, z', Nat.mul_zero, Nat.add_zero] at e2
  refine ⟨e2.symm, ?_, z'⟩
  rw [← e2, List.drop_eq_getElem_cons (by omega)]
  have hx : X[j] < B64 := dX.get (List.getElem?_eq_getElem (by omega))
  have : (dv B64 (X.drop (j + 1)) + 1) * B64 ≤ dv B64 vs * B64 := Nat.mul_le_mul_right _ hlt
  rw [Nat.succ_mul] at this
  simp only [dv]
  rw [Nat.mul_comm B64]
  omega

attribute [-simp] Int.natCast_add Int.natCast_mul Int.natCast_ediv Int.natCast_emod Int.natCast_pow
attribute [local simp] strip stripL LW' LR gW evOp oMove oAssign oPick oBinOp oUnOp oConvert oExtract oIndexAddr oIndex oLoad oStore oSlice oMakeSlice oCall oBuildSlice opd opds optOpd plain plain1 Tr.get_set tmOf builtinV binV isShift sameKind undef resultV resOne packV ltNat ltNum ltLst calleeV parts lss_nat unV DW grdOf heapOp LX isStore

set_option maxHeartbeats 4000000 in
theorem divide_rest {n0 : Nat} {H : AH} {va vb : Value} {xs ys : List Nat} (ha : Own n0 H va xs) (hb : Sl H vb ys) (hn0 : n0 ≤ H.n) (dx : Dig B64 xs) (dy : Dig B64 ys) (tx : trimL xs = xs) (ty : trimL ys = ys) (lx : xs.length ≤ 17592186040000) (ly : ys.length ≤ 17592186040000)
    (tm : Tr Value) (t0 : tm.get 0 = some va) (t1 : tm.get 1 = some vb) (h2 : 2 ≤ ys.length) (hge : dv B64 ys ≤ dv B64 xs) :
    W Tryd.prog cfgR divideTail ⟨104, tm, H⟩ fun ex s => (ex = .norm ∨ ex = .ret) ∧ ∃ vs, resultV Tryd.prog s Tryd.f53.results.toList = some vs ∧ DivideIs n0 H (dv B64 xs) (dv B64 ys) (packV vs) s.H := by
  obtain ⟨n, hn⟩ : ∃ n, n = ys.length := ⟨_, rfl⟩
  have hn2 : 2 ≤ n := by omega
  have hxn : n ≤ xs.length := by
    rcases Nat.lt_or_ge xs.length n with h | h
    · have := dv_len_lt tx ty dx dy (by omega); omega
    · exact h
  have lenb := hb.len ltNat
  have lena := ha.sl.len ltNat
  rw [← hn] at lenb
  have s1 : intBin .sub .i64 (n : Int) 1 = some (.int .i64 ((n - 1 : Nat) : Int)) := sub1_i64 (by omega) (by omega)
  have a1 := hb.adr ltNat (k := .i64) (i := n - 1) (by omega)
  have d1 := hb.load (i := n - 1) (by omega)
  obtain ⟨y, hy⟩ : ∃ y, y = ys[n - 1]'(by omega) := ⟨_, rfl⟩
  rw [← hy] at d1
  have hyB : y < B64 := by rw [hy]; exact dy.get (List.getElem?_eq_getElem (by omega))
  obtain ⟨s, hs⟩ : ∃ s, s = 64 - blen y := ⟨_, rfl⟩
  have hst := shift_top dy ty hn.symm (by omega) (s := s) (by rw [hs, hy])
  obtain ⟨h64, hVlt⟩ := hst
  have hlz : callI Tryd.prog cfgR 56 [.int .u64 (y : Int)] H = some (.int .i64 (64 - (blen y : Int)), H) := by
    obtain ⟨v, H', h, rfl, rfl⟩ := lz_spec hyB (H := H)
    exact h
  have hcv := conv_lz (blen64 hyB)
  rw [← hs] at hcv
  have hge1 := normal_ge dy ty (by omega)
  rw [← hn] at hge1
  show W _ _ (.seq (.region 10 _ _) _) _ _
  apply W_seq; intro b hb1
  apply W_region
  simp [t1, lenb, s1, a1, d1, hlz, hcv]
  show W _ _ b _ _; subst hb1
  -- the shifted ones
  obtain ⟨u0, H2, hu, ku, us0, ou, du, lu, vu⟩ := up_spec (H := H.top) ha.sl.top dx (by omega) h64
  have ou1 : Own H.n (grown H H2) u0 us0 := ou.same (grown_but ku)
  have k1 : Keep H (grown H H2) := grown_keep (.refl H) ku
  have n1 : H.n < H2.n := ou.n_lt (by omega)
  obtain ⟨G1, hG1⟩ : ∃ G1, G1 = grown H H2 := ⟨_, rfl⟩
  have nG1 : G1.n = H2.n := by rw [hG1]; rfl
  rw [← hG1] at ou1 k1
  obtain ⟨w0, H3, hw, kw, vs0, ow, dw, lw, vw⟩ := up_spec (H := G1.top) (hb.keep k1).top dy (by omega) h64
  have ow1 : Own G1.n (grown G1 H3) w0 vs0 := ow.same (grown_but kw)
  have k2 : Keep G1 (grown G1 H3) := grown_keep (.refl G1) kw
  have n2 : G1.n < H3.n := ow.n_lt (by omega)
  obtain ⟨G2, hG2⟩ : ∃ G2, G2 = grown G1 H3 := ⟨_, rfl⟩
  have nG2 : G2.n = H3.n := by rw [hG2]; rfl
  rw [← hG2] at ow1 k2
  obtain ⟨wv, hsl, ow2⟩ := ow1.top.cut ltNat (m := n) (by omega) (by omega)
  have ow3 : Own G1.n G2 wv (vs0.take n) := ow2.same ⟨rfl, fun _ _ _ => rfl⟩
  apply W_seq; intro b hb1
  apply W_draw (by kernel_rfl)
  simp [t0, t1]
  refine DG_grow (v := u0) (H2 := H2) rfl rfl rfl (by rw [vis_top rfl]; simp [t0, hu]) (by omega) (keep_lw ku) ?_
  simp [t1, blt_of n1, ← hG1]
  refine DG_grow (v := w0) (H2 := H3) rfl rfl rfl (by rw [vis_top (by kernel_rfl)]; simp [t1, hw]) (by omega) (keep_lw kw) ?_
  simp [t1, blt_of n2, ← hG2, lenb]
  refine DG_read (v := wv) rfl rfl rfl (by rw [vis_top (by kernel_rfl)]; simp [hsl]) ?_
  simp
  show W _ _ b _ _; subst hb1
  -- the divisor
  obtain ⟨vs, hvs⟩ : ∃ vs, vs = vs0.take n := ⟨_, rfl⟩
  rw [← hvs] at ow3
  have vslen : vs.length = n := by rw [hvs, List.length_take]; omega
  have dvs : Dig B64 vs := by rw [hvs]; exact dw.take n
  have evs : dv B64 vs = dv B64 ys * 2 ^ s := by
    have e := dv_split vs0 n (by omega)
    rw [vw, ← hvs] at e
    have : dv B64 (vs0.drop n) = 0 := by
      rcases Nat.eq_zero_or_pos (dv B64 (vs0.drop n)) with h | h
      · exact h
      · exfalso
        have : B64 ^ n * 1 ≤ B64 ^ n * dv B64 (vs0.drop n) := Nat.mul_le_mul_left _ h
        omega
    rw [this] at e
    omega
  have Bpos : 0 < dv B64 ys := Nat.lt_of_lt_of_le (Nat.pow_pos (by decide)) hge1
  have spos := Nat.two_pow_pos s
  have Vge : B64 ^ (n - 1) ≤ dv B64 vs := by rw [evs]; exact Nat.le_trans hge1 (Nat.le_mul_of_pos_right _ spos)
  have Vpos : 0 < dv B64 vs := Nat.lt_of_lt_of_le (Nat.pow_pos (by decide)) Vge
  have Vlt : dv B64 vs < B64 ^ n := by rw [evs]; exact hVlt
  have vtop : 0 < vs[n - 1]'(by omega) := by
    rcases Nat.eq_zero_or_pos (vs[n - 1]'(by omega)) with h | h
    · exfalso
      have e := dv_split vs (n - 1) (by omega)
      rw [List.drop_eq_getElem_cons (by omega), List.drop_eq_nil_of_le (by omega), h] at e
      have hl := dv_lt (dvs.take (n - 1))
      rw [List.length_take, Nat.min_eq_left (by omega)] at hl
      simp [dv] at e
      omega
    · exact h
  have k12 := k1.trans k2
  have ou2 : Own H.n G2 u0 us0 := ou1.mono (Nat.le_refl _) k2
  have apuv : Apart u0 wv := apart_own ou1 ow3 (Nat.le_refl _)
  have lenv := ow3.sl.len ltNat
  rw [vslen] at lenv
  obtain ⟨M, hM⟩ : ∃ M, M = xs.length - n + 1 := ⟨_, rfl⟩
  have s2 : intBin .sub .i64 (xs.length : Int) (n : Int) = some (.int .i64 ((xs.length - n : Nat) : Int)) := sub_i64 (by omega) hxn
  have s3 : intBin .add .i64 ((xs.length - n : Nat) : Int) 1 = some (.int .i64 (M : Int)) := by rw [hM]; exact add1_i64 (by omega)
  have s4 : ((xs.length - n : Nat) : Int) = (M : Int) - 1 := by omega
  obtain ⟨q0, H4, hmk, kq, oq, nq⟩ := makeSlice_own (H := G2) ltNat (n := M) (by omega)
  have apuq : Apart u0 q0 := apart_own ou2 oq (Nat.le_refl _)
  apply W_seq; intro b hb1
  apply W_region
  simp [lenv]
  show W _ _ b _ _; subst hb1
  apply W_seq; intro b hb1
  apply W_region
  simp [t0, lena, s2, s3, hmk]
  show W _ _ b _ _; subst hb1
  refine W_thenK (fun s' => s'.k = 104 ∧ Keep H s'.H ∧ ∃ (X L : List Nat), X.length = xs.length + 1 ∧ Dig B64 X ∧ L.length = M ∧ Dig B64 L ∧ dv B64 X + dv B64 vs * dv B64 L = dv B64 xs * 2 ^ s ∧ dv B64 X < dv B64 vs ∧ Own H.n s'.H u0 X ∧ Own G2.n s'.H q0 L ∧
    s'.tm.get 9 = some (.int .u64 (s : Int)) ∧ s'.tm.get 10 = some u0 ∧ s'.tm.get 12 = some (.int .i64 (n : Int)) ∧ s'.tm.get 13 = some q0) ?_ ?_
  · intro Q'' hQ''
    apply W_seq; intro b2 hb2
    apply W_region
    simp [t0, lena, s2]
    show W _ _ b2 _ _; subst hb2
    apply W_block
    have start : dv B64 (us0.drop M) < dv B64 vs := by
      have e := dv_split us0 M (by omega)
      rw [vu] at e
      have hx := dv_lt dx
      have h1 : dv B64 xs * 2 ^ s < B64 ^ xs.length * 2 ^ s := Nat.mul_lt_mul_of_pos_right hx spos
      have h3 : B64 ^ xs.length * 2 ^ s = B64 ^ M * (B64 ^ (n - 1) * 2 ^ s) := by
        rw [← Nat.mul_assoc, ← Nat.pow_add, show M + (n - 1) = xs.length by omega]
      have h4 : B64 ^ M * (B64 ^ (n - 1) * 2 ^ s) ≤ B64 ^ M * dv B64 vs := Nat.mul_le_mul_left _ (by rw [evs]; exact Nat.mul_le_mul_right _ hge1)
      have h5 : B64 ^ M * dv B64 (us0.drop M) < B64 ^ M * dv B64 vs := by omega
      exact Nat.lt_of_mul_lt_mul_left h5
    refine W_loopK (fun m s' => s'.k = 104 ∧ Keep G2 H4 ∧ m ≤ M ∧ Keep H s'.H ∧ Sl s'.H wv vs ∧ ∃ (X L : List Nat), X.length = xs.length + 1 ∧ Dig B64 X ∧ L.length + m = M ∧ Dig B64 L ∧ dv B64 X + B64 ^ m * (dv B64 vs * dv B64 L) = dv B64 xs * 2 ^ s ∧ dv B64 (X.drop m) < dv B64 vs ∧ Own H.n s'.H u0 X ∧ Own G2.n s'.H q0 (List.replicate m 0 ++ L) ∧
      s'.tm.get 9 = some (.int .u64 (s : Int)) ∧ s'.tm.get 10 = some u0 ∧ s'.tm.get 11 = some wv ∧ s'.tm.get 12 = some (.int .i64 (n : Int)) ∧ s'.tm.get 13 = some q0 ∧ s'.tm.get 14 = some (.int .i64 ((m : Int) - 1))) ?_ M _
      ⟨rfl, kq, Nat.le_refl _, k12.trans kq, ow3.sl.keep kq, us0, [], by omega, du, by simp, .nil _, by simp [dv, vu], start, ou2.mono (Nat.le_refl _) kq, by simpa using oq, by simp, by simp, by simp, by simp, by simp, by simp [s4]⟩
    rintro m ⟨k, tm, H5⟩ ⟨hk, _, hm, kH, sv, X, L, hX, dX, hL, dL, heq, hlt, ou, oq, t9, t10, t11, t12, t13, t14⟩ Q' hQ'
    simp only at hk kH sv ou oq t9 t10 t11 t12 t13 t14
    subst hk
    apply W_seq; intro b3 hb3
    apply W_seq; intro b4 hb4
    apply W_region
    have hge : intBin .geq .i64 ((m : Int) - 1) 0 = some (.bool (decide (0 < m))) := by
      show some (Value.bool (decide ((m : Int) - 1 ≥ 0))) = _
      congr 2; apply decide_eq_decide.mpr; omega
    simp [t14, hge]
    show W _ _ b4 _ _; subst hb4
    by_cases hm0 : m = 0
    · subst hm0
      refine W_cond (t := false) (by simp) ?_
      apply W_exit
      apply hQ'
      left
      exact ⟨rfl, hQ'' _ ⟨rfl, kH, X, L, hX, dX, by omega, dL, by simpa using heq, by simpa using hlt, ou, by simpa using oq, by simp [t9], by simp [t10], by simp [t12], by simp [t13]⟩⟩
    · refine W_cond (t := true) (by simp; omega) ?_
      apply W_skip
      show W _ _ b3 _ _; subst hb3
      obtain ⟨j, rfl⟩ : ∃ j, m = j + 1 := ⟨m - 1, by omega⟩
      have em : ((j + 1 : Nat) : Int) - 1 = (j : Int) := by omega
      rw [em] at t14
      have hjX : j + n + 1 ≤ X.length := by omega
      obtain ⟨K1, K2, K3⟩ := knuth_step dX hjX dvs vslen hlt
      obtain ⟨uw, hsl, suw, view, bw⟩ := ou.sl.part ltNat (j := j) (m := n + 1) (by omega) (by omega)
      have i1 : intBin .add .i64 (j : Int) (n : Int) = some (.int .i64 ((j + n : Nat) : Int)) := add_i64 (by omega)
      have i2 : intBin .add .i64 ((j + n : Nat) : Int) 1 = some (.int .i64 ((j + (n + 1) : Nat) : Int)) := add1_i64 (by omega)
      have hsplit : X = X.take j ++ (X.drop j).take (n + 1) ++ X.drop (j + n + 1) := by
        have a := List.take_append_drop (n + 1) (X.drop j)
        rw [List.drop_drop, show j + (n + 1) = j + n + 1 by omega] at a
        rw [List.append_assoc, a, List.take_append_drop]
      have ljp : (X.take j).length = j := by rw [List.length_take]; omega
      have lus : ((X.drop j).take (n + 1)).length = n + 1 := by rw [List.length_take, List.length_drop]; omega
      have ou' := ou
      rw [hsplit] at ou'
      obtain ⟨r, H6, hg, hr, bt, ka, us', lus', dus', vus', ou6⟩ := guess_spec ou' ljp lus view ((dX.drop j).take (n + 1)) sv apuv vslen hn2 (by omega) dvs vtop K2
      subst hr
      rw [K1] at vus' hg
      have oq6 := oq.but bt apuq
      have hrep : List.replicate (j + 1) 0 ++ L = List.replicate j 0 ++ 0 :: L := by rw [List.replicate_succ']; simp
      rw [hrep] at oq6
      have a2 := oq6.sl.adr ltNat (k := .i64) (i := j) (by simp)
      obtain ⟨H7, st7, oq7, n7, b7, ka7⟩ := oq6.put (i := j) (by simp) (dv B64 (X.drop j) / dv B64 vs)
      rw [set_mid _ _ _ _ (by simp)] at oq7
      have kG2 : Keep H H5 := kH
      have apqu : Apart q0 u0 := fun c hc hc' => apuq c hc' hc
      have apvq : Apart q0 wv := fun c hc hc' => by
        have x1 := (oq.blk_lo hc).1
        have x2 := (ow3.blk_lo hc').2
        omega
      have bt7 : But (vblk q0) H6 H7 := ⟨n7, fun i _ hi => b7 i hi⟩
      have ou7 : Own H.n H7 u0 (X.take j ++ us' ++ X.drop (j + n + 1)) := ou6.but bt7 apqu
      have sv7 : Sl H7 wv vs := (sv.but bt apuv).but bt7 apvq
      have kH7 : Keep H H7 := ka7 H (ka H kH (Nat.le_refl _)) (by have := k12.n; omega)
      apply W_seq; intro b3 hb3
      apply W_block
      apply W_region
      simp [t10, t11, t12, t13, t14, i1, i2, hsl, hg, a2, st7]
      show W _ _ b3 _ _; subst hb3
      have w2 : intBin .sub .i64 (j : Int) 1 = some (.int .i64 ((j : Int) - 1)) := by
        show some (Value.int .i64 (IntKind.i64.wrap ((j : Int) - 1))) = _
        congr 2
        rw [IntKind.wrap_i64]; omega
      apply W_region
      simp [t14, w2]
      apply hQ'
      have hdX' : (X.take j ++ us' ++ X.drop (j + n + 1)).drop j = us' ++ X.drop (j + n + 1) := by
        rw [List.append_assoc, List.drop_append_of_le_length (by omega), List.drop_eq_nil_of_le (by omega)]
        rfl
      have hdv : dv B64 (us' ++ X.drop (j + n + 1)) = dv B64 (X.drop j) % dv B64 vs := by
        rw [dv_append, K3, Nat.mul_zero, Nat.add_zero, vus']
      refine ⟨j, Nat.lt_succ_self j, rfl, kq, by show j ≤ M; omega, kH7, sv7, X.take j ++ us' ++ X.drop (j + n + 1), dv B64 (X.drop j) / dv B64 vs :: L, ?_, ((dX.take j).append dus').append (dX.drop _), by simp; omega, .cons ?_ dL, ?_, ?_, ou7, oq7, by simp [t9], by simp [t10], by simp [t11], by simp [t12], by simp [t13], by simp⟩
      · simp only [List.length_append, List.length_drop]; omega
      · rw [Nat.div_lt_iff_lt_mul Vpos, Nat.mul_comm, ← K1]; exact K2
      · have e1 := dv_split X j (by omega)
        rw [List.append_assoc, dv_append, ljp, hdv]
        have e2 := Nat.div_add_mod (dv B64 (X.drop j)) (dv B64 vs)
        simp only [dv]
        generalize dv B64 (X.drop j) / dv B64 vs = q at *
        generalize dv B64 (X.drop j) % dv B64 vs = r at *
        rw [e1, ← e2] at heq
        rw [← heq]
        rw [Nat.mul_add (dv B64 vs) q, Nat.mul_add (B64 ^ j) (dv B64 vs * q) r, Nat.mul_add (B64 ^ j) (dv B64 vs * q), show B64 ^ (j + 1) = B64 ^ j * B64 from rfl, Nat.mul_assoc (B64 ^ j) B64, Nat.mul_left_comm (dv B64 vs) B64]
        omega
      · rw [hdX', hdv]; exact Nat.mod_lt _ Vpos
  rintro ⟨k, tm2, H5⟩ ⟨hk, kH, X, L, hX, dX, hL, dL, heq, hlt, ou, oq, t9, t10, t12, t13⟩
  simp only at hk kH ou oq t9 t10 t12 t13
  subst hk
  -- the answer's numbers
  have e0 : dv B64 xs * 2 ^ s = dv B64 vs * dv B64 L + dv B64 X := by rw [← heq]; omega
  have hdiv : dv B64 xs / dv B64 ys = dv B64 L := by
    rw [← Nat.mul_div_mul_right _ _ spos, e0, ← evs, Nat.mul_add_div Vpos, Nat.div_eq_of_lt hlt, Nat.add_zero]
  have hmod : dv B64 X / 2 ^ s = dv B64 xs % dv B64 ys := by
    have : dv B64 xs % dv B64 ys * 2 ^ s = dv B64 X := by
      rw [← Nat.mul_mod_mul_right, e0, ← evs, Nat.mul_add_mod, Nat.mod_eq_of_lt hlt]
    rw [← this, Nat.mul_div_cancel _ spos]
  have hXn : dv B64 (X.take n) = dv B64 X := by
    have e := dv_split X n (by omega)
    have : dv B64 (X.drop n) = 0 := by
      rcases Nat.eq_zero_or_pos (dv B64 (X.drop n)) with h | h
      · exact h
      · exfalso
        have : B64 ^ n * 1 ≤ B64 ^ n * dv B64 (X.drop n) := Nat.mul_le_mul_left _ h
        omega
    rw [this] at e
    omega
  obtain ⟨qv, H6, hq6, kq6, oq6⟩ := norm_spec (H := H5.top) oq.sl.top (by omega)
  rw [trimL_ds two64 dL, ← hdiv] at oq6
  obtain ⟨G6, hG6⟩ : ∃ G6, G6 = grown H5 H6 := ⟨_, rfl⟩
  have kG6 : Keep H5 G6 := by rw [hG6]; exact grown_keep (.refl H5) kq6
  have nG6 : G6.n = H6.n := by rw [hG6]; rfl
  have oqG : Own H5.n G6 qv (ds B64 (dv B64 xs / dv B64 ys)) := by rw [hG6]; exact oq6.same (grown_but kq6)
  have ouG := (ou.sl.keep kG6).top
  obtain ⟨rv, H7, hr7, kr7, or7⟩ := down_spec (H := G6.top) (ouG.cutTo ltNat (m := n) (by omega) (by omega)).2 (dX.take n) (by rw [List.length_take]; omega) h64
  rw [hXn, hmod] at or7
  have kG7 : Keep G6 (grown G6 H7) := grown_keep (.refl G6) kr7
  have orG : Own G6.n (grown G6 H7) rv (ds B64 (dv B64 xs % dv B64 ys)) := or7.same (grown_but kr7)
  have h6n := kq6.n
  have h7n := kr7.n
  apply W_seq; intro b hb1
  apply W_draw (by kernel_rfl)
  simp [t13]
  refine DG_grow (v := qv) (H2 := H6) rfl rfl rfl (by rw [vis_top rfl]; simp [hq6]) h6n (keep_lw kq6) ?_
  rw [← hG6]
  generalize hms : cond (Nat.blt H5.n H6.n) _ _ = ms
  have hms1 : ∀ x ∈ ms, x.1 = 1 ∧ H5.n ≤ x.2.1 := by
    intro x hx
    rw [← hms] at hx
    cases hbl : Nat.blt H5.n H6.n with
    | true => rw [hbl, cond_true] at hx; simp at hx; subst hx; exact ⟨rfl, Nat.le_refl _⟩
    | false => rw [hbl, cond_false] at hx; cases hx
  simp [t10, t12]
  refine DG_read (v := cutTo u0 n) rfl rfl rfl ?_ ?_
  · have hsv := fun bits => ((ou.sl.keep (vis_keep (bits := bits) kG6 fun x hx => (hms1 x hx).2)).cutTo ltNat (m := n) (by omega) (by omega)).1
    simp [hsv]
  simp [t9]
  refine DG_grow (v := rv) (H2 := H7) rfl rfl rfl ?_ h7n (keep_lw kr7) ?_
  · rw [vis_top (hidden_nil fun x hx => by rw [(hms1 x hx).1]; kernel_rfl)]
    simp [t9, hr7]
  simp
  show W _ _ b _ _; subst hb1
  apply W_ret
  refine ⟨.inr rfl, [qv, rv], ?_, ?_⟩
  · simp
  · exact ⟨(kH.trans kG6).trans kG7, qv, rv, rfl, oqG.mono kH.n kG7, orG.mono (by have := (kH.trans kG6).n; omega) (.refl _), apart_own oqG orG (Nat.le_refl _)⟩

theorem divide_spec {n0 : Nat} {H : AH} {va vb : Value} {xs ys : List Nat} (ha : Own n0 H va xs) (hb : Sl H vb ys) (hn0 : n0 ≤ H.n) (dx : Dig B64 xs) (dy : Dig B64 ys) (tx : trimL xs = xs) (ty : trimL ys = ys) (lx : xs.length ≤ 17592186040000) (ly : ys.length ≤ 17592186040000) (hy : 0 < ys.length) :
    CW Tryd.prog cfgR 53 [va, vb] H (DivideIs n0 H (dv B64 xs) (dv B64 ys)) :=
  divide_one ha hb hn0 dx dy tx ty lx ly hy fun tm t0 t1 h2 hge => divide_rest ha hb hn0 dx dy tx ty lx ly tm t0 t1 h2 hge
end
end Go.Proofs.YthlgggcpokfmaaaDoor

/-
  LISTS OF LIMBS: append; lists that are written out; make with room. Heaps that have grown but for one block.
-/
namespace Go.Proofs.YthlgggcpokfmaaaDoor
open Go Ev
set_option linter.unusedVariables false
set_option linter.unusedSimpArgs false
noncomputable section
set_option maxRecDepth 20000

/-- The same heap, but for one block, and perhaps new ones. -/
structure Mod (b : Option Nat) (H H' : AH) : Prop where
  n : H.n ≤ H'.n
  blk : ∀ j, j < H.n → b ≠ some j → H'.blk j = H.blk j

theorem Mod.refl (b : Option Nat) (H : AH) : Mod b H H := ⟨Nat.le_refl _, fun _ _ _ => rfl⟩
theorem Mod.trans {b : Option Nat} {H H1 H2 : AH} (x : Mod b H H1) (y : Mod b H1 H2) : Mod b H H2 := ⟨Nat.le_trans x.n y.n, fun j hn hj => (y.blk j (Nat.lt_of_lt_of_le hn x.n) hj).trans (x.blk j hn hj)⟩
theorem Keep.mod {H H' : AH} (k : Keep H H') : Mod none H H' := ⟨k.n, fun j hj _ => k.blk j hj⟩
theorem But.mod {b : Option Nat} {H H' : AH} (k : But b H H') : Mod b H H' := ⟨Nat.le_of_eq k.n.symm, k.blk⟩
theorem Mod.any {b : Option Nat} {H H' : AH} (k : Mod none H H') : Mod b H H' := ⟨k.n, fun j hj _ => k.blk j hj (fun e => by cases e)⟩

theorem Sl.mod {b : Option Nat} {H H' : AH} {v : Value} {xs : List Nat} (h : Sl H v xs) (k : Mod b H H') (hb : ∀ c, b = some c → vblk v ≠ some c) : Sl H' v xs := by
  cases h with
  | nil => exact .nil
  | emp b => exact .emp b
  | mk c o cap xs h1 h2 =>
    obtain ⟨h3, cs, h4, h5, h6⟩ := h2
    have e := k.blk c h3 fun e => hb c e rfl
    exact .mk c o cap xs h1 ⟨Nat.lt_of_lt_of_le h3 k.n, cs, by unfold AH.cells; rw [e]; exact h4, by unfold AH.size; rw [e]; exact h5, h6⟩

theorem Own.mod {b : Option Nat} {n0 : Nat} {H H' : AH} {v : Value} {xs : List Nat} (h : Own n0 H v xs) (k : Mod b H H') (hb : ∀ c, b = some c → vblk v ≠ some c) : Own n0 H' v xs := by
  cases h with
  | nil => exact .nil
  | mk c o cap xs cs h1 h2 h3 h4 h5 h6 => exact .mk c o cap xs cs h1 h2 (Nat.lt_of_lt_of_le h3 k.n) (by rw [k.blk c h3 fun e => hb c e rfl]; exact h4) h5 h6

theorem AH.blk_kill (H : AH) (i j : Nat) : (H.kill i).blk j = if j = i then .dead else H.blk j := by
  unfold AH.kill AH.blk
  simp only [Tr.get_set]
  by_cases e : j = i
  · rw [if_pos e, if_pos e]
  · rw [if_neg e, if_neg e]

theorem one_limbs (xs : List Nat) : (xs.map limb).all one = true := by
  rw [List.all_eq_true]
  intro v hv
  obtain ⟨x, _, rfl⟩ := List.mem_map.mp hv
  rfl

theorem Own.append {n0 : Nat} {H : AH} {v w : Value} {xs ys : List Nat} (h : Own n0 H v xs) (hn : n0 ≤ H.n) (hw : Sl H w ys) (hl : xs.length + ys.length ≤ 17592186044416) {t t2 : TypeId} (ht : LT t) (ht2 : LT t2) :
    ∃ v' H', appendV Tryd.prog H t t2 v w = some (v', H') ∧ Own n0 H' v' (xs ++ ys) ∧ Mod (vblk v) H H' ∧ KA n0 H H' := by
  by_cases h0 : ys.length = 0
  · obtain rfl : ys = [] := List.length_eq_zero_iff.mp h0
    refine ⟨v, H, ?_, by simpa using h, .refl _ _, .refl _ _⟩
    have hv : ∃ a l c, v = .slice a l c := by cases h <;> exact ⟨_, _, _, rfl⟩
    obtain ⟨a, l, c, rfl⟩ := hv
    have hwv : ∃ a c, w = .slice a 0 c := by
      generalize hz : ([] : List Nat) = zs at hw
      cases hw with
      | nil => exact ⟨_, _, rfl⟩
      | emp b => exact ⟨_, _, rfl⟩
      | mk b o cap xs h1 h2 => subst hz; exact ⟨_, _, rfl⟩
    obtain ⟨a2, c2, rfl⟩ := hwv
    simp [appendV, ht.2, ht2.2]
  · have hc := hw.cells (by omega)
    obtain ⟨a2, cap2, rfl⟩ : ∃ a cap, w = .slice a ys.length cap := by cases hw <;> exact ⟨_, _, rfl⟩
    have e1 : Nat.beq ys.length 0 = false := beq_false' h0
    cases h with
    | nil =>
      refine ⟨.slice (some ⟨H.n, 0, none⟩) ys.length ys.length, H.new 1 (ys.map limb), ?_, ?_, (Keep.new H 1 _).mod, ?_⟩
      · have e2 : Nat.ble (ys.length * 8) 140737488355328 = true := Nat.ble_eq.mpr (by simp at hl; omega)
        have e3 : Nat.ble ys.length 281474976710656 = true := Nat.ble_eq.mpr (by simp at hl; omega)
        simp [appendV, ht.2, ht2.2, e1, e2, e3, hc, zU64, Value.cells]
      · have := Own.new H ys
        simp only [List.nil_append]
        exact this.mono hn (.refl _)
      · intro H0 k _
        exact k.trans (Keep.new H 1 _)
    | mk b o cap xs cs h1 h2 h3 h4 h5 h6 =>
      have e2 : Nat.ble ((xs.length + ys.length) * 8) 140737488355328 = true := Nat.ble_eq.mpr (by omega)
      have e3 : Nat.ble (xs.length + ys.length) 281474976710656 = true := Nat.ble_eq.mpr (by omega)
      have e4 : Nat.ble (o + xs.length) cs.length = true := Nat.ble_eq.mpr (by omega)
      have e5 : (cs.drop o).take xs.length = xs.map limb := by
        rcases Nat.eq_zero_or_pos xs.length with h | h
        · have : xs = [] := List.length_eq_zero_iff.mp h
          subst this; simp
        · exact (list_of h h6).2
      have eH : (H.kill b).n = H.n := rfl
      refine ⟨.slice (some ⟨H.n, 0, none⟩) (xs ++ ys).length (xs ++ ys).length, (H.kill b).new 1 ((xs ++ ys).map limb), ?_, ?_, ?_, ?_⟩
      · have e6 : Nat.beq 1 1 = true := rfl
        have e7 : ys.all (one ∘ limb) = true := by rw [List.all_eq_true]; intro x _; rfl
        simp [appendV, ht.2, ht2.2, e1, e2, e3, e4, e5, hc, zU64, Value.cells, h4, e7]
      · refine .mk H.n 0 _ _ ((xs ++ ys).map limb) (Nat.le_refl _) hn ?_ ?_ (by simp) (fun i x h => by rw [Nat.zero_add, List.getElem?_map, h]; rfl)
        · show H.n < H.n + 1; omega
        · rw [AH.blk_new, if_pos eH.symm]
      · refine ⟨by show H.n ≤ H.n + 1; omega, fun j hj hb => ?_⟩
        rw [AH.blk_new, if_neg (by rw [eH]; omega), AH.blk_kill, if_neg (by intro e; subst e; exact hb rfl)]
      · intro H0 k hn0
        have := k.n
        refine ⟨by show H0.n ≤ H.n + 1; omega, ?_, fun j hj => ?_⟩
        · have := k.lw
          show min H0.lw H0.n ≤ min H.lw b
          omega
        · rw [AH.blk_new, if_neg (by rw [eH]; omega), AH.blk_kill, if_neg (by omega)]
          exact k.blk j hj

/-- append of something: the result lies in a new block. -/
theorem Own.appendN {n0 : Nat} {H : AH} {v w : Value} {xs ys : List Nat} (h : Own n0 H v xs) (hn : n0 ≤ H.n) (hw : Sl H w ys) (h0 : ¬ ys.length = 0) (hl : xs.length + ys.length ≤ 17592186044416) {t t2 : TypeId} (ht : LT t) (ht2 : LT t2) :
    ∃ v' H', appendV Tryd.prog H t t2 v w = some (v', H') ∧ Own H.n H' v' (xs ++ ys) ∧ Mod (vblk v) H H' ∧ KA n0 H H' := by
  have hc := hw.cells (by omega)
  obtain ⟨a2, cap2, rfl⟩ : ∃ a cap, w = .slice a ys.length cap := by cases hw <;> exact ⟨_, _, rfl⟩
  have e1 : Nat.beq ys.length 0 = false := beq_false' h0
  cases h with
  | nil =>
    refine ⟨.slice (some ⟨H.n, 0, none⟩) ys.length ys.length, H.new 1 (ys.map limb), ?_, ?_, (Keep.new H 1 _).mod, ?_⟩
    · have e2 : Nat.ble (ys.length * 8) 140737488355328 = true := Nat.ble_eq.mpr (by simp at hl; omega)
      have e3 : Nat.ble ys.length 281474976710656 = true := Nat.ble_eq.mpr (by simp at hl; omega)
      simp [appendV, ht.2, ht2.2, e1, e2, e3, hc, zU64, Value.cells]
    · have := Own.new H ys
      simp only [List.nil_append]
      exact this
    · intro H0 k _
      exact k.trans (Keep.new H 1 _)
  | mk b o cap xs cs h1 h2 h3 h4 h5 h6 =>
    have e2 : Nat.ble ((xs.length + ys.length) * 8) 140737488355328 = true := Nat.ble_eq.mpr (by omega)
    have e3 : Nat.ble (xs.length + ys.length) 281474976710656 = true := Nat.ble_eq.mpr (by omega)
    have e4 : Nat.ble (o + xs.length) cs.length = true := Nat.ble_eq.mpr (by omega)
    have e5 : (cs.drop o).take xs.length = xs.map limb := by
      rcases Nat.eq_zero_or_pos xs.length with h | h
      · have : xs = [] := List.length_eq_zero_iff.mp h
        subst this; simp
      · exact (list_of h h6).2
    have eH : (H.kill b).n = H.n := rfl
    refine ⟨.slice (some ⟨H.n, 0, none⟩) (xs ++ ys).length (xs ++ ys).length, (H.kill b).new 1 ((xs ++ ys).map limb), ?_, ?_, ?_, ?_⟩
    · have e6 : Nat.beq 1 1 = true := rfl
      have e7 : ys.all (one ∘ limb) = true := by rw [List.all_eq_true]; intro x _; rfl
      simp [appendV, ht.2, ht2.2, e1, e2, e3, e4, e5, hc, zU64, Value.cells, h4, e7]
    · refine .mk H.n 0 _ _ ((xs ++ ys).map limb) (Nat.le_refl _) (Nat.le_refl _) ?_ ?_ (by simp) (fun i x h => by rw [Nat.zero_add, List.getElem?_map, h]; rfl)
      · show H.n < H.n + 1; omega
      · rw [AH.blk_new, if_pos eH.symm]
    · refine ⟨by show H.n ≤ H.n + 1; omega, fun j hj hb => ?_⟩
      rw [AH.blk_new, if_neg (by rw [eH]; omega), AH.blk_kill, if_neg (by intro e; subst e; exact hb rfl)]
    · intro H0 k hn0
      have := k.n
      refine ⟨by show H0.n ≤ H.n + 1; omega, ?_, fun j hj => ?_⟩
      · have := k.lw
        show min H0.lw H0.n ≤ min H.lw b
        omega
      · rw [AH.blk_new, if_neg (by rw [eH]; omega), AH.blk_kill, if_neg (by omega)]
        exact k.blk j hj

theorem makeCap_own {H : AH} {t : TypeId} (ht : LT t) {n : Nat} (hn : n ≤ 17592186044416) :
    ∃ v H', makeSliceV Tryd.prog H t (.int .i64 0) (.int .i64 (n : Int)) = some (v, H') ∧ Keep H H' ∧ Own H.n H' v [] := by
  refine ⟨.slice (some ⟨H.n, 0, none⟩) 0 n, H.new 1 ((List.replicate n 0).map limb), ?_, .new _ _ _, ?_⟩
  · unfold makeSliceV
    simp only [ht.2, zU64]
    rw [if_pos (by omega)]
    simp only [Int.toNat_natCast, Nat.mul_one, zeros_limb]
    rfl
  · exact .mk H.n 0 n [] ((List.replicate n 0).map limb) (Nat.zero_le _) (Nat.le_refl _) (Nat.lt_succ_self _) (by rw [AH.blk_new, if_pos rfl]) (by simp) (fun i x h => by simp at h)

theorem build1_own (H : AH) {t : TypeId} (ht : LT t) (x : Nat) : buildSliceV Tryd.prog H t 1 [(0, .int .u64 (x : Int))] = some (.slice (some ⟨H.n, 0, none⟩) 1 1, H.new 1 ([x].map limb)) := by
  unfold buildSliceV
  simp only [ht.2, zU64]
  kernel_rfl
theorem build2_own (H : AH) {t : TypeId} (ht : LT t) (x y : Nat) : buildSliceV Tryd.prog H t 2 [(0, .int .u64 (x : Int)), (1, .int .u64 (y : Int))] = some (.slice (some ⟨H.n, 0, none⟩) 2 2, H.new 1 ([x, y].map limb)) := by
  unfold buildSliceV
  simp only [ht.2, zU64]
  kernel_rfl

/-- 'v[:m:m]', the value. -/
def cutTo3 (v : Value) (m : Nat) : Value :=
  match v with
  | .slice (some a) _ _ => .slice (some a) m m
  | v => v

theorem Own.cut3 {n0 : Nat} {H : AH} {v : Value} {xs : List Nat} (h : Own n0 H v xs) {t : TypeId} (ht : LT t) {m : Nat} (hm : m ≤ xs.length) :
    sliceV Tryd.prog H t v none (some (.int .i64 (m : Int))) (some (.int .i64 (m : Int))) = some (cutTo3 v m) ∧ Own n0 H (cutTo3 v m) (xs.take m) ∧ vblk (cutTo3 v m) = vblk v := by
  cases h with
  | nil =>
    simp at hm
    subst hm
    refine ⟨?_, .nil, rfl⟩
    unfold sliceV
    simp only [ht.1, sU64]
    rfl
  | mk b o cap xs cs h1 h2 h3 h4 h5 h6 =>
    have hl : (xs.take m).length = m := by rw [List.length_take]; omega
    have hsz : H.size b = some 1 := by unfold AH.size; rw [h4]
    have ho : Own n0 H (.slice (some ⟨b, o, none⟩) (xs.take m).length m) (xs.take m) := .mk b o m _ cs (by omega) h2 h3 h4 (by omega) fun i x hx => h6 i x (by
      rw [List.getElem?_take] at hx
      split at hx
      · exact hx
      · cases hx)
    rw [hl] at ho
    refine ⟨?_, ho, rfl⟩
    unfold sliceV
    simp only [ht.1, sU64]
    unfold cutV boundV
    simp only [hsz, Option.isSome_some, Option.isNone_none, Bool.true_or]
    rw [if_pos (by omega)]
    have e1 : Nat.ble m m = true := Nat.ble_eq.mpr (Nat.le_refl _)
    simp [boundV, e1, cutTo3]
end
end Go.Proofs.YthlgggcpokfmaaaDoor

/-
  surdref01: norm, Of, Limbs, Is, Len, at. Numbers by digits of 32 bits.
-/
namespace Go.Proofs.YthlgggcpokfmaaaDoor
open Go Ev
set_option linter.unusedVariables false
set_option linter.unusedSimpArgs false
noncomputable section
set_option maxRecDepth 20000

theorem two32 : 2 ≤ b32 := by decide
theorem gtr0 {k : IntKind} {x : Nat} : intBin .gtr k (x : Int) 0 = some (.bool (decide (0 < x))) := gtr_nat (y := 0)
theorem eq0_nat {k : IntKind} {x : Nat} : intBin .eql k (x : Int) 0 = some (.bool (decide (x = 0))) := eql_nat (y := 0)
theorem rem32 {x : Nat} : intBin .rem .u64 (x : Int) 4294967296 = some (.int .u64 ((x % 4294967296 : Nat) : Int)) := rem_u64 (y := 4294967296) (by decide)
theorem quo32 {x : Nat} (hx : x < B64) : intBin .quo .u64 (x : Int) 4294967296 = some (.int .u64 ((x / 4294967296 : Nat) : Int)) := quo_u64 (y := 4294967296) hx (by decide)
theorem quo2 {x : Nat} (hx : x < B64) : intBin .quo .u64 (x : Int) 2 = some (.int .u64 ((x / 2 : Nat) : Int)) := quo_u64 (y := 2) hx (by decide)
theorem mul_i64 {x y : Nat} (h : x * y < 9223372036854775808) : intBin .mul .i64 (x : Int) (y : Int) = some (.int .i64 ((x * y : Nat) : Int)) := by
  show some (Value.int .i64 (IntKind.i64.wrap ((x : Int) * (y : Int)))) = _
  have e : IntKind.i64.wrap ((x : Int) * (y : Int)) = ((x * y : Nat) : Int) := by
    rw [IntKind.wrap_i64, ← Int.natCast_mul]
    generalize x * y = z at *
    omega
  rw [e]
theorem dbl_i64 {x : Nat} (h : 2 * x < 9223372036854775808) : intBin .mul .i64 2 (x : Int) = some (.int .i64 ((2 * x : Nat) : Int)) := mul_i64 (x := 2) h
theorem mul32_i64 {x : Nat} (h : 32 * x < 9223372036854775808) : intBin .mul .i64 32 (x : Int) = some (.int .i64 ((32 * x : Nat) : Int)) := mul_i64 (x := 32) h
theorem add2_i64 {x : Nat} (h : x < 9223372036854775800) : intBin .add .i64 (x : Int) 2 = some (.int .i64 ((x + 2 : Nat) : Int)) := add_i64 (y := 2) (by omega)

/-! ### the numbers -/
def halves : List Nat → List Nat
  | [] => []
  | x :: xs => x % b32 :: x / b32 :: halves xs

theorem halves_snoc (x : Nat) : ∀ (xs : List Nat), halves (xs ++ [x]) = halves xs ++ [x % b32, x / b32]
  | [] => rfl
  | y :: xs => by simp [halves, halves_snoc x xs]
theorem halves_len : ∀ (xs : List Nat), (halves xs).length = 2 * xs.length
  | [] => rfl
  | x :: xs => by simp [halves, halves_len xs]; omega
theorem halves_dv : ∀ (xs : List Nat), dv b32 (halves xs) = dv B64 xs
  | [] => rfl
  | x :: xs => by
    simp only [halves, dv, halves_dv xs]
    have := Nat.mod_add_div x 4294967296
    show x % 4294967296 + 4294967296 * (x / 4294967296 + 4294967296 * dv B64 xs) = x + 18446744073709551616 * dv B64 xs
    omega
theorem halves_dig : ∀ {xs : List Nat}, Dig B64 xs → Dig b32 (halves xs)
  | [], _ => .nil _
  | x :: xs, h => by
    have hx : x < 18446744073709551616 := h.head
    exact .cons (Nat.mod_lt _ (by decide)) (.cons (by show x / 4294967296 < 4294967296; omega) (halves_dig h.tail))

def pairs : List Nat → List Nat
  | [] => []
  | [x] => [x]
  | x :: y :: r => (x + y * b32) :: pairs r

theorem pairs_ds (N : Nat) : pairs (ds b32 N) = ds B64 N := by
  induction N using Nat.strongRecOn with
  | _ N ih =>
    by_cases h0 : N = 0
    · subst h0; rw [ds_zero, ds_zero]; rfl
    · rw [ds_pos two32 h0]
      by_cases h1 : N / b32 = 0
      · have hN : N < 4294967296 := by
          have := div0_lt (by decide) h1
          exact this
        rw [h1, ds_zero, ds_pos two64 h0]
        have e1 : N % b32 = N := Nat.mod_eq_of_lt hN
        have e2 : N % B64 = N := Nat.mod_eq_of_lt (Nat.lt_trans hN (by decide))
        have e3 : N / B64 = 0 := Nat.div_eq_of_lt (Nat.lt_trans hN (by decide))
        rw [e1, e2, e3, ds_zero]; rfl
      · rw [ds_pos two32 h1, ds_pos two64 h0]
        simp only [pairs]
        have e1 : N / b32 / b32 = N / B64 := by rw [Nat.div_div_eq_div_mul, show b32 * b32 = B64 by decide]
        have e2 : N % b32 + N / b32 % b32 * b32 = N % B64 := by
          show N % 4294967296 + N / 4294967296 % 4294967296 * 4294967296 = N % 18446744073709551616
          omega
        rw [e1, e2, ih _ (Nat.div_lt_self (by omega) (by decide))]

theorem pairs_drop {ys : List Nat} {i : Nat} (h : i < ys.length) : pairs (ys.drop i) = (ys[i] + nth ys (i + 1) * b32) :: pairs (ys.drop (i + 2)) := by
  rw [List.drop_eq_getElem_cons h]
  by_cases h1 : i + 1 < ys.length
  · rw [List.drop_eq_getElem_cons h1, nth_get h1]
    simp only [pairs]
  · rw [List.drop_eq_nil_of_le (by omega), nth_out (by omega), List.drop_eq_nil_of_le (by omega)]
    simp [pairs]

theorem pairs_len : ∀ (ys : List Nat), (pairs ys).length ≤ ys.length
  | [] => Nat.le_refl _
  | [x] => Nat.le_refl _
  | x :: y :: r => by simp only [pairs, List.length_cons]; have := pairs_len r; omega

theorem blen_half {x : Nat} (h : 0 < x) : blen x = blen (x / 2) + 1 := by
  rcases Nat.lt_or_ge x 2 with h1 | h1
  · obtain rfl : x = 1 := by omega
    decide
  · have := blen_shift (n := x) (k := 1) h1
    rw [this, Nat.pow_one, Nat.add_comm]

attribute [-simp] Int.natCast_add Int.natCast_mul Int.natCast_ediv Int.natCast_emod Int.natCast_pow
attribute [local simp] strip stripL LW' LR gW evOp oMove oAssign oPick oBinOp oUnOp oConvert oExtract oIndexAddr oIndex oLoad oStore oSlice oMakeSlice oCall oBuildSlice opd opds optOpd plain plain1 Tr.get_set tmOf builtinV binV isShift sameKind undef resultV resOne packV ltNat ltNum ltLst calleeV parts lss_nat unV DW grdOf heapOp LX isStore

theorem norm32_spec {n0 : Nat} {H : AH} {v : Value} {xs : List Nat} (h : Own n0 H v xs) (hlen : xs.length < 1152921504606846976) :
    CW Tryd.prog cfgR 31 [v] H fun v' H' => H' = H ∧ Own n0 H v' (trimL xs) ∧ vblk v' = vblk v := by
  refine CW_intro 22 (by decide) (by decide) Tryd.func31 rfl rfl ?_
  have l0 := h.sl.len ltNum
  apply W_seq; intro b1 hb1
  apply W_region
  simp
  show W _ _ b1 _ _; subst hb1
  apply W_seq; intro b1 hb1
  apply W_region
  simp [l0]
  show W _ _ b1 _ _; subst hb1
  apply W_seq; intro b1 hb1
  apply W_block
  refine W_loopK (fun n s => s.k = 22 ∧ s.H = H ∧ n ≤ xs.length ∧ trimL (xs.take n) = trimL xs ∧ s.tm.get 0 = some v ∧ s.tm.get 3 = some (.int .i64 (n : Int))) ?_ xs.length _ ⟨rfl, rfl, Nat.le_refl _, by rw [List.take_length], by simp, by simp⟩
  rintro n ⟨k, tm, H'⟩ ⟨hk, hH, hn, ht, t0, t3⟩ Q' hQ'
  simp only at hk hH t0 t3
  subst hk; subst hH
  apply W_seq; intro b2 hb2
  apply W_seq; intro b3 hb3
  apply W_region
  have fin : ∀ tm' : Tr Value, tm'.get 0 = some v → tm'.get 3 = some (.int .i64 (n : Int)) → trimL (xs.take n) = xs.take n → Q' (.exit 0) ⟨22, tm', H'⟩ := fun tm' t0 t3 he => by
    apply hQ'
    left
    refine ⟨rfl, ?_⟩
    show W _ _ b1 _ _; subst hb1
    obtain ⟨c1, c2, c3⟩ := h.cut3 ltNum hn
    apply W_seq; intro b4 hb4
    apply W_region
    simp [t0, t3, c1]
    show W _ _ b4 _ _; subst hb4
    apply W_ret
    simp
    rw [← ht, he]
    exact ⟨c2, c3⟩
  by_cases hz : n = 0
  · subst hz
    simp [t3]
    show W _ _ b3 _ _; subst hb3
    refine W_cond (t := false) (by simp) ?_
    apply W_exit
    exact fin _ (by simp [t0]) (by simp [t3]) rfl
  · have hi : n - 1 < xs.length := by omega
    have a1 := h.sl.adr ltNum (k := .i64) hi
    have d1 := h.sl.load hi
    have htake : xs.take n = xs.take (n - 1) ++ [xs[n - 1]] := by
      have := take_snoc hi
      rwa [show n - 1 + 1 = n by omega] at this
    have hn0 : 0 < n := by omega
    simp [t3, t0, gtr0, hn0, sub1_i64 (x := n) (by omega) hn0, a1, d1, eq0_nat]
    show W _ _ b3 _ _; subst hb3
    by_cases h0 : xs[n - 1] = 0
    · refine W_cond (t := true) (by simp [h0]) ?_
      apply W_skip
      show W _ _ b2 _ _; subst hb2
      apply W_block
      apply W_region
      simp [t3, sub1_i64 (x := n) (by omega) hn0]
      apply hQ'
      refine ⟨n - 1, by omega, rfl, rfl, by show n - 1 ≤ _; omega, ?_, by simp [t0], by simp⟩
      rw [← ht, htake, h0, trimL_snoc0]
    · refine W_cond (t := false) (by simp [h0]) ?_
      apply W_exit
      exact fin _ (by simp [t0]) (by simp [t3]) (by rw [htake]; exact trimL_snoc _ _ h0)

theorem of_spec {H : AH} {v : Value} {xs : List Nat} (h : Sl H v xs) (dx : Dig B64 xs) (hlen : xs.length ≤ 8000000000000) :
    CW Tryd.prog cfgR 23 [v] H fun v' H' => Keep H H' ∧ Own H.n H' v' (ds b32 (dv B64 xs)) := by
  refine CW_intro 26 (by decide) (by decide) Tryd.func23 rfl rfl ?_
  have l0 := h.len ltLst
  obtain ⟨a0, H1, hmk, k1, o1⟩ := makeCap_own (H := H) ltNum (n := 2 * xs.length) (by omega)
  apply W_seq; intro b1 hb1
  apply W_region
  simp
  show W _ _ b1 _ _; subst hb1
  apply W_seq; intro b1 hb1
  apply W_region
  simp [l0, dbl_i64 (x := xs.length) (by omega), hmk]
  show W _ _ b1 _ _; subst hb1
  apply W_seq; intro b1 hb1
  apply W_seq; intro b2 hb2
  apply W_region
  simp [l0]
  show W _ _ b2 _ _; subst hb2
  apply W_block
  refine W_loopK (fun m s' => s'.k = 26 ∧ Keep H s'.H ∧ ∃ (i : Nat) (a : Value), m + i = xs.length ∧ Own H.n s'.H a (halves (xs.take i)) ∧ s'.tm.get 3 = some a ∧ s'.tm.get 10 = some v ∧ s'.tm.get 11 = some (.int .i64 (xs.length : Int)) ∧ s'.tm.get 12 = some (.int .i64 (i : Int))) ?_ xs.length _
    ⟨rfl, k1, 0, a0, by omega, o1, by simp, by simp, by simp, by simp⟩
  rintro m ⟨k, tm, H2⟩ ⟨hk, kH, i, a, hmi, own, t3, t10, t11, t12⟩ Q' hQ'
  simp only at hk kH own t3 t10 t11 t12
  subst hk
  apply W_seq; intro b3 hb3
  apply W_region
  simp [t11, t12]
  show W _ _ b3 _ _; subst hb3
  apply W_seq; intro b3 hb3
  by_cases hi : i < xs.length
  · refine W_cond (t := true) (by simp [hi]) ?_
    apply W_skip
    show W _ _ b3 _ _; subst hb3
    have s2 := h.keep kH
    have a1 := s2.adr ltLst (k := .i64) hi
    have d1 := s2.load hi
    have hx : xs[i] < B64 := dx.get (List.getElem?_eq_getElem hi)
    obtain ⟨x, hxe⟩ : ∃ x, x = xs[i] := ⟨_, rfl⟩
    rw [← hxe] at d1 hx
    have hb := build2_own H2 ltNum (x % 4294967296) (x / 4294967296)
    have kn := Keep.new H2 1 ([x % 4294967296, x / 4294967296].map limb)
    have ow := Own.new H2 [x % 4294967296, x / 4294967296]
    obtain ⟨v', H4, hap, own4, mod4, ka4⟩ := (own.mono (Nat.le_refl _) kn).append (Nat.le_trans kH.n kn.n) ow.sl (by rw [halves_len, List.length_take]; simp; omega) ltNum ltNum
    apply W_seq; intro b3 hb3
    apply W_block
    apply W_seq; intro b4 hb4
    apply W_region
    simp [t10, t12, a1, d1]
    show W _ _ b4 _ _; subst hb4
    apply W_region
    simp [t3, rem32, quo32 hx, hb]
    simp at hap
    simp [hap]
    show W _ _ b3 _ _; subst hb3
    apply W_region
    simp [t12, add1_i64 (x := i) (by omega)]
    apply hQ'
    refine ⟨m - 1, by omega, rfl, ka4 H (kH.trans kn) (Nat.le_refl _), i + 1, v', by omega, ?_, by simp, by simp [t10], by simp [t11], by simp⟩
    rw [take_snoc hi, halves_snoc, ← hxe]
    exact own4
  · refine W_cond (t := false) (by simp [hi]) ?_
    apply W_exit
    apply hQ'
    left
    refine ⟨rfl, ?_⟩
    obtain rfl : i = xs.length := by omega
    rw [List.take_length] at own
    obtain ⟨v5, H5, hc5, e5, o5, _⟩ := norm32_spec own (by rw [halves_len]; omega)
    subst e5
    rw [trimL_ds two32 (halves_dig dx), halves_dv] at o5
    show W _ _ b1 _ _; subst hb1
    apply W_seq; intro b4 hb4
    apply W_region
    simp [t3, hc5]
    show W _ _ b4 _ _; subst hb4
    apply W_ret
    simp
    exact ⟨kH, o5⟩
end
end Go.Proofs.YthlgggcpokfmaaaDoor

/-
  surdref01: Limbs, Is, Len, at, Zero.
-/
namespace Go.Proofs.YthlgggcpokfmaaaDoor
open Go Ev
set_option linter.unusedVariables false
set_option linter.unusedSimpArgs false
noncomputable section
set_option maxRecDepth 20000

theorem b32_lt {x : Nat} (h : x < b32) : x < B64 := Nat.lt_trans h (by decide)
theorem Dig.to64 {xs : List Nat} (h : Dig b32 xs) : Dig B64 xs := fun x hx => b32_lt (h x hx)

attribute [-simp] Int.natCast_add Int.natCast_mul Int.natCast_ediv Int.natCast_emod Int.natCast_pow
attribute [local simp] strip stripL LW' LR gW evOp oMove oAssign oPick oBinOp oUnOp oConvert oExtract oIndexAddr oIndex oLoad oStore oSlice oMakeSlice oCall oBuildSlice opd opds optOpd plain plain1 Tr.get_set tmOf builtinV binV isShift sameKind undef resultV resOne packV ltNat ltNum ltLst calleeV parts lss_nat unV DW grdOf heapOp LX isStore



theorem zero_spec {H : AH} {v : Value} {ys : List Nat} (h : Sl H v ys) :
    CW Tryd.prog cfgR 24 [v] H fun v' H' => H' = H ∧ v' = .bool (decide (ys.length = 0)) := by
  refine CW_intro 6 (by decide) (by decide) Tryd.func24 rfl rfl ?_
  have l1 := h.len ltNum
  apply W_seq; intro b1 hb1
  apply W_region
  simp
  show W _ _ b1 _ _; subst hb1
  apply W_seq; intro b1 hb1
  apply W_region
  simp [l1, eq0_nat]
  show W _ _ b1 _ _; subst hb1
  apply W_ret
  simp

theorem at_spec {H : AH} {v : Value} {ys : List Nat} (h : Sl H v ys) (i : Nat) :
    CW Tryd.prog cfgR 42 [v, .int .i64 (i : Int)] H fun v' H' => H' = H ∧ v' = .int .u64 (nth ys i : Int) := by
  refine CW_intro 13 (by decide) (by decide) Tryd.func42 rfl rfl ?_
  have l1 := h.len ltNum
  apply W_seq; intro b1 hb1
  apply W_region
  simp
  show W _ _ b1 _ _; subst hb1
  apply W_seq; intro b1 hb1
  apply W_seq; intro b2 hb2
  apply W_region
  simp [l1]
  show W _ _ b2 _ _; subst hb2
  by_cases hi : i < ys.length
  · refine W_cond (t := true) (by simp [hi]) ?_
    have a1 := h.adr ltNum (k := .i64) hi
    have d1 := h.load hi
    apply W_seq; intro b2 hb2
    apply W_region
    simp [a1, d1]
    show W _ _ b2 _ _; subst hb2
    apply W_ret
    simp [seqQ, nth_get hi]
  · refine W_cond (t := false) (by simp [hi]) ?_
    apply W_skip
    show W _ _ b1 _ _; subst hb1
    apply W_seq; intro b2 hb2
    apply W_region
    simp
    show W _ _ b2 _ _; subst hb2
    apply W_ret
    simp [nth_out (Nat.le_of_not_lt hi)]

theorem at_call {H : AH} {v : Value} {ys : List Nat} (h : Sl H v ys) (i : Nat) : callI Tryd.prog cfgR 42 [v, .int .i64 (i : Int)] H = some (.int .u64 (nth ys i : Int), H) := by
  obtain ⟨_, _, hc, rfl, rfl⟩ := at_spec h i
  exact hc
end
end Go.Proofs.YthlgggcpokfmaaaDoor
