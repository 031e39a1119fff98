/-
  The engine and the walks that the claim's last text leans on, part 3 of 3: Tc, Td, Reach, Te, Th, Grows, Kept, ArgsA, Tf, Tg.
-/
import Derived.Test.YthlgggcpokfmaaaDoorM2
import Derived.Carry
import Derived.Deep.Slices
import Derived.JoinedCond

/-
  expr: look, by recursion over the tree.
-/
namespace Go.Proofs.YthlgggcpokfmaaaDoor
open Go Ev
set_option linter.unusedVariables false
set_option linter.unusedSimpArgs false
noncomputable section

/-- What lies below a block's number stays, if a cell from it on is written. -/
def KAt (n0 : Nat) (H H1 : AH) : Prop := ∀ H0, Keep H0 H → H0.n ≤ n0 → Keep H0 H1
theorem KAt.refl (n0 : Nat) (H : AH) : KAt n0 H H := fun _ k _ => k
theorem KAt.trans {n0 : Nat} {H H1 H2 : AH} (a : KAt n0 H H1) (b : KAt n0 H1 H2) : KAt n0 H H2 := fun H0 k h => b H0 (a H0 k h) h
theorem Keep.kat {H H' : AH} (k : Keep H H') (n0 : Nat) : KAt n0 H H' := fun H0 k0 _ => k0.trans k

theorem sInt : sizeT Tryd.prog 3 = some 1 := by kernel_rfl

theorem store_cell {H : AH} {t : TypeId} (ht : sizeT Tryd.prog t = some 1) {b sz : Nat} {x y : Value} (h : H.blk b = .rw sz [x]) (hy : y.cells = #[y]) (h1 : one y = true) :
    ∃ H', storeV Tryd.prog H t (.pointer (some ⟨b, 0, none⟩)) y = some H' ∧ H'.blk b = .rw sz [y] ∧ H'.n = H.n ∧ (∀ j, j ≠ b → H'.blk j = H.blk j) ∧ KAt b H H' := by
  refine ⟨{ n := H.n, lw := min H.lw b, t := H.t.set b (.rw sz [y]) }, ?_, ?_, rfl, fun j hj => ?_, fun H0 k hn => ⟨k.n, ?_, fun j hj => ?_⟩⟩
  · unfold storeV
    simp only [ht, hy]
    rw [show Nat.beq (#[y] : Array Value).size 1 = true from rfl, cond_true, AH.write_def, h]
    simp [h1]
    rfl
  · unfold AH.blk; simp only [Tr.get_set, if_true]
  · unfold AH.blk; simp only [Tr.get_set]; rw [if_neg hj]
  · have := k.lw
    show min H0.lw H0.n ≤ min H.lw b
    omega
  · unfold AH.blk; simp only [Tr.get_set]
    rw [if_neg (by omega)]
    exact k.blk j hj

theorem maxN (a b : Nat) : minmaxV true [.int .i64 (a : Int), .int .i64 (b : Int)] = some (.int .i64 ((max a b : Nat) : Int)) := by
  unfold minmaxV
  simp only [sameKind, BEq.rfl, cond_true]
  congr 2
  by_cases h : (a : Int) < b
  · rw [if_pos h]; omega
  · rw [if_neg h]; omega

theorem addN {x y : Nat} (h : x + y < 9223372036854775808) : intBin .add .i64 (x : Int) (y : Int) = some (.int .i64 ((x + y : Nat) : Int)) := by
  show some (Value.int .i64 (IntKind.i64.wrap ((x : Int) + y))) = _
  rw [← Int.natCast_add, wrap_nat h]
theorem add1N {x : Nat} (h : x + 1 < 9223372036854775808) : intBin .add .i64 (x : Int) 1 = some (.int .i64 ((x + 1 : Nat) : Int)) := addN (y := 1) h

theorem zExpr : zeroT Tryd.prog 32 = some (.agg #[.int .i64 0, .bool false, .slice none 0 0, .slice none 0 0, .slice none 0 0]) := by kernel_rfl

theorem Ex.ones {H : AH} {vs : List Value} {t : ET} (h : Ex H vs t) : vs.all one = true := by
  have hs : ∀ {v : Value} {xs : List Nat}, Sl H v xs → one v = true := fun h => by cases h <;> rfl
  cases h with
  | mk h1 h2 h3 =>
    have h4 : ∀ {v : Value} {l : List ET}, Xs H v l → one v = true := fun h => by cases h <;> rfl
    simp only [List.all_cons, List.all_nil, hs h1, hs h2, h4 h3, Bool.and_true]
    rfl

/-- What look answers and leaves. -/
def LookIs (H : AH) (b c : Nat) (t : ET) (v : Value) (H' : AH) : Prop :=
  v = .tuple #[.bool t.allGood, .int .i64 (t.depth : Int)] ∧ KAt b H H' ∧ H.n ≤ H'.n ∧ H'.blk b = .rw 1 [.int .i64 ((c + t.nodes : Nat) : Int)]

attribute [-simp] Int.natCast_add Int.natCast_mul Int.natCast_ediv Int.natCast_emod Int.natCast_pow
attribute [local simp] strip stripL LW' LR gW evOp oMove oAssign oPick oBinOp oUnOp oConvert oExtract oIndexAddr oIndex oLoad oStore oField oFieldAddr oSlice oMakeSlice oBuildSlice oBuild oAlloc oBox oNilCheck oCall opd opds optOpd plain plain1 Tr.get_set tmOf builtinV binV isShift sameKind undef resultV resOne packV ltNat calleeV parts unV DW grdOf heapOp LX isStore

theorem lssN {k : IntKind} {x y : Nat} : intBin .lss k (x : Int) (y : Int) = some (.bool (decide (x < y))) := by
  show some (Value.bool (decide ((x : Int) < y))) = _
  congr 2
  exact decide_eq_decide.mpr (by omega)
theorem notMost {x : Nat} (h : x ≤ 4611686018427387903) : intBin .gtr .i64 (x : Int) 4611686018427387903 = some (.bool false) := by
  show some (Value.bool (decide ((x : Int) > 4611686018427387903))) = _
  congr 2
  exact decide_eq_false (by omega)

set_option maxRecDepth 20000 in
theorem look_ok : ∀ n (t : ET), t.nodes ≤ n → ∀ (H0 H : AH) (vs : List Value) (b c deep : Nat), Ex H0 vs t → RowsIn H0 → t.wide 1048576 → Keep H0 H → H0.n ≤ b → b < H.n → H.blk b = .rw 1 [.int .i64 (c : Int)] →
    c + t.nodes ≤ 1000000000 → deep + t.nodes ≤ 1000000000 →
    CW Tryd.prog cfgR 26 [.agg vs.toArray, .int .i64 (deep : Int), .pointer (some ⟨b, 0, none⟩), .int .i64 4611686018427387903] H (LookIs H b c t) := by
  intro n
  induction n with
  | zero => intro t h; have := nodes_pos t; omega
  | succ n ih =>
  intro t ht H0 H vs b c deep hE hR hw k0 hb hbn hblk hc hdp
  obtain ⟨op, neg, abs, den, args⟩ := t
  have hEk := hE
  have hlen := hE.len
  have hones := hE.ones
  obtain ⟨wa, wd, da, dd, ws⟩ := hw
  simp only [ET.nodes] at ht hc hdp
  unfold LookIs
  simp only [ET.nodes]
  refine CW_intro 60 (by decide) (by decide) Tryd.func26 rfl rfl ?_
  -- the box
  have kB := Keep.new H 1 vs
  have blkB : (H.new 1 vs).blk H.n = .rw 1 vs := by rw [AH.blk_new, if_pos rfl]
  have blkb : (H.new 1 vs).blk b = .rw 1 [.int .i64 (c : Int)] := by rw [AH.blk_new, if_neg (by omega)]; exact hblk
  have nB : (H.new 1 vs).n = H.n + 1 := rfl
  obtain ⟨HB, hHB⟩ : ∃ HB, HB = H.new 1 vs := ⟨_, rfl⟩
  rw [← hHB] at kB blkB blkb nB
  have cb : HB.cells b = some [.int .i64 (c : Int)] := by unfold AH.cells; rw [blkb]
  have l1 := load_cell aInt (o := 0) cb rfl
  obtain ⟨H2, st2, blk2, n2, oth2, ka2⟩ := store_cell sInt (y := .int .i64 ((c + 1 : Nat) : Int)) blkb rfl rfl
  have cb2 : H2.cells b = some [.int .i64 ((c + 1 : Nat) : Int)] := by unfold AH.cells; rw [blk2]
  have l2 := load_cell aInt (o := 0) cb2 rfl
  have cB2 : H2.cells H.n = some vs := by unfold AH.cells; rw [oth2 H.n (by omega), blkB]
  have l3 := load_expr (o := 0) cB2 (vs := vs) (by rw [List.drop_zero, List.take_of_length_le (by omega)]) hlen
  have k02 : Keep H0 H2 := ka2 H0 (k0.trans kB) hb
  obtain ⟨_, H3, c3, k3, rfl⟩ := shape_spec (hEk.keep k02) (hR.keep k02) da dd wa wd
  obtain ⟨g, hg⟩ : ∃ g : Bool, g = (ET.node op neg abs den args).good := ⟨_, rfl⟩
  rw [← hg] at c3
  have k03 := k02.trans k3
  have cB3 : H3.cells H.n = some vs := by rw [cells_keep k3 (by omega)]; exact cB2
  cases hEk with
  | @mk _ _ va vd vx _ _ _ h1 h2 h3 =>
  have l4 := load_cell aExprs (o := 4) cB3 rfl
  have lx := h3.len
  have la := nodesAll_len args
  have q1 := notMost (x := c + 1) (by omega)
  have q2 := notMost (x := deep) (by omega)
  have blk3 : H3.blk b = .rw 1 [.int .i64 ((c + 1 : Nat) : Int)] := by rw [k3.blk b (by omega)]; exact blk2
  have ka3 : KAt b H H3 := ((kB.kat b).trans ka2).trans (k3.kat b)
  have n3 := k3.n
  apply W_seq; intro d1 hd1
  apply W_region
  simp [Value.cells, ← hHB]
  show W _ _ d1 _ _; subst hd1
  apply W_seq; intro d1 hd1
  apply W_region
  simp [l1, add1N (x := c) (by omega), st2]
  show W _ _ d1 _ _; subst hd1
  apply W_seq; intro d1 hd1
  apply W_seq; intro d2 hd2
  apply W_region
  simp [l2, q1, q2]
  show W _ _ d2 _ _; subst hd2
  refine W_cond (t := false) (by simp) ?_
  apply W_skip
  show W _ _ d1 _ _; subst hd1
  apply W_seq; intro d1 hd1
  apply W_region
  simp only [List.toArray] at c3 l3
  simp [l3, c3]
  show W _ _ d1 _ _; subst hd1
  apply W_seq; intro d1 hd1
  apply W_region
  simp
  show W _ _ d1 _ _; subst hd1
  apply W_seq; intro d1 hd1
  apply W_seq; intro d2 hd2
  apply W_region
  simp [faArgs, l4, lx]
  show W _ _ d2 _ _; subst hd2
  apply W_block
  obtain ⟨m0, hm0⟩ : ∃ m0, m0 = args.length := ⟨_, rfl⟩
  rw [← hm0] at lx la
  refine W_loopK (fun m s' => s'.k = 60 ∧ Keep H0 s'.H ∧ KAt b H s'.H ∧ H3.n ≤ s'.H.n ∧ ∃ (i : Nat) (ok : Bool) (d : Nat), m + i = m0 ∧ ok = (g && goodAll (args.take i)) ∧ d = max 1 (depthAll (args.take i)) ∧ s'.H.blk b = .rw 1 [.int .i64 ((c + 1 + nodesAll (args.take i) : Nat) : Int)] ∧
    s'.tm.get 1 = some (.int .i64 (deep : Int)) ∧ s'.tm.get 2 = some (.pointer (some ⟨b, 0, none⟩)) ∧ s'.tm.get 3 = some (.int .i64 4611686018427387903) ∧ s'.tm.get 10 = some (.bool ok) ∧ s'.tm.get 11 = some (.int .i64 (d : Int)) ∧
    s'.tm.get 34 = some vx ∧ s'.tm.get 35 = some (.int .i64 (m0 : Int)) ∧ s'.tm.get 36 = some (.int .i64 (i : Int))) ?_ m0 _
    ⟨rfl, k03, ka3, Nat.le_refl _, 0, g, 1, by omega, by simp [goodAll], by simp [depthAll], by simpa [nodesAll] using blk3, by simp, by simp, by simp, by simp, by simp, by simp, by simp [hm0], by simp⟩
  rintro m ⟨k, tm, H4⟩ ⟨hk, kH, kaH, hn4, i, ok, d, hmi, hok, hd, blk4, t1, t2, t3, t10, t11, t34, t35, t36⟩ Q' hQ'
  simp only at hk kH kaH hn4 blk4 t1 t2 t3 t10 t11 t34 t35 t36
  subst hk
  apply W_seq; intro d3 hd3
  apply W_region
  simp [t35, t36, lssN]
  show W _ _ d3 _ _; subst hd3
  apply W_seq; intro d3 hd3
  by_cases hi : i < m0
  · refine W_cond (t := true) (by simp [hi]) ?_
    apply W_skip
    show W _ _ d3 _ _; subst hd3
    obtain ⟨x, hx⟩ : ∃ x, args[i]? = some x := ⟨_, List.getElem?_eq_getElem (by omega)⟩
    have htk : args.take (i + 1) = args.take i ++ [x] := by
      rw [List.take_add_one, hx]; rfl
    have hsum : nodesAll (args.take (i + 1)) = nodesAll (args.take i) + x.nodes := by rw [htk, nodesAll_append]; simp [nodesAll]
    have hle : nodesAll (args.take (i + 1)) ≤ nodesAll args := by
      have := nodesAll_append (args.take (i + 1)) (args.drop (i + 1))
      rw [List.take_append_drop] at this
      omega
    have hx3 := h3
    obtain ⟨p, us, ha5, hl5, hE5⟩ : ∃ (p : Value) (us : List Value), indexAddrV Tryd.prog 30 vx (.int .i64 (i : Int)) = some p ∧ loadV Tryd.prog H4 32 p = some (.agg us.toArray) ∧ Ex H0 us x := by
      obtain ⟨p, us, e1, e2, e3⟩ := h3.at hx
      exact ⟨p, us, e1, e2 _ kH, e3⟩
    obtain ⟨H5, st5, k5, blk5, n5⟩ := alloc_store (H := H4) (sz := 1) (zs := [.int .i64 0, .bool false, .slice none 0 0, .slice none 0 0, .slice none 0 0]) sExpr rfl (v := .agg us.toArray) (ws := us) (by simp [Value.cells]) hE5.len hE5.ones
    have c5 : H5.cells H4.n = some us := by unfold AH.cells; rw [blk5]
    have l5 := load_expr (o := 0) c5 (vs := us) (by rw [List.drop_zero, List.take_of_length_le (by rw [hE5.len]; omega)]) hE5.len
    have hb5 : H5.blk b = .rw 1 [.int .i64 ((c + 1 + nodesAll (args.take i) : Nat) : Int)] := by rw [k5.blk b (by omega)]; exact blk4
    have hxn := nodesAll_get hx
    obtain ⟨_, H6, c6, rfl, ka6, n6, blk6⟩ := ih x (by omega) H0 H5 us b (c + 1 + nodesAll (args.take i)) (deep + 1) hE5 hR (wideAll_get ws hx) (kH.trans k5) hb (by omega) hb5 (by omega) (by omega)
    have k06 : Keep H0 H6 := ka6 H0 (kH.trans k5) hb
    have ka06 : KAt b H H6 := (kaH.trans (k5.kat b)).trans ka6
    apply W_seq; intro d3 hd3
    apply W_block
    apply W_seq; intro d4 hd4
    apply W_region
    simp [t34, t36, ha5, hl5, zExpr, Value.cells, st5]
    show W _ _ d4 _ _; subst hd4
    apply W_seq; intro d4 hd4
    apply W_region
    simp [t1, t2, t3, l5, add1N (x := deep) (by omega), c6]
    show W _ _ d4 _ _; subst hd4
    apply W_seq; intro d4 hd4
    apply W_region
    cases ok with
    | true =>
      simp [t10]
      show W _ _ d4 _ _; subst hd4
      have xd := depth_le_nodes _ x (Nat.le_refl _)
      apply W_region
      simp [t11, add1N (x := x.depth) (by omega), maxN]
      show W _ _ d3 _ _; subst hd3
      apply W_region
      simp [t36, add1N (x := i) (by omega)]
      apply hQ'
      refine ⟨m - 1, by omega, rfl, k06, ka06, by simp; omega, i + 1, x.allGood, max d (x.depth + 1), by omega, ?_, ?_, ?_, by simp [t1], by simp [t2], by simp [t3], by simp, by simp, by simp [t34], by simp [t35], by simp⟩
      · rw [htk, goodAll_append, ← Bool.and_assoc, ← hok]; simp [goodAll]
      · rw [htk, depthAll_append, hd]; simp [depthAll, Nat.max_assoc]
      · show H6.blk b = _
        rw [blk6, hsum]
        congr 4
        omega
    | false =>
      simp [t10]
      show W _ _ d4 _ _; subst hd4
      have xd := depth_le_nodes _ x (Nat.le_refl _)
      apply W_region
      simp [t11, add1N (x := x.depth) (by omega), maxN]
      show W _ _ d3 _ _; subst hd3
      apply W_region
      simp [t36, add1N (x := i) (by omega)]
      apply hQ'
      refine ⟨m - 1, by omega, rfl, k06, ka06, by simp; omega, i + 1, false, max d (x.depth + 1), by omega, ?_, ?_, ?_, by simp [t1], by simp [t2], by simp [t3], by simp, by simp, by simp [t34], by simp [t35], by simp⟩
      · rw [htk, goodAll_append, ← Bool.and_assoc, ← hok]; simp
      · rw [htk, depthAll_append, hd]; simp [depthAll, Nat.max_assoc]
      · show H6.blk b = _
        rw [blk6, hsum]
        congr 4
        omega
  · refine W_cond (t := false) (by simp [hi]) ?_
    apply W_exit
    apply hQ'
    left
    refine ⟨rfl, ?_⟩
    obtain rfl : i = m0 := by omega
    rw [List.take_of_length_le (by omega)] at hok hd blk4
    show W _ _ d1 _ _; subst hd1
    apply W_seq; intro d4 hd4
    apply W_region
    simp [t10, t11]
    show W _ _ d4 _ _; subst hd4
    apply W_ret
    simp
    refine ⟨⟨?_, ?_⟩, kaH, by omega, ?_⟩
    · rw [hok, hg]; simp [ET.allGood]
    · rw [hd]; simp [ET.depth]
    · rw [blk4]
      congr 4
      omega
end
end Go.Proofs.YthlgggcpokfmaaaDoor

/-
  expr: Check, Nodes, Depth; bits.Len.
-/
namespace Go.Proofs.YthlgggcpokfmaaaDoor
open Go Ev
set_option linter.unusedVariables false
set_option linter.unusedSimpArgs false
noncomputable section

/-- A tree in the heap, not too great. -/
structure TreeIn (H : AH) (vs : List Value) (t : ET) : Prop where
  ex : Ex H vs t
  rows : RowsIn H
  wide : t.wide 1048576
  nodes : t.nodes ≤ 2000000

theorem TreeIn.keep {H H' : AH} {vs : List Value} {t : ET} (h : TreeIn H vs t) (k : Keep H H') : TreeIn H' vs t := ⟨h.ex.keep k, h.rows.keep k, h.wide, h.nodes⟩

theorem zInt : zeroT Tryd.prog 3 = some (.int .i64 0) := by kernel_rfl

/-- Check's answer. -/
def checkN (t : ET) : Nat := if t.allGood = false then 152 else if 4000 < t.nodes ∨ 200 < t.depth then 151 else 0

/-- The calls of look, over a new count. -/
theorem look_call {H : AH} {vs : List Value} {t : ET} (h : TreeIn H vs t) :
    ∃ H2, storeV Tryd.prog ((H.new 1 vs).new 1 [.int .i64 0]) 3 (.pointer (some ⟨H.n + 1, 0, none⟩)) (.int .i64 0) = some H2 ∧ loadV Tryd.prog H2 32 (.pointer (some ⟨H.n, 0, none⟩)) = some (.agg vs.toArray) ∧
    ∃ H3, callI Tryd.prog cfgR 26 [.agg vs.toArray, .int .i64 1, .pointer (some ⟨H.n + 1, 0, none⟩), .int .i64 4611686018427387903] H2 = some (.tuple #[.bool t.allGood, .int .i64 (t.depth : Int)], H3) ∧ Keep H H3 ∧
    loadV Tryd.prog H3 3 (.pointer (some ⟨H.n + 1, 0, none⟩)) = some (.int .i64 (t.nodes : Int)) := by
  have kB := Keep.new H 1 vs
  have blkB : (H.new 1 vs).blk H.n = .rw 1 vs := by rw [AH.blk_new, if_pos rfl]
  have nB : (H.new 1 vs).n = H.n + 1 := rfl
  obtain ⟨HB, hHB⟩ : ∃ HB, HB = H.new 1 vs := ⟨_, rfl⟩
  rw [← hHB] at kB blkB nB ⊢
  obtain ⟨H2, st2, k2, blk2, n2⟩ := alloc_store (H := HB) (sz := 1) (zs := [.int .i64 0]) sInt rfl (v := .int .i64 0) (ws := [.int .i64 0]) rfl rfl rfl
  rw [nB] at st2 blk2
  have cB2 : H2.cells H.n = some vs := by rw [cells_keep k2 (by omega)]; unfold AH.cells; rw [blkB]
  have l2 := load_expr (o := 0) cB2 (vs := vs) (by rw [List.drop_zero, List.take_of_length_le (by rw [h.ex.len]; omega)]) h.ex.len
  obtain ⟨_, H3, c3, rfl, ka3, n3, blk3⟩ := look_ok _ t (Nat.le_refl _) H H2 vs (H.n + 1) 0 1 h.ex h.rows h.wide (kB.trans k2) (Nat.le_succ _) (by omega) blk2 (by have := h.nodes; omega) (by have := h.nodes; omega)
  rw [Nat.zero_add] at blk3
  have c3 : callI Tryd.prog cfgR 26 [.agg vs.toArray, .int .i64 1, .pointer (some ⟨H.n + 1, 0, none⟩), .int .i64 4611686018427387903] H2 = some (.tuple #[.bool t.allGood, .int .i64 (t.depth : Int)], H3) := c3
  refine ⟨H2, st2, l2, H3, c3, ka3 H (kB.trans k2) (Nat.le_succ _), load_cell aInt (cs := [.int .i64 (t.nodes : Int)]) ?_ rfl⟩
  unfold AH.cells; rw [blk3]

attribute [-simp] Int.natCast_add Int.natCast_mul Int.natCast_ediv Int.natCast_emod Int.natCast_pow
attribute [local simp] strip stripL LW' LR gW evOp oMove oAssign oPick oBinOp oUnOp oConvert oExtract oIndexAddr oIndex oLoad oStore oField oFieldAddr oSlice oMakeSlice oBuildSlice oBuild oAlloc oBox oNilCheck oCall opd opds optOpd plain plain1 Tr.get_set tmOf builtinV binV isShift sameKind undef resultV resOne packV ltNat calleeV parts unV DW grdOf heapOp LX isStore

section
variable {H : AH} {vs : List Value} {t : ET}

theorem new_n (H : AH) (sz : Nat) (cs : List Value) : (H.new sz cs).n = H.n + 1 := rfl

theorem depth_call (h : TreeIn H vs t) : ∃ H', callI Tryd.prog cfgR 17 [.agg vs.toArray] H = some (.int .i64 (t.depth : Int), H') ∧ Keep H H' := by
  suffices hs : CW Tryd.prog cfgR 17 [.agg vs.toArray] H fun v H' => v = .int .i64 (t.depth : Int) ∧ Keep H H' by
    obtain ⟨_, H', hc, rfl, k⟩ := hs
    exact ⟨H', hc, k⟩
  obtain ⟨H2, st, ld, H3, lc, k3, ln⟩ := look_call h
  refine CW_intro 12 (by decide) (by decide) Tryd.func17 rfl rfl ?_
  apply W_seq; intro b1 hb1
  apply W_region
  simp [Value.cells]
  show W _ _ b1 _ _; subst hb1
  apply W_seq; intro b1 hb1
  apply W_region
  simp [zInt, Value.cells, new_n, st]
  show W _ _ b1 _ _; subst hb1
  apply W_seq; intro b1 hb1
  apply W_region
  simp [ld, lc]
  show W _ _ b1 _ _; subst hb1
  apply W_seq; intro b1 hb1
  apply W_region
  simp
  show W _ _ b1 _ _; subst hb1
  apply W_ret
  simp
  exact k3

theorem nodes_call (h : TreeIn H vs t) : ∃ H', callI Tryd.prog cfgR 16 [.agg vs.toArray] H = some (.int .i64 (t.nodes : Int), H') ∧ Keep H H' := by
  suffices hs : CW Tryd.prog cfgR 16 [.agg vs.toArray] H fun v H' => v = .int .i64 (t.nodes : Int) ∧ Keep H H' by
    obtain ⟨_, H', hc, rfl, k⟩ := hs
    exact ⟨H', hc, k⟩
  obtain ⟨H2, st, ld, H3, lc, k3, ln⟩ := look_call h
  refine CW_intro 7 (by decide) (by decide) Tryd.func16 rfl rfl ?_
  apply W_seq; intro b1 hb1
  apply W_region
  simp [Value.cells]
  show W _ _ b1 _ _; subst hb1
  apply W_seq; intro b1 hb1
  apply W_region
  simp [zInt, Value.cells, new_n, st]
  show W _ _ b1 _ _; subst hb1
  apply W_seq; intro b1 hb1
  apply W_region
  simp [ld, lc]
  show W _ _ b1 _ _; subst hb1
  apply W_seq; intro b1 hb1
  apply W_region
  simp [ln]
  show W _ _ b1 _ _; subst hb1
  apply W_ret
  simp
  exact k3

theorem gtrC {k : IntKind} {x y : Nat} {z : Int} (hz : z = (y : Int)) : intBin .gtr k (x : Int) z = some (.bool (decide (y < x))) := by
  subst hz
  show some (Value.bool (decide ((x : Int) > (y : Int)))) = _
  congr 2
  exact decide_eq_decide.mpr (by omega)

set_option maxRecDepth 20000 in
theorem check_call (h : TreeIn H vs t) : ∃ H', callI Tryd.prog cfgR 13 [.agg vs.toArray] H = some (.int .i64 (checkN t : Int), H') ∧ Keep H H' := by
  suffices hs : CW Tryd.prog cfgR 13 [.agg vs.toArray] H fun v H' => v = .int .i64 (checkN t : Int) ∧ Keep H H' by
    obtain ⟨_, H', hc, rfl, k⟩ := hs
    exact ⟨H', hc, k⟩
  obtain ⟨H2, st, ld, H3, lc, k3, ln⟩ := look_call h
  obtain ⟨C, hC⟩ : ∃ C, C = checkN t := ⟨_, rfl⟩
  rw [← hC]
  unfold checkN at hC
  refine CW_intro 21 (by decide) (by decide) Tryd.func13 rfl rfl ?_
  apply W_seq; intro b1 hb1
  apply W_region
  simp [Value.cells]
  show W _ _ b1 _ _; subst hb1
  apply W_seq; intro b1 hb1
  apply W_region
  simp [zInt, Value.cells, new_n, st]
  show W _ _ b1 _ _; subst hb1
  apply W_seq; intro b1 hb1
  apply W_region
  simp [ld, lc]
  show W _ _ b1 _ _; subst hb1
  apply W_seq; intro b1 hb1
  apply W_block
  apply W_seq; intro b2 hb2
  apply W_region
  simp
  show W _ _ b2 _ _; subst hb2
  obtain ⟨g, hg⟩ : ∃ g, g = t.allGood := ⟨_, rfl⟩
  rw [← hg] at hC ⊢
  cases g with
  | false =>
    rw [if_pos rfl] at hC
    subst hC
    refine W_cond (t := true) (by simp) ?_
    apply W_seq; intro b2 hb2
    apply W_region
    simp
    show W _ _ b2 _ _; subst hb2
    apply W_ret
    simp [seqQ, blockQ]
    exact k3
  | true =>
    rw [if_neg (by decide)] at hC
    refine W_cond (t := false) (by simp) ?_
    have g1 : intBin .gtr .i64 (t.nodes : Int) 4000 = some (.bool (decide (4000 < t.nodes))) := gtrC (y := 4000) rfl
    have g2 : intBin .gtr .i64 (t.depth : Int) 200 = some (.bool (decide (200 < t.depth))) := gtrC (y := 200) rfl
    apply W_seq; intro b2 hb2
    apply W_region
    by_cases h1 : 4000 < t.nodes
    · rw [decide_eq_true h1] at g1
      rw [if_pos (.inl h1)] at hC
      subst hC
      simp [ln, g1]
      show W _ _ b2 _ _; subst hb2
      refine W_cond (t := true) (by simp) ?_
      apply W_seq; intro b2 hb2
      apply W_region
      simp
      show W _ _ b2 _ _; subst hb2
      apply W_ret
      simp [seqQ, blockQ]
      exact k3
    · rw [decide_eq_false h1] at g1
      by_cases h2 : 200 < t.depth
      · rw [decide_eq_true h2] at g2
        rw [if_pos (.inr h2)] at hC
        subst hC
        simp [ln, g1, g2]
        show W _ _ b2 _ _; subst hb2
        refine W_cond (t := true) (by simp) ?_
        apply W_seq; intro b2 hb2
        apply W_region
        simp
        show W _ _ b2 _ _; subst hb2
        apply W_ret
        simp [seqQ, blockQ]
        exact k3
      · rw [decide_eq_false h2] at g2
        rw [if_neg (by omega)] at hC
        subst hC
        simp [ln, g1, g2]
        show W _ _ b2 _ _; subst hb2
        refine W_cond (t := false) (by simp) ?_
        apply W_skip
        show W _ _ b1 _ _; subst hb1
        apply W_seq; intro b2 hb2
        apply W_region
        simp
        show W _ _ b2 _ _; subst hb2
        apply W_ret
        simp
        exact k3

theorem bitsLen_call {x : Nat} (hx : x < B64) : callI Tryd.prog cfgR 15 [.int .u64 (x : Int)] H = some (.int .i64 (blen x : Int), H) := by
  have hc : callI Tryd.prog cfgR 28 [.int .u64 (x : Int)] H = some (.int .i64 (blen x : Int), H) := by
    obtain ⟨_, _, hc, rfl, rfl⟩ := len64_spec hx (H := H)
    exact hc
  suffices hs : CW Tryd.prog cfgR 15 [.int .u64 (x : Int)] H fun v H' => v = .int .i64 (blen x : Int) ∧ H' = H by
    obtain ⟨_, H', hc, rfl, rfl⟩ := hs
    exact hc
  refine CW_intro 8 (by decide) (by decide) Tryd.func15 rfl rfl ?_
  apply W_seq; intro b1 hb1
  apply W_region
  simp
  show W _ _ b1 _ _; subst hb1
  apply W_seq; intro b1 hb1
  refine W_cond (t := false) (by simp) ?_
  apply W_skip
  show W _ _ b1 _ _; subst hb1
  apply W_seq; intro b1 hb1
  apply W_region
  simp [hc]
  show W _ _ b1 _ _; subst hb1
  apply W_ret
  simp
end
end
end Go.Proofs.YthlgggcpokfmaaaDoor

/-
  bound.Reach and surdref17.Reach: the least 64 times a power of 2 that is no less; errors.
-/
namespace Go.Proofs.YthlgggcpokfmaaaDoor
open Go Ev
set_option linter.unusedVariables false
set_option linter.unusedSimpArgs false
noncomputable section

/-- What both Reach answer. -/
def ReachIs (need : Int) (v : Value) : Prop :=
  ((need < 1 ∨ 2097152 < need) ∧ v = .tuple #[.int .i64 0, .int .i64 1]) ∨
  (1 ≤ need ∧ need ≤ 2097152 ∧ ∃ j : Nat, j ≤ 15 ∧ need ≤ ((64 * 2 ^ j : Nat) : Int) ∧ (j = 0 ∨ ((64 * 2 ^ (j - 1) : Nat) : Int) < need) ∧ v = .tuple #[.int .i64 ((64 * 2 ^ j : Nat) : Int), .int .i64 0])

theorem ReachIs.uniq {need : Int} {v v' : Value} (h : ReachIs need v) (h' : ReachIs need v') : v = v' := by
  rcases h with ⟨a, rfl⟩ | ⟨a, b, j, c, d, e, rfl⟩
  · rcases h' with ⟨_, rfl⟩ | ⟨a', b', _⟩
    · rfl
    · omega
  · rcases h' with ⟨a', rfl⟩ | ⟨a', b', j', c', d', e', rfl⟩
    · omega
    · have : j = j' := by
        rcases Nat.lt_trichotomy j j' with h | h | h
        · exfalso
          have : 2 ^ j ≤ 2 ^ (j' - 1) := Nat.pow_le_pow_right (by decide) (by omega)
          rcases e' with e' | e' <;> omega
        · exact h
        · exfalso
          have : 2 ^ j' ≤ 2 ^ (j - 1) := Nat.pow_le_pow_right (by decide) (by omega)
          rcases e with e | e <;> omega
      subst this; rfl

attribute [local simp] strip stripL LW' gW evOp oMove oAssign oPick oBinOp oUnOp oConvert oExtract oIndexAddr oIndex oLoad oStore oSlice oMakeSlice oCall opd opds optOpd plain plain1 Tr.get_set tmOf builtinV binV isShift sameKind intBin undef resultV resOne packV calleeV

theorem reach_spec {need : Int} (lo : -9223372036854775808 ≤ need) (hi : need < 9223372036854775808) {H : AH} :
    CW Tryd.prog cfgR 11 [.int .i64 need] H fun v H' => H' = H ∧ ReachIs need v := by
  refine CW_intro 17 (by decide) (by decide) Tryd.func11 rfl rfl ?_
  apply W_seq; intro b1 hb1
  apply W_region
  simp
  show W _ _ b1 _ _; subst hb1
  apply W_seq; intro b1 hb1
  apply W_seq; intro b2 hb2
  apply W_region
  by_cases h1 : need < 1
  · simp [h1]
    show W _ _ b2 _ _; subst hb2
    refine W_cond (t := true) (by simp) ?_
    apply W_seq; intro b2 hb2
    apply W_region
    simp
    show W _ _ b2 _ _; subst hb2
    apply W_ret
    simp [seqQ]
    exact .inl ⟨.inl h1, rfl⟩
  · by_cases h2 : 2097152 < need
    · simp [h1, h2]
      show W _ _ b2 _ _; subst hb2
      refine W_cond (t := true) (by simp) ?_
      apply W_seq; intro b2 hb2
      apply W_region
      simp
      show W _ _ b2 _ _; subst hb2
      apply W_ret
      simp [seqQ]
      exact .inl ⟨.inr h2, rfl⟩
    · simp [h1, h2]
      show W _ _ b2 _ _; subst hb2
      refine W_cond (t := false) (by simp) ?_
      apply W_skip
      show W _ _ b1 _ _; subst hb1
      apply W_seq; intro b1 hb1
      apply W_region
      simp
      show W _ _ b1 _ _; subst hb1
      apply W_seq; intro b1 hb1
      apply W_block
      refine W_loopK (fun m s' => s'.k = 17 ∧ s'.H = H ∧ ∃ j p : Nat, p = 64 * 2 ^ j ∧ m + j = 15 ∧ (j = 0 ∨ ((64 * 2 ^ (j - 1) : Nat) : Int) < need) ∧ s'.tm.get 0 = some (.int .i64 need) ∧ s'.tm.get 4 = some (.int .i64 (p : Int))) ?_ 15 _
        ⟨rfl, rfl, 0, 64, rfl, rfl, .inl rfl, by simp, by simp⟩
      rintro m ⟨k, tm, H2⟩ ⟨hk, hH, j, p, hp, hm, hj, t0, t4⟩ Q' hQ'
      simp only at hk hH t0 t4
      subst hk; subst hH
      apply W_seq; intro b3 hb3
      apply W_seq; intro b4 hb4
      apply W_region
      simp [t4, t0]
      show W _ _ b4 _ _; subst hb4
      by_cases h : (p : Int) < need
      · have hj15 : j < 15 := by
          rcases Nat.lt_or_ge j 15 with h' | h'
          · exact h'
          · exfalso
            have : 2 ^ 15 ≤ 2 ^ j := Nat.pow_le_pow_right (by decide) h'
            omega
        have hp2 : p * 2 = 64 * 2 ^ (j + 1) := by rw [hp, Nat.pow_succ]; omega
        have hw : IntKind.i64.wrap ((p : Int) * 2) = ((p * 2 : Nat) : Int) := by
          rw [IntKind.wrap_i64]; omega
        refine W_cond (t := true) (by simp; omega) ?_
        apply W_skip
        show W _ _ b3 _ _; subst hb3
        apply W_block
        apply W_region
        simp [t4, t0, hw]
        apply hQ'
        refine ⟨14 - j, by omega, rfl, rfl, j + 1, p * 2, hp2, by omega, .inr (by rw [Nat.add_sub_cancel, ← hp]; exact h), by simp [t0], ?_⟩
        simp
      · refine W_cond (t := false) (by simp; omega) ?_
        apply W_exit
        apply hQ'
        left
        refine ⟨rfl, ?_⟩
        show W _ _ b1 _ _; subst hb1
        apply W_seq; intro b4 hb4
        apply W_region
        simp [t4, t0]
        show W _ _ b4 _ _; subst hb4
        apply W_ret
        simp
        exact .inr ⟨by omega, by omega, j, by omega, by omega, hj, by rw [← hp]⟩
theorem reachRef_spec {need : Int} (lo : -9223372036854775808 ≤ need) (hi : need < 9223372036854775808) {H : AH} :
    CW Tryd.prog cfgR 12 [.int .i64 need] H fun v H' => H' = H ∧ ReachIs need v := by
  refine CW_intro 17 (by decide) (by decide) Tryd.func12 rfl rfl ?_
  apply W_seq; intro b1 hb1
  apply W_region
  simp
  show W _ _ b1 _ _; subst hb1
  apply W_seq; intro b1 hb1
  apply W_seq; intro b2 hb2
  apply W_region
  by_cases h1 : need < 1
  · simp [h1]
    show W _ _ b2 _ _; subst hb2
    refine W_cond (t := true) (by simp) ?_
    apply W_seq; intro b2 hb2
    apply W_region
    simp
    show W _ _ b2 _ _; subst hb2
    apply W_ret
    simp [seqQ]
    exact .inl ⟨.inl h1, rfl⟩
  · by_cases h2 : 2097152 < need
    · simp [h1, h2]
      show W _ _ b2 _ _; subst hb2
      refine W_cond (t := true) (by simp) ?_
      apply W_seq; intro b2 hb2
      apply W_region
      simp
      show W _ _ b2 _ _; subst hb2
      apply W_ret
      simp [seqQ]
      exact .inl ⟨.inr h2, rfl⟩
    · simp [h1, h2]
      show W _ _ b2 _ _; subst hb2
      refine W_cond (t := false) (by simp) ?_
      apply W_skip
      show W _ _ b1 _ _; subst hb1
      apply W_seq; intro b1 hb1
      apply W_region
      simp
      show W _ _ b1 _ _; subst hb1
      apply W_seq; intro b1 hb1
      apply W_block
      refine W_loopK (fun m s' => s'.k = 17 ∧ s'.H = H ∧ ∃ j p : Nat, p = 64 * 2 ^ j ∧ m + j = 15 ∧ (j = 0 ∨ ((64 * 2 ^ (j - 1) : Nat) : Int) < need) ∧ s'.tm.get 0 = some (.int .i64 need) ∧ s'.tm.get 4 = some (.int .i64 (p : Int))) ?_ 15 _
        ⟨rfl, rfl, 0, 64, rfl, rfl, .inl rfl, by simp, by simp⟩
      rintro m ⟨k, tm, H2⟩ ⟨hk, hH, j, p, hp, hm, hj, t0, t4⟩ Q' hQ'
      simp only at hk hH t0 t4
      subst hk; subst hH
      apply W_seq; intro b3 hb3
      apply W_seq; intro b4 hb4
      apply W_region
      simp [t4, t0]
      show W _ _ b4 _ _; subst hb4
      by_cases h : (p : Int) < need
      · have hj15 : j < 15 := by
          rcases Nat.lt_or_ge j 15 with h' | h'
          · exact h'
          · exfalso
            have : 2 ^ 15 ≤ 2 ^ j := Nat.pow_le_pow_right (by decide) h'
            omega
        have hp2 : p * 2 = 64 * 2 ^ (j + 1) := by rw [hp, Nat.pow_succ]; omega
        have hw : IntKind.i64.wrap ((p : Int) * 2) = ((p * 2 : Nat) : Int) := by
          rw [IntKind.wrap_i64]; omega
        refine W_cond (t := true) (by simp; omega) ?_
        apply W_skip
        show W _ _ b3 _ _; subst hb3
        apply W_block
        apply W_region
        simp [t4, t0, hw]
        apply hQ'
        refine ⟨14 - j, by omega, rfl, rfl, j + 1, p * 2, hp2, by omega, .inr (by rw [Nat.add_sub_cancel, ← hp]; exact h), by simp [t0], ?_⟩
        simp
      · refine W_cond (t := false) (by simp; omega) ?_
        apply W_exit
        apply hQ'
        left
        refine ⟨rfl, ?_⟩
        show W _ _ b1 _ _; subst hb1
        apply W_seq; intro b4 hb4
        apply W_region
        simp [t4, t0]
        show W _ _ b4 _ _; subst hb4
        apply W_ret
        simp
        exact .inr ⟨by omega, by omega, j, by omega, by omega, hj, by rw [← hp]⟩

theorem callI_of_run {n : Nat} {C : Cfg} {f : FuncId} {args : List Value} {H : AH} {r : Value × AH} (h : run Tryd.prog C n f args H = some r) : callI Tryd.prog C f args H = some r :=
  call_evI n f args H r h

set_option maxRecDepth 100000 in
theorem lives_runs : saysTrue (run Tryd.prog cfgR 100000 7 [] rowsHeap) = true := by kernel_rfl

theorem lives_call : ∃ H', callI Tryd.prog cfgR 7 [] rowsHeap = some (.bool true, H') := by
  obtain ⟨H', h⟩ := saysTrue_some lives_runs
  exact ⟨H', callI_of_run h⟩

theorem law_spec {need : Int} (lo : -9223372036854775808 ≤ need) (hi : need < 9223372036854775808) :
    CW Tryd.prog cfgR 5 [.int .i64 need] rowsHeap fun v H' => v = .bool true := by
  refine CW_intro 42 (by decide) (by decide) Tryd.func5 rfl rfl ?_
  obtain ⟨v1, H1, hc1, e1, r1⟩ := reach_spec lo hi (H := rowsHeap)
  obtain ⟨v2, H2, hc2, e2, r2⟩ := reachRef_spec lo hi (H := rowsHeap)
  subst e1; subst e2
  obtain rfl := r1.uniq r2
  obtain ⟨H3, hl⟩ := lives_call
  apply W_seq; intro b1 hb1
  apply W_region
  simp
  show W _ _ b1 _ _; subst hb1
  rcases r1 with ⟨a, rfl⟩ | ⟨a, b, j, c, d, e, rfl⟩
  · apply W_seq; intro b1 hb1
    apply W_region
    simp [hc1]
    show W _ _ b1 _ _; subst hb1
    apply W_seq; intro b1 hb1
    apply W_region
    simp [hc2]
    show W _ _ b1 _ _; subst hb1
    apply W_seq; intro b1 hb1
    apply W_region
    simp [hl]
    show W _ _ b1 _ _; subst hb1
    apply W_ret
    simp
  · obtain ⟨p, hp⟩ : ∃ p : Nat, p = 64 * 2 ^ j := ⟨_, rfl⟩
    rw [← hp] at hc1 hc2 d
    have hw : IntKind.i64.wrap (2 * need) = 2 * need := by rw [IntKind.wrap_i64]; omega
    have hlt : ¬ need ≤ 64 → (p : Int) < 2 * need := by
      intro h
      rcases e with e | e
      · subst e; omega
      · by_cases hj : j = 0
        · subst hj; omega
        · have : 2 ^ j = 2 * 2 ^ (j - 1) := by rw [← Nat.pow_succ']; congr 1; omega
          omega
    apply W_seq; intro b1 hb1
    apply W_region
    simp [hc1]
    show W _ _ b1 _ _; subst hb1
    apply W_seq; intro b1 hb1
    apply W_region
    simp [hc2]
    show W _ _ b1 _ _; subst hb1
    apply W_seq; intro b1 hb1
    apply W_region
    by_cases h64 : need ≤ 64
    · simp [hl, h64]
      show W _ _ b1 _ _; subst hb1
      apply W_ret
      simp
    · simp [hl, h64, hw, hlt h64]
      show W _ _ b1 _ _; subst hb1
      apply W_ret
      simp
end
end Go.Proofs.YthlgggcpokfmaaaDoor

/-
  bound: Need; the law's one and lives.
-/
namespace Go.Proofs.YthlgggcpokfmaaaDoor
open Go Ev
set_option linter.unusedVariables false
set_option linter.unusedSimpArgs false
noncomputable section

def inRange (n clear size : Int) : Prop := -1048576 ≤ n ∧ n ≤ 1048576 ∧ 0 ≤ clear ∧ clear ≤ 1048576 ∧ 0 ≤ size ∧ size ≤ 1048576
instance (n clear size : Int) : Decidable (inRange n clear size) := by unfold inRange; exact inferInstance

def needN (t : ET) (n clear size : Nat) : Nat := n + (t.depth + 2) * (2 * clear + 2 * size + 16) + 2 * blen t.nodes + 128

/-- Need's answer. -/
def needA (t : ET) (n clear size : Int) : Nat × Nat :=
  if checkN t ≠ 0 then (0, checkN t) else if inRange n clear size then (needN t n.toNat clear.toNat size.toNat, 0) else (0, 1)
def needV (r : Nat × Nat) : Value := .tuple #[.int .i64 (r.1 : Int), .int .i64 (r.2 : Int)]

theorem mulN {x y : Nat} (h : x * y < 9223372036854775808) : intBin .mul .i64 (x : Int) (y : Int) = some (.int .i64 ((x * y : Nat) : Int)) := by
  show some (Value.int .i64 (IntKind.i64.wrap ((x : Int) * y))) = _
  rw [← Int.natCast_mul, wrap_nat h]
theorem mul2N {x : Nat} (h : 2 * x < 9223372036854775808) : intBin .mul .i64 2 (x : Int) = some (.int .i64 ((2 * x : Nat) : Int)) := mulN (x := 2) h

theorem conv_uint {n : Nat} (h : n < 9223372036854775808) : convV Tryd.prog 3 51 (.int .i64 (n : Int)) = some (.int .u64 (n : Int)) := by
  have e : IntKind.u64.wrap (n : Int) = (n : Int) := by rw [IntKind.wrap_u64]; omega
  unfold convV
  simp only [Tryd.underlying3, Tryd.underlying51, e]

theorem checkN_zero {t : ET} (h : checkN t = 0) : t.allGood = true ∧ t.nodes ≤ 4000 ∧ t.depth ≤ 200 := by
  unfold checkN at h
  split at h
  · exact absurd h (by decide)
  · rename_i h1
    split at h
    · exact absurd h (by decide)
    · rename_i h2
      exact ⟨by simpa using h1, by omega, by omega⟩

theorem checkN_lt (t : ET) : checkN t < 1000 := by
  unfold checkN
  split
  · decide
  · split <;> decide

attribute [-simp] Int.natCast_add Int.natCast_mul Int.natCast_ediv Int.natCast_emod Int.natCast_pow
attribute [local simp] strip stripL LW' LR gW evOp oMove oAssign oPick oBinOp oUnOp oConvert oExtract oIndexAddr oIndex oLoad oStore oField oFieldAddr oSlice oMakeSlice oBuildSlice oBuild oAlloc oBox oNilCheck oCall opd opds optOpd plain plain1 Tr.get_set tmOf builtinV binV isShift sameKind undef resultV resOne packV ltNat calleeV parts unV DW grdOf heapOp LX isStore

section
variable {H : AH} {vs : List Value} {t : ET}

set_option maxRecDepth 20000 in
theorem need_call (h : TreeIn H vs t) (n clear size : Int) : ∃ H', callI Tryd.prog cfgR 8 [.agg vs.toArray, .int .i64 n, .int .i64 clear, .int .i64 size] H = some (needV (needA t n clear size), H') ∧ Keep H H' := by
  suffices hs : CW Tryd.prog cfgR 8 [.agg vs.toArray, .int .i64 n, .int .i64 clear, .int .i64 size] H fun v H' => v = needV (needA t n clear size) ∧ Keep H H' by
    obtain ⟨_, H', hc, rfl, k⟩ := hs
    exact ⟨H', hc, k⟩
  obtain ⟨r, hr⟩ : ∃ r, r = needA t n clear size := ⟨_, rfl⟩
  rw [← hr]
  unfold needA at hr
  unfold needV
  refine CW_intro 60 (by decide) (by decide) Tryd.func8 rfl rfl ?_
  have kB := Keep.new H 1 vs
  have cB := new_cells H 1 vs
  have nB : (H.new 1 vs).n = H.n + 1 := rfl
  obtain ⟨HB, hHB⟩ : ∃ HB, HB = H.new 1 vs := ⟨_, rfl⟩
  rw [← hHB] at kB cB nB
  have lb : ∀ {H'}, Keep HB H' → loadV Tryd.prog H' 32 (.pointer (some ⟨H.n, 0, none⟩)) = some (.agg vs.toArray) := fun k =>
    load_expr (o := 0) ((cells_keep k (by omega)).trans cB) (by rw [List.drop_zero, List.take_of_length_le (by rw [h.ex.len]; omega)]) h.ex.len
  have l1 := lb (.refl HB)
  obtain ⟨H2, c2, k2⟩ := check_call (h.keep kB)
  have l2 := lb k2
  have k02 := kB.trans k2
  apply W_seq; intro b1 hb1
  apply W_region
  simp [Value.cells, ← hHB]
  show W _ _ b1 _ _; subst hb1
  apply W_seq; intro b1 hb1
  apply W_seq; intro b2 hb2
  apply W_region
  simp [l1, c2]
  show W _ _ b2 _ _; subst hb2
  have ck := checkN_lt t
  have e1 : intBin .neq .i64 (checkN t : Int) 0 = some (.bool (decide (checkN t ≠ 0))) := neqN (y := 0)
  obtain ⟨C, hC⟩ : ∃ C, C = checkN t := ⟨_, rfl⟩
  rw [← hC] at hr e1 ck ⊢
  apply W_seq; intro b2 hb2
  apply W_region
  by_cases h0 : C ≠ 0
  · rw [if_pos h0] at hr
    rw [decide_eq_true h0] at e1
    subst hr
    simp [e1]
    show W _ _ b2 _ _; subst hb2
    refine W_cond (t := true) (by simp) ?_
    apply W_seq; intro b2 hb2
    apply W_region
    simp
    show W _ _ b2 _ _; subst hb2
    apply W_ret
    simp [seqQ]
    exact k02
  rw [if_neg h0] at hr
  rw [decide_eq_false h0] at e1
  simp [e1]
  show W _ _ b2 _ _; subst hb2
  refine W_cond (t := false) (by simp) ?_
  apply W_skip
  show W _ _ b1 _ _; subst hb1
  have h0 : C = 0 := by omega
  obtain ⟨_, hnodes, hdepth⟩ := checkN_zero (hC.symm.trans h0)
  apply W_seq; intro b1 hb1
  apply W_seq; intro b2 hb2
  have no : ∀ tm : Tr Value, tm.get 38 = some (.bool true) → ¬ inRange n clear size → W Tryd.prog cfgR b2 ⟨60, tm, H2⟩ (seqQ Tryd.prog cfgR b1 fun ex s => (ex = .norm ∨ ex = .ret) ∧ ∃ vs, resultV Tryd.prog s [.tmp 8, .tmp 9] = some vs ∧ packV vs = .tuple #[.int .i64 (r.1 : Int), .int .i64 (r.2 : Int)] ∧ Keep H s.H) := fun tm ht hno => by
    rw [if_neg hno] at hr
    subst hr
    subst hb2
    refine W_cond (t := true) (by simp [ht]) ?_
    apply W_seq; intro b2 hb2
    apply W_region
    simp
    show W _ _ b2 _ _; subst hb2
    apply W_ret
    simp [seqQ]
    exact k02
  have f1 : intBin .lss .i64 n (-1048576) = some (.bool (decide (n < -1048576))) := rfl
  have f2 : intBin .gtr .i64 n 1048576 = some (.bool (decide (n > 1048576))) := rfl
  have f3 : intBin .lss .i64 clear 0 = some (.bool (decide (clear < 0))) := rfl
  have f4 : intBin .gtr .i64 clear 1048576 = some (.bool (decide (clear > 1048576))) := rfl
  have f5 : intBin .lss .i64 size 0 = some (.bool (decide (size < 0))) := rfl
  have f6 : intBin .gtr .i64 size 1048576 = some (.bool (decide (size > 1048576))) := rfl
  apply W_region
  by_cases g1 : n < -1048576
  · rw [decide_eq_true g1] at f1
    simp [f1]
    show W _ _ b2 _ _
    exact no _ (by simp) (fun h => by unfold inRange at h; omega)
  rw [decide_eq_false g1] at f1
  by_cases g2 : n > 1048576
  · rw [decide_eq_true g2] at f2
    simp [f1, f2]
    show W _ _ b2 _ _
    exact no _ (by simp) (fun h => by unfold inRange at h; omega)
  rw [decide_eq_false g2] at f2
  by_cases g3 : clear < 0
  · rw [decide_eq_true g3] at f3
    simp [f1, f2, f3]
    show W _ _ b2 _ _
    exact no _ (by simp) (fun h => by unfold inRange at h; omega)
  rw [decide_eq_false g3] at f3
  by_cases g4 : clear > 1048576
  · rw [decide_eq_true g4] at f4
    simp [f1, f2, f3, f4]
    show W _ _ b2 _ _
    exact no _ (by simp) (fun h => by unfold inRange at h; omega)
  rw [decide_eq_false g4] at f4
  by_cases g5 : size < 0
  · rw [decide_eq_true g5] at f5
    simp [f1, f2, f3, f4, f5]
    show W _ _ b2 _ _
    exact no _ (by simp) (fun h => by unfold inRange at h; omega)
  rw [decide_eq_false g5] at f5
  by_cases g6 : size > 1048576
  · rw [decide_eq_true g6] at f6
    simp [f1, f2, f3, f4, f5, f6]
    show W _ _ b2 _ _
    exact no _ (by simp) (fun h => by unfold inRange at h; omega)
  rw [decide_eq_false g6] at f6
  clear no
  rw [if_pos (by unfold inRange; omega)] at hr
  obtain ⟨nn, hnn⟩ : ∃ nn, nn = n.toNat := ⟨_, rfl⟩
  obtain ⟨c, rfl⟩ : ∃ c : Nat, clear = (c : Int) := ⟨clear.toNat, by omega⟩
  obtain ⟨s, rfl⟩ : ∃ s : Nat, size = (s : Int) := ⟨size.toNat, by omega⟩
  rw [← hnn, Int.toNat_natCast, Int.toNat_natCast] at hr
  simp [f1, f2, f3, f4, f5, f6]
  show W _ _ b2 _ _; subst hb2
  refine W_cond (t := false) (by simp) ?_
  apply W_skip
  show W _ _ b1 _ _; subst hb1
  obtain ⟨H3, c3, k3⟩ := nodes_call (h.keep k02)
  have l3 := lb (k2.trans k3)
  have k03 := k02.trans k3
  obtain ⟨H4, c4, k4⟩ := depth_call (h.keep k03)
  have c5 := bitsLen_call (H := H3) (x := t.nodes) (by have : B64 = 18446744073709551616 := rfl; omega)
  have bl : blen t.nodes ≤ 64 := by
    have := blen_small (xs := [t.nodes]) (Dig.cons (by have : B64 = 18446744073709551616 := rfl; omega) (.nil _)) (L := 1) (by simp)
    simpa [dv] using this
  have mx : minmaxV true [.int .i64 n, .int .i64 0] = some (.int .i64 (nn : Int)) := by
    unfold minmaxV
    simp only [sameKind, BEq.rfl, cond_true]
    congr 2
    by_cases h : n < 0
    · rw [if_pos h]; omega
    · rw [if_neg h]; omega
  obtain ⟨W1, hW1⟩ : ∃ W1, W1 = 2 * c + 2 * s + 16 := ⟨_, rfl⟩
  obtain ⟨P, hP⟩ : ∃ P, P = (t.depth + 2) * W1 := ⟨_, rfl⟩
  have hPle : P ≤ 202 * W1 := by rw [hP]; exact Nat.mul_le_mul_right _ (by omega)
  have a3 : intBin .add .i64 ((2 * c : Nat) : Int) ((2 * s : Nat) : Int) = some (.int .i64 ((2 * c + 2 * s : Nat) : Int)) := addN (by omega)
  have a4 : intBin .add .i64 ((2 * c + 2 * s : Nat) : Int) 16 = some (.int .i64 (W1 : Int)) := by rw [hW1]; exact addN (y := 16) (by omega)
  have a5 : intBin .add .i64 (t.depth : Int) 2 = some (.int .i64 ((t.depth + 2 : Nat) : Int)) := addN (y := 2) (by omega)
  have m6 : intBin .mul .i64 ((t.depth + 2 : Nat) : Int) (W1 : Int) = some (.int .i64 (P : Int)) := by rw [hP]; exact mulN (by omega)
  have a7 : intBin .add .i64 (nn : Int) (P : Int) = some (.int .i64 ((nn + P : Nat) : Int)) := addN (by omega)
  have a9 : intBin .add .i64 ((nn + P : Nat) : Int) ((2 * blen t.nodes : Nat) : Int) = some (.int .i64 ((nn + P + 2 * blen t.nodes : Nat) : Int)) := addN (by omega)
  have a10 : intBin .add .i64 ((nn + P + 2 * blen t.nodes : Nat) : Int) 128 = some (.int .i64 ((nn + P + 2 * blen t.nodes + 128 : Nat) : Int)) := addN (y := 128) (by omega)
  apply W_seq; intro b1 hb1
  apply W_region
  simp [l2, c3, conv_uint (n := t.nodes) (by omega), c5]
  show W _ _ b1 _ _; subst hb1
  apply W_seq; intro b1 hb1
  apply W_region
  simp [mx, l3, c4, a5, mul2N (x := c) (by omega), mul2N (x := s) (by omega), a3, a4, m6, a7, mul2N (x := blen t.nodes) (by omega), a9, a10]
  show W _ _ b1 _ _; subst hb1
  apply W_ret
  simp
  refine ⟨?_, k03.trans k4⟩
  rw [hr, needN, hP, hW1]
  exact ⟨rfl, rfl⟩
end
end
end Go.Proofs.YthlgggcpokfmaaaDoor

/-
  surdlaw17: one and lives, in any heap.
-/
namespace Go.Proofs.YthlgggcpokfmaaaDoor
open Go Ev
set_option linter.unusedVariables false
set_option linter.unusedSimpArgs false
noncomputable section

theorem store_blk {H : AH} {sz : Nat} {zs ws : List Value} {t : TypeId} {n b : Nat} (ht : sizeT Tryd.prog t = some n) (hb : H.blk b = .rw sz zs) (hz : zs.length = n) {v : Value} (hv : v.cells.toList = ws) (hw : ws.length = n) (h1 : ws.all one = true) :
    ∃ H', storeV Tryd.prog H t (.pointer (some ⟨b, 0, none⟩)) v = some H' ∧ H'.blk b = .rw sz ws ∧ H'.n = H.n ∧ (∀ j, j ≠ b → H'.blk j = H.blk j) ∧ KAt b H H' := by
  have hs : v.cells.size = n := by rw [← hw, ← hv]; simp
  have hle : Nat.ble (0 + ws.length) zs.length = true := Nat.ble_eq.mpr (by omega)
  refine ⟨{ n := H.n, lw := min H.lw b, t := H.t.set b (.rw sz ws) }, ?_, ?_, rfl, fun j hj => ?_, fun H0 k hn => ⟨k.n, ?_, fun j hj => ?_⟩⟩
  · unfold storeV
    simp only [ht, hs, hv]
    rw [show Nat.beq n n = true from by simp, cond_true, AH.write_def, hb]
    simp only [hle, h1, Bool.and_self, cond_true, List.take_zero, List.nil_append]
    rw [List.drop_of_length_le (by omega), List.append_nil]
  · unfold AH.blk; simp only [Tr.get_set, if_true]
  · unfold AH.blk; simp only [Tr.get_set]; rw [if_neg hj]
  · have := k.lw
    show min H0.lw H0.n ≤ min H.lw b
    omega
  · unfold AH.blk; simp only [Tr.get_set]
    rw [if_neg (by omega)]
    exact k.blk j hj

theorem buildNat1 (H : AH) : buildSliceV Tryd.prog H 25 1 [(0, .int .u64 1)] = some (.slice (some ⟨H.n, 0, none⟩) 1 1, H.new 1 [.int .u64 1]) := by
  unfold buildSliceV
  simp only [tNat, zU64]
  kernel_rfl
theorem buildWhole (b : Nat) : buildV Tryd.prog 27 [(1, .slice (some ⟨b, 0, none⟩) 1 1)] = some (.agg #[.bool false, .slice (some ⟨b, 0, none⟩) 1 1]) := by kernel_rfl
theorem buildRatio (b c : Nat) : buildV Tryd.prog 29 [(0, .agg #[.bool false, .slice (some ⟨b, 0, none⟩) 1 1]), (1, .slice (some ⟨c, 0, none⟩) 1 1)] = some (.agg #[.bool false, .slice (some ⟨b, 0, none⟩) 1 1, .slice (some ⟨c, 0, none⟩) 1 1]) := by kernel_rfl
theorem buildOne (b c : Nat) : buildV Tryd.prog 32 [(0, .int .i64 0), (1, .agg #[.bool false, .slice (some ⟨b, 0, none⟩) 1 1, .slice (some ⟨c, 0, none⟩) 1 1])] =
    some (.agg #[.int .i64 0, .bool false, .slice (some ⟨b, 0, none⟩) 1 1, .slice (some ⟨c, 0, none⟩) 1 1, .slice none 0 0]) := by kernel_rfl

def oneT : ET := .node 0 false [1] [1] []

attribute [-simp] Int.natCast_add Int.natCast_mul Int.natCast_ediv Int.natCast_emod Int.natCast_pow
attribute [local simp] strip stripL LW' LR gW evOp oMove oAssign oPick oBinOp oUnOp oConvert oExtract oIndexAddr oIndex oLoad oStore oField oFieldAddr oSlice oMakeSlice oBuildSlice oBuild oAlloc oBox oNilCheck oCall opd opds optOpd plain plain1 Tr.get_set tmOf builtinV binV isShift sameKind undef resultV resOne packV ltNat calleeV parts unV DW grdOf heapOp LX isStore

theorem nnew (H : AH) (sz : Nat) (cs : List Value) : (H.new sz cs).n = H.n + 1 := rfl

set_option maxRecDepth 20000 in
theorem one_call (H : AH) : ∃ vs H', callI Tryd.prog cfgR 14 [] H = some (.agg vs.toArray, H') ∧ Keep H H' ∧ Ex H' vs oneT := by
  suffices hs : CW Tryd.prog cfgR 14 [] H fun v H' => ∃ vs : List Value, v = .agg vs.toArray ∧ Keep H H' ∧ Ex H' vs oneT by
    obtain ⟨_, H', hc, vs, rfl, k⟩ := hs
    exact ⟨vs, H', hc, k⟩
  refine CW_intro 6 (by decide) (by decide) Tryd.func14 rfl rfl ?_
  let zs : List Value := [.int .i64 0, .bool false, .slice none 0 0, .slice none 0 0, .slice none 0 0]
  let ws : List Value := [.int .i64 0, .bool false, .slice (some ⟨H.n + 1, 0, none⟩) 1 1, .slice (some ⟨H.n + 2, 0, none⟩) 1 1, .slice none 0 0]
  obtain ⟨H1, hH1⟩ : ∃ H1, H1 = H.new 1 zs := ⟨_, rfl⟩
  have n1 : H1.n = H.n + 1 := by rw [hH1]; rfl
  obtain ⟨H2, hH2⟩ : ∃ H2, H2 = H1.new 1 [.int .u64 1] := ⟨_, rfl⟩
  have n2 : H2.n = H.n + 2 := by rw [hH2, nnew, n1]
  obtain ⟨H3, hH3⟩ : ∃ H3, H3 = H2.new 1 [.int .u64 1] := ⟨_, rfl⟩
  have k1 : Keep H H1 := by rw [hH1]; exact .new _ _ _
  have k2 : Keep H1 H2 := by rw [hH2]; exact .new _ _ _
  have k3 : Keep H2 H3 := by rw [hH3]; exact .new _ _ _
  have b3 : H3.blk H.n = .rw 1 zs := by rw [k3.blk _ (by omega), k2.blk _ (by omega), hH1, AH.blk_new, if_pos rfl]
  obtain ⟨H4, st4, b4, n4, o4, ka4⟩ := store_blk (H := H3) (b := H.n) (v := .agg ws.toArray) (ws := ws) sExpr b3 rfl rfl rfl rfl
  have k04 : Keep H H4 := ka4 H ((k1.trans k2).trans k3) (Nat.le_refl _)
  have l4 : loadV Tryd.prog H4 32 (.pointer (some ⟨H.n, 0, none⟩)) = some (.agg ws.toArray) := load_expr (cs := ws) (by unfold AH.cells; rw [b4]) rfl rfl
  have c1 := buildNat1 H1
  have c2 := buildNat1 H2
  rw [← hH2, n1] at c1
  rw [← hH3, n2] at c2
  have x1 : Sl H4 (.slice (some ⟨H.n + 1, 0, none⟩) 1 1) [1] := by
    have : H4.blk (H.n + 1) = .rw 1 [.int .u64 1] := by rw [o4 _ (by omega), k3.blk _ (by omega), hH2, AH.blk_new, if_pos n1.symm]
    refine .mk (H.n + 1) 0 1 [1] (Nat.le_refl _) ⟨by have := k3.n; omega, [.int .u64 1], ?_, ?_, fun i x hx => ?_, Nat.zero_le _⟩
    · unfold AH.cells; rw [this]
    · unfold AH.size; rw [this]
    · match i, hx with
      | 0, hx => cases hx; rfl
  have x2 : Sl H4 (.slice (some ⟨H.n + 2, 0, none⟩) 1 1) [1] := by
    have : H4.blk (H.n + 2) = .rw 1 [.int .u64 1] := by rw [o4 _ (by omega), hH3, AH.blk_new, if_pos n2.symm]
    refine .mk (H.n + 2) 0 1 [1] (Nat.le_refl _) ⟨by rw [n4, hH3, nnew]; omega, [.int .u64 1], ?_, ?_, fun i x hx => ?_, Nat.zero_le _⟩
    · unfold AH.cells; rw [this]
    · unfold AH.size; rw [this]
    · match i, hx with
      | 0, hx => cases hx; rfl
  apply W_seq; intro d1 hd1
  apply W_region
  simp [zExpr, Value.cells]
  rw [show H.new 1 [Value.int IntKind.i64 0, Value.bool false, Value.slice none 0 0, Value.slice none 0 0, Value.slice none 0 0] = H1 from hH1.symm]
  show W _ _ d1 _ _; subst hd1
  apply W_seq; intro d1 hd1
  apply W_region
  simp [c1, c2, buildWhole, buildRatio, buildOne]
  rw [show storeV Tryd.prog H3 32 (.pointer (some ⟨H.n, 0, none⟩)) (.agg #[.int .i64 0, .bool false, .slice (some ⟨H.n + 1, 0, none⟩) 1 1, .slice (some ⟨H.n + 2, 0, none⟩) 1 1, .slice none 0 0]) = some H4 from st4]
  simp
  show W _ _ d1 _ _; subst hd1
  apply W_ret
  simp [l4]
  exact ⟨k04, .mk x1 x2 .nil⟩

theorem oneT_need : needA oneT 10 0 1 = (194, 0) := by
  have h1 : checkN oneT = 0 := by
    unfold checkN oneT
    simp [ET.allGood, goodAll, ET.good, ET.nodes, nodesAll, ET.depth, depthAll, arity, dv]
  have h2 : blen 1 = 1 := blen_uniq (by decide) (.inr (by decide))
  unfold needA
  rw [h1, if_neg (by decide), if_pos (by decide)]
  unfold needN oneT
  simp [ET.nodes, nodesAll, ET.depth, depthAll, h2]

theorem reach194 {H : AH} : callI Tryd.prog cfgR 11 [.int .i64 194] H = some (.tuple #[.int .i64 256, .int .i64 0], H) := by
  obtain ⟨v, H', hc, rfl, hr⟩ := reach_spec (need := 194) (by decide) (by decide) (H := H)
  have : ReachIs 194 (.tuple #[.int .i64 256, .int .i64 0]) := .inr ⟨by decide, by decide, 2, by decide, by decide, .inr (by decide), rfl⟩
  rw [hr.uniq this] at hc
  exact hc

set_option maxRecDepth 20000 in
theorem livesAt {H : AH} (hR : RowsIn H) : ∃ H', callI Tryd.prog cfgR 7 [] H = some (.bool true, H') ∧ Keep H H' := by
  suffices hs : CW Tryd.prog cfgR 7 [] H fun v H' => v = .bool true ∧ Keep H H' by
    obtain ⟨_, H', hc, rfl, k⟩ := hs
    exact ⟨H', hc, k⟩
  obtain ⟨vs, H1, c1, k1, e1⟩ := one_call H
  have d1 : Dig B64 [1] := Dig.cons (by decide) (.nil _)
  obtain ⟨H2, c2, k2⟩ := need_call (vs := vs) (t := oneT) ⟨e1, hR.keep k1, ⟨by simp, by simp, d1, d1, trivial⟩, by unfold oneT; simp [ET.nodes, nodesAll]⟩ 10 0 1
  rw [oneT_need] at c2
  have c2 : callI Tryd.prog cfgR 8 [.agg vs.toArray, .int .i64 10, .int .i64 0, .int .i64 1] H1 = some (.tuple #[.int .i64 194, .int .i64 0], H2) := c2
  have c3 := reach194 (H := H2)
  have f1 : intBin .eql .i64 194 194 = some (.bool true) := rfl
  have f2 : intBin .eql .i64 0 0 = some (.bool true) := rfl
  have f3 : intBin .eql .i64 256 256 = some (.bool true) := rfl
  refine CW_intro 28 (by decide) (by decide) Tryd.func7 rfl rfl ?_
  apply W_seq; intro b1 hb1
  apply W_region
  simp
  show W _ _ b1 _ _; subst hb1
  apply W_seq; intro b1 hb1
  apply W_region
  simp [c1, c2]
  show W _ _ b1 _ _; subst hb1
  apply W_seq; intro b1 hb1
  apply W_region
  simp [c3]
  show W _ _ b1 _ _; subst hb1
  apply W_seq; intro b1 hb1
  apply W_region
  simp [f1, f2, f3]
  show W _ _ b1 _ _; subst hb1
  apply W_ret
  simp
  exact k1.trans k2
end
end Go.Proofs.YthlgggcpokfmaaaDoor

/-
  surdlaw17.BoundGrows: the walk.
-/
namespace Go.Proofs.YthlgggcpokfmaaaDoor
open Go Ev
set_option linter.unusedVariables false
set_option linter.unusedSimpArgs false
noncomputable section

theorem faHow0 (b o : Nat) : fieldAddrV Tryd.prog 34 (.pointer (some ⟨b, o, none⟩)) 0 = some (.pointer (some ⟨b, o, none⟩)) := by kernel_rfl
theorem faHow1 (b o : Nat) : fieldAddrV Tryd.prog 34 (.pointer (some ⟨b, o, none⟩)) 1 = some (.pointer (some ⟨b, o + 1, none⟩)) := by kernel_rfl
theorem faHow2 (b o : Nat) : fieldAddrV Tryd.prog 34 (.pointer (some ⟨b, o, none⟩)) 2 = some (.pointer (some ⟨b, o + 2, none⟩)) := by kernel_rfl

theorem sExprs : sliceT Tryd.prog 30 = some (32, 5, 88) := by kernel_rfl

theorem buildArgs (H : AH) (v0 v1 v2 v3 v4 : Value) : buildSliceV Tryd.prog H 30 1 [(0, .agg #[v0, v1, v2, v3, v4])] = some (.slice (some ⟨H.n, 0, none⟩) 1 1, H.new 5 [v0, v1, v2, v3, v4]) := by
  unfold buildSliceV
  simp only [sExprs, zExpr]
  kernel_rfl
theorem buildUp (b : Nat) : buildV Tryd.prog 32 [(0, .int .i64 2), (2, .slice (some ⟨b, 0, none⟩) 1 1)] =
    some (.agg #[.int .i64 2, .bool false, .slice none 0 0, .slice none 0 0, .slice (some ⟨b, 0, none⟩) 1 1]) := by kernel_rfl

/-- A tree around. -/
def upT (t : ET) : ET := .node 2 false [] [] [t]

theorem upT_nodes (t : ET) : (upT t).nodes = t.nodes + 1 := by unfold upT; simp [ET.nodes, nodesAll]; omega
theorem upT_depth (t : ET) : (upT t).depth = t.depth + 1 := by unfold upT; simp [ET.depth, depthAll]

theorem conv_uint_int {n : Nat} (h : n < 9223372036854775808) : convV Tryd.prog 51 3 (.int .u64 (n : Int)) = some (.int .i64 (n : Int)) := by
  have e : IntKind.i64.wrap (n : Int) = (n : Int) := wrap_nat h
  unfold convV
  simp only [Tryd.underlying3, Tryd.underlying51, e]

theorem rem1000 {d : Nat} : intBin .rem .u64 (d : Int) 1000 = some (.int .u64 ((d % 1000 : Nat) : Int)) := by
  show (if (1000 : Int) = 0 then none else some (Value.int .u64 ((d : Int).tmod 1000))) = _
  rw [if_neg (by decide)]
  congr 2

theorem blen_mono' {n m : Nat} (h : n ≤ m) : blen n ≤ blen m := by
  rcases Nat.eq_zero_or_pos n with h0 | h0
  · subst h0; exact Nat.zero_le _
  · have h1 := blen_ge (n := n) (by omega)
    have h2 := blen_lt m
    have := (Nat.pow_lt_pow_iff_right (a := 2) (by decide)).mp (Nat.lt_of_le_of_lt (Nat.le_trans h1 h) h2)
    omega

theorem needA_bad {t : ET} {n c s : Int} (h : (needA t n c s).2 ≠ 0) : (needA t n c s).1 = 0 := by
  unfold needA at h ⊢
  split
  · rfl
  · split
    · rename_i h1 h2; rw [if_neg h1, if_pos h2] at h; exact absurd rfl h
    · rfl
theorem needA_ok {t : ET} {n c s : Int} (h : (needA t n c s).2 = 0) : checkN t = 0 ∧ inRange n c s ∧ (needA t n c s).1 = needN t n.toNat c.toNat s.toNat := by
  unfold needA at h ⊢
  by_cases h1 : checkN t ≠ 0
  · rw [if_pos h1] at h; exact absurd h h1
  · rw [if_neg h1] at h ⊢
    by_cases h2 : inRange n c s
    · rw [if_pos h2]; exact ⟨by omega, h2, rfl⟩
    · rw [if_neg h2] at h; exact absurd h (by decide)
theorem needA_in {t : ET} {n c s : Int} (h1 : checkN t = 0) (h2 : inRange n c s) : needA t n c s = (needN t n.toNat c.toNat s.toNat, 0) := by
  unfold needA
  rw [if_neg (by omega), if_pos h2]
theorem needA_code {t : ET} {n c s : Int} (h2 : inRange n c s) : (needA t n c s).2 = checkN t := by
  unfold needA
  by_cases h : checkN t ≠ 0
  · rw [if_pos h]
  · rw [if_neg h, if_pos h2]; show 0 = _; omega

theorem needN_n (t : ET) (n c s k : Nat) : needN t (n + k) c s = needN t n c s + k := by unfold needN; omega
theorem needN_c (t : ET) (n c s k : Nat) : needN t n c s ≤ needN t n (c + k) s := by
  unfold needN
  have := Nat.mul_le_mul_left (t.depth + 2) (show 2 * c + 2 * s + 16 ≤ 2 * (c + k) + 2 * s + 16 by omega)
  omega
theorem needN_up (t : ET) (n c s : Nat) : needN t n c s < needN (upT t) n c s := by
  unfold needN
  rw [upT_nodes, upT_depth]
  have h1 := blen_mono' (Nat.le_succ t.nodes)
  have h2 : (t.depth + 1 + 2) * (2 * c + 2 * s + 16) = (t.depth + 2) * (2 * c + 2 * s + 16) + (2 * c + 2 * s + 16) := by
    rw [show t.depth + 1 + 2 = (t.depth + 2) + 1 from rfl, Nat.succ_mul]
  rw [h2]
  show _ < n + _ + 2 * blen (Nat.succ t.nodes) + 128
  omega

attribute [-simp] Int.natCast_add Int.natCast_mul Int.natCast_ediv Int.natCast_emod Int.natCast_pow
attribute [local simp] strip stripL LW' LR gW evOp oMove oAssign oPick oBinOp oUnOp oConvert oExtract oIndexAddr oIndex oLoad oStore oField oFieldAddr oSlice oMakeSlice oBuildSlice oBuild oAlloc oBox oNilCheck oCall opd opds optOpd plain plain1 Tr.get_set tmOf builtinV binV isShift sameKind undef resultV resOne packV ltNat calleeV parts unV DW grdOf heapOp LX isStore

theorem eqNN {k : IntKind} {x y : Nat} : intBin .eql k (x : Int) (y : Int) = some (.bool (decide (x = y))) := by
  show some (Value.bool ((x : Int) == (y : Int))) = _
  congr 2
  by_cases h : x = y
  · subst h; simp
  · rw [decide_eq_false h]; simp; omega

set_option maxHeartbeats 1000000 in
set_option maxRecDepth 20000 in
theorem divGrows_spec {H : AH} {vs : List Value} {t : ET} (h : TreeIn H vs t) (hn : t.nodes ≤ 1048577) (n c s : Int) {d : Nat} :
    CW Tryd.prog cfgR 6 [.agg vs.toArray, .agg #[.int .i64 n, .int .i64 c, .int .i64 s], .int .u64 (d : Int)] H fun v H' => Keep H H' ∧ v = .bool true := by
  refine CW_intro 125 (by decide) (by decide) Tryd.func6 rfl rfl ?_
  have k1 := Keep.new H 1 vs
  have c1 := new_cells H 1 vs
  have m1 : (H.new 1 vs).n = H.n + 1 := rfl
  obtain ⟨H1, hH1⟩ : ∃ H1, H1 = H.new 1 vs := ⟨_, rfl⟩
  rw [← hH1] at k1 c1 m1
  have k2 := Keep.new H1 1 [.int .i64 n, .int .i64 c, .int .i64 s]
  have c2 := new_cells H1 1 [.int .i64 n, .int .i64 c, .int .i64 s]
  have m2 : (H1.new 1 [.int .i64 n, .int .i64 c, .int .i64 s]).n = H1.n + 1 := rfl
  obtain ⟨H2, hH2⟩ : ∃ H2, H2 = H1.new 1 [.int .i64 n, .int .i64 c, .int .i64 s] := ⟨_, rfl⟩
  rw [← hH2] at k2 c2 m2
  rw [m1] at c2
  have k02 := k1.trans k2
  have le : ∀ {H'}, Keep H2 H' → loadV Tryd.prog H' 32 (.pointer (some ⟨H.n, 0, none⟩)) = some (.agg vs.toArray) := fun k =>
    load_expr (o := 0) ((cells_keep k (by omega)).trans ((cells_keep k2 (by omega)).trans c1)) (by rw [List.drop_zero, List.take_of_length_le (by rw [h.ex.len]; omega)]) h.ex.len
  have l0 : ∀ {H'}, Keep H2 H' → loadV Tryd.prog H' 3 (.pointer (some ⟨H.n + 1, 0, none⟩)) = some (.int .i64 n) := fun k => load_cell aInt ((cells_keep k (by omega)).trans c2) rfl
  have l1 : ∀ {H'}, Keep H2 H' → loadV Tryd.prog H' 3 (.pointer (some ⟨H.n + 1, 1, none⟩)) = some (.int .i64 c) := fun k => load_cell aInt ((cells_keep k (by omega)).trans c2) rfl
  have l2 : ∀ {H'}, Keep H2 H' → loadV Tryd.prog H' 3 (.pointer (some ⟨H.n + 1, 2, none⟩)) = some (.int .i64 s) := fun k => load_cell aInt ((cells_keep k (by omega)).trans c2) rfl
  have h2 := h.keep k02
  obtain ⟨H3, c3, k3⟩ := need_call h2 n c s
  obtain ⟨a, ha⟩ : ∃ a, a = (needA t n c s).1 := ⟨_, rfl⟩
  obtain ⟨e, he⟩ : ∃ e, e = (needA t n c s).2 := ⟨_, rfl⟩
  have c3 : callI Tryd.prog cfgR 8 [.agg vs.toArray, .int .i64 n, .int .i64 c, .int .i64 s] H2 = some (.tuple #[.int .i64 (a : Int), .int .i64 (e : Int)], H3) := by rw [ha, he]; exact c3
  apply W_seq; intro b1 hb1
  apply W_region
  simp [Value.cells, ← hH1, ← hH2]
  rw [m1]
  show W _ _ b1 _ _; subst hb1
  apply W_seq; intro b1 hb1
  apply W_region
  simp [faHow0, faHow1, faHow2, le (.refl H2), l0 (.refl H2), l1 (.refl H2), l2 (.refl H2), c3]
  show W _ _ b1 _ _; subst hb1
  have e1 : intBin .neq .i64 (e : Int) 0 = some (.bool (decide (e ≠ 0))) := neqN (y := 0)
  have f00 : intBin .eql .i64 0 0 = some (.bool true) := rfl
  apply W_seq; intro b1 hb1
  apply W_seq; intro b2 hb2
  apply W_region
  by_cases h0 : e ≠ 0
  · rw [decide_eq_true h0] at e1
    have ha0 : a = 0 := by rw [ha]; exact needA_bad (by rw [← he]; exact h0)
    subst ha0
    obtain ⟨H4, c4, k4⟩ := livesAt (h2.keep k3).rows
    simp [e1]
    show W _ _ b2 _ _; subst hb2
    refine W_cond (t := true) (by simp) ?_
    apply W_seq; intro b2 hb2
    apply W_region
    simp [f00, c4]
    show W _ _ b2 _ _; subst hb2
    apply W_ret
    simp [seqQ]
    exact (k02.trans k3).trans k4
  rw [decide_eq_false h0] at e1
  simp [e1]
  show W _ _ b2 _ _; subst hb2
  refine W_cond (t := false) (by simp) ?_
  apply W_skip
  show W _ _ b1 _ _; subst hb1
  have h0 : e = 0 := by omega
  rw [h0] at he
  obtain ⟨hck, hin, hneed⟩ := needA_ok he.symm
  rw [← ha] at hneed
  obtain ⟨k, hk⟩ : ∃ k, k = d % 1000 := ⟨_, rfl⟩
  have hk1 : k < 1000 := by omega
  have r1 := rem1000 (d := d)
  rw [← hk] at r1
  have hin' := hin
  unfold inRange at hin'
  obtain ⟨cc, rfl⟩ : ∃ cc : Nat, c = (cc : Int) := ⟨c.toNat, by omega⟩
  obtain ⟨ss, rfl⟩ : ∃ ss : Nat, s = (ss : Int) := ⟨s.toNat, by omega⟩
  rw [Int.toNat_natCast, Int.toNat_natCast] at hneed
  have hsmall : a < 1000000000 := by
    rw [hneed]
    unfold needN
    obtain ⟨_, hn1, hd1⟩ := checkN_zero hck
    have bl : blen t.nodes ≤ 64 := by
      have := blen_small (xs := [t.nodes]) (Dig.cons (by have : B64 = 18446744073709551616 := rfl; omega) (.nil _)) (L := 1) (by simp)
      simpa [dv] using this
    have := Nat.mul_le_mul_right (2 * cc + 2 * ss + 16) (show t.depth + 2 ≤ 202 by omega)
    omega
  have f01 : intBin .neq .i64 0 0 = some (.bool false) := rfl
  apply W_seq; intro b1 hb1
  apply W_region
  simp [r1, conv_uint_int (n := k) (by omega)]
  show W _ _ b1 _ _; subst hb1
  -- with n
  refine W_thenK (fun s' => s'.k = 125 ∧ Keep H2 s'.H ∧ s'.tm.get 3 = some (.pointer (some ⟨H.n, 0, none⟩)) ∧ s'.tm.get 4 = some (.pointer (some ⟨H.n + 1, 0, none⟩)) ∧ s'.tm.get 7 = some (.int .i64 (a : Int)) ∧ s'.tm.get 9 = some (.int .i64 (k : Int))) ?_ ?_
  · intro Q' hQ'
    apply W_seq; intro b2 hb2
    apply W_region
    have g1 : intBin .geq .i64 n 0 = some (.bool (decide (n ≥ 0))) := rfl
    by_cases n0 : n ≥ 0
    · obtain ⟨nn, rfl⟩ : ∃ nn : Nat, n = (nn : Int) := ⟨n.toNat, by omega⟩
      rw [decide_eq_true n0] at g1
      rw [Int.toNat_natCast] at hneed
      have ad : intBin .add .i64 (nn : Int) (k : Int) = some (.int .i64 ((nn + k : Nat) : Int)) := addN (by omega)
      have g2 : intBin .leq .i64 ((nn + k : Nat) : Int) 1048576 = some (.bool (decide (nn + k ≤ 1048576))) := by
        show some (Value.bool (decide (((nn + k : Nat) : Int) ≤ 1048576))) = _
        congr 2
        exact decide_eq_decide.mpr (by omega)
      by_cases n1 : nn + k ≤ 1048576
      · rw [decide_eq_true n1] at g2
        obtain ⟨H4, c4, k4⟩ := need_call (h2.keep k3) ((nn + k : Nat) : Int) cc ss
        rw [needA_in hck (by unfold inRange; omega), Int.toNat_natCast, Int.toNat_natCast, Int.toNat_natCast, needN_n, ← hneed] at c4
        have c4 : callI Tryd.prog cfgR 8 [.agg vs.toArray, .int .i64 ((nn + k : Nat) : Int), .int .i64 (cc : Int), .int .i64 (ss : Int)] H3 = some (.tuple #[.int .i64 ((a + k : Nat) : Int), .int .i64 0], H4) := c4
        have ad2 : intBin .add .i64 (a : Int) (k : Int) = some (.int .i64 ((a + k : Nat) : Int)) := addN (by omega)
        have ne : intBin .neq .i64 ((a + k : Nat) : Int) ((a + k : Nat) : Int) = some (.bool false) := by rw [neqN]; simp
        simp [faHow0, l0 k3, g1, ad, g2]
        show W _ _ b2 _ _; subst hb2
        refine W_cond (t := true) (by simp) ?_
        apply W_seq; intro b2 hb2
        apply W_region
        simp [faHow0, faHow1, faHow2, le k3, l0 k3, l1 k3, l2 k3, ad, c4]
        show W _ _ b2 _ _; subst hb2
        apply W_seq; intro b2 hb2
        apply W_region
        simp [f01, ad2, ne]
        show W _ _ b2 _ _; subst hb2
        refine W_cond (t := false) (by simp) ?_
        apply W_skip
        apply hQ'
        exact ⟨rfl, k3.trans k4, by simp, by simp, by simp, by simp⟩
      · rw [decide_eq_false n1] at g2
        simp [faHow0, l0 k3, g1, ad, g2]
        show W _ _ b2 _ _; subst hb2
        refine W_cond (t := false) (by simp) ?_
        apply W_skip
        apply hQ'
        exact ⟨rfl, k3, by simp, by simp, by simp, by simp⟩
    · rw [decide_eq_false n0] at g1
      simp [faHow0, l0 k3, g1]
      show W _ _ b2 _ _; subst hb2
      refine W_cond (t := false) (by simp) ?_
      apply W_skip
      apply hQ'
      exact ⟨rfl, k3, by simp, by simp, by simp, by simp⟩
  rintro ⟨kk, tm, H3⟩ ⟨hkk, k3, t3, t4, t7, t9⟩
  simp only at hkk k3 t3 t4 t7 t9
  subst hkk
  -- with clear
  refine W_thenK (fun s' => s'.k = 125 ∧ Keep H2 s'.H ∧ s'.tm.get 3 = some (.pointer (some ⟨H.n, 0, none⟩)) ∧ s'.tm.get 4 = some (.pointer (some ⟨H.n + 1, 0, none⟩)) ∧ s'.tm.get 7 = some (.int .i64 (a : Int))) ?_ ?_
  · intro Q' hQ'
    apply W_seq; intro b2 hb2
    apply W_region
    have ad : intBin .add .i64 (cc : Int) (k : Int) = some (.int .i64 ((cc + k : Nat) : Int)) := addN (by omega)
    have g2 : intBin .leq .i64 ((cc + k : Nat) : Int) 1048576 = some (.bool (decide (cc + k ≤ 1048576))) := by
      show some (Value.bool (decide (((cc + k : Nat) : Int) ≤ 1048576))) = _
      congr 2
      exact decide_eq_decide.mpr (by omega)
    by_cases n1 : cc + k ≤ 1048576
    · rw [decide_eq_true n1] at g2
      obtain ⟨H4, c4, k4⟩ := need_call (h2.keep k3) n ((cc + k : Nat) : Int) ss
      rw [needA_in hck (by unfold inRange; omega), Int.toNat_natCast, Int.toNat_natCast] at c4
      obtain ⟨b, hb⟩ : ∃ b, b = needN t n.toNat (cc + k) ss := ⟨_, rfl⟩
      rw [← hb] at c4
      have c4 : callI Tryd.prog cfgR 8 [.agg vs.toArray, .int .i64 n, .int .i64 ((cc + k : Nat) : Int), .int .i64 (ss : Int)] H3 = some (.tuple #[.int .i64 (b : Int), .int .i64 0], H4) := c4
      have hge : a ≤ b := by rw [hneed, hb]; exact needN_c _ _ _ _ _
      have lt : intBin .lss .i64 (b : Int) (a : Int) = some (.bool false) := by rw [lssN, decide_eq_false (by omega)]
      simp [faHow1, t4, t9, l1 k3, ad, g2]
      show W _ _ b2 _ _; subst hb2
      refine W_cond (t := true) (by simp) ?_
      apply W_seq; intro b2 hb2
      apply W_region
      simp [faHow0, faHow1, faHow2, t3, t4, t9, le k3, l0 k3, l1 k3, l2 k3, ad, c4]
      show W _ _ b2 _ _; subst hb2
      apply W_seq; intro b2 hb2
      apply W_region
      simp [f01, t7, lt]
      show W _ _ b2 _ _; subst hb2
      refine W_cond (t := false) (by simp) ?_
      apply W_skip
      apply hQ'
      exact ⟨rfl, k3.trans k4, by simp [t3], by simp [t4], by simp [t7]⟩
    · rw [decide_eq_false n1] at g2
      simp [faHow1, t4, t9, l1 k3, ad, g2]
      show W _ _ b2 _ _; subst hb2
      refine W_cond (t := false) (by simp) ?_
      apply W_skip
      apply hQ'
      exact ⟨rfl, k3, by simp [t3], by simp [t4], by simp [t7]⟩
  clear k3 t3 t4 t7 t9
  rintro ⟨kk, tm, H3⟩ ⟨hkk, k3, t3, t4, t7⟩
  simp only at hkk k3 t3 t4 t7
  subst hkk
  -- the tree around
  have hex := h.ex
  obtain ⟨v0, v1, v2, v3, v4, rfl⟩ : ∃ v0 v1 v2 v3 v4, vs = [v0, v1, v2, v3, v4] := by cases hex; exact ⟨_, _, _, _, _, rfl⟩
  have bs := buildArgs H3 v0 v1 v2 v3 v4
  have k4 := Keep.new H3 5 [v0, v1, v2, v3, v4]
  have c4 := new_cells H3 5 [v0, v1, v2, v3, v4]
  have m4 : (H3.new 5 [v0, v1, v2, v3, v4]).n = H3.n + 1 := rfl
  obtain ⟨H4, hH4⟩ : ∃ H4, H4 = H3.new 5 [v0, v1, v2, v3, v4] := ⟨_, rfl⟩
  rw [← hH4] at bs k4 c4 m4
  obtain ⟨H5, st5, k5, b5, m5⟩ := alloc_store (H := H4) (sz := 1) (zs := [.int .i64 0, .bool false, .slice none 0 0, .slice none 0 0, .slice none 0 0]) sExpr rfl (v := .agg #[.int .i64 2, .bool false, .slice none 0 0, .slice none 0 0, .slice (some ⟨H3.n, 0, none⟩) 1 1])
    (ws := [.int .i64 2, .bool false, .slice none 0 0, .slice none 0 0, .slice (some ⟨H3.n, 0, none⟩) 1 1]) rfl rfl rfl
  have k25 := (k3.trans k4).trans k5
  have lu : ∀ {H'}, Keep H5 H' → loadV Tryd.prog H' 32 (.pointer (some ⟨H4.n, 0, none⟩)) = some (.agg #[.int .i64 2, .bool false, .slice none 0 0, .slice none 0 0, .slice (some ⟨H3.n, 0, none⟩) 1 1]) := fun k =>
    load_expr (o := 0) (vs := [.int .i64 2, .bool false, .slice none 0 0, .slice none 0 0, .slice (some ⟨H3.n, 0, none⟩) 1 1]) ((cells_keep k (by omega)).trans (by unfold AH.cells; rw [b5])) rfl rfl
  have hup : TreeIn H5 [.int .i64 2, .bool false, .slice none 0 0, .slice none 0 0, .slice (some ⟨H3.n, 0, none⟩) 1 1] (upT t) := by
    have h5 := h2.keep k25
    refine ⟨.mk .nil .nil ?_, h5.rows, ⟨Nat.zero_le _, Nat.zero_le _, .nil _, .nil _, h.wide, trivial⟩, by rw [upT_nodes]; omega⟩
    refine Xs.mk (args := [t]) H3.n 0 1 (cs := [v0, v1, v2, v3, v4]) (by omega) ((cells_keep k5 (by omega)).trans c4) (Nat.le_refl _) fun i t' hi => ?_
    match i, hi with
    | 0, hi => cases hi; exact h5.ex
  obtain ⟨H6, c6, k6⟩ := need_call hup n cc ss
  obtain ⟨b, hb⟩ : ∃ b, b = (needA (upT t) n cc ss).1 := ⟨_, rfl⟩
  obtain ⟨q, hq⟩ : ∃ q, q = (needA (upT t) n cc ss).2 := ⟨_, rfl⟩
  have c6 : callI Tryd.prog cfgR 8 [.agg #[.int .i64 2, .bool false, .slice none 0 0, .slice none 0 0, .slice (some ⟨H3.n, 0, none⟩) 1 1], .int .i64 n, .int .i64 (cc : Int), .int .i64 (ss : Int)] H5 = some (.tuple #[.int .i64 (b : Int), .int .i64 (q : Int)], H6) := by rw [hb, hq]; exact c6
  obtain ⟨H7, c7, k7⟩ := check_call (hup.keep k6)
  rw [← needA_code hin, ← hq] at c7
  have c7 : callI Tryd.prog cfgR 13 [.agg #[.int .i64 2, .bool false, .slice none 0 0, .slice none 0 0, .slice (some ⟨H3.n, 0, none⟩) 1 1]] H6 = some (.int .i64 (q : Int), H7) := c7
  obtain ⟨H8, c8, k8⟩ := livesAt ((hup.keep k6).keep k7).rows
  have e7 : intBin .eql .i64 (q : Int) (q : Int) = some (.bool true) := by rw [eqNN]; simp
  have e8 : intBin .neq .i64 (q : Int) 0 = some (.bool (decide (q ≠ 0))) := neqN (y := 0)
  have kEnd : Keep H H8 := (((k02.trans k25).trans k6).trans k7).trans k8
  have le3 := le k3
  have le3 : loadV Tryd.prog H3 32 (.pointer (some ⟨H.n, 0, none⟩)) = some (.agg #[v0, v1, v2, v3, v4]) := le3
  apply W_seq; intro b1 hb1
  apply W_region
  simp [t3, le3, bs, buildUp, zExpr, Value.cells, st5]
  show W _ _ b1 _ _; subst hb1
  apply W_seq; intro b1 hb1
  apply W_region
  simp [faHow0, faHow1, faHow2, t4, lu (.refl H5), l0 k25, l1 k25, l2 k25, c6]
  show W _ _ b1 _ _; subst hb1
  apply W_seq; intro b1 hb1
  apply W_region
  by_cases hq0 : q ≠ 0
  · rw [decide_eq_true hq0] at e8
    simp [lu k6, c7, e7, e8, c8]
    show W _ _ b1 _ _; subst hb1
    apply W_ret
    simp
    exact kEnd
  · rw [decide_eq_false hq0] at e8
    have hgt : a < b := by
      rw [hneed, hb, (needA_ok (t := upT t) (by rw [← hq]; omega)).2.2, Int.toNat_natCast, Int.toNat_natCast]
      exact needN_up _ _ _ _
    have g9 : intBin .gtr .i64 (b : Int) (a : Int) = some (.bool true) := by
      rw [gtrC (y := a) rfl, decide_eq_true hgt]
    simp [lu k6, c7, e7, e8, t7, g9, c8]
    show W _ _ b1 _ _; subst hb1
    apply W_ret
    simp
    exact kEnd
end
end Go.Proofs.YthlgggcpokfmaaaDoor

/-
  ARGUMENTS BEHIND A CALL that wrote nothing that lay there before: each reads as it read.
-/
namespace Go.Proofs.YthlgggcpokfmaaaDoor
open Go.ChangeShapes Go.WideShapes Go.ChangeAt Go.RowKit Go.Proofs.YthlgggcpokfmaaaDoor.Ev
set_option linter.unusedVariables false

theorem laidOut : laidOutB Tryd.prog = true := by kernel_rfl

theorem args_kept {P : Program} (hl : laidOutB P = true) {H : Type} {enc : TypeId × Value → H} {W W' : World} (hb : Below W.heap.size W W') : ∀ (ts : List TypeId) (vs : List Value) (ds : List (DataW H)) (ps : List MemPlace),
    (ts.all fun t => P.readableRec t && decide (t < P.types.size)) = true → DataW.TrodAll enc P W 0 (fun _ => true) true ts vs ds ps → (∀ x ∈ ps, x.block < W.heap.size) →
    DataW.TrodAll enc P W' 0 (fun b => decide (b < W.heap.size)) true ts vs ds ps
  | [], [], [], _, _, h, _ => h
  | t :: ts, v :: vs, d :: ds, _, ht, ⟨p, q, h1, h2, e⟩, hlt => by
    subst e
    rw [List.all_cons, Bool.and_eq_true, Bool.and_eq_true] at ht
    exact ⟨p, q, Below.trod hl ht.1.1 (of_decide_eq_true ht.1.2) h1 hb (fun x hx => hlt x (List.mem_append_left _ hx)),
      args_kept hl hb ts vs ds q ht.2 h2 (fun x hx => hlt x (List.mem_append_right _ hx)), rfl⟩

end Go.Proofs.YthlgggcpokfmaaaDoor

/-
  LISTS OF LIMBS AS ARGUMENTS: what the reading of one says; the abstract heap that holds it (read-only).
-/
namespace Go.Proofs.YthlgggcpokfmaaaDoor
open Go Go.ChangeShapes Go.WideShapes Go.RowKit Go.Proofs.YthlgggcpokfmaaaDoor.Ev
set_option linter.unusedVariables false
noncomputable section

theorem bulk_one {H : Type} (d : DataW H) : 1 ≤ Rows.uptoBulk d := by
  cases d with
  | lit l => cases l <;> simp [Rows.uptoBulk]
  | nil => simp [Rows.uptoBulk]
  | ptr d => simp [Rows.uptoBulk]
  | slice elems spare => simp [Rows.uptoBulk]
  | agg parts => simp [Rows.uptoBulk]
  | iface t d => simp [Rows.uptoBulk]
  | map entries => simp [Rows.uptoBulk]
  | held h => simp [Rows.uptoBulk]

theorem bulk_len {H : Type} (l : List (DataW H)) : l.length ≤ Rows.uptoBulkAll l := by
  induction l with
  | nil => simp [Rows.uptoBulkAll]
  | cons x r ih => have := bulk_one x; simp only [Rows.uptoBulkAll, List.length_cons]; omega

theorem bulk_slice {H : Type} (elems spare : List (DataW H)) : elems.length ≤ Rows.uptoBulk (.slice elems spare) := by
  have h1 := bulk_len elems
  simp only [Rows.uptoBulk]
  omega

theorem bulk_part {H : Type} {d : DataW H} {l : List (DataW H)} (h : d ∈ l) : Rows.uptoBulk d ≤ Rows.uptoBulkAll l := by
  induction l with
  | nil => cases h
  | cons x r ih =>
    simp only [Rows.uptoBulkAll]
    cases List.mem_cons.1 h with
    | inl e => subst e; omega
    | inr e => have := ih e; omega

theorem bulk_bound {H : Type} {l : List (DataW H)} (hk : Rows.uptoSmall H l = true) : Rows.uptoBulkAll l ≤ 1048576 := of_decide_eq_true hk

/-- What lies behind an argument's slice. -/
def ArgIs (W : World) (v : Value) (xs : List Nat) : Prop :=
  (v = .slice none 0 0 ∧ xs = []) ∨ ∃ (a : Addr) (cap : Nat), v = .slice (some a) xs.length cap ∧ xs.length ≤ cap ∧ ∀ (i x : Nat), xs[i]? = some x → W.cell? (a.add i) = some (.int .u64 (x : Int))

theorem cU64 : Tryd.prog.cellsOf 65 = 1 := by kernel_rfl

set_option maxRecDepth 20000 in
theorem open_limbs {H : Type} {enc : TypeId × Value → H} {W : World} {r : Reach} {b0 : Nat} {t : TypeId} {v : Value} {d : DataW H} {ps : List MemPlace} (ht : Tryd.prog.underlying t = some (.slice 65)) (hval : Value.okWide Tryd.prog W r b0 t v)
    (h : DataW.Trod enc Tryd.prog W 0 (fun _ => true) true t v d ps) : ∃ xs, Dig 18446744073709551616 xs ∧ xs.length ≤ Rows.uptoBulk d ∧ ArgIs W v xs := by
  obtain ⟨fuel, hf⟩ := h
  obtain ⟨a, len, cap, rfl⟩ := okWide_slice ht hval
  have hc : (Value.slice a len cap).cells.toList = [.slice a len cap] := rfl
  rw [hc] at hf
  rcases Deep.open_slice1 ht cU64 hf with ⟨h1, h2⟩ | ⟨a', len', cap', m, n, V, D, Pl, h1, _, hl, _, hm, hx, hV⟩
  · cases h1
    exact ⟨[], .nil _, Nat.zero_le _, .inl ⟨rfl, rfl⟩⟩
  · cases h1
    rw [if_pos rfl] at hm
    rw [hm] at hx hV
    have hval : ∀ i, i < cap → ∃ x : Nat, V i = .int .u64 (x : Int) ∧ x < 18446744073709551616 := fun i hi => by
      obtain ⟨n', c', x', w'⟩ := DataW.trod_int Tryd.underlying65 (hV i hi).2
      simp at c'
      simp only [Lit.wf, Bool.and_eq_true, decide_eq_true_eq] at w'
      have e1 : IntKind.u64.min = 0 := by decide
      have e2 : IntKind.u64.max = 18446744073709551615 := by decide
      exact ⟨n'.toNat, by rw [c']; congr 1; omega, by omega⟩
    let f : Nat → Nat := fun i => match V i with | .int _ z => z.toNat | _ => 0
    have hfe : ∀ i, i < cap → V i = .int .u64 ((f i : Nat) : Int) ∧ f i < 18446744073709551616 := fun i hi => by
      obtain ⟨x, h1, h2⟩ := hval i hi
      have : f i = x := by show (match V i with | .int _ z => z.toNat | _ => 0) = x; rw [h1]; simp
      rw [this]; exact ⟨h1, h2⟩
    refine ⟨(List.range len).map f, ?_, ?_, .inr ⟨a', cap, by simp, by simpa using hl, ?_⟩⟩
    · intro x hx
      obtain ⟨i, hi, rfl⟩ := List.mem_map.mp hx
      exact (hfe i (Nat.lt_of_lt_of_le (List.mem_range.mp hi) hl)).2
    · simp only [Prod.mk.injEq] at hx
      rw [hx.1]
      have := bulk_slice ((List.range len).map D) ((List.range (cap - len)).map fun j => D (len + j))
      simpa using this
    · intro i x hi
      rw [List.getElem?_map] at hi
      by_cases hil : i < len
      · rw [List.getElem?_range hil] at hi
        cases hi
        have hic : i < cap := Nat.lt_of_lt_of_le hil hl
        rw [(hV i hic).1, (hfe i hic).1]
      · rw [List.getElem?_eq_none (by simp; omega)] at hi
        cases hi

/-- One argument more in the abstract heap. -/
theorem add_arg {W : World} {S : Nat → Prop} {L : Nat → Ev.Loc} {H : AH} (hI : Inv W.heap.size S L H W) {v : Value} {xs : List Nat} (h : ArgIs W v xs) :
    ∃ (S' : Nat → Prop) (L' : Nat → Ev.Loc) (H' : AH) (v0 : Value), Inv W.heap.size S' L' H' W ∧ (∀ i, S i → S' i) ∧ (∀ i, S i → L' i = L i) ∧ VR S' L' v0 v ∧ Sl H' v0 xs ∧ Keep H H' := by
  rcases h with ⟨rfl, rfl⟩ | ⟨a, cap, rfl, hcap, hc⟩
  · exact ⟨S, L, H, .slice none 0 0, hI, fun _ h => h, fun _ _ => rfl, .nilSlice, .nil, .refl H⟩
  · by_cases h0 : xs.length = 0
    · obtain rfl : xs = [] := List.length_eq_zero_iff.mp h0
      exact ⟨S, L, H, _, hI, fun _ h => h, fun _ _ => rfl, .emp 0 a cap, .emp 0, .refl H⟩
    · have hx0 := hc 0 xs[0] (List.getElem?_eq_getElem (by omega))
      have ea : a.add 0 = a := rfl
      rw [ea] at hx0
      have hspot : a.spot = none := by
        unfold World.cell? at hx0
        cases hs : a.spot with
        | none => rfl
        | some q =>
          rw [hs] at hx0
          split at hx0
          · simp at hx0
          · cases hx0
      have hblk : a.block < W.heap.size := World.block_lt_of_cell? W a hx0
      have hadd : ∀ k, a.add k = ⟨a.block, a.off + k, none⟩ := fun k => by
        unfold Addr.add
        by_cases hk : k = 0
        · subst hk; rw [if_pos rfl]
          cases a with
          | mk b o s => simp at hspot; subst hspot; rfl
        · rw [if_neg hk]
      have hn : ∀ i, S i → i ≠ H.n := fun i hi e => by have := hI.bd i hi; omega
      let L' : Nat → Ev.Loc := fun i => if i = H.n then ⟨a.block, a.off, 1, a.off + cap⟩ else L i
      let S' : Nat → Prop := fun i => i = H.n ∨ S i
      have hL : ∀ i, S i → L' i = L i := fun i hi => if_neg (hn i hi)
      have hLn : L' H.n = ⟨a.block, a.off, 1, a.off + cap⟩ := if_pos rfl
      let H' : AH := { n := H.n + 1, lw := H.lw, t := H.t.set H.n (.ro 1 (xs.map fun x : Nat => Value.int .u64 (x : Int))) }
      have hb : ∀ j, H'.blk j = if j = H.n then .ro 1 (xs.map fun x : Nat => Value.int .u64 (x : Int)) else H.blk j := fun j => by
        show (match (H.t.set H.n _).get j with | some b => b | none => Blk.dead) = _
        rw [Tr.get_set]
        by_cases e : j = H.n
        · rw [if_pos e, if_pos e]
        · rw [if_neg e, if_neg e]; rfl
      refine ⟨S', L', H', .slice (some ⟨H.n, 0, none⟩) xs.length xs.length, ⟨?_, ?_, ?_, ?_, hI.base⟩, fun i hi => .inr hi, hL, ?_, ?_, ?_⟩
      · intro i sz cs hi
        rw [hb] at hi
        by_cases e : i = H.n
        · rw [if_pos e] at hi
          cases hi
          subst e
          rw [hLn]
          refine ⟨.inl rfl, hblk, rfl, fun k v hk => ?_⟩
          rw [List.getElem?_map] at hk
          cases hxk : xs[k]? with
          | none => rw [hxk] at hk; cases hk
          | some x =>
            rw [hxk] at hk
            cases hk
            refine ⟨.int .u64 (x : Int), ?_, .int _ _⟩
            have := hc k x hxk
            rwa [hadd k] at this
        · rw [if_neg e] at hi
          obtain ⟨h1, h2, h3, h4⟩ := hI.ro i sz cs hi
          rw [hL i h1]
          refine ⟨.inr h1, h2, h3, fun k v hk => ?_⟩
          obtain ⟨v', h5, h6⟩ := h4 k v hk
          exact ⟨v', h5, h6.mono (fun _ h => .inr h) hL⟩
      · intro i sz cs hi
        rw [hb] at hi
        by_cases e : i = H.n
        · rw [if_pos e] at hi; cases hi
        · rw [if_neg e] at hi
          obtain ⟨h1, h2, h3, C, e', h4, h5, h6⟩ := hI.rw i sz cs hi
          rw [hL i h1]
          refine ⟨.inr h1, h2, h3, C, e', h4, h5, fun k v hk => ?_⟩
          obtain ⟨v', h7, h8⟩ := h6 k v hk
          exact ⟨v', h7, h8.mono (fun _ h => .inr h) hL⟩
      · intro i j sz cs sz' cs' hi hj hg
        rw [hb] at hi hj
        by_cases e : i = H.n
        · rw [if_pos e] at hi; cases hi
        · by_cases e2 : j = H.n
          · rw [if_pos e2] at hj; cases hj
          · rw [if_neg e] at hi
            rw [if_neg e2] at hj
            rw [hL i (hI.rw i _ _ hi).1, hL j (hI.rw j _ _ hj).1] at hg
            exact hI.dj i j _ _ _ _ hi hj hg
      · intro i hi
        rcases hi with hi | hi
        · subst hi; exact Nat.lt_succ_self _
        · exact Nat.lt_succ_of_lt (hI.bd i hi)
      · have hv := VR.slice (S := S') (L := L') H.n 0 xs.length xs.length cap (.inl rfl) hcap (Nat.le_refl _) (by rw [hLn]; simp)
        rw [hLn] at hv
        have e : (some (⟨a.block, a.off + 0, none⟩ : Addr)) = some a := by
          congr 1
          cases a with
          | mk b o s => simp at hspot; subst hspot; rfl
        rw [e] at hv
        exact hv
      · refine .mk H.n 0 xs.length xs (Nat.le_refl _) ⟨Nat.lt_succ_self _, xs.map fun x : Nat => Value.int .u64 (x : Int), ?_, ?_, fun i x hx => ?_, Nat.zero_le _⟩
        · unfold AH.cells; rw [hb, if_pos rfl]
        · unfold AH.size; rw [hb, if_pos rfl]
        · rw [Nat.zero_add, List.getElem?_map, hx]; rfl
      · exact ⟨Nat.le_succ _, Nat.min_le_left _ _, fun j hj => by rw [hb, if_neg (by omega)]⟩

end
end Go.Proofs.YthlgggcpokfmaaaDoor

/-
  EXPRESSIONS AS ARGUMENTS: what the reading of one says; the abstract heap that holds it.
-/
namespace Go.Proofs.YthlgggcpokfmaaaDoor
open Go Go.ChangeShapes Go.WideShapes Go.RowKit Go.Proofs.YthlgggcpokfmaaaDoor.Ev
set_option linter.unusedVariables false
noncomputable section

mutual
/-- Cells of an expression, in the world. -/
inductive WEx (W : World) : List Value → ET → Prop
  | mk {op : Int} {neg : Bool} {va vd vx : Value} {abs den : List Nat} {args : List ET} : ArgIs W va abs → ArgIs W vd den → WXs W vx args → WEx W [.int .i64 op, .bool neg, va, vd, vx] (.node op neg abs den args)
inductive WXs (W : World) : Value → List ET → Prop
  | nil : WXs W (.slice none 0 0) []
  | mk (a : Addr) (cap : Nat) {args : List ET} (F : Nat → List Value) : args.length ≤ cap → (∀ i, i < args.length → W.cells? 0 (a.add (i * 5)) 5 = some (F i)) → (∀ (i : Nat) (t : ET), args[i]? = some t → WEx W (F i) t) →
      WXs W (.slice (some a) args.length cap) args
end

instance : Inhabited ET := ⟨.node 0 false [] [] []⟩

set_option maxRecDepth 20000 in
theorem open_limbs_at {H : Type} {enc : TypeId × Value → H} {W : World} {t : TypeId} {fuel : Nat} {cs : List Value} {x : DataW H × List MemPlace} (ht : Tryd.prog.underlying t = some (.slice 65))
    (hf : DataW.trod enc Tryd.prog W 0 (fun _ => true) true fuel t cs = some x) : ∃ v xs, cs = [v] ∧ Dig 18446744073709551616 xs ∧ xs.length ≤ Rows.uptoBulk x.1 ∧ ArgIs W v xs := by
  rcases Deep.open_slice1 ht cU64 hf with ⟨h1, h2⟩ | ⟨a', len', cap', m, n, V, D, Pl, h1, _, hl, _, hm, hx, hV⟩
  · exact ⟨_, [], h1, .nil _, Nat.zero_le _, .inl ⟨rfl, rfl⟩⟩
  · rw [if_pos rfl] at hm
    rw [hm] at hx hV
    have hval : ∀ i, i < cap' → ∃ x : Nat, V i = .int .u64 (x : Int) ∧ x < 18446744073709551616 := fun i hi => by
      obtain ⟨n', c', x', w'⟩ := DataW.trod_int Tryd.underlying65 (hV i hi).2
      simp at c'
      simp only [Lit.wf, Bool.and_eq_true, decide_eq_true_eq] at w'
      have e1 : IntKind.u64.min = 0 := by decide
      have e2 : IntKind.u64.max = 18446744073709551615 := by decide
      exact ⟨n'.toNat, by rw [c']; congr 1; omega, by omega⟩
    let f : Nat → Nat := fun i => match V i with | .int _ z => z.toNat | _ => 0
    have hfe : ∀ i, i < cap' → V i = .int .u64 ((f i : Nat) : Int) ∧ f i < 18446744073709551616 := fun i hi => by
      obtain ⟨x, h1, h2⟩ := hval i hi
      have : f i = x := by show (match V i with | .int _ z => z.toNat | _ => 0) = x; rw [h1]; simp
      rw [this]; exact ⟨h1, h2⟩
    refine ⟨_, (List.range len').map f, h1, ?_, ?_, .inr ⟨a', cap', by simp, by simpa using hl, ?_⟩⟩
    · intro x hx
      obtain ⟨i, hi, rfl⟩ := List.mem_map.mp hx
      exact (hfe i (Nat.lt_of_lt_of_le (List.mem_range.mp hi) hl)).2
    · rw [hx]
      have := bulk_slice ((List.range len').map D) ((List.range (cap' - len')).map fun j => D (len' + j))
      simpa using this
    · intro i x hi
      rw [List.getElem?_map] at hi
      by_cases hil : i < len'
      · rw [List.getElem?_range hil] at hi
        cases hi
        have hic : i < cap' := Nat.lt_of_lt_of_le hil hl
        rw [(hV i hic).1, (hfe i hic).1]
      · rw [List.getElem?_eq_none (by simp; omega)] at hi
        cases hi

theorem uExpr : ∃ f0 f1 f2, Tryd.prog.underlying 32 = some (.struct #[f0, f1, f2]) ∧ f0.type = 23 ∧ f0.offset = 0 ∧ f1.type = 29 ∧ f1.offset = 1 ∧ f2.type = 30 ∧ f2.offset = 4 := ⟨_, _, _, Tryd.underlying32, rfl, rfl, rfl, rfl, rfl, rfl⟩
theorem uRatio : ∃ f0 f1, Tryd.prog.underlying 29 = some (.struct #[f0, f1]) ∧ f0.type = 27 ∧ f0.offset = 0 ∧ f1.type = 25 ∧ f1.offset = 2 := ⟨_, _, Tryd.underlying29, rfl, rfl, rfl, rfl⟩
theorem uWhole : ∃ f0 f1, Tryd.prog.underlying 27 = some (.struct #[f0, f1]) ∧ f0.type = 4 ∧ f0.offset = 0 ∧ f1.type = 25 ∧ f1.offset = 1 := ⟨_, _, Tryd.underlying27, rfl, rfl, rfl, rfl⟩
theorem cExpr : Tryd.prog.cellsOf 32 = 5 := by kernel_rfl
theorem cRatio : Tryd.prog.cellsOf 29 = 3 := by kernel_rfl
theorem cWhole : Tryd.prog.cellsOf 27 = 2 := by kernel_rfl
theorem cNat : Tryd.prog.cellsOf 25 = 1 := by kernel_rfl
theorem cBool : Tryd.prog.cellsOf 4 = 1 := by kernel_rfl
theorem cExprs : Tryd.prog.cellsOf 30 = 1 := by kernel_rfl

theorem nodesAll_map {H : Type} {f : Nat → ET} {D : Nat → DataW H} : ∀ (l : List Nat), (∀ i ∈ l, (f i).nodes ≤ Rows.uptoBulk (D i)) → nodesAll (l.map f) ≤ Rows.uptoBulkAll (l.map D)
  | [], _ => Nat.le_refl _
  | i :: l, h => by
    have h1 := h i (List.mem_cons_self ..)
    have h2 := nodesAll_map l fun j hj => h j (List.mem_cons_of_mem _ hj)
    simp only [List.map_cons, nodesAll, Rows.uptoBulkAll]
    omega
theorem wideAll_map {f : Nat → ET} {L : Nat} : ∀ (l : List Nat), (∀ i ∈ l, (f i).wide L) → wideAll L (l.map f)
  | [], _ => trivial
  | i :: l, h => ⟨h i (List.mem_cons_self ..), wideAll_map l fun j hj => h j (List.mem_cons_of_mem _ hj)⟩

set_option maxRecDepth 20000 in
theorem open_tree {H : Type} {enc : TypeId × Value → H} {W : World} : ∀ (N : Nat) (d : DataW H), Rows.uptoBulk d ≤ N → ∀ (fuel : Nat) (cs : List Value) (ps : List MemPlace), DataW.trod enc Tryd.prog W 0 (fun _ => true) true fuel 32 cs = some (d, ps) →
    ∃ t : ET, WEx W cs t ∧ (∀ L, Rows.uptoBulk d ≤ L → t.wide L) ∧ t.nodes ≤ Rows.uptoBulk d := by
  intro N
  induction N with
  | zero => intro d hd; have := bulk_one d; omega
  | succ N ih =>
    intro d hd fuel cs ps h
    obtain ⟨f0, f1, f2, hu, e1, e2, e3, e4, e5, e6⟩ := uExpr
    obtain ⟨y0, y1, y2, n, hx, hl, h0, h1, h2⟩ := Deep.trod_struct3 hu h
    rw [e1, e2, cOp] at h0
    rw [e3, e4, cRatio] at h1
    rw [e5, e6, cExprs] at h2
    rw [cExpr] at hl
    obtain ⟨g0, g1, hu2, i1, i2, i3, i4⟩ := uRatio
    obtain ⟨z0, z1, n2, hx2, hl2, j0, j1⟩ := trod_struct2 hu2 h1
    rw [i1, i2, cWhole] at j0
    rw [i3, i4, cNat] at j1
    obtain ⟨k0, k1, hu3, m1, m2, m3, m4⟩ := uWhole
    obtain ⟨w0, w1, n3, hx3, hl3, q0, q1⟩ := trod_struct2 hu3 j0
    rw [m1, m2, cBool] at q0
    rw [m3, m4, cNat] at q1
    obtain ⟨op, c0, x0, _⟩ := DataW.trod_int uOp h0
    obtain ⟨neg, cb, xb⟩ := DataW.trod_bool Tryd.underlying4 q0
    obtain ⟨va, abs, ca, da, la, ra⟩ := open_limbs_at uNat q1
    obtain ⟨vd, den, cd, dd, ld, rd⟩ := open_limbs_at uNat j1
    simp only [Prod.mk.injEq] at hx
    obtain ⟨hxd, _⟩ := hx
    have hb1 : Rows.uptoBulk w1.1 + 1 ≤ Rows.uptoBulk z0.1 := by rw [hx3]; simp only [Rows.uptoBulk, Rows.uptoBulkAll]; omega
    have hb2 : Rows.uptoBulk z0.1 + Rows.uptoBulk z1.1 + 1 ≤ Rows.uptoBulk y1.1 := by rw [hx2]; simp only [Rows.uptoBulk, Rows.uptoBulkAll]; omega
    have hb3 : Rows.uptoBulk y1.1 + Rows.uptoBulk y2.1 + 1 ≤ Rows.uptoBulk d := by rw [hxd]; simp only [Rows.uptoBulk, Rows.uptoBulkAll]; omega
    match cs, hl with
    | [a0, a1, a2, a3, a4], _ =>
    simp at c0 cb ca cd h2
    subst c0; subst cb; subst ca; subst cd
    have u : Tryd.prog.underlying 30 = some (.slice 32) := by kernel_rfl
    rcases Deep.open_slice u h2 with ⟨p1, p2⟩ | ⟨a, len, cap, m, nn, D, Pl, p1, _, hlc, _, hm, p2, hV⟩
    · cases p1
      refine ⟨.node op neg abs den [], .mk ra rd .nil, fun L hL => ⟨by omega, by omega, da, dd, trivial⟩, ?_⟩
      simp only [ET.nodes, nodesAll]
      have := bulk_one d
      omega
    · cases p1
      rw [if_pos rfl] at hm
      subst hm
      rw [cExpr] at hV p2
      have hb4 : Rows.uptoBulkAll ((List.range len).map D) + 1 ≤ Rows.uptoBulk y2.1 := by rw [p2]; simp only [Rows.uptoBulk]; omega
      obtain ⟨F, hF⟩ := Deep.choose_lt (α := List Value × ET) (n := len) (p := fun i q => W.cells? 0 (a.add (i * 5)) 5 = some q.1 ∧ WEx W q.1 q.2 ∧ (∀ L, Rows.uptoBulk (D i) ≤ L → q.2.wide L) ∧ q.2.nodes ≤ Rows.uptoBulk (D i)) (fun i hi => by
        obtain ⟨cs', s1, s2⟩ := hV i (Nat.lt_of_lt_of_le hi hlc)
        have hbi : Rows.uptoBulk (D i) ≤ Rows.uptoBulkAll ((List.range len).map D) := bulk_part (List.mem_map.mpr ⟨i, List.mem_range.mpr hi, rfl⟩)
        obtain ⟨t, t1, t2, t3⟩ := ih (D i) (by omega) _ _ _ s2
        exact ⟨(cs', t), s1, t1, t2, t3⟩)
      have hlen : ((List.range len).map fun i => (F i).2).length = len := by simp
      have hw : WXs W (.slice (some a) ((List.range len).map fun i => (F i).2).length m) ((List.range len).map fun i => (F i).2) := by
        refine .mk a m (fun i => (F i).1) (by rw [hlen]; exact hlc) (fun i hi => (hF i (by rwa [hlen] at hi)).1) (fun i t ht => ?_)
        have hi : i < len := by
          rcases Nat.lt_or_ge i len with h | h
          · exact h
          · rw [List.getElem?_eq_none (by rw [hlen]; exact h)] at ht; cases ht
        rw [List.getElem?_map, List.getElem?_range hi] at ht
        cases ht
        exact (hF i hi).2.1
      rw [hlen] at hw
      refine ⟨.node op neg abs den ((List.range len).map fun i => (F i).2), .mk ra rd hw, fun L hL => ⟨by omega, by omega, da, dd, wideAll_map _ fun i hi => ?_⟩, ?_⟩
      · have hi := List.mem_range.mp hi
        have hbi : Rows.uptoBulk (D i) ≤ Rows.uptoBulkAll ((List.range len).map D) := bulk_part (List.mem_map.mpr ⟨i, List.mem_range.mpr hi, rfl⟩)
        exact (hF i hi).2.2.1 L (by omega)
      · have := nodesAll_map (D := D) (f := fun i => (F i).2) (List.range len) fun i hi => (hF i (List.mem_range.mp hi)).2.2.2
        simp only [ET.nodes]
        omega
end
end Go.Proofs.YthlgggcpokfmaaaDoor

/-
  EXPRESSIONS AS ARGUMENTS: the abstract heap that holds one (read-only).
-/
namespace Go.Proofs.YthlgggcpokfmaaaDoor
open Go Go.ChangeShapes Go.WideShapes Go.RowKit Go.Proofs.YthlgggcpokfmaaaDoor.Ev
set_option linter.unusedVariables false
noncomputable section

theorem add_block {W : World} {S : Nat → Prop} {L : Nat → Ev.Loc} {H : AH} (hI : Inv W.heap.size S L H W) {g o sz cap : Nat} {cs cs' : List Value} (hg : g < W.heap.size)
    (hc : ∀ (k : Nat) (v' : Value), cs'[k]? = some v' → W.cell? ⟨g, o + k, none⟩ = some v') (hv : VRs S L cs cs') :
    ∃ (S' : Nat → Prop) (L' : Nat → Ev.Loc) (H' : AH), Inv W.heap.size S' L' H' W ∧ (∀ i, S i → S' i) ∧ (∀ i, S i → L' i = L i) ∧ Keep H H' ∧ H'.cells H.n = some cs ∧ S' H.n ∧ L' H.n = ⟨g, o, sz, o + cap * sz⟩ ∧ H'.n = H.n + 1 := by
  have hn : ∀ i, S i → i ≠ H.n := fun i hi e => by have := hI.bd i hi; omega
  let L' : Nat → Ev.Loc := fun i => if i = H.n then ⟨g, o, sz, o + cap * sz⟩ else L i
  let S' : Nat → Prop := fun i => i = H.n ∨ S i
  have hL : ∀ i, S i → L' i = L i := fun i hi => if_neg (hn i hi)
  have hLn : L' H.n = ⟨g, o, sz, o + cap * sz⟩ := if_pos rfl
  let H' : AH := { n := H.n + 1, lw := H.lw, t := H.t.set H.n (.ro sz cs) }
  have hb : ∀ j, H'.blk j = if j = H.n then .ro sz cs else H.blk j := fun j => by
    show (match (H.t.set H.n _).get j with | some b => b | none => Blk.dead) = _
    rw [Tr.get_set]
    by_cases e : j = H.n
    · rw [if_pos e, if_pos e]
    · rw [if_neg e, if_neg e]; rfl
  refine ⟨S', L', H', ⟨?_, ?_, ?_, ?_, hI.base⟩, fun i hi => .inr hi, hL, ?_, ?_, .inl rfl, hLn, rfl⟩
  · intro i sz2 cs2 hi
    rw [hb] at hi
    by_cases e : i = H.n
    · rw [if_pos e] at hi
      cases hi
      subst e
      rw [hLn]
      refine ⟨.inl rfl, hg, rfl, fun k v hk => ?_⟩
      obtain ⟨v', h1, h2⟩ := hv.get hk
      exact ⟨v', hc k v' h1, h2.mono (fun _ h => .inr h) hL⟩
    · rw [if_neg e] at hi
      obtain ⟨h1, h2, h3, h4⟩ := hI.ro i sz2 cs2 hi
      rw [hL i h1]
      refine ⟨.inr h1, h2, h3, fun k v hk => ?_⟩
      obtain ⟨v', h5, h6⟩ := h4 k v hk
      exact ⟨v', h5, h6.mono (fun _ h => .inr h) hL⟩
  · intro i sz2 cs2 hi
    rw [hb] at hi
    by_cases e : i = H.n
    · rw [if_pos e] at hi; cases hi
    · rw [if_neg e] at hi
      obtain ⟨h1, h2, h3, C, e', h4, h5, h6⟩ := hI.rw i sz2 cs2 hi
      rw [hL i h1]
      refine ⟨.inr h1, h2, h3, C, e', h4, h5, fun k v hk => ?_⟩
      obtain ⟨v', h7, h8⟩ := h6 k v hk
      exact ⟨v', h7, h8.mono (fun _ h => .inr h) hL⟩
  · intro i j sz2 cs2 sz' cs' hi hj hg
    rw [hb] at hi hj
    by_cases e : i = H.n
    · rw [if_pos e] at hi; cases hi
    · by_cases e2 : j = H.n
      · rw [if_pos e2] at hj; cases hj
      · rw [if_neg e] at hi
        rw [if_neg e2] at hj
        rw [hL i (hI.rw i _ _ hi).1, hL j (hI.rw j _ _ hj).1] at hg
        exact hI.dj i j _ _ _ _ hi hj hg
  · intro i hi
    rcases hi with hi | hi
    · subst hi; exact Nat.lt_succ_self _
    · exact Nat.lt_succ_of_lt (hI.bd i hi)
  · exact ⟨Nat.le_succ _, Nat.min_le_left _ _, fun j hj => by rw [hb, if_neg (by omega)]⟩
  · unfold AH.cells; rw [hb, if_pos rfl]

theorem flat_len {G : Nat → List Value} : ∀ m, (∀ i, i < m → (G i).length = 5) → (((List.range m).map G).flatten).length = m * 5
  | 0, _ => rfl
  | m + 1, h => by
    rw [List.range_succ, List.map_append, List.flatten_append, List.length_append, flat_len m fun i hi => h i (by omega)]
    simp [h m (by omega)]
    omega

theorem flat_get {G : Nat → List Value} : ∀ m, (∀ i, i < m → (G i).length = 5) → ∀ i, i < m → ((((List.range m).map G).flatten).drop (i * 5)).take 5 = G i
  | 0, _, i, hi => absurd hi (Nat.not_lt_zero i)
  | m + 1, h, i, hi => by
    have hl := flat_len m fun i hi => h i (by omega)
    rw [List.range_succ, List.map_append, List.flatten_append]
    by_cases e : i = m
    · subst e
      rw [List.drop_append_of_le_length (by omega), List.drop_of_length_le (by omega), List.nil_append]
      simp only [List.map_cons, List.map_nil, List.flatten_cons, List.flatten_nil, List.append_nil]
      rw [List.take_of_length_le (by rw [h i (by omega)]; omega)]
    · rw [List.drop_append_of_le_length (by omega), List.take_append_of_le_length (by rw [List.length_drop]; omega)]
      exact flat_get m (fun i hi => h i (by omega)) i (by omega)

theorem flat_cells {W : World} {a : Addr} (hspot : a.spot = none) {F : Nat → List Value} : ∀ m, (∀ i, i < m → W.cells? 0 (a.add (i * 5)) 5 = some (F i)) →
    ∀ (k : Nat) (v' : Value), (((List.range m).map F).flatten)[k]? = some v' → W.cell? ⟨a.block, a.off + k, none⟩ = some v'
  | 0, _, k, v', hk => by simp at hk
  | m + 1, h, k, v', hk => by
    have hadd : ∀ k, a.add k = ⟨a.block, a.off + k, none⟩ := fun k => by
      unfold Addr.add
      by_cases hk : k = 0
      · subst hk; rw [if_pos rfl]
        cases a with
        | mk b o s => simp at hspot; subst hspot; rfl
      · rw [if_neg hk]
    have hF : ∀ i, i < m + 1 → (F i).length = 5 := fun i hi => (World.cells?_some (h i hi)).2.1
    have hl := flat_len m fun i hi => hF i (by omega)
    rw [List.range_succ, List.map_append, List.flatten_append] at hk
    by_cases e : k < m * 5
    · rw [List.getElem?_append_left (by omega)] at hk
      exact flat_cells hspot m (fun i hi => h i (by omega)) k v' hk
    · rw [List.getElem?_append_right (by omega), hl] at hk
      simp only [List.map_cons, List.map_nil, List.flatten_cons, List.flatten_nil, List.append_nil] at hk
      obtain ⟨_, _, h3⟩ := World.cells?_some (h m (by omega))
      have hj : k - m * 5 < 5 := by
        rcases Nat.lt_or_ge (k - m * 5) 5 with h' | h'
        · exact h'
        · rw [List.getElem?_eq_none (by rw [hF m (by omega)]; exact h')] at hk; cases hk
      have := h3 (k - m * 5) hj
      rw [hk, Deep.add_add, hadd, show m * 5 + (k - m * 5) = k by omega] at this
      exact this

theorem VRs_flat {S : Nat → Prop} {L : Nat → Ev.Loc} {G F : Nat → List Value} : ∀ m, (∀ i, i < m → VRs S L (G i) (F i)) → VRs S L ((List.range m).map G).flatten ((List.range m).map F).flatten
  | 0, _ => .nil
  | m + 1, h => by
    rw [List.range_succ, List.map_append, List.flatten_append, List.map_append, List.flatten_append]
    refine (VRs_flat m fun i hi => h i (by omega)).append ?_
    simpa using h m (by omega)

theorem add_tree {W : World} : ∀ (N : Nat) (t : ET), t.nodes ≤ N → ∀ (cs : List Value), WEx W cs t → ∀ {S : Nat → Prop} {L : Nat → Ev.Loc} {H : AH}, Inv W.heap.size S L H W →
    ∃ (S' : Nat → Prop) (L' : Nat → Ev.Loc) (H' : AH) (vs : List Value), Inv W.heap.size S' L' H' W ∧ (∀ i, S i → S' i) ∧ (∀ i, S i → L' i = L i) ∧ VRs S' L' vs cs ∧ Ex H' vs t ∧ Keep H H' := by
  intro N
  induction N with
  | zero => intro t h; have := nodes_pos t; omega
  | succ N ih =>
  intro t ht cs hw S L H hI
  cases hw with
  | @mk op neg va vd vx abs den args ra rd rx =>
  simp only [ET.nodes] at ht
  obtain ⟨S1, L1, H1, wa, I1, s1, l1, r1, q1, k1⟩ := add_arg hI ra
  obtain ⟨S2, L2, H2, wd, I2, s2, l2, r2, q2, k2⟩ := add_arg I1 rd
  -- the arguments
  suffices hx : ∃ (S' : Nat → Prop) (L' : Nat → Ev.Loc) (H' : AH) (wx : Value), Inv W.heap.size S' L' H' W ∧ (∀ i, S2 i → S' i) ∧ (∀ i, S2 i → L' i = L2 i) ∧ VR S' L' wx vx ∧ Xs H' wx args ∧ Keep H2 H' by
    obtain ⟨S3, L3, H3, wx, I3, s3, l3, r3, q3, k3⟩ := hx
    refine ⟨S3, L3, H3, [.int .i64 op, .bool neg, wa, wd, wx], I3, fun i h => s3 i (s2 i (s1 i h)), fun i h => by rw [l3 i (s2 i (s1 i h)), l2 i (s1 i h), l1 i h], ?_, .mk (q1.keep (k2.trans k3)) (q2.keep k3) q3, (k1.trans k2).trans k3⟩
    exact .cons (.int .i64 op) (.cons (.bool neg) (.cons ((r1.mono s2 l2).mono s3 l3) (.cons (r2.mono s3 l3) (.cons r3 .nil))))
  cases rx with
  | nil => exact ⟨S2, L2, H2, .slice none 0 0, I2, fun _ h => h, fun _ _ => rfl, .nilSlice, .nil, .refl _⟩
  | mk a cap F hcap hF hE =>
    by_cases h0 : args.length = 0
    · obtain rfl : args = [] := List.length_eq_zero_iff.mp h0
      exact ⟨S2, L2, H2, .slice (some ⟨0, 0, some 0⟩) 0 0, I2, fun _ h => h, fun _ _ => rfl, .emp 0 a cap, .emp 0, .refl _⟩
    · have hget : ∀ i, i < args.length → args[i]? = some (args.getD i default) := fun i hi => by
        rw [List.getElem?_eq_getElem hi]
        simp [List.getD, List.getElem?_eq_getElem hi]
      have key : ∀ m, m ≤ args.length → ∃ (S' : Nat → Prop) (L' : Nat → Ev.Loc) (H' : AH) (G : Nat → List Value), Inv W.heap.size S' L' H' W ∧ (∀ i, S2 i → S' i) ∧ (∀ i, S2 i → L' i = L2 i) ∧ (∀ i, i < m → VRs S' L' (G i) (F i) ∧ Ex H' (G i) (args.getD i default)) ∧ Keep H2 H' := by
        intro m
        induction m with
        | zero => intro _; exact ⟨S2, L2, H2, fun _ => [], I2, fun _ h => h, fun _ _ => rfl, fun i hi => absurd hi (Nat.not_lt_zero i), .refl _⟩
        | succ m ihm =>
          intro hm
          obtain ⟨S3, L3, H3, G, I3, s3, l3, g3, k3⟩ := ihm (by omega)
          have hm' := hget m (by omega)
          have hn := nodesAll_get hm'
          obtain ⟨S4, L4, H4, vs, I4, s4, l4, r4, q4, k4⟩ := ih (args.getD m default) (by omega) (F m) (hE m _ hm') I3
          refine ⟨S4, L4, H4, fun i => if i = m then vs else G i, I4, fun i h => s4 i (s3 i h), fun i h => by rw [l4 i (s3 i h), l3 i h], fun i hi => ?_, k3.trans k4⟩
          by_cases e : i = m
          · subst e; simp only [if_pos]; exact ⟨r4, q4⟩
          · simp only [if_neg e]
            obtain ⟨g1, g2⟩ := g3 i (by omega)
            exact ⟨g1.mono s4 l4, g2.keep k4⟩
      obtain ⟨S3, L3, H3, G, I3, s3, l3, g3, k3⟩ := key args.length (Nat.le_refl _)
      have hF0 := hF 0 (by omega)
      obtain ⟨_, f1, f2⟩ := World.cells?_some hF0
      have hx0 := f2 0 (by omega)
      rw [Deep.add_add, List.getElem?_eq_getElem (by omega)] at hx0
      have ea : a.add (0 * 5 + 0) = a := rfl
      rw [ea] at hx0
      have hspot : a.spot = none := by
        have hx1 := hx0
        unfold World.cell? at hx1
        cases hs : a.spot with
        | none => rfl
        | some q =>
          rw [hs] at hx1
          split at hx1
          · simp at hx1
          · cases hx1
      have hblk : a.block < W.heap.size := World.block_lt_of_cell? W a hx0
      have hG : ∀ i, i < args.length → (G i).length = 5 := fun i hi => (g3 i hi).2.len
      obtain ⟨S4, L4, H4, I4, s4, l4, k4, c4, sn, ln, n4⟩ := add_block (g := a.block) (o := a.off) (sz := 5) (cap := cap) (cs := ((List.range args.length).map G).flatten) (cs' := ((List.range args.length).map F).flatten) I3 hblk
        (flat_cells hspot args.length hF) (VRs_flat args.length fun i hi => (g3 i hi).1)
      refine ⟨S4, L4, H4, .slice (some ⟨H3.n, 0, none⟩) args.length args.length, I4, fun i h => s4 i (s3 i h), fun i h => by rw [l4 i (s3 i h), l3 i h], ?_, ?_, k3.trans k4⟩
      · have hv := VR.slice (S := S4) (L := L4) H3.n 0 args.length args.length cap sn hcap (Nat.le_refl _) (by rw [ln]; simp)
        rw [ln] at hv
        have e : (some (⟨a.block, a.off + 0, none⟩ : Addr)) = some a := by
          congr 1
          cases a with
          | mk b o s => simp at hspot; subst hspot; rfl
        rw [e] at hv
        exact hv
      · refine .mk H3.n 0 args.length (by omega) c4 (Nat.le_refl _) fun i t hi => ?_
        have hlt : i < args.length := by
          rcases Nat.lt_or_ge i args.length with h' | h'
          · exact h'
          · rw [List.getElem?_eq_none h'] at hi; cases hi
        rw [Nat.zero_add, flat_get args.length hG i hlt]
        have := (g3 i hlt).2.keep k4
        rw [hget i hlt] at hi
        cases hi
        exact this
end
end Go.Proofs.YthlgggcpokfmaaaDoor
