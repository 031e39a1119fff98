/-
  THE ENGINE, part B: the evaluator. An executable big-step reading of the translated code over an abstract heap; where it does not know what the machine does it answers none.
-/
import Derived.Test.YtldapilhmmbjhaaEvA
namespace Go.Proofs.Ytldapilhmmbjhaa.Ev
open Go
set_option linter.unusedVariables false
noncomputable section
set_option linter.unusedSimpArgs false

/-- ng: how many package-level variables lie in the abstract heap (under their own numbers); add, sub: the numbers of math/bits.Add64 and Sub64. -/
structure Cfg where
  ng : Nat
  add : Nat
  sub : Nat

structure St where
  k : Nat
  tm : Tr Value
  H : AH

inductive Ex where
  | norm
  | exit (id : Nat)
  | ret

/-! ### values -/
def plain1 : Value → Bool
  | .bool _ | .int _ _ | .string _ | .pointer none | .slice none 0 0 | .nilFunc | .nilIface => true
  | _ => false

def plain : Value → Bool
  | .agg cs => cs.toList.all plain1
  | .tuple cs => cs.toList.all plain1
  | v => plain1 v

def opd (C : Cfg) (tm : Tr Value) : Operand → Option Value
  | .tmp t => tm.get t
  | .const v => cond (plain v) (some v) none
  | .global g => cond (Nat.blt g C.ng) (some (.pointer (some ⟨g, 0, none⟩))) none
  | .func f => some (.func (.func f) #[] #[])

def opds (C : Cfg) (tm : Tr Value) : List Operand → Option (List Value)
  | [] => some []
  | x :: xs => match opd C tm x with
    | some v => match opds C tm xs with
      | some vs => some (v :: vs)
      | none => none
    | none => none

def optOpd (C : Cfg) (tm : Tr Value) : Option Operand → Option (Option Value)
  | none => some none
  | some x => match opd C tm x with
    | some v => some (some v)
    | none => none

def parts (C : Cfg) (tm : Tr Value) : List (Nat × Operand) → Option (List (Nat × Value))
  | [] => some []
  | (i, x) :: xs => match opd C tm x with
    | some v => match parts C tm xs with
      | some vs => some ((i, v) :: vs)
      | none => none
    | none => none

/-! ### the abstract heap -/
def AH.cells (H : AH) (i : Nat) : Option (List Value) :=
  match H.blk i with
  | .ro _ cs => some cs
  | .rw _ cs => some cs
  | .dead => none

/-- Has a list at least so many? -/
def longer : List Value → Nat → Bool
  | _, 0 => true
  | [], _ + 1 => false
  | _ :: cs, n + 1 => longer cs n

theorem longer_eq : ∀ (cs : List Value) (n : Nat), longer cs n = Nat.ble n cs.length
  | cs, 0 => by cases cs <;> rfl
  | [], n + 1 => rfl
  | c :: cs, n + 1 => (longer_eq cs n).trans rfl

/-- A list's beginning, overlaid. -/
def overlay : List Value → List Value → List Value
  | cs, [] => cs
  | [], v :: vs => v :: vs
  | _ :: cs, v :: vs => v :: overlay cs vs

/-- A list, overlaid from a place on. -/
def splice : List Value → Nat → List Value → List Value
  | cs, 0, vs => overlay cs vs
  | [], _ + 1, vs => vs
  | c :: cs, n + 1, vs => c :: splice cs n vs

theorem overlay_eq : ∀ (cs vs : List Value), overlay cs vs = vs ++ cs.drop vs.length
  | cs, [] => by cases cs <;> rfl
  | [], v :: vs => by simp [overlay]
  | c :: cs, v :: vs => by simp [overlay, overlay_eq cs vs]

theorem splice_eq : ∀ (cs : List Value) (off : Nat) (vs : List Value), splice cs off vs = cs.take off ++ vs ++ cs.drop (off + vs.length)
  | cs, 0, vs => by cases cs <;> simp [splice, overlay_eq]
  | [], n + 1, vs => by simp [splice]
  | c :: cs, n + 1, vs => by simp [splice, splice_eq cs n vs, Nat.add_right_comm]

def AH.read (H : AH) (i off n : Nat) : Option (List Value) :=
  match H.cells i with
  | some cs => cond (longer cs (off + n)) (some ((cs.drop off).take n)) none
  | none => none

def AH.write (H : AH) (i off : Nat) (vs : List Value) : Option AH :=
  match H.blk i with
  | .rw sz cs => cond (longer cs (off + vs.length) && vs.all one)
      (some { n := H.n, lw := min H.lw i, t := H.t.set i (.rw sz (splice cs off vs)) }) none
  | _ => none

theorem AH.read_def (H : AH) (i off n : Nat) : H.read i off n = match H.cells i with
    | some cs => cond (Nat.ble (off + n) cs.length) (some ((cs.drop off).take n)) none
    | none => none := by
  unfold AH.read
  cases H.cells i with
  | none => rfl
  | some cs => simp only [longer_eq]

theorem AH.write_def (H : AH) (i off : Nat) (vs : List Value) : H.write i off vs = match H.blk i with
    | .rw sz cs => cond (Nat.ble (off + vs.length) cs.length && vs.all one)
        (some { n := H.n, lw := min H.lw i, t := H.t.set i (.rw sz (cs.take off ++ vs ++ cs.drop (off + vs.length))) }) none
    | _ => none := by
  unfold AH.write
  cases H.blk i with
  | dead => rfl
  | ro sz cs => rfl
  | rw sz cs => simp only [longer_eq, splice_eq]

def AH.new (H : AH) (sz : Nat) (cs : List Value) : AH := { n := H.n + 1, lw := H.lw, t := H.t.set H.n (.rw sz cs) }

def AH.kill (H : AH) (i : Nat) : AH := { n := H.n, lw := min H.lw i, t := H.t.set i .dead }

def AH.size (H : AH) (i : Nat) : Option Nat :=
  match H.blk i with
  | .ro sz _ => some sz
  | .rw sz _ => some sz
  | .dead => none

/-! ### types -/
def isAggT (P : Program) (t : TypeId) : Option Bool :=
  match P.underlying t with
  | some (.struct _) => some true
  | some (.array _ _) => some true
  | some _ => some false
  | none => none

def sizeT (P : Program) (t : TypeId) : Option Nat := match P.info? t with | some i => some i.size | none => none
def bytesT (P : Program) (t : TypeId) : Option Nat := match P.info? t with | some i => some i.bytes | none => none
def zeroT (P : Program) (t : TypeId) : Option Value :=
  match P.info? t with
  | some i => match i.zero with
    | some v => cond (plain v) (some v) none
    | none => none
  | none => none
/-- A slice type's element, the element's cells and bytes. -/
def sliceT (P : Program) (t : TypeId) : Option (TypeId × Nat × Nat) :=
  match P.underlying t with
  | some (.slice e) => match P.info? e with
    | some i => some (e, i.size, i.bytes)
    | none => none
  | _ => none

/-! ### single operations -/
def intBin (op : BinOp) (k : IntKind) (a b : Int) : Option Value :=
  match op with
  | .add => some (.int k (k.wrap (a + b)))
  | .sub => some (.int k (k.wrap (a - b)))
  | .mul => some (.int k (k.wrap (a * b)))
  | .quo => if b = 0 then none else some (.int k (k.wrap (a.tdiv b)))
  | .rem => if b = 0 then none else some (.int k (a.tmod b))
  | .and => some (.int k (k.wrap (BitVec.ofInt k.bits a &&& BitVec.ofInt k.bits b).toNat))
  | .or => some (.int k (k.wrap (BitVec.ofInt k.bits a ||| BitVec.ofInt k.bits b).toNat))
  | .xor => some (.int k (k.wrap (BitVec.ofInt k.bits a ^^^ BitVec.ofInt k.bits b).toNat))
  | .andNot => some (.int k (k.wrap (BitVec.ofInt k.bits a &&& ~~~BitVec.ofInt k.bits b).toNat))
  | .eql => some (.bool (a == b))
  | .neq => some (.bool (a != b))
  | .lss => some (.bool (a < b))
  | .leq => some (.bool (a ≤ b))
  | .gtr => some (.bool (a > b))
  | .geq => some (.bool (a ≥ b))
  | _ => none

def shiftBin (op : BinOp) (k : IntKind) (x y : Int) : Option Value :=
  if y < 0 then none else
  match op with
  | .shl => some (.int k (k.wrap (x * 2 ^ min y.toNat k.bits)))
  | .shr => some (.int k (x.fdiv (2 ^ min y.toNat k.bits)))
  | _ => none

def isShift : BinOp → Bool
  | .shl | .shr => true
  | _ => false

def sameKind (a b : IntKind) : Bool := a == b

/-- '==' where the model's own way is short: bools by their type, and against nil. -/
def eqVals (P : Program) (t : TypeId) (x y : Value) : Option Bool :=
  match P.underlying t, x, y with
  | some .bool, .bool a, .bool b => some (a == b)
  | some (.slice _), .slice none _ _, .slice b _ _ => some b.isNone
  | some (.slice _), .slice (some _) _ _, .slice none _ _ => some false
  | some (.pointer _), .pointer none, .pointer b => some b.isNone
  | some (.pointer _), .pointer (some _), .pointer none => some false
  | some (.func _ _ _), .nilFunc, .nilFunc => some true
  | some (.func _ _ _), .func _ _ _, .nilFunc => some false
  | _, _, _ => none

def binV (P : Program) (op : BinOp) (t : TypeId) (x y : Value) : Option Value :=
  match x, y with
  | .int k a, .int k' b => cond (isShift op) (shiftBin op k a b) (cond (sameKind k k') (intBin op k a b) none)
  | _, _ => match op with
    | .eql => match eqVals P t x y with | some b => some (.bool b) | none => none
    | .neq => match eqVals P t x y with | some b => some (.bool (!b)) | none => none
    | _ => none

def unV (op : UnOp) (x : Value) : Option Value :=
  match op, x with
  | .neg, .int k n => some (.int k (k.wrap (0 - n)))
  | .xor, .int k n => some (.int k (k.wrap (BitVec.ofInt k.bits (if k.signed then -1 else k.max) ^^^ BitVec.ofInt k.bits n).toNat))
  | .not, .bool b => some (.bool !b)
  | _, _ => none

def convV (P : Program) (src dst : TypeId) (x : Value) : Option Value :=
  match P.underlying src, P.underlying dst, x with
  | some _, some (.int k), .int _ n => some (.int k (k.wrap n))
  | _, _, _ => none

def indexAddrV (P : Program) (t : TypeId) (x ix : Value) : Option Value :=
  match ix with
  | .int _ i =>
    match P.underlying t, x with
    | some (.slice e), .slice (some ⟨b, o, none⟩) len _ =>
      match sizeT P e with
      | some sz => if 0 ≤ i ∧ i < len then some (.pointer (some ⟨b, o + i.toNat * sz, none⟩)) else none
      | none => none
    | some (.array n e), .pointer (some ⟨b, o, none⟩) =>
      match sizeT P e with
      | some sz => if 0 ≤ i ∧ i < n then some (.pointer (some ⟨b, o + i.toNat * sz, none⟩)) else none
      | none => none
    | _, _ => none
  | _ => none

def partV (P : Program) (t : TypeId) (cs : Array Value) (off : Nat) : Option Value :=
  match isAggT P t with
  | some true => match sizeT P t with
    | some n => some (.agg (cs.extract off (off + n)))
    | none => none
  | some false => cs[off]?
  | none => none

def indexV (P : Program) (t : TypeId) (x ix : Value) : Option Value :=
  match ix with
  | .int _ i =>
    match P.underlying t, x with
    | some (.array n e), .agg cs =>
      match sizeT P e with
      | some sz => if 0 ≤ i ∧ i < n then partV P e cs (i.toNat * sz) else none
      | none => none
    | some .string, .string s =>
      if 0 ≤ i then match s[i.toNat]? with
        | some b => some (.int .u8 b.toNat)
        | none => none
      else none
    | _, _ => none
  | _ => none

def fieldV (P : Program) (t : TypeId) (x : Value) (f : Nat) : Option Value :=
  match P.underlying t, x with
  | some (.struct fs), .agg cs => match fs[f]? with
    | some fd => partV P fd.type cs fd.offset
    | none => none
  | _, _ => none

def fieldAddrV (P : Program) (t : TypeId) (x : Value) (f : Nat) : Option Value :=
  match P.underlying t, x with
  | some (.struct fs), .pointer (some ⟨b, o, none⟩) => match fs[f]? with
    | some fd => match sizeT P fd.type with
      | some (_ + 1) => some (.pointer (some ⟨b, o + fd.offset, none⟩))
      | _ => none
    | none => none
  | _, _ => none

def loadV (P : Program) (H : AH) (t : TypeId) (x : Value) : Option Value :=
  match x with
  | .pointer (some ⟨b, o, none⟩) =>
    match isAggT P t with
    | some true => match sizeT P t with
      | some n => match H.read b o n with
        | some l => some (.agg l.toArray)
        | none => none
      | none => none
    | some false => match H.cells b with
      | some cs => cs[o]?
      | none => none
    | none => none
  | _ => none

def storeV (P : Program) (H : AH) (t : TypeId) (x v : Value) : Option AH :=
  match x with
  | .pointer (some ⟨b, o, none⟩) =>
    match sizeT P t with
    | some n => cond (Nat.beq v.cells.size n) (H.write b o v.cells.toList) none
    | none => none
  | _ => none

def zeros (z : Array Value) (n : Nat) : List Value := (List.range n).map fun j => z[j % z.size]!

def makeSliceV (P : Program) (H : AH) (t : TypeId) (l c : Value) : Option (Value × AH) :=
  match l, c, sliceT P t with
  | .int _ l, .int _ c, some (e, sz, by_) =>
    if 0 ≤ l ∧ l ≤ c ∧ by_ * c ≤ 2 ^ 48 ∧ c ≤ 2 ^ 48 then
      match zeroT P e with
      | some z => some (.slice (some ⟨H.n, 0, none⟩) l.toNat c.toNat, H.new sz (zeros z.cells (c.toNat * sz)))
      | none => none
    else none
  | _, _, _ => none

def buildSliceV (P : Program) (H : AH) (t : TypeId) (len : Nat) (ps : List (Nat × Value)) : Option (Value × AH) :=
  match sliceT P t with
  | some (e, sz, _) =>
    cond (Nat.ble (len * sz) (2 ^ 24))
      (match zeroT P e with
      | some z => match Instr.fill (fun i => some (i * sz, sz)) ((Array.range (len * sz)).map (z.cells[· % z.cells.size]!)) ps with
        | some cs => some (.slice (some ⟨H.n, 0, none⟩) len len, H.new sz cs.toList)
        | none => none
      | none => none)
      none
  | none => none

def places (P : Program) : List Field → Option (List (Nat × Nat))
  | [] => some []
  | f :: fs => match sizeT P f.type with
    | some n => match places P fs with
      | some r => some ((f.offset, n) :: r)
      | none => none
    | none => none

def buildV (P : Program) (t : TypeId) (ps : List (Nat × Value)) : Option Value :=
  match zeroT P t with
  | some z => match P.underlying t with
    | some (.struct fs) => match places P fs.toList with
      | some pl => match Instr.fill (pl.toArray[·]?) z.cells ps with
        | some cs => some (.agg cs)
        | none => none
      | none => none
    | some (.array _ e) => match sizeT P e with
      | some sz => match Instr.fill (fun i => some (i * sz, sz)) z.cells ps with
        | some cs => some (.agg cs)
        | none => none
      | none => none
    | _ => none
  | none => none

/-- A slice expression's bounds, by the capacity that is known. -/
def boundV (y : Nat) : Option Value → Nat → Option Nat
  | none, d => some d
  | some (.int _ i), _ => if 0 ≤ i ∧ i ≤ y then some i.toNat else none
  | some _, _ => none

def cutV (H : AH) (sz b o len cap : Nat) (lo hi mx : Option Value) : Option Value :=
  match boundV cap mx cap with
  | some m => match boundV m hi len with
    | some h => match boundV h lo 0 with
      | some l => match H.size b with
        | some s => cond (Nat.beq s sz && (hi.isSome || mx.isNone) && Nat.ble h m)
            (cond (Nat.beq l 0 || Nat.blt l m) (some (.slice (some ⟨b, o + l * sz, none⟩) (h - l) (m - l))) (some (.slice (some ⟨b, 0, some 0⟩) 0 0))) none
        | none => none
      | none => none
    | none => none
  | none => none

def sliceV (P : Program) (H : AH) (t : TypeId) (x : Value) (lo hi mx : Option Value) : Option Value :=
  match P.underlying t, x with
  | some (.slice e), .slice (some ⟨b, o, none⟩) len cap => match sizeT P e with
    | some sz => cutV H sz b o len cap lo hi mx
    | none => none
  | some (.slice e), .slice none 0 0 => match sizeT P e, boundV 0 mx 0, boundV 0 hi 0, boundV 0 lo 0 with
    | some _, some _, some _, some _ => cond (hi.isSome || mx.isNone) (some (.slice none 0 0)) none
    | _, _, _, _ => none
  | _, _ => none

/-- The cells of a slice's elements. -/
def sliceCells (H : AH) (sz : Nat) (x : Value) (n : Nat) : Option (List Value) :=
  match x with
  | .slice (some ⟨b, o, none⟩) _ _ => H.read b o (n * sz)
  | .slice (some ⟨_, _, some _⟩) _ _ => cond (Nat.beq n 0) (some []) none
  | .slice none _ _ => cond (Nat.beq n 0) (some []) none
  | _ => none

def lenV (P : Program) (t : TypeId) (x : Value) : Option Nat :=
  match P.underlying t, x with
  | some (.slice _), .slice _ n _ => some n
  | some .string, .string s => some s.size
  | some (.array n _), _ => some n
  | some (.pointer a), _ => match P.underlying a with
    | some (.array n _) => some n
    | _ => none
  | _, _ => none

/-- 's = append(s, x...)': of nothing: s itself; else s's elements and x's in a new block, and s's block is dead. -/
def appendV (P : Program) (H : AH) (t t2 : TypeId) (s x : Value) : Option (Value × AH) :=
  match sliceT P t, sliceT P t2, s, x with
  | some (e, sz, by_), some _, .slice a len cap, .slice _ m _ =>
    cond (Nat.beq m 0) (some (s, H))
    (cond (Nat.ble ((len + m) * by_) 140737488355328 && Nat.ble (len + m) 281474976710656)
      (match zeroT P e, sliceCells H sz x m with
      | some z, some new => cond (Nat.beq z.cells.size sz) (match a with
        | none => cond (Nat.beq len 0 && Nat.beq cap 0) (some (.slice (some ⟨H.n, 0, none⟩) (len + m) (len + m), H.new sz new)) none
        | some ⟨b, o, none⟩ => match H.blk b with
          | .rw s2 cs => cond (Nat.beq s2 sz && Nat.ble (o + len * sz) cs.length && new.all one)
              (some (.slice (some ⟨H.n, 0, none⟩) (len + m) (len + m), (H.kill b).new sz ((cs.drop o).take (len * sz) ++ new))) none
          | _ => none
        | _ => none) none
      | _, _ => none) none)
  | _, _, _, _ => none

def copyV (P : Program) (H : AH) (t t2 : TypeId) (d x : Value) : Option (Value × AH) :=
  match sliceT P t, sliceT P t2, d, x with
  | some (_, sz, _), some _, .slice (some ⟨b, o, none⟩) dl _, .slice _ m _ =>
    match sliceCells H sz x (Nat.min m dl) with
    | some cs => match H.write b o cs with
      | some H' => some (.int .i64 (Nat.min m dl), H')
      | none => none
    | none => none
  | some (_, sz, _), some _, .slice none _ dl, .slice _ m _ => cond (Nat.beq dl 0) (some (.int .i64 0, H)) none
  | _, _, _, _ => none

def minmaxV (big : Bool) : List Value → Option Value
  | [.int k a, .int k' b] => cond (sameKind k k') (some (.int k (cond big (if a < b then b else a) (if b < a then b else a)))) none
  | [.int k a, .int k' b, .int k'' c] => cond (sameKind k k' && sameKind k k'')
      (let m := cond big (if a < b then b else a) (if b < a then b else a)
       some (.int k (cond big (if m < c then c else m) (if c < m then c else m)))) none
  | _ => none

def builtinV (P : Program) (H : AH) (b : Builtin) (ts : List TypeId) (xs : List Value) : Option (Value × AH) :=
  match b, ts, xs with
  | .len, [t], [x] => match lenV P t x with
    | some n => some (.int .i64 n, H)
    | none => none
  | .append, [t, t2], [s, x] => appendV P H t t2 s x
  | .copy, [t, t2], [d, x] => copyV P H t t2 d x
  | .max, _, xs => match minmaxV true xs with
    | some v => some (v, H)
    | none => none
  | .min, _, xs => match minmaxV false xs with
    | some v => some (v, H)
    | none => none
  | _, _, _ => none

/-- A function value's function, and what goes ahead of and behind the arguments. -/
def calleeV : Value → Option (FuncId × List Value × List Value)
  | .func (.func f) fs cs => some (f, fs.toList, cs.toList)
  | _ => none

def oMove (P : Program) (C : Cfg) (call : FuncId → List Value → AH → Option (Value × AH)) (tm : Tr Value) (H : AH) (x : Operand) : Option (Value × AH) :=
  match opd C tm x with | some v => some (v, H) | none => none

def oAssign (P : Program) (C : Cfg) (call : FuncId → List Value → AH → Option (Value × AH)) (tm : Tr Value) (H : AH) (x : Operand) : Option (Value × AH) :=
  match opd C tm x with | some v => some (v, H) | none => none

def oPick (P : Program) (C : Cfg) (call : FuncId → List Value → AH → Option (Value × AH)) (tm : Tr Value) (H : AH) (c a b : Operand) : Option (Value × AH) :=
  match opd C tm c with
  | some (.bool t) => match opd C tm (cond t a b) with | some v => some (v, H) | none => none
  | _ => none

def oBinOp (P : Program) (C : Cfg) (call : FuncId → List Value → AH → Option (Value × AH)) (tm : Tr Value) (H : AH) (op : BinOp) (t : TypeId) (x y : Operand) : Option (Value × AH) :=
  match opd C tm x, opd C tm y with
  | some a, some b => match binV P op t a b with | some v => some (v, H) | none => none
  | _, _ => none

def oUnOp (P : Program) (C : Cfg) (call : FuncId → List Value → AH → Option (Value × AH)) (tm : Tr Value) (H : AH) (op : UnOp) (x : Operand) : Option (Value × AH) :=
  match opd C tm x with
  | some a => match unV op a with | some v => some (v, H) | none => none
  | none => none

def oConvert (P : Program) (C : Cfg) (call : FuncId → List Value → AH → Option (Value × AH)) (tm : Tr Value) (H : AH) (s d : TypeId) (x : Operand) : Option (Value × AH) :=
  match opd C tm x with
  | some a => match convV P s d a with | some v => some (v, H) | none => none
  | none => none

def oExtract (P : Program) (C : Cfg) (call : FuncId → List Value → AH → Option (Value × AH)) (tm : Tr Value) (H : AH) (x : Operand) (i : Nat) : Option (Value × AH) :=
  match opd C tm x with
  | some (.tuple vs) => match vs[i]? with | some v => some (v, H) | none => none
  | _ => none

def oIndexAddr (P : Program) (C : Cfg) (call : FuncId → List Value → AH → Option (Value × AH)) (tm : Tr Value) (H : AH) (t : TypeId) (x i : Operand) : Option (Value × AH) :=
  match opd C tm x, opd C tm i with
  | some a, some b => match indexAddrV P t a b with | some v => some (v, H) | none => none
  | _, _ => none

def oIndex (P : Program) (C : Cfg) (call : FuncId → List Value → AH → Option (Value × AH)) (tm : Tr Value) (H : AH) (t : TypeId) (x i : Operand) : Option (Value × AH) :=
  match opd C tm x, opd C tm i with
  | some a, some b => match indexV P t a b with | some v => some (v, H) | none => none
  | _, _ => none

def oLoad (P : Program) (C : Cfg) (call : FuncId → List Value → AH → Option (Value × AH)) (tm : Tr Value) (H : AH) (t : TypeId) (x : Operand) : Option (Value × AH) :=
  match opd C tm x with
  | some a => match loadV P H t a with | some v => some (v, H) | none => none
  | none => none

def oStore (P : Program) (C : Cfg) (call : FuncId → List Value → AH → Option (Value × AH)) (tm : Tr Value) (H : AH) (t : TypeId) (x y : Operand) : Option (Value × AH) :=
  match opd C tm x, opd C tm y with
  | some a, some b => match storeV P H t a b with | some H' => some (undef, H') | none => none
  | _, _ => none

def oField (P : Program) (C : Cfg) (call : FuncId → List Value → AH → Option (Value × AH)) (tm : Tr Value) (H : AH) (t : TypeId) (x : Operand) (f : Nat) : Option (Value × AH) :=
  match opd C tm x with
  | some a => match fieldV P t a f with | some v => some (v, H) | none => none
  | none => none

def oFieldAddr (P : Program) (C : Cfg) (call : FuncId → List Value → AH → Option (Value × AH)) (tm : Tr Value) (H : AH) (t : TypeId) (x : Operand) (f : Nat) : Option (Value × AH) :=
  match opd C tm x with
  | some a => match fieldAddrV P t a f with | some v => some (v, H) | none => none
  | none => none

def oSlice (P : Program) (C : Cfg) (call : FuncId → List Value → AH → Option (Value × AH)) (tm : Tr Value) (H : AH) (t : TypeId) (x : Operand) (lo hi mx : Option Operand) : Option (Value × AH) :=
  match opd C tm x, optOpd C tm lo, optOpd C tm hi, optOpd C tm mx with
  | some a, some l, some h, some m => match sliceV P H t a l h m with | some v => some (v, H) | none => none
  | _, _, _, _ => none

def oMakeSlice (P : Program) (C : Cfg) (call : FuncId → List Value → AH → Option (Value × AH)) (tm : Tr Value) (H : AH) (t : TypeId) (l c : Operand) : Option (Value × AH) :=
  match opd C tm l, opd C tm c with
  | some a, some b => makeSliceV P H t a b
  | _, _ => none

def oBuildSlice (P : Program) (C : Cfg) (call : FuncId → List Value → AH → Option (Value × AH)) (tm : Tr Value) (H : AH) (t : TypeId) (n : Nat) (ps : Array (Nat × Operand)) : Option (Value × AH) :=
  match parts C tm ps.toList with
  | some l => buildSliceV P H t n l
  | none => none

def oBuild (P : Program) (C : Cfg) (call : FuncId → List Value → AH → Option (Value × AH)) (tm : Tr Value) (H : AH) (t : TypeId) (ps : Array (Nat × Operand)) : Option (Value × AH) :=
  match parts C tm ps.toList with
  | some l => match buildV P t l with | some v => some (v, H) | none => none
  | none => none

def oAlloc (P : Program) (C : Cfg) (call : FuncId → List Value → AH → Option (Value × AH)) (tm : Tr Value) (H : AH) (e : TypeId) : Option (Value × AH) :=
  match zeroT P e with
  | some z => some (.pointer (some ⟨H.n, 0, none⟩), H.new 1 z.cells.toList)
  | none => none

def oBox (P : Program) (C : Cfg) (call : FuncId → List Value → AH → Option (Value × AH)) (tm : Tr Value) (H : AH) (x : Operand) : Option (Value × AH) :=
  match opd C tm x with
  | some v => some (.pointer (some ⟨H.n, 0, none⟩), H.new 1 v.cells.toList)
  | none => none

def oNilCheck (P : Program) (C : Cfg) (call : FuncId → List Value → AH → Option (Value × AH)) (tm : Tr Value) (H : AH) (x : Operand) : Option (Value × AH) :=
  match opd C tm x with
  | some (.pointer (some a)) => some (.pointer (some a), H)
  | _ => none

def oMakeFunc (P : Program) (C : Cfg) (call : FuncId → List Value → AH → Option (Value × AH)) (tm : Tr Value) (H : AH) (fn : Fn) (fs cs : Array Operand) : Option (Value × AH) :=
  match opds C tm fs.toList, opds C tm cs.toList with
  | some a, some b => some (.func fn a.toArray b.toArray, H)
  | _, _ => none

def oCall (P : Program) (C : Cfg) (call : FuncId → List Value → AH → Option (Value × AH)) (tm : Tr Value) (H : AH) (c : Call) : Option (Value × AH) :=
  match c.callee with
  | .builtin b => match opds C tm c.args.toList with
    | some xs => builtinV P H b c.argTypes.toList xs
    | none => none
  | .value f => match opd C tm f with
    | some fv => match calleeV fv, opds C tm c.args.toList with
      | some (g, fs, cs), some xs => call g (fs ++ xs ++ cs) H
      | _, _ => none
    | none => none
  | _ => none

def evOp (P : Program) (C : Cfg) (call : FuncId → List Value → AH → Option (Value × AH)) (tm : Tr Value) (H : AH) (op : Op) : Option (Value × AH) :=
  match op with
  | .move x => oMove P C call tm H x
  | .assign x => oAssign P C call tm H x
  | .pick c a b => oPick P C call tm H c a b
  | .binOp op t x y _ => oBinOp P C call tm H op t x y
  | .unOp op _ x => oUnOp P C call tm H op x
  | .convert s d x => oConvert P C call tm H s d x
  | .extract x i => oExtract P C call tm H x i
  | .indexAddr t x i => oIndexAddr P C call tm H t x i
  | .index t x i => oIndex P C call tm H t x i
  | .load t x => oLoad P C call tm H t x
  | .store t x y => oStore P C call tm H t x y
  | .field t x f => oField P C call tm H t x f
  | .fieldAddr t x f => oFieldAddr P C call tm H t x f
  | .slice t x lo hi mx => oSlice P C call tm H t x lo hi mx
  | .makeSlice t l c => oMakeSlice P C call tm H t l c
  | .buildSlice t n ps => oBuildSlice P C call tm H t n ps
  | .build t ps => oBuild P C call tm H t ps
  | .alloc e => oAlloc P C call tm H e
  | .box _ x => oBox P C call tm H x
  | .nilCheck x => oNilCheck P C call tm H x
  | .makeFunc fn fs cs => oMakeFunc P C call tm H fn fs cs
  | .call c => oCall P C call tm H c
  | _ => none

/-! ### regions -/
def putSt (k : Nat) (tm : Tr Value) (dst : Option Tmp) (v : Value) (H : AH) : Option St :=
  match dst with
  | some d => cond (Nat.blt d k) (some { k := k, tm := tm.set d v, H := H }) none
  | none => some { k := k, tm := tm, H := H }

/-- (By cases, so that the kernel does not heap projections up.) -/
def St.put (s : St) (dst : Option Tmp) (v : Value) (H : AH) : Option St :=
  match s with
  | ⟨k, tm, _⟩ => putSt k tm dst v H

/-- Is an operation to be done? (none: not known.) -/
def wantedV (ops : Array Oper) (tm : Tr Value) (o : Oper) : Option Bool :=
  match o.guard with
  | none => some true
  | some (j, want) => match (ops[j]?).bind (·.dst) with
    | some d => match tm.get d with
      | some (.bool b) => some (b == want)
      | some (.tuple _) => some false
      | _ => none
    | none => none

def putRes (k : Nat) (tm : Tr Value) (dst : Option Tmp) : Option (Value × AH) → Option St
  | some (v, H) => putSt k tm dst v H
  | none => none

def oneC (P : Program) (C : Cfg) (call : FuncId → List Value → AH → Option (Value × AH)) (ops : Array Oper) (o : Oper) (k : Nat) (tm : Tr Value) (H : AH) : Option St :=
  match wantedV ops tm o with
  | some true => putRes k tm o.dst (evOp P C call tm H o.op)
  | some false => putSt k tm o.dst undef H
  | none => none

/-- (By recursors, for the kernel's sake.) -/
def evList (P : Program) (C : Cfg) (call : FuncId → List Value → AH → Option (Value × AH)) (ops : Array Oper) (l : List Oper) : St → Option St :=
  List.rec (motive := fun _ => St → Option St) (fun s => some s)
    (fun o _ ih s => Option.rec (motive := fun _ => Option St) none ih (St.rec (motive := fun _ => Option St) (fun k tm H => oneC P C call ops o k tm H) s)) l

theorem evList_nil (P : Program) (C : Cfg) (call : FuncId → List Value → AH → Option (Value × AH)) (ops : Array Oper) (s : St) : evList P C call ops [] s = some s := rfl

theorem evList_cons (P : Program) (C : Cfg) (call : FuncId → List Value → AH → Option (Value × AH)) (ops : Array Oper) (o : Oper) (rest : List Oper) (s : St) :
    evList P C call ops (o :: rest) s = match wantedV ops s.tm o with
    | some true => match evOp P C call s.tm s.H o.op with
      | some (v, H) => match s.put o.dst v H with
        | some s' => evList P C call ops rest s'
        | none => none
      | none => none
    | some false => match s.put o.dst undef s.H with
      | some s' => evList P C call ops rest s'
      | none => none
    | none => none := by
  obtain ⟨k, tm, H⟩ := s
  show Option.rec (motive := fun _ => Option St) none (evList P C call ops rest) (oneC P C call ops o k tm H) = _
  unfold oneC
  simp only
  cases wantedV ops tm o with
  | none => rfl
  | some b =>
    cases b with
    | false =>
      simp only [St.put]
      cases putSt k tm o.dst undef H <;> rfl
    | true =>
      simp only [St.put]
      cases evOp P C call tm H o.op with
      | none => rfl
      | some r =>
        obtain ⟨v, H2⟩ := r
        simp only [putRes]
        cases putSt k tm o.dst v H2 <;> rfl

/-- Does an operation look at the heap, or change it? -/
def heapOp : Op → Bool
  | .load .. | .store .. | .makeSlice .. | .buildSlice .. | .alloc _ | .box .. => true
  | .slice .. => true
  | .call { callee := .builtin .len, .. } | .call { callee := .builtin .min, .. } | .call { callee := .builtin .max, .. } => false
  | .call _ => true
  | _ => false

/-- What an operation waits for, as bits, by the bits of the earlier ones. -/
def bitsOf (acc : List Nat) : List Edge → Nat
  | [] => 0
  | e :: r => cond (Region.binds .any e) (2 ^ e.on ||| (acc.getD e.on 0 ||| bitsOf acc r)) (bitsOf acc r)

def befs : List Oper → List Nat → List Nat
  | [], acc => acc
  | o :: r, acc => befs r (acc ++ [bitsOf acc o.after.toList])

def before (ops : Array Oper) : List Nat := befs ops.toList []

/-- What the order of a region's operations must bear: edges lead back; what shares a temporary is ordered. -/
def regOk (ops : Array Oper) : Bool :=
  let b := before ops
  (List.range ops.size).all fun j => match ops[j]? with
    | none => false
    | some o => (o.after.toList.all fun e => !Region.binds .any e || Nat.blt e.on j) &&
      (List.range j).all fun i => match ops[i]? with
        | none => false
        | some x => (b.getD j 0).testBit i || x.apart ops o

/-- Is an operation ordered against all others that look at the heap? -/
def alone (ops : Array Oper) (i : Nat) : Bool :=
  let b := before ops
  (List.range ops.size).all fun k => Nat.beq k i || match ops[k]? with
    | none => true
    | some o => !heapOp o.op || cond (Nat.blt k i) ((b.getD i 0).testBit k) ((b.getD k 0).testBit i)

def hideT (t : Tr Blk) : List Nat → Tr Blk
  | [] => t
  | i :: r => (hideT t r).set i .dead

/-- The new blocks of a heap, laid beside. -/
def addT (t : Tr Blk) (H2 : AH) (n : Nat) : Nat → Tr Blk
  | 0 => t
  | k + 1 => (addT t H2 n k).set (n + k) (H2.blk (n + k))

/-- Which blocks an operation must not see: those that operations not ordered ahead of it have made in this region. -/
def hidden (b : Nat) : List (Nat × Nat × Nat) → List Nat
  | [] => []
  | (k, lo, hi) :: r => cond (b.testBit k) (hidden b r) ((List.range (hi - lo)).map (lo + ·) ++ hidden b r)

/-- One operation of a region that draws its order. q: has an operation of this region written what was there before? The result: the value, the heap, q behind it. -/
def evDrawOp (P : Program) (C : Cfg) (call : FuncId → List Value → AH → Option (Value × AH)) (ops : Array Oper) (i : Nat) (q : Bool) (ms : List (Nat × Nat × Nat)) (s : St) (o : Oper) : Option (Value × AH × Bool) :=
  cond (heapOp o.op)
    (match hidden ((before ops).getD i 0) ms with
    | hs => match evOp P C call s.tm { n := s.H.n, lw := s.H.n, t := hideT s.H.t hs } o.op with
      | some (v, H2) => cond (Nat.ble s.H.n H2.n) (cond (!q && Nat.ble s.H.n H2.lw)
          (some (v, { n := H2.n, lw := s.H.lw, t := addT s.H.t H2 s.H.n (H2.n - s.H.n) }, false))
          (cond (alone ops i && hs.isEmpty) (some (v, { n := H2.n, lw := min s.H.lw H2.lw, t := H2.t }, true)) none)) none
      | none => none)
    (match evOp P C call s.tm s.H o.op with
    | some (v, _) => some (v, s.H, q)
    | none => none)

def evDraw (P : Program) (C : Cfg) (call : FuncId → List Value → AH → Option (Value × AH)) (ops : Array Oper) : Nat → Bool → List (Nat × Nat × Nat) → List Oper → St → Option St
  | _, _, _, [], s => some s
  | i, q, ms, o :: rest, s => match wantedV ops s.tm o with
    | some true => match evDrawOp P C call ops i q ms s o with
      | some (v, H, q') => match s.put o.dst v H with
        | some s' => evDraw P C call ops (i + 1) q' (cond (Nat.blt s.H.n H.n) ((i, s.H.n, H.n) :: ms) ms) rest s'
        | none => none
      | none => none
    | some false => match s.put o.dst undef s.H with
      | some s' => evDraw P C call ops (i + 1) q ms rest s'
      | none => none
    | none => none

def evRegionD (P : Program) (C : Cfg) (call : FuncId → List Value → AH → Option (Value × AH)) (ops : Array Oper) (draw : Bool) (s : St) : Option St :=
  cond draw (cond (regOk ops) (evDraw P C call ops 0 false [] ops.toList s) none) (evList P C call ops ops.toList s)

/-- What an operation touches: none: not known; some none: no memory; some (some (block, does it write)). -/
def memFoot (C : Cfg) (tm : Tr Value) (op : Op) : Option (Option (Nat × Bool)) :=
  match op with
  | .load _ x => match opd C tm x with
    | some (.pointer (some ⟨b, _, none⟩)) => some (some (b, false))
    | _ => none
  | .store _ x _ => match opd C tm x with
    | some (.pointer (some ⟨b, _, none⟩)) => some (some (b, true))
    | _ => none
  | op => cond (heapOp op) none (some none)

/-- Is what touches the same block, where one of both writes, ordered? -/
def noClash (bits b : Nat) (w : Bool) : List (Nat × Nat × Bool) → Bool
  | [] => true
  | (k, b', w') :: r => (!Nat.beq b b' || !(w || w') || bits.testBit k) && noClash bits b w r

/-- A region that draws its order, of loads and stores alone. -/
def evMem (P : Program) (C : Cfg) (call : FuncId → List Value → AH → Option (Value × AH)) (ops : Array Oper) : Nat → List (Nat × Nat × Bool) → List Oper → St → Option St
  | _, _, [], s => some s
  | i, fs, o :: rest, s => match wantedV ops s.tm o with
    | some true => match memFoot C s.tm o.op with
      | some none => match evOp P C call s.tm s.H o.op with
        | some (v, _) => match s.put o.dst v s.H with
          | some s' => evMem P C call ops (i + 1) fs rest s'
          | none => none
        | none => none
      | some (some (b, w)) => cond (noClash ((before ops).getD i 0) b w fs)
        (match evOp P C call s.tm s.H o.op with
        | some (v, H) => match s.put o.dst v H with
          | some s' => evMem P C call ops (i + 1) ((i, b, w) :: fs) rest s'
          | none => none
        | none => none) none
      | none => none
    | some false => match s.put o.dst undef s.H with
      | some s' => evMem P C call ops (i + 1) fs rest s'
      | none => none
    | none => none

def memOnly (ops : Array Oper) : Bool :=
  ops.toList.all fun o => match o.op with
    | .load .. => true
    | .store .. => true
    | op => !heapOp op

def evRegion (P : Program) (C : Cfg) (call : FuncId → List Value → AH → Option (Value × AH)) (ops : Array Oper) (draw : Bool) (s : St) : Option St :=
  cond (draw && memOnly ops) (cond (regOk ops) (evMem P C call ops 0 [] ops.toList s) none) (evRegionD P C call ops draw s)

/-! ### code, calls -/
def resOne (P : Program) (s : St) : ResultVar → Option Value
  | .tmp t => s.tm.get t
  | .cell a t => match s.tm.get a with
    | some x => loadV P s.H t x
    | none => none

def resultV (P : Program) (s : St) : List ResultVar → Option (List Value)
  | [] => some []
  | r :: rs => match resOne P s r with
    | some v => match resultV P s rs with
      | some vs => some (v :: vs)
      | none => none
    | none => none

def packV : List Value → Value
  | [v] => v
  | vs => .tuple vs.toArray

def tmOf : Nat → List Value → Tr Value → Tr Value
  | _, [], t => t
  | i, v :: vs, t => tmOf (i + 1) vs (t.set i v)

def natsOf : List Value → Option (Nat × Nat × Nat)
  | [.int .u64 a, .int .u64 b, .int .u64 c] => if 0 ≤ a ∧ 0 ≤ b ∧ 0 ≤ c ∧ c ≤ 1 then some (a.toNat, b.toNat, c.toNat) else none
  | _ => none

def evCall (P : Program) (C : Cfg) (ih : Code → St → Option (Ex × St)) (f : FuncId) (args : List Value) (H : AH) : Option (Value × AH) :=
  cond (Nat.beq f C.add)
    (match natsOf args with
    | some (x, y, c) => some (.tuple #[.int .u64 (Int.ofNat ((x + y + c) % 18446744073709551616)), .int .u64 (Int.ofNat ((x + y + c) / 18446744073709551616))], H)
    | none => none)
  (cond (Nat.beq f C.sub)
    (match natsOf args with
    | some (x, y, c) => some (.tuple #[.int .u64 (Int.ofNat ((x + 18446744073709551616 - y - c) % 18446744073709551616)), .int .u64 (cond (Nat.blt x (y + c)) 1 0)], H)
    | none => none)
  (match P.funcs[f]? with
  | some fn => match fn.body with
    | some c => cond (Nat.beq fn.params.size args.length || true)
        (match ih c { k := args.length + (fn.ntmps - args.length), tm := tmOf 0 args .nil, H := H } with
        | some (.norm, s) => match resultV P s fn.results.toList with
          | some vs => some (packV vs, s.H)
          | none => none
        | some (.ret, s) => match resultV P s fn.results.toList with
          | some vs => some (packV vs, s.H)
          | none => none
        | _ => none) none
    | none => none
  | none => none))

def evStep (P : Program) (C : Cfg) (ih : Code → St → Option (Ex × St)) (c : Code) (s : St) : Option (Ex × St) :=
  match c with
  | .skip => some (.norm, s)
  | .region _ ops draw => match evRegion P C (evCall P C ih) ops draw s with
    | some s' => some (.norm, s')
    | none => none
  | .seq a b => match ih a s with
    | some (.norm, s') => ih b s'
    | r => r
  | .cond x a b => match opd C s.tm x with
    | some (.bool t) => ih (cond t a b) s
    | _ => none
  | .block id body => match ih body s with
    | some (.exit j, s') => cond (Nat.beq j id) (some (.norm, s')) (some (.exit j, s'))
    | r => r
  | .loop body => match ih body s with
    | some (.norm, s') => ih (.loop body) s'
    | r => r
  | .exit id => some (.exit id, s)
  | .ret => some (.ret, s)
  | _ => none

def ev (P : Program) (C : Cfg) (n : Nat) : Code → St → Option (Ex × St) :=
  Nat.rec (fun _ _ => none) (fun _ ih => evStep P C ih) n

theorem ev_zero (P : Program) (C : Cfg) : ev P C 0 = fun _ _ => none := rfl
theorem ev_succ (P : Program) (C : Cfg) (n : Nat) : ev P C (n + 1) = evStep P C (ev P C n) := rfl

/-- A call, with n rounds. -/
def run (P : Program) (C : Cfg) (n : Nat) (f : FuncId) (args : List Value) (H : AH) : Option (Value × AH) := evCall P C (ev P C n) f args H

end
end Go.Proofs.Ytldapilhmmbjhaa.Ev
