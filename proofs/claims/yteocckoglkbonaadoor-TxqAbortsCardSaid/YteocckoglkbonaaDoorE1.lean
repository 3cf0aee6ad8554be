/- The abstract machine: pure values, a small heap of a function's own variables and rows, and what an operation does to them. -/
import Derived.RangeFuncIn
import Derived.OrdersIn
import Derived.Below
import Derived.Laws.OwnMore
import Derived.Laws.MakeOwn
import Derived.KernelRfl
set_option linter.unusedVariables false
set_option linter.unusedSimpArgs false
namespace Go.Abs
open Go.RowKit

/-- How a slice is known: plain (any capacity), nil. -/
inductive Fl where
  | p | n

/-- Abstract values. 'sl': a slice whose memory is never written again; 'own': one of the function's own rows; 'ptr', 'ptrE': into own variables and rows; 'pin': into memory that is never written again. -/
inductive AV where
  | bool (b : Bool)
  | int (k : IntKind) (n : Int)
  | str (s : ByteArray)
  | agg (cs : List AV)
  | tup (vs : List AV)
  | sl (fl : Fl) (xs : List AV)
  | fn (f : FuncId) (cap : List AV)
  | pin (cs : List AV) (off : Nat)
  | nilp
  | ptr (id off : Nat)
  | ptrE (id i off : Nat)
  | own (id : Nat)
  | junk

/-- Own objects. -/
inductive Ob where
  | unborn
  | dead
  | box (T : TypeId) (cs : List AV)
  | row (T : TypeId) (s : Nat) (xs : List AV)
  | fro (xs : List AV)
  | fbox (cs : List AV)
  | mp (ks : List Int)

/-- What the script answers. -/
inductive Ans where
  | b (b : Bool)
  | e (x : AV)
  | c (rows : List Ob) (r : AV)
  | cf (rows : List Ob) (r : AV)
  | ci (T : TypeId) (s : Nat) (ys : List AV)
  | v (x : AV)
  | j

abbrev Script := List (Nat × Ans)
abbrev Heap := List Ob

def AV.cells : AV → List AV
  | .agg cs => cs
  | x => [x]

mutual
def AV.refs : AV → List Nat
  | .ptr id _ => [id]
  | .ptrE id _ _ => [id]
  | .own id => [id]
  | .agg cs => AV.refsL cs
  | .tup cs => AV.refsL cs
  | _ => []
def AV.refsL : List AV → List Nat
  | [] => []
  | x :: xs => x.refs ++ AV.refsL xs
end


mutual
def AV.view (look : Nat → Ob) : AV → Option AV
  | .own id => match look id with
    | .row _ _ xs => some (.sl .p xs)
    | .fro xs => some (.sl .p xs)
    | _ => none
  | .agg cs => match AV.viewL look cs with
    | some l => some (.agg l)
    | none => none
  | .tup cs => match AV.viewL look cs with
    | some l => some (.tup l)
    | none => none
  | .sl _ xs => some (.sl .p xs)
  | .ptr id off => match look id with
    | .fbox cs => some (.pin cs off)
    | _ => none
  | .ptrE _ _ _ => none
  | .junk => none
  | x => some x
def AV.viewL (look : Nat → Ob) : List AV → Option (List AV)
  | [] => some []
  | x :: xs => match x.view look with
    | some y => match AV.viewL look xs with
      | some ys => some (y :: ys)
      | none => none
    | none => none
end

/-- A value of the program as an abstract one. -/
def ofCell : Value → AV
  | .bool b => .bool b
  | .int k n => .int k n
  | .string s => .str s
  | .pointer none => .nilp
  | .slice none 0 0 => .sl .n []
  | _ => .junk
def ofValue : Value → AV
  | .agg cs => .agg (cs.toList.map ofCell)
  | v => ofCell v

/-- All of some statements. -/
def All : List Prop → Prop
  | [] => True
  | p :: r => p ∧ All r

def getO (h : Heap) (id : Nat) : Ob := h.getD id .unborn

/-- What an operation does: its value, what it changes, what it makes; what it takes for granted. -/
structure Eff where
  val : AV
  upd : List (Nat × Ob)
  new : List Ob
  obl : List Prop

def effV (x : AV) : Option Eff := some ⟨x, [], [], []⟩
def effIf (p : Prop) (x : AV) : Option Eff := some ⟨x, [], [], [p]⟩

def isAggD : TypeDesc → Bool
  | .struct _ => true
  | .array _ _ => true
  | _ => false
def isAgg (P : Program) (t : TypeId) : Option Bool := (P.underlying t).map isAggD
def sz (P : Program) (t : TypeId) : Option Nat := (P.info? t).map (·.size)

/-- Part of some cells: a whole one of that type. -/
def partOf (P : Program) (t : TypeId) (cs : List AV) (off : Nat) : Option AV :=
  match isAgg P t, sz P t with
  | some true, some n => if off + n ≤ cs.length then some (.agg ((cs.drop off).take n)) else none
  | some false, some n => if n = 1 then cs[off]? else none
  | _, _ => none

def bits (k : IntKind) (f : BitVec k.bits → BitVec k.bits → BitVec k.bits) (a b : Int) : AV :=
  .int k (k.wrap (f (BitVec.ofInt k.bits a) (BitVec.ofInt k.bits b)).toNat)

def binInt (op : BinOp) (k : IntKind) (a b : Int) : Option Eff :=
  match op with
  | .add => effV (.int k (k.wrap (a + b)))
  | .sub => effV (.int k (k.wrap (a - b)))
  | .mul => effV (.int k (k.wrap (a * b)))
  | .quo => effIf (b ≠ 0) (.int k (k.wrap (a.tdiv b)))
  | .rem => effIf (b ≠ 0) (.int k (a.tmod b))
  | .and => effV (bits k (· &&& ·) a b)
  | .or => effV (bits k (· ||| ·) a b)
  | .xor => effV (bits k (· ^^^ ·) a b)
  | .andNot => effV (bits k (fun x y => x &&& ~~~y) a b)
  | .eql => effV (.bool (a == b))
  | .neq => effV (.bool (a != b))
  | .lss => effV (.bool (a < b))
  | .leq => effV (.bool (a ≤ b))
  | .gtr => effV (.bool (a > b))
  | .geq => effV (.bool (a ≥ b))
  | _ => none

def shiftInt (op : BinOp) (k : IntKind) (a b : Int) : Option Eff :=
  match op with
  | .shl => effIf (0 ≤ b) (.int k (k.wrap (a * 2 ^ min b.toNat k.bits)))
  | .shr => effIf (0 ≤ b) (.int k (a.fdiv (2 ^ min b.toNat k.bits)))
  | _ => none

/-- Cells that are held against each other, by kinds: bools (0), whole numbers (1), strings (2). -/
def eqvC : Nat → AV → AV → Option Bool
  | 0, .bool a, .bool b => some (a == b)
  | 1, .int k a, .int k' b => if k = k' then some (a == b) else none
  | 2, .str a, .str b => some (a.toList == b.toList)
  | _, _, _ => none
def eqvL : List Nat → List AV → List AV → Option Bool
  | [], [], [] => some true
  | q :: qs, x :: xs, y :: ys => match eqvC q x y with
    | some b => (match eqvL qs xs ys with
      | some c => some (b && c)
      | none => none)
    | none => none
  | _, _, _ => none

/-- Types whose values are held against each other cell by cell: the kinds of their cells. -/
def flatF (P : Program) (rec : TypeId → Option (List Nat)) : List Field → Nat → Option (List Nat)
  | [], _ => some []
  | f :: fs, acc => if f.name != "_" && f.offset == acc then
      (match rec f.type with
      | some ks => if sz P f.type = some ks.length then
          (match flatF P rec fs (acc + ks.length) with
          | some r => some (ks ++ r)
          | none => none) else none
      | none => none) else none
def flatK (P : Program) : Nat → TypeId → Option (List Nat)
  | 0, _ => none
  | d + 1, t => match P.underlying t with
    | some .bool => some [0]
    | some (.int _) => some [1]
    | some .string => some [2]
    | some (.struct fs) => if P.stoodInHeld t then none else flatF P (flatK P d) fs.toList 0
    | _ => none

def strOp (op : BinOp) (a b : ByteArray) : Option Eff :=
  match op with
  | .add => effIf (a.size + b.size ≤ 9223372036854775807) (.str (a ++ b))
  | .eql => effV (.bool (a.toList == b.toList))
  | .neq => effV (.bool (!(a.toList == b.toList)))
  | .lss => effV (.bool (Op.bytesLess a.toList b.toList))
  | _ => none

def binA (P : Program) (op : BinOp) (t : TypeId) (x y : AV) : Option Eff :=
  match x, y with
  | .int k a, .int k' b => match op with
    | .shl => shiftInt op k a b
    | .shr => shiftInt op k a b
    | _ => if k = k' then binInt op k a b else none
  | .str a, .str b => strOp op a b
  | .bool a, .bool b => (match P.underlying t, op with
    | some .bool, .eql => effV (.bool (a == b))
    | some .bool, .neq => effV (.bool (!(a == b)))
    | _, _ => none)
  | .agg cs, .agg ds => (match flatK P 8 t, isAgg P t with
    | some ks, some true => (match eqvL ks cs ds with
        | some b => (match op with
          | .eql => effV (.bool b)
          | .neq => effV (.bool (!b))
          | _ => none)
        | none => none)
    | _, _ => none)
  | _, _ => none

def unA (op : UnOp) (x : AV) : Option Eff :=
  match op, x with
  | .not, .bool b => effV (.bool (!b))
  | .neg, .int k n => effV (.int k (k.wrap (0 - n)))
  | .xor, .int k n => effV (bits k (· ^^^ ·) (if k.signed then -1 else k.max) n)
  | _, _ => none

/-- The length that is told of a value. -/
def lenA (P : Program) (look : Nat → Ob) (T : TypeId) : AV → Option Int
  | .str s => (match P.underlying T with
    | some .string => some s.size
    | _ => none)
  | .sl _ xs => (match P.underlying T with
    | some (.slice _) => some xs.length
    | _ => none)
  | .own id => (match P.underlying T with
    | some (.slice _) => (match look id with
      | .row _ _ xs => some xs.length
      | .fro xs => some xs.length
      | _ => none)
    | some (.map _ _) => (match look id with
      | .mp ks => some ks.length
      | _ => none)
    | _ => none)
  | _ => none

def fieldA (P : Program) (T : TypeId) (f : Nat) : Option (Nat × TypeId) :=
  match P.underlying T with
  | some (.struct fs) => match fs.toList[f]? with
    | some fd => match sz P fd.type with
      | some 0 => none
      | some _ => some (fd.offset, fd.type)
      | none => none
    | none => none
  | _ => none

def elemA (P : Program) (T : TypeId) : Option TypeId :=
  match P.underlying T with
  | some (.slice e) => some e
  | _ => none

def arrA (P : Program) (T : TypeId) : Option (Nat × TypeId) :=
  match P.underlying T with
  | some (.array n e) => some (n, e)
  | _ => none

/-- Values of one cell, known. -/
def AV.one : AV → Bool
  | .agg _ => false
  | .tup _ => false
  | .junk => false
  | _ => true
def known : List AV → Bool
  | [] => true
  | x :: r => x.one && known r

/-- Values of one cell without references. -/
def AV.pc : AV → Bool
  | .agg _ => false
  | .tup _ => false
  | .junk => false
  | .ptr _ _ => false
  | .ptrE _ _ _ => false
  | .own _ => false
  | _ => true
def pures : List AV → Bool
  | [] => true
  | x :: r => x.pc && pures r

/-- Cells put into cells. -/
def spl (cs : List AV) (off : Nat) (ds : List AV) : List AV := cs.take off ++ (ds ++ cs.drop (off + ds.length))

def fillA (place : Nat → Option (Nat × Nat)) : List (Nat × AV) → List AV → Option (List AV)
  | [], cs => some cs
  | (i, x) :: rest, cs => match place i with
    | none => none
    | some (off, n) => if x.cells.length = n ∧ known x.cells = true ∧ off + n ≤ cs.length then fillA place rest (spl cs off x.cells) else none

def zeroA (P : Program) (t : TypeId) : Option AV :=
  match P.info? t with
  | some i => match i.zero with
    | some v => some (ofValue v)
    | none => none
  | none => none

def repl (cs : List AV) : Nat → List AV
  | 0 => []
  | n + 1 => cs ++ repl cs n

/-- Cells in groups of n. -/
def groups (n : Nat) (agg : Bool) : Nat → List AV → Option (List AV)
  | 0, cs => if cs.isEmpty then some [] else none
  | m + 1, cs =>
    if agg then
      if n ≤ cs.length then (match groups n agg m (cs.drop n) with | some r => some (.agg (cs.take n) :: r) | none => none) else none
    else match cs with
      | c :: r => (match groups n agg m r with | some r => some (c :: r) | none => none)
      | [] => none

def bnd (x : AV) : Option Int := match x with | .int _ n => some n | _ => none

def boundsA (lo hi : Option AV) (n : Nat) : Option (Int × Int) :=
  match (match lo with | none => some 0 | some l => bnd l), (match hi with | none => some (n : Int) | some h => bnd h) with
  | some l, some h => some (l, h)
  | _, _ => none

/-- Slicing: of bounds from lo to hi. -/
def sliceA (P : Program) (look : Nat → Ob) (T : TypeId) (x : AV) (lo hi : Option AV) : Option Eff :=
  match x with
  | .str s => (match P.underlying T, boundsA lo hi s.size with
    | some .string, some (l, h) => effIf (0 ≤ l ∧ l ≤ h ∧ h ≤ s.size) (.str (s.extract l.toNat h.toNat))
    | _, _ => none)
  | .sl _ xs => (match elemA P T, boundsA lo hi xs.length with
    | some e, some (l, h) => (match sz P e with
      | some n => some ⟨.sl .p ((xs.take h.toNat).drop l.toNat), [], [], [0 ≤ l ∧ l ≤ h ∧ h ≤ xs.length, ∀ y ∈ xs, y.cells.length = n]⟩
      | none => none)
    | _, _ => none)
  | .own id => (match look id with
    | .row _ _ xs => (match elemA P T, boundsA lo hi xs.length with
      | some e, some (l, h) => (match sz P e with
        | some n => some ⟨.sl .p ((xs.take h.toNat).drop l.toNat), [(id, .fro xs)], [], [0 ≤ l ∧ l ≤ h ∧ h ≤ xs.length, ∀ y ∈ xs, y.cells.length = n]⟩
        | none => none)
      | _, _ => none)
    | .fro xs => (match elemA P T, boundsA lo hi xs.length with
      | some e, some (l, h) => (match sz P e with
        | some n => some ⟨.sl .p ((xs.take h.toNat).drop l.toNat), [], [], [0 ≤ l ∧ l ≤ h ∧ h ≤ xs.length, ∀ y ∈ xs, y.cells.length = n]⟩
        | none => none)
      | _, _ => none)
    | _ => none)
  | _ => none

/-! ### What abstract values stand for -/

mutual
/-- A value that reads as an abstract one, all its memory in blocks of A. -/
inductive Rep (A : Nat → Prop) (w : World) : AV → Value → Prop
  | bool (b) : Rep A w (.bool b) (.bool b)
  | int (k n) : Rep A w (.int k n) (.int k n)
  | str (s) : Rep A w (.str s) (.string s)
  | agg {cs vs} : RepL A w cs vs → Rep A w (.agg cs) (.agg vs.toArray)
  | tup {cs vs} : RepL A w cs vs → Rep A w (.tup cs) (.tuple vs.toArray)
  | fn {f cap vs} : RepL A w cap vs → Rep A w (.fn f cap) (.func (.func f) #[] vs.toArray)
  | nilp : Rep A w .nilp (.pointer none)
  | pin {cs off b o} : A b → RepAt A w cs b o → Rep A w (.pin cs off) (.pointer (some ⟨b, o + off, none⟩))
  | nil (fl) : Rep A w (.sl fl []) (.slice none 0 0)
  | sl0 {ad cap} : cap ≤ maxLen → Rep A w (.sl .p []) (.slice (some ad) 0 cap)
  | sl {x xs b o s n cap} : n = (x :: xs).length → n ≤ cap → cap ≤ maxLen → A b → RepRow A w s (x :: xs) b o → Rep A w (.sl .p (x :: xs)) (.slice (some ⟨b, o, none⟩) n cap)
inductive RepL (A : Nat → Prop) (w : World) : List AV → List Value → Prop
  | nil : RepL A w [] []
  | cons {x xs v vs} : Rep A w x v → RepL A w xs vs → RepL A w (x :: xs) (v :: vs)
inductive RepAt (A : Nat → Prop) (w : World) : List AV → Nat → Nat → Prop
  | nil (b o) : RepAt A w [] b o
  | cons {x xs v b o} : w.cell? ⟨b, o, none⟩ = some v → v.oneCell' = true → Rep A w x v → RepAt A w xs b (o + 1) → RepAt A w (x :: xs) b o
inductive RepRow (A : Nat → Prop) (w : World) : Nat → List AV → Nat → Nat → Prop
  | nil (s b o) : RepRow A w s [] b o
  | agg {cs xs b o} : RepAt A w cs b o → RepRow A w cs.length xs b (o + cs.length) → RepRow A w cs.length (.agg cs :: xs) b o
  | one {x xs v b o} : x.cells = [x] → w.cell? ⟨b, o, none⟩ = some v → v.oneCell' = true → Rep A w x v → RepRow A w 1 xs b (o + 1) → RepRow A w 1 (x :: xs) b o
end

/-- Semantic heaps. -/
abbrev SH := Nat → Ob

mutual
/-- A value that reads as an abstract one with references into own objects; 'φ': each object's own value (a box: its address; a row: its slice). -/
inductive VRep (h : SH) (φ : Nat → Value) (A : Nat → Prop) (w : World) : AV → Value → Prop
  | pure {x v} : Rep A w x v → VRep h φ A w x v
  | agg {cs vs} : VRepL h φ A w cs vs → VRep h φ A w (.agg cs) (.agg vs.toArray)
  | tup {cs vs} : VRepL h φ A w cs vs → VRep h φ A w (.tup cs) (.tuple vs.toArray)
  | ptr {id off b} : h id ≠ .unborn → φ id = .pointer (some ⟨b, 0, none⟩) → VRep h φ A w (.ptr id off) (.pointer (some ⟨b, off, none⟩))
  | ptrE {id i off v} : h id ≠ .unborn → v.oneCell' = true → (∀ T s xs, h id = .row T s xs → ∃ b n c, φ id = .slice (some ⟨b, 0, none⟩) n c ∧ v = .pointer (some ⟨b, i * s + off, none⟩)) → VRep h φ A w (.ptrE id i off) v
  | own {id v} : h id ≠ .unborn → v.oneCell' = true → (h id ≠ .dead → v = φ id) → VRep h φ A w (.own id) v
  | junk (v) : VRep h φ A w .junk v
inductive VRepL (h : SH) (φ : Nat → Value) (A : Nat → Prop) (w : World) : List AV → List Value → Prop
  | nil : VRepL h φ A w [] []
  | cons {x xs v vs} : VRep h φ A w x v → VRepL h φ A w xs vs → VRepL h φ A w (x :: xs) (v :: vs)
end

/-- The block that an object's value points to. -/
def blk : Value → Option Nat
  | .pointer (some a) => some a.block
  | .slice (some a) _ _ => some a.block
  | .map (some b) => some b
  | _ => none

/-- Objects that may be written. -/
def Ob.live : Ob → Bool
  | .box _ _ => true
  | .row _ _ _ => true
  | .mp _ => true
  | _ => false

/-- Where a function begins: which blocks its arguments may lie in; how many blocks there were; the world. -/
structure C0 where
  A0 : Nat → Prop
  w0 : World

/-- The blocks that will not be written: the arguments', and new ones but those of own objects that may be written. -/
def okB (C : C0) (h : SH) (φ : Nat → Value) (w : World) (b : Nat) : Prop :=
  b < w.heap.size ∧ (C.A0 b ∨ C.w0.heap.size ≤ b) ∧ ∀ id, (h id).live = true → blk (φ id) ≠ some b

def ORep (C : C0) (h : SH) (φ : Nat → Value) (w : World) (v : Value) : Ob → Prop
  | .unborn => True
  | .dead => True
  | .box T cs => ∃ b vs, v = .pointer (some ⟨b, 0, none⟩) ∧ C.w0.heap.size ≤ b ∧ w.heap[b]? = some (.cells vs.toArray T (0, 0)) ∧ VRepL h φ (okB C h φ w) w cs vs ∧ ∀ u ∈ vs, u.oneCell' = true
  | .row T s xs => ∃ cells, w.ownsRow C.w0.heap.size T s v xs.length cells ∧ RepL (okB C h φ w) w (xs.flatMap AV.cells) cells ∧ (∀ x ∈ xs, x.cells.length = s) ∧ 0 < s ∧ ∀ u ∈ cells, u.oneCell' = true
  | .fro xs => Rep (okB C h φ w) w (.sl .p xs) v
  | .fbox cs => ∃ b, v = .pointer (some ⟨b, 0, none⟩) ∧ okB C h φ w b ∧ RepAt (okB C h φ w) w cs b 0
  | .mp ks => ∃ b es clk, v = .map (some b) ∧ C.w0.heap.size ≤ b ∧ w.heap[b]? = some (.map es clk) ∧ es.toList.map (fun e => e.key) = ks.map (Value.int .i64) ∧ (∀ e ∈ es.toList, e.val = .agg #[])

/-- The machine's world is as the abstract heap says; what was there when the function began has not changed. -/
structure Rel (C : C0) (h : SH) (φ : Nat → Value) (w : World) : Prop where
  below : Below C.w0.heap.size C.w0 w
  obj : ∀ id, ORep C h φ w (φ id) (h id)
  inj : ∀ id id' b, (h id).live = true → (h id').live = true → blk (φ id) = some b → blk (φ id') = some b → id = id'

/-- A list of objects as a heap. -/
def toSH (l : List Ob) : SH := fun id => l.getD id .unborn

/-- What a call comes to: it returns; the result reads as r, with rows of its own; nothing that was there has changed. -/
def ARes (C : C0) (rows : List Ob) (r : AV) (e : Ending) (w' : World) : Prop :=
  ∃ v φ, e = .returned v ∧ Rel C (toSH rows) φ w' ∧ VRep (toSH rows) φ (okB C (toSH rows) φ w') w' r v

/-- What the program's variables hold. -/
abbrev Env := World → Prop

/-- A function with a body: a call of it enters it. -/
def Enters (P : Program) (f : FuncId) : Prop := ∃ fn c, P.funcs[f]? = some fn ∧ (fn.name == "runtime.NumGoroutine") = false ∧ fn.body = some c

def ACalls (P : Program) (E : Env) (f : FuncId) (args : List AV) (rows : List Ob) (r : AV) : Prop :=
  Enters P f ∧ ∀ (C : C0) (vs : List Value), E C.w0 → (∀ b, C.A0 b → b < C.w0.heap.size) → RepL C.A0 C.w0 args vs →
    CallsIn Fence.wide 0 P f vs.toArray C.w0 (ARes C rows r)

/-- A call that takes a row over: what it hands back is a row again, in the same block or in a new one; no other block changes. -/
def ICalls (P : Program) (f : FuncId) (T : TypeId) (s : Nat) (xs as ys : List AV) : Prop :=
  Enters P f ∧ ∀ (B : Nat) (A : Nat → Prop) (w : World) (v : Value) (cells vs : List Value), w.ownsRow B T s v xs.length cells → RepL A w (xs.flatMap AV.cells) cells → (∀ u ∈ cells, u.oneCell' = true) →
    B ≤ w.heap.size → (∀ b, A b → b < w.heap.size ∧ v.ownBlock ≠ some b) → RepL A w as vs →
    CallsIn Fence.wide 0 P f (v :: vs).toArray w fun e w' => ∃ v' cells', e = .returned v' ∧ w'.ownsRow B T s v' ys.length cells' ∧ RepL A w' (ys.flatMap AV.cells) cells' ∧
      (∀ u ∈ cells', u.oneCell' = true) ∧ w.grownBy w' v.ownBlock ∧ ∀ b, blk v' = some b → w.heap.size ≤ b ∨ v.ownBlock = some b

/-- What holds of the program's variables goes on holding while nothing that was there changes. -/
def EnvOK (E : Env) : Prop := ∀ w w', E w → Below w.heap.size w w' → E w'

end Go.Abs
