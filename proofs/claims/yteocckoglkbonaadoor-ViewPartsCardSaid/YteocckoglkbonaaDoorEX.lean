/- The abstract machine: pure values, a small heap of a function's own variables and rows, and what an operation does to them. -/
import Derived.RangeFuncIn
import Derived.OrdersIn
import Derived.Below
import Derived.Laws.OwnMore
import Derived.Laws.MakeOwn
import Derived.KernelRfl
import Derived.Laws.StructEq
import Derived.Laws.CopyRow
import Derived.Laws.Cells
import Derived.Laws.Tables
set_option linter.unusedVariables false
set_option linter.unusedSimpArgs false
namespace Go.Abs
open Go.RowKit

/-- How a slice is known: plain (any capacity), nil. -/
inductive Fl where
  | p | n | t

/-- Abstract values. 'sl': a slice whose memory is never written again; 'own': one of the function's own rows; 'ptr', 'ptrE': into own variables and rows; 'pin': into memory that is never written again. -/
inductive AV where
  | bool (b : Bool)
  | int (k : IntKind) (n : Int)
  | str (s : ByteArray)
  | agg (cs : List AV)
  | tup (vs : List AV)
  | sl (fl : Fl) (xs : List AV)
  | fn (f : FuncId) (cap : List AV)
  | pin (cs : List AV) (off : Nat)
  | nilp
  | ptr (id off : Nat)
  | ptrE (id i off : Nat)
  | own (id : Nat)
  | yld (id : Nat) (foot : List Nat)
  | junk

/-- How a loop over a function stands. -/
inductive LSt where
  | ready
  | busy
  | done (c : Code)

/-- Own objects. 'lp': the record of a loop over a function; 'df': its block of deferred calls. -/
inductive Ob where
  | unborn
  | dead
  | box (T : TypeId) (cs : List AV)
  | row (T : TypeId) (s : Nat) (xs : List AV)
  | fro (xs : List AV)
  | fbox (cs : List AV)
  | mp (ks : List Int)
  | lp (ts : List AV) (f : FuncId) (ps : List Tmp) (asg bdy : Code) (st : LSt)
  | df

/-- What the script answers. -/
inductive Ans where
  | b (b : Bool)
  | e (x : AV)
  | c (rows : List Ob) (r : AV)
  | cf (rows : List Ob) (r : AV)
  | ci (T : TypeId) (s : Nat) (ys : List AV)
  | v (x : AV)
  | j
  | tt
  | y (st : LSt) (upd : List (Nat × Ob)) (new : List Ob)

abbrev Script := List (Nat × Ans)
abbrev Heap := List Ob

def AV.cells : AV → List AV
  | .agg cs => cs
  | x => [x]

mutual
def AV.refs : AV → List Nat
  | .ptr id _ => [id]
  | .ptrE id _ _ => [id]
  | .own id => [id]
  | .yld id foot => id :: foot
  | .agg cs => AV.refsL cs
  | .tup cs => AV.refsL cs
  | _ => []
def AV.refsL : List AV → List Nat
  | [] => []
  | x :: xs => x.refs ++ AV.refsL xs
end


mutual
def AV.view (look : Nat → Ob) : AV → Option AV
  | .own id => match look id with
    | .row _ _ xs => some (.sl .p xs)
    | .fro xs => some (.sl .p xs)
    | _ => none
  | .agg cs => match AV.viewL look cs with
    | some l => some (.agg l)
    | none => none
  | .tup cs => match AV.viewL look cs with
    | some l => some (.tup l)
    | none => none
  | .sl _ xs => some (.sl .p xs)
  | .ptr id off => match look id with
    | .fbox cs => some (.pin cs off)
    | _ => none
  | .ptrE _ _ _ => none
  | .yld _ _ => none
  | .junk => none
  | x => some x
def AV.viewL (look : Nat → Ob) : List AV → Option (List AV)
  | [] => some []
  | x :: xs => match x.view look with
    | some y => match AV.viewL look xs with
      | some ys => some (y :: ys)
      | none => none
    | none => none
end

/-- A value of the program as an abstract one. -/
def ofCell : Value → AV
  | .bool b => .bool b
  | .int k n => .int k n
  | .string s => .str s
  | .pointer none => .nilp
  | .slice none 0 0 => .sl .n []
  | _ => .junk
def ofValue : Value → AV
  | .agg cs => .agg (cs.toList.map ofCell)
  | v => ofCell v

/-- All of some statements. -/
def All : List Prop → Prop
  | [] => True
  | p :: r => p ∧ All r

def getO (h : Heap) (id : Nat) : Ob := h.getD id .unborn

/-- What an operation does: its value, what it changes, what it makes; what it takes for granted. -/
structure Eff where
  val : AV
  upd : List (Nat × Ob)
  new : List Ob
  obl : List Prop

def effV (x : AV) : Option Eff := some ⟨x, [], [], []⟩
def effIf (p : Prop) (x : AV) : Option Eff := some ⟨x, [], [], [p]⟩

def isAggD : TypeDesc → Bool
  | .struct _ => true
  | .array _ _ => true
  | _ => false
def isAgg (P : Program) (t : TypeId) : Option Bool := (P.underlying t).map isAggD
def sz (P : Program) (t : TypeId) : Option Nat := (P.info? t).map (·.size)

/-- Part of some cells: a whole one of that type. -/
def partOf (P : Program) (t : TypeId) (cs : List AV) (off : Nat) : Option AV :=
  match isAgg P t, sz P t with
  | some true, some n => if off + n ≤ cs.length then some (.agg ((cs.drop off).take n)) else none
  | some false, some n => if n = 1 then cs[off]? else none
  | _, _ => none

def bits (k : IntKind) (f : BitVec k.bits → BitVec k.bits → BitVec k.bits) (a b : Int) : AV :=
  .int k (k.wrap (f (BitVec.ofInt k.bits a) (BitVec.ofInt k.bits b)).toNat)

def binInt (op : BinOp) (k : IntKind) (a b : Int) : Option Eff :=
  match op with
  | .add => effV (.int k (k.wrap (a + b)))
  | .sub => effV (.int k (k.wrap (a - b)))
  | .mul => effV (.int k (k.wrap (a * b)))
  | .quo => effIf (b ≠ 0) (.int k (k.wrap (a.tdiv b)))
  | .rem => effIf (b ≠ 0) (.int k (a.tmod b))
  | .and => effV (bits k (· &&& ·) a b)
  | .or => effV (bits k (· ||| ·) a b)
  | .xor => effV (bits k (· ^^^ ·) a b)
  | .andNot => effV (bits k (fun x y => x &&& ~~~y) a b)
  | .eql => effV (.bool (a == b))
  | .neq => effV (.bool (a != b))
  | .lss => effV (.bool (a < b))
  | .leq => effV (.bool (a ≤ b))
  | .gtr => effV (.bool (a > b))
  | .geq => effV (.bool (a ≥ b))
  | _ => none

def shiftInt (op : BinOp) (k : IntKind) (a b : Int) : Option Eff :=
  match op with
  | .shl => effIf (0 ≤ b) (.int k (k.wrap (a * 2 ^ min b.toNat k.bits)))
  | .shr => effIf (0 ≤ b) (.int k (a.fdiv (2 ^ min b.toNat k.bits)))
  | _ => none

/-- Cells that are held against each other, by kinds: bools (0), whole numbers (1), strings (2). -/
def eqvC : Nat → AV → AV → Option Bool
  | 0, .bool a, .bool b => some (a == b)
  | 1, .int k a, .int k' b => if k = k' then some (a == b) else none
  | 2, .str a, .str b => some (a.toList == b.toList)
  | _, _, _ => none
def eqvL : List Nat → List AV → List AV → Option Bool
  | [], [], [] => some true
  | q :: qs, x :: xs, y :: ys => match eqvC q x y with
    | some b => (match eqvL qs xs ys with
      | some c => some (b && c)
      | none => none)
    | none => none
  | _, _, _ => none

/-- Types whose values are held against each other cell by cell: the kinds of their cells. -/
def flatF (P : Program) (rec : TypeId → Option (List Nat)) : List Field → Nat → Option (List Nat)
  | [], _ => some []
  | f :: fs, acc => if f.name != "_" && f.offset == acc then
      (match rec f.type with
      | some ks => if sz P f.type = some ks.length then
          (match flatF P rec fs (acc + ks.length) with
          | some r => some (ks ++ r)
          | none => none) else none
      | none => none) else none
def flatK (P : Program) : Nat → TypeId → Option (List Nat)
  | 0, _ => none
  | d + 1, t => match P.underlying t with
    | some .bool => some [0]
    | some (.int _) => some [1]
    | some .string => some [2]
    | some (.struct fs) => if P.stoodInHeld t then none else flatF P (flatK P d) fs.toList 0
    | _ => none

def strOp (op : BinOp) (a b : ByteArray) : Option Eff :=
  match op with
  | .add => effIf (a.size + b.size ≤ 9223372036854775807) (.str (a ++ b))
  | .eql => effV (.bool (a.toList == b.toList))
  | .neq => effV (.bool (!(a.toList == b.toList)))
  | .lss => effV (.bool (Op.bytesLess a.toList b.toList))
  | _ => none

def binA (P : Program) (op : BinOp) (t : TypeId) (x y : AV) : Option Eff :=
  match x, y with
  | .int k a, .int k' b => match op with
    | .shl => shiftInt op k a b
    | .shr => shiftInt op k a b
    | _ => if k = k' then binInt op k a b else none
  | .str a, .str b => strOp op a b
  | .bool a, .bool b => (match P.underlying t, op with
    | some .bool, .eql => effV (.bool (a == b))
    | some .bool, .neq => effV (.bool (!(a == b)))
    | _, _ => none)
  | .agg cs, .agg ds => (match flatK P 8 t, isAgg P t with
    | some ks, some true => (match eqvL ks cs ds with
        | some b => (match op with
          | .eql => effV (.bool b)
          | .neq => effV (.bool (!b))
          | _ => none)
        | none => none)
    | _, _ => none)
  | _, _ => none

def unA (op : UnOp) (x : AV) : Option Eff :=
  match op, x with
  | .not, .bool b => effV (.bool (!b))
  | .neg, .int k n => effV (.int k (k.wrap (0 - n)))
  | .xor, .int k n => effV (bits k (· ^^^ ·) (if k.signed then -1 else k.max) n)
  | _, _ => none

/-- The length that is told of a value. -/
def lenA (P : Program) (look : Nat → Ob) (T : TypeId) : AV → Option Int
  | .str s => (match P.underlying T with
    | some .string => some s.size
    | _ => none)
  | .sl _ xs => (match P.underlying T with
    | some (.slice _) => some xs.length
    | _ => none)
  | .own id => (match P.underlying T with
    | some (.slice _) => (match look id with
      | .row _ _ xs => some xs.length
      | .fro xs => some xs.length
      | _ => none)
    | some (.map _ _) => (match look id with
      | .mp ks => some ks.length
      | _ => none)
    | _ => none)
  | _ => none

def fieldA (P : Program) (T : TypeId) (f : Nat) : Option (Nat × TypeId) :=
  match P.underlying T with
  | some (.struct fs) => match fs.toList[f]? with
    | some fd => match sz P fd.type with
      | some 0 => none
      | some _ => some (fd.offset, fd.type)
      | none => none
    | none => none
  | _ => none

def elemA (P : Program) (T : TypeId) : Option TypeId :=
  match P.underlying T with
  | some (.slice e) => some e
  | _ => none

def arrA (P : Program) (T : TypeId) : Option (Nat × TypeId) :=
  match P.underlying T with
  | some (.array n e) => some (n, e)
  | _ => none

/-- Values of one cell, known. -/
def AV.one : AV → Bool
  | .agg _ => false
  | .tup _ => false
  | .junk => false
  | _ => true
def known : List AV → Bool
  | [] => true
  | x :: r => x.one && known r

/-- Values of one cell without references. -/
def AV.pc : AV → Bool
  | .agg _ => false
  | .tup _ => false
  | .junk => false
  | .ptr _ _ => false
  | .ptrE _ _ _ => false
  | .own _ => false
  | .yld _ _ => false
  | _ => true
def pures : List AV → Bool
  | [] => true
  | x :: r => x.pc && pures r

/-- Cells put into cells. -/
def spl (cs : List AV) (off : Nat) (ds : List AV) : List AV := cs.take off ++ (ds ++ cs.drop (off + ds.length))

def fillA (place : Nat → Option (Nat × Nat)) : List (Nat × AV) → List AV → Option (List AV)
  | [], cs => some cs
  | (i, x) :: rest, cs => match place i with
    | none => none
    | some (off, n) => if x.cells.length = n ∧ known x.cells = true ∧ off + n ≤ cs.length then fillA place rest (spl cs off x.cells) else none

def zeroA (P : Program) (t : TypeId) : Option AV :=
  match P.info? t with
  | some i => match i.zero with
    | some v => some (ofValue v)
    | none => none
  | none => none

def repl (cs : List AV) : Nat → List AV
  | 0 => []
  | n + 1 => cs ++ repl cs n

/-- Cells in groups of n. -/
def groups (n : Nat) (agg : Bool) : Nat → List AV → Option (List AV)
  | 0, cs => if cs.isEmpty then some [] else none
  | m + 1, cs =>
    if agg then
      if n ≤ cs.length then (match groups n agg m (cs.drop n) with | some r => some (.agg (cs.take n) :: r) | none => none) else none
    else match cs with
      | c :: r => (match groups n agg m r with | some r => some (c :: r) | none => none)
      | [] => none

def bnd (x : AV) : Option Int := match x with | .int _ n => some n | _ => none

def boundsA (lo hi : Option AV) (n : Nat) : Option (Int × Int) :=
  match (match lo with | none => some 0 | some l => bnd l), (match hi with | none => some (n : Int) | some h => bnd h) with
  | some l, some h => some (l, h)
  | _, _ => none

/-- Slicing: of bounds from lo to hi. -/
def sliceA (P : Program) (look : Nat → Ob) (T : TypeId) (x : AV) (lo hi : Option AV) : Option Eff :=
  match x with
  | .str s => (match P.underlying T, boundsA lo hi s.size with
    | some .string, some (l, h) => effIf (0 ≤ l ∧ l ≤ h ∧ h ≤ s.size) (.str (s.extract l.toNat h.toNat))
    | _, _ => none)
  | .sl _ xs => (match elemA P T, boundsA lo hi xs.length with
    | some e, some (l, h) => (match sz P e with
      | some n => some ⟨.sl .p ((xs.take h.toNat).drop l.toNat), [], [], [0 ≤ l ∧ l ≤ h ∧ h ≤ xs.length, ∀ y ∈ xs, y.cells.length = n]⟩
      | none => none)
    | _, _ => none)
  | .own id => (match look id with
    | .row _ _ xs => (match elemA P T, boundsA lo hi xs.length with
      | some e, some (l, h) => (match sz P e with
        | some n => some ⟨.sl .p ((xs.take h.toNat).drop l.toNat), [(id, .fro xs)], [], [0 ≤ l ∧ l ≤ h ∧ h ≤ xs.length, ∀ y ∈ xs, y.cells.length = n]⟩
        | none => none)
      | _, _ => none)
    | .fro xs => (match elemA P T, boundsA lo hi xs.length with
      | some e, some (l, h) => (match sz P e with
        | some n => some ⟨.sl .p ((xs.take h.toNat).drop l.toNat), [], [], [0 ≤ l ∧ l ≤ h ∧ h ≤ xs.length, ∀ y ∈ xs, y.cells.length = n]⟩
        | none => none)
      | _, _ => none)
    | _ => none)
  | _ => none

/-! ### What abstract values stand for -/

mutual
/-- A value that reads as an abstract one, all its memory in blocks of A. -/
inductive Rep (A : Nat → Prop) (w : World) : AV → Value → Prop
  | bool (b) : Rep A w (.bool b) (.bool b)
  | int (k n) : Rep A w (.int k n) (.int k n)
  | str (s) : Rep A w (.str s) (.string s)
  | agg {cs vs} : RepL A w cs vs → Rep A w (.agg cs) (.agg vs.toArray)
  | tup {cs vs} : RepL A w cs vs → Rep A w (.tup cs) (.tuple vs.toArray)
  | fn {f cap vs} : RepL A w cap vs → Rep A w (.fn f cap) (.func (.func f) #[] vs.toArray)
  | nilp : Rep A w .nilp (.pointer none)
  | pin {cs off b o} : A b → RepAt A w cs b o → Rep A w (.pin cs off) (.pointer (some ⟨b, o + off, none⟩))
  | nil (fl) : Rep A w (.sl fl []) (.slice none 0 0)
  | sl0 {ad cap} : cap ≤ maxLen → Rep A w (.sl .p []) (.slice (some ad) 0 cap)
  | tight {xs ad n} : n = xs.length → Rep A w (.sl .p xs) (.slice ad n n) → Rep A w (.sl .t xs) (.slice ad n n)
  | sl {x xs b o s n cap} : n = (x :: xs).length → n ≤ cap → cap ≤ maxLen → A b → RepRow A w s (x :: xs) b o → Rep A w (.sl .p (x :: xs)) (.slice (some ⟨b, o, none⟩) n cap)
inductive RepL (A : Nat → Prop) (w : World) : List AV → List Value → Prop
  | nil : RepL A w [] []
  | cons {x xs v vs} : Rep A w x v → RepL A w xs vs → RepL A w (x :: xs) (v :: vs)
inductive RepAt (A : Nat → Prop) (w : World) : List AV → Nat → Nat → Prop
  | nil (b o) : RepAt A w [] b o
  | cons {x xs v b o} : w.cell? ⟨b, o, none⟩ = some v → v.oneCell' = true → Rep A w x v → RepAt A w xs b (o + 1) → RepAt A w (x :: xs) b o
inductive RepRow (A : Nat → Prop) (w : World) : Nat → List AV → Nat → Nat → Prop
  | nil (s b o) : RepRow A w s [] b o
  | agg {cs xs b o} : RepAt A w cs b o → RepRow A w cs.length xs b (o + cs.length) → RepRow A w cs.length (.agg cs :: xs) b o
  | one {x xs v b o} : x.cells = [x] → w.cell? ⟨b, o, none⟩ = some v → v.oneCell' = true → Rep A w x v → RepRow A w 1 xs b (o + 1) → RepRow A w 1 (x :: xs) b o
end

/-- Semantic heaps. -/
abbrev SH := Nat → Ob

mutual
/-- A value that reads as an abstract one with references into own objects; 'φ': each object's own value (a box: its address; a row: its slice). -/
inductive VRep (h : SH) (φ : Nat → Value) (A : Nat → Prop) (w : World) : AV → Value → Prop
  | pure {x v} : Rep A w x v → VRep h φ A w x v
  | agg {cs vs} : VRepL h φ A w cs vs → VRep h φ A w (.agg cs) (.agg vs.toArray)
  | tup {cs vs} : VRepL h φ A w cs vs → VRep h φ A w (.tup cs) (.tuple vs.toArray)
  | ptr {id off b} : h id ≠ .unborn → φ id = .pointer (some ⟨b, 0, none⟩) → VRep h φ A w (.ptr id off) (.pointer (some ⟨b, off, none⟩))
  | ptrE {id i off v} : h id ≠ .unborn → v.oneCell' = true → (∀ T s xs, h id = .row T s xs → ∃ b n c, φ id = .slice (some ⟨b, 0, none⟩) n c ∧ v = .pointer (some ⟨b, i * s + off, none⟩)) → VRep h φ A w (.ptrE id i off) v
  | own {id v} : h id ≠ .unborn → v.oneCell' = true → (h id ≠ .dead → v = φ id) → VRep h φ A w (.own id) v
  | yld {id foot b tm} : (∀ k ∈ id :: foot, h k ≠ .unborn) → φ id = .func (.yield b) #[] tm → VRep h φ A w (.yld id foot) (.func (.yield b) #[] #[])
  | junk (v) : VRep h φ A w .junk v
inductive VRepL (h : SH) (φ : Nat → Value) (A : Nat → Prop) (w : World) : List AV → List Value → Prop
  | nil : VRepL h φ A w [] []
  | cons {x xs v vs} : VRep h φ A w x v → VRepL h φ A w xs vs → VRepL h φ A w (x :: xs) (v :: vs)
end

/-- The block that an object's value points to. -/
def blk : Value → Option Nat
  | .pointer (some a) => some a.block
  | .slice (some a) _ _ => some a.block
  | .map (some b) => some b
  | .func (.yield b) _ _ => some b
  | _ => none

/-- Objects that may be written. -/
def Ob.live : Ob → Bool
  | .box _ _ => true
  | .row _ _ _ => true
  | .mp _ => true
  | .lp _ _ _ _ _ _ => true
  | .df => true
  | _ => false

/-- A loop's record. -/
def LSt.loop (st : LSt) (f : FuncId) (tm : Array Value) (ps : List Tmp) (asg bdy : Code) (d : Nat) : Loop :=
  match st with
  | .ready => { state := .ready, pending := none, fn := f, tmps := tm, params := ps.toArray, assign := asg, body := bdy, defers := d }
  | .busy => { state := .busy, pending := none, fn := f, tmps := tm, params := ps.toArray, assign := asg, body := bdy, defers := d }
  | .done c => { state := .done, pending := some c, fn := f, tmps := tm, params := ps.toArray, assign := asg, body := bdy, defers := d }

/-- Where a function begins: which blocks its arguments may lie in; how many blocks there were; the world. -/
structure C0 where
  A0 : Nat → Prop
  w0 : World

/-- The blocks that will not be written: the arguments', and new ones but those of own objects that may be written. -/
def okB (C : C0) (h : SH) (φ : Nat → Value) (w : World) (b : Nat) : Prop :=
  b < w.heap.size ∧ (C.A0 b ∨ C.w0.heap.size ≤ b) ∧ ∀ id, (h id).live = true → blk (φ id) ≠ some b

def ORep (C : C0) (h : SH) (φ : Nat → Value) (w : World) (v : Value) : Ob → Prop
  | .unborn => True
  | .dead => True
  | .box T cs => ∃ b vs, v = .pointer (some ⟨b, 0, none⟩) ∧ C.w0.heap.size ≤ b ∧ w.heap[b]? = some (.cells vs.toArray T (0, 0)) ∧ VRepL h φ (okB C h φ w) w cs vs ∧ ∀ u ∈ vs, u.oneCell' = true
  | .row T s xs => ∃ cells, w.ownsRow C.w0.heap.size T s v xs.length cells ∧ RepL (okB C h φ w) w (xs.flatMap AV.cells) cells ∧ (∀ x ∈ xs, x.cells.length = s) ∧ 0 < s ∧ ∀ u ∈ cells, u.oneCell' = true
  | .fro xs => Rep (okB C h φ w) w (.sl .p xs) v
  | .fbox cs => ∃ b, v = .pointer (some ⟨b, 0, none⟩) ∧ okB C h φ w b ∧ RepAt (okB C h φ w) w cs b 0
  | .lp ts f ps asg bdy st => ∃ b tm d, v = .func (.yield b) #[] tm ∧ C.w0.heap.size ≤ b ∧ w.heap[b]? = some (.loop (st.loop f tm ps asg bdy d)) ∧ VRepL h φ (okB C h φ w) w ts tm.toList
  | .df => ∃ b, v = .pointer (some ⟨b, 0, none⟩) ∧ C.w0.heap.size ≤ b ∧ w.heap[b]? = some (.deferred (some []))
  | .mp ks => ∃ b es clk, v = .map (some b) ∧ C.w0.heap.size ≤ b ∧ w.heap[b]? = some (.map es clk) ∧ es.toList.map (fun e => e.key) = ks.map (Value.int .i64) ∧ (∀ e ∈ es.toList, e.val = .agg #[])

/-- The machine's world is as the abstract heap says; what was there when the function began has not changed. -/
structure Rel (C : C0) (h : SH) (φ : Nat → Value) (w : World) : Prop where
  below : Below C.w0.heap.size C.w0 w
  obj : ∀ id, ORep C h φ w (φ id) (h id)
  inj : ∀ id id' b, (h id).live = true → (h id').live = true → blk (φ id) = some b → blk (φ id') = some b → id = id'

/-- A list of objects as a heap. -/
def toSH (l : List Ob) : SH := fun id => l.getD id .unborn

/-- What a call comes to: it returns; the result reads as r, with rows of its own; nothing that was there has changed. -/
def ARes (C : C0) (rows : List Ob) (r : AV) (e : Ending) (w' : World) : Prop :=
  ∃ v φ, e = .returned v ∧ Rel C (toSH rows) φ w' ∧ VRep (toSH rows) φ (okB C (toSH rows) φ w') w' r v

/-- What the program's variables hold. -/
abbrev Env := World → Prop

/-- A function with a body: a call of it enters it. -/
def Enters (P : Program) (f : FuncId) : Prop := ∃ fn c, P.funcs[f]? = some fn ∧ (fn.name == "runtime.NumGoroutine") = false ∧ fn.body = some c

def ACalls (P : Program) (E : Env) (f : FuncId) (args : List AV) (rows : List Ob) (r : AV) : Prop :=
  Enters P f ∧ ∀ (C : C0) (vs : List Value), E C.w0 → (∀ b, C.A0 b → b < C.w0.heap.size) → RepL C.A0 C.w0 args vs →
    CallsIn Fence.wide 0 P f vs.toArray C.w0 (ARes C rows r)

/-- A call that takes a row over: what it hands back is a row again, in the same block or in a new one; no other block changes. -/
def ICalls (P : Program) (f : FuncId) (T : TypeId) (s : Nat) (xs as ys : List AV) : Prop :=
  Enters P f ∧ ∀ (B : Nat) (A : Nat → Prop) (w : World) (v : Value) (cells vs : List Value), w.ownsRow B T s v xs.length cells → RepL A w (xs.flatMap AV.cells) cells → (∀ u ∈ cells, u.oneCell' = true) →
    B ≤ w.heap.size → (∀ b, A b → b < w.heap.size ∧ v.ownBlock ≠ some b) → RepL A w as vs →
    CallsIn Fence.wide 0 P f (v :: vs).toArray w fun e w' => ∃ v' cells', e = .returned v' ∧ w'.ownsRow B T s v' ys.length cells' ∧ RepL A w' (ys.flatMap AV.cells) cells' ∧
      (∀ u ∈ cells', u.oneCell' = true) ∧ w.grownBy w' v.ownBlock ∧ ∀ b, blk v' = some b → w.heap.size ≤ b ∨ v.ownBlock = some b

/-- What holds of the program's variables goes on holding while nothing that was there changes. -/
def EnvOK (E : Env) : Prop := ∀ w w', E w → Below w.heap.size w w' → E w'

/-- What is kept. -/
def KeepB (A A' : Nat → Prop) (w w' : World) : Prop := ∀ b, A b → A' b ∧ w'.heap[b]? = w.heap[b]?

/-- How the heap of own objects may go on without turning what is known of values. -/
structure KeepH (h h' : SH) (φ φ' : Nat → Value) : Prop where
  born : ∀ id, h id ≠ .unborn → h' id ≠ .unborn
  val : ∀ id, h id ≠ .unborn → φ' id = φ id
  alive : ∀ id, h id ≠ .unborn → h' id ≠ .dead → h id ≠ .dead
  row : ∀ id T s xs, h id ≠ .unborn → h' id = .row T s xs → ∃ T' xs', h id = .row T' s xs'

/-- What is asked of the program. -/
structure Good (P : Program) : Prop where
  depth : 8 ≤ P.depth
  mixed : P.follows .mixedOrders = true

/-- What a proof about one function takes for granted. -/
structure Base (P : Program) (E : Env) (C : C0) : Prop where
  good : Good P
  env : EnvOK E
  here : E C.w0
  args : ∀ b, C.A0 b → b < C.w0.heap.size

def LSt.go : LSt → Bool
  | .ready => true
  | _ => false
def applyU : Heap → List (Nat × Ob) → Heap
  | h, [] => h
  | h, (id, o) :: r => applyU (h.set id o) r

/-- A round of a loop over a function, begun at heap H: where it ends. -/
def RoundOK (P : Program) (E : Env) (id : Nat) (H : Heap) (args : List AV) (st : LSt) (upd : List (Nat × Ob)) (new : List Ob) : Prop :=
  ∀ (ts : List AV) (f : FuncId) (ps : List Tmp) (asg bdy : Code), getO H id = .lp ts f ps asg bdy .ready → ps.length = args.length ∧
  ∀ (C : C0), Base P E C → ∀ (φ : Nat → Value) (w : World), Rel C (getO H) φ w → ∀ (l : Nat) (tm : Array Value), φ id = .func (.yield l) #[] tm → ∀ (vs : List Value), VRepL (getO H) φ (okB C (getO H) φ w) w args vs →
    ∀ (F : Fence) (q : Nat), F.fn f → (∀ (m : Machine), m.fenced P (F.inRound l)) → RoundIn F q P l f ((ps.toArray.zip vs.toArray).foldl (fun t (p, a) => t.setIfInBounds p a) tm) asg bdy w (fun e w' => e = .returned (.bool st.go) ∧
      ∃ φ', Rel C (getO (applyU H upd ++ new)) φ' w' ∧ KeepB (okB C (getO H) φ w) (okB C (getO (applyU H upd ++ new)) φ' w') w w' ∧ KeepH (getO H) (getO (applyU H upd ++ new)) φ φ')

end Go.Abs
/- The abstract machine: operations, regions, code. -/
set_option linter.unusedVariables false
set_option linter.unusedSimpArgs false
namespace Go.Abs
open Go.RowKit

mutual
def AV.shift (n : Nat) : AV → AV
  | .own id => .own (id + n)
  | .agg cs => .agg (AV.shiftL n cs)
  | .tup cs => .tup (AV.shiftL n cs)
  | x => x
def AV.shiftL (n : Nat) : List AV → List AV
  | [] => []
  | x :: xs => x.shift n :: AV.shiftL n xs
end

mutual
/-- Whether a result may lie in memory that was there. -/
def AV.hasSl : AV → Bool
  | .sl _ _ => true
  | .pin _ _ => true
  | .fn _ _ => true
  | .agg cs => AV.hasSlL cs
  | .tup cs => AV.hasSlL cs
  | _ => false
def AV.hasSlL : List AV → Bool
  | [] => false
  | x :: xs => x.hasSl || AV.hasSlL xs
end

mutual
/-- What a call may hand back. -/
def AV.resOK : AV → Bool
  | .ptr _ _ => false
  | .ptrE _ _ _ => false
  | .yld _ _ => false
  | .junk => false
  | .agg cs => AV.resOKL cs
  | .tup cs => AV.resOKL cs
  | _ => true
def AV.resOKL : List AV → Bool
  | [] => true
  | x :: xs => x.resOK && AV.resOKL xs
end

/-- Rows without anything that may lie in memory that was there. -/
def rowsFlat : List Ob → Prop
  | [] => True
  | .row _ _ xs :: r => (∀ x ∈ xs, x.hasSl = false) ∧ rowsFlat r
  | _ :: _ => False
def rowsOnly : List Ob → Bool
  | [] => true
  | .row _ _ _ :: r => rowsOnly r
  | _ => false

/-- Rows that are never written again from here on. -/
def freeze (look : Nat → Ob) : List Nat → List (Nat × Ob)
  | [] => []
  | id :: r => match look id with
    | .row _ _ xs => (id, .fro xs) :: freeze look r
    | _ => freeze look r

def placesA (P : Program) (fs : List Field) : Option (List (Nat × Nat)) := fs.mapM fun f => (P.info? f.type).map fun i => (f.offset, i.size)
def partsA (P : Program) (t : TypeId) : Option (Nat → Option (Nat × Nat)) :=
  match P.underlying t with
  | some (.struct fs) => (match placesA P fs.toList with
    | some ps => some fun i => ps[i]?
    | none => none)
  | some (.array _ e) => (match sz P e with | some n => some fun i => some (i * n, n) | none => none)
  | _ => none

def evals (rd : Operand → AV) : List (Nat × Operand) → List (Nat × AV)
  | [] => []
  | (i, x) :: r => (i, rd x) :: evals rd r
def evalL (rd : Operand → AV) : List Operand → List AV
  | [] => []
  | x :: r => rd x :: evalL rd r

def allocA (P : Program) (T : TypeId) (x : AV) (fresh : Nat) : Option Eff :=
  match sz P T with
  | some n => if x.cells.length = n && known x.cells then some ⟨.ptr fresh 0, [], [.box T x.cells], []⟩ else none
  | none => none

def loadA (P : Program) (look : Nat → Ob) (T : TypeId) (x : AV) (ans : Option Ans) : Option Eff :=
  match x with
  | .ptr id off => match look id with
    | .box _ cs => (match partOf P T cs off with | some y => effV y | none => none)
    | .fbox cs => (match partOf P T cs off with | some y => effV y | none => none)
    | _ => none
  | .pin cs off => (match partOf P T cs off with | some y => effV y | none => none)
  | .ptrE id i off => match look id, ans with
    | .row _ _ xs, some (.e y) => (match partOf P T y.cells off with | some z => effIf (xs[i]? = some y) z | none => none)
    | _, _ => none
  | _ => none

def setElem (y : AV) (off : Nat) (ds : List AV) : AV :=
  match y with
  | .agg cs => .agg (spl cs off ds)
  | y => ds.headD y

def storeA (P : Program) (look : Nat → Ob) (T : TypeId) (x v : AV) (ans : Option Ans) : Option Eff :=
  match sz P T with
  | none => none
  | some n =>
    if v.cells.length = n && known v.cells then
      match x with
      | .ptr id off => match look id with
        | .box T0 cs => if off + n ≤ cs.length then some ⟨.junk, [(id, .box T0 (spl cs off v.cells))], [], []⟩ else none
        | _ => none
      | .ptrE id i off => match look id, ans with
        | .row T0 s xs, some (.e y) =>
          (match v.view look with
          | some v' => if off + n ≤ y.cells.length && v'.cells.length = n && n ≠ 0 && pures v'.cells then
              some ⟨.junk, freeze look v.refs ++ [(id, .row T0 s (xs.set i (setElem y off v'.cells)))], [], [xs[i]? = some y, id ∉ v.refs]⟩ else none
          | none => none)
        | _, _ => none
      | _ => none
    else none

def fieldAddrA (P : Program) (look : Nat → Ob) (T : TypeId) (x : AV) (f : Nat) : Option Eff :=
  match fieldA P T f with
  | none => none
  | some (o, _) => match x with
    | .ptr id off => effV (.ptr id (off + o))
    | .ptrE id i off => (match look id with
      | .row _ _ _ => effV (.ptrE id i (off + o))
      | _ => none)
    | .pin cs off => effV (.pin cs (off + o))
    | _ => none

def indexAddrA (P : Program) (look : Nat → Ob) (T : TypeId) (x ix : AV) (ans : Option Ans) : Option Eff :=
  match bnd ix with
  | none => none
  | some i =>
    match arrA P T with
    | some (n, e) =>
      (match sz P e with
      | some s => (match x with
        | .ptr id off => effIf (0 ≤ i ∧ i < n) (.ptr id (off + i.toNat * s))
        | .pin cs off => effIf (0 ≤ i ∧ i < n) (.pin cs (off + i.toNat * s))
        | _ => none)
      | none => none)
    | none => match elemA P T with
      | none => none
      | some e => match sz P e with
        | none => none
        | some s => match x with
          | .sl _ xs => (match ans with
            | some (.e y) => if y.cells.length = s then effIf (0 ≤ i ∧ xs[i.toNat]? = some y) (.pin y.cells 0) else none
            | _ => none)
          | .own id => (match look id with
            | .row _ s' xs => if s' = s then effIf (0 ≤ i ∧ i < xs.length) (.ptrE id i.toNat 0) else none
            | .fro xs => (match ans with
              | some (.e y) => if y.cells.length = s then effIf (0 ≤ i ∧ xs[i.toNat]? = some y) (.pin y.cells 0) else none
              | _ => none)
            | _ => none)
          | _ => none

def buildA (P : Program) (T : TypeId) (parts : List (Nat × AV)) : Option Eff :=
  match zeroA P T, partsA P T with
  | some z, some pl => (match fillA pl parts z.cells with
    | some cs => effV (.agg cs)
    | none => none)
  | _, _ => none

def viewP (look : Nat → Ob) : List (Nat × AV) → Option (List (Nat × AV))
  | [] => some []
  | (i, x) :: r => match x.view look, viewP look r with
    | some y, some ys => some ((i, y) :: ys)
    | _, _ => none
def refsP : List (Nat × AV) → List Nat
  | [] => []
  | (_, x) :: r => x.refs ++ refsP r

def buildSliceA (P : Program) (look : Nat → Ob) (T : TypeId) (len : Nat) (parts : List (Nat × AV)) (fresh : Nat) : Option Eff :=
  match elemA P T with
  | none => none
  | some e => match sz P e, isAgg P e, zeroA P e, viewP look parts with
    | some s, some ag, some z, some ps =>
      if z.cells.length = s && s ≠ 0 && len * s ≤ 16777216 && (ag || s == 1) then
        (match fillA (fun i => some (i * s, s)) ps (repl z.cells len) with
        | some cs => if pures cs then
            (match groups s ag len cs with
            | some xs => some ⟨.own fresh, freeze look (refsP parts), [.row e s xs], []⟩
            | none => none) else none
        | none => none)
      else none
    | _, _, _, _ => none

/-- The same, as a slice that is never written again and has no room behind it. -/
def buildTightA (P : Program) (look : Nat → Ob) (T : TypeId) (len : Nat) (parts : List (Nat × AV)) (fresh : Nat) : Option Eff :=
  match buildSliceA P look T len parts fresh with
  | some ⟨_, upd, [.row _ _ xs], _⟩ => some ⟨.sl .t xs, upd, [.fro xs], []⟩
  | _ => none

/-- x[:0:0]: no elements, no room. -/
def slice0A (P : Program) (look : Nat → Ob) (T : TypeId) (x g m : AV) : Option Eff :=
  match elemA P T, g, m with
  | some e, .int .i64 gn, .int .i64 mn => (match sz P e with
    | some _ => if gn = 0 ∧ mn = 0 then (match x with
      | .sl _ _ => effV (.sl .t [])
      | .own id => (match look id with
        | .fro _ => effV (.sl .t [])
        | _ => none)
      | _ => none) else none
    | none => none)
  | _, _, _ => none

/-- What a slice that is appended has: its elements. -/
def elemsA (look : Nat → Ob) : AV → Option (List AV)
  | .sl _ xs => some xs
  | .own id => match look id with
    | .row _ _ xs => some xs
    | .fro xs => some xs
    | _ => none
  | _ => none

def appendA (P : Program) (look : Nat → Ob) (T : TypeId) (s x : AV) (fresh : Nat) : Option Eff :=
  match elemA P T, elemsA look x with
  | some e, some ys => (match sz P e, zeroA P e, P.info? e with
    | some n, some z, some inf =>
      if z.cells.length = n && n ≠ 0 then
        match s with
        | .sl .n [] => some ⟨.own fresh, [], [.row e n ys], [∀ y ∈ ys, y.cells.length = n, ys.length * inf.bytes ≤ 140737488355328, ys.length ≤ 140737488355328]⟩
        | .own id => (match look id with
          | .row e' n' xs => if e' = e && n' = n then
              some ⟨.own fresh, [(id, .dead)], [.row e n (xs ++ ys)], [∀ y ∈ ys, y.cells.length = n, (xs.length + ys.length) * inf.bytes ≤ 140737488355328, xs.length + ys.length ≤ 140737488355328]⟩ else none
          | _ => none)
        | .sl .t xs => some ⟨.own fresh, [], [.fro (xs ++ ys)], [∀ y ∈ xs, y.cells.length = n, ∀ y ∈ ys, y.cells.length = n, (xs.length + ys.length) * inf.bytes ≤ 140737488355328, xs.length + ys.length ≤ 140737488355328]⟩
        | _ => none
      else none
    | _, _, _ => none)
  | _, _ => none

def memN (n : Nat) : List Nat → Bool
  | [] => false
  | k :: r => Nat.beq k n || memN n r

mutual
def AV.viewK (look : Nat → Ob) : AV → Option AV
  | .sl fl xs => some (.sl fl xs)
  | .agg cs => match AV.viewKL look cs with
    | some l => some (.agg l)
    | none => none
  | .own id => (AV.own id).view look
  | .tup cs => (AV.tup cs).view look
  | .ptr id off => (AV.ptr id off).view look
  | .ptrE id i off => (AV.ptrE id i off).view look
  | .yld _ _ => none
  | .junk => none
  | x => some x
def AV.viewKL (look : Nat → Ob) : List AV → Option (List AV)
  | [] => some []
  | x :: xs => match x.viewK look with
    | some y => match AV.viewKL look xs with
      | some ys => some (y :: ys)
      | none => none
    | none => none
end

def memI (n : Int) : List Int → Bool
  | [] => false
  | k :: r => (k == n) || memI n r
def addK (n : Int) (ks : List Int) : List Int := if memI n ks then ks else ks ++ [n]
def mapA (P : Program) (T : TypeId) : Bool :=
  match P.underlying T with
  | some (.map k e) => (match P.underlying k, P.underlying e, zeroA P e with
    | some (.int .i64), some (.struct fs), some (.agg []) => fs.isEmpty
    | _, _, _ => false)
  | _ => false
def makeSliceA (P : Program) (T : TypeId) (a b : AV) (fresh : Nat) : Option Eff :=
  match elemA P T, a, b with
  | some e, .int .i64 n, .int .i64 m => (match sz P e, zeroA P e, P.info? e with
    | some s, some z, some inf => if z.cells.length = s && s ≠ 0 && pures z.cells then
        some ⟨.own fresh, [], [.row e s (List.replicate n.toNat z)], [n = m, 0 ≤ n, n.toNat * inf.bytes ≤ 140737488355328, n.toNat * s ≤ 16777216]⟩ else none
    | _, _, _ => none)
  | _, _, _ => none
def copyA (P : Program) (look : Nat → Ob) (T : TypeId) (d x : AV) : Option Eff :=
  match elemA P T, d with
  | some e, .own id => (match look id, elemsA look x with
    | .row e' n xs, some ys => if e' = e && sz P e = some n then
        some ⟨.int .i64 (ys.take xs.length).length, [(id, .row e n (ys.take xs.length ++ xs.drop ys.length))], [], [∀ y ∈ ys, y.cells.length = n]⟩ else none
    | _, _ => none)
  | _, _ => none
def callIA (P : Program) (look : Nat → Ob) (f : FuncId) (args : List AV) (fresh : Nat) (T : TypeId) (s : Nat) (ys : List AV) : Option Eff :=
  match args with
  | x :: rest => (match AV.viewKL look rest with
    | some as => (match x with
      | .own id => (match look id with
        | .row T' s' xs => if T' = T && s' = s && !memN id (AV.refsL rest) then
            some ⟨.own fresh, freeze look (AV.refsL rest) ++ [(id, .dead)], [.row T s ys], [ICalls P f T s xs as ys, ∀ y ∈ ys, y.cells.length = s, 0 < s]⟩ else none
        | _ => none)
      | .sl .n [] => some ⟨.own fresh, freeze look (AV.refsL rest), [.row T s ys], [ICalls P f T s [] as ys, ∀ y ∈ ys, y.cells.length = s, 0 < s]⟩
      | _ => none)
    | none => none)
  | [] => none

def callA (P : Program) (E : Env) (look : Nat → Ob) (f : FuncId) (args : List AV) (fresh : Nat) (ans : Option Ans) : Option Eff :=
  match AV.viewKL look args, ans with
  | some as, some (.c rows r) => if rowsOnly rows && r.resOK then some ⟨r.shift fresh, freeze look (AV.refsL args), rows, [ACalls P E f as rows r]⟩ else none
  | some as, some (.cf rows r) => if rowsOnly rows && r.resOK && !r.hasSl then some ⟨r.shift fresh, [], rows, [ACalls P E f as rows r, rowsFlat rows]⟩ else none
  | _, _ => none

def convA (P : Program) (src dst : TypeId) (x : AV) : Option Eff :=
  match P.underlying src, P.underlying dst, x with
  | some (.int _), some (.int k), .int _ n => effV (.int k (k.wrap n))
  | some .string, some .string, .str s => effV (.str s)
  | _, _, _ => none

def min2A (a b : AV) : Option AV := match a, b with | .int k x, .int _ y => some (.int k (if y < x then y else x)) | _, _ => none
def max2A (a b : AV) : Option AV := match a, b with | .int k x, .int _ y => some (.int k (if y > x then y else x)) | _, _ => none

/-- Captured variables: each is an own box that is not written again from here on, or a plain value. -/
def captA (look : Nat → Ob) : List AV → Option (List AV × List (Nat × Ob))
  | [] => some ([], [])
  | x :: r => match captA look r with
    | none => none
    | some (ys, us) => match x with
      | .ptr id 0 => (match look id with
        | .box _ cs => (match AV.viewL look cs with
          | some cs' => if AV.refsL cs = [] then some (.pin cs' 0 :: ys, (id, .fbox cs') :: us) else none
          | none => none)
        | .fbox cs => some (.pin cs 0 :: ys, us)
        | _ => none)
      | x => if x.refs = [] then (match x.view look with | some y => some (y :: ys, us) | none => none) else none

def updOK (n : Nat) : List (Nat × Ob) → Bool
  | [] => true
  | (id, _) :: r => Nat.blt id n && updOK n r

/-- A call of yield. -/
def yieldA (P : Program) (E : Env) (look : Nat → Ob) (id : Nat) (args : List AV) (fresh : Nat) (ans : Option Ans) : Option Eff :=
  match look id, ans with
  | .lp _ _ _ _ _ .ready, some (.y st upd new) => if updOK fresh upd then some ⟨.bool st.go, upd, new, [RoundOK P E id ((List.range fresh).map look) args st upd new]⟩ else none
  | _, _ => none
def isYield (o : Oper) (rd : Operand → AV) : Bool :=
  match o.op with
  | .call c => (match c.callee with
    | .value g => (match rd g with
      | .yld _ _ => true
      | _ => false)
    | _ => false)
  | _ => false

def exec (P : Program) (E : Env) (o : Oper) (rd : Operand → AV) (look : Nat → Ob) (fresh : Nat) (ans : Option Ans) : Option Eff :=
  match o.op with
  | .move x => effV (rd x)
  | .assign x => effV (rd x)
  | .pick c a b => (match rd c with
    | .bool t => (match ans with
      | some (.b d) => effIf (t = d) (if d then rd a else rd b)
      | _ => effV (if t then rd a else rd b))
    | _ => none)
  | .alloc T => (match zeroA P T with | some z => allocA P T z fresh | none => none)
  | .box T x => allocA P T (rd x) fresh
  | .build T parts => buildA P T (evals rd parts.toList)
  | .buildSlice T len parts => (match ans with
    | some .tt => buildTightA P look T len (evals rd parts.toList) fresh
    | _ => buildSliceA P look T len (evals rd parts.toList) fresh)
  | .load T x => loadA P look T (rd x) ans
  | .store T x v => storeA P look T (rd x) (rd v) ans
  | .nilCheck x => (match rd x with
    | .ptr id off => effV (.ptr id off)
    | .pin cs off => effV (.pin cs off)
    | _ => none)
  | .binOp op T x y _ => binA P op T (rd x) (rd y)
  | .unOp op _ x => unA op (rd x)
  | .convert s d x => convA P s d (rd x)
  | .slice T x lo hi none => sliceA P look T (rd x) (lo.map rd) (hi.map rd)
  | .slice T x none (some g) (some m) => slice0A P look T (rd x) (rd g) (rd m)
  | .fieldAddr T x f => fieldAddrA P look T (rd x) f
  | .field T x f => (match fieldA P T f, rd x with
    | some (off, ft), .agg cs => (match partOf P ft cs off with | some y => effV y | none => none)
    | _, _ => none)
  | .indexAddr T x i => indexAddrA P look T (rd x) (rd i) ans
  | .extract t i => (match rd t with
    | .tup vs => (match vs[i]? with | some y => effV y | none => none)
    | _ => none)
  | .makeMap T none => if mapA P T then some ⟨.own fresh, [], [.mp []], []⟩ else none
  | .mapUpdate T m k v => (match rd m, rd k, rd v with
    | .own id, .int .i64 n, .agg [] => (match look id with
      | .mp ks => if mapA P T then some ⟨.junk, [(id, .mp (addK n ks))], [], [ks.length < 9223372036854775807]⟩ else none
      | _ => none)
    | _, _, _ => none)
  | .lookup T m k true => (match rd m, rd k with
    | .own id, .int .i64 n => (match look id with
      | .mp ks => if mapA P T then effV (.tup [.agg [], .bool (memI n ks)]) else none
      | _ => none)
    | _, _ => none)
  | .makeSlice T n m => makeSliceA P T (rd n) (rd m) fresh
  | .makeFunc (.func f) fst caps => (match fst.toList with
    | [] => (match captA look (evalL rd caps.toList) with
      | some (ys, us) => some ⟨.fn f ys, us, [], []⟩
      | none => none)
    | _ => none)
  | .call c => (match c.callee with
    | .builtin .len => (match c.args.toList, c.argTypes.toList with
      | [x], [T] => (match lenA P look T (rd x) with | some n => effV (.int .i64 n) | none => none)
      | _, _ => none)
    | .builtin .copy => (match c.args.toList, c.argTypes.toList with
      | [d, x], [T, T'] => if T = T' then copyA P look T (rd d) (rd x) else none
      | _, _ => none)
    | .builtin .min => (match c.args.toList with
      | [x, y] => (match min2A (rd x) (rd y) with | some z => effV z | none => none)
      | _ => none)
    | .builtin .max => (match c.args.toList with
      | [x, y] => (match max2A (rd x) (rd y) with | some z => effV z | none => none)
      | _ => none)
    | .builtin .append => (match c.args.toList, c.argTypes.toList with
      | [s, x], [T, T'] => if T = T' then appendA P look T (rd s) (rd x) fresh else none
      | _, _ => none)
    | .value g => (match rd g with
      | .fn f caps => (match ans with
        | some (.ci T s ys) => callIA P look f (evalL rd c.args.toList ++ caps) fresh T s ys
        | _ => callA P E look f (evalL rd c.args.toList ++ caps) fresh ans)
      | .yld id _ => yieldA P E look id (evalL rd c.args.toList) fresh ans
      | _ => none)
    | _ => none)
  | _ => none

/-! ### Regions -/

structure St where
  tmps : List AV
  heap : Heap
  cnt : Nat
  scr : Script
  obl : List Prop

def rdF (tf : Nat → AV) : Operand → AV
  | .tmp t => tf t
  | .const v => ofValue v
  | .func f => .fn f []
  | .global _ => .junk

def askAt (n : Nat) : Script → Option Ans × Script
  | (k, a) :: r => if Nat.beq k n then (some a, r) else (none, (k, a) :: r)
  | [] => (none, [])

/-- What is known of a guard: the temporary it reads, and what was wanted of it. -/
def wantedA (ops : List Oper) (tf : Nat → AV) (g : Option (Nat × Bool)) (ans : Option Ans) : Option (Bool × List Prop) :=
  match g with
  | none => some (true, [])
  | some (j, want) => match ops[j]? with
    | none => none
    | some oj => match oj.dst with
      | none => none
      | some t => match tf t with
        | .bool b => (match ans with
          | some (.b d) => some (d == want, [b = d])
          | _ => some (b == want, []))
        | .tup _ => some (false, [])
        | _ => none

/-- What an operation writes. -/
structure WR where
  val : AV
  upd : List (Nat × Ob)
  new : List Ob
  scr : Script
  obl : List Prop

/-- One operation: its guard is asked at the count, what it asks itself at the count behind that, what is put for its value behind that. -/
def coreA (P : Program) (E : Env) (ops : List Oper) (o : Oper) (tf : Nat → AV) (look : Nat → Ob) (fresh cnt : Nat) (scr : Script) : Option WR :=
  match askAt cnt scr with
  | (g, scr1) => match wantedA ops tf o.guard g with
    | none => none
    | some (false, obl) => some ⟨.tup [], [], [], scr1, obl⟩
    | some (true, obl) => match askAt (cnt + 1) scr1 with
      | (a, scr2) => match exec P E o (rdF tf) look fresh a with
        | none => none
        | some eff => match askAt (cnt + 2) scr2 with
          | (some (.v x), scr3) => some ⟨x, eff.upd, eff.new, scr3, (eff.val = x) :: (eff.obl ++ obl)⟩
          | (some .j, scr3) => some ⟨.junk, eff.upd, eff.new, scr3, eff.obl ++ obl⟩
          | (_, scr3) => some ⟨eff.val, eff.upd, eff.new, scr3, eff.obl ++ obl⟩

def putT (ts : List AV) (d : Option Tmp) (x : AV) : List AV := match d with | some t => ts.set t x | none => ts

def applyW (s : St) (d : Option Tmp) (r : WR) : St := ⟨putT s.tmps d r.val, applyU s.heap r.upd ++ r.new, s.cnt + 3, r.scr, r.obl ++ s.obl⟩

def stepA (P : Program) (E : Env) (ops : List Oper) (o : Oper) (s : St) : Option St :=
  match coreA P E ops o (fun t => s.tmps.getD t .junk) (getO s.heap) s.heap.length s.cnt s.scr with
  | none => none
  | some r => if updOK s.heap.length r.upd then some (applyW s o.dst r) else none

def runOps (P : Program) (E : Env) (ops : List Oper) : List Oper → St → Option St
  | [], s => some s
  | o :: r, s => match stepA P E ops o s with
    | none => none
    | some s' => runOps P E ops r s'

/-! Regions that draw their order: each operation sees just what it names. -/

/-- Which temporaries an operation reads. -/
def readsT (ops : List Oper) (o : Oper) : List Nat :=
  (o.op.operands.toList.filterMap fun | .tmp t => some t | _ => none) ++
  (match o.guard with
   | some (g, _) => (match ops[g]? with
     | some og => (match og.dst with
       | some t => [t]
       | none => [])
     | none => [])
   | none => [])
def restT (rs : List Nat) (tf : Nat → AV) : Nat → AV := fun t => if memN t rs then tf t else .junk
def restI (rs : List Nat) (look : Nat → Ob) : Nat → Ob := fun id => if memN id rs then look id else .unborn
def readsI (rs : List Nat) (tf : Nat → AV) : List Nat := rs.flatMap fun t => (tf t).refs

/-- What an operation has to do with others. -/
structure Ev where
  rT : List Nat
  rI : List Nat
  dst : Option Nat
  val : AV
  wI : List (Nat × Ob)
  y : Bool

def news (n : Nat) : List Ob → List (Nat × Ob)
  | [] => []
  | o :: r => (n, o) :: news (n + 1) r

def runD (P : Program) (E : Env) (ops : List Oper) : List Oper → St → Option (List Ev × St)
  | [], s => some ([], s)
  | o :: r, s =>
    let rT := readsT ops o
    let rI := readsI rT (fun t => s.tmps.getD t .junk)
    match coreA P E ops o (restT rT (fun t => s.tmps.getD t .junk)) (restI rI (getO s.heap)) s.heap.length s.cnt s.scr with
    | none => none
    | some w => if updOK s.heap.length w.upd then
        (match runD P E ops r (applyW s o.dst w) with
        | none => none
        | some (es, s') => some (⟨rT, rI, o.dst, w.val, w.upd ++ news s.heap.length w.new, isYield o (rdF (restT rT (fun t => s.tmps.getD t .junk)))⟩ :: es, s'))
      else none

def ids (l : List (Nat × Ob)) : List Nat := l.map (·.1)
def meets (a b : List Nat) : Bool := a.any fun x => memN x b
def dstL (d : Option Nat) : List Nat := match d with | some t => [t] | none => []

/-- Two operations whose order matters. -/
def conflict (a b : Ev) : Bool :=
  meets (dstL a.dst) b.rT || meets (dstL b.dst) a.rT || meets (dstL a.dst) (dstL b.dst) ||
  meets (ids a.wI) b.rI || meets (ids b.wI) a.rI || meets (ids a.wI) (ids b.wI)

/-- What goes ahead of each operation, in whatever order, as bits. -/
def befs : List Oper → List Nat → Option (List Nat)
  | [], acc => some acc
  | o :: r, acc =>
    if o.after.toList.all (fun e => !Region.binds .any e || Nat.blt e.on acc.length) then
      befs r (acc ++ [(o.after.toList.filter (Region.binds .any)).foldl (fun s e => s ||| 2 ^ e.on ||| acc.getD e.on 0) 0])
    else none

def orderedFrom (bs : List Nat) (es : List Ev) (j : Nat) (ej : Ev) : Nat → List Ev → Bool
  | _, [] => true
  | i, e :: r => (Nat.ble j i || (bs.getD j 0).testBit i || !conflict e ej) && orderedFrom bs es j ej (i + 1) r
def orderedAll (bs : List Nat) (es : List Ev) : Nat → List Ev → Bool
  | _, [] => true
  | j, e :: r => orderedFrom bs es j e 0 es && orderedAll bs es (j + 1) r

/-- A call of yield among operations that draw their order: it sees all there is, and no other one writes. -/
def seesAll (n : Nat) (es : List Ev) (i : Nat) : List Ev → Bool
  | [] => true
  | e :: r => (!e.y || ((List.range n).all (fun k => memN k e.rI) && othersQuiet i 0 es)) && seesAll n es (i + 1) r
where othersQuiet (i j : Nat) : List Ev → Bool
  | [] => true
  | e :: r => (Nat.beq j i || e.wI.isEmpty) && othersQuiet i (j + 1) r

def runDraw (P : Program) (E : Env) (ops : List Oper) (s : St) : Option St :=
  match runD P E ops ops s, befs ops [] with
  | some (es, s'), some bs => if orderedAll bs es 0 es && seesAll s.heap.length es 0 es then some s' else none
  | _, _ => none

/-! ### Code -/

def arun (P : Program) (E : Env) : Nat → List Item → St → Option (List Item × St)
  | 0, todo, s => some (todo, s)
  | n + 1, todo, s => match todo with
    | .code .skip :: k => arun P E n k s
    | .code (.label _) :: k => arun P E n k s
    | .inBlock _ :: k => arun P E n k s
    | .code (.seq a b) :: k => arun P E n (.code a :: .code b :: k) s
    | .code (.block id c) :: k => arun P E n (.code c :: .inBlock id :: k) s
    | .code (.loop c) :: k => arun P E n (.code c :: .inLoop c :: k) s
    | .inLoop c :: k => arun P E n (.code c :: .inLoop c :: k) s
    | .code (.exit id) :: k => match exitTo id k with
      | some k' => arun P E n k' s
      | none => none
    | .code (.cond c x y) :: k => match rdF (fun t => s.tmps.getD t .junk) c with
      | .bool b => match askAt s.cnt s.scr with
        | (some (.b d), scr) => arun P E n (.code (if d then x else y) :: k) { s with cnt := s.cnt + 1, scr := scr, obl := (b = d) :: s.obl }
        | (_, scr) => arun P E n (.code (if b then x else y) :: k) { s with cnt := s.cnt + 1, scr := scr }
      | _ => none
    | .code (.region _ ops d) :: k => match (if d then runDraw P E ops.toList s else runOps P E ops.toList ops.toList s) with
      | some s' => arun P E n k s'
      | none => none
    | _ => none

/-! ### A state seen anew -/

def idx (id : Nat) : List Nat → Option Nat
  | [] => none
  | k :: r => if Nat.beq k id then some 0 else (match idx id r with | some n => some (n + 1) | none => none)
def nodupN : List Nat → Bool
  | [] => true
  | k :: r => !memN k r && nodupN r

def Ob.born : Ob → Bool
  | .unborn => false
  | _ => true
def bornAll (look : Nat → Ob) (keep : List Nat) : Bool := keep.all fun id => (look id).born

mutual
def AV.ren (look : Nat → Ob) (keep : List Nat) : AV → Option AV
  | .own id => match idx id keep with
    | some k => some (.own k)
    | none => (AV.own id).view look
  | .ptr id off => match idx id keep with
    | some k => some (.ptr k off)
    | none => (AV.ptr id off).view look
  | .ptrE id i off => match idx id keep with
    | some k => some (.ptrE k i off)
    | none => none
  | .yld id _ => match idx id keep with
    | some k => some (.yld k (List.range keep.length))
    | none => none
  | .agg cs => match AV.renL look keep cs with
    | some l => some (.agg l)
    | none => none
  | .tup cs => match AV.renL look keep cs with
    | some l => some (.tup l)
    | none => none
  | x => some x
def AV.renL (look : Nat → Ob) (keep : List Nat) : List AV → Option (List AV)
  | [] => some []
  | x :: xs => match x.ren look keep with
    | some y => match AV.renL look keep xs with
      | some ys => some (y :: ys)
      | none => none
    | none => none
end
def Ob.ren (look : Nat → Ob) (keep : List Nat) : Ob → Option Ob
  | .box T cs => match AV.renL look keep cs with
    | some l => some (.box T l)
    | none => none
  | .lp ts f ps asg bdy st => match AV.renL look keep ts with
    | some l => some (.lp l f ps asg bdy st)
    | none => none
  | o => some o
def renH (look : Nat → Ob) (keep : List Nat) : List Nat → Option (List Ob)
  | [] => some []
  | id :: r => match (look id).ren look keep, renH look keep r with
    | some o, some os => some (o :: os)
    | _, _ => none
/-- The live temporaries alone. -/
def renT (look : Nat → Ob) (keep live : List Nat) : Nat → List AV → Option (List AV)
  | _, [] => some []
  | t, x :: r => match (if memN t live then x.ren look keep else some .junk), renT look keep live (t + 1) r with
    | some y, some ys => some (y :: ys)
    | _, _ => none
def canonA (live keep : List Nat) (ts : List AV) (h : Heap) : Option (List AV × Heap) :=
  if nodupN keep && bornAll (getO h) keep then
    (match renT (getO h) keep live 0 ts, renH (getO h) keep keep with
    | some ts', some h' => some (ts', h')
    | _, _ => none)
  else none

/-- What a function hands back. -/
def cellA (P : Program) (look : Nat → Ob) (T : TypeId) (x : AV) : Option AV :=
  match x with
  | .ptr id off => match look id with
    | .box _ cs => partOf P T cs off
    | .fbox cs => partOf P T cs off
    | _ => none
  | _ => none
def resA (P : Program) (ts : List AV) (h : Heap) : List ResultVar → Option (List AV)
  | [] => some []
  | .tmp t :: r => match resA P ts h r with
    | some xs => some (ts.getD t .junk :: xs)
    | none => none
  | .cell t T :: r => match cellA P (getO h) T (ts.getD t .junk), resA P ts h r with
    | some e, some xs => some (e :: xs)
    | _, _ => none
def resV : List AV → AV
  | [x] => x
  | xs => .tup xs
/-- The result, its own rows numbered by 'keep'. -/
def exportA (P : Program) (rv : List ResultVar) (keep : List Nat) (ts : List AV) (h : Heap) : Option (List Ob × AV) :=
  if nodupN keep && bornAll (getO h) keep then
    (match resA P ts h rv, renH (getO h) keep keep with
    | some xs, some rows => (match (resV xs).ren (getO h) keep with
      | some r => some (rows, r)
      | none => none)
    | _, _ => none)
  else none

/-- Control alone: regions passed over, conditions answered in turn. -/
def ctl : Nat → List Item → List Bool → List Item
  | 0, todo, _ => todo
  | n + 1, todo, ds => match todo with
    | .code .skip :: k => ctl n k ds
    | .code (.label _) :: k => ctl n k ds
    | .inBlock _ :: k => ctl n k ds
    | .code (.seq a b) :: k => ctl n (.code a :: .code b :: k) ds
    | .code (.block id c) :: k => ctl n (.code c :: .inBlock id :: k) ds
    | .code (.loop c) :: k => ctl n (.code c :: .inLoop c :: k) ds
    | .inLoop c :: k => ctl n (.code c :: .inLoop c :: k) ds
    | .code (.exit id) :: k => match exitTo id k with
      | some k' => ctl n k' ds
      | none => []
    | .code (.cond _ x y) :: k => match ds with
      | d :: ds => ctl n (.code (if d then x else y) :: k) ds
      | [] => []
    | .code (.region _ _ _) :: k => ctl n k ds
    | _ => []
def bodyOf (P : Program) (f : Nat) : Code := match P.funcs[f]? with | some fn => fn.body.getD .skip | none => .skip
def resOf (P : Program) (f : Nat) : List ResultVar := match P.funcs[f]? with | some fn => fn.results.toList | none => []
def ntmpsOf (P : Program) (f : Nat) : Nat := match P.funcs[f]? with | some fn => fn.ntmps | none => 0
def junks : Nat → List AV
  | 0 => []
  | n + 1 => .junk :: junks n

def Ob.isDf : Ob → Bool
  | .df => true
  | _ => false
/-- Blocks of deferred calls stay. -/
def dfOK (h h' : Heap) (keep : List Nat) : Bool := (List.range h.length).all fun i => !(getO h i).isDf || ((getO h' i).isDf && memN i keep)
def dfStay (h h' : Heap) : Bool := (List.range h.length).all fun i => !(getO h i).isDf || (getO h' i).isDf
def Ob.sansDf : Ob → Ob
  | .df => .dead
  | o => o
def clearDf : Heap → Heap
  | [] => []
  | o :: r => o.sansDf :: clearDf r

/-- From a cut to a cut. -/
def runCut (P : Program) (E : Env) (n : Nat) (scr : Script) (live keep : List Nat) (todo : List Item) (ts : List AV) (h : Heap) : Option (List Item × List AV × Heap × List Prop) :=
  match arun P E n todo ⟨ts, h, 0, scr, []⟩ with
  | some (todo', s') => if dfOK h s'.heap keep then (match canonA live keep s'.tmps s'.heap with
    | some (ts', h') => some (todo', ts', h', s'.obl)
    | none => none) else none
  | none => none
def endsR : List Item → Bool
  | [] => true
  | .code .ret :: _ => true
  | _ => false
/-- From a cut to the end. -/
def runRet (P : Program) (E : Env) (rv : List ResultVar) (n : Nat) (scr : Script) (keep : List Nat) (todo : List Item) (ts : List AV) (h : Heap) : Option (List Ob × AV × List Prop) :=
  match arun P E n todo ⟨ts, h, 0, scr, []⟩ with
  | some (todo', s') => if endsR todo' && dfStay h s'.heap then (match exportA P rv keep s'.tmps (clearDf s'.heap) with
    | some (rows, r) => some (rows, r, s'.obl)
    | none => none) else none
  | none => none

end Go.Abs
/- What abstract values stand for: how that is kept, taken apart and put together. -/
set_option linter.unusedVariables false
set_option linter.unusedSimpArgs false
namespace Go.Abs
open Go.RowKit

section mono
variable {A A' : Nat → Prop} {w w' : World}

/-- Blocks of A are blocks of A', and have not changed. -/

theorem KeepB.cell (k : KeepB A A' w w') {b o : Nat} (h : A b) : w'.cell? ⟨b, o, none⟩ = w.cell? ⟨b, o, none⟩ := by
  have := (k b h).2
  simp [World.cell?, this]

mutual
theorem Rep.mono (k : KeepB A A' w w') : ∀ {x v}, Rep A w x v → Rep A' w' x v
  | _, _, .bool b => .bool b
  | _, _, .int k n => .int k n
  | _, _, .str s => .str s
  | _, _, .agg h => .agg (RepL.mono k h)
  | _, _, .tup h => .tup (RepL.mono k h)
  | _, _, .fn h => .fn (RepL.mono k h)
  | _, _, .nilp => .nilp
  | _, _, .pin ha h => .pin (k _ ha).1 (RepAt.mono k ha h)
  | _, _, .nil fl => .nil fl
  | _, _, .sl0 h => .sl0 h
  | _, _, .tight e h => .tight e (Rep.mono k h)
  | _, _, .sl h1 h2 h3 ha h => .sl h1 h2 h3 (k _ ha).1 (RepRow.mono k ha h)
theorem RepL.mono (k : KeepB A A' w w') : ∀ {xs vs}, RepL A w xs vs → RepL A' w' xs vs
  | _, _, .nil => .nil
  | _, _, .cons h t => .cons (Rep.mono k h) (RepL.mono k t)
theorem RepAt.mono (k : KeepB A A' w w') : ∀ {xs b o}, A b → RepAt A w xs b o → RepAt A' w' xs b o
  | _, _, _, _, .nil b o => .nil b o
  | _, _, _, ha, .cons hc h1 h t => .cons ((k.cell ha).trans hc) h1 (Rep.mono k h) (RepAt.mono k ha t)
theorem RepRow.mono (k : KeepB A A' w w') : ∀ {s xs b o}, A b → RepRow A w s xs b o → RepRow A' w' s xs b o
  | _, _, _, _, _, .nil s b o => .nil s b o
  | _, _, _, _, ha, .agg h t => .agg (RepAt.mono k ha h) (RepRow.mono k ha t)
  | _, _, _, _, ha, .one hx hc h1 h t => .one hx ((k.cell ha).trans hc) h1 (Rep.mono k h) (RepRow.mono k ha t)
end

theorem KeepH.refl (h : SH) (φ : Nat → Value) : KeepH h h φ φ := ⟨fun _ h => h, fun _ _ => rfl, fun _ _ h => h, fun _ T _ xs _ h => ⟨T, xs, h⟩⟩
theorem KeepH.trans {h h' h'' : SH} {φ φ' φ'' : Nat → Value} (a : KeepH h h' φ φ') (b : KeepH h' h'' φ' φ'') : KeepH h h'' φ φ'' :=
  ⟨fun id hu => b.born id (a.born id hu), fun id hu => (b.val id (a.born id hu)).trans (a.val id hu), fun id hu hd => a.alive id hu (b.alive id (a.born id hu) hd),
   fun id T s xs hu hr => let ⟨_, _, h1⟩ := b.row id T s xs (a.born id hu) hr; a.row id _ s _ hu h1⟩

variable {h h' : SH} {φ φ' : Nat → Value}
mutual
theorem VRep.mono (k : KeepB A A' w w') (kh : KeepH h h' φ φ') : ∀ {x v}, VRep h φ A w x v → VRep h' φ' A' w' x v
  | _, _, .pure p => .pure (p.mono k)
  | _, _, .agg p => .agg (VRepL.mono k kh p)
  | _, _, .tup p => .tup (VRepL.mono k kh p)
  | _, _, .ptr hu hp => .ptr (kh.born _ hu) ((kh.val _ hu).trans hp)
  | _, _, .ptrE hu h1 hp => .ptrE (kh.born _ hu) h1 (fun T s xs hr => by
      obtain ⟨T', xs', h1⟩ := kh.row _ T s xs hu hr
      rw [kh.val _ hu]
      exact hp T' s xs' h1)
  | _, _, .own hu h1 hp => .own (kh.born _ hu) h1 (fun hd => by rw [kh.val _ hu]; exact hp (kh.alive _ hu hd))
  | _, _, .yld hu hp => .yld (fun k hk => kh.born _ (hu k hk)) ((kh.val _ (hu _ (by simp))).trans hp)
  | _, _, .junk v => .junk v
theorem VRepL.mono (k : KeepB A A' w w') (kh : KeepH h h' φ φ') : ∀ {xs vs}, VRepL h φ A w xs vs → VRepL h' φ' A' w' xs vs
  | _, _, .nil => .nil
  | _, _, .cons p q => .cons (VRep.mono k kh p) (VRepL.mono k kh q)
end
end mono

section lists
variable {A : Nat → Prop} {w : World} {h : SH} {φ : Nat → Value}

theorem RepL.length {xs vs} (p : RepL A w xs vs) : xs.length = vs.length := by
  induction xs generalizing vs with
  | nil => cases p; rfl
  | cons x xs ih => cases p with | cons _ t => simp [ih t]
theorem VRepL.length {xs vs} (p : VRepL h φ A w xs vs) : xs.length = vs.length := by
  induction xs generalizing vs with
  | nil => cases p; rfl
  | cons x xs ih => cases p with | cons _ t => simp [ih t]
theorem RepL.v {xs vs} (p : RepL A w xs vs) : VRepL h φ A w xs vs := by
  induction xs generalizing vs with
  | nil => cases p; exact .nil
  | cons x xs ih => cases p with | cons a t => exact .cons (.pure a) (ih t)
theorem RepL.get {xs vs} (p : RepL A w xs vs) (i : Nat) {x : AV} (hx : xs[i]? = some x) : ∃ v, vs[i]? = some v ∧ Rep A w x v := by
  induction xs generalizing vs i with
  | nil => simp at hx
  | cons y xs ih =>
    cases p with
    | cons a t =>
      cases i with
      | zero => simp at hx; exact ⟨_, rfl, hx ▸ a⟩
      | succ i => simp at hx ⊢; exact ih t i hx
theorem VRepL.get {xs vs} (p : VRepL h φ A w xs vs) (i : Nat) {x : AV} (hx : xs[i]? = some x) : ∃ v, vs[i]? = some v ∧ VRep h φ A w x v := by
  induction xs generalizing vs i with
  | nil => simp at hx
  | cons y xs ih =>
    cases p with
    | cons a t =>
      cases i with
      | zero => simp at hx; exact ⟨_, rfl, hx ▸ a⟩
      | succ i => simp at hx ⊢; exact ih t i hx
theorem RepL.append {xs vs ys us} (p : RepL A w xs vs) (q : RepL A w ys us) : RepL A w (xs ++ ys) (vs ++ us) := by
  induction xs generalizing vs with
  | nil => cases p; exact q
  | cons x xs ih => cases p with | cons a t => exact .cons a (ih t)
theorem VRepL.append {xs vs ys us} (p : VRepL h φ A w xs vs) (q : VRepL h φ A w ys us) : VRepL h φ A w (xs ++ ys) (vs ++ us) := by
  induction xs generalizing vs with
  | nil => cases p; exact q
  | cons x xs ih => cases p with | cons a t => exact .cons a (ih t)
theorem RepL.take {xs vs} (p : RepL A w xs vs) (n : Nat) : RepL A w (xs.take n) (vs.take n) := by
  induction xs generalizing vs n with
  | nil => cases p; simp; exact .nil
  | cons x xs ih =>
    cases p with
    | cons a t =>
      cases n with
      | zero => simp; exact .nil
      | succ n => simp; exact .cons a (ih t n)
theorem RepL.drop {xs vs} (p : RepL A w xs vs) (n : Nat) : RepL A w (xs.drop n) (vs.drop n) := by
  induction xs generalizing vs n with
  | nil => cases p; simp; exact .nil
  | cons x xs ih =>
    cases p with
    | cons a t =>
      cases n with
      | zero => simp; exact .cons a t
      | succ n => simp; exact ih t n
theorem VRepL.take {xs vs} (p : VRepL h φ A w xs vs) (n : Nat) : VRepL h φ A w (xs.take n) (vs.take n) := by
  induction xs generalizing vs n with
  | nil => cases p; simp; exact .nil
  | cons x xs ih =>
    cases p with
    | cons a t =>
      cases n with
      | zero => simp; exact .nil
      | succ n => simp; exact .cons a (ih t n)
theorem VRepL.drop {xs vs} (p : VRepL h φ A w xs vs) (n : Nat) : VRepL h φ A w (xs.drop n) (vs.drop n) := by
  induction xs generalizing vs n with
  | nil => cases p; simp; exact .nil
  | cons x xs ih =>
    cases p with
    | cons a t =>
      cases n with
      | zero => simp; exact .cons a t
      | succ n => simp; exact ih t n
theorem VRepL.spl {cs vs ds us} (p : VRepL h φ A w cs vs) (q : VRepL h φ A w ds us) (off : Nat) : VRepL h φ A w (spl cs off ds) (vs.take off ++ (us ++ vs.drop (off + us.length))) := by
  unfold Go.Abs.spl
  rw [q.length]
  exact (p.take off).append (q.append (p.drop _))
theorem RepL.spl {cs vs ds us} (p : RepL A w cs vs) (q : RepL A w ds us) (off : Nat) : RepL A w (spl cs off ds) (vs.take off ++ (us ++ vs.drop (off + us.length))) := by
  unfold Go.Abs.spl
  rw [q.length]
  exact (p.take off).append (q.append (p.drop _))
theorem RepL.split {xs ys us} (p : RepL A w (xs ++ ys) us) : RepL A w xs (us.take xs.length) ∧ RepL A w ys (us.drop xs.length) := by
  induction xs generalizing us with
  | nil => simpa using ⟨.nil, p⟩
  | cons x xs ih =>
    cases p with
    | cons a t => obtain ⟨h1, h2⟩ := ih t; simp; exact ⟨.cons a h1, h2⟩

/-- Cells one behind the other, as a list of values. -/
theorem RepAt.get {cs b o} (p : RepAt A w cs b o) (i : Nat) {x : AV} (hx : cs[i]? = some x) : ∃ v, w.cell? ⟨b, o + i, none⟩ = some v ∧ Rep A w x v := by
  induction cs generalizing o i with
  | nil => simp at hx
  | cons y cs ih =>
    cases p with
    | cons hc h1 a t =>
      cases i with
      | zero => simp at hx; exact ⟨_, hc, hx ▸ a⟩
      | succ i =>
        simp at hx
        obtain ⟨v, h1, h2⟩ := ih t i hx
        exact ⟨v, by rw [← h1]; congr 2; omega, h2⟩
theorem RepAt.list {cs b o} (p : RepAt A w cs b o) : ∃ vs, RepL A w cs vs ∧ (∀ i v, vs[i]? = some v → w.cell? ⟨b, o + i, none⟩ = some v) ∧ ∀ v ∈ vs, v.oneCell' = true := by
  induction cs generalizing o with
  | nil => exact ⟨[], .nil, fun i v hv => by simp at hv, fun v hv => by simp at hv⟩
  | cons y cs ih =>
    cases p with
    | cons hc h1 a t =>
      obtain ⟨vs, h2, h3, h4⟩ := ih t
      refine ⟨_ :: vs, .cons a h2, fun i v hv => ?_, fun v hv => ?_⟩
      · cases i with
        | zero => simp at hv; subst hv; exact hc
        | succ i => simp at hv; rw [← h3 i v hv]; congr 2; omega
      · rcases List.mem_cons.1 hv with rfl | hv
        · exact h1
        · exact h4 v hv
theorem RepAt.ofList {cs vs b o} (p : RepL A w cs vs) (hc : ∀ i v, vs[i]? = some v → w.cell? ⟨b, o + i, none⟩ = some v) (h1 : ∀ v ∈ vs, v.oneCell' = true) : RepAt A w cs b o := by
  induction cs generalizing vs o with
  | nil => exact .nil b o
  | cons y cs ih =>
    cases p with
    | cons a t =>
      refine .cons (hc 0 _ (by simp)) (h1 _ (by simp)) a (ih t (fun i v hv => ?_) fun v hv => h1 v (by simp [hv]))
      have := hc (i + 1) v (by simpa using hv)
      rw [← this]; congr 2; omega
/-- A row of elements is a list of elements' cells. -/
theorem cells_agg (cs : List AV) : AV.cells (.agg cs) = cs := rfl
theorem RepRow.list {s xs b o} (p : RepRow A w s xs b o) : RepAt A w (xs.flatMap AV.cells) b o ∧ ∀ x ∈ xs, x.cells.length = s := by
  induction xs generalizing o with
  | nil => exact ⟨.nil b o, fun x hx => by simp at hx⟩
  | cons y xs ih =>
    cases p with
    | agg a t =>
      obtain ⟨h1, h2⟩ := ih t
      rename_i cs
      refine ⟨?_, fun x hx => ?_⟩
      · obtain ⟨vs, hv, hc, hv1⟩ := a.list
        obtain ⟨us, hu, hd, hu1⟩ := h1.list
        refine RepAt.ofList (vs := vs ++ us) (by simpa [cells_agg] using hv.append hu) (fun i v hi => ?_) (fun v hv' => by rcases List.mem_append.1 hv' with h | h; exact hv1 v h; exact hu1 v h)
        have hl := hv.length
        rcases Nat.lt_or_ge i vs.length with hlt | hge
        · rw [List.getElem?_append_left hlt] at hi; exact hc i v hi
        · rw [List.getElem?_append_right hge] at hi
          rw [← hd _ v hi]; congr 2; omega
      · rcases List.mem_cons.1 hx with rfl | hx
        · rfl
        · exact h2 x hx
    | one hx hc h0 a t =>
      obtain ⟨h1, h2⟩ := ih t
      refine ⟨?_, fun x hx' => ?_⟩
      · simp only [List.flatMap_cons, hx, List.singleton_append]
        exact .cons hc h0 a h1
      · rcases List.mem_cons.1 hx' with rfl | hx'
        · simp [hx]
        · exact h2 x hx'
theorem cells_one_or {x : AV} : (∃ cs, x = .agg cs) ∨ x.cells = [x] := by cases x <;> simp [AV.cells]
theorem RepRow.ofAt {s xs b o} (p : RepAt A w (xs.flatMap AV.cells) b o) (hs : ∀ x ∈ xs, x.cells.length = s) : RepRow A w s xs b o := by
  induction xs generalizing o with
  | nil => exact .nil s b o
  | cons y xs ih =>
    have hy := hs y (by simp)
    obtain ⟨vs, hv, hc, hv1⟩ := p.list
    simp only [List.flatMap_cons] at hv
    obtain ⟨h1, h2⟩ := hv.split
    have t : RepAt A w (xs.flatMap AV.cells) b (o + y.cells.length) := RepAt.ofList h2 (fun i v hi => by
      rw [List.getElem?_drop] at hi
      rw [← hc _ v hi]; congr 2; omega) (fun v hv => hv1 v (List.mem_of_mem_drop hv))
    have a : RepAt A w y.cells b o := RepAt.ofList h1 (fun i v hi => by
      rw [List.getElem?_take] at hi
      split at hi
      · exact hc i v hi
      · simp at hi) (fun v hv => hv1 v (List.mem_of_mem_take hv))
    rcases cells_one_or (x := y) with ⟨cs, rfl⟩ | h
    · subst hy
      exact .agg a (ih t fun x hx => hs x (by simp [hx]))
    · rw [h] at a t hy
      simp at hy
      subst hy
      cases a with
      | cons hc' h0 a' _ => exact .one h hc' h0 a' (ih t fun x hx => hs x (by simp [hx]))
theorem RepRow.get {s xs b o} (p : RepRow A w s xs b o) (i : Nat) {x : AV} (hx : xs[i]? = some x) : RepAt A w x.cells b (o + i * s) ∧ x.cells.length = s := by
  induction xs generalizing o i with
  | nil => simp at hx
  | cons y xs ih =>
    cases p with
    | agg a t =>
      cases i with
      | zero => simp at hx; subst hx; exact ⟨by simpa [cells_agg] using a, rfl⟩
      | succ i =>
        simp at hx
        obtain ⟨h1, h2⟩ := ih t i hx
        refine ⟨?_, h2⟩
        have : ∀ n : Nat, o + (i + 1) * n = o + n + i * n := fun n => by rw [Nat.add_mul]; omega
        rw [this]; exact h1
    | one hy hc h0 a t =>
      cases i with
      | zero => simp at hx; subst hx; rw [hy]; exact ⟨.cons (by simpa using hc) h0 a (.nil _ _), rfl⟩
      | succ i =>
        simp at hx
        obtain ⟨h1, h2⟩ := ih t i hx
        refine ⟨?_, h2⟩
        have : o + (i + 1) * 1 = o + 1 + i * 1 := by omega
        rw [this]; exact h1

/-- One cell's value. -/
theorem Rep.one {x v} (p : Rep A w x v) (hx : x.one = true) : v.oneCell' = true := by
  cases p <;> first | rfl | (simp [AV.one] at hx; done)
theorem VRep.one {x v} (p : VRep h φ A w x v) (hx : x.one = true) : v.oneCell' = true := by
  cases p <;> first | rfl | assumption | (simp [AV.one] at hx; done) | exact Rep.one (by assumption) hx
theorem VRepL.ones {xs vs} (p : VRepL h φ A w xs vs) (hx : known xs = true) : ∀ v ∈ vs, v.oneCell' = true := by
  induction xs generalizing vs with
  | nil => cases p; intro v hv; simp at hv
  | cons x xs ih =>
    cases p with
    | cons a t =>
      simp [known] at hx
      intro v hv
      rcases List.mem_cons.1 hv with rfl | hv
      · exact a.one hx.1
      · exact ih t hx.2 v hv
end lists

end Go.Abs
/- How the machine's world goes on beside the abstract heap. -/
set_option linter.unusedVariables false
set_option linter.unusedSimpArgs false
namespace Go.Abs
open Go.RowKit

section
variable {C : C0} {h h' : SH} {φ φ' : Nat → Value} {w w' : World}

theorem ORep.block {v : Value} {o : Ob} (p : ORep C h φ w v o) (hl : o.live = true) {b : Nat} (hb : blk v = some b) : b < w.heap.size ∧ C.w0.heap.size ≤ b := by
  cases o <;> simp [Ob.live] at hl
  · obtain ⟨b', vs, rfl, h1, h2, _⟩ := p
    simp [blk] at hb
    subst hb
    exact ⟨(Array.getElem?_eq_some_iff.1 h2).1, h1⟩
  · obtain ⟨cells, h1, _⟩ := p
    rcases h1.2 with ⟨rfl, _⟩ | ⟨g, cap, cur, rfl, hb', hg, _⟩
    · simp [blk] at hb
    · simp [blk] at hb
      subst hb
      exact ⟨(Array.getElem?_eq_some_iff.1 hg).1, hb'⟩
  · obtain ⟨b', es, clk, rfl, h1, h2, _⟩ := p
    simp [blk] at hb
    subst hb
    exact ⟨(Array.getElem?_eq_some_iff.1 h2).1, h1⟩
  · obtain ⟨b', tm, d, rfl, h1, h2, _⟩ := p
    simp [blk] at hb
    subst hb
    exact ⟨(Array.getElem?_eq_some_iff.1 h2).1, h1⟩
  · obtain ⟨b', rfl, h1, h2⟩ := p
    simp [blk] at hb
    subst hb
    exact ⟨(Array.getElem?_eq_some_iff.1 h2).1, h1⟩

theorem ownsRow_same {base : Nat} {e : TypeId} {size : Nat} {v : Value} {n : Nat} {xs : List Value} (p : w.ownsRow base e size v n xs)
    (hb : ∀ b, blk v = some b → w'.heap[b]? = w.heap[b]?) : w'.ownsRow base e size v n xs := by
  refine ⟨p.1, ?_⟩
  rcases p.2 with hn | ⟨g, cap, cur, rfl, h1, h2, rest⟩
  · exact .inl hn
  · exact .inr ⟨g, cap, cur, rfl, h1, by rw [hb g rfl]; exact h2, rest⟩

theorem ORep.mono (k : KeepB (okB C h φ w) (okB C h' φ' w') w w') (kh : KeepH h h' φ φ') {v : Value} {o : Ob}
    (hb : o.live = true → ∀ b, blk v = some b → w'.heap[b]? = w.heap[b]?) (p : ORep C h φ w v o) : ORep C h' φ' w' v o := by
  cases o with
  | unborn => trivial
  | dead => trivial
  | box T cs =>
    obtain ⟨b, vs, rfl, h1, h2, h3, h4⟩ := p
    exact ⟨b, vs, rfl, h1, by rw [hb rfl b rfl]; exact h2, h3.mono k kh, h4⟩
  | row T s xs =>
    obtain ⟨cells, h1, h2, h3⟩ := p
    exact ⟨cells, ownsRow_same h1 (hb rfl), h2.mono k, h3⟩
  | fro xs => exact Rep.mono k p
  | fbox cs =>
    obtain ⟨b, rfl, h1, h2⟩ := p
    exact ⟨b, rfl, (k b h1).1, h2.mono k h1⟩
  | mp ks =>
    obtain ⟨b, es, clk, rfl, h1, h2, h3, h4⟩ := p
    exact ⟨b, es, clk, rfl, h1, by rw [hb rfl b rfl]; exact h2, h3, h4⟩
  | lp ts f ps asg bdy st =>
    obtain ⟨b, tm, d, rfl, h1, h2, h3⟩ := p
    exact ⟨b, tm, d, rfl, h1, by rw [hb rfl b rfl]; exact h2, h3.mono k kh⟩
  | df =>
    obtain ⟨b, rfl, h1, h2⟩ := p
    exact ⟨b, rfl, h1, by rw [hb rfl b rfl]; exact h2⟩

/-- The general step. -/
theorem Rel.step (hr : Rel C h φ w) (hb : Below C.w0.heap.size C.w0 w') (hsz : w.heap.size ≤ w'.heap.size) (kh : KeepH h h' φ φ')
    (hblk : ∀ b, okB C h φ w b → w'.heap[b]? = w.heap[b]?)
    (hlive : ∀ id, (h' id).live = true → h id ≠ .unborn → (h id).live = true)
    (hnew : ∀ id, (h' id).live = true → h id = .unborn → ∀ b, blk (φ' id) = some b → w.heap.size ≤ b ∨ ∃ k, (h k).live = true ∧ (h' k).live = false ∧ blk (φ k) = some b)
    (hinj : ∀ id id' b, (h' id).live = true → (h' id').live = true → h id = .unborn → h id' = .unborn → blk (φ' id) = some b → blk (φ' id') = some b → id = id')
    (hobj : KeepB (okB C h φ w) (okB C h' φ' w') w w' → ∀ id, (h' id = h id ∧ (h id ≠ .unborn → (h id).live = true → ∀ b, blk (φ id) = some b → w'.heap[b]? = w.heap[b]?)) ∨ ORep C h' φ' w' (φ' id) (h' id)) :
    Rel C h' φ' w' ∧ KeepB (okB C h φ w) (okB C h' φ' w') w w' := by
  have hK : KeepB (okB C h φ w) (okB C h' φ' w') w w' := by
    intro b hb'
    refine ⟨⟨Nat.lt_of_lt_of_le hb'.1 hsz, hb'.2.1, fun id hl he => ?_⟩, hblk b hb'⟩
    by_cases hu : h id = .unborn
    · rcases hnew id hl hu b he with h1 | ⟨k, h1, _, h2⟩
      · have := hb'.1
        omega
      · exact hb'.2.2 k h1 h2
    · rw [kh.val id hu] at he
      exact hb'.2.2 id (hlive id hl hu) he
  refine ⟨⟨hb, fun id => ?_, fun id id' b hl hl' he he' => ?_⟩, hK⟩
  · rcases hobj hK id with ⟨h1, h2⟩ | h1
    · by_cases hu : h id = .unborn
      · rw [h1, hu]; trivial
      · rw [h1, kh.val id hu]
        exact (hr.obj id).mono hK kh (h2 hu)
    · exact h1
  · by_cases hu : h id = .unborn <;> by_cases hu' : h id' = .unborn
    · exact hinj id id' b hl hl' hu hu' he he'
    · rw [kh.val id' hu'] at he'
      have h2 := ((hr.obj id').block (hlive id' hl' hu') he').1
      rcases hnew id hl hu b he with h1 | ⟨k, h1, h3, h4⟩
      · omega
      · rw [hr.inj id' k b (hlive id' hl' hu') h1 he' h4, h3] at hl'
        cases hl'
    · rw [kh.val id hu] at he
      have h2 := ((hr.obj id).block (hlive id hl hu) he).1
      rcases hnew id' hl' hu' b he' with h1 | ⟨k, h1, h3, h4⟩
      · omega
      · rw [hr.inj id k b (hlive id hl hu) h1 he h4, h3] at hl
        cases hl
    · rw [kh.val id hu] at he
      rw [kh.val id' hu'] at he'
      exact hr.inj id id' b (hlive id hl hu) (hlive id' hl' hu') he he'

/-- A draw. -/
theorem Rel.drew (hr : Rel C h φ w) : Rel C h φ w.drew ∧ KeepB (okB C h φ w) (okB C h φ w.drew) w w.drew :=
  hr.step hr.below.drew (Nat.le_refl _) (.refl _ _) (fun _ _ => rfl) (fun _ hl _ => hl)
    (fun id hl hu => by rw [hu] at hl; simp [Ob.live] at hl) (fun id _ _ hl _ hu => by rw [hu] at hl; simp [Ob.live] at hl) (fun _ id => .inl ⟨rfl, fun _ _ _ _ => rfl⟩)

def upd1 (h : SH) (id : Nat) (o : Ob) : SH := fun k => if k = id then o else h k
def upd1v (φ : Nat → Value) (id : Nat) (v : Value) : Nat → Value := fun k => if k = id then v else φ k

theorem KeepH.new {id : Nat} (hu : h id = .unborn) (o : Ob) (ho : o ≠ .unborn) (v : Value) : KeepH h (upd1 h id o) φ (upd1v φ id v) := by
  have hne : ∀ k, h k ≠ .unborn → k ≠ id := fun k hk e => hk (e ▸ hu)
  exact ⟨fun k hk => by simp [upd1, hne k hk, hk], fun k hk => by simp [upd1v, hne k hk], fun k hk hd => by simpa [upd1, hne k hk] using hd,
    fun k T s xs hk hx => ⟨T, xs, by simpa [upd1, hne k hk] using hx⟩⟩

theorem heap_alloc_lt (w : World) (o : Obj) (k : Nat) (hk : k < w.heap.size) : (w.alloc o).heap[k]? = w.heap[k]? := Below.heap_alloc w o k hk

/-- A new object in a new block. -/
theorem Rel.alloc (hr : Rel C h φ w) {id : Nat} (hu : h id = .unborn) {o : Ob} (ho : o ≠ .unborn) {v : Value} {x : Obj}
    (hb : ∀ b, blk v = some b → b = w.heap.size)
    (hobj : KeepB (okB C h φ w) (okB C (upd1 h id o) (upd1v φ id v) (w.alloc x)) w (w.alloc x) → ORep C (upd1 h id o) (upd1v φ id v) (w.alloc x) v o) :
    Rel C (upd1 h id o) (upd1v φ id v) (w.alloc x) ∧ KeepB (okB C h φ w) (okB C (upd1 h id o) (upd1v φ id v) (w.alloc x)) w (w.alloc x) := by
  have hle : C.w0.heap.size ≤ w.heap.size := hr.below.size
  refine hr.step (hr.below.alloc hle x) (by simp) (.new hu o ho v) (fun b hb' => heap_alloc_lt w x b hb'.1) ?_ ?_ ?_ ?_
  · intro k hl hk
    have hne : k ≠ id := fun e => hk (e ▸ hu)
    simpa [upd1, hne] using hl
  · intro k hl hk b hb'
    by_cases hne : k = id
    · subst hne
      simp [upd1v] at hb'
      exact .inl (Nat.le_of_eq (hb b hb').symm)
    · simp [upd1, hne, hk, Ob.live] at hl
  · intro k k' b hl hl' hk hk' _ _
    by_cases hne : k = id
    · by_cases hne' : k' = id
      · rw [hne, hne']
      · simp [upd1, hne', hk', Ob.live] at hl'
    · simp [upd1, hne, hk, Ob.live] at hl
  · intro hK k
    by_cases hne : k = id
    · right
      subst hne
      simpa [upd1, upd1v] using hobj hK
    · left
      refine ⟨by simp [upd1, hne], fun hk hl b hb' => heap_alloc_lt w x b ((hr.obj k).block hl hb').1⟩

/-- A change of one own object that may be written, in its own block. -/
theorem Rel.change (hr : Rel C h φ w) {id : Nat} (hl : (h id).live = true) {o : Ob} (kh : KeepH h (upd1 h id o) φ φ)
    (hb : Below C.w0.heap.size C.w0 w') (hsz : w.heap.size ≤ w'.heap.size)
    (hblk : ∀ b, blk (φ id) ≠ some b → b < w.heap.size → w'.heap[b]? = w.heap[b]?)
    (hobj : KeepB (okB C h φ w) (okB C (upd1 h id o) φ w') w w' → ORep C (upd1 h id o) φ w' (φ id) o) :
    Rel C (upd1 h id o) φ w' ∧ KeepB (okB C h φ w) (okB C (upd1 h id o) φ w') w w' := by
  refine hr.step hb hsz kh (fun b hb' => hblk b (hb'.2.2 id hl) hb'.1) ?_ ?_ ?_ ?_
  · intro k hk _
    by_cases hne : k = id
    · rw [hne]; exact hl
    · simpa [upd1, hne] using hk
  · intro k hk hu b hb'
    have hne : k ≠ id := fun e => by rw [e] at hu; rw [hu] at hl; simp [Ob.live] at hl
    simp [upd1, hne, hu, Ob.live] at hk
  · intro k k' b hk hk' hu _ _ _
    have hne : k ≠ id := fun e => by rw [e] at hu; rw [hu] at hl; simp [Ob.live] at hl
    simp [upd1, hne, hu, Ob.live] at hk
  · intro hK k
    by_cases hne : k = id
    · right
      subst hne
      simpa [upd1] using hobj hK
    · left
      refine ⟨by simp [upd1, hne], fun hu hlk b hb' => hblk b (fun e => hne (hr.inj k id b hlk hl hb' e)) ((hr.obj k).block hlk hb').1⟩

theorem KeepH.chg {id : Nat} (hu : h id ≠ .unborn) {o : Ob} (ho : o ≠ .unborn) (hd : o ≠ .dead → h id ≠ .dead) (hrow : ∀ T s xs, o = .row T s xs → ∃ T' xs', h id = .row T' s xs') :
    KeepH h (upd1 h id o) φ φ := by
  refine ⟨fun k hk => ?_, fun _ _ => rfl, fun k hk hd' => ?_, fun k T s xs hk hx => ?_⟩
  · by_cases hne : k = id <;> simp [upd1, hne, ho, hk]
  · by_cases hne : k = id
    · subst hne; simp [upd1] at hd'; exact hd hd'
    · simpa [upd1, hne] using hd'
  · by_cases hne : k = id
    · subst hne; simp [upd1] at hx; exact hrow T s xs hx
    · exact ⟨T, xs, by simpa [upd1, hne] using hx⟩

/-- A row that is never written again. -/
theorem Rel.freezeRow (hr : Rel C h φ w) {id : Nat} {T : TypeId} {s : Nat} {xs : List AV} (hx : h id = .row T s xs) :
    Rel C (upd1 h id (.fro xs)) φ w ∧ KeepB (okB C h φ w) (okB C (upd1 h id (.fro xs)) φ w) w w ∧ KeepH h (upd1 h id (.fro xs)) φ φ := by
  have kh : KeepH h (upd1 h id (.fro xs)) φ φ := .chg (by simp [hx]) (by simp) (by simp [hx]) (by simp)
  have := hr.change (by simp [hx, Ob.live]) kh hr.below (Nat.le_refl _) (fun _ _ _ => rfl) (fun hK => by
    have ho := hr.obj id
    rw [hx] at ho
    obtain ⟨cells, h1, h2, h3, h4, h5⟩ := ho
    show Rep _ w (.sl .p xs) (φ id)
    rcases h1.2 with ⟨hv, hn⟩ | ⟨g, cap, cur, hv, hb, hg, hc1, hc2, hc3, ht⟩
    · rw [hv]
      have : xs = [] := by simpa using hn
      subst this
      exact .nil .p
    · rw [hv]
      cases xs with
      | nil => exact .sl0 hc2
      | cons y ys =>
        have hlt : g < w.heap.size := (Array.getElem?_eq_some_iff.1 hg).1
        have hok : okB C (upd1 h id (.fro (y :: ys))) φ w g := by
          refine ⟨hlt, .inr hb, fun k hk he => ?_⟩
          by_cases hne : k = id
          · subst hne; simp [upd1, Ob.live] at hk
          · simp [upd1, hne] at hk
            exact hne (hr.inj k id g hk (by simp [hx, Ob.live]) he (by simp [hv, blk]))
        refine .sl rfl hc1 hc2 hok (s := s) (RepRow.ofAt (RepAt.ofList (h2.mono hK) (fun i u hu => ?_) h5) h3)
        have := h1.cells (g := g) (by simp [hv, Value.ownBlock]) i u hu
        have ha : (⟨g, 0, none⟩ : Addr).add i = ⟨g, i, none⟩ := by unfold Addr.add; split <;> simp_all
        rw [ha] at this
        simpa using this)
  exact ⟨this.1, this.2, kh⟩

/-- A variable that is never written again. -/
theorem Rel.freezeBox (hr : Rel C h φ w) {id : Nat} {T : TypeId} {cs cs' : List AV} (hx : h id = .box T cs)
    (hv : ∀ vs, VRepL h φ (okB C h φ w) w cs vs → RepL (okB C h φ w) w cs' vs) :
    Rel C (upd1 h id (.fbox cs')) φ w ∧ KeepB (okB C h φ w) (okB C (upd1 h id (.fbox cs')) φ w) w w ∧ KeepH h (upd1 h id (.fbox cs')) φ φ := by
  have kh : KeepH h (upd1 h id (.fbox cs')) φ φ := .chg (by simp [hx]) (by simp) (by simp [hx]) (by simp)
  have := hr.change (by simp [hx, Ob.live]) kh hr.below (Nat.le_refl _) (fun _ _ _ => rfl) (fun hK => by
    have ho := hr.obj id
    rw [hx] at ho
    obtain ⟨b, vs, hp, h1, h2, h3, h5⟩ := ho
    have hlt : b < w.heap.size := (Array.getElem?_eq_some_iff.1 h2).1
    refine ⟨b, hp, ⟨hlt, .inr h1, fun k hk he => ?_⟩, RepAt.ofList ((hv vs h3).mono hK) (fun i u hu => ?_) h5⟩
    · by_cases hne : k = id
      · subst hne; simp [upd1, Ob.live] at hk
      · simp [upd1, hne] at hk
        exact hne (hr.inj k id b hk (by simp [hx, Ob.live]) he (by simp [hp, blk]))
    · simp [World.cell?, h2]
      simpa using hu)
  exact ⟨this.1, this.2, kh⟩
end

end Go.Abs
/- Operations: what the machine does is what the abstract machine says (those that change nothing). -/
set_option linter.unusedVariables false
set_option linter.unusedSimpArgs false
namespace Go.Abs
open Go.RowKit

section inv
variable {h : SH} {φ : Nat → Value} {A : Nat → Prop} {w : World} {v : Value}
theorem VRep.inv_bool {b} (p : VRep h φ A w (.bool b) v) : v = .bool b := by cases p with | pure p => cases p; rfl
theorem VRep.inv_int {k n} (p : VRep h φ A w (.int k n) v) : v = .int k n := by cases p with | pure p => cases p; rfl
theorem VRep.inv_str {s} (p : VRep h φ A w (.str s) v) : v = .string s := by cases p with | pure p => cases p; rfl
theorem VRep.inv_agg {cs} (p : VRep h φ A w (.agg cs) v) : ∃ vs, v = .agg vs.toArray ∧ VRepL h φ A w cs vs := by
  cases p with
  | pure p => cases p with | agg q => exact ⟨_, rfl, q.v⟩
  | agg q => exact ⟨_, rfl, q⟩
theorem VRep.inv_tup {cs} (p : VRep h φ A w (.tup cs) v) : ∃ vs, v = .tuple vs.toArray ∧ VRepL h φ A w cs vs := by
  cases p with
  | pure p => cases p with | tup q => exact ⟨_, rfl, q.v⟩
  | tup q => exact ⟨_, rfl, q⟩
theorem VRep.inv_fn {f cap} (p : VRep h φ A w (.fn f cap) v) : ∃ vs, v = .func (.func f) #[] vs.toArray ∧ RepL A w cap vs := by
  cases p with | pure p => cases p with | fn q => exact ⟨_, rfl, q⟩
theorem VRep.inv_ptr {id off} (p : VRep h φ A w (.ptr id off) v) : ∃ b, φ id = .pointer (some ⟨b, 0, none⟩) ∧ v = .pointer (some ⟨b, off, none⟩) ∧ h id ≠ .unborn := by
  cases p with
  | pure p => cases p
  | ptr hu hp => exact ⟨_, hp, rfl, hu⟩
theorem VRep.inv_ptrE {id i off T s xs} (p : VRep h φ A w (.ptrE id i off) v) (hx : h id = .row T s xs) : ∃ b n c, φ id = .slice (some ⟨b, 0, none⟩) n c ∧ v = .pointer (some ⟨b, i * s + off, none⟩) := by
  cases p with
  | pure p => cases p
  | ptrE hu h1 hp => exact hp T s xs hx
theorem VRep.inv_pin {cs off} (p : VRep h φ A w (.pin cs off) v) : ∃ b o, A b ∧ RepAt A w cs b o ∧ v = .pointer (some ⟨b, o + off, none⟩) := by
  cases p with | pure p => cases p with | pin ha q => exact ⟨_, _, ha, q, rfl⟩
theorem VRep.inv_own {id} (p : VRep h φ A w (.own id) v) : h id ≠ .unborn ∧ (h id ≠ .dead → v = φ id) := by
  cases p with
  | pure p => cases p
  | own hu h1 hp => exact ⟨hu, hp⟩
theorem VRep.inv_sl {fl xs} (p : VRep h φ A w (.sl fl xs) v) : ∃ a cap, v = .slice a xs.length cap ∧ xs.length ≤ cap ∧ cap ≤ maxLen ∧ ((fl = .n → xs = [] → v = .slice none 0 0) ∧ (a = none → cap = 0)) ∧
    (xs ≠ [] → ∃ b o s, a = some ⟨b, o, none⟩ ∧ A b ∧ RepRow A w s xs b o) := by
  cases p with
  | pure p =>
    cases p with
    | nil fl => exact ⟨none, 0, rfl, Nat.le_refl _, Nat.zero_le _, ⟨fun _ _ => rfl, fun _ => rfl⟩, fun h => absurd rfl h⟩
    | sl0 hc => exact ⟨_, _, rfl, Nat.zero_le _, hc, ⟨fun h => (by cases h), fun h => (by cases h)⟩, fun h => absurd rfl h⟩
    | tight e q =>
      cases q with
      | nil fl => exact ⟨none, 0, rfl, Nat.le_refl _, Nat.zero_le _, ⟨fun h => (by cases h), fun _ => rfl⟩, fun h => absurd rfl h⟩
      | sl0 hc => exact ⟨_, _, rfl, Nat.le_refl _, hc, ⟨fun h => (by cases h), fun h => (by cases h)⟩, fun h => absurd rfl h⟩
      | sl hn h1 h2 ha hr => exact ⟨_, _, by rw [hn], by rw [← hn]; exact h1, h2, ⟨fun h => (by cases h), fun h => (by cases h)⟩, fun _ => ⟨_, _, _, rfl, ha, hr⟩⟩
    | sl hn h1 h2 ha hr => exact ⟨_, _, by rw [hn], by rw [← hn]; exact h1, h2, ⟨fun h => (by cases h), fun h => (by cases h)⟩, fun _ => ⟨_, _, _, rfl, ha, hr⟩⟩
theorem VRep.inv_t {xs} (p : VRep h φ A w (.sl .t xs) v) : ∃ a, v = .slice a xs.length xs.length ∧ Rep A w (.sl .p xs) v := by
  cases p with
  | pure p =>
    cases p with
    | nil fl => exact ⟨none, rfl, .nil .p⟩
    | tight e q => exact ⟨_, by rw [← e], q⟩
end inv

/-- Frames' fences that let in whatever there is. -/
structure Wide (F : Fence) : Prop where
  fn : ∀ f, F.fn f
  depth : F.depth = none
  alive : F.alive = false

theorem Wide.fenced {F : Fence} (hF : Wide F) (P : Program) (m : Machine) : m.fenced P F := by
  intro g _
  exact ⟨fun h => (by rw [hF.alive] at h; cases h), .inl (hF.fn _), fun f _ => hF.fn f, fun d hd => (by rw [hF.depth] at hd; cases hd)⟩
theorem wide_wide : Wide Fence.wide := ⟨fun _ => trivial, rfl, rfl⟩
theorem wide_round (l : Nat) : Wide (Fence.wide.inRound l) := ⟨fun _ => trivial, rfl, rfl⟩
theorem Wide.calls {F : Fence} (hF : Wide F) {P : Program} {f : FuncId} {args : Array Value} {w : World} {R : Ending → World → Prop} {m : Nat} (n : Nat)
    (hc : CallsIn Fence.wide m P f args w R) : CallsIn F n P f args w R := by
  refine ⟨hF.fn f, fun cs _ => ?_⟩
  obtain ⟨e, w', fr, r, s, x⟩ := hc.2 cs (room_wide _)
  refine ⟨e, w', fr, r, ?_, x⟩
  cases e with
  | returned v => exact (StepsIn.of_steps s.steps).mono fun m _ => hF.fenced P m
  | panicked c => exact (StepsIn.of_steps s.steps).mono fun m _ => hF.fenced P m
  | outgrown => exact s

/-- What an operation must come to. -/
def OpOK (P : Program) (C : C0) (h : SH) (φ : Nat → Value) (w : World) (a : Act) (o : Oper) (h' : SH) (val : AV) : Prop :=
  ∀ (F : Fence) (n : Nat) (next : Act → World → Prop) (Q : Exit → Act → World → Prop), Wide F →
    (∀ v φ' w', Rel C h' φ' w' → KeepB (okB C h φ w) (okB C h' φ' w') w w' → KeepH h h' φ φ' → VRep h' φ' (okB C h' φ' w') w' val v → next (a.put o.dst v) w') →
    o.uponIn F n P a next Q ((execOp a.eval o).run P w)

section ops
variable {P : Program} {E : Env} {C : C0} {h : SH} {φ : Nat → Value} {w : World} {a : Act} {o : Oper}

theorem keepB_refl (A : Nat → Prop) (w : World) : KeepB A A w w := fun _ h => ⟨h, rfl⟩

theorem OpOK.same (hr : Rel C h φ w) {v : Value} {val : AV} (hx : (execOp a.eval o).run P w = .ok (.value v) w) (hv : VRep h φ (okB C h φ w) w val v) :
    OpOK P C h φ w a o h val := by
  intro F n next Q hF hn
  rw [hx]
  exact hn v φ w hr (keepB_refl _ _) (.refl _ _) hv

theorem vrep_ofCell (v : Value) (h : SH) (φ : Nat → Value) (A : Nat → Prop) (w : World) : VRep h φ A w (ofCell v) v := by
  unfold ofCell
  split
  · exact .pure (.bool _)
  · exact .pure (.int _ _)
  · exact .pure (.str _)
  · exact .pure .nilp
  · exact .pure (.nil .n)
  · exact .junk _
theorem vrep_ofValue (v : Value) (h : SH) (φ : Nat → Value) (A : Nat → Prop) (w : World) : VRep h φ A w (ofValue v) v := by
  unfold ofValue
  split
  · rename_i cs
    have : VRepL h φ A w (cs.toList.map ofCell) cs.toList := by
      induction cs.toList with
      | nil => exact .nil
      | cons c r ih => exact .cons (vrep_ofCell _ _ _ _ _) ih
    exact .agg (vs := cs.toList) this
  · exact vrep_ofCell _ _ _ _ _

/-! Whole numbers. -/
theorem run_binInt {op : BinOp} {k : IntKind} {x y : Int} {eff : Eff} (he : binInt op k x y = some eff) (ho : All eff.obl) (t : TypeId) :
    ∃ v, (binOp op t (.int k x) (.int k y)).run P w = .ok v w ∧ VRep h φ (okB C h φ w) w eff.val v ∧ eff.upd = [] ∧ eff.new = [] := by
  cases op <;> simp [binInt, effV, effIf] at he <;> subst he <;> simp [All] at ho <;>
    simp [binOp, Op.intArith, Op.intCmp, Op.intDiv, Op.intBits, bits, ho] <;> first | exact .pure (.int _ _) | exact .pure (.bool _)
theorem run_shiftInt {op : BinOp} {k k' : IntKind} {x y : Int} {eff : Eff} (he : shiftInt op k x y = some eff) (ho : All eff.obl) (t : TypeId) :
    ∃ v, (binOp op t (.int k x) (.int k' y)).run P w = .ok v w ∧ VRep h φ (okB C h φ w) w eff.val v ∧ eff.upd = [] ∧ eff.new = [] := by
  cases op <;> simp [shiftInt, effV, effIf] at he <;> subst he <;> simp [All] at ho <;>
    simp [binOp, Op.shift, show ¬ y < 0 by omega] <;> exact .pure (.int _ _)
theorem run_strOp {op : BinOp} {x y : ByteArray} {eff : Eff} (he : strOp op x y = some eff) (ho : All eff.obl) (t : TypeId) :
    ∃ v, (binOp op t (.string x) (.string y)).run P w = .ok v w ∧ VRep h φ (okB C h φ w) w eff.val v ∧ eff.upd = [] ∧ eff.new = [] := by
  cases op <;> simp [strOp, effV, effIf] at he <;> subst he <;> simp [All] at ho
  · refine ⟨.string (x ++ y), ?_, .pure (.str _), rfl, rfl⟩
    simp only [binOp, Op.stringOp, Sem.run_ite]
    rw [if_neg (by simp [IntKind.max, IntKind.signed, IntKind.bits]; omega)]
    rfl
  all_goals exact ⟨_, rfl, .pure (.bool _), rfl, rfl⟩

/-! Flat values against each other. -/
theorem eqvL_split {ks ls : List Nat} {xs ys : List AV} {r : Bool} (he : eqvL (ks ++ ls) xs ys = some r) :
    ∃ r1 r2, eqvL ks (xs.take ks.length) (ys.take ks.length) = some r1 ∧ eqvL ls (xs.drop ks.length) (ys.drop ks.length) = some r2 ∧ r = (r1 && r2) := by
  induction ks generalizing xs ys r with
  | nil => exact ⟨true, r, by simp [eqvL], by simpa using he, by simp⟩
  | cons k ks ih =>
    cases xs with
    | nil => simp [eqvL] at he
    | cons x xs =>
      cases ys with
      | nil => simp [eqvL] at he
      | cons y ys =>
        simp only [List.cons_append, eqvL] at he
        split at he
        · rename_i b hb
          split at he
          · rename_i q hq
            obtain ⟨r1, r2, h1, h2, h3⟩ := ih hq
            simp at he
            exact ⟨b && r1, r2, by simp [eqvL, hb, h1], by simpa using h2, by rw [← he, h3, Bool.and_assoc]⟩
          · cases he
        · cases he
theorem eqvL_length {ks : List Nat} {xs ys : List AV} {r : Bool} (he : eqvL ks xs ys = some r) : xs.length = ks.length ∧ ys.length = ks.length := by
  induction ks generalizing xs ys r with
  | nil =>
    cases xs with
    | nil => cases ys with
      | nil => simp
      | cons => simp [eqvL] at he
    | cons => simp [eqvL] at he
  | cons k ks ih =>
    cases xs with
    | nil => simp [eqvL] at he
    | cons x xs =>
      cases ys with
      | nil => simp [eqvL] at he
      | cons y ys =>
        simp only [eqvL] at he
        split at he
        · split at he
          · rename_i q hq
            have := ih hq
            simp [this]
          · cases he
        · cases he
theorem eqGuard_flat {t : TypeId} {d : Nat} {ks : List Nat} (hf : flatK P d t = some ks) : ∀ m, d ≤ m → P.eqGuardType m t = false := by
  induction d generalizing t ks with
  | zero => simp [flatK] at hf
  | succ d ih =>
    intro m hm
    obtain ⟨m, rfl⟩ : ∃ k, m = k + 1 := ⟨m - 1, by omega⟩
    simp only [flatK] at hf
    simp only [Program.eqGuardType]
    split at hf <;> rename_i hu <;> (try simp only [hu])
    · split at hf
      · cases hf
      · rename_i fs _
        rw [← Array.any_toList]
        generalize 0 = acc at hf
        generalize fs.toList = l at hf
        induction l generalizing acc ks with
        | nil => rfl
        | cons f l ih2 =>
          simp only [flatF] at hf
          split at hf
          · split at hf
            · rename_i k hk
              split at hf
              · split at hf
                · rename_i r hr
                  simp only [List.any_cons, Bool.or_eq_false_iff]
                  exact ⟨by simp [ih hk m (by omega)], ih2 _ hr⟩
                · cases hf
              · cases hf
            · cases hf
          · cases hf
    · cases hf
/-- A value of a type out of cells. -/
def mkV (P : Program) (t : TypeId) (us : List Value) : Value := if isAgg P t = some true then .agg us.toArray else us.headD undef
theorem run_isAgg {t : TypeId} {b : Bool} (hb : isAgg P t = some b) : (Go.isAgg t).run P w = .ok b w := by
  unfold isAgg at hb
  cases hu : P.underlying t with
  | none => simp [hu] at hb
  | some d =>
    simp only [hu, Option.map_some, Option.some.injEq] at hb
    subst hb
    simp only [Go.isAgg, Sem.run_bind, run_underlying hu, Result.andThen_ok]
    cases d <;> rfl
theorem run_sizeOf {t : TypeId} {n : Nat} (hs : sz P t = some n) : (sizeOf t).run P w = .ok n w := by
  unfold sz at hs
  cases hi : P.info? t with
  | none => simp [hi] at hs
  | some i =>
    simp [hi] at hs
    simp [sizeOf, typeInfo, hi, hs]
theorem headD_drop {us : List Value} {off : Nat} (hlt : off < us.length) : ((us.drop off).take 1).headD undef = us[off] := by
  rw [List.drop_eq_getElem_cons hlt]; rfl
theorem run_part {t : TypeId} {us : List Value} {off n : Nat} {b : Bool} (hb : isAgg P t = some b) (hs : sz P t = some n) (hn : off + n ≤ us.length) (h1 : b = false → n = 1) :
    (part t us.toArray off).run P w = .ok (mkV P t ((us.drop off).take n)) w := by
  unfold part mkV
  simp only [Sem.run_bind, run_isAgg hb, Result.andThen_ok, hb]
  cases b
  · have := h1 rfl
    subst this
    have hlt : off < us.length := by omega
    rw [if_neg (by simp), headD_drop hlt]
    simp [hlt]
  · simp [run_sizeOf hs, List.extract_eq_take_drop]
theorem flatK_agg {t : TypeId} {d : Nat} {ks : List Nat} (hf : flatK P d t = some ks) : ∃ b, isAgg P t = some b ∧ (b = false → ks.length = 1) := by
  cases d with
  | zero => simp [flatK] at hf
  | succ d =>
    simp only [flatK] at hf
    split at hf <;> rename_i hu <;> simp only [isAgg, hu] <;> simp_all [isAggD] <;> subst hf <;> rfl
theorem eqvL_one {k : Nat} {xs ys : List AV} {us vs : List Value} {r : Bool} (he : eqvL [k] xs ys = some r) (hx : VRepL h φ (okB C h φ w) w xs us) (hy : VRepL h φ (okB C h φ w) w ys vs) :
    ∃ x y u v, us = [u] ∧ vs = [v] ∧ eqvC k x y = some r ∧ VRep h φ (okB C h φ w) w x u ∧ VRep h φ (okB C h φ w) w y v := by
  have hl := eqvL_length he
  cases hx with
  | nil => simp at hl
  | cons a ta =>
    cases ta with
    | cons _ _ => simp at hl
    | nil =>
      cases hy with
      | nil => simp at hl
      | cons b tb =>
        cases tb with
        | cons _ _ => simp at hl
        | nil =>
          simp only [eqvL] at he
          split at he
          · simp at he; subst he; exact ⟨_, _, _, _, rfl, rfl, by assumption, a, b⟩
          · cases he
theorem equalIn_flat {d : Nat} : ∀ {t : TypeId} {ks : List Nat}, flatK P d t = some ks → ∀ m, d ≤ m → ∀ {xs ys : List AV} {us vs : List Value} {r : Bool},
    eqvL ks xs ys = some r → VRepL h φ (okB C h φ w) w xs us → VRepL h φ (okB C h φ w) w ys vs →
    (Op.equalIn m t (mkV P t us) (mkV P t vs)).run P w = .ok r w := by
  induction d with
  | zero => intro t ks hf; simp [flatK] at hf
  | succ d ih =>
    intro t ks hf m hm xs ys us vs r he hx hy
    obtain ⟨m, rfl⟩ : ∃ k, m = k + 1 := ⟨m - 1, by omega⟩
    have hf0 := hf
    simp only [flatK] at hf
    split at hf
    · rename_i hu
      cases hf
      obtain ⟨x, y, u, v, rfl, rfl, hc, h1, h2⟩ := eqvL_one he hx hy
      unfold eqvC at hc
      split at hc <;> first | (cases h1.inv_bool; cases h2.inv_bool; simp at hc; subst hc) | (simp at *; done) | cases hc
      simp [mkV, isAgg, hu, isAggD, Go.Op.equalIn, run_underlying hu]
    · rename_i k hu
      cases hf
      obtain ⟨x, y, u, v, rfl, rfl, hc, h1, h2⟩ := eqvL_one he hx hy
      unfold eqvC at hc
      split at hc <;> first | (simp at *; done) | skip
      · cases h1.inv_int; cases h2.inv_int
        split at hc
        · rename_i hkk
          simp at hc; subst hc hkk
          simp [mkV, isAgg, hu, isAggD, Go.Op.equalIn, run_underlying hu]
        · cases hc
    · rename_i hu
      cases hf
      obtain ⟨x, y, u, v, rfl, rfl, hc, h1, h2⟩ := eqvL_one he hx hy
      unfold eqvC at hc
      split at hc <;> first | (simp at *; done) | skip
      · cases h1.inv_str; cases h2.inv_str
        simp at hc; subst hc
        simp [mkV, isAgg, hu, isAggD, Go.Op.equalIn, run_underlying hu, beq_toListBytes]
    · rename_i fs hu
      split at hf
      · cases hf
      · rename_i hp
        have hag : isAgg P t = some true := by simp [isAgg, hu, isAggD]
        have hfo : P.fieldsOf t = fs := by simp [Program.fieldsOf, hu]
        simp only [mkV, hag, if_true]
        rw [run_equalIn_struct (P := P) w m t _ _ (by rw [hfo]; exact hu) (by simpa using hp), hfo]
        have key : ∀ (l : List Field) (acc : Nat) (ks : List Nat) (r : Bool), acc ≤ us.length → acc ≤ vs.length → flatF P (flatK P d) l acc = some ks → eqvL ks (xs.drop acc) (ys.drop acc) = some r →
            (Op.eqFields m us.toArray vs.toArray l).run P w = .ok r w := by
          intro l
          induction l with
          | nil =>
            intro acc ks r ha1 ha2 hl hq
            simp [flatF] at hl
            subst hl
            have := eqvL_length hq
            cases hdx : xs.drop acc with
            | nil =>
              cases hdy : ys.drop acc with
              | nil => rw [hdx, hdy] at hq; simp [eqvL] at hq; subst hq; simp [Op.eqFields]
              | cons => rw [hdy] at this; simp at this
            | cons => rw [hdx] at this; simp at this
          | cons f l ih2 =>
            intro acc ks r ha1 ha2 hl hq
            simp only [flatF] at hl
            split at hl
            · rename_i hc
              simp at hc
              split at hl
              · rename_i k1 hk1
                split at hl
                · rename_i hsz
                  split at hl
                  · rename_i k2 hk2
                    cases hl
                    obtain ⟨r1, r2, h1, h2, h3⟩ := eqvL_split hq
                    have hl1 := eqvL_length h1
                    simp only [List.length_take, List.length_drop] at hl1
                    obtain ⟨b, hb, hb1⟩ := flatK_agg hk1
                    have ex := hx.length
                    have ey := hy.length
                    have pa := run_part (w := w) (us := us) (off := f.offset) hb hsz (by rw [hc.2]; omega) hb1
                    have pb := run_part (w := w) (us := vs) (off := f.offset) hb hsz (by rw [hc.2]; omega) hb1
                    have pe := ih hk1 m (by omega) h1 ((hx.drop acc).take k1.length) ((hy.drop acc).take k1.length)
                    have pr := ih2 (acc + k1.length) k2 r2 (by omega) (by omega) hk2 (by simpa [List.drop_drop] using h2)
                    rw [hc.2] at pa pb
                    rw [Op.eqFields, if_pos hc.1]
                    simp only [Sem.run_bind, hc.2, pa, pb, pe, Result.andThen_ok]
                    subst h3
                    cases r1
                    · simp
                    · simpa using pr
                  · cases hl
                · cases hl
              · cases hl
            · cases hl
        exact key fs.toList 0 ks r (by omega) (by omega) hf (by simpa using he)
    · cases hf
end ops

end Go.Abs
/- Operations that only read: the machine does what the abstract machine says. -/
set_option linter.unusedVariables false
set_option linter.unusedSimpArgs false
set_option linter.unusedSectionVars false
namespace Go.Abs
open Go.RowKit

theorem resolve_builtin {P : Program} {a : Act} {w : World} {c : Call} {b : Builtin} (hc : c.callee = .builtin b) (T : TypeId) : ∃ cs, (resolve a.eval c T).run P w = .ok { target := .builtin b c.argTypes T cs, args := c.args.map a.eval } w := by
  exact ⟨_, by simp only [resolve, hc]; rfl⟩
theorem toList_one {α : Type} {xs : Array α} {x : α} (e : xs.toList = [x]) : xs = #[x] := by cases xs; simp_all
theorem toList_two {α : Type} {xs : Array α} {x y : α} (e : xs.toList = [x, y]) : xs = #[x, y] := by cases xs; simp_all

section ops
variable {P : Program} {E : Env} {C : C0} {h : SH} {φ : Nat → Value} {w : World} {a : Act} {o : Oper} {rd : Operand → AV} {look : Nat → Ob}



/-- What the abstract machine sees is there. -/
def Sees (look : Nat → Ob) (h : SH) : Prop := ∀ id, look id = .unborn ∨ look id = h id

theorem Sees.get (hl : Sees look h) {id : Nat} {ob : Ob} (he : look id = ob) (hn : ob ≠ .unborn) : h id = ob := by
  rcases hl id with h1 | h1
  · rw [he] at h1; exact absurd h1 hn
  · rw [← h1, he]

variable (hr : Rel C h φ w) (hρ : ∀ x, VRep h φ (okB C h φ w) w (rd x) (a.eval x)) (hl : Sees look h)
include hr hρ hl

theorem sound_move {x : Operand} (ho : o.op = .move x ∨ o.op = .assign x) : OpOK P C h φ w a o h (rd x) :=
  OpOK.same hr (v := a.eval x) (by rcases ho with ho | ho <;> simp [execOp, ho]) (hρ x)

theorem run_bin {op : BinOp} {T yT : TypeId} {x y : Operand} {u v r : Value} (hop : o.op = .binOp op T x y yT) (hg : (eqGuard op T x y (a.eval x) (a.eval y)).run P w = .ok () w)
    (hb : (binOp op T (a.eval x) (a.eval y)).run P w = .ok r w) : (execOp a.eval o).run P w = .ok (.value r) w := by
  simp [execOp, hop, hg, hb]

theorem sound_bin (hG : Good P) {op : BinOp} {T yT : TypeId} {x y : Operand} (hop : o.op = .binOp op T x y yT) {eff : Eff} (he : binA P op T (rd x) (rd y) = some eff) (hob : All eff.obl) :
    OpOK P C h φ w a o h eff.val ∧ eff.upd = [] ∧ eff.new = [] := by
  have hx := hρ x
  have hy := hρ y
  unfold binA at he
  split at he
  · rename_i k n k' n' e1 e2
    rw [e1] at hx; rw [e2] at hy
    have ux := hx.inv_int; have uy := hy.inv_int
    have hg : (eqGuard op T x y (a.eval x) (a.eval y)).run P w = .ok () w := by
      rw [ux, uy]; cases op <;> simp [eqGuard]
    split at he
    · obtain ⟨v, h1, h2, h3, h4⟩ := run_shiftInt (C := C) (h := h) (φ := φ) (P := P) (w := w) (k' := k') he hob T
      exact ⟨.same hr (run_bin (u := v) (v := v) hr hρ hl hop hg (by rw [ux, uy]; exact h1)) h2, h3, h4⟩
    · obtain ⟨v, h1, h2, h3, h4⟩ := run_shiftInt (C := C) (h := h) (φ := φ) (P := P) (w := w) (k' := k') he hob T
      exact ⟨.same hr (run_bin (u := v) (v := v) hr hρ hl hop hg (by rw [ux, uy]; exact h1)) h2, h3, h4⟩
    · split at he
      · rename_i hk
        subst hk
        obtain ⟨v, h1, h2, h3, h4⟩ := run_binInt (C := C) (h := h) (φ := φ) (P := P) (w := w) he hob T
        exact ⟨.same hr (run_bin (u := v) (v := v) hr hρ hl hop hg (by rw [ux, uy]; exact h1)) h2, h3, h4⟩
      · cases he
  · rename_i s s' e1 e2
    rw [e1] at hx; rw [e2] at hy
    have ux := hx.inv_str; have uy := hy.inv_str
    have hg : (eqGuard op T x y (a.eval x) (a.eval y)).run P w = .ok () w := by
      rw [ux, uy]; cases op <;> simp [eqGuard]
    obtain ⟨v, h1, h2, h3, h4⟩ := run_strOp (C := C) (h := h) (φ := φ) (P := P) (w := w) he hob T
    exact ⟨.same hr (run_bin (u := v) (v := v) hr hρ hl hop hg (by rw [ux, uy]; exact h1)) h2, h3, h4⟩
  · rename_i b b' e1 e2
    rw [e1] at hx; rw [e2] at hy
    have ux := hx.inv_bool; have uy := hy.inv_bool
    have hg : (eqGuard op T x y (a.eval x) (a.eval y)).run P w = .ok () w := by
      rw [ux, uy]; cases op <;> simp [eqGuard]
    have hbb : P.underlying T = some .bool → (Op.equal T (.bool b) (.bool b')).run P w = .ok (b == b') w := fun hu => run_equalIn_bool w 9999 T b b' hu
    split at he
    · rename_i hu
      simp [effV] at he; subst he
      exact ⟨.same hr (run_bin (u := undef) (v := undef) hr hρ hl hop hg (r := .bool (b == b')) (by rw [ux, uy]; simp only [binOp, Sem.run_bind, hbb hu, Result.andThen_ok, Sem.run_pure])) (.pure (.bool _)), rfl, rfl⟩
    · rename_i hu
      simp [effV] at he; subst he
      exact ⟨.same hr (run_bin (u := undef) (v := undef) hr hρ hl hop hg (r := .bool (!(b == b'))) (by rw [ux, uy]; simp only [binOp, Sem.run_bind, hbb hu, Result.andThen_ok, Sem.run_pure])) (.pure (.bool _)), rfl, rfl⟩
    · cases he
  · rename_i cs ds e1 e2
    rw [e1] at hx; rw [e2] at hy
    obtain ⟨us, ux, hus⟩ := hx.inv_agg
    obtain ⟨vs, uy, hvs⟩ := hy.inv_agg
    split at he
    · rename_i ks hk hag
      split at he
      · rename_i b hb
        have hg : (eqGuard op T x y (a.eval x) (a.eval y)).run P w = .ok () w := by
          rw [ux, uy]; exact run_eqGuard_agg (P := P) w op T x y _ _ (eqGuard_flat hk _ hG.depth)
        have heq := equalIn_flat (C := C) hk 10000 (by omega) hb hus hvs
        simp only [mkV, hag, if_true] at heq
        split at he
        · simp [effV] at he; subst he
          exact ⟨.same hr (run_bin (u := undef) (v := undef) hr hρ hl hop hg (r := .bool b) (by rw [ux, uy, run_eql_struct, heq]; rfl)) (.pure (.bool _)), rfl, rfl⟩
        · simp [effV] at he; subst he
          exact ⟨.same hr (run_bin (u := undef) (v := undef) hr hρ hl hop hg (r := .bool (!b)) (by rw [ux, uy, run_neq_struct, heq]; rfl)) (.pure (.bool _)), rfl, rfl⟩
        · cases he
      · cases he
    · cases he
  · cases he

theorem sound_un {op : UnOp} {T : TypeId} {x : Operand} (hop : o.op = .unOp op T x) {eff : Eff} (he : unA op (rd x) = some eff) :
    OpOK P C h φ w a o h eff.val ∧ eff.upd = [] ∧ eff.new = [] := by
  have hx := hρ x
  unfold unA at he
  split at he
  · rename_i b e1
    rw [e1] at hx
    simp [effV] at he; subst he
    exact ⟨.same hr (v := .bool (!b)) (by simp [execOp, hop, hx.inv_bool, Op.unary]) (.pure (.bool _)), rfl, rfl⟩
  · rename_i k n e1
    rw [e1] at hx
    simp [effV] at he; subst he
    exact ⟨.same hr (v := .int k (k.wrap (0 - n))) (by simp [execOp, hop, hx.inv_int, Op.unary, Op.intArith]) (by simpa using VRep.pure (.int _ _)), rfl, rfl⟩
  · rename_i k n e1
    rw [e1] at hx
    simp [effV] at he; subst he
    exact ⟨.same hr (v := .int k (k.wrap (BitVec.ofInt k.bits (if k.signed then -1 else k.max) ^^^ BitVec.ofInt k.bits n).toNat)) (by simp [execOp, hop, hx.inv_int, Op.unary, Op.intBits]) (.pure (.int _ _)), rfl, rfl⟩
  · cases he

theorem sound_extract {x : Operand} {i : Nat} (hop : o.op = .extract x i) {vs : List AV} {y : AV} (e1 : rd x = .tup vs) (e2 : vs[i]? = some y) : OpOK P C h φ w a o h y := by
  have hx := hρ x
  rw [e1] at hx
  obtain ⟨us, ux, hus⟩ := hx.inv_tup
  obtain ⟨v, h1, h2⟩ := hus.get i e2
  exact .same hr (v := v) (by simp [execOp, hop, ux, Instr.extract, h1]) h2

theorem sound_pick {c x y : Operand} {t d : Bool} (hop : o.op = .pick c x y) (e1 : rd c = .bool t) (e2 : t = d) : OpOK P C h φ w a o h (if d then rd x else rd y) := by
  have hx := hρ c
  rw [e1] at hx
  subst e2
  exact .same hr (v := if t then a.eval x else a.eval y) (by simp [execOp, hop, hx.inv_bool, asBool]) (by cases t <;> simp [hρ])

theorem own_form {id : Nat} (hd : h id ≠ .dead) {n : Nat} (hn : (∃ T s xs, h id = .row T s xs ∧ xs.length = n) ∨ ∃ xs, h id = .fro xs ∧ xs.length = n) : ∃ p c, φ id = .slice p n c := by
  have ho := hr.obj id
  rcases hn with ⟨T, s, xs, h2, rfl⟩ | ⟨xs, h2, rfl⟩
  · rw [h2] at ho
    obtain ⟨cells, h3, _⟩ := ho
    rcases h3.2 with ⟨h4, h5⟩ | ⟨g, cap, cur, h4, _⟩
    · exact ⟨none, 0, by rw [h4, h5]⟩
    · exact ⟨_, _, h4⟩
  · rw [h2] at ho
    obtain ⟨p, c, h4, _⟩ := VRep.inv_sl (h := h) (φ := φ) (.pure ho)
    exact ⟨_, _, h4⟩

theorem lenA_run {x : Operand} {n : Int} {T : TypeId} (he : lenA P look T (rd x) = some n) (ty : TypeId) :
    (Builtin.len_ #[T] ty #[a.eval x]).run P w = .ok (.int .i64 n) w := by
  have hx := hρ x
  unfold lenA at he
  split at he
  · rename_i s e1
    rw [e1] at hx
    split at he
    · rename_i hu
      simp at he; subst he
      rw [hx.inv_str]
      simp [Builtin.len_, run_underlying hu, goInt]
    · cases he
  · rename_i fl xs e1
    rw [e1] at hx
    split at he
    · rename_i hu
      simp at he; subst he
      obtain ⟨p, c, e, _⟩ := hx.inv_sl
      rw [e]
      simp [Builtin.len_, run_underlying hu, goInt]
    · cases he
  · rename_i id e1
    rw [e1] at hx
    have hv := hx.inv_own
    split at he
    · rename_i hu
      split at he
      · rename_i T' s xs e2
        have h2 := hl.get e2 (by simp)
        simp at he; subst he
        obtain ⟨p, c, h4⟩ := own_form hr hρ hl (id := id) (n := xs.length) (by simp [h2]) (.inl ⟨_, _, _, h2, rfl⟩)
        rw [hv.2 (by simp [h2]), h4]
        simp [Builtin.len_, run_underlying hu, goInt]
      · rename_i xs e2
        have h2 := hl.get e2 (by simp)
        simp at he; subst he
        obtain ⟨p, c, h4⟩ := own_form hr hρ hl (id := id) (n := xs.length) (by simp [h2]) (.inr ⟨_, h2, rfl⟩)
        rw [hv.2 (by simp [h2]), h4]
        simp [Builtin.len_, run_underlying hu, goInt]
      · cases he
    · rename_i hu
      split at he
      · rename_i ks e2
        have h2 := hl.get e2 (by simp)
        simp at he; subst he
        have ho := hr.obj id
        rw [h2] at ho
        obtain ⟨b, es, clk, h4, h5, h6, h7, h8⟩ := ho
        rw [hv.2 (by simp [h2]), h4]
        have hlen : es.size = ks.length := by have := congrArg List.length h7; simpa using this
        have hget : (getObj b).run P w = .ok (.map es clk) w := by
          simp [getObj, Sem.run, h6]
        simp [Builtin.len_, run_underlying hu, goInt, hget, hlen]
      · cases he
    · cases he
  · cases he

theorem sound_len {c : Call} (hop : o.op = .call c) (hc : c.callee = .builtin .len) {x : Operand} {T : TypeId} (ha : c.args.toList = [x]) (ht : c.argTypes.toList = [T]) {n : Int} (he : lenA P look T (rd x) = some n) :
    OpOK P C h φ w a o h (.int .i64 n) := by
  refine .same hr (v := .int .i64 n) ?_ (.pure (.int _ _))
  obtain ⟨cs, hres⟩ := resolve_builtin (P := P) (a := a) (w := w) hc o.type
  simp only [execOp, hop, Sem.run_bind, hres, Result.andThen_ok, invoke, builtin, toList_one ha, toList_one ht, List.map_toArray, List.map_cons, List.map_nil]
  rw [lenA_run hr hρ hl he]
  simp
theorem sound_min {c : Call} (hop : o.op = .call c) (hc : c.callee = .builtin .min) {x y : Operand} (ha : c.args.toList = [x, y]) {z : AV} (he : min2A (rd x) (rd y) = some z) :
    OpOK P C h φ w a o h z := by
  have hx := hρ x
  have hy := hρ y
  unfold min2A at he
  split at he
  · rename_i k n k' n' e1 e2
    rw [e1] at hx; rw [e2] at hy
    simp at he; subst he
    refine .same hr (v := .int k (if n' < n then n' else n)) ?_ (.pure (.int _ _))
    obtain ⟨cs, hres⟩ := resolve_builtin (P := P) (a := a) (w := w) hc o.type
    simp only [execOp, hop, Sem.run_bind, hres, Result.andThen_ok, invoke, builtin, toList_two ha, List.map_toArray, List.map_cons, List.map_nil]
    simp [hx.inv_int, hy.inv_int, Builtin.min_, Builtin.min2]
  · cases he
theorem sound_max {c : Call} (hop : o.op = .call c) (hc : c.callee = .builtin .max) {x y : Operand} (ha : c.args.toList = [x, y]) {z : AV} (he : max2A (rd x) (rd y) = some z) :
    OpOK P C h φ w a o h z := by
  have hx := hρ x
  have hy := hρ y
  unfold max2A at he
  split at he
  · rename_i k n k' n' e1 e2
    rw [e1] at hx; rw [e2] at hy
    simp at he; subst he
    refine .same hr (v := .int k (if n' > n then n' else n)) ?_ (.pure (.int _ _))
    obtain ⟨cs, hres⟩ := resolve_builtin (P := P) (a := a) (w := w) hc o.type
    simp only [execOp, hop, Sem.run_bind, hres, Result.andThen_ok, invoke, builtin, toList_two ha, List.map_toArray, List.map_cons, List.map_nil]
    simp [hx.inv_int, hy.inv_int, Builtin.max_, Builtin.max2]
  · cases he
end ops

end Go.Abs
/- Operations that only read memory. -/
set_option linter.unusedVariables false
set_option linter.unusedSimpArgs false
set_option linter.unusedSectionVars false
namespace Go.Abs
open Go.RowKit

theorem add_at (b o j : Nat) : (⟨b, o, none⟩ : Addr).add j = ⟨b, o + j, none⟩ := by unfold Addr.add; split <;> simp_all

theorem VRep.plain {h : SH} {φ : Nat → Value} {A : Nat → Prop} {w : World} {fl : Fl} {xs : List AV} {v : Value} (p : VRep h φ A w (.sl fl xs) v) : VRep h φ A w (.sl .p xs) v := by
  cases p with
  | pure p =>
    cases p with
    | nil fl => exact .pure (.nil .p)
    | sl0 hc => exact .pure (.sl0 hc)
    | sl a1 a2 a3 a4 a5 => exact .pure (.sl a1 a2 a3 a4 a5)
    | tight e q => exact .pure q

section mem
variable {P : Program} {h : SH} {φ : Nat → Value} {A : Nat → Prop} {w : World}

/-- A whole variable that is read: its cells are there. -/
theorem run_loadVar_cells {T : TypeId} {n : Nat} {ag : Bool} (hag : isAgg P T = some ag) (hs : sz P T = some n) (b o : Nat) (vs : List Value) (hn : vs.length = n) (h1 : ag = false → n = 1)
    (hc : ∀ i v, vs[i]? = some v → w.cell? ⟨b, o + i, none⟩ = some v) : (loadVar T ⟨b, o, none⟩).run P w = .ok (mkV P T vs) w := by
  unfold loadVar mkV
  simp only [Sem.run_bind, run_isAgg hag, Result.andThen_ok, hag]
  cases ag
  · have := h1 rfl
    subst this
    match vs, hn with
    | [v], _ =>
      have := hc 0 v rfl
      simp at this
      simp [this]
  · subst hn
    have := run_loadCells_list (P := P) w ⟨b, o, none⟩ vs (fun j v hj => by rw [add_at]; exact hc j v hj)
    simp [run_sizeOf hs, this]

/-- What 'partOf' tells of cells, as values: a sublist. -/
theorem partOf_spec {T : TypeId} {cs : List AV} {off : Nat} {y : AV} (he : partOf P T cs off = some y) :
    ∃ ag n, isAgg P T = some ag ∧ sz P T = some n ∧ ((ag = true ∧ off + n ≤ cs.length ∧ y = .agg ((cs.drop off).take n)) ∨ (ag = false ∧ n = 1 ∧ cs[off]? = some y)) := by
  unfold partOf at he
  split at he
  · rename_i n h1 h2
    split at he
    · rename_i hle
      simp at he
      exact ⟨true, n, h1, h2, .inl ⟨rfl, hle, he.symm⟩⟩
    · cases he
  · rename_i n h1 h2
    split at he
    · rename_i hn
      exact ⟨false, n, h1, h2, .inr ⟨rfl, hn, he⟩⟩
    · cases he
  · cases he

theorem vrep_part {T : TypeId} {cs : List AV} {vs : List Value} {off : Nat} {y : AV} (he : partOf P T cs off = some y) (hv : VRepL h φ A w cs vs) :
    ∃ n, sz P T = some n ∧ off + n ≤ vs.length ∧ (isAgg P T = some false → n = 1) ∧ (∃ ag, isAgg P T = some ag) ∧ VRep h φ A w y (mkV P T ((vs.drop off).take n)) := by
  obtain ⟨ag, n, h1, h2, h3⟩ := partOf_spec he
  have hl := hv.length
  refine ⟨n, h2, ?_, ?_, ⟨ag, h1⟩, ?_⟩
  · rcases h3 with ⟨_, h4, _⟩ | ⟨_, rfl, h4⟩
    · omega
    · have := (List.getElem?_eq_some_iff.1 h4).1
      omega
  · intro hf
    rcases h3 with ⟨h4, _⟩ | ⟨_, h4, _⟩
    · subst h4; rw [h1] at hf; cases hf
    · exact h4
  · rcases h3 with ⟨rfl, h4, rfl⟩ | ⟨rfl, rfl, h4⟩
    · simp only [mkV, h1, if_true]
      exact .agg ((hv.drop off).take n)
    · obtain ⟨v, h5, h6⟩ := hv.get off h4
      have hlt := (List.getElem?_eq_some_iff.1 h5).1
      have e : ((vs.drop off).take 1).headD undef = v := by
        rw [headD_drop hlt]
        exact (List.getElem?_eq_some_iff.1 h5).2
      simp only [mkV, h1, e]
      simpa using h6

theorem run_loadVar_part {T : TypeId} {cs : List AV} {vs : List Value} {off : Nat} {y : AV} (he : partOf P T cs off = some y) (hv : VRepL h φ A w cs vs) (b o : Nat)
    (hc : ∀ i v, vs[i]? = some v → w.cell? ⟨b, o + i, none⟩ = some v) : ∃ u, (loadVar T ⟨b, o + off, none⟩).run P w = .ok u w ∧ VRep h φ A w y u := by
  obtain ⟨n, h1, h2, h3, ⟨ag, h4⟩, h5⟩ := vrep_part he hv
  refine ⟨_, run_loadVar_cells h4 h1 b (o + off) _ (by simp; omega) (fun e => h3 (by rw [h4, e])) (fun i v hi => ?_), h5⟩
  rw [List.getElem?_take] at hi
  split at hi
  · rw [List.getElem?_drop] at hi
    rw [← hc _ v hi]; congr 2; omega
  · cases hi
end mem

section ops
variable {P : Program} {E : Env} {C : C0} {h : SH} {φ : Nat → Value} {w : World} {a : Act} {o : Oper} {rd : Operand → AV} {look : Nat → Ob}
variable (hr : Rel C h φ w) (hρ : ∀ x, VRep h φ (okB C h φ w) w (rd x) (a.eval x)) (hl : Sees look h)
include hr hρ hl

theorem run_load {T : TypeId} {x : Operand} {ad : Addr} {u : Value} (hop : o.op = .load T x) (hx : a.eval x = .pointer (some ad)) (hu : (loadVar T ad).run P w = .ok u w) :
    (execOp a.eval o).run P w = .ok (.value u) w := by
  simp [execOp, hop, hx, Instr.loadAt, Instr.sureAddr, hu]

/-- A variable's cells in memory. -/
theorem box_cells {id : Nat} {cs : List AV} (hx : (∃ T, h id = .box T cs) ∨ h id = .fbox cs) : ∃ b vs, φ id = .pointer (some ⟨b, 0, none⟩) ∧ VRepL h φ (okB C h φ w) w cs vs ∧ ∀ i v, vs[i]? = some v → w.cell? ⟨b, 0 + i, none⟩ = some v := by
  have ho := hr.obj id
  rcases hx with ⟨T, hx⟩ | hx
  · rw [hx] at ho
    obtain ⟨b, vs, h1, h2, h3, h4, _⟩ := ho
    refine ⟨b, vs, h1, h4, fun i v hi => ?_⟩
    simp [World.cell?, h3]
    simpa using hi
  · rw [hx] at ho
    obtain ⟨b, h1, h2, h3⟩ := ho
    obtain ⟨vs, h4, h5, _⟩ := h3.list
    exact ⟨b, vs, h1, h4.v, h5⟩

/-- A row's cells in memory. -/
theorem row_cells {id : Nat} {T : TypeId} {s : Nat} {xs : List AV} (hx : h id = .row T s xs) {i : Nat} {y : AV} (hy : xs[i]? = some y) :
    ∃ b n c vs, φ id = .slice (some ⟨b, 0, none⟩) n c ∧ RepL (okB C h φ w) w y.cells vs ∧ y.cells.length = s ∧ ∀ j v, vs[j]? = some v → w.cell? ⟨b, i * s + j, none⟩ = some v := by
  have ho := hr.obj id
  rw [hx] at ho
  obtain ⟨cells, h1, h2, h3, h4, _⟩ := ho
  have hlt : i < xs.length := (List.getElem?_eq_some_iff.1 hy).1
  rcases h1.2 with ⟨_, hn⟩ | ⟨g, cap, cur, hv, _⟩
  · omega
  · have hys : y.cells.length = s := h3 y (List.mem_of_getElem? hy)
    have hcell := h1.cells (g := g) (by simp [hv, Value.ownBlock])
    -- the element's cells among all
    have key : ∀ (l : List AV) (i : Nat), l[i]? = some y → (∀ x ∈ l, x.cells.length = s) → ((l.flatMap AV.cells).drop (i * s)).take s = y.cells := by
      intro l
      induction l with
      | nil => intro i hi; simp at hi
      | cons z l ih =>
        intro i hi hs
        have hz := hs z (by simp)
        cases i with
        | zero =>
          simp at hi; subst hi
          simp [List.take_append_of_le_length (Nat.le_of_eq hys.symm), List.take_of_length_le (Nat.le_of_eq hys)]
        | succ i =>
          simp at hi
          have := ih i hi (fun x hx => hs x (by simp [hx]))
          rw [List.flatMap_cons, show (i + 1) * s = z.cells.length + i * s by rw [hz, Nat.add_mul]; omega, ← List.drop_drop, List.drop_left]
          exact this
    have hk := key xs i hy h3
    have h5 := (h2.drop (i * s)).take s
    rw [hk] at h5
    refine ⟨g, _, cap, _, hv, h5, hys, fun j v hj => ?_⟩
    rw [List.getElem?_take] at hj
    split at hj
    · rw [List.getElem?_drop] at hj
      have := hcell _ v hj
      rw [add_at] at this
      simpa using this
    · cases hj

theorem sound_load {T : TypeId} {x : Operand} (hop : o.op = .load T x) {ans : Option Ans} {eff : Eff} (he : loadA P look T (rd x) ans = some eff) (hob : All eff.obl) :
    OpOK P C h φ w a o h eff.val ∧ eff.upd = [] ∧ eff.new = [] := by
  have hx := hρ x
  unfold loadA at he
  split at he
  · rename_i id off e1
    rw [e1] at hx
    obtain ⟨b, hb, hv, hu⟩ := hx.inv_ptr
    have main : ∀ cs y, ((∃ T, h id = .box T cs) ∨ h id = .fbox cs) → partOf P T cs off = some y → OpOK P C h φ w a o h y := by
      intro cs y hbx hp
      obtain ⟨b', vs, h1, h2, h3⟩ := box_cells hr hρ hl hbx
      rw [hb] at h1
      injection h1 with h1; injection h1 with h1; injection h1 with h1
      subst h1
      obtain ⟨u, h4, h5⟩ := run_loadVar_part hp h2 b 0 h3
      exact .same hr (run_load hr hρ hl hop hv (by simpa using h4)) h5
    split at he
    · rename_i T0 cs e2
      split at he
      · rename_i y hp
        simp [effV] at he; subst he
        exact ⟨main cs y (.inl ⟨_, hl.get e2 (by simp)⟩) hp, rfl, rfl⟩
      · cases he
    · rename_i cs e2
      split at he
      · rename_i y hp
        simp [effV] at he; subst he
        exact ⟨main cs y (.inr (hl.get e2 (by simp))) hp, rfl, rfl⟩
      · cases he
    · cases he
  · rename_i cs off e1
    rw [e1] at hx
    obtain ⟨b, o', ha, hc, hv⟩ := hx.inv_pin
    split at he
    · rename_i y hp
      simp [effV] at he; subst he
      obtain ⟨vs, h4, h5, _⟩ := hc.list
      obtain ⟨u, h6, h7⟩ := run_loadVar_part hp (h4.v (h := h) (φ := φ)) b o' h5
      exact ⟨.same hr (run_load hr hρ hl hop hv h6) h7, rfl, rfl⟩
    · cases he
  · rename_i id i off e1
    rw [e1] at hx
    split at he
    · rename_i T0 s xs y e2
      split at he
      · rename_i z hp
        simp [effIf] at he; subst he
        have hy : xs[i]? = some y := hob.1
        have h2 := hl.get e2 (by simp)
        obtain ⟨b, n, c, vs, h3, h4, h5, h6⟩ := row_cells hr hρ hl h2 hy
        obtain ⟨b', n', c', h7, h8⟩ := hx.inv_ptrE h2
        rw [h3] at h7
        injection h7 with h7 _ _; injection h7 with h7; injection h7 with h7
        subst h7
        obtain ⟨u, h9, h10⟩ := run_loadVar_part hp (h4.v (h := h) (φ := φ)) b (i * s) h6
        exact ⟨.same hr (run_load hr hρ hl hop h8 h9) h10, rfl, rfl⟩
      · cases he
    · cases he
  · cases he

theorem run_fieldAt {T : TypeId} {f off : Nat} {ft : TypeId} (hf : fieldA P T f = some (off, ft)) (b q : Nat) :
    (Instr.fieldAt T (.pointer (some ⟨b, q, none⟩)) f).run P w = .ok (.pointer (some ⟨b, q + off, none⟩)) w := by
  unfold fieldA at hf
  split at hf
  · rename_i fs hu
    split at hf
    · rename_i fd hfd
      split at hf
      · cases hf
      · rename_i n hn hs
        simp at hf
        obtain ⟨rfl, rfl⟩ := hf
        have : fs[f]? = some fd := by simpa using hfd
        have hn0 : n ≠ 0 := fun e => hn e
        simp only [Instr.fieldAt, Sem.run_bind, run_underlying hu, Result.andThen_ok, this, Instr.sureAddr, Sem.run_pure, fieldPlace, run_sizeOf hs, if_neg hn0, add_at]
      · cases hf
    · cases hf
  · cases hf

theorem sound_fieldAddr {T : TypeId} {x : Operand} {f : Nat} (hop : o.op = .fieldAddr T x f) {eff : Eff} (he : fieldAddrA P look T (rd x) f = some eff) :
    OpOK P C h φ w a o h eff.val ∧ eff.upd = [] ∧ eff.new = [] := by
  have hx := hρ x
  unfold fieldAddrA at he
  split at he
  · cases he
  · rename_i off ft hf
    split at he
    · rename_i id q e1
      rw [e1] at hx
      obtain ⟨b, hb, hv, hu⟩ := hx.inv_ptr
      simp [effV] at he; subst he
      exact ⟨.same hr (v := .pointer (some ⟨b, q + off, none⟩)) (by simp [execOp, hop, hv, run_fieldAt hr hρ hl hf]) (.ptr hu hb), rfl, rfl⟩
    · rename_i id i q e1
      rw [e1] at hx
      split at he
      · rename_i T0 s xs e2
        have hid := hl.get e2 (by simp)
        simp [effV] at he; subst he
        obtain ⟨b, n, c, h3, h4⟩ := hx.inv_ptrE hid
        refine ⟨.same hr (v := .pointer (some ⟨b, i * s + (q + off), none⟩)) ?_ (.ptrE (by simp [hid]) rfl fun T' s' xs' hx' => ?_), rfl, rfl⟩
        · have := run_fieldAt (P := P) hr hρ hl hf b (i * s + q)
          simp [execOp, hop, h4, this, Nat.add_assoc]
        · rw [hid] at hx'; cases hx'; exact ⟨b, n, c, h3, rfl⟩
      · cases he
    · rename_i cs q e1
      rw [e1] at hx
      obtain ⟨b, o', ha, hc, hv⟩ := hx.inv_pin
      simp [effV] at he; subst he
      exact ⟨.same hr (v := .pointer (some ⟨b, o' + (q + off), none⟩)) (by simp [execOp, hop, hv, run_fieldAt hr hρ hl hf, Nat.add_assoc]) (.pure (.pin ha hc)), rfl, rfl⟩
    · cases he

theorem bnd_inv {x : Operand} {i : Int} (he : bnd (rd x) = some i) : ∃ k, a.eval x = .int k i := by
  have hx := hρ x
  unfold bnd at he
  split at he
  · rename_i k n e1
    rw [e1] at hx
    simp at he; subst he
    exact ⟨k, hx.inv_int⟩
  · cases he

theorem sl_elem {xs : List AV} {v : Value} (hx : VRep h φ (okB C h φ w) w (.sl .p xs) v) {i : Nat} {y : AV} (hy : xs[i]? = some y) :
    ∃ b o n c, v = .slice (some ⟨b, o, none⟩) n c ∧ n = xs.length ∧ okB C h φ w b ∧ RepAt (okB C h φ w) w y.cells b (o + i * y.cells.length) := by
  obtain ⟨p, c, e, _, _, _, h2⟩ := hx.inv_sl
  obtain ⟨b, o', s, h3, h4, h5⟩ := h2 (fun e => by subst e; simp at hy)
  subst h3
  obtain ⟨h6, h7⟩ := h5.get i hy
  exact ⟨b, o', _, c, e, rfl, h4, by rw [h7]; exact h6⟩

theorem sound_indexAddr {T : TypeId} {x ix : Operand} (hop : o.op = .indexAddr T x ix) {ans : Option Ans} {eff : Eff} (he : indexAddrA P look T (rd x) (rd ix) ans = some eff) (hob : All eff.obl) :
    OpOK P C h φ w a o h eff.val ∧ eff.upd = [] ∧ eff.new = [] := by
  have hx := hρ x
  unfold indexAddrA at he
  split at he
  · cases he
  · rename_i i hi
    obtain ⟨k, hiv⟩ := bnd_inv hr hρ hl hi
    split at he
    · rename_i n e ha
      have hu : P.underlying T = some (.array n e) := by unfold arrA at ha; split at ha <;> simp_all
      split at he
      · rename_i s hs
        split at he
        · rename_i id off e1
          rw [e1] at hx
          obtain ⟨b, hb, hv, hun⟩ := hx.inv_ptr
          simp [effIf] at he; subst he
          have hc : 0 ≤ i ∧ i < n := hob.1
          refine ⟨.same hr (v := .pointer (some ⟨b, off + i.toNat * s, none⟩)) ?_ (.ptr hun hb), rfl, rfl⟩
          simp [execOp, hop, hv, hiv, Instr.indexAt, asIntOf, run_underlying hu, Instr.sureAddr, hc, run_sizeOf hs, add_at]
        · rename_i cs off e1
          rw [e1] at hx
          obtain ⟨b, o', hA, hcs, hv⟩ := hx.inv_pin
          simp [effIf] at he; subst he
          have hc : 0 ≤ i ∧ i < n := hob.1
          refine ⟨.same hr (v := .pointer (some ⟨b, o' + (off + i.toNat * s), none⟩)) ?_ (.pure (.pin hA hcs)), rfl, rfl⟩
          simp [execOp, hop, hv, hiv, Instr.indexAt, asIntOf, run_underlying hu, Instr.sureAddr, hc, run_sizeOf hs, add_at, Nat.add_assoc]
        · cases he
      · cases he
    · split at he
      · cases he
      · rename_i e hel
        have hu : P.underlying T = some (.slice e) := by unfold elemA at hel; split at hel <;> simp_all
        split at he
        · cases he
        · rename_i s hs
          have run_sl : ∀ (b q n c : Nat), a.eval x = .slice (some ⟨b, q, none⟩) n c → 0 ≤ i → i < n → (execOp a.eval o).run P w = .ok (.value (.pointer (some ⟨b, q + i.toNat * s, none⟩))) w := by
            intro b q n c hv h0 h1
            simp [execOp, hop, hv, hiv, Instr.indexAt, asIntOf, run_underlying hu, h0, h1, run_sizeOf hs, add_at]
          have main : ∀ xs y, VRep h φ (okB C h φ w) w (.sl .p xs) (a.eval x) → y.cells.length = s → 0 ≤ i → xs[i.toNat]? = some y → OpOK P C h φ w a o h (.pin y.cells 0) := by
            intro xs y hx hys h0 hy
            obtain ⟨b, q, n, c, hv, hn, hA, hc⟩ := sl_elem hr hρ hl hx hy
            have hlt := (List.getElem?_eq_some_iff.1 hy).1
            exact .same hr (run_sl b q n c hv h0 (by omega)) (by rw [hys] at hc; exact .pure (.pin hA hc))
          split at he
          · rename_i fl xs e1
            rw [e1] at hx
            have hx' := hx.plain
            split at he
            · rename_i y
              split at he
              · rename_i hys
                simp [effIf] at he; subst he
                exact ⟨main xs y hx' hys hob.1.1 hob.1.2, rfl, rfl⟩
              · cases he
            · cases he
          · rename_i id e1
            rw [e1] at hx
            split at he
            · rename_i T0 s' xs e2
              have hid := hl.get e2 (by simp)
              split at he
              · rename_i hss
                subst hss
                simp [effIf] at he; subst he
                have hc : 0 ≤ i ∧ i < xs.length := hob.1
                have hv := hx.inv_own.2 (by simp [hid])
                have ho := hr.obj id
                rw [hid] at ho
                obtain ⟨cells, h1, _⟩ := ho
                rcases h1.2 with ⟨_, hn⟩ | ⟨g, cap, cur, hg, _⟩
                · omega
                · refine ⟨.same hr (run_sl g 0 _ cap (hv.trans hg) hc.1 hc.2) (.ptrE (by simp [hid]) rfl fun T' s2 xs' hx' => ?_), rfl, rfl⟩
                  rw [hid] at hx'; cases hx'
                  exact ⟨g, _, cap, hg, by simp⟩
              · cases he
            · rename_i xs e2
              have hid := hl.get e2 (by simp)
              split at he
              · rename_i y
                split at he
                · rename_i hys
                  simp [effIf] at he; subst he
                  have hv := hx.inv_own.2 (by simp [hid])
                  have ho := hr.obj id
                  rw [hid] at ho
                  exact ⟨main xs y (.pure (hv ▸ ho)) hys hob.1.1 hob.1.2, rfl, rfl⟩
                · cases he
              · cases he
            · cases he
          · cases he

theorem sound_field {T : TypeId} {x : Operand} {f off : Nat} {ft : TypeId} {cs : List AV} {y : AV} (hop : o.op = .field T x f) (hf : fieldA P T f = some (off, ft)) (e1 : rd x = .agg cs) (hp : partOf P ft cs off = some y) :
    OpOK P C h φ w a o h y := by
  have hx := hρ x
  rw [e1] at hx
  obtain ⟨vs, hv, hvs⟩ := hx.inv_agg
  obtain ⟨n, h1, h2, h3, ⟨ag, h4⟩, h5⟩ := vrep_part hp hvs
  have hrun := run_part (w := w) (us := vs) (off := off) h4 h1 h2 (fun e => h3 (by rw [h4, e]))
  refine .same hr (v := mkV P ft ((vs.drop off).take n)) ?_ h5
  unfold fieldA at hf
  split at hf
  · rename_i fs hu
    split at hf
    · rename_i fd hfd
      split at hf
      · cases hf
      · simp at hf
        obtain ⟨rfl, rfl⟩ := hf
        have : fs[f]? = some fd := by simpa using hfd
        simp [execOp, hop, hv, Instr.field, run_underlying hu, this, asAgg, hrun]
      · cases hf
    · cases hf
  · cases hf

theorem sound_conv {S D : TypeId} {x : Operand} (hop : o.op = .convert S D x) {eff : Eff} (he : convA P S D (rd x) = some eff) :
    OpOK P C h φ w a o h eff.val ∧ eff.upd = [] ∧ eff.new = [] := by
  have hx := hρ x
  unfold convA at he
  split at he
  · rename_i k1 k2 k n e1 e2 e3
    rw [e3] at hx
    simp [effV] at he; subst he
    exact ⟨.same hr (v := .int k2 (k2.wrap n)) (by simp [execOp, hop, hx.inv_int, convert, run_underlying e1, run_underlying e2, Conv.intToInt]) (.pure (.int _ _)), rfl, rfl⟩
  · rename_i s e1 e2 e3
    rw [e3] at hx
    simp [effV] at he; subst he
    exact ⟨.same hr (v := .string s) (by simp [execOp, hop, hx.inv_str, convert, run_underlying e1, run_underlying e2]) (.pure (.str _)), rfl, rfl⟩
  · cases he

theorem sound_nilCheck {x : Operand} (hop : o.op = .nilCheck x) (he : (∃ id off, rd x = .ptr id off) ∨ ∃ cs off, rd x = .pin cs off) : OpOK P C h φ w a o h (rd x) := by
  have hx := hρ x
  rcases he with ⟨id, off, e1⟩ | ⟨cs, off, e1⟩
  · rw [e1] at hx ⊢
    obtain ⟨b, hb, hv, hun⟩ := hx.inv_ptr
    exact .same hr (v := a.eval x) (by simp [execOp, hop, hv]) hx
  · rw [e1] at hx ⊢
    obtain ⟨b, o', hA, hcs, hv⟩ := hx.inv_pin
    exact .same hr (v := a.eval x) (by simp [execOp, hop, hv]) hx
end ops

end Go.Abs
/- Operations that make memory, and that let it be. -/
set_option linter.unusedVariables false
set_option linter.unusedSimpArgs false
set_option linter.unusedSectionVars false
namespace Go.Abs
open Go.RowKit

/-- Parts that are put together. -/
inductive PRep (h : SH) (φ : Nat → Value) (A : Nat → Prop) (w : World) : List (Nat × AV) → List (Nat × Value) → Prop
  | nil : PRep h φ A w [] []
  | cons {i x v r s} : VRep h φ A w x v → PRep h φ A w r s → PRep h φ A w ((i, x) :: r) ((i, v) :: s)

section fill
variable {h : SH} {φ : Nat → Value} {A : Nat → Prop} {w : World}

/-- A value's cells. -/
theorem vrep_cells {x : AV} {v : Value} (p : VRep h φ A w x v) (hx : known x.cells = true) : ∃ vs, v.cells = vs.toArray ∧ VRepL h φ A w x.cells vs ∧ ∀ u ∈ vs, u.oneCell' = true := by
  rcases cells_one_or (x := x) with ⟨cs, rfl⟩ | h1
  · obtain ⟨vs, rfl, hv⟩ := p.inv_agg
    exact ⟨vs, rfl, hv, hv.ones hx⟩
  · have hk := hx
    rw [h1] at hk
    simp [known] at hk
    have := p.one hk
    refine ⟨[v], ?_, by rw [h1]; exact .cons p .nil, by simpa using this⟩
    cases v <;> first | rfl | (simp [Value.oneCell'] at this; done)

theorem fill_foldl (l : List Value) : ∀ (off k : Nat) (cells : Array Value), off + k + l.length ≤ cells.size →
    ((l.zipIdx k).foldl (fun cs (x : Value × Nat) => cs.setIfInBounds (off + x.2) x.1) cells).toList = cells.toList.take (off + k) ++ (l ++ cells.toList.drop (off + k + l.length)) := by
  induction l with
  | nil => intro off k cells _; simp
  | cons c l ih =>
    intro off k cells hc
    simp only [List.zipIdx_cons, List.foldl_cons]
    simp at hc
    rw [ih off (k + 1) _ (by simp; omega)]
    simp only [Array.toList_setIfInBounds]
    have hlt : off + k < cells.toList.length := by simp; omega
    have e1 : (cells.toList.set (off + k) c).take (off + (k + 1)) = cells.toList.take (off + k) ++ [c] := by
      rw [show off + (k + 1) = off + k + 1 by omega, List.take_succ_eq_append_getElem (by simpa using hlt)]
      simp [List.take_set_of_le]
    have e2 : (cells.toList.set (off + k) c).drop (off + (k + 1) + l.length) = cells.toList.drop (off + k + (c :: l).length) := by
      rw [List.drop_set_of_lt (by omega)]
      congr 1; simp; omega
    rw [e1, e2]
    simp

/-- Values put into cells. -/
theorem fill_spec (place : Nat → Option (Nat × Nat)) : ∀ (parts : List (Nat × AV)) (vparts : List (Nat × Value)) (cs cs' : List AV) (vs : List Value),
    fillA place parts cs = some cs' → VRepL h φ A w cs vs → PRep h φ A w parts vparts →
    ∃ vs', Instr.fill place vs.toArray vparts = some vs'.toArray ∧ VRepL h φ A w cs' vs' ∧ vs'.length = vs.length := by
  intro parts
  induction parts with
  | nil =>
    intro vparts cs cs' vs he hv hp
    cases hp
    simp [fillA] at he
    subst he
    exact ⟨vs, rfl, hv, rfl⟩
  | cons p parts ih =>
    obtain ⟨i, x⟩ := p
    intro vparts cs cs' vs he hv hp
    cases hp with
    | cons hx hp =>
      rename_i v vparts
      simp only [fillA] at he
      split at he
      · cases he
      · rename_i off n hpl
        split at he
        · rename_i hc
          obtain ⟨us, hu, huv, hu1⟩ := vrep_cells hx hc.2.1
          have hul : us.length = n := by rw [← huv.length]; exact hc.1
          have hlen := hv.length
          have hsp := hv.spl huv off
          obtain ⟨vs', h1, h2, h3⟩ := ih vparts _ cs' _ he hsp hp
          refine ⟨vs', ?_, h2, ?_⟩
          · rw [Instr.fill]
            simp only [hpl]
            rw [hu]
            have e1 : (us.toArray.size ≠ n || decide (off + us.toArray.size > vs.toArray.size)) = false := by simp; omega
            rw [if_neg (by simp; omega)]
            have e2 := fill_foldl us off 0 vs.toArray (by simp; omega)
            rw [← h1]
            congr 1
            apply Array.ext'
            rw [← Array.foldl_toList, Array.toList_zipIdx]
            simpa using e2
          · rw [h3]; simp; omega
        · cases he
end fill

theorem newS_nil (h : SH) (n : Nat) : h = (fun k => h k) := rfl

/-- What a heap is behind an operation. -/
def updS (h : SH) : List (Nat × Ob) → SH
  | [] => h
  | (id, o) :: r => updS (upd1 h id o) r
def newS (h : SH) (fresh : Nat) : List Ob → SH
  | [] => h
  | o :: r => newS (upd1 h fresh o) (fresh + 1) r

section ops
variable {P : Program} {E : Env} {C : C0} {h : SH} {φ : Nat → Value} {w : World} {a : Act} {o : Oper} {rd : Operand → AV} {look : Nat → Ob}
variable (hr : Rel C h φ w) (hρ : ∀ x, VRep h φ (okB C h φ w) w (rd x) (a.eval x)) (hl : Sees look h)

theorem zeroA_run {T : TypeId} {z : AV} (hz : zeroA P T = some z) : ∃ v i, P.info? T = some i ∧ i.zero = some v ∧ (zeroValue T).run P w = .ok v w ∧ z = ofValue v := by
  unfold zeroA at hz
  split at hz
  · rename_i i hi
    split at hz
    · rename_i v hv
      simp at hz
      exact ⟨v, i, hi, hv, by simp [zeroValue, typeInfo, hi, hv], hz.symm⟩
    · cases hz
  · cases hz

include hr

/-- A new variable. -/
theorem sound_newVar {T : TypeId} {x : AV} {v : Value} {fresh : Nat} (hu : h fresh = .unborn) (hx : VRep h φ (okB C h φ w) w x v) {eff : Eff} (he : allocA P T x fresh = some eff)
    (hrun : (execOp a.eval o).run P w = .ok (.value (.pointer (some ⟨w.heap.size, 0, none⟩))) (w.alloc (.cells v.cells T))) :
    OpOK P C h φ w a o (newS (updS h eff.upd) fresh eff.new) eff.val := by
  unfold allocA at he
  split at he
  · rename_i n hs
    split at he
    · rename_i hc
      simp at hc he
      subst he
      obtain ⟨vs, h1, h2, h3⟩ := vrep_cells hx hc.2
      intro F m next Q hF hn
      rw [hrun]
      have hkh : KeepH h (upd1 h fresh (.box T x.cells)) φ (upd1v φ fresh (.pointer (some ⟨w.heap.size, 0, none⟩))) := .new hu _ (by simp) _
      obtain ⟨r1, r2⟩ := hr.alloc hu (o := .box T x.cells) (v := .pointer (some ⟨w.heap.size, 0, none⟩)) (x := .cells v.cells T) (by simp) (by simp [blk]) (fun hK =>
        ⟨w.heap.size, vs, rfl, hr.below.size, by rw [h1]; exact heap_alloc_new w _, h2.mono hK hkh, h3⟩)
      exact hn _ _ _ r1 r2 hkh (.ptr (by simp [newS, updS, upd1]) (by simp [upd1v]))
    · cases he
  · cases he

theorem sound_alloc {T : TypeId} {fresh : Nat} (hop : o.op = .alloc T) (hu : h fresh = .unborn) {z : AV} (hz : zeroA P T = some z) {eff : Eff} (he : allocA P T z fresh = some eff) :
    OpOK P C h φ w a o (newS (updS h eff.upd) fresh eff.new) eff.val := by
  obtain ⟨v, i, h1, h2, h3, rfl⟩ := zeroA_run (w := w) hz
  refine sound_newVar hr hu (vrep_ofValue v _ _ _ _) he ?_
  simp [execOp, hop, Instr.alloc, h3, newVar, newRow]

include hρ hl

theorem sound_box {T : TypeId} {x : Operand} {fresh : Nat} (hop : o.op = .box T x) (hu : h fresh = .unborn) {eff : Eff} (he : allocA P T (rd x) fresh = some eff) :
    OpOK P C h φ w a o (newS (updS h eff.upd) fresh eff.new) eff.val := by
  refine sound_newVar hr hu (hρ x) he ?_
  simp [execOp, hop, Instr.box, newVar, newRow]

omit hr hl in
theorem prep_evals : ∀ (ps : List (Nat × Operand)), PRep h φ (okB C h φ w) w (evals rd ps) (ps.map fun p => (p.1, a.eval p.2))
  | [] => .nil
  | (i, x) :: r => .cons (hρ x) (prep_evals r)

omit hr hρ hl in
theorem known_all {cs : List AV} : known cs = true → ∀ x ∈ cs, x.one = true := by
  induction cs with
  | nil => intro _ x hx; simp at hx
  | cons y cs ih =>
    intro hk x hx
    simp [known] at hk
    rcases List.mem_cons.1 hx with rfl | hx
    · exact hk.1
    · exact ih hk.2 x hx
omit hr hρ hl in
theorem known_of {cs : List AV} : (∀ x ∈ cs, x.one = true) → known cs = true := by
  induction cs with
  | nil => intro _; rfl
  | cons y cs ih => intro hk; simp [known, hk y (by simp), ih (fun x hx => hk x (by simp [hx]))]

omit hr hρ hl in
theorem zero_cells (v : Value) : ∃ us, v.cells = us.toArray ∧ VRepL h φ (okB C h φ w) w (ofValue v).cells us := by
  have hv := vrep_ofValue v h φ (okB C h φ w) w
  have hc : ∀ (u : Value), (∀ cs, u ≠ .agg cs) → (ofValue u).cells = [ofValue u] ∧ u.cells = #[u] := by
    intro u hu
    constructor
    · rcases cells_one_or (x := ofValue u) with ⟨cs, he⟩ | he
      · exfalso
        unfold ofValue at he
        split at he
        · exact hu _ rfl
        · unfold ofCell at he; split at he <;> cases he
      · exact he
    · cases u <;> first | rfl | (exact absurd rfl (hu _))
  by_cases hu : ∃ cs, v = .agg cs
  · obtain ⟨cs, rfl⟩ := hu
    obtain ⟨us, h4, h5⟩ := VRep.inv_agg (cs := cs.toList.map ofCell) hv
    injection h4 with h4
    exact ⟨us, h4, h5⟩
  · obtain ⟨h1, h2⟩ := hc v (fun cs he => hu ⟨cs, he⟩)
    exact ⟨[v], h2, by rw [h1]; exact .cons hv .nil⟩

theorem sound_build {T : TypeId} {parts : Array (Nat × Operand)} (hop : o.op = .build T parts) {eff : Eff} (he : buildA P T (evals rd parts.toList) = some eff) :
    OpOK P C h φ w a o h eff.val ∧ eff.upd = [] ∧ eff.new = [] := by
  unfold buildA at he
  split at he
  · rename_i z pl hz hpl
    split at he
    · rename_i cs hcs
      simp [effV] at he; subst he
      obtain ⟨v, i, h1, h2, h3, rfl⟩ := zeroA_run (w := w) hz
      obtain ⟨us, h4, h5⟩ := zero_cells (C := C) (h := h) (φ := φ) (w := w) v
      obtain ⟨vs', h6, h7, h8⟩ := fill_spec pl (evals rd parts.toList) _ _ cs us hcs h5 (prep_evals hρ parts.toList)
      refine ⟨.same hr (v := .agg vs'.toArray) ?_ (.agg h7), rfl, rfl⟩
      have hpv : parts.map (fun p => (p.1, a.eval p.2)) = (parts.toList.map fun p => (p.1, a.eval p.2)).toArray := by
        apply Array.ext'; simp
      unfold partsA at hpl
      split at hpl
      · rename_i fs hu
        split at hpl
        · rename_i ps hps
          simp at hpl
          have hrp := run_places (P := P) w fs.toList ps hps
          have h6' : Instr.fill (fun x => ps[x]?) v.cells (parts.toList.map fun p => (p.1, a.eval p.2)) = some vs'.toArray := by rw [h4, ← h6, ← hpl]
          simp [execOp, hop, Instr.build, h3, run_underlying hu, Array.mapM_eq_mapM_toList, hrp, h6']
        · cases hpl
      · rename_i k e hu
        split at hpl
        · rename_i n hn
          simp at hpl
          have h6' : Instr.fill (fun i => some (i * n, n)) v.cells (parts.toList.map fun p => (p.1, a.eval p.2)) = some vs'.toArray := by rw [h4, ← h6, ← hpl]
          simp [execOp, hop, Instr.build, h3, run_underlying hu, run_sizeOf hn, h6']
        · cases hpl
      · cases hpl
    · cases he
  · cases he
end ops

end Go.Abs
/- Slicing; function values; rows that are made. -/
set_option linter.unusedVariables false
set_option linter.unusedSimpArgs false
set_option linter.unusedSectionVars false
namespace Go.Abs
open Go.RowKit

section rows
variable {A : Nat → Prop} {w : World}
theorem RepRow.drop {s xs b o} (p : RepRow A w s xs b o) (l : Nat) : l ≤ xs.length → RepRow A w s (xs.drop l) b (o + l * s) := by
  induction xs generalizing o l with
  | nil => intro h; simp at h; subst h; simp; exact .nil _ _ _
  | cons y xs ih =>
    intro h
    cases l with
    | zero => simpa using p
    | succ l =>
      simp at h
      cases p with
      | agg a t =>
        have := ih t l h
        simp only [List.drop_succ_cons]
        rw [show ∀ n : Nat, o + (l + 1) * n = o + n + l * n from fun n => by rw [Nat.add_mul]; omega]
        exact this
      | one hy hc h0 a t =>
        have := ih t l h
        simp only [List.drop_succ_cons]
        rw [show o + (l + 1) * 1 = o + 1 + l * 1 by omega]
        exact this
theorem RepRow.take {s xs b o} (p : RepRow A w s xs b o) (n : Nat) : RepRow A w s (xs.take n) b o := by
  induction xs generalizing o n with
  | nil => simpa using p
  | cons y xs ih =>
    cases n with
    | zero => simp; exact .nil _ _ _
    | succ n =>
      cases p with
      | agg a t => exact .agg a (ih t n)
      | one hy hc h0 a t => exact .one hy hc h0 a (ih t n)
/-- The element size of a row that has elements. -/
theorem RepRow.size {s xs b o} (p : RepRow A w s xs b o) {n : Nat} (h : ∀ y ∈ xs, y.cells.length = n) (hne : xs ≠ []) : s = n := by
  cases xs with
  | nil => exact absurd rfl hne
  | cons y xs => rw [← (p.list).2 y (by simp), h y (by simp)]

/-- A part of a slice. -/
theorem rep_slice {xs : List AV} {v : Value} (p : Rep A w (.sl .p xs) v) {n l h : Nat} (hn : ∀ y ∈ xs, y.cells.length = n) (h1 : l ≤ h) (h2 : h ≤ xs.length) :
    ∃ a cap, v = .slice a xs.length cap ∧ xs.length ≤ cap ∧ Rep A w (.sl .p ((xs.take h).drop l)) (.slice (if cap = l then a else a.map (·.add (l * n))) (h - l) (cap - l)) := by
  obtain ⟨a, cap, e, hc, hm, ⟨_, hnone⟩, hx⟩ := VRep.inv_sl (h := fun _ => .unborn) (φ := fun _ => undef) (.pure p)
  refine ⟨a, cap, e, hc, ?_⟩
  have hlen : ((xs.take h).drop l).length = h - l := by simp; omega
  rcases Nat.eq_zero_or_pos (h - l) with h0 | h0
  · have : (xs.take h).drop l = [] := List.eq_nil_of_length_eq_zero (by omega)
    rw [this, h0]
    cases a with
    | none =>
      have := hnone rfl
      rw [show cap - l = 0 by omega]
      split <;> exact .nil .p
    | some ad =>
      split <;> exact .sl0 (by omega)
  · have hne : xs ≠ [] := fun e => by subst e; simp at h2; omega
    obtain ⟨b, o, s, h3, h4, h5⟩ := hx hne
    subst h3
    have hs := h5.size hn hne
    subst hs
    have hcl : ¬ cap = l := by omega
    rw [if_neg hcl]
    have h6 := (h5.take h).drop l (by simp; omega)
    simp only [Option.map_some, add_at]
    match hq : (xs.take h).drop l, hlen with
    | [], e => simp at e; omega
    | y :: ys, e =>
      rw [hq] at h6
      exact .sl e.symm (by omega) (by omega) h4 h6
end rows

section ops
variable {P : Program} {E : Env} {C : C0} {h : SH} {φ : Nat → Value} {w : World} {a : Act} {o : Oper} {rd : Operand → AV} {look : Nat → Ob}

theorem run_bounds (isSlice : Bool) (len cap : Nat) (lo hi : Option Value) (l g : Int) (hlo : (lo = none ∧ l = 0) ∨ ∃ k, lo = some (.int k l)) (hhi : (hi = none ∧ g = len) ∨ ∃ k, hi = some (.int k g))
    (h0 : 0 ≤ l) (h1 : l ≤ g) (h2 : g ≤ cap) : (Instr.sliceBounds isSlice len cap lo hi none).run P w = .ok (l.toNat, g.toNat, cap) w := by
  have e1 : (g.toNat : Int) = g := by omega
  have e2 : 0 ≤ g := by omega
  rcases hlo with ⟨rfl, rfl⟩ | ⟨k, rfl⟩ <;> rcases hhi with ⟨rfl, rfl⟩ | ⟨k', rfl⟩ <;>
    simp [Instr.sliceBounds, Instr.sliceBound, asIntOf, h0, h1, h2, e2, e1] <;> omega

variable (hr : Rel C h φ w) (hρ : ∀ x, VRep h φ (okB C h φ w) w (rd x) (a.eval x)) (hl : Sees look h)
include hr hρ hl

theorem bounds_inv {lo hi : Option Operand} {n : Nat} {l g : Int} (he : boundsA (lo.map rd) (hi.map rd) n = some (l, g)) :
    ((lo.map a.eval = none ∧ l = 0) ∨ ∃ k, lo.map a.eval = some (.int k l)) ∧ ((hi.map a.eval = none ∧ g = n) ∨ ∃ k, hi.map a.eval = some (.int k g)) := by
  unfold boundsA at he
  split at he
  · rename_i l' g' e1 e2
    simp at he
    obtain ⟨rfl, rfl⟩ := he
    constructor
    · cases lo with
      | none => simp at e1; exact .inl ⟨rfl, e1.symm⟩
      | some x => simp at e1; obtain ⟨k, hk⟩ := bnd_inv hr hρ hl e1; exact .inr ⟨k, by simp [hk]⟩
    · cases hi with
      | none => simp at e2; exact .inl ⟨rfl, e2.symm⟩
      | some x => simp at e2; obtain ⟨k, hk⟩ := bnd_inv hr hρ hl e2; exact .inr ⟨k, by simp [hk]⟩
  · cases he

/-- Slicing what will not be written. -/
theorem run_slice_sl {T e : TypeId} {x : Operand} {lo hi : Option Operand} (hop : o.op = .slice T x lo hi none) (hT : elemA P T = some e) {n : Nat} (hs : sz P e = some n) {xs : List AV}
    (p : Rep (okB C h φ w) w (.sl .p xs) (a.eval x)) {l g : Int} (hb : boundsA (lo.map rd) (hi.map rd) xs.length = some (l, g)) (hc : 0 ≤ l ∧ l ≤ g ∧ g ≤ xs.length) (hn : ∀ y ∈ xs, y.cells.length = n) :
    ∃ v, (execOp a.eval o).run P w = .ok (.value v) w ∧ Rep (okB C h φ w) w (.sl .p ((xs.take g.toNat).drop l.toNat)) v := by
  have hu : P.underlying T = some (.slice e) := by unfold elemA at hT; split at hT <;> simp_all
  obtain ⟨b1, b2⟩ := bounds_inv hr hρ hl hb
  obtain ⟨ad, cap, e1, e2, e3⟩ := rep_slice p hn (l := l.toNat) (h := g.toNat) (by omega) (by omega)
  have hbd := run_bounds (P := P) (w := w) true xs.length cap (lo.map a.eval) (hi.map a.eval) l g b1 b2 hc.1 hc.2.1 (by omega)
  refine ⟨_, ?_, e3⟩
  simp [execOp, hop, Instr.sliceAt, run_underlying hu, Instr.slice, e1, hbd, run_sizeOf hs]

theorem sound_slice {T : TypeId} {x : Operand} {lo hi : Option Operand} (hop : o.op = .slice T x lo hi none) {eff : Eff} {fresh : Nat} (he : sliceA P look T (rd x) (lo.map rd) (hi.map rd) = some eff) (hob : All eff.obl) :
    OpOK P C h φ w a o (newS (updS h eff.upd) fresh eff.new) eff.val := by
  have hx := hρ x
  unfold sliceA at he
  split at he
  · rename_i s e1
    rw [e1] at hx
    split at he
    · rename_i l g hu hb
      simp [effIf] at he; subst he
      have hc : 0 ≤ l ∧ l ≤ g ∧ g ≤ s.size := hob.1
      obtain ⟨b1, b2⟩ := bounds_inv hr hρ hl hb
      have hbd := run_bounds (P := P) (w := w) false s.size s.size (lo.map a.eval) (hi.map a.eval) l g b1 b2 hc.1 hc.2.1 hc.2.2
      exact .same hr (v := .string (s.extract l.toNat g.toNat)) (by simp [execOp, hop, Instr.sliceAt, run_underlying hu, Instr.slice, hx.inv_str, hbd]) (.pure (.str _))
    · cases he
  · rename_i fl xs e1
    rw [e1] at hx
    split at he
    · rename_i e l g hT hb
      split at he
      · rename_i n hs
        simp at he; subst he
        have hp := hx.plain
        have hp : Rep (okB C h φ w) w (.sl .p xs) (a.eval x) := by
          generalize a.eval x = v at hp
          cases hp with | pure p => exact p
        obtain ⟨v, h1, h2⟩ := run_slice_sl hr hρ hl hop hT hs hp hb hob.1 hob.2.1
        exact .same hr h1 (.pure h2)
      · cases he
    · cases he
  · rename_i id e1
    rw [e1] at hx
    split at he
    · rename_i T0 s0 xs e2
      have hid := hl.get e2 (by simp)
      split at he
      · rename_i e l g hT hb
        split at he
        · rename_i n hs
          simp at he; subst he
          have hv := hx.inv_own.2 (by simp [hid])
          obtain ⟨hr2, hk2, hh2⟩ := hr.freezeRow hid
          have ho := hr2.obj id
          simp [upd1] at ho
          have hl2 : Sees (fun _ => .unborn) (upd1 h id (.fro xs)) := fun _ => .inl rfl
          obtain ⟨v, h1, h2⟩ := run_slice_sl (rd := rd) hr2 (fun y => (hρ y).mono hk2 hh2) hl2 hop hT hs (hv ▸ ho) hb hob.1 hob.2.1
          intro F m next Q hF hn
          rw [h1]
          exact hn v φ w hr2 hk2 hh2 (.pure h2)
        · cases he
      · cases he
    · rename_i xs e2
      have hid := hl.get e2 (by simp)
      split at he
      · rename_i e l g hT hb
        split at he
        · rename_i n hs
          simp at he; subst he
          have hv := hx.inv_own.2 (by simp [hid])
          have ho := hr.obj id
          rw [hid] at ho
          obtain ⟨v, h1, h2⟩ := run_slice_sl hr hρ hl hop hT hs (hv ▸ ho) hb hob.1 hob.2.1
          exact .same hr h1 (.pure h2)
        · cases he
      · cases he
    · cases he
  · cases he
end ops

end Go.Abs
