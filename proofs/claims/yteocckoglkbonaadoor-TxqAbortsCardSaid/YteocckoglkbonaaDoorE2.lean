/- The abstract machine: operations, regions, code. -/
import Derived.Test.YteocckoglkbonaaDoorE1
set_option linter.unusedVariables false
set_option linter.unusedSimpArgs false
namespace Go.Abs
open Go.RowKit

mutual
def AV.shift (n : Nat) : AV → AV
  | .own id => .own (id + n)
  | .agg cs => .agg (AV.shiftL n cs)
  | .tup cs => .tup (AV.shiftL n cs)
  | x => x
def AV.shiftL (n : Nat) : List AV → List AV
  | [] => []
  | x :: xs => x.shift n :: AV.shiftL n xs
end

mutual
/-- Whether a result may lie in memory that was there. -/
def AV.hasSl : AV → Bool
  | .sl _ _ => true
  | .pin _ _ => true
  | .fn _ _ => true
  | .agg cs => AV.hasSlL cs
  | .tup cs => AV.hasSlL cs
  | _ => false
def AV.hasSlL : List AV → Bool
  | [] => false
  | x :: xs => x.hasSl || AV.hasSlL xs
end

mutual
/-- What a call may hand back. -/
def AV.resOK : AV → Bool
  | .ptr _ _ => false
  | .ptrE _ _ _ => false
  | .junk => false
  | .agg cs => AV.resOKL cs
  | .tup cs => AV.resOKL cs
  | _ => true
def AV.resOKL : List AV → Bool
  | [] => true
  | x :: xs => x.resOK && AV.resOKL xs
end

/-- Rows without anything that may lie in memory that was there. -/
def rowsFlat : List Ob → Prop
  | [] => True
  | .row _ _ xs :: r => (∀ x ∈ xs, x.hasSl = false) ∧ rowsFlat r
  | _ :: _ => False
def rowsOnly : List Ob → Bool
  | [] => true
  | .row _ _ _ :: r => rowsOnly r
  | _ => false

/-- Rows that are never written again from here on. -/
def freeze (look : Nat → Ob) : List Nat → List (Nat × Ob)
  | [] => []
  | id :: r => match look id with
    | .row _ _ xs => (id, .fro xs) :: freeze look r
    | _ => freeze look r

def placesA (P : Program) (fs : List Field) : Option (List (Nat × Nat)) := fs.mapM fun f => (P.info? f.type).map fun i => (f.offset, i.size)
def partsA (P : Program) (t : TypeId) : Option (Nat → Option (Nat × Nat)) :=
  match P.underlying t with
  | some (.struct fs) => (match placesA P fs.toList with
    | some ps => some fun i => ps[i]?
    | none => none)
  | some (.array _ e) => (match sz P e with | some n => some fun i => some (i * n, n) | none => none)
  | _ => none

def evals (rd : Operand → AV) : List (Nat × Operand) → List (Nat × AV)
  | [] => []
  | (i, x) :: r => (i, rd x) :: evals rd r
def evalL (rd : Operand → AV) : List Operand → List AV
  | [] => []
  | x :: r => rd x :: evalL rd r

def allocA (P : Program) (T : TypeId) (x : AV) (fresh : Nat) : Option Eff :=
  match sz P T with
  | some n => if x.cells.length = n && known x.cells then some ⟨.ptr fresh 0, [], [.box T x.cells], []⟩ else none
  | none => none

def loadA (P : Program) (look : Nat → Ob) (T : TypeId) (x : AV) (ans : Option Ans) : Option Eff :=
  match x with
  | .ptr id off => match look id with
    | .box _ cs => (match partOf P T cs off with | some y => effV y | none => none)
    | .fbox cs => (match partOf P T cs off with | some y => effV y | none => none)
    | _ => none
  | .pin cs off => (match partOf P T cs off with | some y => effV y | none => none)
  | .ptrE id i off => match look id, ans with
    | .row _ _ xs, some (.e y) => (match partOf P T y.cells off with | some z => effIf (xs[i]? = some y) z | none => none)
    | _, _ => none
  | _ => none

def setElem (y : AV) (off : Nat) (ds : List AV) : AV :=
  match y with
  | .agg cs => .agg (spl cs off ds)
  | y => ds.headD y

def storeA (P : Program) (look : Nat → Ob) (T : TypeId) (x v : AV) (ans : Option Ans) : Option Eff :=
  match sz P T with
  | none => none
  | some n =>
    if v.cells.length = n && known v.cells then
      match x with
      | .ptr id off => match look id with
        | .box T0 cs => if off + n ≤ cs.length then some ⟨.junk, [(id, .box T0 (spl cs off v.cells))], [], []⟩ else none
        | _ => none
      | .ptrE id i off => match look id, ans with
        | .row T0 s xs, some (.e y) =>
          (match v.view look with
          | some v' => if off + n ≤ y.cells.length && v'.cells.length = n && n ≠ 0 && pures v'.cells then
              some ⟨.junk, freeze look v.refs ++ [(id, .row T0 s (xs.set i (setElem y off v'.cells)))], [], [xs[i]? = some y, id ∉ v.refs]⟩ else none
          | none => none)
        | _, _ => none
      | _ => none
    else none

def fieldAddrA (P : Program) (look : Nat → Ob) (T : TypeId) (x : AV) (f : Nat) : Option Eff :=
  match fieldA P T f with
  | none => none
  | some (o, _) => match x with
    | .ptr id off => effV (.ptr id (off + o))
    | .ptrE id i off => (match look id with
      | .row _ _ _ => effV (.ptrE id i (off + o))
      | _ => none)
    | .pin cs off => effV (.pin cs (off + o))
    | _ => none

def indexAddrA (P : Program) (look : Nat → Ob) (T : TypeId) (x ix : AV) (ans : Option Ans) : Option Eff :=
  match bnd ix with
  | none => none
  | some i =>
    match arrA P T with
    | some (n, e) =>
      (match sz P e with
      | some s => (match x with
        | .ptr id off => effIf (0 ≤ i ∧ i < n) (.ptr id (off + i.toNat * s))
        | .pin cs off => effIf (0 ≤ i ∧ i < n) (.pin cs (off + i.toNat * s))
        | _ => none)
      | none => none)
    | none => match elemA P T with
      | none => none
      | some e => match sz P e with
        | none => none
        | some s => match x with
          | .sl _ xs => (match ans with
            | some (.e y) => if y.cells.length = s then effIf (0 ≤ i ∧ xs[i.toNat]? = some y) (.pin y.cells 0) else none
            | _ => none)
          | .own id => (match look id with
            | .row _ s' xs => if s' = s then effIf (0 ≤ i ∧ i < xs.length) (.ptrE id i.toNat 0) else none
            | .fro xs => (match ans with
              | some (.e y) => if y.cells.length = s then effIf (0 ≤ i ∧ xs[i.toNat]? = some y) (.pin y.cells 0) else none
              | _ => none)
            | _ => none)
          | _ => none

def buildA (P : Program) (T : TypeId) (parts : List (Nat × AV)) : Option Eff :=
  match zeroA P T, partsA P T with
  | some z, some pl => (match fillA pl parts z.cells with
    | some cs => effV (.agg cs)
    | none => none)
  | _, _ => none

def viewP (look : Nat → Ob) : List (Nat × AV) → Option (List (Nat × AV))
  | [] => some []
  | (i, x) :: r => match x.view look, viewP look r with
    | some y, some ys => some ((i, y) :: ys)
    | _, _ => none
def refsP : List (Nat × AV) → List Nat
  | [] => []
  | (_, x) :: r => x.refs ++ refsP r

def buildSliceA (P : Program) (look : Nat → Ob) (T : TypeId) (len : Nat) (parts : List (Nat × AV)) (fresh : Nat) : Option Eff :=
  match elemA P T with
  | none => none
  | some e => match sz P e, isAgg P e, zeroA P e, viewP look parts with
    | some s, some ag, some z, some ps =>
      if z.cells.length = s && s ≠ 0 && len * s ≤ 16777216 && (ag || s == 1) then
        (match fillA (fun i => some (i * s, s)) ps (repl z.cells len) with
        | some cs => if pures cs then
            (match groups s ag len cs with
            | some xs => some ⟨.own fresh, freeze look (refsP parts), [.row e s xs], []⟩
            | none => none) else none
        | none => none)
      else none
    | _, _, _, _ => none

/-- What a slice that is appended has: its elements. -/
def elemsA (look : Nat → Ob) : AV → Option (List AV)
  | .sl _ xs => some xs
  | .own id => match look id with
    | .row _ _ xs => some xs
    | .fro xs => some xs
    | _ => none
  | _ => none

def appendA (P : Program) (look : Nat → Ob) (T : TypeId) (s x : AV) (fresh : Nat) : Option Eff :=
  match elemA P T, elemsA look x with
  | some e, some ys => (match sz P e, zeroA P e, P.info? e with
    | some n, some z, some inf =>
      if z.cells.length = n && n ≠ 0 then
        match s with
        | .sl .n [] => some ⟨.own fresh, [], [.row e n ys], [∀ y ∈ ys, y.cells.length = n, ys.length * inf.bytes ≤ 140737488355328, ys.length ≤ 140737488355328]⟩
        | .own id => (match look id with
          | .row e' n' xs => if e' = e && n' = n then
              some ⟨.own fresh, [(id, .dead)], [.row e n (xs ++ ys)], [∀ y ∈ ys, y.cells.length = n, (xs.length + ys.length) * inf.bytes ≤ 140737488355328, xs.length + ys.length ≤ 140737488355328]⟩ else none
          | _ => none)
        | _ => none
      else none
    | _, _, _ => none)
  | _, _ => none

def memN (n : Nat) : List Nat → Bool
  | [] => false
  | k :: r => Nat.beq k n || memN n r

mutual
def AV.viewK (look : Nat → Ob) : AV → Option AV
  | .sl fl xs => some (.sl fl xs)
  | .agg cs => match AV.viewKL look cs with
    | some l => some (.agg l)
    | none => none
  | .own id => (AV.own id).view look
  | .tup cs => (AV.tup cs).view look
  | .ptr id off => (AV.ptr id off).view look
  | .ptrE id i off => (AV.ptrE id i off).view look
  | .junk => none
  | x => some x
def AV.viewKL (look : Nat → Ob) : List AV → Option (List AV)
  | [] => some []
  | x :: xs => match x.viewK look with
    | some y => match AV.viewKL look xs with
      | some ys => some (y :: ys)
      | none => none
    | none => none
end

def memI (n : Int) : List Int → Bool
  | [] => false
  | k :: r => (k == n) || memI n r
def addK (n : Int) (ks : List Int) : List Int := if memI n ks then ks else ks ++ [n]
def mapA (P : Program) (T : TypeId) : Bool :=
  match P.underlying T with
  | some (.map k e) => (match P.underlying k, P.underlying e, zeroA P e with
    | some (.int .i64), some (.struct fs), some (.agg []) => fs.isEmpty
    | _, _, _ => false)
  | _ => false
def makeSliceA (P : Program) (T : TypeId) (a b : AV) (fresh : Nat) : Option Eff :=
  match elemA P T, a, b with
  | some e, .int .i64 n, .int .i64 m => (match sz P e, zeroA P e, P.info? e with
    | some s, some z, some inf => if z.cells.length = s && s ≠ 0 && pures z.cells then
        some ⟨.own fresh, [], [.row e s (List.replicate n.toNat z)], [n = m, 0 ≤ n, n.toNat * inf.bytes ≤ 140737488355328, n.toNat * s ≤ 16777216]⟩ else none
    | _, _, _ => none)
  | _, _, _ => none
def copyA (P : Program) (look : Nat → Ob) (T : TypeId) (d x : AV) : Option Eff :=
  match elemA P T, d with
  | some e, .own id => (match look id, elemsA look x with
    | .row e' n xs, some ys => if e' = e && sz P e = some n then
        some ⟨.int .i64 (ys.take xs.length).length, [(id, .row e n (ys.take xs.length ++ xs.drop ys.length))], [], [∀ y ∈ ys, y.cells.length = n]⟩ else none
    | _, _ => none)
  | _, _ => none
def callIA (P : Program) (look : Nat → Ob) (f : FuncId) (args : List AV) (fresh : Nat) (T : TypeId) (s : Nat) (ys : List AV) : Option Eff :=
  match args with
  | x :: rest => (match AV.viewKL look rest with
    | some as => (match x with
      | .own id => (match look id with
        | .row T' s' xs => if T' = T && s' = s && !memN id (AV.refsL rest) then
            some ⟨.own fresh, freeze look (AV.refsL rest) ++ [(id, .dead)], [.row T s ys], [ICalls P f T s xs as ys, ∀ y ∈ ys, y.cells.length = s, 0 < s]⟩ else none
        | _ => none)
      | .sl .n [] => some ⟨.own fresh, freeze look (AV.refsL rest), [.row T s ys], [ICalls P f T s [] as ys, ∀ y ∈ ys, y.cells.length = s, 0 < s]⟩
      | _ => none)
    | none => none)
  | [] => none

def callA (P : Program) (E : Env) (look : Nat → Ob) (f : FuncId) (args : List AV) (fresh : Nat) (ans : Option Ans) : Option Eff :=
  match AV.viewKL look args, ans with
  | some as, some (.c rows r) => if rowsOnly rows && r.resOK then some ⟨r.shift fresh, freeze look (AV.refsL args), rows, [ACalls P E f as rows r]⟩ else none
  | some as, some (.cf rows r) => if rowsOnly rows && r.resOK && !r.hasSl then some ⟨r.shift fresh, [], rows, [ACalls P E f as rows r, rowsFlat rows]⟩ else none
  | _, _ => none

def convA (P : Program) (src dst : TypeId) (x : AV) : Option Eff :=
  match P.underlying src, P.underlying dst, x with
  | some (.int _), some (.int k), .int _ n => effV (.int k (k.wrap n))
  | some .string, some .string, .str s => effV (.str s)
  | _, _, _ => none

def min2A (a b : AV) : Option AV := match a, b with | .int k x, .int _ y => some (.int k (if y < x then y else x)) | _, _ => none
def max2A (a b : AV) : Option AV := match a, b with | .int k x, .int _ y => some (.int k (if y > x then y else x)) | _, _ => none

/-- Captured variables: each is an own box that is not written again from here on, or a plain value. -/
def captA (look : Nat → Ob) : List AV → Option (List AV × List (Nat × Ob))
  | [] => some ([], [])
  | x :: r => match captA look r with
    | none => none
    | some (ys, us) => match x with
      | .ptr id 0 => (match look id with
        | .box _ cs => (match AV.viewL look cs with
          | some cs' => if AV.refsL cs = [] then some (.pin cs' 0 :: ys, (id, .fbox cs') :: us) else none
          | none => none)
        | .fbox cs => some (.pin cs 0 :: ys, us)
        | _ => none)
      | x => if x.refs = [] then (match x.view look with | some y => some (y :: ys, us) | none => none) else none

def exec (P : Program) (E : Env) (o : Oper) (rd : Operand → AV) (look : Nat → Ob) (fresh : Nat) (ans : Option Ans) : Option Eff :=
  match o.op with
  | .move x => effV (rd x)
  | .assign x => effV (rd x)
  | .pick c a b => (match rd c with
    | .bool t => (match ans with
      | some (.b d) => effIf (t = d) (if d then rd a else rd b)
      | _ => effV (if t then rd a else rd b))
    | _ => none)
  | .alloc T => (match zeroA P T with | some z => allocA P T z fresh | none => none)
  | .box T x => allocA P T (rd x) fresh
  | .build T parts => buildA P T (evals rd parts.toList)
  | .buildSlice T len parts => buildSliceA P look T len (evals rd parts.toList) fresh
  | .load T x => loadA P look T (rd x) ans
  | .store T x v => storeA P look T (rd x) (rd v) ans
  | .nilCheck x => (match rd x with
    | .ptr id off => effV (.ptr id off)
    | .pin cs off => effV (.pin cs off)
    | _ => none)
  | .binOp op T x y _ => binA P op T (rd x) (rd y)
  | .unOp op _ x => unA op (rd x)
  | .convert s d x => convA P s d (rd x)
  | .slice T x lo hi none => sliceA P look T (rd x) (lo.map rd) (hi.map rd)
  | .fieldAddr T x f => fieldAddrA P look T (rd x) f
  | .field T x f => (match fieldA P T f, rd x with
    | some (off, ft), .agg cs => (match partOf P ft cs off with | some y => effV y | none => none)
    | _, _ => none)
  | .indexAddr T x i => indexAddrA P look T (rd x) (rd i) ans
  | .extract t i => (match rd t with
    | .tup vs => (match vs[i]? with | some y => effV y | none => none)
    | _ => none)
  | .makeMap T none => if mapA P T then some ⟨.own fresh, [], [.mp []], []⟩ else none
  | .mapUpdate T m k v => (match rd m, rd k, rd v with
    | .own id, .int .i64 n, .agg [] => (match look id with
      | .mp ks => if mapA P T then some ⟨.junk, [(id, .mp (addK n ks))], [], [ks.length < 9223372036854775807]⟩ else none
      | _ => none)
    | _, _, _ => none)
  | .lookup T m k true => (match rd m, rd k with
    | .own id, .int .i64 n => (match look id with
      | .mp ks => if mapA P T then effV (.tup [.agg [], .bool (memI n ks)]) else none
      | _ => none)
    | _, _ => none)
  | .makeSlice T n m => makeSliceA P T (rd n) (rd m) fresh
  | .makeFunc (.func f) fst caps => (match fst.toList with
    | [] => (match captA look (evalL rd caps.toList) with
      | some (ys, us) => some ⟨.fn f ys, us, [], []⟩
      | none => none)
    | _ => none)
  | .call c => (match c.callee with
    | .builtin .len => (match c.args.toList, c.argTypes.toList with
      | [x], [T] => (match lenA P look T (rd x) with | some n => effV (.int .i64 n) | none => none)
      | _, _ => none)
    | .builtin .copy => (match c.args.toList, c.argTypes.toList with
      | [d, x], [T, T'] => if T = T' then copyA P look T (rd d) (rd x) else none
      | _, _ => none)
    | .builtin .min => (match c.args.toList with
      | [x, y] => (match min2A (rd x) (rd y) with | some z => effV z | none => none)
      | _ => none)
    | .builtin .max => (match c.args.toList with
      | [x, y] => (match max2A (rd x) (rd y) with | some z => effV z | none => none)
      | _ => none)
    | .builtin .append => (match c.args.toList, c.argTypes.toList with
      | [s, x], [T, T'] => if T = T' then appendA P look T (rd s) (rd x) fresh else none
      | _, _ => none)
    | .value g => (match rd g with
      | .fn f caps => (match ans with
        | some (.ci T s ys) => callIA P look f (evalL rd c.args.toList ++ caps) fresh T s ys
        | _ => callA P E look f (evalL rd c.args.toList ++ caps) fresh ans)
      | _ => none)
    | _ => none)
  | _ => none

/-! ### Regions -/

structure St where
  tmps : List AV
  heap : Heap
  cnt : Nat
  scr : Script
  obl : List Prop

def rdF (tf : Nat → AV) : Operand → AV
  | .tmp t => tf t
  | .const v => ofValue v
  | .func f => .fn f []
  | .global _ => .junk

def askAt (n : Nat) : Script → Option Ans × Script
  | (k, a) :: r => if Nat.beq k n then (some a, r) else (none, (k, a) :: r)
  | [] => (none, [])

/-- What is known of a guard: the temporary it reads, and what was wanted of it. -/
def wantedA (ops : List Oper) (tf : Nat → AV) (g : Option (Nat × Bool)) (ans : Option Ans) : Option (Bool × List Prop) :=
  match g with
  | none => some (true, [])
  | some (j, want) => match ops[j]? with
    | none => none
    | some oj => match oj.dst with
      | none => none
      | some t => match tf t with
        | .bool b => (match ans with
          | some (.b d) => some (d == want, [b = d])
          | _ => some (b == want, []))
        | .tup _ => some (false, [])
        | _ => none

/-- What an operation writes. -/
structure WR where
  val : AV
  upd : List (Nat × Ob)
  new : List Ob
  scr : Script
  obl : List Prop

/-- One operation: its guard is asked at the count, what it asks itself at the count behind that, what is put for its value behind that. -/
def coreA (P : Program) (E : Env) (ops : List Oper) (o : Oper) (tf : Nat → AV) (look : Nat → Ob) (fresh cnt : Nat) (scr : Script) : Option WR :=
  match askAt cnt scr with
  | (g, scr1) => match wantedA ops tf o.guard g with
    | none => none
    | some (false, obl) => some ⟨.tup [], [], [], scr1, obl⟩
    | some (true, obl) => match askAt (cnt + 1) scr1 with
      | (a, scr2) => match exec P E o (rdF tf) look fresh a with
        | none => none
        | some eff => match askAt (cnt + 2) scr2 with
          | (some (.v x), scr3) => some ⟨x, eff.upd, eff.new, scr3, (eff.val = x) :: (eff.obl ++ obl)⟩
          | (some .j, scr3) => some ⟨.junk, eff.upd, eff.new, scr3, eff.obl ++ obl⟩
          | (_, scr3) => some ⟨eff.val, eff.upd, eff.new, scr3, eff.obl ++ obl⟩

def applyU : Heap → List (Nat × Ob) → Heap
  | h, [] => h
  | h, (id, o) :: r => applyU (h.set id o) r
def updOK (n : Nat) : List (Nat × Ob) → Bool
  | [] => true
  | (id, _) :: r => Nat.blt id n && updOK n r
def putT (ts : List AV) (d : Option Tmp) (x : AV) : List AV := match d with | some t => ts.set t x | none => ts

def applyW (s : St) (d : Option Tmp) (r : WR) : St := ⟨putT s.tmps d r.val, applyU s.heap r.upd ++ r.new, s.cnt + 3, r.scr, r.obl ++ s.obl⟩

def stepA (P : Program) (E : Env) (ops : List Oper) (o : Oper) (s : St) : Option St :=
  match coreA P E ops o (fun t => s.tmps.getD t .junk) (getO s.heap) s.heap.length s.cnt s.scr with
  | none => none
  | some r => if updOK s.heap.length r.upd then some (applyW s o.dst r) else none

def runOps (P : Program) (E : Env) (ops : List Oper) : List Oper → St → Option St
  | [], s => some s
  | o :: r, s => match stepA P E ops o s with
    | none => none
    | some s' => runOps P E ops r s'

/-! Regions that draw their order: each operation sees just what it names. -/

/-- Which temporaries an operation reads. -/
def readsT (ops : List Oper) (o : Oper) : List Nat :=
  (o.op.operands.toList.filterMap fun | .tmp t => some t | _ => none) ++
  (match o.guard with
   | some (g, _) => (match ops[g]? with
     | some og => (match og.dst with
       | some t => [t]
       | none => [])
     | none => [])
   | none => [])
def restT (rs : List Nat) (tf : Nat → AV) : Nat → AV := fun t => if memN t rs then tf t else .junk
def restI (rs : List Nat) (look : Nat → Ob) : Nat → Ob := fun id => if memN id rs then look id else .unborn
def readsI (rs : List Nat) (tf : Nat → AV) : List Nat := rs.flatMap fun t => (tf t).refs

/-- What an operation has to do with others. -/
structure Ev where
  rT : List Nat
  rI : List Nat
  dst : Option Nat
  val : AV
  wI : List (Nat × Ob)

def news (n : Nat) : List Ob → List (Nat × Ob)
  | [] => []
  | o :: r => (n, o) :: news (n + 1) r

def runD (P : Program) (E : Env) (ops : List Oper) : List Oper → St → Option (List Ev × St)
  | [], s => some ([], s)
  | o :: r, s =>
    let rT := readsT ops o
    let rI := readsI rT (fun t => s.tmps.getD t .junk)
    match coreA P E ops o (restT rT (fun t => s.tmps.getD t .junk)) (restI rI (getO s.heap)) s.heap.length s.cnt s.scr with
    | none => none
    | some w => if updOK s.heap.length w.upd then
        (match runD P E ops r (applyW s o.dst w) with
        | none => none
        | some (es, s') => some (⟨rT, rI, o.dst, w.val, w.upd ++ news s.heap.length w.new⟩ :: es, s'))
      else none

def ids (l : List (Nat × Ob)) : List Nat := l.map (·.1)
def meets (a b : List Nat) : Bool := a.any fun x => memN x b
def dstL (d : Option Nat) : List Nat := match d with | some t => [t] | none => []

/-- Two operations whose order matters. -/
def conflict (a b : Ev) : Bool :=
  meets (dstL a.dst) b.rT || meets (dstL b.dst) a.rT || meets (dstL a.dst) (dstL b.dst) ||
  meets (ids a.wI) b.rI || meets (ids b.wI) a.rI || meets (ids a.wI) (ids b.wI)

/-- What goes ahead of each operation, in whatever order, as bits. -/
def befs : List Oper → List Nat → Option (List Nat)
  | [], acc => some acc
  | o :: r, acc =>
    if o.after.toList.all (fun e => !Region.binds .any e || Nat.blt e.on acc.length) then
      befs r (acc ++ [(o.after.toList.filter (Region.binds .any)).foldl (fun s e => s ||| 2 ^ e.on ||| acc.getD e.on 0) 0])
    else none

def orderedFrom (bs : List Nat) (es : List Ev) (j : Nat) (ej : Ev) : Nat → List Ev → Bool
  | _, [] => true
  | i, e :: r => (Nat.ble j i || (bs.getD j 0).testBit i || !conflict e ej) && orderedFrom bs es j ej (i + 1) r
def orderedAll (bs : List Nat) (es : List Ev) : Nat → List Ev → Bool
  | _, [] => true
  | j, e :: r => orderedFrom bs es j e 0 es && orderedAll bs es (j + 1) r

def runDraw (P : Program) (E : Env) (ops : List Oper) (s : St) : Option St :=
  match runD P E ops ops s, befs ops [] with
  | some (es, s'), some bs => if orderedAll bs es 0 es then some s' else none
  | _, _ => none

/-! ### Code -/

def arun (P : Program) (E : Env) : Nat → List Item → St → Option (List Item × St)
  | 0, todo, s => some (todo, s)
  | n + 1, todo, s => match todo with
    | .code .skip :: k => arun P E n k s
    | .code (.label _) :: k => arun P E n k s
    | .inBlock _ :: k => arun P E n k s
    | .code (.seq a b) :: k => arun P E n (.code a :: .code b :: k) s
    | .code (.block id c) :: k => arun P E n (.code c :: .inBlock id :: k) s
    | .code (.loop c) :: k => arun P E n (.code c :: .inLoop c :: k) s
    | .inLoop c :: k => arun P E n (.code c :: .inLoop c :: k) s
    | .code (.exit id) :: k => match exitTo id k with
      | some k' => arun P E n k' s
      | none => none
    | .code (.cond c x y) :: k => match rdF (fun t => s.tmps.getD t .junk) c with
      | .bool b => match askAt s.cnt s.scr with
        | (some (.b d), scr) => arun P E n (.code (if d then x else y) :: k) { s with cnt := s.cnt + 1, scr := scr, obl := (b = d) :: s.obl }
        | (_, scr) => arun P E n (.code (if b then x else y) :: k) { s with cnt := s.cnt + 1, scr := scr }
      | _ => none
    | .code (.region _ ops d) :: k => match (if d then runDraw P E ops.toList s else runOps P E ops.toList ops.toList s) with
      | some s' => arun P E n k s'
      | none => none
    | _ => none

/-! ### A state seen anew -/

def idx (id : Nat) : List Nat → Option Nat
  | [] => none
  | k :: r => if Nat.beq k id then some 0 else (match idx id r with | some n => some (n + 1) | none => none)
def nodupN : List Nat → Bool
  | [] => true
  | k :: r => !memN k r && nodupN r

mutual
def AV.ren (look : Nat → Ob) (keep : List Nat) : AV → Option AV
  | .own id => match idx id keep with
    | some k => some (.own k)
    | none => (AV.own id).view look
  | .ptr id off => match idx id keep with
    | some k => some (.ptr k off)
    | none => (AV.ptr id off).view look
  | .ptrE id i off => match idx id keep with
    | some k => some (.ptrE k i off)
    | none => none
  | .agg cs => match AV.renL look keep cs with
    | some l => some (.agg l)
    | none => none
  | .tup cs => match AV.renL look keep cs with
    | some l => some (.tup l)
    | none => none
  | x => some x
def AV.renL (look : Nat → Ob) (keep : List Nat) : List AV → Option (List AV)
  | [] => some []
  | x :: xs => match x.ren look keep with
    | some y => match AV.renL look keep xs with
      | some ys => some (y :: ys)
      | none => none
    | none => none
end
def Ob.ren (look : Nat → Ob) (keep : List Nat) : Ob → Option Ob
  | .box T cs => match AV.renL look keep cs with
    | some l => some (.box T l)
    | none => none
  | o => some o
def renH (look : Nat → Ob) (keep : List Nat) : List Nat → Option (List Ob)
  | [] => some []
  | id :: r => match (look id).ren look keep, renH look keep r with
    | some o, some os => some (o :: os)
    | _, _ => none
/-- The live temporaries alone. -/
def renT (look : Nat → Ob) (keep live : List Nat) : Nat → List AV → Option (List AV)
  | _, [] => some []
  | t, x :: r => match (if memN t live then x.ren look keep else some .junk), renT look keep live (t + 1) r with
    | some y, some ys => some (y :: ys)
    | _, _ => none
def canonA (live keep : List Nat) (ts : List AV) (h : Heap) : Option (List AV × Heap) :=
  if nodupN keep then
    (match renT (getO h) keep live 0 ts, renH (getO h) keep keep with
    | some ts', some h' => some (ts', h')
    | _, _ => none)
  else none

/-- What a function hands back. -/
def cellA (P : Program) (look : Nat → Ob) (T : TypeId) (x : AV) : Option AV :=
  match x with
  | .ptr id off => match look id with
    | .box _ cs => partOf P T cs off
    | .fbox cs => partOf P T cs off
    | _ => none
  | _ => none
def resA (P : Program) (ts : List AV) (h : Heap) : List ResultVar → Option (List AV)
  | [] => some []
  | .tmp t :: r => match resA P ts h r with
    | some xs => some (ts.getD t .junk :: xs)
    | none => none
  | .cell t T :: r => match cellA P (getO h) T (ts.getD t .junk), resA P ts h r with
    | some e, some xs => some (e :: xs)
    | _, _ => none
def resV : List AV → AV
  | [x] => x
  | xs => .tup xs
/-- The result, its own rows numbered by 'keep'. -/
def exportA (P : Program) (rv : List ResultVar) (keep : List Nat) (ts : List AV) (h : Heap) : Option (List Ob × AV) :=
  if nodupN keep then
    (match resA P ts h rv, renH (getO h) keep keep with
    | some xs, some rows => (match (resV xs).ren (getO h) keep with
      | some r => some (rows, r)
      | none => none)
    | _, _ => none)
  else none

/-- Control alone: regions passed over, conditions answered in turn. -/
def ctl : Nat → List Item → List Bool → List Item
  | 0, todo, _ => todo
  | n + 1, todo, ds => match todo with
    | .code .skip :: k => ctl n k ds
    | .code (.label _) :: k => ctl n k ds
    | .inBlock _ :: k => ctl n k ds
    | .code (.seq a b) :: k => ctl n (.code a :: .code b :: k) ds
    | .code (.block id c) :: k => ctl n (.code c :: .inBlock id :: k) ds
    | .code (.loop c) :: k => ctl n (.code c :: .inLoop c :: k) ds
    | .inLoop c :: k => ctl n (.code c :: .inLoop c :: k) ds
    | .code (.exit id) :: k => match exitTo id k with
      | some k' => ctl n k' ds
      | none => []
    | .code (.cond _ x y) :: k => match ds with
      | d :: ds => ctl n (.code (if d then x else y) :: k) ds
      | [] => []
    | .code (.region _ _ _) :: k => ctl n k ds
    | _ => []
def bodyOf (P : Program) (f : Nat) : Code := match P.funcs[f]? with | some fn => fn.body.getD .skip | none => .skip
def resOf (P : Program) (f : Nat) : List ResultVar := match P.funcs[f]? with | some fn => fn.results.toList | none => []
def ntmpsOf (P : Program) (f : Nat) : Nat := match P.funcs[f]? with | some fn => fn.ntmps | none => 0
def junks : Nat → List AV
  | 0 => []
  | n + 1 => .junk :: junks n

/-- From a cut to a cut. -/
def runCut (P : Program) (E : Env) (n : Nat) (scr : Script) (live keep : List Nat) (todo : List Item) (ts : List AV) (h : Heap) : Option (List Item × List AV × Heap × List Prop) :=
  match arun P E n todo ⟨ts, h, 0, scr, []⟩ with
  | some (todo', s') => (match canonA live keep s'.tmps s'.heap with
    | some (ts', h') => some (todo', ts', h', s'.obl)
    | none => none)
  | none => none
def endsR : List Item → Bool
  | [] => true
  | .code .ret :: _ => true
  | _ => false
/-- From a cut to the end. -/
def runRet (P : Program) (E : Env) (rv : List ResultVar) (n : Nat) (scr : Script) (keep : List Nat) (todo : List Item) (ts : List AV) (h : Heap) : Option (List Ob × AV × List Prop) :=
  match arun P E n todo ⟨ts, h, 0, scr, []⟩ with
  | some (todo', s') => if endsR todo' then (match exportA P rv keep s'.tmps s'.heap with
    | some (rows, r) => some (rows, r, s'.obl)
    | none => none) else none
  | none => none

end Go.Abs
