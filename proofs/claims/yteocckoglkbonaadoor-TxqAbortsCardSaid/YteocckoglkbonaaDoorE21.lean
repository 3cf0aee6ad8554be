/- Small lemmas for the walks that a program prints. -/
import Derived.Test.YteocckoglkbonaaDoorE20
set_option linter.unusedVariables false
set_option linter.unusedSimpArgs false
set_option linter.unusedSectionVars false
namespace Go.Abs
open Go.RowKit

def avl {α : Type} (f : α → AV) (l : List α) : AV := .sl .p (l.map f)
theorem cells_avl {α : Type} {f : α → AV} (l : List α) : (avl f l).cells.length = 1 := rfl
theorem cells_bool (b : Bool) : (AV.bool b).cells.length = 1 := rfl
theorem cells_str (b : ByteArray) : (AV.str b).cells.length = 1 := rfl
theorem cells_int_i64 (b : Int) : (AV.int .i64 b).cells.length = 1 := rfl
theorem cells_int_u8 (b : Int) : (AV.int .u8 b).cells.length = 1 := rfl
theorem flat_bool (b : Bool) : (AV.bool b).hasSl = false := rfl
theorem flat_str (b : ByteArray) : (AV.str b).hasSl = false := rfl
theorem flat_int_i64 (b : Int) : (AV.int .i64 b).hasSl = false := rfl
theorem flat_int_u8 (b : Int) : (AV.int .u8 b).hasSl = false := rfl

section
variable {α : Type} {f : α → AV} {raw : List AV} {l : List α} {l2 : List α} {raw2 : List AV}
theorem get_raw (hr : raw = l.map f) {k : Nat} {y : α} (e : l[k]? = some y) : raw[k]? = some (f y) := by subst hr; simp [e]
theorem len_raw (hr : raw = l.map f) : AV.int .i64 (raw.length : Int) = AV.int .i64 (l.length : Int) := by subst hr; simp
theorem lt_raw (hr : raw = l.map f) {i : Int} (h : 0 ≤ i ∧ i < (l.length : Int)) : 0 ≤ i ∧ i < (raw.length : Int) := by subst hr; simpa using h
theorem slice_raw (hr : raw = l.map f) {i j : Int} (h : 0 ≤ i ∧ i ≤ j ∧ j ≤ (l.length : Int)) : 0 ≤ i ∧ i ≤ j ∧ j ≤ (raw.length : Int) := by subst hr; simpa using h
theorem slice_rawN (hr : raw = l.map f) {i : Int} (h : 0 ≤ i ∧ i ≤ (l.length : Int) ∧ (l.length : Int) ≤ (l.length : Int)) : 0 ≤ i ∧ i ≤ (raw.length : Int) ∧ (raw.length : Int) ≤ (raw.length : Int) := by
  subst hr; simpa using h
theorem cells_raw (hr : raw = l.map f) {n : Nat} (h : ∀ x, (f x).cells.length = n) : ∀ y ∈ raw, y.cells.length = n := by
  subst hr; intro y hy; obtain ⟨x, _, rfl⟩ := List.mem_map.1 hy; exact h x
theorem flat_raw (hr : raw = l.map f) (h : ∀ x, (f x).hasSl = false) : ∀ y ∈ raw, y.hasSl = false := by
  subst hr; intro y hy; obtain ⟨x, _, rfl⟩ := List.mem_map.1 hy; exact h x
theorem le_raw1 (hr : raw = l.map f) {n : Nat} (h : l.length * n ≤ 140737488355328) : raw.length * n ≤ 140737488355328 := by subst hr; simpa using h
theorem le_raw2 (hr : raw = l.map f) (h : l.length ≤ 140737488355328) : raw.length ≤ 140737488355328 := by subst hr; simpa using h
theorem le_raw3 {g : α → AV} (hr : raw = l.map f) (hr2 : raw2 = l2.map g) {n : Nat} (h : (l.length + l2.length) * n ≤ 140737488355328) : (raw.length + raw2.length) * n ≤ 140737488355328 := by
  subst hr hr2; simpa using h
theorem le_raw4 {g : α → AV} (hr : raw = l.map f) (hr2 : raw2 = l2.map g) (h : l.length + l2.length ≤ 140737488355328) : raw.length + raw2.length ≤ 140737488355328 := by
  subst hr hr2; simpa using h
end

theorem wrap_i64 {t : Int} (h : (-9223372036854775808) ≤ t ∧ t ≤ 9223372036854775807) : AV.int .i64 (IntKind.wrap .i64 t) = AV.int .i64 t := by rw [IntKind.wrap_i64]; congr 1; omega
theorem wrap_u8 {t : Int} (h : 0 ≤ t ∧ t ≤ 255) : AV.int .u8 (IntKind.wrap .u8 t) = AV.int .u8 t := by rw [IntKind.wrap_u8]; congr 1; omega

theorem ieqT {a b : Int} (h : a = b) : (a == b) = true := by simp [h]
theorem ieqF {a b : Int} (h : ¬ a = b) : (a == b) = false := by simp [h]
theorem ineF {a b : Int} (h : a = b) : (a != b) = false := by simp [h]
theorem ineT {a b : Int} (h : ¬ a = b) : (a != b) = true := by simp [h]
theorem bF {b : Bool} (h : ¬ b = true) : b = false := by cases b <;> simp_all
theorem bbeqT {a b : Bool} (h : a = b) : (a == b) = true := by simp [h]
theorem bbeqF {a b : Bool} (h : ¬ a = b) : (a == b) = false := by simp [h]

theorem toList_loop (b : ByteArray) : ∀ (n i : Nat) (r : List UInt8), b.size - i = n → ByteArray.toList.loop b i r = r.reverse ++ b.data.toList.drop i := by
  intro n
  induction n with
  | zero =>
    intro i r h
    unfold ByteArray.toList.loop
    rw [if_neg (by omega), List.drop_eq_nil_of_le (by have e : b.size = b.data.size := rfl; simp only [Array.length_toList]; omega)]
    simp
  | succ n ih =>
    intro i r h
    unfold ByteArray.toList.loop
    rw [if_pos (by omega), ih _ _ (by omega)]
    have hi : i < b.data.toList.length := by have e : b.size = b.data.size := rfl; simp only [Array.length_toList]; omega
    rw [List.drop_eq_getElem_cons hi]
    have : b.get! i = b.data.toList[i] := by
      have hi' : i < b.data.size := by simpa using hi
      rw [ByteArray.get!, getElem!_pos b.data i hi']; simp
    simp [this]
theorem toList_data (b : ByteArray) : b.toList = b.data.toList := by
  unfold ByteArray.toList
  rw [toList_loop b _ 0 [] rfl]
  simp
theorem bytes_inj {a b : ByteArray} : a.toList = b.toList ↔ a = b := by
  rw [toList_data, toList_data]
  constructor
  · intro h
    exact ByteArray.ext (Array.ext' h)
  · intro h; rw [h]
theorem seqT {a b : ByteArray} (h : a = b) : (a.toList == b.toList) = true := by simp [h]
theorem seqF {a b : ByteArray} (h : ¬ a = b) : (a.toList == b.toList) = false := by
  cases hb : (a.toList == b.toList) with
  | false => rfl
  | true => exact absurd (bytes_inj.1 (beq_iff_eq.1 hb)) h

mutual
def AV.plain : AV → AV
  | .sl _ xs => .sl .p xs
  | .agg cs => .agg (AV.plainL cs)
  | x => x
def AV.plainL : List AV → List AV
  | [] => []
  | x :: xs => x.plain :: AV.plainL xs
end
mutual
theorem plain_rep {A : Nat → Prop} {w : World} : ∀ {x v}, Rep A w x v → Rep A w x.plain v
  | .sl fl xs, v, p => p.plain
  | .agg cs, v, p => by cases p with | agg p => exact .agg (plainL_rep p)
  | .bool _, v, p => p
  | .int _ _, v, p => p
  | .str _, v, p => p
  | .tup _, v, p => p
  | .fn _ _, v, p => p
  | .pin _ _, v, p => p
  | .nilp, v, p => p
  | .ptr _ _, v, p => p
  | .ptrE _ _ _, v, p => p
  | .own _, v, p => p
  | .junk, v, p => p
theorem plainL_rep {A : Nat → Prop} {w : World} : ∀ {xs vs}, RepL A w xs vs → RepL A w (AV.plainL xs) vs
  | [], _, .nil => .nil
  | x :: xs, _, .cons p q => .cons (plain_rep p) (plainL_rep q)
end
section
variable {P : Program} {E : Env} {C : C0} {f : FuncId}
theorem alln : All [] := trivial
theorem allc {p : Prop} {ps : List Prop} (h : p) (hs : All ps) : All (p :: ps) := ⟨h, hs⟩
theorem acalls_eq {as as' : List AV} {rows : List Ob} {r : AV} (h : as = as') (hc : ACalls P E f as' rows r) : ACalls P E f as rows r := h ▸ hc
theorem icalls_eq {T : TypeId} {s : Nat} {xs xs' as as' ys : List AV} (h1 : xs = xs') (h2 : as = as') (hc : ICalls P f T s xs' as' ys) : ICalls P f T s xs as ys := h1 ▸ h2 ▸ hc
theorem acalls_plain {xs : List AV} {rows : List Ob} {r : AV} (hc : ACalls P E f (AV.plainL xs) rows r) : ACalls P E f xs rows r :=
  ⟨hc.1, fun C vs hw hA hr => hc.2 C vs hw hA (plainL_rep hr)⟩
theorem goes_eqS {todo : List Item} {ts ts' : List AV} {h h' : Heap} {rows : List Ob} {r : AV} (e1 : ts = ts') (e2 : h = h') (hg : Goes P C f todo ts' h' rows r) : Goes P C f todo ts h rows r := e1 ▸ e2 ▸ hg
theorem goes_eqR {todo : List Item} {ts : List AV} {h : Heap} {rows rows' : List Ob} {r r' : AV} (e1 : rows = rows') (e2 : r = r') (hg : Goes P C f todo ts h rows' r') : Goes P C f todo ts h rows r := e1 ▸ e2 ▸ hg
end
end Go.Abs
