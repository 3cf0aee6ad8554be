/- What the functions compute, in plain terms. -/
import Derived.Test.YteocckoglkbonaaDoorWT
import Derived.Test.YteocckoglkbonaaDoorProg
set_option linter.unusedVariables false
namespace Go.Abs
open Go.Proofs

def I64 (n : Int) : Prop := -9223372036854775808 ≤ n ∧ n ≤ 9223372036854775807
theorem pdecT {p : Prop} (h : p) : @decide p (Classical.propDecidable p) = true := @decide_eq_true p (Classical.propDecidable p) h
theorem pdecF {p : Prop} (h : ¬ p) : @decide p (Classical.propDecidable p) = false := @decide_eq_false p (Classical.propDecidable p) h

def pickS (c n : Int) : Int := Int.tmod (if c < 0 then 0 - (c + 1) else c) n
def mayS (n : Int) : Bool := decide (1 ≤ n ∧ n ≤ 32)
def smallS (n : Int) : Bool := decide (1 ≤ n ∧ n ≤ 65535)
def limitS (e : Bool) : Int := if e then 536870911 else 2047
def withinS (n : Int) (e : Bool) : Bool := decide (0 ≤ n ∧ n ≤ limitS e)
def idRight (i : T_Ident) : Bool := withinS i.N i.Ext
def keyBits (n : Int) : Int :=
  (IntKind.wrap .i64 (BitVec.toNat (((· ||| ·)) (BitVec.ofInt (IntKind.bits .i64) (IntKind.wrap .i64 (BitVec.toNat (((· ||| ·)) (BitVec.ofInt (IntKind.bits .i64) (IntKind.wrap .i64 ((IntKind.wrap .i64 (BitVec.toNat (((fun x y => x &&& ~~~y)) (BitVec.ofInt (IntKind.bits .i64) n) (BitVec.ofInt (IntKind.bits .i64) 262143)))) * 2 ^ min (1 : Int).toNat (IntKind.bits .i64)))) (BitVec.ofInt (IntKind.bits .i64) 262144))))) (BitVec.ofInt (IntKind.bits .i64) (IntKind.wrap .i64 (BitVec.toNat (((· &&& ·)) (BitVec.ofInt (IntKind.bits .i64) n) (BitVec.ofInt (IntKind.bits .i64) 262143))))))))
def keyS (i : T_Ident) : Int × Int := if idRight i = true then (if i.Ext = true then (keyBits i.N, 0) else ((i.N * 2) * 262144, 0)) else (0, 1)
def idLess (a b : T_Ident) : Bool := decide ((keyS a).2 = 0 ∧ (keyS b).2 = 0 ∧ (keyS a).1 < (keyS b).1)
def cmpS (a b : Int) : Int := if a < b then -1 else if a > b then 1 else 0
def orS : List Int → Int
  | [] => 0
  | x :: r => if x = 0 then orS r else x
def Msg.id (m : T_Message) : T_Ident := T_Ident.mk m.Id_Ext m.Id_N
def compareS (a b : T_Message) : Int :=
  if idLess (Msg.id a) (Msg.id b) = true then -1
  else if idLess (Msg.id b) (Msg.id a) = true then 1
  else if (Msg.id a).beq (Msg.id b) = true then orS [cmpS a.Sender b.Sender, cmpS a.Number b.Number]
  else 0
def msgLess (a b : T_Message) : Bool := decide (compareS a b < 0)
def msgRight (m : T_Message) : Bool := idRight (Msg.id m) && decide (0 ≤ m.Sender) && decide (m.Sender < 16) && smallS m.Inc && smallS m.Seq && smallS m.Number && decide ((m.Data.size : Int) ≤ 8)
def identS (n : Int) (e : Bool) : T_Ident := T_Ident.mk e (pickS n (if e = true then 536870912 else 2048))

def I6 (r : T_a6_int) : Prop := I64 r.c0 ∧ I64 r.c1 ∧ I64 r.c2 ∧ I64 r.c3 ∧ I64 r.c4 ∧ I64 r.c5
theorem pickS_range {c n : Int} (h : I64 c) (hn : 1 ≤ n) : 0 ≤ pickS c n ∧ pickS c n < n := by
  obtain ⟨h1, h2⟩ := h
  unfold pickS
  split
  · rw [Int.tmod_eq_emod_of_nonneg (by omega)]
    exact ⟨Int.emod_nonneg _ (by omega), Int.emod_lt_of_pos _ (by omega)⟩
  · rw [Int.tmod_eq_emod_of_nonneg (by omega)]
    exact ⟨Int.emod_nonneg _ (by omega), Int.emod_lt_of_pos _ (by omega)⟩
theorem pickS_I64 {c n : Int} (h : I64 c) (hn : 1 ≤ n) (hm : n ≤ 9223372036854775807) : I64 (pickS c n) := by
  obtain ⟨h1, h2⟩ := pickS_range h hn
  exact ⟨by omega, by omega⟩
def messageId (r : T_a6_int) : T_Ident := if pickS r.c1 7 = 6 then identS r.c0 (pickS r.c1 2 == 0) else identS (pickS r.c0 5) (pickS r.c1 3 == 0)
def messageS (r : T_a6_int) (d : ByteArray) : T_Message :=
  T_Message.mk (messageId r).Ext (messageId r).N (pickS r.c2 16) (1 + pickS r.c3 65535) (1 + pickS r.c4 65535) (1 + pickS r.c5 65535)
    (d.extract (0 : Int).toNat ((if 8 < (d.size : Int) then 8 else (d.size : Int)) : Int).toNat)
def letterD : ByteArray := ⟨#[100]⟩
def numberedS (r : T_a6_int) (k : Int) : T_Message := { messageS r letterD with Number := k }
def idxS {α : Type} (p : α → Bool) (l : List α) : Int := match l.findIdx? p with | some i => i | none => -1
theorem idxS_none {α : Type} {p : α → Bool} {l : List α} (h : ∀ (j : Nat) (y : α), l[j]? = some y → p y = false) : idxS p l = -1 := by
  unfold idxS
  rw [List.findIdx?_eq_none_iff.2]
  intro x hx
  obtain ⟨j, hj⟩ := List.getElem?_of_mem hx
  exact h j x hj
theorem idxS_some {α : Type} {p : α → Bool} {l : List α} {i : Nat} (hi : i < l.length) (h0 : p l[i] = true) (h : ∀ (j : Nat), j < i → ∀ (y : α), l[j]? = some y → p y = false) : idxS p l = i := by
  unfold idxS
  rw [List.findIdx?_eq_some_iff_getElem.2 ⟨hi, h0, fun j hj => by simp [h j hj l[j] (by simp)]⟩]

def nums (l : List T_Message) : List Int := l.foldl (fun ks m => addK m.Number ks) []
/-- A queue that may be. -/
def QR (q : T_Queue) : Prop := (1 ≤ q.Limit ∧ q.Limit ≤ 32) ∧ (q.Msgs.length : Int) ≤ q.Limit ∧
  (∀ (j : Nat) (y : T_Message), q.Msgs[j]? = some y → msgRight y = true ∧ (0 < j → ∀ x, q.Msgs[j - 1]? = some x → msgLess x y = true)) ∧ (nums q.Msgs).length = q.Msgs.length
def newQ (a : Int) : Int × Int := if mayS a = true then (a, 0) else (0, 1)
theorem pd_true {p : Prop} : @decide p (Classical.propDecidable p) = true ↔ p := @decide_eq_true_iff p (Classical.propDecidable p)
theorem addK_length (n : Int) (ks : List Int) : (addK n ks).length ≤ ks.length + 1 := by unfold addK; split <;> simp
theorem nums_length (l : List T_Message) : (nums l).length ≤ l.length := by
  unfold nums
  suffices ∀ (l : List T_Message) (ks : List Int), (l.foldl (fun ks m => addK m.Number ks) ks).length ≤ ks.length + l.length by simpa using this l []
  intro l
  induction l with
  | nil => intro ks; simp
  | cons m l ih => intro ks; have := ih (addK m.Number ks); have := addK_length m.Number ks; simp only [List.foldl_cons, List.length_cons]; omega
theorem nums_snoc (l : List T_Message) (m : T_Message) : nums (l ++ [m]) = addK m.Number (nums l) := by simp [nums]

def insAt (l : List T_Message) (i : Int) (m : T_Message) : List T_Message := l.take i.toNat ++ [m] ++ l.drop i.toNat
def delAt (l : List T_Message) (i j : Int) : List T_Message := l.take i.toNat ++ l.drop j.toNat
def putIn (l : List T_Message) (m : T_Message) : List T_Message := insAt l (if idxS (fun x => msgLess m x) l < 0 then (l.length : Int) else idxS (fun x => msgLess m x) l) m

theorem idxS_lt {α : Type} {p : α → Bool} {l : List α} : -1 ≤ idxS p l ∧ idxS p l < (l.length : Int) := by
  unfold idxS
  split
  · rename_i i h
    have := (List.findIdx?_eq_some_iff_getElem.1 h).1
    omega
  · omega
theorem idxS_nil {α : Type} {p : α → Bool} : idxS p ([] : List α) = -1 := rfl
theorem nil_of_len {α : Type} {l : List α} (h : ¬ (l.length : Int) > 0) : l = [] := by cases l with | nil => rfl | cons a l => simp at h

def sortedB : List T_Message → Bool
  | [] => true
  | [a] => msgRight a
  | a :: b :: r => msgRight a && msgLess a b && sortedB (b :: r)
theorem sortedB_get : ∀ (l : List T_Message), sortedB l = true → ∀ (j : Nat) (y : T_Message), l[j]? = some y → msgRight y = true ∧ (0 < j → ∀ x, l[j - 1]? = some x → msgLess x y = true)
  | [], _, j, y, hy => by simp at hy
  | [a], h, j, y, hy => by
    cases j with
    | zero => simp at hy; subst hy; exact ⟨h, fun h => by omega⟩
    | succ j => simp at hy
  | a :: b :: r, h, j, y, hy => by
    simp only [sortedB, Bool.and_eq_true] at h
    have ih := sortedB_get (b :: r) h.2
    cases j with
    | zero => simp at hy; subst hy; exact ⟨h.1.1, fun h => by omega⟩
    | succ j =>
      simp at hy
      refine ⟨(ih j y hy).1, fun _ x hx => ?_⟩
      cases j with
      | zero => simp at hx hy; subst hx hy; exact h.1.2
      | succ j => simp at hx; exact (ih (j + 1) y hy).2 (by omega) x (by simpa using hx)
def QRb (q : T_Queue) : Bool := decide (1 ≤ q.Limit) && decide (q.Limit ≤ 32) && decide ((q.Msgs.length : Int) ≤ q.Limit) && sortedB q.Msgs && ((nums q.Msgs).length == q.Msgs.length)
theorem QR_of_b {q : T_Queue} (h : QRb q = true) : QR q := by
  simp only [QRb, Bool.and_eq_true, decide_eq_true_eq, beq_iff_eq] at h
  exact ⟨⟨h.1.1.1.1, h.1.1.1.2⟩, h.1.1.2, sortedB_get _ h.1.2, h.2⟩

/-- What is taken for granted of the program and its variables. -/
structure Ctx (E : Env) : Prop where
  env : EnvOK E
  good : Good Tryd.prog
  c_ident_limit : ∀ e : Bool, ACalls Tryd.prog E n_ident_limit [AV.bool e] [] (AV.int .i64 (limitS e))
  c_slices_Insert_Message : ∀ (l : List T_Message) (i : Int) (m : T_Message), 0 ≤ i ∧ i ≤ (l.length : Int) → l.length ≤ 1000000 → ICalls Tryd.prog n_slices_Insert_Message 35 7 (l.map T_Message.av) [AV.int .i64 i, AV.sl .p ([m].map T_Message.av)] ((insAt l i m).map T_Message.av)
  c_slices_Delete_Message : ∀ (l : List T_Message) (i j : Int), 0 ≤ i ∧ i ≤ j ∧ j ≤ (l.length : Int) → l.length ≤ 1000000 → ICalls Tryd.prog n_slices_Delete_Message 35 7 (l.map T_Message.av) [AV.int .i64 i, AV.int .i64 j] ((delAt l i j).map T_Message.av)
theorem c_slices_Insert_Message {E : Env} (X : Ctx E) (l : List T_Message) (i : Int) (m : T_Message) (h1 : 0 ≤ i ∧ i ≤ (l.length : Int)) (h2 : l.length ≤ 1000000) : ICalls Tryd.prog n_slices_Insert_Message 35 7 (l.map T_Message.av) [AV.int .i64 i, AV.sl .p ([m].map T_Message.av)] ((insAt l i m).map T_Message.av) := X.c_slices_Insert_Message l i m h1 h2
theorem c_slices_Delete_Message {E : Env} (X : Ctx E) (l : List T_Message) (i j : Int) (h1 : 0 ≤ i ∧ i ≤ j ∧ j ≤ (l.length : Int)) (h2 : l.length ≤ 1000000) : ICalls Tryd.prog n_slices_Delete_Message 35 7 (l.map T_Message.av) [AV.int .i64 i, AV.int .i64 j] ((delAt l i j).map T_Message.av) := X.c_slices_Delete_Message l i j h1 h2
theorem c_ident_limit {E : Env} (X : Ctx E) (e : Bool) : ACalls Tryd.prog E n_ident_limit [AV.bool e] [] (AV.int .i64 (limitS e)) := X.c_ident_limit e

end Go.Abs
