/- Entries and logs as plain functions. -/
import Derived.Test.YteocckoglkbonaaDoorS6
import Derived.Test.YteocckoglkbonaaDoorS7
import Derived.Test.YteocckoglkbonaaDoorWT2
set_option linter.unusedVariables false
set_option linter.unusedSimpArgs false
set_option maxRecDepth 100000
namespace Go.Abs

theorem with_nat {v : Int} {k : Nat} (hk : k < 16) : withS v (k : Int) = (((v % 65536).toNat ||| 2 ^ k : Nat) : Int) := by
  have hn : nodeS (k : Int) = true := decide_eq_true (by omega)
  rw [withS, hn, bit_nat hk, nat_or_bit _ _ (by omega) hk]
  have hnn : 0 ≤ v % 65536 := by omega
  have e : (2 : Int) ^ k = ((2 ^ k : Nat) : Int) := by simp
  cases ((v % 65536).toNat).testBit k <;> simp <;> omega
theorem withS_range (v n : Int) : 0 ≤ withS v n ∧ withS v n < 65536 := by
  by_cases h : nodeS n = true
  · have hn : 0 ≤ n ∧ n < 16 := of_decide_eq_true h
    obtain ⟨k, rfl⟩ : ∃ k : Nat, n = (k : Int) := ⟨n.toNat, by omega⟩
    rw [with_nat (by omega)]
    have h1 : (v % 65536).toNat ||| 2 ^ k < 2 ^ 16 := Nat.or_lt_two_pow (by omega) (Nat.pow_lt_pow_right (by decide) (by omega))
    omega
  · simp only [withS, h]; simp; omega
theorem hasS_with (v n x : Int) (hn : nodeS n = true) : hasS (withS v n) x = (hasS v x || decide (x = n)) := by
  have hn' : 0 ≤ n ∧ n < 16 := of_decide_eq_true hn
  obtain ⟨k, rfl⟩ : ∃ k : Nat, n = (k : Int) := ⟨n.toNat, by omega⟩
  unfold hasS
  by_cases hx : nodeS x = true
  · have hx' : 0 ≤ x ∧ x < 16 := of_decide_eq_true hx
    obtain ⟨i, rfl⟩ : ∃ i : Nat, x = (i : Int) := ⟨x.toNat, by omega⟩
    have hr := withS_range v (k : Int)
    rw [hx, bit_nat (by omega), bit_nat (by omega), Int.emod_eq_of_lt hr.1 hr.2, with_nat (by omega), Int.toNat_natCast, Nat.testBit_or, Nat.testBit_two_pow]
    simp only [Bool.true_and]
    congr 1
    apply decide_eq_decide.2; omega
  · have : ¬ x = (k : Int) := fun e => hx (e ▸ hn)
    simp [hx, this]

theorem msgLess_less4 {a b : T_Message} (ha : msgRight a = true) (hb : msgRight b = true) : msgLess a b = less4 a b := by
  have h1 := msgLess_iff ha hb
  have h2 := less4_right ha hb
  cases h3 : msgLess a b <;> cases h4 : less4 a b <;> simp_all

def oddS (n : Int) : Bool := !smallS n
/-- A member's Inc. -/
def incS (e : T_Entry) (n : Int) : Int × Bool :=
  if (listS e.Members).length = e.Incs.length ∧ 0 ≤ idxS (fun y => decide (y = n)) (listS e.Members) then (e.Incs.getD (idxS (fun y => decide (y = n)) (listS e.Members)).toNat 0, true) else (0, false)
def ifSome {α : Type} (o : Option α) (f : α → Bool) : Bool := match o with | some x => f x | none => true
def mrB (e : T_Entry) (seen : List T_Message) : List T_Message → Bool
  | [] => true
  | m :: r => (msgRight m && decide (incS e m.Sender = (m.Inc, true)) && !seen.any (fun x => decide (x.Sender = m.Sender)) && ifSome seen.getLast? (fun x => less4 x m)) && mrB e (seen ++ [m]) r
def headB (e : T_Entry) : Bool := smallS e.Term && smallS e.Epoch && decide (0 ≤ e.Members) && decide (e.Members < 65536) && decide ((e.Incs.length : Int) = countS e.Members) && e.Incs.all smallS
def entRight (e : T_Entry) : Bool := headB e && mrB e [] e.Msgs
def nextB (p e : T_Entry) : Bool := decide (p.Term ≤ e.Term) && decide (p.Epoch < e.Epoch)
def lgB (p : Option T_Entry) : List T_Entry → Bool
  | [] => true
  | e :: r => (entRight e && ifSome p (fun x => nextB x e)) && lgB (some e) r
def logRight (l : List T_Entry) : Bool := decide (l.length ≤ 300) && lgB none l
def SmallE (e : T_Entry) : Prop := e.Incs.length ≤ 1000000 ∧ e.Msgs.length ≤ 1000000
def Small (l : List T_Entry) : Prop := l.length ≤ 1000000 ∧ ∀ e ∈ l, SmallE e

theorem idx_range {α : Type} {p : α → Bool} {l : List α} (h : 0 ≤ idxS p l) : (idxS p l).toNat < l.length := by have := @idxS_lt _ p l; omega
theorem any_odd (l : List Int) : l.any oddS = !l.all smallS := by
  induction l with
  | nil => rfl
  | cons x l ih => simp [ih, oddS]
theorem idx_any {α : Type} (p : α → Bool) (l : List α) : decide (idxS p l ≥ 0) = l.any p := by
  rcases idxS_split p l with ⟨h1, h2⟩ | ⟨a, x, b, h1, h2, h3, _⟩
  · have : l.any p = false := by rw [List.any_eq_false]; intro x hx; simp [h2 x hx]
    rw [this]; exact decide_eq_false (by omega)
  · have : l.any p = true := by rw [List.any_eq_true]; exact ⟨x, by rw [h1]; simp, h3⟩
    rw [this, h2]; exact decide_eq_true (by omega)
theorem getLast_take {α : Type} {l : List α} {i : Nat} (hi : i ≤ l.length) (h0 : 0 < i) : (l.take i).getLast? = l[i - 1]? := by
  rw [List.getLast?_eq_getElem?, List.length_take, Nat.min_eq_left hi, List.getElem?_take]
  rw [if_pos (by omega)]
theorem take_snoc {α : Type} {l : List α} {i : Nat} (hi : i < l.length) : l.take i ++ [l[i]] = l.take (i + 1) := List.take_append_getElem hi
theorem mrB_drop {e : T_Entry} {l : List T_Message} {i : Nat} (hi : i < l.length) : mrB e (l.take i) (l.drop i) = ((msgRight l[i] && decide (incS e (l[i]).Sender = ((l[i]).Inc, true)) && !(l.take i).any (fun x => decide (x.Sender = (l[i]).Sender)) && ifSome (l.take i).getLast? (fun x => less4 x l[i])) && mrB e (l.take (i + 1)) (l.drop (i + 1))) := by
  rw [List.drop_eq_getElem_cons hi]
  simp only [mrB, take_snoc hi]
theorem right_sender {m : T_Message} (h : msgRight m = true) : nodeS m.Sender = true := by
  simp only [msgRight, Bool.and_eq_true, decide_eq_true_eq] at h
  exact decide_eq_true ⟨h.1.1.1.1.1.2, h.1.1.1.1.2⟩
theorem incS_eq {e : T_Entry} {x y : Int} : decide (incS e x = (y, true)) = ((incS e x).2 && decide ((incS e x).1 = y)) := by
  rcases h : incS e x with ⟨a, b⟩
  cases b <;> simp
end Go.Abs
