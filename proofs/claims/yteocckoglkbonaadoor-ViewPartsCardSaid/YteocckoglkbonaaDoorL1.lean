/- The order of messages, and lists in order: plain. -/
import Derived.Test.YteocckoglkbonaaDoorWS
import Derived.IntWalk
set_option linter.unusedVariables false
namespace Go.Abs
open Go.Proofs

theorem ofInt_nat {N : Nat} (h : N < 18446744073709551616) : (BitVec.ofInt 64 (N : Int)).toNat = N := by
  rw [BitVec.ofInt_natCast, BitVec.toNat_ofNat]
  exact Nat.mod_eq_of_lt h
theorem and_not_low (N : Nat) (h : N < 18446744073709551616) : ((BitVec.ofInt 64 (N : Int)) &&& ~~~(BitVec.ofInt 64 262143)).toNat = 262144 * (N / 262144) := by
  have e : (BitVec.ofInt 64 262143).toNat = 262143 := by decide
  rw [BitVec.toNat_and, BitVec.toNat_not, ofInt_nat h, e]
  apply Nat.eq_of_testBit_eq
  intro i
  rw [Nat.testBit_and, show (2 ^ 64 - 1 - 262143 : Nat) = 2 ^ 64 - (262143 + 1) by decide, Nat.testBit_two_pow_sub_succ (by decide), show (262143 : Nat) = 2 ^ 18 - 1 by decide, Nat.testBit_two_pow_sub_one,
    show (262144 : Nat) = 2 ^ 18 by decide, Nat.testBit_two_pow_mul, Nat.testBit_div_two_pow]
  by_cases h1 : i < 18
  · simp [h1]
    intro h; omega
  · have h2 : i - 18 + 18 = i := by omega
    by_cases h3 : i < 64
    · simp [h1, h2, h3]; omega
    · have : N.testBit i = false := Nat.testBit_lt_two_pow (Nat.lt_of_lt_of_le h (by
        have : (2 : Nat) ^ 64 ≤ 2 ^ i := Nat.pow_le_pow_right (by decide) (by omega)
        simpa using this))
      simp [h2, this]
theorem keyBits_eq (N : Nat) (h : N < 536870912) : keyBits (N : Int) = ((524288 * (N / 262144) + 262144 + N % 262144 : Nat) : Int) := by
  have hw : ∀ M : Nat, M < 9223372036854775807 → IntKind.wrap .i64 (M : Int) = (M : Int) := fun M hM => by rw [IntKind.wrap_i64]; omega
  unfold keyBits
  have e1 : BitVec.toNat ((fun x y => x &&& ~~~y) (BitVec.ofInt (IntKind.bits .i64) (N : Int)) (BitVec.ofInt (IntKind.bits .i64) 262143)) = 262144 * (N / 262144) := and_not_low N (by omega)
  rw [e1, hw (262144 * (N / 262144)) (by omega)]
  have e2 : (((262144 * (N / 262144) : Nat) : Int) * 2 ^ min (1 : Int).toNat (IntKind.bits .i64)) = ((2 ^ 19 * (N / 262144) : Nat) : Int) := by
    have : (2 : Int) ^ min (1 : Int).toNat (IntKind.bits .i64) = 2 := by decide
    rw [this]; omega
  rw [e2, hw (2 ^ 19 * (N / 262144)) (by omega)]
  have e3 : BitVec.toNat ((· ||| ·) (BitVec.ofInt (IntKind.bits .i64) ((2 ^ 19 * (N / 262144) : Nat) : Int)) (BitVec.ofInt (IntKind.bits .i64) 262144)) = 2 ^ 19 * (N / 262144) + 262144 := by
    show BitVec.toNat (BitVec.ofInt 64 ((2 ^ 19 * (N / 262144) : Nat) : Int) ||| BitVec.ofInt 64 ((262144 : Nat) : Int)) = _
    rw [BitVec.toNat_or, ofInt_nat (by omega), ofInt_nat (by omega), ← Nat.two_pow_add_eq_or_of_lt (by decide)]
  rw [e3, hw (2 ^ 19 * (N / 262144) + 262144) (by omega)]
  have e4 : BitVec.toNat ((· &&& ·) (BitVec.ofInt (IntKind.bits .i64) (N : Int)) (BitVec.ofInt (IntKind.bits .i64) 262143)) = N % 262144 := by
    show BitVec.toNat (BitVec.ofInt 64 (N : Int) &&& BitVec.ofInt 64 ((262143 : Nat) : Int)) = _
    rw [BitVec.toNat_and, ofInt_nat (by omega), ofInt_nat (by omega), show (262143 : Nat) = 2 ^ 18 - 1 by decide, Nat.and_two_pow_sub_one_eq_mod]
  rw [e4, hw (N % 262144) (by omega)]
  have e5 : BitVec.toNat ((· ||| ·) (BitVec.ofInt (IntKind.bits .i64) ((2 ^ 19 * (N / 262144) + 262144 : Nat) : Int)) (BitVec.ofInt (IntKind.bits .i64) ((N % 262144 : Nat) : Int))) = 524288 * (N / 262144) + 262144 + N % 262144 := by
    show BitVec.toNat (BitVec.ofInt 64 ((2 ^ 19 * (N / 262144) + 262144 : Nat) : Int) ||| BitVec.ofInt 64 ((N % 262144 : Nat) : Int)) = _
    rw [BitVec.toNat_or, ofInt_nat (by omega), ofInt_nat (by omega), show 2 ^ 19 * (N / 262144) + 262144 = 2 ^ 18 * (2 * (N / 262144) + 1) by omega, ← Nat.two_pow_add_eq_or_of_lt (by omega)]
  rw [e5, hw _ (by omega)]

/-- Keys of identifiers that may be. -/
theorem key_inj {a b : T_Ident} (ha : idRight a = true) (hb : idRight b = true) (h : (keyS a).1 = (keyS b).1) : a = b := by
  obtain ⟨ea, na⟩ := a
  obtain ⟨eb, nb⟩ := b
  simp only [keyS, ha, hb, if_true] at h
  have ra : 0 ≤ na ∧ na ≤ limitS ea := of_decide_eq_true ha
  have rb : 0 ≤ nb ∧ nb ≤ limitS eb := of_decide_eq_true hb
  clear ha hb
  have la : limitS ea ≤ 536870911 := by cases ea <;> decide
  have lb : limitS eb ≤ 536870911 := by cases eb <;> decide
  obtain ⟨N, rfl⟩ : ∃ N : Nat, na = N := ⟨na.toNat, by omega⟩
  obtain ⟨K, rfl⟩ : ∃ K : Nat, nb = K := ⟨nb.toNat, by omega⟩
  cases ea <;> cases eb <;> simp at h ⊢
  · omega
  · rw [keyBits_eq K (by omega)] at h; omega
  · rw [keyBits_eq N (by omega)] at h; omega
  · rw [keyBits_eq N (by omega), keyBits_eq K (by omega)] at h; omega

def key (m : T_Message) : Int := (keyS (Msg.id m)).1
def Lt (a b : T_Message) : Prop := key a < key b ∨ key a = key b ∧ (a.Sender < b.Sender ∨ a.Sender = b.Sender ∧ a.Number < b.Number)
theorem Lt.trans {a b c : T_Message} (h : Lt a b) (h' : Lt b c) : Lt a c := by unfold Lt at *; omega
theorem Lt.asymm {a b : T_Message} (h : Lt a b) : ¬ Lt b a := by unfold Lt at *; omega
theorem Lt.total {a b : T_Message} (h : a.Number ≠ b.Number) : Lt a b ∨ Lt b a := by unfold Lt; omega
theorem right_id {m : T_Message} (h : msgRight m = true) : idRight (Msg.id m) = true := by
  simp only [msgRight, Bool.and_eq_true] at h
  exact h.1.1.1.1.1.1
theorem idLess_iff {a b : T_Ident} (ha : idRight a = true) (hb : idRight b = true) : idLess a b = true ↔ (keyS a).1 < (keyS b).1 := by
  have e : ∀ i : T_Ident, idRight i = true → (keyS i).2 = 0 := fun i hi => by simp only [keyS, hi, if_true]; split <;> rfl
  simp [idLess, e a ha, e b hb]
theorem msgLess_iff_id {a b : T_Message} (ia : idRight (Msg.id a) = true) (ib : idRight (Msg.id b) = true) : msgLess a b = true ↔ Lt a b := by
  by_cases h1 : (keyS (Msg.id a)).1 < (keyS (Msg.id b)).1
  · have e : compareS a b = -1 := by unfold compareS; rw [if_pos ((idLess_iff ia ib).2 h1)]
    simp only [msgLess, e, Lt, key]
    exact ⟨fun _ => .inl h1, fun _ => by decide⟩
  · by_cases h2 : (keyS (Msg.id b)).1 < (keyS (Msg.id a)).1
    · have e : compareS a b = 1 := by unfold compareS; rw [if_neg (fun h => h1 ((idLess_iff ia ib).1 h)), if_pos ((idLess_iff ib ia).2 h2)]
      simp only [msgLess, e, Lt, key]
      exact ⟨fun h => by simp at h, fun h => by omega⟩
    · have ei : Msg.id a = Msg.id b := key_inj ia ib (by omega)
      have e : compareS a b = orS [cmpS a.Sender b.Sender, cmpS a.Number b.Number] := by
        unfold compareS; rw [if_neg (fun h => h1 ((idLess_iff ia ib).1 h)), if_neg (fun h => h2 ((idLess_iff ib ia).1 h)), if_pos (T_Ident.beqT ei)]
      have e2 : (keyS (Msg.id a)).1 = (keyS (Msg.id b)).1 := by omega
      simp only [msgLess, e, decide_eq_true_eq, Lt, key]
      have e3 : orS [cmpS a.Sender b.Sender, cmpS a.Number b.Number] < 0 ↔ (a.Sender < b.Sender ∨ a.Sender = b.Sender ∧ a.Number < b.Number) := by
        simp only [orS, cmpS]
        by_cases q1 : a.Sender < b.Sender
        · simp [q1]
        · by_cases q2 : a.Sender > b.Sender
          · simp [q1, q2]; omega
          · have q3 : a.Sender = b.Sender := by omega
            by_cases q4 : a.Number < b.Number
            · simp [q3, q4]
            · by_cases q5 : a.Number > b.Number
              · simp [q3, q4, q5]
              · simp [q3, q4, q5]
      rw [e3]
      constructor
      · intro h; exact .inr ⟨e2, h⟩
      · intro h
        rcases h with h | ⟨_, h⟩
        · omega
        · exact h
theorem msgLess_iff {a b : T_Message} (ha : msgRight a = true) (hb : msgRight b = true) : msgLess a b = true ↔ Lt a b := msgLess_iff_id (right_id ha) (right_id hb)
end Go.Abs
