/- Raw messages may be. -/
import Derived.Test.YteocckoglkbonaaDoorL1
set_option linter.unusedVariables false
set_option maxRecDepth 100000
namespace Go.Abs
open Go.Proofs

theorem identS_right {n : Int} (h : I64 n) (e : Bool) : idRight (identS n e) = true := by
  have := pickS_range h (n := if e = true then 536870912 else 2048) (by split <;> omega)
  simp only [idRight, identS, withinS, limitS, decide_eq_true_eq]
  cases e <;> simp at this ⊢ <;> omega
theorem messageId_right {y : T_a6_int} (h : I6 y) : idRight (messageId y) = true := by
  unfold messageId
  split
  · exact identS_right h.1 _
  · exact identS_right (pickS_I64 h.1 (by omega) (by omega)) _
theorem numbered_right {y : T_a6_int} (h : I6 y) {k : Int} (hk : 1 ≤ k ∧ k ≤ 65535) : msgRight (numberedS y k) = true := by
  have hi := messageId_right h
  obtain ⟨h0, h1, h2, h3, h4, h5⟩ := h
  have r2 := pickS_range h2 (n := 16) (by omega)
  have r3 := pickS_range h3 (n := 65535) (by omega)
  have r4 := pickS_range h4 (n := 65535) (by omega)
  have hd : decide ((((numberedS y k).Data.size : Nat) : Int) ≤ 8) = true := by
    show decide (((letterD.extract (0 : Int).toNat ((if 8 < (letterD.size : Int) then 8 else (letterD.size : Int)) : Int).toNat).size : Int) ≤ 8) = true
    decide
  have hid : Msg.id (numberedS y k) = messageId y := rfl
  simp only [msgRight, hid, hi, hd, smallS, Bool.and_eq_true, decide_eq_true_eq, Bool.and_true, Bool.true_and]
  show (((0 ≤ pickS y.c2 16 ∧ pickS y.c2 16 < 16) ∧ (1 ≤ 1 + pickS y.c3 65535 ∧ 1 + pickS y.c3 65535 ≤ 65535)) ∧ (1 ≤ 1 + pickS y.c4 65535 ∧ 1 + pickS y.c4 65535 ≤ 65535)) ∧ (1 ≤ k ∧ k ≤ 65535)
  omega

end Go.Abs
