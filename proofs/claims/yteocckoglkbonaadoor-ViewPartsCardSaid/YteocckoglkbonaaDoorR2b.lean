/- Lists of arrays of three and of four numbers. -/
import Derived.Test.YteocckoglkbonaaDoorR2
import Derived.Test.YteocckoglkbonaaDoorWT2
import Derived.Test.YteocckoglkbonaaDoorSA
set_option linter.unusedVariables false
set_option linter.unusedSimpArgs false
set_option maxRecDepth 100000
namespace Go.Abs
open Go.Proofs Go.ChangeShapes Go.WideShapes Go.RowKit
theorem u_a3_int : Tryd.prog.underlying 72 = some (.array 3 3) := by kernel_rfl
theorem ag_a3_int : (isAgg Tryd.prog 72 == some true) = true := by kernel_rfl
abbrev I_a3_int (r : T_a3_int) : Prop := I3 r
theorem ty_a3_int {d : Nat} {cs : List AV} (h : HasTy Tryd.prog (d + 2) 72 cs) : ∃ r : T_a3_int, AV.agg cs = r.av ∧ I_a3_int r := by
  simp only [HasTy, u_a3_int] at h
  obtain ⟨ps, rfl, hn, hp⟩ := h
  obtain ⟨ns, h1, h2, h3⟩ := ty_ints (d := d) hp
  rw [hn] at h2
  match ns, h2 with
  | [a0, a1, a2], _ =>
    exact ⟨⟨a0, a1, a2⟩, by rw [h1]; rfl, ⟨h3 a0 (by simp), h3 a1 (by simp), h3 a2 (by simp)⟩⟩
theorem u_L_a3_int : Tryd.prog.underlying 63 = some (.slice 72) := by kernel_rfl
theorem ag_L_a3_int : (isAgg Tryd.prog 63 == some true) = false := by kernel_rfl
theorem ty_L_a3_int {d : Nat} {cs : List AV} (h : HasTy Tryd.prog (d + 3) 63 cs) : ∃ l : List T_a3_int, cs = [.sl .p (l.map T_a3_int.av)] ∧ (∀ y ∈ l, I_a3_int y) ∧ l.length ≤ maxLen := by
  simp only [HasTy, u_L_a3_int] at h
  obtain ⟨xs, rfl, hl, hx⟩ := h
  obtain ⟨l, rfl, h1⟩ := typed_list (f := T_a3_int.av) (Q := I_a3_int) (xs := xs) fun x hx' => by
    obtain ⟨cs, rfl, h2⟩ := hx x hx'
    obtain ⟨r, h3, h4⟩ := ty_a3_int (d := d) (by simpa only [HasTy] using h2)
    exact ⟨r, by simp [mkE, ag_a3_int, h3], h4⟩
  exact ⟨l, rfl, h1, by simpa using hl⟩
theorem u_a4_int : Tryd.prog.underlying 97 = some (.array 4 3) := by kernel_rfl
theorem ag_a4_int : (isAgg Tryd.prog 97 == some true) = true := by kernel_rfl
abbrev I_a4_int (r : T_a4_int) : Prop := I4 r
theorem ty_a4_int {d : Nat} {cs : List AV} (h : HasTy Tryd.prog (d + 2) 97 cs) : ∃ r : T_a4_int, AV.agg cs = r.av ∧ I_a4_int r := by
  simp only [HasTy, u_a4_int] at h
  obtain ⟨ps, rfl, hn, hp⟩ := h
  obtain ⟨ns, h1, h2, h3⟩ := ty_ints (d := d) hp
  rw [hn] at h2
  match ns, h2 with
  | [a0, a1, a2, a3], _ =>
    exact ⟨⟨a0, a1, a2, a3⟩, by rw [h1]; rfl, ⟨h3 a0 (by simp), h3 a1 (by simp), h3 a2 (by simp), h3 a3 (by simp)⟩⟩
theorem u_L_a4_int : Tryd.prog.underlying 48 = some (.slice 97) := by kernel_rfl
theorem ag_L_a4_int : (isAgg Tryd.prog 48 == some true) = false := by kernel_rfl
theorem ty_L_a4_int {d : Nat} {cs : List AV} (h : HasTy Tryd.prog (d + 3) 48 cs) : ∃ l : List T_a4_int, cs = [.sl .p (l.map T_a4_int.av)] ∧ (∀ y ∈ l, I_a4_int y) ∧ l.length ≤ maxLen := by
  simp only [HasTy, u_L_a4_int] at h
  obtain ⟨xs, rfl, hl, hx⟩ := h
  obtain ⟨l, rfl, h1⟩ := typed_list (f := T_a4_int.av) (Q := I_a4_int) (xs := xs) fun x hx' => by
    obtain ⟨cs, rfl, h2⟩ := hx x hx'
    obtain ⟨r, h3, h4⟩ := ty_a4_int (d := d) (by simpa only [HasTy] using h2)
    exact ⟨r, by simp [mkE, ag_a4_int, h3], h4⟩
  exact ⟨l, rfl, h1, by simpa using hl⟩
end Go.Abs
