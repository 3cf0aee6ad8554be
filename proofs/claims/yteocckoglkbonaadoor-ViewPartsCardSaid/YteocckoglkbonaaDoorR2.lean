/- What the rows of this seat want: the variable; lists of arrays of numbers. -/
import Derived.Test.YteocckoglkbonaaDoorR1
import Derived.Test.YteocckoglkbonaaDoorKX
import Derived.Test.YteocckoglkbonaaDoorRows
import Derived.LaidMore
set_option linter.unusedVariables false
set_option linter.unusedSimpArgs false
set_option maxRecDepth 100000
namespace Go.Abs
open Go.Proofs Go.ChangeShapes Go.WideShapes Go.RowKit

abbrev laidG : List (String × DataW Unit) := [("omnibus/ident.greatest", YteocckoglkbonaaDoor.Rows.laid_omnibus_ident_greatest)]
theorem gIdent : Tryd.prog.globalNamed "omnibus/ident.greatest" = some 0 := by kernel_rfl
theorem tIdent : (Tryd.prog.globals[0]?).map (·.type) = some 157 := by kernel_rfl
theorem uIdent : Tryd.prog.underlying 157 = some (.array 2 3) := by kernel_rfl
theorem uInt : Tryd.prog.underlying 3 = some (.int .i64) := by kernel_rfl
theorem cIdent : Tryd.prog.cellsOf 157 = 2 := by kernel_rfl
theorem cInt : Tryd.prog.cellsOf 3 = 1 := by kernel_rfl

theorem envT_of_laid {W : World} (h : laidMetH Tryd.prog laidG W) : EnvT W := by
  have h' : laidMet Tryd.prog laidG W := h
  obtain ⟨ps, ⟨g0, t0, cs0, f0, p0, q0, hg0, ht0, hv0, hd0, _, _⟩, _, _⟩ := h'
  obtain rfl := Option.some.inj (gIdent.symm.trans hg0)
  obtain rfl := Option.some.inj (tIdent.symm.trans ht0)
  obtain ⟨xs, m, rfl, hx, hlen, hn, hel⟩ := DataW.trod_array uIdent hd0
  rw [cIdent] at hlen
  have h0 := hel 0 (by decide)
  have h1 := hel 1 (by decide)
  rw [cInt] at h0 h1
  match xs, hn, hx, h0, h1 with
  | [x0, x1], _, hx, h0, h1 =>
    obtain ⟨n0, e0, g0, _⟩ := DataW.trod_int uInt (show DataW.trod _ Tryd.prog W 0 _ _ m 3 _ = some x0 from h0)
    obtain ⟨n1, e1, g1, _⟩ := DataW.trod_int uInt (show DataW.trod _ Tryd.prog W 0 _ _ m 3 _ = some x1 from h1)
    subst g0 g1
    simp only [Prod.mk.injEq, YteocckoglkbonaaDoor.Rows.laid_omnibus_ident_greatest, List.map_cons, List.map_nil, DataW.agg.injEq, List.cons.injEq, DataW.lit.injEq, Lit.int.injEq, true_and, and_true] at hx
    obtain ⟨⟨rfl, rfl⟩, _⟩ := hx
    have c0 := World.var?_cell hg0 hv0 0
    have c1 := World.var?_cell hg0 hv0 1
    obtain ⟨l⟩ := cs0
    match l, hlen with
    | [a, b], _ =>
      simp at e0 e1
      subst e0 e1
      exact ⟨by simpa using c0, by simpa using c1⟩

theorem door_met (os : Os) (args : Array Value) : laidMetH Tryd.prog laidG ((World.doorLaid Tryd.prog 400 os).forCall (fun _ _ => 0) ⟨#[], args, []⟩).memory :=
  laidMetH_of_parts3 (fuel := 8) (laidMet_of_run' 8 (by kernel_rfl) (by kernel_rfl)) (by kernel_rfl) (by kernel_rfl)
theorem ownT : ownKnob Tryd.prog.godebug = none := by kernel_rfl
theorem laidOutT : laidOutB Tryd.prog = true := by kernel_rfl
theorem uBool : Tryd.prog.underlying 4 = some .bool := by kernel_rfl

/-- A typed list out of its elements' abstract values. -/
theorem typed_list {α : Type} {f : α → AV} {Q : α → Prop} : ∀ {xs : List AV}, (∀ x ∈ xs, ∃ y, x = f y ∧ Q y) → ∃ l : List α, xs = l.map f ∧ ∀ y ∈ l, Q y := by
  intro xs
  induction xs with
  | nil => intro _; exact ⟨[], rfl, by simp⟩
  | cons x xs ih =>
    intro h
    obtain ⟨y, rfl, hy⟩ := h x (by simp)
    obtain ⟨l, rfl, hl⟩ := ih fun z hz => h z (by simp [hz])
    exact ⟨y :: l, rfl, fun z hz => by rcases List.mem_cons.1 hz with rfl | hz; exact hy; exact hl z hz⟩

theorem ty_int {d : Nat} {cs : List AV} (h : HasTy Tryd.prog (d + 1) 3 cs) : ∃ n, cs = [.int .i64 n] ∧ I64 n := by
  simp only [HasTy, uInt] at h
  obtain ⟨n, rfl, hw⟩ := h
  exact ⟨n, rfl, bounds_i64 hw⟩
theorem ty_ints {d : Nat} : ∀ {ps : List (List AV)}, (∀ p ∈ ps, HasTy Tryd.prog (d + 1) 3 p) → ∃ ns : List Int, ps.flatten = ns.map (AV.int .i64) ∧ ns.length = ps.length ∧ ∀ n ∈ ns, I64 n := by
  intro ps
  induction ps with
  | nil => intro _; exact ⟨[], rfl, rfl, by simp⟩
  | cons p ps ih =>
    intro h
    obtain ⟨n, rfl, hn⟩ := ty_int (h p (by simp))
    obtain ⟨ns, h1, h2, h3⟩ := ih fun q hq => h q (by simp [hq])
    exact ⟨n :: ns, by simp [h1], by simp [h2], fun m hm => by rcases List.mem_cons.1 hm with rfl | hm; exact hn; exact h3 m hm⟩

theorem ag3 : (isAgg Tryd.prog 3 == some true) = false := by kernel_rfl
theorem u_a6_int : Tryd.prog.underlying 37 = some (.array 6 3) := by kernel_rfl
theorem ag_a6_int : (isAgg Tryd.prog 37 == some true) = true := by kernel_rfl
abbrev I_a6_int (r : T_a6_int) : Prop := I6 r
theorem ty_a6_int {d : Nat} {cs : List AV} (h : HasTy Tryd.prog (d + 2) 37 cs) : ∃ r : T_a6_int, AV.agg cs = r.av ∧ I_a6_int r := by
  simp only [HasTy, u_a6_int] at h
  obtain ⟨ps, rfl, hn, hp⟩ := h
  obtain ⟨ns, h1, h2, h3⟩ := ty_ints (d := d) hp
  rw [hn] at h2
  match ns, h2 with
  | [a0, a1, a2, a3, a4, a5], _ =>
    exact ⟨⟨a0, a1, a2, a3, a4, a5⟩, by rw [h1]; rfl, ⟨h3 a0 (by simp), h3 a1 (by simp), h3 a2 (by simp), h3 a3 (by simp), h3 a4 (by simp), h3 a5 (by simp)⟩⟩
theorem u_L_a6_int : Tryd.prog.underlying 22 = some (.slice 37) := by kernel_rfl
theorem ag_L_a6_int : (isAgg Tryd.prog 22 == some true) = false := by kernel_rfl
theorem ty_L_a6_int {d : Nat} {cs : List AV} (h : HasTy Tryd.prog (d + 3) 22 cs) : ∃ l : List T_a6_int, cs = [.sl .p (l.map T_a6_int.av)] ∧ (∀ y ∈ l, I_a6_int y) ∧ l.length ≤ maxLen := by
  simp only [HasTy, u_L_a6_int] at h
  obtain ⟨xs, rfl, hl, hx⟩ := h
  obtain ⟨l, rfl, h1⟩ := typed_list (f := T_a6_int.av) (Q := I_a6_int) (xs := xs) fun x hx' => by
    obtain ⟨cs, rfl, h2⟩ := hx x hx'
    obtain ⟨r, h3, h4⟩ := ty_a6_int (d := d) (by simpa only [HasTy] using h2)
    exact ⟨r, by simp [mkE, ag_a6_int, h3], h4⟩
  exact ⟨l, rfl, h1, by simpa using hl⟩
end Go.Abs
