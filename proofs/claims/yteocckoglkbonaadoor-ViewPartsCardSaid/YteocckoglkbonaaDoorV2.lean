/- Walks, printed by program. -/
import Derived.Test.YteocckoglkbonaaDoorS8
import Derived.Test.YteocckoglkbonaaDoorV1
import Derived.Test.YteocckoglkbonaaDoorW6a
set_option linter.unusedVariables false
set_option linter.unusedSimpArgs false
set_option maxRecDepth 100000
namespace Go.Abs
open Go.Proofs
variable {E : Env} {C : C0}
/-! ### slices.Index[[]int,int] -/
theorem fn_slices_Index_int : Tryd.prog.funcs[115]? = some Tryd.f115 := by kernel_rfl
def slices_Index_int_at0 (C : C0) (a0 : (List Int)) (a1 : Int) (rows : List Ob) (r : AV) : Prop := Goes Tryd.prog C 115 [.code (bodyOf Tryd.prog 115)] ([(AV.sl .p (a0.map (AV.int .i64))), (AV.int .i64 a1)] ++ junks 17) [] rows r
def slices_Index_int_at1 (C : C0) (v0 : (List Int)) (v1 : Int) (v2 : Int) (v3 : Int) (rows : List Ob) (r : AV) : Prop := Goes Tryd.prog C 115 (ctl 7 [.code (bodyOf Tryd.prog 115)] []) (([(AV.sl .p (v0.map (AV.int .i64))), (AV.int .i64 v1), AV.junk, AV.junk, AV.junk, AV.junk, AV.junk, (AV.int .i64 v2), (AV.int .i64 v3)] ++ junks 10)) [] rows r
theorem slices_Index_int_wp0 (X : Ctx E) (hB : Base Tryd.prog E C) (a0 : (List Int)) (a1 : Int) {rows : List Ob} {r : AV} (h : (slices_Index_int_at1 C a0 a1 (a0.length : Int) 0 rows r)) : slices_Index_int_at0 C a0 a1 rows r := by
  unfold slices_Index_int_at0
  refine goes_cut hB (n := 7) (scr := [(8, .v (AV.int .i64 (a0.length : Int)))]) (live := [0, 1, 7, 8]) (keep := []) (todo' := (ctl 7 [.code (bodyOf Tryd.prog 115)] [])) (ts' := ([(AV.sl .p (a0.map (AV.int .i64))), (AV.int .i64 a1), AV.junk, AV.junk, AV.junk, AV.junk, AV.junk, (AV.int .i64 (a0.length : Int)), (AV.int .i64 0)] ++ junks 10)) (h' := []) (by kernel_rfl) (allc (len_raw (show (a0.map (AV.int .i64)) = (a0.map (AV.int .i64)) from rfl)) alln) (goes_eqS rfl rfl h)
theorem slices_Index_int_wp1 (X : Ctx E) (hB : Base Tryd.prog E C) (v0 : (List Int)) (v1 : Int) (v2 : Int) (v3 : Int) {rows : List Ob} {r : AV} (h : ((v3 < v2 → ∃ y2 : Int, 0 ≤ (v3 : Int) ∧ v0[v3.toNat]? = some y2 ∧ ((v1 = y2 → (rows = [] ∧ r = (AV.int .i64 v3))) ∧ (¬ (v1 = y2) → ((-9223372036854775808) ≤ (v3 + 1) ∧ (v3 + 1) ≤ 9223372036854775807) ∧ (slices_Index_int_at1 C v0 v1 v2 (v3 + 1) rows r)))) ∧ (¬ (v3 < v2) → (rows = [] ∧ r = (AV.int .i64 (-1)))))) : slices_Index_int_at1 C v0 v1 v2 v3 rows r := by
  unfold slices_Index_int_at1
  rcases Classical.em (v3 < v2) with hc1 | hc1
  · have h := h.1 hc1
    obtain ⟨y2, hg3, he4, h⟩ := h
    rcases Classical.em (v1 = y2) with hc5 | hc5
    · have h := h.1 hc5
      obtain ⟨h1, h2⟩ := h
      refine goes_eqR (h1.trans rfl) (h2.trans rfl) ((goes_ret (rows := []) (r := (AV.int .i64 v3)) hB fn_slices_Index_int (rv := [.tmp 4]) (by kernel_rfl) (n := 14) (scr := [(3, .b true), (20, .e (AV.int .i64 y2)), (28, .b true)]) (keep := []) (by kernel_rfl) (allc (ieqT hc5) (allc (And.intro hg3 (get_raw (show (v0.map (AV.int .i64)) = (v0.map (AV.int .i64)) from rfl) he4)) (allc (decide_eq_true hc1) alln)))))
    · have h := h.2 hc5
      obtain ⟨hg6, h⟩ := h
      refine goes_cut hB (n := 16) (scr := [(3, .b true), (20, .e (AV.int .i64 y2)), (28, .b false), (31, .v (AV.int .i64 (v3 + 1)))]) (live := [0, 1, 7, 8]) (keep := []) (todo' := (ctl 7 [.code (bodyOf Tryd.prog 115)] [])) (ts' := ([(AV.sl .p (v0.map (AV.int .i64))), (AV.int .i64 v1), AV.junk, AV.junk, AV.junk, AV.junk, AV.junk, (AV.int .i64 v2), (AV.int .i64 (v3 + 1))] ++ junks 10)) (h' := []) (by kernel_rfl) (allc (wrap_i64 hg6) (allc (ieqF hc5) (allc (And.intro hg3 (get_raw (show (v0.map (AV.int .i64)) = (v0.map (AV.int .i64)) from rfl) he4)) (allc (decide_eq_true hc1) alln)))) (goes_eqS rfl rfl h)
  · have h := h.2 hc1
    obtain ⟨h1, h2⟩ := h
    refine goes_eqR (h1.trans rfl) (h2.trans rfl) ((goes_ret (rows := []) (r := (AV.int .i64 (-1))) hB fn_slices_Index_int (rv := [.tmp 4]) (by kernel_rfl) (n := 7) (scr := [(3, .b false)]) (keep := []) (by kernel_rfl) (allc (decide_eq_false hc1) alln)))
theorem slices_Index_int_calls (X : Ctx E) (a0 : (List Int)) (a1 : Int) {rows : List Ob} {r : AV} (h : ∀ C, Base Tryd.prog E C → slices_Index_int_at0 C a0 a1 rows r) : ACalls Tryd.prog E 115 [(AV.sl .p (a0.map (AV.int .i64))), (AV.int .i64 a1)] rows r :=
  acalls_of_goes X.env X.good fn_slices_Index_int (c := bodyOf Tryd.prog 115) (by kernel_rfl) (by kernel_rfl) (m := 17) (by kernel_rfl) h
theorem slices_Index_int_loop (X : Ctx E) (hB : Base Tryd.prog E C) (l : List Int) (x : Int) (hl : l.length ≤ 4611686018427387904) : ∀ (k i : Nat), l.length - i = k → i ≤ l.length → (∀ j y, j < i → l[j]? = some y → y ≠ x) → slices_Index_int_at1 C l x (l.length : Int) (i : Int) [] (AV.int .i64 (idxS (fun y => decide (y = x)) l)) := by
  intro k
  induction k with
  | zero =>
    intro i h1 h2 h3
    refine slices_Index_int_wp1 X hB _ _ _ _ ⟨fun h => by omega, fun _ => ⟨rfl, ?_⟩⟩
    rw [idxS_none (fun j y hy => by simpa using h3 j y (by have := (List.getElem?_eq_some_iff.1 hy).1; omega) hy)]
  | succ k ih =>
    intro i h1 h2 h3
    have hi : i < l.length := by omega
    refine slices_Index_int_wp1 X hB _ _ _ _ ⟨fun h => ⟨l[i], by omega, by simp [hi], fun he => ⟨rfl, ?_⟩, fun hne => ⟨by omega, ?_⟩⟩, fun h => by omega⟩
    · rw [idxS_some hi (by simp [← he]) (fun j hj y hy => by simpa using h3 j y hj hy)]
    · refine ih (i + 1) (by omega) (by omega) (fun j y hj hy => ?_)
      by_cases hji : j < i
      · exact h3 j y hji hy
      · have : j = i := by omega
        subst this
        simp [hi] at hy; subst hy; exact fun e => hne e.symm
theorem c_slices_Index_int (X : Ctx E) (a0 : List Int) (a1 : Int) (h0 : a0.length ≤ 4611686018427387904) : ACalls Tryd.prog E n_slices_Index_int [(AV.sl .p (a0.map (AV.int .i64))), (AV.int .i64 a1)] [] (AV.int .i64 (idxS (fun y => decide (y = a1)) a0)) :=
  slices_Index_int_calls X a0 a1 fun C hB => slices_Index_int_wp0 X hB a0 a1 (slices_Index_int_loop X hB a0 a1 h0 a0.length 0 (by omega) (by omega) (fun j y hj => by omega))

/-! ### omnibus/entry.odd -/
theorem fn_entry_odd : Tryd.prog.funcs[119]? = some Tryd.f119 := by kernel_rfl
def entry_odd_at0 (C : C0) (a0 : Int) (rows : List Ob) (r : AV) : Prop := Goes Tryd.prog C 119 [.code (bodyOf Tryd.prog 119)] ([(AV.int .i64 a0)] ++ junks 8) [] rows r
theorem entry_odd_wp0 (X : Ctx E) (hB : Base Tryd.prog E C) (a0 : Int) {rows : List Ob} {r : AV} (h : ((a0 < 1 → (rows = [] ∧ r = (AV.bool true))) ∧ (¬ (a0 < 1) → (rows = [] ∧ r = (AV.bool (decide (a0 > 65535))))))) : entry_odd_at0 C a0 rows r := by
  unfold entry_odd_at0
  rcases Classical.em (a0 < 1) with hc1 | hc1
  · have h := h.1 hc1
    obtain ⟨h1, h2⟩ := h
    refine goes_eqR (h1.trans rfl) (h2.trans rfl) ((goes_ret (rows := []) (r := (AV.bool true)) hB fn_entry_odd (rv := [.tmp 2]) (by kernel_rfl) (n := 4) (scr := [(12, .b true), (15, .b true), (19, .b true)]) (keep := []) (by kernel_rfl) (allc (decide_eq_true hc1) (allc (decide_eq_true hc1) (allc (decide_eq_true hc1) alln)))))
  · have h := h.2 hc1
    obtain ⟨h1, h2⟩ := h
    refine goes_eqR (h1.trans rfl) (h2.trans rfl) ((goes_ret (rows := []) (r := (AV.bool (decide (a0 > 65535)))) hB fn_entry_odd (rv := [.tmp 2]) (by kernel_rfl) (n := 4) (scr := [(12, .b false), (15, .b false), (19, .b false)]) (keep := []) (by kernel_rfl) (allc (decide_eq_false hc1) (allc (decide_eq_false hc1) (allc (decide_eq_false hc1) alln)))))
theorem entry_odd_calls (X : Ctx E) (a0 : Int) {rows : List Ob} {r : AV} (h : ∀ C, Base Tryd.prog E C → entry_odd_at0 C a0 rows r) : ACalls Tryd.prog E 119 [(AV.int .i64 a0)] rows r :=
  acalls_of_goes X.env X.good fn_entry_odd (c := bodyOf Tryd.prog 119) (by kernel_rfl) (by kernel_rfl) (m := 8) (by kernel_rfl) h
theorem c_entry_odd (X : Ctx E) (a0 : Int)  : ACalls Tryd.prog E n_entry_odd [(AV.int .i64 a0)] [] (AV.bool (oddS a0)) :=
  entry_odd_calls X a0 fun C hB => entry_odd_wp0 X hB a0 ⟨fun h => ⟨rfl, by congr 1; simp [oddS, smallS]; omega⟩, fun h => ⟨rfl, by congr 1; simp only [oddS, smallS]; rw [← decide_not]; exact decide_eq_decide.2 (by omega)⟩⟩

/-! ### slices.IndexFunc[[]int,int] -/
theorem fn_slices_IndexFunc_int : Tryd.prog.funcs[143]? = some Tryd.f143 := by kernel_rfl
def slices_IndexFunc_int_at0 (C : C0) (a0 : (List Int)) (rows : List Ob) (r : AV) : Prop := Goes Tryd.prog C 143 [.code (bodyOf Tryd.prog 143)] ([(AV.sl .p (a0.map (AV.int .i64))), (AV.fn 119 [])] ++ junks 17) [] rows r
def slices_IndexFunc_int_at1 (C : C0) (v0 : (List Int)) (v1 : Int) (v2 : Int) (rows : List Ob) (r : AV) : Prop := Goes Tryd.prog C 143 (ctl 7 [.code (bodyOf Tryd.prog 143)] []) (([(AV.sl .p (v0.map (AV.int .i64))), (AV.fn 119 []), AV.junk, AV.junk, AV.junk, AV.junk, AV.junk, (AV.int .i64 v1), (AV.int .i64 v2)] ++ junks 10)) [] rows r
theorem slices_IndexFunc_int_wp0 (X : Ctx E) (hB : Base Tryd.prog E C) (a0 : (List Int)) {rows : List Ob} {r : AV} (h : (slices_IndexFunc_int_at1 C a0 (a0.length : Int) 0 rows r)) : slices_IndexFunc_int_at0 C a0 rows r := by
  unfold slices_IndexFunc_int_at0
  refine goes_cut hB (n := 7) (scr := [(8, .v (AV.int .i64 (a0.length : Int)))]) (live := [0, 1, 7, 8]) (keep := []) (todo' := (ctl 7 [.code (bodyOf Tryd.prog 143)] [])) (ts' := ([(AV.sl .p (a0.map (AV.int .i64))), (AV.fn 119 []), AV.junk, AV.junk, AV.junk, AV.junk, AV.junk, (AV.int .i64 (a0.length : Int)), (AV.int .i64 0)] ++ junks 10)) (h' := []) (by kernel_rfl) (allc (len_raw (show (a0.map (AV.int .i64)) = (a0.map (AV.int .i64)) from rfl)) alln) (goes_eqS rfl rfl h)
theorem slices_IndexFunc_int_wp1 (X : Ctx E) (hB : Base Tryd.prog E C) (v0 : (List Int)) (v1 : Int) (v2 : Int) {rows : List Ob} {r : AV} (h : ((v2 < v1 → ∃ y2 : Int, 0 ≤ (v2 : Int) ∧ v0[v2.toNat]? = some y2 ∧ (((oddS y2) = true → (rows = [] ∧ r = (AV.int .i64 v2))) ∧ (¬ ((oddS y2) = true) → ((-9223372036854775808) ≤ (v2 + 1) ∧ (v2 + 1) ≤ 9223372036854775807) ∧ (slices_IndexFunc_int_at1 C v0 v1 (v2 + 1) rows r)))) ∧ (¬ (v2 < v1) → (rows = [] ∧ r = (AV.int .i64 (-1)))))) : slices_IndexFunc_int_at1 C v0 v1 v2 rows r := by
  unfold slices_IndexFunc_int_at1
  rcases Classical.em (v2 < v1) with hc1 | hc1
  · have h := h.1 hc1
    obtain ⟨y2, hg3, he4, h⟩ := h
    rcases Classical.em ((oddS y2) = true) with hc5 | hc5
    · have h := h.1 hc5
      obtain ⟨h1, h2⟩ := h
      refine goes_eqR (h1.trans rfl) (h2.trans rfl) ((goes_ret (rows := []) (r := (AV.int .i64 v2)) hB fn_slices_IndexFunc_int (rv := [.tmp 4]) (by kernel_rfl) (n := 14) (scr := [(3, .b true), (20, .e (AV.int .i64 y2)), (26, .cf [] (AV.bool (oddS y2))), (28, .b true)]) (keep := []) (by kernel_rfl) (allc hc5 (allc (c_entry_odd X y2) (allc (show rowsFlat [] from trivial) (allc (And.intro hg3 (get_raw (show (v0.map (AV.int .i64)) = (v0.map (AV.int .i64)) from rfl) he4)) (allc (decide_eq_true hc1) alln)))))))
    · have h := h.2 hc5
      obtain ⟨hg6, h⟩ := h
      refine goes_cut hB (n := 16) (scr := [(3, .b true), (20, .e (AV.int .i64 y2)), (26, .cf [] (AV.bool (oddS y2))), (28, .b false), (31, .v (AV.int .i64 (v2 + 1)))]) (live := [0, 1, 7, 8]) (keep := []) (todo' := (ctl 7 [.code (bodyOf Tryd.prog 143)] [])) (ts' := ([(AV.sl .p (v0.map (AV.int .i64))), (AV.fn 119 []), AV.junk, AV.junk, AV.junk, AV.junk, AV.junk, (AV.int .i64 v1), (AV.int .i64 (v2 + 1))] ++ junks 10)) (h' := []) (by kernel_rfl) (allc (wrap_i64 hg6) (allc (bF hc5) (allc (c_entry_odd X y2) (allc (show rowsFlat [] from trivial) (allc (And.intro hg3 (get_raw (show (v0.map (AV.int .i64)) = (v0.map (AV.int .i64)) from rfl) he4)) (allc (decide_eq_true hc1) alln)))))) (goes_eqS rfl rfl h)
  · have h := h.2 hc1
    obtain ⟨h1, h2⟩ := h
    refine goes_eqR (h1.trans rfl) (h2.trans rfl) ((goes_ret (rows := []) (r := (AV.int .i64 (-1))) hB fn_slices_IndexFunc_int (rv := [.tmp 4]) (by kernel_rfl) (n := 7) (scr := [(3, .b false)]) (keep := []) (by kernel_rfl) (allc (decide_eq_false hc1) alln)))
theorem slices_IndexFunc_int_calls (X : Ctx E) (a0 : (List Int)) {rows : List Ob} {r : AV} (h : ∀ C, Base Tryd.prog E C → slices_IndexFunc_int_at0 C a0 rows r) : ACalls Tryd.prog E 143 [(AV.sl .p (a0.map (AV.int .i64))), (AV.fn 119 [])] rows r :=
  acalls_of_goes X.env X.good fn_slices_IndexFunc_int (c := bodyOf Tryd.prog 143) (by kernel_rfl) (by kernel_rfl) (m := 17) (by kernel_rfl) h
theorem slices_IndexFunc_int_loop (X : Ctx E) (hB : Base Tryd.prog E C) (l : List Int) (hl : l.length ≤ 4611686018427387904) : ∀ (k i : Nat), l.length - i = k → i ≤ l.length → (∀ j y, j < i → l[j]? = some y → oddS y = false) → slices_IndexFunc_int_at1 C l (l.length : Int) (i : Int) [] (AV.int .i64 (idxS oddS l)) := by
  intro k
  induction k with
  | zero =>
    intro i h1 h2 h3
    refine slices_IndexFunc_int_wp1 X hB _ _ _ ⟨fun h => by omega, fun _ => ⟨rfl, ?_⟩⟩
    rw [idxS_none (fun j y hy => h3 j y (by have := (List.getElem?_eq_some_iff.1 hy).1; omega) hy)]
  | succ k ih =>
    intro i h1 h2 h3
    have hi : i < l.length := by omega
    refine slices_IndexFunc_int_wp1 X hB _ _ _ ⟨fun h => ⟨l[i], by omega, by simp [hi], fun he => ⟨rfl, ?_⟩, fun hne => ⟨by omega, ?_⟩⟩, fun h => by omega⟩
    · rw [idxS_some hi he (fun j hj y hy => h3 j y hj hy)]
    · refine ih (i + 1) (by omega) (by omega) (fun j y hj hy => ?_)
      by_cases hji : j < i
      · exact h3 j y hji hy
      · have : j = i := by omega
        subst this
        simp [hi] at hy; subst hy; exact bF hne
theorem c_slices_IndexFunc_int (X : Ctx E) (a0 : List Int) (h0 : a0.length ≤ 4611686018427387904) : ACalls Tryd.prog E n_slices_IndexFunc_int [(AV.sl .p (a0.map (AV.int .i64))), AV.fn n_entry_odd []] [] (AV.int .i64 (idxS oddS a0)) :=
  slices_IndexFunc_int_calls X a0 fun C hB => slices_IndexFunc_int_wp0 X hB a0 (slices_IndexFunc_int_loop X hB a0 h0 a0.length 0 (by omega) (by omega) (fun j y hj => by omega))

/-! ### slices.ContainsFunc[[]int,int] -/
theorem fn_slices_ContainsFunc_int : Tryd.prog.funcs[121]? = some Tryd.f121 := by kernel_rfl
def slices_ContainsFunc_int_at0 (C : C0) (a0 : (List Int)) (rows : List Ob) (r : AV) : Prop := Goes Tryd.prog C 121 [.code (bodyOf Tryd.prog 121)] ([(AV.sl .p (a0.map (AV.int .i64))), (AV.fn 119 [])] ++ junks 7) [] rows r
theorem slices_ContainsFunc_int_wp0 (X : Ctx E) (hB : Base Tryd.prog E C) (a0 : (List Int)) {rows : List Ob} {r : AV} (h : (a0.length ≤ 4611686018427387904) ∧ (rows = [] ∧ r = (AV.bool (decide ((idxS oddS a0) ≥ 0))))) : slices_ContainsFunc_int_at0 C a0 rows r := by
  unfold slices_ContainsFunc_int_at0
  obtain ⟨hg1, h⟩ := h
  obtain ⟨h1, h2⟩ := h
  refine goes_eqR (h1.trans rfl) (h2.trans rfl) ((goes_ret (rows := []) (r := (AV.bool (decide ((idxS oddS a0) ≥ 0)))) hB fn_slices_ContainsFunc_int (rv := [.tmp 4]) (by kernel_rfl) (n := 4) (scr := [(10, .cf [] (AV.int .i64 (idxS oddS a0)))]) (keep := []) (by kernel_rfl) (allc (c_slices_IndexFunc_int X a0 hg1) (allc (show rowsFlat [] from trivial) alln))))
theorem slices_ContainsFunc_int_calls (X : Ctx E) (a0 : (List Int)) {rows : List Ob} {r : AV} (h : ∀ C, Base Tryd.prog E C → slices_ContainsFunc_int_at0 C a0 rows r) : ACalls Tryd.prog E 121 [(AV.sl .p (a0.map (AV.int .i64))), (AV.fn 119 [])] rows r :=
  acalls_of_goes X.env X.good fn_slices_ContainsFunc_int (c := bodyOf Tryd.prog 121) (by kernel_rfl) (by kernel_rfl) (m := 7) (by kernel_rfl) h
theorem c_slices_ContainsFunc_int (X : Ctx E) (a0 : List Int) (h0 : a0.length ≤ 4611686018427387904) : ACalls Tryd.prog E n_slices_ContainsFunc_int [(AV.sl .p (a0.map (AV.int .i64))), AV.fn n_entry_odd []] [] (AV.bool (a0.any oddS)) :=
  slices_ContainsFunc_int_calls X a0 fun C hB => slices_ContainsFunc_int_wp0 X hB a0 ⟨h0, rfl, by rw [idx_any]⟩

/-! ### slices.Equal[[]int,int] -/
theorem fn_slices_Equal_int : Tryd.prog.funcs[113]? = some Tryd.f113 := by kernel_rfl
def slices_Equal_int_at0 (C : C0) (a0 : (List Int)) (a1 : (List Int)) (rows : List Ob) (r : AV) : Prop := Goes Tryd.prog C 113 [.code (bodyOf Tryd.prog 113)] ([(AV.sl .p (a0.map (AV.int .i64))), (AV.sl .p (a1.map (AV.int .i64)))] ++ junks 24) [] rows r
def slices_Equal_int_at1 (C : C0) (v0 : (List Int)) (v1 : (List Int)) (v2 : Int) (v3 : Int) (rows : List Ob) (r : AV) : Prop := Goes Tryd.prog C 113 (ctl 12 [.code (bodyOf Tryd.prog 113)] [false]) (([(AV.sl .p (v0.map (AV.int .i64))), (AV.sl .p (v1.map (AV.int .i64))), AV.junk, AV.junk, AV.junk, AV.junk, AV.junk, AV.junk, AV.junk, AV.junk, AV.junk, AV.junk, (AV.int .i64 v2), (AV.int .i64 v3)] ++ junks 12)) [] rows r
theorem slices_Equal_int_wp0 (X : Ctx E) (hB : Base Tryd.prog E C) (a0 : (List Int)) (a1 : (List Int)) {rows : List Ob} {r : AV} (h : (((a0.length : Int) = (a1.length : Int) → (slices_Equal_int_at1 C a0 a1 (a0.length : Int) 0 rows r)) ∧ (¬ ((a0.length : Int) = (a1.length : Int)) → (rows = [] ∧ r = (AV.bool false))))) : slices_Equal_int_at0 C a0 a1 rows r := by
  unfold slices_Equal_int_at0
  rcases Classical.em ((a0.length : Int) = (a1.length : Int)) with hc1 | hc1
  · have h := h.1 hc1
    refine goes_cut hB (n := 12) (scr := [(8, .v (AV.int .i64 (a0.length : Int))), (14, .v (AV.int .i64 (a1.length : Int))), (18, .b false), (24, .v (AV.int .i64 (a0.length : Int)))]) (live := [0, 1, 12, 13]) (keep := []) (todo' := (ctl 12 [.code (bodyOf Tryd.prog 113)] [false])) (ts' := ([(AV.sl .p (a0.map (AV.int .i64))), (AV.sl .p (a1.map (AV.int .i64))), AV.junk, AV.junk, AV.junk, AV.junk, AV.junk, AV.junk, AV.junk, AV.junk, AV.junk, AV.junk, (AV.int .i64 (a0.length : Int)), (AV.int .i64 0)] ++ junks 12)) (h' := []) (by kernel_rfl) (allc (len_raw (show (a0.map (AV.int .i64)) = (a0.map (AV.int .i64)) from rfl)) (allc (congrArg not (ieqT hc1)) (allc (len_raw (show (a1.map (AV.int .i64)) = (a1.map (AV.int .i64)) from rfl)) (allc (len_raw (show (a0.map (AV.int .i64)) = (a0.map (AV.int .i64)) from rfl)) alln)))) (goes_eqS rfl rfl h)
  · have h := h.2 hc1
    obtain ⟨h1, h2⟩ := h
    refine goes_eqR (h1.trans rfl) (h2.trans rfl) ((goes_ret (rows := []) (r := (AV.bool false)) hB fn_slices_Equal_int (rv := [.tmp 4]) (by kernel_rfl) (n := 8) (scr := [(8, .v (AV.int .i64 (a0.length : Int))), (14, .v (AV.int .i64 (a1.length : Int))), (18, .b true)]) (keep := []) (by kernel_rfl) (allc (congrArg not (ieqF hc1)) (allc (len_raw (show (a1.map (AV.int .i64)) = (a1.map (AV.int .i64)) from rfl)) (allc (len_raw (show (a0.map (AV.int .i64)) = (a0.map (AV.int .i64)) from rfl)) alln)))))
theorem slices_Equal_int_wp1 (X : Ctx E) (hB : Base Tryd.prog E C) (v0 : (List Int)) (v1 : (List Int)) (v2 : Int) (v3 : Int) {rows : List Ob} {r : AV} (h : ((v3 < v2 → ∃ y3 : Int, 0 ≤ (v3 : Int) ∧ v0[v3.toNat]? = some y3 ∧ ∃ y6 : Int, 0 ≤ (v3 : Int) ∧ v1[v3.toNat]? = some y6 ∧ ((y3 = y6 → ((-9223372036854775808) ≤ (v3 + 1) ∧ (v3 + 1) ≤ 9223372036854775807) ∧ (slices_Equal_int_at1 C v0 v1 v2 (v3 + 1) rows r)) ∧ (¬ (y3 = y6) → (rows = [] ∧ r = (AV.bool false))))) ∧ (¬ (v3 < v2) → (rows = [] ∧ r = (AV.bool true))))) : slices_Equal_int_at1 C v0 v1 v2 v3 rows r := by
  unfold slices_Equal_int_at1
  rcases Classical.em (v3 < v2) with hc2 | hc2
  · have h := h.1 hc2
    obtain ⟨y3, hg4, he5, h⟩ := h
    obtain ⟨y6, hg7, he8, h⟩ := h
    rcases Classical.em (y3 = y6) with hc9 | hc9
    · have h := h.1 hc9
      obtain ⟨hg10, h⟩ := h
      refine goes_cut hB (n := 16) (scr := [(3, .b true), (17, .e (AV.int .i64 y3)), (29, .e (AV.int .i64 y6)), (37, .b false), (40, .v (AV.int .i64 (v3 + 1)))]) (live := [0, 1, 12, 13]) (keep := []) (todo' := (ctl 12 [.code (bodyOf Tryd.prog 113)] [false])) (ts' := ([(AV.sl .p (v0.map (AV.int .i64))), (AV.sl .p (v1.map (AV.int .i64))), AV.junk, AV.junk, AV.junk, AV.junk, AV.junk, AV.junk, AV.junk, AV.junk, AV.junk, AV.junk, (AV.int .i64 v2), (AV.int .i64 (v3 + 1))] ++ junks 12)) (h' := []) (by kernel_rfl) (allc (wrap_i64 hg10) (allc (congrArg not (ieqT hc9)) (allc (And.intro hg7 (get_raw (show (v1.map (AV.int .i64)) = (v1.map (AV.int .i64)) from rfl) he8)) (allc (And.intro hg4 (get_raw (show (v0.map (AV.int .i64)) = (v0.map (AV.int .i64)) from rfl) he5)) (allc (decide_eq_true hc2) alln))))) (goes_eqS rfl rfl h)
    · have h := h.2 hc9
      obtain ⟨h1, h2⟩ := h
      refine goes_eqR (h1.trans rfl) (h2.trans rfl) ((goes_ret (rows := []) (r := (AV.bool false)) hB fn_slices_Equal_int (rv := [.tmp 4]) (by kernel_rfl) (n := 14) (scr := [(3, .b true), (17, .e (AV.int .i64 y3)), (29, .e (AV.int .i64 y6)), (37, .b true)]) (keep := []) (by kernel_rfl) (allc (congrArg not (ieqF hc9)) (allc (And.intro hg7 (get_raw (show (v1.map (AV.int .i64)) = (v1.map (AV.int .i64)) from rfl) he8)) (allc (And.intro hg4 (get_raw (show (v0.map (AV.int .i64)) = (v0.map (AV.int .i64)) from rfl) he5)) (allc (decide_eq_true hc2) alln))))))
  · have h := h.2 hc2
    obtain ⟨h1, h2⟩ := h
    refine goes_eqR (h1.trans rfl) (h2.trans rfl) ((goes_ret (rows := []) (r := (AV.bool true)) hB fn_slices_Equal_int (rv := [.tmp 4]) (by kernel_rfl) (n := 7) (scr := [(3, .b false)]) (keep := []) (by kernel_rfl) (allc (decide_eq_false hc2) alln)))
theorem slices_Equal_int_calls (X : Ctx E) (a0 : (List Int)) (a1 : (List Int)) {rows : List Ob} {r : AV} (h : ∀ C, Base Tryd.prog E C → slices_Equal_int_at0 C a0 a1 rows r) : ACalls Tryd.prog E 113 [(AV.sl .p (a0.map (AV.int .i64))), (AV.sl .p (a1.map (AV.int .i64)))] rows r :=
  acalls_of_goes X.env X.good fn_slices_Equal_int (c := bodyOf Tryd.prog 113) (by kernel_rfl) (by kernel_rfl) (m := 24) (by kernel_rfl) h
theorem slices_Equal_int_loop (X : Ctx E) (hB : Base Tryd.prog E C) (a b : List Int) (hl : a.length ≤ 4611686018427387904) (he : a.length = b.length) : ∀ (k i : Nat), a.length - i = k → i ≤ a.length → (∀ j, j < i → a[j]? = b[j]?) → slices_Equal_int_at1 C a b (a.length : Int) (i : Int) [] (AV.bool (@decide (a = b) (Classical.propDecidable _))) := by
  intro k
  induction k with
  | zero =>
    intro i h1 h2 h3
    have hi : i = a.length := by omega
    refine slices_Equal_int_wp1 X hB _ _ _ _ ⟨fun h => by omega, fun _ => ⟨rfl, ?_⟩⟩
    rw [pdecT]
    refine List.ext_getElem? (fun j => ?_)
    by_cases hj : j < i
    · exact h3 j hj
    · rw [List.getElem?_eq_none (by omega), List.getElem?_eq_none (by omega)]
  | succ k ih =>
    intro i h1 h2 h3
    have hi : i < a.length := by omega
    have hi2 : i < b.length := by omega
    refine slices_Equal_int_wp1 X hB _ _ _ _ ⟨fun h => ⟨a[i], by omega, by simp [hi], b[i], by omega, by simp [hi2], fun he => ⟨by omega, ?_⟩, fun hne => ⟨rfl, ?_⟩⟩, fun h => by omega⟩
    · refine ih (i + 1) (by omega) (by omega) (fun j hj => ?_)
      by_cases hji : j < i
      · exact h3 j hji
      · have : j = i := by omega
        subst this; simp [hi, hi2, he]
    · rw [pdecF]
      intro e; subst e; exact hne rfl
theorem c_slices_Equal_int (X : Ctx E) (a0 a1 : List Int) (h0 : a0.length ≤ 4611686018427387904) : ACalls Tryd.prog E n_slices_Equal_int [(AV.sl .p (a0.map (AV.int .i64))), (AV.sl .p (a1.map (AV.int .i64)))] [] (AV.bool (@decide (a0 = a1) (Classical.propDecidable _))) :=
  slices_Equal_int_calls X a0 a1 fun C hB => slices_Equal_int_wp0 X hB a0 a1 ⟨fun h => slices_Equal_int_loop X hB a0 a1 h0 (by omega) a0.length 0 (by omega) (by omega) (fun j hj => by omega), fun h => ⟨rfl, by rw [pdecF]; intro e; subst e; exact h rfl⟩⟩

/-! ### omnibus/entry.Inc -/
theorem fn_entry_Inc : Tryd.prog.funcs[75]? = some Tryd.f75 := by kernel_rfl
def entry_Inc_at0 (C : C0) (a0 : T_Entry) (a1 : Int) (rows : List Ob) (r : AV) : Prop := Goes Tryd.prog C 75 [.code (bodyOf Tryd.prog 75)] ([(AV.agg [(AV.int .i64 a0.Term), (AV.int .i64 a0.Epoch), (AV.int .i64 a0.Members), (AV.sl .p (a0.Incs.map (AV.int .i64))), (AV.sl .p (a0.Msgs.map T_Message.av))]), (AV.int .i64 a1)] ++ junks 27) [] rows r
theorem entry_Inc_wp0 (X : Ctx E) (hB : Base Tryd.prog E C) (a0 : T_Entry) (a1 : Int) {rows : List Ob} {r : AV} (h : ((listS a0.Members).length ≤ 4611686018427387904) ∧ (((idxS (fun y => decide (y = a1)) (listS a0.Members)) < 0 → (rows = [] ∧ r = (AV.tup [(AV.int .i64 0), (AV.bool false)]))) ∧ (¬ ((idxS (fun y => decide (y = a1)) (listS a0.Members)) < 0) → ((((listS a0.Members).length : Int) = (a0.Incs.length : Int) → ∃ y4 : Int, 0 ≤ ((idxS (fun y => decide (y = a1)) (listS a0.Members)) : Int) ∧ a0.Incs[(idxS (fun y => decide (y = a1)) (listS a0.Members)).toNat]? = some y4 ∧ (rows = [] ∧ r = (AV.tup [(AV.int .i64 y4), (AV.bool true)]))) ∧ (¬ (((listS a0.Members).length : Int) = (a0.Incs.length : Int)) → (rows = [] ∧ r = (AV.tup [(AV.int .i64 0), (AV.bool false)]))))))) : entry_Inc_at0 C a0 a1 rows r := by
  unfold entry_Inc_at0
  obtain ⟨hg1, h⟩ := h
  rcases Classical.em ((idxS (fun y => decide (y = a1)) (listS a0.Members)) < 0) with hc2 | hc2
  · have h := h.1 hc2
    obtain ⟨h1, h2⟩ := h
    refine goes_eqR (h1.trans rfl) (h2.trans rfl) ((goes_ret (rows := []) (r := (AV.tup [(AV.int .i64 0), (AV.bool false)])) hB fn_entry_Inc (rv := [.tmp 4, .tmp 5]) (by kernel_rfl) (n := 12) (scr := [(16, .cf [(Ob.row 3 1 ((listS a0.Members).map (AV.int .i64)))] (AV.own 0)), (28, .cf [] (AV.int .i64 (idxS (fun y => decide (y = a1)) (listS a0.Members)))), (42, .b true), (45, .b true), (48, .b true), (51, .b true), (54, .b true), (57, .b true), (61, .b true)]) (keep := []) (by kernel_rfl) (allc (decide_eq_true hc2) (allc (decide_eq_true hc2) (allc (decide_eq_true hc2) (allc (decide_eq_true hc2) (allc (decide_eq_true hc2) (allc (decide_eq_true hc2) (allc (decide_eq_true hc2) (allc (c_slices_Index_int X (listS a0.Members) a1 hg1) (allc (show rowsFlat [] from trivial) (allc (c_vec_List X a0.Members) (allc (show rowsFlat [(Ob.row 3 1 ((listS a0.Members).map (AV.int .i64)))] from ⟨flat_raw (show ((listS a0.Members).map (AV.int .i64)) = ((listS a0.Members).map (AV.int .i64)) from rfl) flat_int_i64, trivial⟩) alln)))))))))))))
  · have h := h.2 hc2
    rcases Classical.em (((listS a0.Members).length : Int) = (a0.Incs.length : Int)) with hc3 | hc3
    · have h := h.1 hc3
      obtain ⟨y4, hg5, he6, h⟩ := h
      obtain ⟨h1, h2⟩ := h
      refine goes_eqR (h1.trans rfl) (h2.trans rfl) ((goes_ret (rows := []) (r := (AV.tup [(AV.int .i64 y4), (AV.bool true)])) hB fn_entry_Inc (rv := [.tmp 4, .tmp 5]) (by kernel_rfl) (n := 13) (scr := [(16, .cf [(Ob.row 3 1 ((listS a0.Members).map (AV.int .i64)))] (AV.own 0)), (28, .cf [] (AV.int .i64 (idxS (fun y => decide (y = a1)) (listS a0.Members)))), (42, .b false), (45, .b false), (47, .v (AV.int .i64 ((listS a0.Members).length : Int))), (48, .b false), (51, .b false), (54, .b false), (56, .v (AV.int .i64 (a0.Incs.length : Int))), (57, .b false), (61, .b false), (63, .b false), (74, .e (AV.int .i64 y4))]) (keep := []) (by kernel_rfl) (allc (And.intro hg5 (get_raw (show (a0.Incs.map (AV.int .i64)) = (a0.Incs.map (AV.int .i64)) from rfl) he6)) (allc (congrArg not (ieqT hc3)) (allc (decide_eq_false hc2) (allc (decide_eq_false hc2) (allc (len_raw (show (a0.Incs.map (AV.int .i64)) = (a0.Incs.map (AV.int .i64)) from rfl)) (allc (decide_eq_false hc2) (allc (decide_eq_false hc2) (allc (decide_eq_false hc2) (allc (len_raw (show ((listS a0.Members).map (AV.int .i64)) = ((listS a0.Members).map (AV.int .i64)) from rfl)) (allc (decide_eq_false hc2) (allc (decide_eq_false hc2) (allc (c_slices_Index_int X (listS a0.Members) a1 hg1) (allc (show rowsFlat [] from trivial) (allc (c_vec_List X a0.Members) (allc (show rowsFlat [(Ob.row 3 1 ((listS a0.Members).map (AV.int .i64)))] from ⟨flat_raw (show ((listS a0.Members).map (AV.int .i64)) = ((listS a0.Members).map (AV.int .i64)) from rfl) flat_int_i64, trivial⟩) alln)))))))))))))))))
    · have h := h.2 hc3
      obtain ⟨h1, h2⟩ := h
      refine goes_eqR (h1.trans rfl) (h2.trans rfl) ((goes_ret (rows := []) (r := (AV.tup [(AV.int .i64 0), (AV.bool false)])) hB fn_entry_Inc (rv := [.tmp 4, .tmp 5]) (by kernel_rfl) (n := 12) (scr := [(16, .cf [(Ob.row 3 1 ((listS a0.Members).map (AV.int .i64)))] (AV.own 0)), (28, .cf [] (AV.int .i64 (idxS (fun y => decide (y = a1)) (listS a0.Members)))), (42, .b false), (45, .b false), (47, .v (AV.int .i64 ((listS a0.Members).length : Int))), (48, .b false), (51, .b false), (54, .b false), (56, .v (AV.int .i64 (a0.Incs.length : Int))), (57, .b false), (61, .b false), (63, .b true)]) (keep := []) (by kernel_rfl) (allc (congrArg not (ieqF hc3)) (allc (decide_eq_false hc2) (allc (decide_eq_false hc2) (allc (len_raw (show (a0.Incs.map (AV.int .i64)) = (a0.Incs.map (AV.int .i64)) from rfl)) (allc (decide_eq_false hc2) (allc (decide_eq_false hc2) (allc (decide_eq_false hc2) (allc (len_raw (show ((listS a0.Members).map (AV.int .i64)) = ((listS a0.Members).map (AV.int .i64)) from rfl)) (allc (decide_eq_false hc2) (allc (decide_eq_false hc2) (allc (c_slices_Index_int X (listS a0.Members) a1 hg1) (allc (show rowsFlat [] from trivial) (allc (c_vec_List X a0.Members) (allc (show rowsFlat [(Ob.row 3 1 ((listS a0.Members).map (AV.int .i64)))] from ⟨flat_raw (show ((listS a0.Members).map (AV.int .i64)) = ((listS a0.Members).map (AV.int .i64)) from rfl) flat_int_i64, trivial⟩) alln))))))))))))))))
theorem entry_Inc_calls (X : Ctx E) (a0 : T_Entry) (a1 : Int) {rows : List Ob} {r : AV} (h : ∀ C, Base Tryd.prog E C → entry_Inc_at0 C a0 a1 rows r) : ACalls Tryd.prog E 75 [(AV.agg [(AV.int .i64 a0.Term), (AV.int .i64 a0.Epoch), (AV.int .i64 a0.Members), (AV.sl .p (a0.Incs.map (AV.int .i64))), (AV.sl .p (a0.Msgs.map T_Message.av))]), (AV.int .i64 a1)] rows r :=
  acalls_of_goes X.env X.good fn_entry_Inc (c := bodyOf Tryd.prog 75) (by kernel_rfl) (by kernel_rfl) (m := 27) (by kernel_rfl) h
theorem c_entry_Inc (X : Ctx E) (a0 : T_Entry) (a1 : Int) : ACalls Tryd.prog E n_entry_Inc [a0.av, AV.int .i64 a1] [] (AV.tup [AV.int .i64 (incS a0 a1).1, AV.bool (incS a0 a1).2]) :=
  entry_Inc_calls X a0 a1 fun C hB => entry_Inc_wp0 X hB a0 a1 (by
    have hl := listS_length a0.Members
    refine ⟨by omega, fun h => ⟨rfl, ?_⟩, fun h => ⟨fun he => ?_, fun he => ⟨rfl, ?_⟩⟩⟩
    · rw [incS, if_neg (by omega)]
    · have hk := idx_range (by omega : 0 ≤ idxS (fun y => decide (y = a1)) (listS a0.Members))
      have hk2 : (idxS (fun y => decide (y = a1)) (listS a0.Members)).toNat < a0.Incs.length := by omega
      refine ⟨a0.Incs[(idxS (fun y => decide (y = a1)) (listS a0.Members)).toNat], by omega, by simp [hk2], rfl, ?_⟩
      rw [incS, if_pos (by omega)]
      simp [List.getD_eq_getElem?_getD, hk2]
    · rw [incS, if_neg (by omega)])

/-! ### omnibus/omnibusref06.small -/
theorem fn_ref06_small : Tryd.prog.funcs[110]? = some Tryd.f110 := by kernel_rfl
def ref06_small_at0 (C : C0) (a0 : Int) (rows : List Ob) (r : AV) : Prop := Goes Tryd.prog C 110 [.code (bodyOf Tryd.prog 110)] ([(AV.int .i64 a0)] ++ junks 8) [] rows r
theorem ref06_small_wp0 (X : Ctx E) (hB : Base Tryd.prog E C) (a0 : Int) {rows : List Ob} {r : AV} (h : ((a0 ≥ 1 → (rows = [] ∧ r = (AV.bool (decide (a0 ≤ 65535))))) ∧ (¬ (a0 ≥ 1) → (rows = [] ∧ r = (AV.bool false))))) : ref06_small_at0 C a0 rows r := by
  unfold ref06_small_at0
  rcases Classical.em (a0 ≥ 1) with hc1 | hc1
  · have h := h.1 hc1
    obtain ⟨h1, h2⟩ := h
    refine goes_eqR (h1.trans rfl) (h2.trans rfl) ((goes_ret (rows := []) (r := (AV.bool (decide (a0 ≤ 65535)))) hB fn_ref06_small (rv := [.tmp 2]) (by kernel_rfl) (n := 4) (scr := [(12, .b true), (15, .b true), (19, .b true)]) (keep := []) (by kernel_rfl) (allc (decide_eq_true hc1) (allc (decide_eq_true hc1) (allc (decide_eq_true hc1) alln)))))
  · have h := h.2 hc1
    obtain ⟨h1, h2⟩ := h
    refine goes_eqR (h1.trans rfl) (h2.trans rfl) ((goes_ret (rows := []) (r := (AV.bool false)) hB fn_ref06_small (rv := [.tmp 2]) (by kernel_rfl) (n := 4) (scr := [(12, .b false), (15, .b false), (19, .b false)]) (keep := []) (by kernel_rfl) (allc (decide_eq_false hc1) (allc (decide_eq_false hc1) (allc (decide_eq_false hc1) alln)))))
theorem ref06_small_calls (X : Ctx E) (a0 : Int) {rows : List Ob} {r : AV} (h : ∀ C, Base Tryd.prog E C → ref06_small_at0 C a0 rows r) : ACalls Tryd.prog E 110 [(AV.int .i64 a0)] rows r :=
  acalls_of_goes X.env X.good fn_ref06_small (c := bodyOf Tryd.prog 110) (by kernel_rfl) (by kernel_rfl) (m := 8) (by kernel_rfl) h
theorem c_ref06_small (X : Ctx E) (a0 : Int)  : ACalls Tryd.prog E n_ref06_small [(AV.int .i64 a0)] [] (AV.bool (smallS a0)) :=
  ref06_small_calls X a0 fun C hB => ref06_small_wp0 X hB a0 ⟨fun h => ⟨rfl, by congr 1; exact decide_eq_decide.2 (by omega)⟩, fun h => ⟨rfl, by congr 1; exact decide_eq_false (by omega)⟩⟩

/-! ### omnibus/omnibusref06.Inc -/
theorem fn_ref06_Inc : Tryd.prog.funcs[32]? = some Tryd.f32 := by kernel_rfl
def ref06_Inc_at0 (C : C0) (a0 : T_Entry) (a1 : Int) (rows : List Ob) (r : AV) : Prop := Goes Tryd.prog C 32 [.code (bodyOf Tryd.prog 32)] ([(AV.agg [(AV.int .i64 a0.Term), (AV.int .i64 a0.Epoch), (AV.int .i64 a0.Members), (AV.sl .p (a0.Incs.map (AV.int .i64))), (AV.sl .p (a0.Msgs.map T_Message.av))]), (AV.int .i64 a1)] ++ junks 32) [] rows r
def ref06_Inc_at1 (C : C0) (v0 : Int) (v1 : Int) (v2 : T_Entry) (v3 : (List Int)) (rows : List Ob) (r : AV) : Prop := Goes Tryd.prog C 32 (ctl 14 [.code (bodyOf Tryd.prog 32)] [false]) (([AV.junk, (AV.int .i64 v0), (AV.ptr 0 0), AV.junk, AV.junk, AV.junk, (AV.own 1), (AV.int .i64 v1)] ++ junks 26)) [(Ob.box 56 [(AV.int .i64 v2.Term), (AV.int .i64 v2.Epoch), (AV.int .i64 v2.Members), (AV.sl .p (v2.Incs.map (AV.int .i64))), (AV.sl .p (v2.Msgs.map T_Message.av))]), (Ob.row 3 1 (v3.map (AV.int .i64)))] rows r
theorem ref06_Inc_wp0 (X : Ctx E) (hB : Base Tryd.prog E C) (a0 : T_Entry) (a1 : Int) {rows : List Ob} {r : AV} (h : ((((listS a0.Members).length : Int) = (a0.Incs.length : Int) → (ref06_Inc_at1 C a1 0 a0 (listS a0.Members) rows r)) ∧ (¬ (((listS a0.Members).length : Int) = (a0.Incs.length : Int)) → (rows = [] ∧ r = (AV.tup [(AV.int .i64 0), (AV.bool false)]))))) : ref06_Inc_at0 C a0 a1 rows r := by
  unfold ref06_Inc_at0
  rcases Classical.em (((listS a0.Members).length : Int) = (a0.Incs.length : Int)) with hc1 | hc1
  · have h := h.1 hc1
    refine goes_cut hB (n := 14) (scr := [(16, .cf [(Ob.row 3 1 ((listS a0.Members).map (AV.int .i64)))] (AV.own 0)), (26, .v (AV.int .i64 ((listS a0.Members).length : Int))), (35, .v (AV.int .i64 (a0.Incs.length : Int))), (39, .b false)]) (live := [1, 2, 6, 7]) (keep := [0, 1]) (todo' := (ctl 14 [.code (bodyOf Tryd.prog 32)] [false])) (ts' := ([AV.junk, (AV.int .i64 a1), (AV.ptr 0 0), AV.junk, AV.junk, AV.junk, (AV.own 1), (AV.int .i64 0)] ++ junks 26)) (h' := [(Ob.box 56 [(AV.int .i64 a0.Term), (AV.int .i64 a0.Epoch), (AV.int .i64 a0.Members), (AV.sl .p (a0.Incs.map (AV.int .i64))), (AV.sl .p (a0.Msgs.map T_Message.av))]), (Ob.row 3 1 ((listS a0.Members).map (AV.int .i64)))]) (by kernel_rfl) (allc (congrArg not (ieqT hc1)) (allc (len_raw (show (a0.Incs.map (AV.int .i64)) = (a0.Incs.map (AV.int .i64)) from rfl)) (allc (len_raw (show ((listS a0.Members).map (AV.int .i64)) = ((listS a0.Members).map (AV.int .i64)) from rfl)) (allc (c_ref03_List X a0.Members) (allc (show rowsFlat [(Ob.row 3 1 ((listS a0.Members).map (AV.int .i64)))] from ⟨flat_raw (show ((listS a0.Members).map (AV.int .i64)) = ((listS a0.Members).map (AV.int .i64)) from rfl) flat_int_i64, trivial⟩) alln))))) (goes_eqS rfl rfl h)
  · have h := h.2 hc1
    obtain ⟨h1, h2⟩ := h
    refine goes_eqR (h1.trans rfl) (h2.trans rfl) ((goes_ret (rows := []) (r := (AV.tup [(AV.int .i64 0), (AV.bool false)])) hB fn_ref06_Inc (rv := [.tmp 4, .tmp 5]) (by kernel_rfl) (n := 10) (scr := [(16, .cf [(Ob.row 3 1 ((listS a0.Members).map (AV.int .i64)))] (AV.own 0)), (26, .v (AV.int .i64 ((listS a0.Members).length : Int))), (35, .v (AV.int .i64 (a0.Incs.length : Int))), (39, .b true)]) (keep := []) (by kernel_rfl) (allc (congrArg not (ieqF hc1)) (allc (len_raw (show (a0.Incs.map (AV.int .i64)) = (a0.Incs.map (AV.int .i64)) from rfl)) (allc (len_raw (show ((listS a0.Members).map (AV.int .i64)) = ((listS a0.Members).map (AV.int .i64)) from rfl)) (allc (c_ref03_List X a0.Members) (allc (show rowsFlat [(Ob.row 3 1 ((listS a0.Members).map (AV.int .i64)))] from ⟨flat_raw (show ((listS a0.Members).map (AV.int .i64)) = ((listS a0.Members).map (AV.int .i64)) from rfl) flat_int_i64, trivial⟩) alln)))))))
theorem ref06_Inc_wp1 (X : Ctx E) (hB : Base Tryd.prog E C) (v0 : Int) (v1 : Int) (v2 : T_Entry) (v3 : (List Int)) {rows : List Ob} {r : AV} (h : ((v1 < (v3.length : Int) → ((0 : Int) ≤ v1 ∧ (v1 : Int) < (v3.length : Int)) ∧ ∃ y4 : Int, 0 ≤ (v1 : Int) ∧ v3[v1.toNat]? = some y4 ∧ ((y4 = v0 → ∃ y8 : Int, 0 ≤ (v1 : Int) ∧ v2.Incs[v1.toNat]? = some y8 ∧ (rows = [] ∧ r = (AV.tup [(AV.int .i64 y8), (AV.bool true)]))) ∧ (¬ (y4 = v0) → ((-9223372036854775808) ≤ (v1 + 1) ∧ (v1 + 1) ≤ 9223372036854775807) ∧ (ref06_Inc_at1 C v0 (v1 + 1) v2 v3 rows r)))) ∧ (¬ (v1 < (v3.length : Int)) → (rows = [] ∧ r = (AV.tup [(AV.int .i64 0), (AV.bool false)]))))) : ref06_Inc_at1 C v0 v1 v2 v3 rows r := by
  unfold ref06_Inc_at1
  rcases Classical.em (v1 < (v3.length : Int)) with hc2 | hc2
  · have h := h.1 hc2
    obtain ⟨hg3, h⟩ := h
    obtain ⟨y4, hg5, he6, h⟩ := h
    rcases Classical.em (y4 = v0) with hc7 | hc7
    · have h := h.1 hc7
      obtain ⟨y8, hg9, he10, h⟩ := h
      obtain ⟨h1, h2⟩ := h
      refine goes_eqR (h1.trans rfl) (h2.trans rfl) ((goes_ret (rows := []) (r := (AV.tup [(AV.int .i64 y8), (AV.bool true)])) hB fn_ref06_Inc (rv := [.tmp 4, .tmp 5]) (by kernel_rfl) (n := 12) (scr := [(8, .v (AV.int .i64 (v3.length : Int))), (12, .b true), (23, .e (AV.int .i64 y4)), (31, .b true), (42, .e (AV.int .i64 y8))]) (keep := []) (by kernel_rfl) (allc (And.intro hg9 (get_raw (show (v2.Incs.map (AV.int .i64)) = (v2.Incs.map (AV.int .i64)) from rfl) he10)) (allc (ieqT hc7) (allc (get_raw (show (v3.map (AV.int .i64)) = (v3.map (AV.int .i64)) from rfl) he6) (allc (lt_raw (show (v3.map (AV.int .i64)) = (v3.map (AV.int .i64)) from rfl) hg3) (allc (decide_eq_true hc2) (allc (len_raw (show (v3.map (AV.int .i64)) = (v3.map (AV.int .i64)) from rfl)) alln))))))))
    · have h := h.2 hc7
      obtain ⟨hg11, h⟩ := h
      refine goes_cut hB (n := 14) (scr := [(8, .v (AV.int .i64 (v3.length : Int))), (12, .b true), (23, .e (AV.int .i64 y4)), (31, .b false), (37, .v (AV.int .i64 (v1 + 1)))]) (live := [1, 2, 6, 7]) (keep := [0, 1]) (todo' := (ctl 14 [.code (bodyOf Tryd.prog 32)] [false])) (ts' := ([AV.junk, (AV.int .i64 v0), (AV.ptr 0 0), AV.junk, AV.junk, AV.junk, (AV.own 1), (AV.int .i64 (v1 + 1))] ++ junks 26)) (h' := [(Ob.box 56 [(AV.int .i64 v2.Term), (AV.int .i64 v2.Epoch), (AV.int .i64 v2.Members), (AV.sl .p (v2.Incs.map (AV.int .i64))), (AV.sl .p (v2.Msgs.map T_Message.av))]), (Ob.row 3 1 (v3.map (AV.int .i64)))]) (by kernel_rfl) (allc (wrap_i64 hg11) (allc (ieqF hc7) (allc (get_raw (show (v3.map (AV.int .i64)) = (v3.map (AV.int .i64)) from rfl) he6) (allc (lt_raw (show (v3.map (AV.int .i64)) = (v3.map (AV.int .i64)) from rfl) hg3) (allc (decide_eq_true hc2) (allc (len_raw (show (v3.map (AV.int .i64)) = (v3.map (AV.int .i64)) from rfl)) alln)))))) (goes_eqS rfl rfl h)
  · have h := h.2 hc2
    obtain ⟨h1, h2⟩ := h
    refine goes_eqR (h1.trans rfl) (h2.trans rfl) ((goes_ret (rows := []) (r := (AV.tup [(AV.int .i64 0), (AV.bool false)])) hB fn_ref06_Inc (rv := [.tmp 4, .tmp 5]) (by kernel_rfl) (n := 7) (scr := [(8, .v (AV.int .i64 (v3.length : Int))), (12, .b false)]) (keep := []) (by kernel_rfl) (allc (decide_eq_false hc2) (allc (len_raw (show (v3.map (AV.int .i64)) = (v3.map (AV.int .i64)) from rfl)) alln))))
theorem ref06_Inc_calls (X : Ctx E) (a0 : T_Entry) (a1 : Int) {rows : List Ob} {r : AV} (h : ∀ C, Base Tryd.prog E C → ref06_Inc_at0 C a0 a1 rows r) : ACalls Tryd.prog E 32 [(AV.agg [(AV.int .i64 a0.Term), (AV.int .i64 a0.Epoch), (AV.int .i64 a0.Members), (AV.sl .p (a0.Incs.map (AV.int .i64))), (AV.sl .p (a0.Msgs.map T_Message.av))]), (AV.int .i64 a1)] rows r :=
  acalls_of_goes X.env X.good fn_ref06_Inc (c := bodyOf Tryd.prog 32) (by kernel_rfl) (by kernel_rfl) (m := 32) (by kernel_rfl) h
theorem ref06_Inc_loop (X : Ctx E) (hB : Base Tryd.prog E C) (e : T_Entry) (x : Int) (he : (listS e.Members).length = e.Incs.length) : ∀ (k i : Nat), (listS e.Members).length - i = k → i ≤ (listS e.Members).length → (∀ j y, j < i → (listS e.Members)[j]? = some y → y ≠ x) →
    ref06_Inc_at1 C x (i : Int) e (listS e.Members) [] (AV.tup [AV.int .i64 (incS e x).1, AV.bool (incS e x).2]) := by
  have hl := listS_length e.Members
  intro k
  induction k with
  | zero =>
    intro i h1 h2 h3
    refine ref06_Inc_wp1 X hB _ _ _ _ ⟨fun h => by omega, fun _ => ⟨rfl, ?_⟩⟩
    rw [incS, idxS_none (fun j y hy => by simpa using h3 j y (by have := (List.getElem?_eq_some_iff.1 hy).1; omega) hy), if_neg (by omega)]
  | succ k ih =>
    intro i h1 h2 h3
    have hi : i < (listS e.Members).length := by omega
    have hi2 : i < e.Incs.length := by omega
    refine ref06_Inc_wp1 X hB _ _ _ _ ⟨fun h => ⟨by omega, (listS e.Members)[i], by omega, by simp [hi], fun he' => ⟨e.Incs[i], by omega, by simp [hi2], rfl, ?_⟩, fun hne => ⟨by omega, ?_⟩⟩, fun h => by omega⟩
    · rw [incS, idxS_some hi (by simp [← he']) (fun j hj y hy => by simpa using h3 j y hj hy), if_pos ⟨he, by omega⟩]
      simp [List.getD_eq_getElem?_getD, hi2]
    · refine ih (i + 1) (by omega) (by omega) (fun j y hj hy => ?_)
      by_cases hji : j < i
      · exact h3 j y hji hy
      · have : j = i := by omega
        subst this
        simp [hi] at hy; subst hy; exact hne
theorem c_ref06_Inc (X : Ctx E) (a0 : T_Entry) (a1 : Int) : ACalls Tryd.prog E n_ref06_Inc [a0.av, AV.int .i64 a1] [] (AV.tup [AV.int .i64 (incS a0 a1).1, AV.bool (incS a0 a1).2]) :=
  ref06_Inc_calls X a0 a1 fun C hB => ref06_Inc_wp0 X hB a0 a1 ⟨fun h => ref06_Inc_loop X hB a0 a1 (by omega) (listS a0.Members).length 0 (by omega) (by omega) (fun j y hj => by omega), fun h => ⟨rfl, by rw [incS, if_neg (by omega)]⟩⟩
end Go.Abs
