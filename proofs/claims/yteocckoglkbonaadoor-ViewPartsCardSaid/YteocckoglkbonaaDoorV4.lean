/- Walks, printed by program. -/
import Derived.Test.YteocckoglkbonaaDoorV3
import Derived.Test.YteocckoglkbonaaDoorS9
set_option linter.unusedVariables false
set_option linter.unusedSimpArgs false
set_option maxRecDepth 100000
namespace Go.Abs
open Go.Proofs
variable {E : Env} {C : C0}
/-! ### omnibus/view.some -/
theorem fn_view_some : Tryd.prog.funcs[70]? = some Tryd.f70 := by kernel_rfl
def view_some_at0 (C : C0) (a0 : (List T_Entry)) (rows : List Ob) (r : AV) : Prop := Goes Tryd.prog C 70 [.code (bodyOf Tryd.prog 70)] ([(AV.sl .p (a0.map T_Entry.av))] ++ junks 6) [] rows r
theorem view_some_wp0 (X : Ctx E) (hB : Base Tryd.prog E C) (a0 : (List T_Entry)) {rows : List Ob} {r : AV} (h : (Small a0) ∧ (((logRight a0) = true → (rows = [] ∧ r = (AV.sl .p (a0.map T_Entry.av)))) ∧ (¬ ((logRight a0) = true) → (rows = [] ∧ r = (AV.sl .p []))))) : view_some_at0 C a0 rows r := by
  unfold view_some_at0
  obtain ⟨hg1, h⟩ := h
  rcases Classical.em ((logRight a0) = true) with hc2 | hc2
  · have h := h.1 hc2
    obtain ⟨h1, h2⟩ := h
    refine goes_eqR (h1.trans rfl) (h2.trans rfl) ((goes_ret (rows := []) (r := (AV.sl .p (a0.map T_Entry.av))) hB fn_view_some (rv := [.tmp 2]) (by kernel_rfl) (n := 9) (scr := [(7, .cf [] (AV.bool (logRight a0))), (12, .b false)]) (keep := []) (by kernel_rfl) (allc (congrArg not hc2) (allc (c_log_Right X a0 hg1) (allc (show rowsFlat [] from trivial) alln)))))
  · have h := h.2 hc2
    obtain ⟨h1, h2⟩ := h
    refine goes_eqR (h1.trans rfl) (h2.trans rfl) (goes_plain (r := (AV.sl .n [])) (goes_ret (rows := []) (r := (AV.sl .n [])) hB fn_view_some (rv := [.tmp 2]) (by kernel_rfl) (n := 8) (scr := [(7, .cf [] (AV.bool (logRight a0))), (12, .b true)]) (keep := []) (by kernel_rfl) (allc (congrArg not (bF hc2)) (allc (c_log_Right X a0 hg1) (allc (show rowsFlat [] from trivial) alln)))))
theorem view_some_calls (X : Ctx E) (a0 : (List T_Entry)) {rows : List Ob} {r : AV} (h : ∀ C, Base Tryd.prog E C → view_some_at0 C a0 rows r) : ACalls Tryd.prog E 70 [(AV.sl .p (a0.map T_Entry.av))] rows r :=
  acalls_of_goes X.env X.good fn_view_some (c := bodyOf Tryd.prog 70) (by kernel_rfl) (by kernel_rfl) (m := 6) (by kernel_rfl) h
theorem c_view_some (X : Ctx E) (a0 : List T_Entry) (h0 : Small a0) : ACalls Tryd.prog E n_view_some [(AV.sl .p (a0.map T_Entry.av))] [] (AV.sl .p ((someS a0).map T_Entry.av)) :=
  view_some_calls X a0 fun C hB => view_some_wp0 X hB a0 ⟨h0, fun h => ⟨rfl, by rw [someS, if_pos h]⟩, fun h => ⟨rfl, by rw [someS, if_neg h]; rfl⟩⟩

/-! ### omnibus/view.Inc -/
theorem fn_view_Inc : Tryd.prog.funcs[66]? = some Tryd.f66 := by kernel_rfl
def view_Inc_at0 (C : C0) (a0 : (List T_Entry)) (a1 : Int) (rows : List Ob) (r : AV) : Prop := Goes Tryd.prog C 66 [.code (bodyOf Tryd.prog 66)] ([(AV.sl .p (a0.map T_Entry.av)), (AV.int .i64 a1)] ++ junks 20) [] rows r
theorem view_Inc_wp0 (X : Ctx E) (hB : Base Tryd.prog E C) (a0 : (List T_Entry)) (a1 : Int) {rows : List Ob} {r : AV} (h : (Small a0) ∧ ((((someS a0).length : Int) = 0 → (rows = [] ∧ r = (AV.tup [(AV.int .i64 0), (AV.bool false)]))) ∧ (¬ (((someS a0).length : Int) = 0) → ((-9223372036854775808) ≤ (((someS a0).length : Int) - 1) ∧ (((someS a0).length : Int) - 1) ≤ 9223372036854775807) ∧ ∃ y4 : T_Entry, 0 ≤ ((((someS a0).length : Int) - 1) : Int) ∧ (someS a0)[(((someS a0).length : Int) - 1).toNat]? = some y4 ∧ (rows = [] ∧ r = (AV.tup [(AV.int .i64 (incS y4 a1).1), (AV.bool (incS y4 a1).2)]))))) : view_Inc_at0 C a0 a1 rows r := by
  unfold view_Inc_at0
  obtain ⟨hg1, h⟩ := h
  rcases Classical.em (((someS a0).length : Int) = 0) with hc2 | hc2
  · have h := h.1 hc2
    obtain ⟨h1, h2⟩ := h
    refine goes_eqR (h1.trans rfl) (h2.trans rfl) ((goes_ret (rows := []) (r := (AV.tup [(AV.int .i64 0), (AV.bool false)])) hB fn_view_Inc (rv := [.tmp 4, .tmp 5]) (by kernel_rfl) (n := 10) (scr := [(10, .c [] (AV.sl .p ((someS a0).map T_Entry.av))), (20, .v (AV.int .i64 ((someS a0).length : Int))), (24, .b true)]) (keep := []) (by kernel_rfl) (allc (ieqT hc2) (allc (len_raw (show ((someS a0).map T_Entry.av) = ((someS a0).map T_Entry.av) from rfl)) (allc (c_view_some X a0 hg1) alln)))))
  · have h := h.2 hc2
    obtain ⟨hg3, h⟩ := h
    obtain ⟨y4, hg5, he6, h⟩ := h
    obtain ⟨h1, h2⟩ := h
    refine goes_eqR (h1.trans rfl) (h2.trans rfl) ((goes_ret (rows := []) (r := (AV.tup [(AV.int .i64 (incS y4 a1).1), (AV.bool (incS y4 a1).2)])) hB fn_view_Inc (rv := [.tmp 4, .tmp 5]) (by kernel_rfl) (n := 11) (scr := [(10, .c [] (AV.sl .p ((someS a0).map T_Entry.av))), (20, .v (AV.int .i64 ((someS a0).length : Int))), (24, .b false), (33, .v (AV.int .i64 ((someS a0).length : Int))), (36, .v (AV.int .i64 (((someS a0).length : Int) - 1))), (38, .e (AV.agg [(AV.int .i64 y4.Term), (AV.int .i64 y4.Epoch), (AV.int .i64 y4.Members), (AV.sl .p (y4.Incs.map (AV.int .i64))), (AV.sl .p (y4.Msgs.map T_Message.av))])), (47, .cf [] (AV.tup [(AV.int .i64 (incS y4 a1).1), (AV.bool (incS y4 a1).2)]))]) (keep := []) (by kernel_rfl) (allc (c_entry_Inc X y4 a1) (allc (show rowsFlat [] from trivial) (allc (And.intro hg5 (get_raw (show ((someS a0).map T_Entry.av) = ((someS a0).map T_Entry.av) from rfl) he6)) (allc (wrap_i64 hg3) (allc (len_raw (show ((someS a0).map T_Entry.av) = ((someS a0).map T_Entry.av) from rfl)) (allc (ieqF hc2) (allc (len_raw (show ((someS a0).map T_Entry.av) = ((someS a0).map T_Entry.av) from rfl)) (allc (c_view_some X a0 hg1) alln))))))))))
theorem view_Inc_calls (X : Ctx E) (a0 : (List T_Entry)) (a1 : Int) {rows : List Ob} {r : AV} (h : ∀ C, Base Tryd.prog E C → view_Inc_at0 C a0 a1 rows r) : ACalls Tryd.prog E 66 [(AV.sl .p (a0.map T_Entry.av)), (AV.int .i64 a1)] rows r :=
  acalls_of_goes X.env X.good fn_view_Inc (c := bodyOf Tryd.prog 66) (by kernel_rfl) (by kernel_rfl) (m := 20) (by kernel_rfl) h
theorem c_view_Inc (X : Ctx E) (a0 : (List T_Entry)) (a1 : Int) (h0 : Small a0) : ACalls Tryd.prog E n_view_Inc [(AV.sl .p (a0.map T_Entry.av)), (AV.int .i64 a1)] [] (AV.tup [(AV.int .i64 (lastInc a0 a1).1), (AV.bool (lastInc a0 a1).2)]) :=
  view_Inc_calls X a0 a1 fun C hB => view_Inc_wp0 X hB a0 a1 (by
    have hl := some_length a0
    have h1 := h0.1
    refine ⟨h0, fun h => ⟨rfl, ?_⟩, fun h => ⟨by omega, (someS a0)[(someS a0).length - 1]'(by omega), by omega, ?_, rfl, ?_⟩⟩
    · have : someS a0 = [] := List.eq_nil_of_length_eq_zero (by omega)
      simp [lastInc, this]
    · rw [show (((someS a0).length : Int) - 1).toNat = (someS a0).length - 1 by omega]
      exact List.getElem?_eq_getElem (by omega)
    · have : (someS a0).getLast? = some ((someS a0)[(someS a0).length - 1]'(by omega)) := by rw [List.getLast?_eq_getElem?]; exact List.getElem?_eq_getElem (by omega)
      simp only [lastInc, this])

/-! ### omnibus/view.alike -/
theorem fn_view_alike : Tryd.prog.funcs[72]? = some Tryd.f72 := by kernel_rfl
def view_alike_at0 (C : C0) (a0 : T_Entry) (a1 : T_Entry) (rows : List Ob) (r : AV) : Prop := Goes Tryd.prog C 72 [.code (bodyOf Tryd.prog 72)] ([(AV.agg [(AV.int .i64 a0.Term), (AV.int .i64 a0.Epoch), (AV.int .i64 a0.Members), (AV.sl .p (a0.Incs.map (AV.int .i64))), (AV.sl .p (a0.Msgs.map T_Message.av))]), (AV.agg [(AV.int .i64 a1.Term), (AV.int .i64 a1.Epoch), (AV.int .i64 a1.Members), (AV.sl .p (a1.Incs.map (AV.int .i64))), (AV.sl .p (a1.Msgs.map T_Message.av))])] ++ junks 15) [] rows r
theorem view_alike_wp0 (X : Ctx E) (hB : Base Tryd.prog E C) (a0 : T_Entry) (a1 : T_Entry) {rows : List Ob} {r : AV} (h : ((a0.Members = a1.Members → (a0.Incs.length ≤ 4611686018427387904) ∧ (rows = [] ∧ r = (AV.bool (@decide (a0.Incs = a1.Incs) (Classical.propDecidable _))))) ∧ (¬ (a0.Members = a1.Members) → (rows = [] ∧ r = (AV.bool false))))) : view_alike_at0 C a0 a1 rows r := by
  unfold view_alike_at0
  rcases Classical.em (a0.Members = a1.Members) with hc1 | hc1
  · have h := h.1 hc1
    obtain ⟨hg2, h⟩ := h
    obtain ⟨h1, h2⟩ := h
    refine goes_eqR (h1.trans rfl) (h2.trans rfl) ((goes_ret (rows := []) (r := (AV.bool (@decide (a0.Incs = a1.Incs) (Classical.propDecidable _)))) hB fn_view_alike (rv := [.tmp 4]) (by kernel_rfl) (n := 4) (scr := [(27, .b true), (30, .b true), (33, .b true), (36, .b true), (39, .b true), (40, .cf [] (AV.bool (@decide (a0.Incs = a1.Incs) (Classical.propDecidable _)))), (43, .b true)]) (keep := []) (by kernel_rfl) (allc (ieqT hc1) (allc (c_slices_Equal_int X a0.Incs a1.Incs hg2) (allc (show rowsFlat [] from trivial) (allc (ieqT hc1) (allc (ieqT hc1) (allc (ieqT hc1) (allc (ieqT hc1) (allc (ieqT hc1) alln))))))))))
  · have h := h.2 hc1
    obtain ⟨h1, h2⟩ := h
    refine goes_eqR (h1.trans rfl) (h2.trans rfl) ((goes_ret (rows := []) (r := (AV.bool false)) hB fn_view_alike (rv := [.tmp 4]) (by kernel_rfl) (n := 4) (scr := [(27, .b false), (30, .b false), (33, .b false), (36, .b false), (39, .b false), (43, .b false)]) (keep := []) (by kernel_rfl) (allc (ieqF hc1) (allc (ieqF hc1) (allc (ieqF hc1) (allc (ieqF hc1) (allc (ieqF hc1) (allc (ieqF hc1) alln))))))))
theorem view_alike_calls (X : Ctx E) (a0 : T_Entry) (a1 : T_Entry) {rows : List Ob} {r : AV} (h : ∀ C, Base Tryd.prog E C → view_alike_at0 C a0 a1 rows r) : ACalls Tryd.prog E 72 [(AV.agg [(AV.int .i64 a0.Term), (AV.int .i64 a0.Epoch), (AV.int .i64 a0.Members), (AV.sl .p (a0.Incs.map (AV.int .i64))), (AV.sl .p (a0.Msgs.map T_Message.av))]), (AV.agg [(AV.int .i64 a1.Term), (AV.int .i64 a1.Epoch), (AV.int .i64 a1.Members), (AV.sl .p (a1.Incs.map (AV.int .i64))), (AV.sl .p (a1.Msgs.map T_Message.av))])] rows r :=
  acalls_of_goes X.env X.good fn_view_alike (c := bodyOf Tryd.prog 72) (by kernel_rfl) (by kernel_rfl) (m := 15) (by kernel_rfl) h
theorem c_view_alike (X : Ctx E) (a0 : T_Entry) (a1 : T_Entry) (h0 : SmallE a0) : ACalls Tryd.prog E n_view_alike [(AV.agg [(AV.int .i64 a0.Term), (AV.int .i64 a0.Epoch), (AV.int .i64 a0.Members), (AV.sl .p (a0.Incs.map (AV.int .i64))), (AV.sl .p (a0.Msgs.map T_Message.av))]), (AV.agg [(AV.int .i64 a1.Term), (AV.int .i64 a1.Epoch), (AV.int .i64 a1.Members), (AV.sl .p (a1.Incs.map (AV.int .i64))), (AV.sl .p (a1.Msgs.map T_Message.av))])] [] (AV.bool (alikeS a0 a1)) :=
  view_alike_calls X a0 a1 fun C hB => view_alike_wp0 X hB a0 a1 ⟨fun h => ⟨Nat.le_trans h0.1 (by decide), rfl, by congr 1; simp only [alikeS, h, decide_true, Bool.true_and]; exact decide_eq_decide.2 Iff.rfl⟩, fun h => ⟨rfl, by simp [alikeS, h]⟩⟩

/-! ### omnibus/view.Views -/
theorem fn_view_Views : Tryd.prog.funcs[33]? = some Tryd.f33 := by kernel_rfl
def view_Views_at0 (C : C0) (a0 : (List T_Entry)) (rows : List Ob) (r : AV) : Prop := Goes Tryd.prog C 33 [.code (bodyOf Tryd.prog 33)] ([(AV.sl .p (a0.map T_Entry.av))] ++ junks 30) [] rows r
def view_Views_at1 (C : C0) (v0 : Int) (v1 : (List T_Entry)) (v2 : (List T_Entry)) (v3 : Int) (v4 : Int) (rows : List Ob) (r : AV) : Prop := Goes Tryd.prog C 33 (ctl 9 [.code (bodyOf Tryd.prog 33)] []) (([AV.junk, AV.junk, (AV.int .i64 v0), (AV.sl .p (v1.map T_Entry.av)), AV.junk, AV.junk, AV.junk, AV.junk, (AV.sl .p (v2.map T_Entry.av)), (AV.int .i64 v3), (AV.int .i64 v4)] ++ junks 20)) [] rows r
theorem view_Views_wp0 (X : Ctx E) (hB : Base Tryd.prog E C) (a0 : (List T_Entry)) {rows : List Ob} {r : AV} (h : (Small a0) ∧ (view_Views_at1 C 0 (someS a0) (someS a0) ((someS a0).length : Int) 0 rows r)) : view_Views_at0 C a0 rows r := by
  unfold view_Views_at0
  obtain ⟨hg1, h⟩ := h
  refine goes_cut hB (n := 9) (scr := [(7, .c [] (AV.sl .p ((someS a0).map T_Entry.av))), (17, .v (AV.int .i64 ((someS a0).length : Int)))]) (live := [2, 3, 8, 9, 10]) (keep := []) (todo' := (ctl 9 [.code (bodyOf Tryd.prog 33)] [])) (ts' := ([AV.junk, AV.junk, (AV.int .i64 0), (AV.sl .p ((someS a0).map T_Entry.av)), AV.junk, AV.junk, AV.junk, AV.junk, (AV.sl .p ((someS a0).map T_Entry.av)), (AV.int .i64 ((someS a0).length : Int)), (AV.int .i64 0)] ++ junks 20)) (h' := []) (by kernel_rfl) (allc (len_raw (show ((someS a0).map T_Entry.av) = ((someS a0).map T_Entry.av) from rfl)) (allc (c_view_some X a0 hg1) alln)) (goes_eqS rfl rfl h)
theorem view_Views_wp1 (X : Ctx E) (hB : Base Tryd.prog E C) (v0 : Int) (v1 : (List T_Entry)) (v2 : (List T_Entry)) (v3 : Int) (v4 : Int) {rows : List Ob} {r : AV} (h : ((v4 < v3 → ∃ y3 : T_Entry, 0 ≤ (v4 : Int) ∧ v2[v4.toNat]? = some y3 ∧ ((v4 = 0 → ((-9223372036854775808) ≤ (v0 + 1) ∧ (v0 + 1) ≤ 9223372036854775807) ∧ ((-9223372036854775808) ≤ (v4 + 1) ∧ (v4 + 1) ≤ 9223372036854775807) ∧ (view_Views_at1 C (v0 + 1) v1 v2 v3 (v4 + 1) rows r)) ∧ (¬ (v4 = 0) → ((-9223372036854775808) ≤ (v4 - 1) ∧ (v4 - 1) ≤ 9223372036854775807) ∧ ∃ y10 : T_Entry, 0 ≤ ((v4 - 1) : Int) ∧ v1[(v4 - 1).toNat]? = some y10 ∧ (SmallE y10) ∧ (((alikeS y10 y3) = true → ((-9223372036854775808) ≤ (v4 + 1) ∧ (v4 + 1) ≤ 9223372036854775807) ∧ (view_Views_at1 C v0 v1 v2 v3 (v4 + 1) rows r)) ∧ (¬ ((alikeS y10 y3) = true) → ((-9223372036854775808) ≤ (v0 + 1) ∧ (v0 + 1) ≤ 9223372036854775807) ∧ ((-9223372036854775808) ≤ (v4 + 1) ∧ (v4 + 1) ≤ 9223372036854775807) ∧ (view_Views_at1 C (v0 + 1) v1 v2 v3 (v4 + 1) rows r)))))) ∧ (¬ (v4 < v3) → (rows = [] ∧ r = (AV.int .i64 v0))))) : view_Views_at1 C v0 v1 v2 v3 v4 rows r := by
  unfold view_Views_at1
  rcases Classical.em (v4 < v3) with hc2 | hc2
  · have h := h.1 hc2
    obtain ⟨y3, hg4, he5, h⟩ := h
    rcases Classical.em (v4 = 0) with hc6 | hc6
    · have h := h.1 hc6
      obtain ⟨hg7, h⟩ := h
      obtain ⟨hg8, h⟩ := h
      refine goes_cut hB (n := 16) (scr := [(3, .b true), (8, .e (AV.agg [(AV.int .i64 y3.Term), (AV.int .i64 y3.Epoch), (AV.int .i64 y3.Members), (AV.sl .p (y3.Incs.map (AV.int .i64))), (AV.sl .p (y3.Msgs.map T_Message.av))])), (31, .b true), (34, .b true), (37, .b true), (40, .b true), (43, .b true), (46, .b true), (49, .b true), (52, .b true), (56, .b true), (64, .v (AV.int .i64 (v0 + 1))), (70, .v (AV.int .i64 (v4 + 1)))]) (live := [2, 3, 8, 9, 10]) (keep := []) (todo' := (ctl 9 [.code (bodyOf Tryd.prog 33)] [])) (ts' := ([AV.junk, AV.junk, (AV.int .i64 (v0 + 1)), (AV.sl .p (v1.map T_Entry.av)), AV.junk, AV.junk, AV.junk, AV.junk, (AV.sl .p (v2.map T_Entry.av)), (AV.int .i64 v3), (AV.int .i64 (v4 + 1))] ++ junks 20)) (h' := []) (by kernel_rfl) (allc (wrap_i64 hg8) (allc (wrap_i64 hg7) (allc (ieqT hc6) (allc (ieqT hc6) (allc (ieqT hc6) (allc (ieqT hc6) (allc (ieqT hc6) (allc (ieqT hc6) (allc (ieqT hc6) (allc (ieqT hc6) (allc (ieqT hc6) (allc (And.intro hg4 (get_raw (show (v2.map T_Entry.av) = (v2.map T_Entry.av) from rfl) he5)) (allc (decide_eq_true hc2) alln))))))))))))) (goes_eqS rfl rfl h)
    · have h := h.2 hc6
      obtain ⟨hg9, h⟩ := h
      obtain ⟨y10, hg11, he12, h⟩ := h
      obtain ⟨hg13, h⟩ := h
      rcases Classical.em ((alikeS y10 y3) = true) with hc14 | hc14
      · have h := h.1 hc14
        obtain ⟨hg15, h⟩ := h
        refine goes_cut hB (n := 16) (scr := [(3, .b true), (8, .e (AV.agg [(AV.int .i64 y3.Term), (AV.int .i64 y3.Epoch), (AV.int .i64 y3.Members), (AV.sl .p (y3.Incs.map (AV.int .i64))), (AV.sl .p (y3.Msgs.map T_Message.av))])), (31, .b false), (34, .b false), (37, .b false), (39, .v (AV.int .i64 (v4 - 1))), (40, .b false), (41, .e (AV.agg [(AV.int .i64 y10.Term), (AV.int .i64 y10.Epoch), (AV.int .i64 y10.Members), (AV.sl .p (y10.Incs.map (AV.int .i64))), (AV.sl .p (y10.Msgs.map T_Message.av))])), (43, .b false), (46, .b false), (49, .b false), (50, .cf [] (AV.bool (alikeS y10 y3))), (52, .b false), (56, .b false), (58, .b false), (61, .v (AV.int .i64 (v4 + 1)))]) (live := [2, 3, 8, 9, 10]) (keep := []) (todo' := (ctl 9 [.code (bodyOf Tryd.prog 33)] [])) (ts' := ([AV.junk, AV.junk, (AV.int .i64 v0), (AV.sl .p (v1.map T_Entry.av)), AV.junk, AV.junk, AV.junk, AV.junk, (AV.sl .p (v2.map T_Entry.av)), (AV.int .i64 v3), (AV.int .i64 (v4 + 1))] ++ junks 20)) (h' := []) (by kernel_rfl) (allc (wrap_i64 hg15) (allc (congrArg not hc14) (allc (ieqF hc6) (allc (ieqF hc6) (allc (c_view_alike X y10 y3 hg13) (allc (show rowsFlat [] from trivial) (allc (ieqF hc6) (allc (ieqF hc6) (allc (ieqF hc6) (allc (And.intro hg11 (get_raw (show (v1.map T_Entry.av) = (v1.map T_Entry.av) from rfl) he12)) (allc (ieqF hc6) (allc (wrap_i64 hg9) (allc (ieqF hc6) (allc (ieqF hc6) (allc (ieqF hc6) (allc (And.intro hg4 (get_raw (show (v2.map T_Entry.av) = (v2.map T_Entry.av) from rfl) he5)) (allc (decide_eq_true hc2) alln))))))))))))))))) (goes_eqS rfl rfl h)
      · have h := h.2 hc14
        obtain ⟨hg16, h⟩ := h
        obtain ⟨hg17, h⟩ := h
        refine goes_cut hB (n := 16) (scr := [(3, .b true), (8, .e (AV.agg [(AV.int .i64 y3.Term), (AV.int .i64 y3.Epoch), (AV.int .i64 y3.Members), (AV.sl .p (y3.Incs.map (AV.int .i64))), (AV.sl .p (y3.Msgs.map T_Message.av))])), (31, .b false), (34, .b false), (37, .b false), (39, .v (AV.int .i64 (v4 - 1))), (40, .b false), (41, .e (AV.agg [(AV.int .i64 y10.Term), (AV.int .i64 y10.Epoch), (AV.int .i64 y10.Members), (AV.sl .p (y10.Incs.map (AV.int .i64))), (AV.sl .p (y10.Msgs.map T_Message.av))])), (43, .b false), (46, .b false), (49, .b false), (50, .cf [] (AV.bool (alikeS y10 y3))), (52, .b false), (56, .b false), (58, .b true), (64, .v (AV.int .i64 (v0 + 1))), (70, .v (AV.int .i64 (v4 + 1)))]) (live := [2, 3, 8, 9, 10]) (keep := []) (todo' := (ctl 9 [.code (bodyOf Tryd.prog 33)] [])) (ts' := ([AV.junk, AV.junk, (AV.int .i64 (v0 + 1)), (AV.sl .p (v1.map T_Entry.av)), AV.junk, AV.junk, AV.junk, AV.junk, (AV.sl .p (v2.map T_Entry.av)), (AV.int .i64 v3), (AV.int .i64 (v4 + 1))] ++ junks 20)) (h' := []) (by kernel_rfl) (allc (wrap_i64 hg17) (allc (wrap_i64 hg16) (allc (congrArg not (bF hc14)) (allc (ieqF hc6) (allc (ieqF hc6) (allc (c_view_alike X y10 y3 hg13) (allc (show rowsFlat [] from trivial) (allc (ieqF hc6) (allc (ieqF hc6) (allc (ieqF hc6) (allc (And.intro hg11 (get_raw (show (v1.map T_Entry.av) = (v1.map T_Entry.av) from rfl) he12)) (allc (ieqF hc6) (allc (wrap_i64 hg9) (allc (ieqF hc6) (allc (ieqF hc6) (allc (ieqF hc6) (allc (And.intro hg4 (get_raw (show (v2.map T_Entry.av) = (v2.map T_Entry.av) from rfl) he5)) (allc (decide_eq_true hc2) alln)))))))))))))))))) (goes_eqS rfl rfl h)
  · have h := h.2 hc2
    obtain ⟨h1, h2⟩ := h
    refine goes_eqR (h1.trans rfl) (h2.trans rfl) ((goes_ret (rows := []) (r := (AV.int .i64 v0)) hB fn_view_Views (rv := [.tmp 2]) (by kernel_rfl) (n := 7) (scr := [(3, .b false)]) (keep := []) (by kernel_rfl) (allc (decide_eq_false hc2) alln)))
theorem view_Views_calls (X : Ctx E) (a0 : (List T_Entry)) {rows : List Ob} {r : AV} (h : ∀ C, Base Tryd.prog E C → view_Views_at0 C a0 rows r) : ACalls Tryd.prog E 33 [(AV.sl .p (a0.map T_Entry.av))] rows r :=
  acalls_of_goes X.env X.good fn_view_Views (c := bodyOf Tryd.prog 33) (by kernel_rfl) (by kernel_rfl) (m := 30) (by kernel_rfl) h
theorem view_Views_loop (X : Ctx E) (hB : Base Tryd.prog E C) (l : List T_Entry) (hs : Small l) (t : Int) : ∀ (k i : Nat) (n : Int), l.length - i = k → i ≤ l.length → 0 ≤ n → n ≤ i → n + viewsL (if i = 0 then none else l[i - 1]?) (l.drop i) = t → view_Views_at1 C n l l (l.length : Int) (i : Int) [] (AV.int .i64 t) := by
  have hlen := hs.1
  intro k
  induction k with
  | zero =>
    intro i n h1 h2 h3 h4 h5
    refine view_Views_wp1 X hB _ _ _ _ _ ⟨fun h => by omega, fun _ => ⟨rfl, ?_⟩⟩
    rw [List.drop_eq_nil_of_le (by omega)] at h5
    simp only [viewsL] at h5
    rw [← h5, Int.add_zero]
  | succ k ih =>
    intro i n h1 h2 h3 h4 h5
    have hi : i < l.length := by omega
    have hd : viewsL (if i = 0 then none else l[i - 1]?) (l.drop i) = (if alikeO (if i = 0 then none else l[i - 1]?) l[i] = true then 0 else 1) + viewsL (if i + 1 = 0 then none else l[i + 1 - 1]?) (l.drop (i + 1)) := by
      rw [List.drop_eq_getElem_cons hi]
      simp [viewsL, hi]
    rw [hd] at h5
    refine view_Views_wp1 X hB _ _ _ _ _ ⟨fun h => ⟨l[i], by omega, by simp [hi], fun g => ⟨by omega, by omega, ?_⟩, fun g => ?_⟩, fun h => by omega⟩
    · have h0 : i = 0 := by omega
      refine ih (i + 1) (n + 1) (by omega) (by omega) (by omega) (by omega) ?_
      have : alikeO (if i = 0 then none else l[i - 1]?) l[i] = false := by rw [if_pos h0]; rfl
      rw [this] at h5
      simp only [Bool.false_eq_true, if_false] at h5
      omega
    · have h0 : ¬ i = 0 := by omega
      have hp : i - 1 < l.length := by omega
      have ha : alikeO (if i = 0 then none else l[i - 1]?) l[i] = alikeS l[i - 1] l[i] := by rw [if_neg h0, List.getElem?_eq_getElem hp]; rfl
      rw [ha] at h5
      refine ⟨by omega, l[i - 1], by omega, by rw [show ((i : Int) - 1).toNat = i - 1 by omega]; simp [hp], hs.2 _ (by simp), fun g2 => ⟨by omega, ?_⟩, fun g2 => ⟨by omega, by omega, ?_⟩⟩
      · rw [if_pos g2] at h5
        exact ih (i + 1) n (by omega) (by omega) (by omega) (by omega) (by omega)
      · rw [if_neg g2] at h5
        exact ih (i + 1) (n + 1) (by omega) (by omega) (by omega) (by omega) (by omega)
theorem c_view_Views (X : Ctx E) (a0 : List T_Entry) (h0 : Small a0) : ACalls Tryd.prog E n_view_Views [(AV.sl .p (a0.map T_Entry.av))] [] (AV.int .i64 (viewsS a0)) :=
  view_Views_calls X a0 fun C hB => view_Views_wp0 X hB a0 ⟨h0, view_Views_loop X hB (someS a0) (some_small h0) (viewsS a0) (someS a0).length 0 0 (by omega) (by omega) (by omega) (by omega) (by simp [viewsS])⟩

/-! ### omnibus/view.Joined$1 -/
theorem fn_view_Joined_1 : Tryd.prog.funcs[74]? = some Tryd.f74 := by kernel_rfl
def view_Joined_1_at0 (C : C0) (a0 : T_Entry) (n : Int) (k : Int) (rows : List Ob) (r : AV) : Prop := Goes Tryd.prog C 74 [.code (bodyOf Tryd.prog 74)] ([(AV.agg [(AV.int .i64 a0.Term), (AV.int .i64 a0.Epoch), (AV.int .i64 a0.Members), (AV.sl .p (a0.Incs.map (AV.int .i64))), (AV.sl .p (a0.Msgs.map T_Message.av))]), (AV.pin [(AV.int .i64 n)] 0), (AV.pin [(AV.int .i64 k)] 0)] ++ junks 16) [] rows r
theorem view_Joined_1_wp0 (X : Ctx E) (hB : Base Tryd.prog E C) (a0 : T_Entry) (n : Int) (k : Int) {rows : List Ob} {r : AV} (h : (((incS a0 n).2 = true → (rows = [] ∧ r = (AV.bool ((incS a0 n).1 == k)))) ∧ (¬ ((incS a0 n).2 = true) → (rows = [] ∧ r = (AV.bool false))))) : view_Joined_1_at0 C a0 n k rows r := by
  unfold view_Joined_1_at0
  rcases Classical.em ((incS a0 n).2 = true) with hc1 | hc1
  · have h := h.1 hc1
    obtain ⟨h1, h2⟩ := h
    refine goes_eqR (h1.trans rfl) (h2.trans rfl) ((goes_ret (rows := []) (r := (AV.bool ((incS a0 n).1 == k))) hB fn_view_Joined_1 (rv := [.tmp 4]) (by kernel_rfl) (n := 6) (scr := [(13, .cf [] (AV.tup [(AV.int .i64 (incS a0 n).1), (AV.bool (incS a0 n).2)])), (36, .b true), (39, .b true), (42, .b true), (46, .b true)]) (keep := []) (by kernel_rfl) (allc hc1 (allc hc1 (allc hc1 (allc hc1 (allc (c_entry_Inc X a0 n) (allc (show rowsFlat [] from trivial) alln))))))))
  · have h := h.2 hc1
    obtain ⟨h1, h2⟩ := h
    refine goes_eqR (h1.trans rfl) (h2.trans rfl) ((goes_ret (rows := []) (r := (AV.bool false)) hB fn_view_Joined_1 (rv := [.tmp 4]) (by kernel_rfl) (n := 6) (scr := [(13, .cf [] (AV.tup [(AV.int .i64 (incS a0 n).1), (AV.bool (incS a0 n).2)])), (36, .b false), (39, .b false), (42, .b false), (46, .b false)]) (keep := []) (by kernel_rfl) (allc (bF hc1) (allc (bF hc1) (allc (bF hc1) (allc (bF hc1) (allc (c_entry_Inc X a0 n) (allc (show rowsFlat [] from trivial) alln))))))))
theorem view_Joined_1_calls (X : Ctx E) (a0 : T_Entry) (n : Int) (k : Int) {rows : List Ob} {r : AV} (h : ∀ C, Base Tryd.prog E C → view_Joined_1_at0 C a0 n k rows r) : ACalls Tryd.prog E 74 [(AV.agg [(AV.int .i64 a0.Term), (AV.int .i64 a0.Epoch), (AV.int .i64 a0.Members), (AV.sl .p (a0.Incs.map (AV.int .i64))), (AV.sl .p (a0.Msgs.map T_Message.av))]), (AV.pin [(AV.int .i64 n)] 0), (AV.pin [(AV.int .i64 k)] 0)] rows r :=
  acalls_of_goes X.env X.good fn_view_Joined_1 (c := bodyOf Tryd.prog 74) (by kernel_rfl) (by kernel_rfl) (m := 16) (by kernel_rfl) h
theorem c_view_Joined_1 (X : Ctx E) (a0 : T_Entry) (n k : Int) : ACalls Tryd.prog E n_view_Joined_1 [a0.av, AV.pin [AV.int .i64 n] 0, AV.pin [AV.int .i64 k] 0] [] (AV.bool (joinP n k a0)) :=
  view_Joined_1_calls X a0 n k fun C hB => view_Joined_1_wp0 X hB a0 n k ⟨fun h => ⟨rfl, by simp only [joinP, h, Bool.true_and]; congr 1⟩, fun h => ⟨rfl, by simp [joinP, h]⟩⟩

/-! ### slices.IndexFunc[[]omnibus/api.Entry,omnibus/api.Entry] -/
theorem fn_slices_IndexFunc_Entry : Tryd.prog.funcs[73]? = some Tryd.f73 := by kernel_rfl
def slices_IndexFunc_Entry_j_at0 (C : C0) (a0 : (List T_Entry)) (n : Int) (k : Int) (rows : List Ob) (r : AV) : Prop := Goes Tryd.prog C 73 [.code (bodyOf Tryd.prog 73)] ([(AV.sl .p (a0.map T_Entry.av)), (AV.fn 74 [(AV.pin [(AV.int .i64 n)] 0), (AV.pin [(AV.int .i64 k)] 0)])] ++ junks 17) [] rows r
def slices_IndexFunc_Entry_j_at1 (C : C0) (v0 : (List T_Entry)) (v1 : Int) (v2 : Int) (v3 : Int) (v4 : Int) (rows : List Ob) (r : AV) : Prop := Goes Tryd.prog C 73 (ctl 7 [.code (bodyOf Tryd.prog 73)] []) (([(AV.sl .p (v0.map T_Entry.av)), (AV.fn 74 [(AV.pin [(AV.int .i64 v1)] 0), (AV.pin [(AV.int .i64 v2)] 0)]), AV.junk, AV.junk, AV.junk, AV.junk, AV.junk, (AV.int .i64 v3), (AV.int .i64 v4)] ++ junks 10)) [] rows r
theorem slices_IndexFunc_Entry_j_wp0 (X : Ctx E) (hB : Base Tryd.prog E C) (a0 : (List T_Entry)) (n : Int) (k : Int) {rows : List Ob} {r : AV} (h : (slices_IndexFunc_Entry_j_at1 C a0 n k (a0.length : Int) 0 rows r)) : slices_IndexFunc_Entry_j_at0 C a0 n k rows r := by
  unfold slices_IndexFunc_Entry_j_at0
  refine goes_cut hB (n := 7) (scr := [(8, .v (AV.int .i64 (a0.length : Int)))]) (live := [0, 1, 7, 8]) (keep := []) (todo' := (ctl 7 [.code (bodyOf Tryd.prog 73)] [])) (ts' := ([(AV.sl .p (a0.map T_Entry.av)), (AV.fn 74 [(AV.pin [(AV.int .i64 n)] 0), (AV.pin [(AV.int .i64 k)] 0)]), AV.junk, AV.junk, AV.junk, AV.junk, AV.junk, (AV.int .i64 (a0.length : Int)), (AV.int .i64 0)] ++ junks 10)) (h' := []) (by kernel_rfl) (allc (len_raw (show (a0.map T_Entry.av) = (a0.map T_Entry.av) from rfl)) alln) (goes_eqS rfl rfl h)
theorem slices_IndexFunc_Entry_j_wp1 (X : Ctx E) (hB : Base Tryd.prog E C) (v0 : (List T_Entry)) (v1 : Int) (v2 : Int) (v3 : Int) (v4 : Int) {rows : List Ob} {r : AV} (h : ((v4 < v3 → ∃ y2 : T_Entry, 0 ≤ (v4 : Int) ∧ v0[v4.toNat]? = some y2 ∧ (((joinP v1 v2 y2) = true → (rows = [] ∧ r = (AV.int .i64 v4))) ∧ (¬ ((joinP v1 v2 y2) = true) → ((-9223372036854775808) ≤ (v4 + 1) ∧ (v4 + 1) ≤ 9223372036854775807) ∧ (slices_IndexFunc_Entry_j_at1 C v0 v1 v2 v3 (v4 + 1) rows r)))) ∧ (¬ (v4 < v3) → (rows = [] ∧ r = (AV.int .i64 (-1)))))) : slices_IndexFunc_Entry_j_at1 C v0 v1 v2 v3 v4 rows r := by
  unfold slices_IndexFunc_Entry_j_at1
  rcases Classical.em (v4 < v3) with hc1 | hc1
  · have h := h.1 hc1
    obtain ⟨y2, hg3, he4, h⟩ := h
    rcases Classical.em ((joinP v1 v2 y2) = true) with hc5 | hc5
    · have h := h.1 hc5
      obtain ⟨h1, h2⟩ := h
      refine goes_eqR (h1.trans rfl) (h2.trans rfl) ((goes_ret (rows := []) (r := (AV.int .i64 v4)) hB fn_slices_IndexFunc_Entry (rv := [.tmp 4]) (by kernel_rfl) (n := 14) (scr := [(3, .b true), (20, .e (AV.agg [(AV.int .i64 y2.Term), (AV.int .i64 y2.Epoch), (AV.int .i64 y2.Members), (AV.sl .p (y2.Incs.map (AV.int .i64))), (AV.sl .p (y2.Msgs.map T_Message.av))])), (26, .cf [] (AV.bool (joinP v1 v2 y2))), (28, .b true)]) (keep := []) (by kernel_rfl) (allc hc5 (allc (c_view_Joined_1 X y2 v1 v2) (allc (show rowsFlat [] from trivial) (allc (And.intro hg3 (get_raw (show (v0.map T_Entry.av) = (v0.map T_Entry.av) from rfl) he4)) (allc (decide_eq_true hc1) alln)))))))
    · have h := h.2 hc5
      obtain ⟨hg6, h⟩ := h
      refine goes_cut hB (n := 16) (scr := [(3, .b true), (20, .e (AV.agg [(AV.int .i64 y2.Term), (AV.int .i64 y2.Epoch), (AV.int .i64 y2.Members), (AV.sl .p (y2.Incs.map (AV.int .i64))), (AV.sl .p (y2.Msgs.map T_Message.av))])), (26, .cf [] (AV.bool (joinP v1 v2 y2))), (28, .b false), (31, .v (AV.int .i64 (v4 + 1)))]) (live := [0, 1, 7, 8]) (keep := []) (todo' := (ctl 7 [.code (bodyOf Tryd.prog 73)] [])) (ts' := ([(AV.sl .p (v0.map T_Entry.av)), (AV.fn 74 [(AV.pin [(AV.int .i64 v1)] 0), (AV.pin [(AV.int .i64 v2)] 0)]), AV.junk, AV.junk, AV.junk, AV.junk, AV.junk, (AV.int .i64 v3), (AV.int .i64 (v4 + 1))] ++ junks 10)) (h' := []) (by kernel_rfl) (allc (wrap_i64 hg6) (allc (bF hc5) (allc (c_view_Joined_1 X y2 v1 v2) (allc (show rowsFlat [] from trivial) (allc (And.intro hg3 (get_raw (show (v0.map T_Entry.av) = (v0.map T_Entry.av) from rfl) he4)) (allc (decide_eq_true hc1) alln)))))) (goes_eqS rfl rfl h)
  · have h := h.2 hc1
    obtain ⟨h1, h2⟩ := h
    refine goes_eqR (h1.trans rfl) (h2.trans rfl) ((goes_ret (rows := []) (r := (AV.int .i64 (-1))) hB fn_slices_IndexFunc_Entry (rv := [.tmp 4]) (by kernel_rfl) (n := 7) (scr := [(3, .b false)]) (keep := []) (by kernel_rfl) (allc (decide_eq_false hc1) alln)))
theorem slices_IndexFunc_Entry_j_calls (X : Ctx E) (a0 : (List T_Entry)) (n : Int) (k : Int) {rows : List Ob} {r : AV} (h : ∀ C, Base Tryd.prog E C → slices_IndexFunc_Entry_j_at0 C a0 n k rows r) : ACalls Tryd.prog E 73 [(AV.sl .p (a0.map T_Entry.av)), (AV.fn 74 [(AV.pin [(AV.int .i64 n)] 0), (AV.pin [(AV.int .i64 k)] 0)])] rows r :=
  acalls_of_goes X.env X.good fn_slices_IndexFunc_Entry (c := bodyOf Tryd.prog 73) (by kernel_rfl) (by kernel_rfl) (m := 17) (by kernel_rfl) h
theorem slices_IndexFunc_Entry_j_loop (X : Ctx E) (hB : Base Tryd.prog E C) (l : List T_Entry) (n q : Int) (hl : l.length ≤ 1000000) : ∀ (k i : Nat), l.length - i = k → i ≤ l.length → (∀ j y, j < i → l[j]? = some y → joinP n q y = false) → slices_IndexFunc_Entry_j_at1 C l n q (l.length : Int) (i : Int) [] (AV.int .i64 (idxS (joinP n q) l)) := by
  intro k
  induction k with
  | zero =>
    intro i h1 h2 h3
    refine slices_IndexFunc_Entry_j_wp1 X hB _ _ _ _ _ ⟨fun h => by omega, fun _ => ⟨rfl, ?_⟩⟩
    rw [idxS_none (fun j y hy => h3 j y (by have := (List.getElem?_eq_some_iff.1 hy).1; omega) hy)]
  | succ k ih =>
    intro i h1 h2 h3
    have hi : i < l.length := by omega
    refine slices_IndexFunc_Entry_j_wp1 X hB _ _ _ _ _ ⟨fun h => ⟨l[i], by omega, by simp [hi], fun he => ⟨rfl, ?_⟩, fun hne => ⟨by omega, ?_⟩⟩, fun h => by omega⟩
    · rw [idxS_some hi he (fun j hj y hy => h3 j y hj hy)]
    · refine ih (i + 1) (by omega) (by omega) (fun j y hj hy => ?_)
      by_cases hji : j < i
      · exact h3 j y hji hy
      · have : j = i := by omega
        subst this
        simp [hi] at hy; subst hy; exact bF hne
theorem c_slices_IndexFunc_Entry_j (X : Ctx E) (a0 : List T_Entry) (n k : Int) (h0 : a0.length ≤ 1000000) : ACalls Tryd.prog E n_slices_IndexFunc_Entry [(AV.sl .p (a0.map T_Entry.av)), AV.fn n_view_Joined_1 [AV.pin [AV.int .i64 n] 0, AV.pin [AV.int .i64 k] 0]] [] (AV.int .i64 (idxS (joinP n k) a0)) :=
  slices_IndexFunc_Entry_j_calls X a0 n k fun C hB => slices_IndexFunc_Entry_j_wp0 X hB a0 n k (slices_IndexFunc_Entry_j_loop X hB a0 n k h0 a0.length 0 (by omega) (by omega) (fun j y hj => by omega))

/-! ### omnibus/view.Joined -/
theorem fn_view_Joined : Tryd.prog.funcs[34]? = some Tryd.f34 := by kernel_rfl
def view_Joined_at0 (C : C0) (a0 : (List T_Entry)) (a1 : Int) (a2 : Int) (rows : List Ob) (r : AV) : Prop := Goes Tryd.prog C 34 [.code (bodyOf Tryd.prog 34)] ([(AV.sl .p (a0.map T_Entry.av)), (AV.int .i64 a1), (AV.int .i64 a2)] ++ junks 9) [] rows r
theorem view_Joined_wp0 (X : Ctx E) (hB : Base Tryd.prog E C) (a0 : (List T_Entry)) (a1 : Int) (a2 : Int) {rows : List Ob} {r : AV} (h : (Small a0) ∧ ((someS a0).length ≤ 1000000) ∧ ((-9223372036854775808) ≤ (1 + (idxS (joinP a1 a2) (someS a0))) ∧ (1 + (idxS (joinP a1 a2) (someS a0))) ≤ 9223372036854775807) ∧ (rows = [] ∧ r = (AV.int .i64 (1 + (idxS (joinP a1 a2) (someS a0)))))) : view_Joined_at0 C a0 a1 a2 rows r := by
  unfold view_Joined_at0
  obtain ⟨hg1, h⟩ := h
  obtain ⟨hg2, h⟩ := h
  obtain ⟨hg3, h⟩ := h
  obtain ⟨h1, h2⟩ := h
  refine goes_eqR (h1.trans rfl) (h2.trans rfl) ((goes_ret (rows := []) (r := (AV.int .i64 (1 + (idxS (joinP a1 a2) (someS a0))))) hB fn_view_Joined (rv := [.tmp 6]) (by kernel_rfl) (n := 4) (scr := [(13, .c [] (AV.sl .p ((someS a0).map T_Entry.av))), (19, .cf [] (AV.int .i64 (idxS (joinP a1 a2) (someS a0)))), (23, .v (AV.int .i64 (1 + (idxS (joinP a1 a2) (someS a0)))))]) (keep := []) (by kernel_rfl) (allc (wrap_i64 hg3) (allc (c_slices_IndexFunc_Entry_j X (someS a0) a1 a2 hg2) (allc (show rowsFlat [] from trivial) (allc (c_view_some X a0 hg1) alln))))))
theorem view_Joined_calls (X : Ctx E) (a0 : (List T_Entry)) (a1 : Int) (a2 : Int) {rows : List Ob} {r : AV} (h : ∀ C, Base Tryd.prog E C → view_Joined_at0 C a0 a1 a2 rows r) : ACalls Tryd.prog E 34 [(AV.sl .p (a0.map T_Entry.av)), (AV.int .i64 a1), (AV.int .i64 a2)] rows r :=
  acalls_of_goes X.env X.good fn_view_Joined (c := bodyOf Tryd.prog 34) (by kernel_rfl) (by kernel_rfl) (m := 9) (by kernel_rfl) h
theorem c_view_Joined (X : Ctx E) (a0 : (List T_Entry)) (a1 : Int) (a2 : Int) (h0 : Small a0) : ACalls Tryd.prog E n_view_Joined [(AV.sl .p (a0.map T_Entry.av)), (AV.int .i64 a1), (AV.int .i64 a2)] [] (AV.int .i64 (1 + idxS (joinP a1 a2) (someS a0))) :=
  view_Joined_calls X a0 a1 a2 fun C hB => view_Joined_wp0 X hB a0 a1 a2 (by have hl := some_length a0; have h1 := h0.1; have := @idxS_lt _ (joinP a1 a2) (someS a0); exact ⟨h0, by omega, by omega, rfl, rfl⟩)

/-! ### omnibus/view.Msgs -/
theorem fn_view_Msgs : Tryd.prog.funcs[30]? = some Tryd.f30 := by kernel_rfl
def view_Msgs_at0 (C : C0) (a0 : (List T_Entry)) (a1 : Int) (a2 : Int) (rows : List Ob) (r : AV) : Prop := Goes Tryd.prog C 30 [.code (bodyOf Tryd.prog 30)] ([(AV.sl .p (a0.map T_Entry.av)), (AV.int .i64 a1), (AV.int .i64 a2)] ++ junks 27) [] rows r
def view_Msgs_at1 (C : C0) (v0 : Int) (v1 : (List T_Entry)) (v2 : Int) (v3 : (List T_Message)) (rows : List Ob) (r : AV) : Prop := Goes Tryd.prog C 30 (ctl 11 [.code (bodyOf Tryd.prog 30)] []) (([AV.junk, AV.junk, (AV.int .i64 v0), AV.junk, AV.junk, AV.junk, (AV.own 0), (AV.sl .p (v1.map T_Entry.av)), (AV.int .i64 v2)] ++ junks 21)) [(Ob.row 35 7 (v3.map T_Message.av))] rows r
theorem view_Msgs_wp0 (X : Ctx E) (hB : Base Tryd.prog E C) (a0 : (List T_Entry)) (a1 : Int) (a2 : Int) {rows : List Ob} {r : AV} (h : (Small a0) ∧ (view_Msgs_at1 C (if ((someS a0).length : Int) < a2 then ((someS a0).length : Int) else a2) (someS a0) (if 0 > a1 then 0 else a1) [] rows r)) : view_Msgs_at0 C a0 a1 a2 rows r := by
  unfold view_Msgs_at0
  obtain ⟨hg1, h⟩ := h
  refine goes_cut hB (n := 11) (scr := [(7, .c [] (AV.sl .p ((someS a0).map T_Entry.av))), (20, .v (AV.int .i64 ((someS a0).length : Int)))]) (live := [2, 6, 7, 8]) (keep := []) (todo' := (ctl 11 [.code (bodyOf Tryd.prog 30)] [])) (ts' := ([AV.junk, AV.junk, (AV.int .i64 (if ((someS a0).length : Int) < a2 then ((someS a0).length : Int) else a2)), AV.junk, AV.junk, AV.junk, (AV.sl .n []), (AV.sl .p ((someS a0).map T_Entry.av)), (AV.int .i64 (if 0 > a1 then 0 else a1))] ++ junks 21)) (h' := []) (by kernel_rfl) (allc (len_raw (show ((someS a0).map T_Entry.av) = ((someS a0).map T_Entry.av) from rfl)) (allc (c_view_some X a0 hg1) alln)) (goes_eqS rfl rfl (goes_adopt (l := [(35, 7, none, 6)]) (ts' := ([AV.junk, AV.junk, (AV.int .i64 (if ((someS a0).length : Int) < a2 then ((someS a0).length : Int) else a2)), AV.junk, AV.junk, AV.junk, (AV.own 0), (AV.sl .p ((someS a0).map T_Entry.av)), (AV.int .i64 (if 0 > a1 then 0 else a1))] ++ junks 21)) (h' := [(Ob.row 35 7 [])]) (by kernel_rfl) h))
theorem view_Msgs_wp1 (X : Ctx E) (hB : Base Tryd.prog E C) (v0 : Int) (v1 : (List T_Entry)) (v2 : Int) (v3 : (List T_Message)) {rows : List Ob} {r : AV} (h : ((v2 < v0 → ∃ y3 : T_Entry, 0 ≤ (v2 : Int) ∧ v1[v2.toNat]? = some y3 ∧ (((v3).length + (y3.Msgs).length) * 64 ≤ 140737488355328 ∧ (v3).length + (y3.Msgs).length ≤ 140737488355328) ∧ ((-9223372036854775808) ≤ (v2 + 1) ∧ (v2 + 1) ≤ 9223372036854775807) ∧ (view_Msgs_at1 C v0 v1 (v2 + 1) (v3 ++ y3.Msgs) rows r)) ∧ (¬ (v2 < v0) → (rows = [(Ob.row 35 7 (v3.map T_Message.av))] ∧ r = (AV.own 0))))) : view_Msgs_at1 C v0 v1 v2 v3 rows r := by
  unfold view_Msgs_at1
  rcases Classical.em (v2 < v0) with hc2 | hc2
  · have h := h.1 hc2
    obtain ⟨y3, hg4, he5, h⟩ := h
    obtain ⟨hg6, h⟩ := h
    obtain ⟨hg7, h⟩ := h
    refine goes_cut hB (n := 11) (scr := [(9, .b true), (20, .e (AV.agg [(AV.int .i64 y3.Term), (AV.int .i64 y3.Epoch), (AV.int .i64 y3.Members), (AV.sl .p (y3.Incs.map (AV.int .i64))), (AV.sl .p (y3.Msgs.map T_Message.av))])), (39, .v (AV.int .i64 (v2 + 1)))]) (live := [2, 6, 7, 8]) (keep := [1]) (todo' := (ctl 11 [.code (bodyOf Tryd.prog 30)] [])) (ts' := ([AV.junk, AV.junk, (AV.int .i64 v0), AV.junk, AV.junk, AV.junk, (AV.own 0), (AV.sl .p (v1.map T_Entry.av)), (AV.int .i64 (v2 + 1))] ++ junks 21)) (h' := [(Ob.row 35 7 ((v3.map T_Message.av) ++ (y3.Msgs.map T_Message.av)))]) (by kernel_rfl) (allc (wrap_i64 hg7) (allc (cells_raw (show (y3.Msgs.map T_Message.av) = (y3.Msgs.map T_Message.av) from rfl) cells_T_Message) (allc (le_raw3 (show (v3.map T_Message.av) = (v3.map T_Message.av) from rfl) (show (y3.Msgs.map T_Message.av) = (y3.Msgs.map T_Message.av) from rfl) hg6.1) (allc (le_raw4 (show (v3.map T_Message.av) = (v3.map T_Message.av) from rfl) (show (y3.Msgs.map T_Message.av) = (y3.Msgs.map T_Message.av) from rfl) hg6.2) (allc (And.intro hg4 (get_raw (show (v1.map T_Entry.av) = (v1.map T_Entry.av) from rfl) he5)) (allc (decide_eq_true hc2) alln)))))) (goes_eqS rfl (by first | rfl | (simp only [List.map_append, List.map_cons, List.map_nil, List.map_set, List.map_take, List.map_drop, List.append_nil, List.nil_append, List.map_replicate, List.length_replicate, List.length_map]; try rfl)) h)
  · have h := h.2 hc2
    obtain ⟨h1, h2⟩ := h
    refine goes_eqR (h1.trans rfl) (h2.trans rfl) ((goes_ret (rows := [(Ob.row 35 7 (v3.map T_Message.av))]) (r := (AV.own 0)) hB fn_view_Msgs (rv := [.tmp 6]) (by kernel_rfl) (n := 7) (scr := [(9, .b false)]) (keep := [0]) (by kernel_rfl) (allc (decide_eq_false hc2) alln)))
theorem view_Msgs_calls (X : Ctx E) (a0 : (List T_Entry)) (a1 : Int) (a2 : Int) {rows : List Ob} {r : AV} (h : ∀ C, Base Tryd.prog E C → view_Msgs_at0 C a0 a1 a2 rows r) : ACalls Tryd.prog E 30 [(AV.sl .p (a0.map T_Entry.av)), (AV.int .i64 a1), (AV.int .i64 a2)] rows r :=
  acalls_of_goes X.env X.good fn_view_Msgs (c := bodyOf Tryd.prog 30) (by kernel_rfl) (by kernel_rfl) (m := 27) (by kernel_rfl) h
theorem view_Msgs_loop (X : Ctx E) (hB : Base Tryd.prog E C) (x : List T_Entry) (a b : Int) (hc : (flatM x).length ≤ 1000000) (hl : x.length ≤ 1000000) (t : Int) (ht : t = if (x.length : Int) < b then (x.length : Int) else b) :
    ∀ (k i : Nat), min b.toNat x.length - i = k → a.toNat ≤ i → (i ≤ min b.toNat x.length ∨ i = a.toNat) → view_Msgs_at1 C t x (i : Int) (flatM ((x.take i).drop a.toNat)) [(Ob.row 35 7 ((flatM ((x.take b.toNat).drop a.toNat)).map T_Message.av))] (AV.own 0) := by
  intro k
  induction k with
  | zero =>
    intro i h1 h2 h3
    have he : flatM ((x.take i).drop a.toNat) = flatM ((x.take b.toNat).drop a.toNat) := by
      rcases h3 with h3 | h3
      · have : i = min b.toNat x.length := by omega
        rw [this]
        by_cases hb : b.toNat ≤ x.length
        · rw [Nat.min_eq_left hb]
        · rw [Nat.min_eq_right (by omega), List.take_of_length_le (by omega), List.take_of_length_le (by omega)]
      · rw [List.drop_eq_nil_of_le (by simp; omega), List.drop_eq_nil_of_le (by simp; omega)]
    refine view_Msgs_wp1 X hB _ _ _ _ ⟨fun h => ?_, fun _ => ⟨by rw [he], rfl⟩⟩
    exfalso
    rw [ht] at h
    split at h <;> omega
  | succ k ih =>
    intro i h1 h2 h3
    have hi : i < x.length := by omega
    have hs : flatM ((x.take (i + 1)).drop a.toNat) = flatM ((x.take i).drop a.toNat) ++ (x[i]).Msgs := by
      rw [← take_snoc hi, List.drop_append_of_le_length (by simp; omega), flatM_append]
      simp [flatM]
    have hp := flatM_part x (i + 1) a.toNat
    rw [hs, List.length_append] at hp
    have hn := ih (i + 1) (by omega) (by omega) (by omega)
    rw [hs] at hn
    refine view_Msgs_wp1 X hB _ _ _ _ ⟨fun h => ⟨x[i], by omega, by simp [hi], by omega, by omega, hn⟩, fun h => ?_⟩
    exfalso
    rw [ht] at h
    split at h <;> omega
theorem c_view_Msgs (X : Ctx E) (a0 : List T_Entry) (a1 a2 : Int) (h0 : Small a0) (h1 : msgCount a0 ≤ 1000000) : ACalls Tryd.prog E n_view_Msgs [(AV.sl .p (a0.map T_Entry.av)), AV.int .i64 a1, AV.int .i64 a2] [(Ob.row 35 7 ((msgsS a0 a1 a2).map T_Message.av))] (AV.own 0) :=
  view_Msgs_calls X a0 a1 a2 fun C hB => view_Msgs_wp0 X hB a0 a1 a2 (by
    refine ⟨h0, ?_⟩
    have hl := some_length a0
    have h2 := h0.1
    have := view_Msgs_loop X hB (someS a0) a1 a2 (Nat.le_trans (count_some a0) h1) (by omega) _ rfl _ a1.toNat rfl (Nat.le_refl _) (.inr rfl)
    rw [List.drop_eq_nil_of_le (by simp; omega)] at this
    rw [show (if (0 : Int) > a1 then 0 else a1) = (a1.toNat : Int) by split <;> omega]
    exact this)

/-! ### omnibus/view.Seen -/
theorem fn_view_Seen : Tryd.prog.funcs[35]? = some Tryd.f35 := by kernel_rfl
def view_Seen_at0 (C : C0) (a0 : (List T_Entry)) (a1 : Int) (a2 : Int) (rows : List Ob) (r : AV) : Prop := Goes Tryd.prog C 35 [.code (bodyOf Tryd.prog 35)] ([(AV.sl .p (a0.map T_Entry.av)), (AV.int .i64 a1), (AV.int .i64 a2)] ++ junks 31) [] rows r
def view_Seen_at1 (C : C0) (v0 : Int) (v1 : Int) (v2 : Int) (v3 : Int) (v4 : Int) (v5 : (List T_Message)) (rows : List Ob) (r : AV) : Prop := Goes Tryd.prog C 35 (ctl 7 [.code (bodyOf Tryd.prog 35)] []) (([AV.junk, (AV.int .i64 v0), (AV.int .i64 v1), AV.junk, AV.junk, AV.junk, (AV.int .i64 v2), AV.junk, AV.junk, AV.junk, AV.junk, AV.junk, (AV.own 0), (AV.int .i64 v3), (AV.int .i64 v4)] ++ junks 19)) [(Ob.row 35 7 (v5.map T_Message.av))] rows r
theorem view_Seen_wp0 (X : Ctx E) (hB : Base Tryd.prog E C) (a0 : (List T_Entry)) (a1 : Int) (a2 : Int) {rows : List Ob} {r : AV} (h : (Small a0) ∧ (msgCount a0 ≤ 1000000) ∧ (view_Seen_at1 C a1 a2 0 ((msgsS a0 0 (a0.length : Int)).length : Int) 0 (msgsS a0 0 (a0.length : Int)) rows r)) : view_Seen_at0 C a0 a1 a2 rows r := by
  unfold view_Seen_at0
  obtain ⟨hg1, h⟩ := h
  obtain ⟨hg2, h⟩ := h
  refine goes_cut hB (n := 7) (scr := [(11, .v (AV.int .i64 (a0.length : Int))), (13, .cf [(Ob.row 35 7 ((msgsS a0 0 (a0.length : Int)).map T_Message.av))] (AV.own 0)), (17, .v (AV.int .i64 ((msgsS a0 0 (a0.length : Int)).length : Int)))]) (live := [1, 2, 6, 12, 13, 14]) (keep := [0]) (todo' := (ctl 7 [.code (bodyOf Tryd.prog 35)] [])) (ts' := ([AV.junk, (AV.int .i64 a1), (AV.int .i64 a2), AV.junk, AV.junk, AV.junk, (AV.int .i64 0), AV.junk, AV.junk, AV.junk, AV.junk, AV.junk, (AV.own 0), (AV.int .i64 ((msgsS a0 0 (a0.length : Int)).length : Int)), (AV.int .i64 0)] ++ junks 19)) (h' := [(Ob.row 35 7 ((msgsS a0 0 (a0.length : Int)).map T_Message.av))]) (by kernel_rfl) (allc (len_raw (show ((msgsS a0 0 (a0.length : Int)).map T_Message.av) = ((msgsS a0 0 (a0.length : Int)).map T_Message.av) from rfl)) (allc (c_view_Msgs X a0 0 (a0.length : Int) hg1 hg2) (allc (show rowsFlat [(Ob.row 35 7 ((msgsS a0 0 (a0.length : Int)).map T_Message.av))] from ⟨flat_raw (show ((msgsS a0 0 (a0.length : Int)).map T_Message.av) = ((msgsS a0 0 (a0.length : Int)).map T_Message.av) from rfl) flat_T_Message, trivial⟩) (allc (len_raw (show (a0.map T_Entry.av) = (a0.map T_Entry.av) from rfl)) alln)))) (goes_eqS rfl rfl h)
theorem view_Seen_wp1 (X : Ctx E) (hB : Base Tryd.prog E C) (v0 : Int) (v1 : Int) (v2 : Int) (v3 : Int) (v4 : Int) (v5 : (List T_Message)) {rows : List Ob} {r : AV} (h : ((v4 < v3 → ((0 : Int) ≤ v4 ∧ (v4 : Int) < (v5.length : Int)) ∧ ∃ y5 : T_Message, 0 ≤ (v4 : Int) ∧ v5[v4.toNat]? = some y5 ∧ ((y5.Sender = v0 → ((y5.Inc = v1 → ((-9223372036854775808) ≤ (v4 + 1) ∧ (v4 + 1) ≤ 9223372036854775807) ∧ (view_Seen_at1 C v0 v1 (if y5.Seq > v2 then y5.Seq else v2) v3 (v4 + 1) v5 rows r)) ∧ (¬ (y5.Inc = v1) → ((-9223372036854775808) ≤ (v4 + 1) ∧ (v4 + 1) ≤ 9223372036854775807) ∧ (view_Seen_at1 C v0 v1 v2 v3 (v4 + 1) v5 rows r)))) ∧ (¬ (y5.Sender = v0) → ((-9223372036854775808) ≤ (v4 + 1) ∧ (v4 + 1) ≤ 9223372036854775807) ∧ (view_Seen_at1 C v0 v1 v2 v3 (v4 + 1) v5 rows r)))) ∧ (¬ (v4 < v3) → (rows = [] ∧ r = (AV.int .i64 v2))))) : view_Seen_at1 C v0 v1 v2 v3 v4 v5 rows r := by
  unfold view_Seen_at1
  rcases Classical.em (v4 < v3) with hc3 | hc3
  · have h := h.1 hc3
    obtain ⟨hg4, h⟩ := h
    obtain ⟨y5, hg6, he7, h⟩ := h
    rcases Classical.em (y5.Sender = v0) with hc8 | hc8
    · have h := h.1 hc8
      rcases Classical.em (y5.Inc = v1) with hc9 | hc9
      · have h := h.1 hc9
        obtain ⟨hg10, h⟩ := h
        refine goes_cut hB (n := 16) (scr := [(3, .b true), (8, .e (AV.agg [(AV.bool y5.Id_Ext), (AV.int .i64 y5.Id_N), (AV.int .i64 y5.Sender), (AV.int .i64 y5.Inc), (AV.int .i64 y5.Seq), (AV.int .i64 y5.Number), (AV.str y5.Data)])), (31, .b true), (34, .b true), (37, .b true), (40, .b true), (44, .b true), (46, .b true), (64, .v (AV.int .i64 (v4 + 1)))]) (live := [1, 2, 6, 12, 13, 14]) (keep := [0]) (todo' := (ctl 7 [.code (bodyOf Tryd.prog 35)] [])) (ts' := ([AV.junk, (AV.int .i64 v0), (AV.int .i64 v1), AV.junk, AV.junk, AV.junk, (AV.int .i64 (if y5.Seq > v2 then y5.Seq else v2)), AV.junk, AV.junk, AV.junk, AV.junk, AV.junk, (AV.own 0), (AV.int .i64 v3), (AV.int .i64 (v4 + 1))] ++ junks 19)) (h' := [(Ob.row 35 7 (v5.map T_Message.av))]) (by kernel_rfl) (allc (wrap_i64 hg10) (allc (ieqT hc9) (allc (ieqT hc8) (allc (ieqT hc8) (allc (ieqT hc8) (allc (ieqT hc8) (allc (ieqT hc8) (allc (get_raw (show (v5.map T_Message.av) = (v5.map T_Message.av) from rfl) he7) (allc (lt_raw (show (v5.map T_Message.av) = (v5.map T_Message.av) from rfl) hg4) (allc (decide_eq_true hc3) alln)))))))))) (goes_eqS rfl rfl h)
      · have h := h.2 hc9
        obtain ⟨hg11, h⟩ := h
        refine goes_cut hB (n := 16) (scr := [(3, .b true), (8, .e (AV.agg [(AV.bool y5.Id_Ext), (AV.int .i64 y5.Id_N), (AV.int .i64 y5.Sender), (AV.int .i64 y5.Inc), (AV.int .i64 y5.Seq), (AV.int .i64 y5.Number), (AV.str y5.Data)])), (31, .b true), (34, .b true), (37, .b true), (40, .b true), (44, .b true), (46, .b false), (49, .v (AV.int .i64 (v4 + 1)))]) (live := [1, 2, 6, 12, 13, 14]) (keep := [0]) (todo' := (ctl 7 [.code (bodyOf Tryd.prog 35)] [])) (ts' := ([AV.junk, (AV.int .i64 v0), (AV.int .i64 v1), AV.junk, AV.junk, AV.junk, (AV.int .i64 v2), AV.junk, AV.junk, AV.junk, AV.junk, AV.junk, (AV.own 0), (AV.int .i64 v3), (AV.int .i64 (v4 + 1))] ++ junks 19)) (h' := [(Ob.row 35 7 (v5.map T_Message.av))]) (by kernel_rfl) (allc (wrap_i64 hg11) (allc (ieqF hc9) (allc (ieqT hc8) (allc (ieqT hc8) (allc (ieqT hc8) (allc (ieqT hc8) (allc (ieqT hc8) (allc (get_raw (show (v5.map T_Message.av) = (v5.map T_Message.av) from rfl) he7) (allc (lt_raw (show (v5.map T_Message.av) = (v5.map T_Message.av) from rfl) hg4) (allc (decide_eq_true hc3) alln)))))))))) (goes_eqS rfl rfl h)
    · have h := h.2 hc8
      obtain ⟨hg12, h⟩ := h
      refine goes_cut hB (n := 16) (scr := [(3, .b true), (8, .e (AV.agg [(AV.bool y5.Id_Ext), (AV.int .i64 y5.Id_N), (AV.int .i64 y5.Sender), (AV.int .i64 y5.Inc), (AV.int .i64 y5.Seq), (AV.int .i64 y5.Number), (AV.str y5.Data)])), (31, .b false), (34, .b false), (37, .b false), (40, .b false), (44, .b false), (49, .v (AV.int .i64 (v4 + 1)))]) (live := [1, 2, 6, 12, 13, 14]) (keep := [0]) (todo' := (ctl 7 [.code (bodyOf Tryd.prog 35)] [])) (ts' := ([AV.junk, (AV.int .i64 v0), (AV.int .i64 v1), AV.junk, AV.junk, AV.junk, (AV.int .i64 v2), AV.junk, AV.junk, AV.junk, AV.junk, AV.junk, (AV.own 0), (AV.int .i64 v3), (AV.int .i64 (v4 + 1))] ++ junks 19)) (h' := [(Ob.row 35 7 (v5.map T_Message.av))]) (by kernel_rfl) (allc (wrap_i64 hg12) (allc (ieqF hc8) (allc (ieqF hc8) (allc (ieqF hc8) (allc (ieqF hc8) (allc (ieqF hc8) (allc (get_raw (show (v5.map T_Message.av) = (v5.map T_Message.av) from rfl) he7) (allc (lt_raw (show (v5.map T_Message.av) = (v5.map T_Message.av) from rfl) hg4) (allc (decide_eq_true hc3) alln))))))))) (goes_eqS rfl rfl h)
  · have h := h.2 hc3
    obtain ⟨h1, h2⟩ := h
    refine goes_eqR (h1.trans rfl) (h2.trans rfl) ((goes_ret (rows := []) (r := (AV.int .i64 v2)) hB fn_view_Seen (rv := [.tmp 6]) (by kernel_rfl) (n := 7) (scr := [(3, .b false)]) (keep := []) (by kernel_rfl) (allc (decide_eq_false hc3) alln)))
theorem view_Seen_calls (X : Ctx E) (a0 : (List T_Entry)) (a1 : Int) (a2 : Int) {rows : List Ob} {r : AV} (h : ∀ C, Base Tryd.prog E C → view_Seen_at0 C a0 a1 a2 rows r) : ACalls Tryd.prog E 35 [(AV.sl .p (a0.map T_Entry.av)), (AV.int .i64 a1), (AV.int .i64 a2)] rows r :=
  acalls_of_goes X.env X.good fn_view_Seen (c := bodyOf Tryd.prog 35) (by kernel_rfl) (by kernel_rfl) (m := 31) (by kernel_rfl) h
theorem view_Seen_loop (X : Ctx E) (hB : Base Tryd.prog E C) (l : List T_Message) (n q : Int) (hl : l.length ≤ 1000000) : ∀ (k i : Nat), l.length - i = k → i ≤ l.length → view_Seen_at1 C n q (seenL n q 0 (l.take i)) (l.length : Int) (i : Int) l [] (AV.int .i64 (seenL n q 0 l)) := by
  intro k
  induction k with
  | zero =>
    intro i h1 h2
    refine view_Seen_wp1 X hB _ _ _ _ _ _ ⟨fun h => by omega, fun _ => ⟨rfl, ?_⟩⟩
    rw [List.take_of_length_le (by omega)]
  | succ k ih =>
    intro i h1 h2
    have hi : i < l.length := by omega
    have hn := ih (i + 1) (by omega) (by omega)
    rw [← take_snoc hi, seenL_snoc] at hn
    refine view_Seen_wp1 X hB _ _ _ _ _ _ ⟨fun h => ⟨by omega, l[i], by omega, by simp [hi], fun g1 => ⟨fun g2 => ⟨by omega, ?_⟩, fun g2 => ⟨by omega, ?_⟩⟩, fun g1 => ⟨by omega, ?_⟩⟩, fun h => by omega⟩
    · rw [if_pos ⟨g1, g2⟩] at hn; exact hn
    · rw [if_neg (fun h => g2 h.2)] at hn; exact hn
    · rw [if_neg (fun h => g1 h.1)] at hn; exact hn
theorem c_view_Seen (X : Ctx E) (a0 : List T_Entry) (a1 a2 : Int) (h0 : Small a0) (h1 : msgCount a0 ≤ 1000000) : ACalls Tryd.prog E n_view_Seen [(AV.sl .p (a0.map T_Entry.av)), AV.int .i64 a1, AV.int .i64 a2] [] (AV.int .i64 (seenS a0 a1 a2)) :=
  view_Seen_calls X a0 a1 a2 fun C hB => view_Seen_wp0 X hB a0 a1 a2 ⟨h0, h1, view_Seen_loop X hB _ a1 a2 (Nat.le_trans (msgs_length _ _ _) h1) _ 0 rfl (by omega)⟩

/-! ### omnibus/view.small -/
theorem fn_view_small : Tryd.prog.funcs[76]? = some Tryd.f76 := by kernel_rfl
def view_small_at0 (C : C0) (a0 : Int) (rows : List Ob) (r : AV) : Prop := Goes Tryd.prog C 76 [.code (bodyOf Tryd.prog 76)] ([(AV.int .i64 a0)] ++ junks 8) [] rows r
theorem view_small_wp0 (X : Ctx E) (hB : Base Tryd.prog E C) (a0 : Int) {rows : List Ob} {r : AV} (h : ((a0 ≥ 1 → (rows = [] ∧ r = (AV.bool (decide (a0 ≤ 65535))))) ∧ (¬ (a0 ≥ 1) → (rows = [] ∧ r = (AV.bool false))))) : view_small_at0 C a0 rows r := by
  unfold view_small_at0
  rcases Classical.em (a0 ≥ 1) with hc1 | hc1
  · have h := h.1 hc1
    obtain ⟨h1, h2⟩ := h
    refine goes_eqR (h1.trans rfl) (h2.trans rfl) ((goes_ret (rows := []) (r := (AV.bool (decide (a0 ≤ 65535)))) hB fn_view_small (rv := [.tmp 2]) (by kernel_rfl) (n := 4) (scr := [(12, .b true), (15, .b true), (19, .b true)]) (keep := []) (by kernel_rfl) (allc (decide_eq_true hc1) (allc (decide_eq_true hc1) (allc (decide_eq_true hc1) alln)))))
  · have h := h.2 hc1
    obtain ⟨h1, h2⟩ := h
    refine goes_eqR (h1.trans rfl) (h2.trans rfl) ((goes_ret (rows := []) (r := (AV.bool false)) hB fn_view_small (rv := [.tmp 2]) (by kernel_rfl) (n := 4) (scr := [(12, .b false), (15, .b false), (19, .b false)]) (keep := []) (by kernel_rfl) (allc (decide_eq_false hc1) (allc (decide_eq_false hc1) (allc (decide_eq_false hc1) alln)))))
theorem view_small_calls (X : Ctx E) (a0 : Int) {rows : List Ob} {r : AV} (h : ∀ C, Base Tryd.prog E C → view_small_at0 C a0 rows r) : ACalls Tryd.prog E 76 [(AV.int .i64 a0)] rows r :=
  acalls_of_goes X.env X.good fn_view_small (c := bodyOf Tryd.prog 76) (by kernel_rfl) (by kernel_rfl) (m := 8) (by kernel_rfl) h
theorem c_view_small (X : Ctx E) (a0 : Int)  : ACalls Tryd.prog E n_view_small [(AV.int .i64 a0)] [] (AV.bool (smallS a0)) :=
  view_small_calls X a0 fun C hB => view_small_wp0 X hB a0 ⟨fun h => ⟨rfl, by congr 1; exact decide_eq_decide.2 (by omega)⟩, fun h => ⟨rfl, by congr 1; exact decide_eq_false (by omega)⟩⟩

/-! ### omnibus/view.members -/
theorem fn_view_members : Tryd.prog.funcs[77]? = some Tryd.f77 := by kernel_rfl
def view_members_at0 (C : C0) (a0 : Int) (a1 : Int) (a2 : Int) (a3 : (List Int)) (rows : List Ob) (r : AV) : Prop := Goes Tryd.prog C 77 [.code (bodyOf Tryd.prog 77)] ([(AV.int .i64 a0), (AV.int .i64 a1), (AV.int .i64 a2), (AV.sl .p (a3.map (AV.int .i64)))] ++ junks 45) [] rows r
def view_members_at1 (C : C0) (v0 : (List Int)) (v1 : Int) (v2 : Int) (v3 : Int) (v4 : Int) (v5 : Int) (v6 : (List Int)) (v7 : Int) (v8 : Int) (v9 : Int) (v10 : (List Int)) (v11 : (List Int)) (rows : List Ob) (r : AV) : Prop := Goes Tryd.prog C 77 (ctl 9 [.code (bodyOf Tryd.prog 77)] []) (([AV.junk, AV.junk, AV.junk, (AV.sl .p (v0.map (AV.int .i64))), AV.junk, AV.junk, AV.junk, AV.junk, (AV.ptr 0 0), (AV.ptr 2 0), AV.junk, AV.junk, AV.junk, AV.junk, AV.junk, AV.junk, (AV.own 4), (AV.int .i64 v1), (AV.int .i64 v2)] ++ junks 30)) [(Ob.box 56 [(AV.int .i64 v3), (AV.int .i64 v4), (AV.int .i64 v5), (AV.own 1), (AV.sl .n [])]), (Ob.row 3 1 (v6.map (AV.int .i64))), (Ob.box 56 [(AV.int .i64 v7), (AV.int .i64 v8), (AV.int .i64 v9), (AV.own 3), (AV.sl .n [])]), (Ob.row 3 1 (v10.map (AV.int .i64))), (Ob.row 3 1 (v11.map (AV.int .i64)))] rows r
theorem view_members_wp0 (X : Ctx E) (hB : Base Tryd.prog E C) (a0 : Int) (a1 : Int) (a2 : Int) (a3 : (List Int)) {rows : List Ob} {r : AV} (h : (view_members_at1 C a3 ((listS a2).length : Int) 0 0 0 0 [] a0 a1 0 [] (listS a2) rows r)) : view_members_at0 C a0 a1 a2 a3 rows r := by
  unfold view_members_at0
  refine goes_cut hB (n := 9) (scr := [(22, .cf [(Ob.row 3 1 ((listS a2).map (AV.int .i64)))] (AV.own 0)), (26, .v (AV.int .i64 ((listS a2).length : Int)))]) (live := [3, 8, 9, 16, 17, 18]) (keep := [0, 1, 2]) (todo' := (ctl 9 [.code (bodyOf Tryd.prog 77)] [])) (ts' := ([AV.junk, AV.junk, AV.junk, (AV.sl .p (a3.map (AV.int .i64))), AV.junk, AV.junk, AV.junk, AV.junk, (AV.ptr 0 0), (AV.ptr 1 0), AV.junk, AV.junk, AV.junk, AV.junk, AV.junk, AV.junk, (AV.own 2), (AV.int .i64 ((listS a2).length : Int)), (AV.int .i64 0)] ++ junks 30)) (h' := [(Ob.box 56 [(AV.int .i64 0), (AV.int .i64 0), (AV.int .i64 0), (AV.sl .n []), (AV.sl .n [])]), (Ob.box 56 [(AV.int .i64 a0), (AV.int .i64 a1), (AV.int .i64 0), (AV.sl .n []), (AV.sl .n [])]), (Ob.row 3 1 ((listS a2).map (AV.int .i64)))]) (by kernel_rfl) (allc (len_raw (show ((listS a2).map (AV.int .i64)) = ((listS a2).map (AV.int .i64)) from rfl)) (allc (c_vec_List X a2) (allc (show rowsFlat [(Ob.row 3 1 ((listS a2).map (AV.int .i64)))] from ⟨flat_raw (show ((listS a2).map (AV.int .i64)) = ((listS a2).map (AV.int .i64)) from rfl) flat_int_i64, trivial⟩) alln))) (goes_eqS rfl rfl (goes_adopt (l := [(3, 1, some 0, 3), (3, 1, some 1, 3)]) (ts' := ([AV.junk, AV.junk, AV.junk, (AV.sl .p (a3.map (AV.int .i64))), AV.junk, AV.junk, AV.junk, AV.junk, (AV.ptr 0 0), (AV.ptr 1 0), AV.junk, AV.junk, AV.junk, AV.junk, AV.junk, AV.junk, (AV.own 2), (AV.int .i64 ((listS a2).length : Int)), (AV.int .i64 0)] ++ junks 30)) (h' := [(Ob.box 56 [(AV.int .i64 0), (AV.int .i64 0), (AV.int .i64 0), (AV.own 3), (AV.sl .n [])]), (Ob.box 56 [(AV.int .i64 a0), (AV.int .i64 a1), (AV.int .i64 0), (AV.own 4), (AV.sl .n [])]), (Ob.row 3 1 ((listS a2).map (AV.int .i64))), (Ob.row 3 1 []), (Ob.row 3 1 [])]) (by kernel_rfl) ?_))
  refine goes_cut hB (n := 0) (scr := []) (live := [3, 8, 9, 16, 17, 18]) (keep := [0, 3, 1, 4, 2]) (todo' := (ctl 9 [.code (bodyOf Tryd.prog 77)] [])) (ts' := ([AV.junk, AV.junk, AV.junk, (AV.sl .p (a3.map (AV.int .i64))), AV.junk, AV.junk, AV.junk, AV.junk, (AV.ptr 0 0), (AV.ptr 2 0), AV.junk, AV.junk, AV.junk, AV.junk, AV.junk, AV.junk, (AV.own 4), (AV.int .i64 ((listS a2).length : Int)), (AV.int .i64 0)] ++ junks 30)) (h' := [(Ob.box 56 [(AV.int .i64 0), (AV.int .i64 0), (AV.int .i64 0), (AV.own 1), (AV.sl .n [])]), (Ob.row 3 1 []), (Ob.box 56 [(AV.int .i64 a0), (AV.int .i64 a1), (AV.int .i64 0), (AV.own 3), (AV.sl .n [])]), (Ob.row 3 1 []), (Ob.row 3 1 ((listS a2).map (AV.int .i64)))]) (by kernel_rfl) alln (goes_eqS rfl rfl h)
theorem view_members_wp1 (X : Ctx E) (hB : Base Tryd.prog E C) (v0 : (List Int)) (v1 : Int) (v2 : Int) (v3 : Int) (v4 : Int) (v5 : Int) (v6 : (List Int)) (v7 : Int) (v8 : Int) (v9 : Int) (v10 : (List Int)) (v11 : (List Int)) {rows : List Ob} {r : AV} (h : ((v2 < v1 → ((0 : Int) ≤ v2 ∧ (v2 : Int) < (v11.length : Int)) ∧ ∃ y3 : Int, 0 ≤ (v2 : Int) ∧ v11[v2.toNat]? = some y3 ∧ ((y3 < (v0.length : Int) → ∃ y7 : Int, 0 ≤ (y3 : Int) ∧ v0[y3.toNat]? = some y7 ∧ (((smallS y7) = true → (((v10).length + ([y7]).length) * 8 ≤ 140737488355328 ∧ (v10).length + ([y7]).length ≤ 140737488355328) ∧ ((-9223372036854775808) ≤ (v2 + 1) ∧ (v2 + 1) ≤ 9223372036854775807) ∧ (view_members_at1 C v0 v1 (v2 + 1) v3 v4 v5 v6 v7 v8 (withS v9 y3) (v10 ++ ([y7])) v11 rows r)) ∧ (¬ ((smallS y7) = true) → ((-9223372036854775808) ≤ (v2 + 1) ∧ (v2 + 1) ≤ 9223372036854775807) ∧ (view_members_at1 C v0 v1 (v2 + 1) v3 v4 v5 v6 v7 v8 v9 v10 v11 rows r)))) ∧ (¬ (y3 < (v0.length : Int)) → ((-9223372036854775808) ≤ (v2 + 1) ∧ (v2 + 1) ≤ 9223372036854775807) ∧ (view_members_at1 C v0 v1 (v2 + 1) v3 v4 v5 v6 v7 v8 v9 v10 v11 rows r)))) ∧ (¬ (v2 < v1) → (rows = [(Ob.row 3 1 (v10.map (AV.int .i64)))] ∧ r = (AV.agg [(AV.int .i64 v7), (AV.int .i64 v8), (AV.int .i64 v9), (AV.own 0), (AV.sl .n [])]))))) : view_members_at1 C v0 v1 v2 v3 v4 v5 v6 v7 v8 v9 v10 v11 rows r := by
  unfold view_members_at1
  rcases Classical.em (v2 < v1) with hc1 | hc1
  · have h := h.1 hc1
    obtain ⟨hg2, h⟩ := h
    obtain ⟨y3, hg4, he5, h⟩ := h
    rcases Classical.em (y3 < (v0.length : Int)) with hc6 | hc6
    · have h := h.1 hc6
      obtain ⟨y7, hg8, he9, h⟩ := h
      rcases Classical.em ((smallS y7) = true) with hc10 | hc10
      · have h := h.1 hc10
        obtain ⟨hg11, h⟩ := h
        obtain ⟨hg12, h⟩ := h
        refine goes_cut hB (n := 18) (scr := [(3, .b true), (8, .e (AV.int .i64 y3)), (21, .v (AV.int .i64 (v0.length : Int))), (28, .b true), (31, .b true), (34, .b true), (35, .e (AV.int .i64 y7)), (37, .b true), (40, .b true), (41, .cf [] (AV.bool (smallS y7))), (44, .b true), (46, .b true), (57, .cf [] (AV.int .i64 (withS v9 y3))), (78, .e (AV.int .i64 y7)), (97, .v (AV.int .i64 (v2 + 1)))]) (live := [3, 8, 9, 16, 17, 18]) (keep := [0, 1, 2, 6, 4]) (todo' := (ctl 9 [.code (bodyOf Tryd.prog 77)] [])) (ts' := ([AV.junk, AV.junk, AV.junk, (AV.sl .p (v0.map (AV.int .i64))), AV.junk, AV.junk, AV.junk, AV.junk, (AV.ptr 0 0), (AV.ptr 2 0), AV.junk, AV.junk, AV.junk, AV.junk, AV.junk, AV.junk, (AV.own 4), (AV.int .i64 v1), (AV.int .i64 (v2 + 1))] ++ junks 30)) (h' := [(Ob.box 56 [(AV.int .i64 v3), (AV.int .i64 v4), (AV.int .i64 v5), (AV.own 1), (AV.sl .n [])]), (Ob.row 3 1 (v6.map (AV.int .i64))), (Ob.box 56 [(AV.int .i64 v7), (AV.int .i64 v8), (AV.int .i64 (withS v9 y3)), (AV.own 3), (AV.sl .n [])]), (Ob.row 3 1 ((v10.map (AV.int .i64)) ++ ([(AV.int .i64 y7)]))), (Ob.row 3 1 (v11.map (AV.int .i64)))]) (by kernel_rfl) (allc (wrap_i64 hg12) (allc (cells_raw (show [(AV.int .i64 y7)] = (([y7]).map (AV.int .i64)) from by first | rfl | (simp only [List.map_append, List.map_cons, List.map_nil, List.map_set, List.map_take, List.map_drop, List.append_nil, List.nil_append, List.map_replicate, List.length_replicate, List.length_map]; try rfl)) cells_int_i64) (allc (le_raw3 (show (v10.map (AV.int .i64)) = (v10.map (AV.int .i64)) from rfl) (show [(AV.int .i64 y7)] = (([y7]).map (AV.int .i64)) from by first | rfl | (simp only [List.map_append, List.map_cons, List.map_nil, List.map_set, List.map_take, List.map_drop, List.append_nil, List.nil_append, List.map_replicate, List.length_replicate, List.length_map]; try rfl)) hg11.1) (allc (le_raw4 (show (v10.map (AV.int .i64)) = (v10.map (AV.int .i64)) from rfl) (show [(AV.int .i64 y7)] = (([y7]).map (AV.int .i64)) from by first | rfl | (simp only [List.map_append, List.map_cons, List.map_nil, List.map_set, List.map_take, List.map_drop, List.append_nil, List.nil_append, List.map_replicate, List.length_replicate, List.length_map]; try rfl)) hg11.2) (allc (And.intro hg8 (get_raw (show (v0.map (AV.int .i64)) = (v0.map (AV.int .i64)) from rfl) he9)) (allc (c_vec_With X v9 y3) (allc (show rowsFlat [] from trivial) (allc hc10 (allc (decide_eq_true hc6) (allc (c_view_small X y7) (allc (show rowsFlat [] from trivial) (allc (decide_eq_true hc6) (allc (decide_eq_true hc6) (allc (And.intro hg8 (get_raw (show (v0.map (AV.int .i64)) = (v0.map (AV.int .i64)) from rfl) he9)) (allc (decide_eq_true hc6) (allc (decide_eq_true hc6) (allc (decide_eq_true hc6) (allc (len_raw (show (v0.map (AV.int .i64)) = (v0.map (AV.int .i64)) from rfl)) (allc (get_raw (show (v11.map (AV.int .i64)) = (v11.map (AV.int .i64)) from rfl) he5) (allc (lt_raw (show (v11.map (AV.int .i64)) = (v11.map (AV.int .i64)) from rfl) hg2) (allc (decide_eq_true hc1) alln))))))))))))))))))))) (goes_eqS rfl (by first | rfl | (simp only [List.map_append, List.map_cons, List.map_nil, List.map_set, List.map_take, List.map_drop, List.append_nil, List.nil_append, List.map_replicate, List.length_replicate, List.length_map]; try rfl)) h)
      · have h := h.2 hc10
        obtain ⟨hg13, h⟩ := h
        refine goes_cut hB (n := 16) (scr := [(3, .b true), (8, .e (AV.int .i64 y3)), (21, .v (AV.int .i64 (v0.length : Int))), (28, .b true), (31, .b true), (34, .b true), (35, .e (AV.int .i64 y7)), (37, .b true), (40, .b true), (41, .cf [] (AV.bool (smallS y7))), (44, .b true), (46, .b false), (49, .v (AV.int .i64 (v2 + 1)))]) (live := [3, 8, 9, 16, 17, 18]) (keep := [0, 1, 2, 3, 4]) (todo' := (ctl 9 [.code (bodyOf Tryd.prog 77)] [])) (ts' := ([AV.junk, AV.junk, AV.junk, (AV.sl .p (v0.map (AV.int .i64))), AV.junk, AV.junk, AV.junk, AV.junk, (AV.ptr 0 0), (AV.ptr 2 0), AV.junk, AV.junk, AV.junk, AV.junk, AV.junk, AV.junk, (AV.own 4), (AV.int .i64 v1), (AV.int .i64 (v2 + 1))] ++ junks 30)) (h' := [(Ob.box 56 [(AV.int .i64 v3), (AV.int .i64 v4), (AV.int .i64 v5), (AV.own 1), (AV.sl .n [])]), (Ob.row 3 1 (v6.map (AV.int .i64))), (Ob.box 56 [(AV.int .i64 v7), (AV.int .i64 v8), (AV.int .i64 v9), (AV.own 3), (AV.sl .n [])]), (Ob.row 3 1 (v10.map (AV.int .i64))), (Ob.row 3 1 (v11.map (AV.int .i64)))]) (by kernel_rfl) (allc (wrap_i64 hg13) (allc (bF hc10) (allc (decide_eq_true hc6) (allc (c_view_small X y7) (allc (show rowsFlat [] from trivial) (allc (decide_eq_true hc6) (allc (decide_eq_true hc6) (allc (And.intro hg8 (get_raw (show (v0.map (AV.int .i64)) = (v0.map (AV.int .i64)) from rfl) he9)) (allc (decide_eq_true hc6) (allc (decide_eq_true hc6) (allc (decide_eq_true hc6) (allc (len_raw (show (v0.map (AV.int .i64)) = (v0.map (AV.int .i64)) from rfl)) (allc (get_raw (show (v11.map (AV.int .i64)) = (v11.map (AV.int .i64)) from rfl) he5) (allc (lt_raw (show (v11.map (AV.int .i64)) = (v11.map (AV.int .i64)) from rfl) hg2) (allc (decide_eq_true hc1) alln))))))))))))))) (goes_eqS rfl rfl h)
    · have h := h.2 hc6
      obtain ⟨hg14, h⟩ := h
      refine goes_cut hB (n := 16) (scr := [(3, .b true), (8, .e (AV.int .i64 y3)), (21, .v (AV.int .i64 (v0.length : Int))), (28, .b false), (31, .b false), (34, .b false), (37, .b false), (40, .b false), (44, .b false), (49, .v (AV.int .i64 (v2 + 1)))]) (live := [3, 8, 9, 16, 17, 18]) (keep := [0, 1, 2, 3, 4]) (todo' := (ctl 9 [.code (bodyOf Tryd.prog 77)] [])) (ts' := ([AV.junk, AV.junk, AV.junk, (AV.sl .p (v0.map (AV.int .i64))), AV.junk, AV.junk, AV.junk, AV.junk, (AV.ptr 0 0), (AV.ptr 2 0), AV.junk, AV.junk, AV.junk, AV.junk, AV.junk, AV.junk, (AV.own 4), (AV.int .i64 v1), (AV.int .i64 (v2 + 1))] ++ junks 30)) (h' := [(Ob.box 56 [(AV.int .i64 v3), (AV.int .i64 v4), (AV.int .i64 v5), (AV.own 1), (AV.sl .n [])]), (Ob.row 3 1 (v6.map (AV.int .i64))), (Ob.box 56 [(AV.int .i64 v7), (AV.int .i64 v8), (AV.int .i64 v9), (AV.own 3), (AV.sl .n [])]), (Ob.row 3 1 (v10.map (AV.int .i64))), (Ob.row 3 1 (v11.map (AV.int .i64)))]) (by kernel_rfl) (allc (wrap_i64 hg14) (allc (decide_eq_false hc6) (allc (decide_eq_false hc6) (allc (decide_eq_false hc6) (allc (decide_eq_false hc6) (allc (decide_eq_false hc6) (allc (decide_eq_false hc6) (allc (len_raw (show (v0.map (AV.int .i64)) = (v0.map (AV.int .i64)) from rfl)) (allc (get_raw (show (v11.map (AV.int .i64)) = (v11.map (AV.int .i64)) from rfl) he5) (allc (lt_raw (show (v11.map (AV.int .i64)) = (v11.map (AV.int .i64)) from rfl) hg2) (allc (decide_eq_true hc1) alln))))))))))) (goes_eqS rfl rfl h)
  · have h := h.2 hc1
    obtain ⟨h1, h2⟩ := h
    refine goes_eqR (h1.trans rfl) (h2.trans rfl) ((goes_ret (rows := [(Ob.row 3 1 (v10.map (AV.int .i64)))]) (r := (AV.agg [(AV.int .i64 v7), (AV.int .i64 v8), (AV.int .i64 v9), (AV.own 0), (AV.sl .n [])])) hB fn_view_members (rv := [.cell 8 56]) (by kernel_rfl) (n := 7) (scr := [(3, .b false)]) (keep := [3]) (by kernel_rfl) (allc (decide_eq_false hc1) alln)))
theorem view_members_calls (X : Ctx E) (a0 : Int) (a1 : Int) (a2 : Int) (a3 : (List Int)) {rows : List Ob} {r : AV} (h : ∀ C, Base Tryd.prog E C → view_members_at0 C a0 a1 a2 a3 rows r) : ACalls Tryd.prog E 77 [(AV.int .i64 a0), (AV.int .i64 a1), (AV.int .i64 a2), (AV.sl .p (a3.map (AV.int .i64)))] rows r :=
  acalls_of_goes X.env X.good fn_view_members (c := bodyOf Tryd.prog 77) (by kernel_rfl) (by kernel_rfl) (m := 45) (by kernel_rfl) h
theorem view_members_loop (X : Ctx E) (hB : Base Tryd.prog E C) (incs l : List Int) (hc : incs.length ≤ 1000000) (hl : l.length ≤ 16) (h16 : ∀ x ∈ l, 0 ≤ x) (a b c : Int) (d : List Int) (e0 : T_Entry) (he : e0.Incs = []) : ∀ (k i : Nat), l.length - i = k → i ≤ l.length →
    view_members_at1 C incs (l.length : Int) (i : Int) a b c d ((l.take i).foldl (memStep incs) e0).Term ((l.take i).foldl (memStep incs) e0).Epoch ((l.take i).foldl (memStep incs) e0).Members ((l.take i).foldl (memStep incs) e0).Incs l
      [(Ob.row 3 1 ((l.foldl (memStep incs) e0).Incs.map (AV.int .i64)))] (AV.agg [AV.int .i64 (l.foldl (memStep incs) e0).Term, AV.int .i64 (l.foldl (memStep incs) e0).Epoch, AV.int .i64 (l.foldl (memStep incs) e0).Members, AV.own 0, AV.sl .n []]) := by
  intro k
  induction k with
  | zero =>
    intro i h1 h2
    refine view_members_wp1 X hB _ _ _ _ _ _ _ _ _ _ _ _ ⟨fun h => by omega, fun _ => ?_⟩
    rw [List.take_of_length_le (by omega)]
    exact ⟨rfl, rfl⟩
  | succ k ih =>
    intro i h1 h2
    have hi : i < l.length := by omega
    have hn := ih (i + 1) (by omega) (by omega)
    rw [← take_snoc hi, List.foldl_append, List.foldl_cons, List.foldl_nil] at hn
    have hk := (memFold_keeps incs (l.take i) e0).2.2.2
    rw [he, List.length_take] at hk
    simp only [List.length_nil] at hk
    have h0 := h16 l[i] (by simp)
    refine view_members_wp1 X hB _ _ _ _ _ _ _ _ _ _ _ _ ⟨fun h => ⟨by omega, l[i], by omega, by simp [hi], fun g1 => ?_, fun g1 => ⟨by omega, ?_⟩⟩, fun h => by omega⟩
    · have hg : (l[i]).toNat < incs.length := by omega
      have hd : incs.getD (l[i]).toNat 0 = incs[(l[i]).toNat] := by simp [List.getD_eq_getElem?_getD, hg]
      refine ⟨incs[(l[i]).toNat], by omega, by simp [hg], fun g2 => ⟨by simp; omega, by omega, ?_⟩, fun g2 => ⟨by omega, ?_⟩⟩
      · rw [memStep, if_pos ⟨g1, by rw [hd]; exact g2⟩, hd] at hn
        exact hn
      · rw [memStep, if_neg (fun h => g2 (by rw [← hd]; exact h.2))] at hn
        exact hn
    · rw [memStep, if_neg (fun h => g1 h.1)] at hn
      exact hn
theorem c_view_members (X : Ctx E) (a0 a1 a2 : Int) (a3 : List Int) (h0 : a3.length ≤ 1000000) : ACalls Tryd.prog E n_view_members [AV.int .i64 a0, AV.int .i64 a1, AV.int .i64 a2, (AV.sl .p (a3.map (AV.int .i64)))]
    [(Ob.row 3 1 ((membersS a0 a1 a2 a3).Incs.map (AV.int .i64)))] (AV.agg [AV.int .i64 (membersS a0 a1 a2 a3).Term, AV.int .i64 (membersS a0 a1 a2 a3).Epoch, AV.int .i64 (membersS a0 a1 a2 a3).Members, AV.own 0, AV.sl .n []]) :=
  view_members_calls X a0 a1 a2 a3 fun C hB => view_members_wp0 X hB a0 a1 a2 a3 (view_members_loop X hB a3 (listS a2) h0 (listS_length a2) (fun x hx => by have := (mem_listN.1 hx).1; omega) 0 0 0 [] ⟨a0, a1, 0, [], []⟩ rfl _ 0 rfl (by omega))

/-! ### omnibus/msg.Sort -/
theorem fn_msg_Sort : Tryd.prog.funcs[79]? = some Tryd.f79 := by kernel_rfl
def msg_Sort_at0 (C : C0) (a0 : (List T_Message)) (rows : List Ob) (r : AV) : Prop := Goes Tryd.prog C 79 [.code (bodyOf Tryd.prog 79)] ([(AV.sl .p (a0.map T_Message.av))] ++ junks 37) [] rows r
def msg_Sort_at1 (C : C0) (v0 : (List T_Message)) (v1 : Int) (v2 : Int) (v3 : (List T_Message)) (rows : List Ob) (r : AV) : Prop := Goes Tryd.prog C 79 (ctl 7 [.code (bodyOf Tryd.prog 79)] []) (([AV.junk, AV.junk, (AV.own 0), AV.junk, AV.junk, AV.junk, (AV.sl .p (v0.map T_Message.av)), (AV.int .i64 v1), (AV.int .i64 v2)] ++ junks 29)) [(Ob.row 35 7 (v3.map T_Message.av))] rows r
def msg_Sort_at2 (C : C0) (v0 : Int) (v1 : (List T_Message)) (v2 : Int) (v3 : Int) (v4 : (List T_Message)) (v5 : T_Message) (rows : List Ob) (r : AV) : Prop := Goes Tryd.prog C 79 (ctl 26 [.code (bodyOf Tryd.prog 79)] [true, false]) (([AV.junk, AV.junk, (AV.own 0), AV.junk, (AV.ptr 1 0), (AV.int .i64 v0), (AV.sl .p (v1.map T_Message.av)), (AV.int .i64 v2), (AV.int .i64 v3)] ++ junks 29)) [(Ob.row 35 7 (v4.map T_Message.av)), (Ob.box 35 [(AV.bool v5.Id_Ext), (AV.int .i64 v5.Id_N), (AV.int .i64 v5.Sender), (AV.int .i64 v5.Inc), (AV.int .i64 v5.Seq), (AV.int .i64 v5.Number), (AV.str v5.Data)])] rows r
theorem msg_Sort_wp0 (X : Ctx E) (hB : Base Tryd.prog E C) (a0 : (List T_Message)) {rows : List Ob} {r : AV} (h : (msg_Sort_at1 C a0 (a0.length : Int) 0 [] rows r)) : msg_Sort_at0 C a0 rows r := by
  unfold msg_Sort_at0
  refine goes_cut hB (n := 7) (scr := [(8, .v (AV.int .i64 (a0.length : Int)))]) (live := [2, 6, 7, 8]) (keep := []) (todo' := (ctl 7 [.code (bodyOf Tryd.prog 79)] [])) (ts' := ([AV.junk, AV.junk, (AV.sl .n []), AV.junk, AV.junk, AV.junk, (AV.sl .p (a0.map T_Message.av)), (AV.int .i64 (a0.length : Int)), (AV.int .i64 0)] ++ junks 29)) (h' := []) (by kernel_rfl) (allc (len_raw (show (a0.map T_Message.av) = (a0.map T_Message.av) from rfl)) alln) (goes_eqS rfl rfl (goes_adopt (l := [(35, 7, none, 2)]) (ts' := ([AV.junk, AV.junk, (AV.own 0), AV.junk, AV.junk, AV.junk, (AV.sl .p (a0.map T_Message.av)), (AV.int .i64 (a0.length : Int)), (AV.int .i64 0)] ++ junks 29)) (h' := [(Ob.row 35 7 [])]) (by kernel_rfl) h))
theorem msg_Sort_wp1 (X : Ctx E) (hB : Base Tryd.prog E C) (v0 : (List T_Message)) (v1 : Int) (v2 : Int) (v3 : (List T_Message)) {rows : List Ob} {r : AV} (h : ((v2 < v1 → ∃ y2 : T_Message, 0 ≤ (v2 : Int) ∧ v0[v2.toNat]? = some y2 ∧ (((idRight (T_Ident.mk y2.Id_Ext y2.Id_N)) = true → (msg_Sort_at2 C (v3.length : Int) v0 v1 v2 v3 y2 rows r)) ∧ (¬ ((idRight (T_Ident.mk y2.Id_Ext y2.Id_N)) = true) → ((-9223372036854775808) ≤ (v2 + 1) ∧ (v2 + 1) ≤ 9223372036854775807) ∧ (msg_Sort_at1 C v0 v1 (v2 + 1) v3 rows r)))) ∧ (¬ (v2 < v1) → (rows = [(Ob.row 35 7 (v3.map T_Message.av))] ∧ r = (AV.own 0))))) : msg_Sort_at1 C v0 v1 v2 v3 rows r := by
  unfold msg_Sort_at1
  rcases Classical.em (v2 < v1) with hc1 | hc1
  · have h := h.1 hc1
    obtain ⟨y2, hg3, he4, h⟩ := h
    rcases Classical.em ((idRight (T_Ident.mk y2.Id_Ext y2.Id_N)) = true) with hc5 | hc5
    · have h := h.1 hc5
      refine goes_cut hB (n := 19) (scr := [(3, .b true), (5, .e (AV.agg [(AV.bool y2.Id_Ext), (AV.int .i64 y2.Id_N), (AV.int .i64 y2.Sender), (AV.int .i64 y2.Inc), (AV.int .i64 y2.Seq), (AV.int .i64 y2.Number), (AV.str y2.Data)])), (23, .cf [] (AV.bool (idRight (T_Ident.mk y2.Id_Ext y2.Id_N)))), (28, .b false), (34, .v (AV.int .i64 (v3.length : Int)))]) (live := [2, 4, 5, 6, 7, 8]) (keep := [0, 1]) (todo' := (ctl 26 [.code (bodyOf Tryd.prog 79)] [true, false])) (ts' := ([AV.junk, AV.junk, (AV.own 0), AV.junk, (AV.ptr 1 0), (AV.int .i64 (v3.length : Int)), (AV.sl .p (v0.map T_Message.av)), (AV.int .i64 v1), (AV.int .i64 v2)] ++ junks 29)) (h' := [(Ob.row 35 7 (v3.map T_Message.av)), (Ob.box 35 [(AV.bool y2.Id_Ext), (AV.int .i64 y2.Id_N), (AV.int .i64 y2.Sender), (AV.int .i64 y2.Inc), (AV.int .i64 y2.Seq), (AV.int .i64 y2.Number), (AV.str y2.Data)])]) (by kernel_rfl) (allc (len_raw (show (v3.map T_Message.av) = (v3.map T_Message.av) from rfl)) (allc (congrArg not hc5) (allc (c_ident_Right X (T_Ident.mk y2.Id_Ext y2.Id_N)) (allc (show rowsFlat [] from trivial) (allc (And.intro hg3 (get_raw (show (v0.map T_Message.av) = (v0.map T_Message.av) from rfl) he4)) (allc (decide_eq_true hc1) alln)))))) (goes_eqS rfl rfl h)
    · have h := h.2 hc5
      obtain ⟨hg6, h⟩ := h
      refine goes_cut hB (n := 16) (scr := [(3, .b true), (5, .e (AV.agg [(AV.bool y2.Id_Ext), (AV.int .i64 y2.Id_N), (AV.int .i64 y2.Sender), (AV.int .i64 y2.Inc), (AV.int .i64 y2.Seq), (AV.int .i64 y2.Number), (AV.str y2.Data)])), (23, .cf [] (AV.bool (idRight (T_Ident.mk y2.Id_Ext y2.Id_N)))), (28, .b true), (31, .v (AV.int .i64 (v2 + 1)))]) (live := [2, 6, 7, 8]) (keep := [0]) (todo' := (ctl 7 [.code (bodyOf Tryd.prog 79)] [])) (ts' := ([AV.junk, AV.junk, (AV.own 0), AV.junk, AV.junk, AV.junk, (AV.sl .p (v0.map T_Message.av)), (AV.int .i64 v1), (AV.int .i64 (v2 + 1))] ++ junks 29)) (h' := [(Ob.row 35 7 (v3.map T_Message.av))]) (by kernel_rfl) (allc (wrap_i64 hg6) (allc (congrArg not (bF hc5)) (allc (c_ident_Right X (T_Ident.mk y2.Id_Ext y2.Id_N)) (allc (show rowsFlat [] from trivial) (allc (And.intro hg3 (get_raw (show (v0.map T_Message.av) = (v0.map T_Message.av) from rfl) he4)) (allc (decide_eq_true hc1) alln)))))) (goes_eqS rfl rfl h)
  · have h := h.2 hc1
    obtain ⟨h1, h2⟩ := h
    refine goes_eqR (h1.trans rfl) (h2.trans rfl) ((goes_ret (rows := [(Ob.row 35 7 (v3.map T_Message.av))]) (r := (AV.own 0)) hB fn_msg_Sort (rv := [.tmp 2]) (by kernel_rfl) (n := 7) (scr := [(3, .b false)]) (keep := [0]) (by kernel_rfl) (allc (decide_eq_false hc1) alln)))
theorem msg_Sort_wp2 (X : Ctx E) (hB : Base Tryd.prog E C) (v0 : Int) (v1 : (List T_Message)) (v2 : Int) (v3 : Int) (v4 : (List T_Message)) (v5 : T_Message) {rows : List Ob} {r : AV} (h : ((v0 > 0 → ((-9223372036854775808) ≤ (v0 - 1) ∧ (v0 - 1) ≤ 9223372036854775807) ∧ ((0 : Int) ≤ (v0 - 1) ∧ ((v0 - 1) : Int) < (v4.length : Int)) ∧ ∃ y10 : T_Message, 0 ≤ ((v0 - 1) : Int) ∧ v4[(v0 - 1).toNat]? = some y10 ∧ (((msgLess v5 y10) = true → (msg_Sort_at2 C (v0 - 1) v1 v2 v3 v4 v5 rows r)) ∧ (¬ ((msgLess v5 y10) = true) → ((0 : Int) ≤ v0 ∧ v0 ≤ (v4.length : Int)) ∧ (v4.length ≤ 1000000) ∧ ((-9223372036854775808) ≤ (v3 + 1) ∧ (v3 + 1) ≤ 9223372036854775807) ∧ (msg_Sort_at1 C v1 v2 (v3 + 1) (insAt v4 v0 v5) rows r)))) ∧ (¬ (v0 > 0) → ((0 : Int) ≤ v0 ∧ v0 ≤ (v4.length : Int)) ∧ (v4.length ≤ 1000000) ∧ ((-9223372036854775808) ≤ (v3 + 1) ∧ (v3 + 1) ≤ 9223372036854775807) ∧ (msg_Sort_at1 C v1 v2 (v3 + 1) (insAt v4 v0 v5) rows r)))) : msg_Sort_at2 C v0 v1 v2 v3 v4 v5 rows r := by
  unfold msg_Sort_at2
  rcases Classical.em (v0 > 0) with hc7 | hc7
  · have h := h.1 hc7
    obtain ⟨hg8, h⟩ := h
    obtain ⟨hg9, h⟩ := h
    obtain ⟨y10, hg11, he12, h⟩ := h
    rcases Classical.em ((msgLess v5 y10) = true) with hc13 | hc13
    · have h := h.1 hc13
      refine goes_cut hB (n := 9) (scr := [(9, .b true), (12, .b true), (15, .b true), (18, .b true), (20, .v (AV.int .i64 (v0 - 1))), (21, .b true), (24, .b true), (25, .e (AV.agg [(AV.bool y10.Id_Ext), (AV.int .i64 y10.Id_N), (AV.int .i64 y10.Sender), (AV.int .i64 y10.Inc), (AV.int .i64 y10.Seq), (AV.int .i64 y10.Number), (AV.str y10.Data)])), (27, .b true), (28, .cf [] (AV.bool (msgLess v5 y10))), (31, .b true), (33, .b true), (39, .v (AV.int .i64 (v0 - 1)))]) (live := [2, 4, 5, 6, 7, 8]) (keep := [0, 1]) (todo' := (ctl 26 [.code (bodyOf Tryd.prog 79)] [true, false])) (ts' := ([AV.junk, AV.junk, (AV.own 0), AV.junk, (AV.ptr 1 0), (AV.int .i64 (v0 - 1)), (AV.sl .p (v1.map T_Message.av)), (AV.int .i64 v2), (AV.int .i64 v3)] ++ junks 29)) (h' := [(Ob.row 35 7 (v4.map T_Message.av)), (Ob.box 35 [(AV.bool v5.Id_Ext), (AV.int .i64 v5.Id_N), (AV.int .i64 v5.Sender), (AV.int .i64 v5.Inc), (AV.int .i64 v5.Seq), (AV.int .i64 v5.Number), (AV.str v5.Data)])]) (by kernel_rfl) (allc (wrap_i64 hg8) (allc hc13 (allc (decide_eq_true hc7) (allc (c_msg_Less X v5 y10) (allc (show rowsFlat [] from trivial) (allc (decide_eq_true hc7) (allc (get_raw (show (v4.map T_Message.av) = (v4.map T_Message.av) from rfl) he12) (allc (decide_eq_true hc7) (allc (lt_raw (show (v4.map T_Message.av) = (v4.map T_Message.av) from rfl) hg9) (allc (decide_eq_true hc7) (allc (wrap_i64 hg8) (allc (decide_eq_true hc7) (allc (decide_eq_true hc7) (allc (decide_eq_true hc7) (allc (decide_eq_true hc7) alln))))))))))))))) (goes_eqS rfl rfl h)
    · have h := h.2 hc13
      obtain ⟨hg14, h⟩ := h
      obtain ⟨hg15, h⟩ := h
      obtain ⟨hg16, h⟩ := h
      refine goes_cut hB (n := 9) (scr := [(9, .b true), (12, .b true), (15, .b true), (18, .b true), (20, .v (AV.int .i64 (v0 - 1))), (21, .b true), (24, .b true), (25, .e (AV.agg [(AV.bool y10.Id_Ext), (AV.int .i64 y10.Id_N), (AV.int .i64 y10.Sender), (AV.int .i64 y10.Inc), (AV.int .i64 y10.Seq), (AV.int .i64 y10.Number), (AV.str y10.Data)])), (27, .b true), (28, .cf [] (AV.bool (msgLess v5 y10))), (31, .b true), (33, .b false), (47, .ci 35 7 ((insAt v4 v0 v5).map T_Message.av)), (54, .v (AV.int .i64 (v3 + 1)))]) (live := [2, 6, 7, 8]) (keep := [3]) (todo' := (ctl 7 [.code (bodyOf Tryd.prog 79)] [])) (ts' := ([AV.junk, AV.junk, (AV.own 0), AV.junk, AV.junk, AV.junk, (AV.sl .p (v1.map T_Message.av)), (AV.int .i64 v2), (AV.int .i64 (v3 + 1))] ++ junks 29)) (h' := [(Ob.row 35 7 ((insAt v4 v0 v5).map T_Message.av))]) (by kernel_rfl) (allc (wrap_i64 hg16) (allc (icalls_eq2 (row := (v4.map T_Message.av)) (vals := [(AV.int .i64 v0), (AV.sl .p [(AV.agg [(AV.bool v5.Id_Ext), (AV.int .i64 v5.Id_N), (AV.int .i64 v5.Sender), (AV.int .i64 v5.Inc), (AV.int .i64 v5.Seq), (AV.int .i64 v5.Number), (AV.str v5.Data)])])]) (by first | rfl | (simp only [List.map_append, List.map_cons, List.map_nil, List.map_set, List.map_take, List.map_drop, List.append_nil, List.nil_append, List.map_replicate, List.length_replicate, List.length_map]; try rfl)) (by first | rfl | (simp only [List.map_append, List.map_cons, List.map_nil, List.map_set, List.map_take, List.map_drop, List.append_nil, List.nil_append, List.map_replicate, List.length_replicate, List.length_map]; try rfl)) (c_slices_Insert_Message X v4 v0 v5 hg14 hg15)) (allc (cells_raw (show ((insAt v4 v0 v5).map T_Message.av) = ((insAt v4 v0 v5).map T_Message.av) from rfl) cells_T_Message) (allc (show 0 < 7 from by decide) (allc (bF hc13) (allc (decide_eq_true hc7) (allc (c_msg_Less X v5 y10) (allc (show rowsFlat [] from trivial) (allc (decide_eq_true hc7) (allc (get_raw (show (v4.map T_Message.av) = (v4.map T_Message.av) from rfl) he12) (allc (decide_eq_true hc7) (allc (lt_raw (show (v4.map T_Message.av) = (v4.map T_Message.av) from rfl) hg9) (allc (decide_eq_true hc7) (allc (wrap_i64 hg8) (allc (decide_eq_true hc7) (allc (decide_eq_true hc7) (allc (decide_eq_true hc7) (allc (decide_eq_true hc7) alln)))))))))))))))))) (goes_eqS rfl rfl h)
  · have h := h.2 hc7
    obtain ⟨hg17, h⟩ := h
    obtain ⟨hg18, h⟩ := h
    obtain ⟨hg19, h⟩ := h
    refine goes_cut hB (n := 9) (scr := [(9, .b false), (12, .b false), (15, .b false), (18, .b false), (21, .b false), (24, .b false), (27, .b false), (31, .b false), (47, .ci 35 7 ((insAt v4 v0 v5).map T_Message.av)), (54, .v (AV.int .i64 (v3 + 1)))]) (live := [2, 6, 7, 8]) (keep := [3]) (todo' := (ctl 7 [.code (bodyOf Tryd.prog 79)] [])) (ts' := ([AV.junk, AV.junk, (AV.own 0), AV.junk, AV.junk, AV.junk, (AV.sl .p (v1.map T_Message.av)), (AV.int .i64 v2), (AV.int .i64 (v3 + 1))] ++ junks 29)) (h' := [(Ob.row 35 7 ((insAt v4 v0 v5).map T_Message.av))]) (by kernel_rfl) (allc (wrap_i64 hg19) (allc (icalls_eq2 (row := (v4.map T_Message.av)) (vals := [(AV.int .i64 v0), (AV.sl .p [(AV.agg [(AV.bool v5.Id_Ext), (AV.int .i64 v5.Id_N), (AV.int .i64 v5.Sender), (AV.int .i64 v5.Inc), (AV.int .i64 v5.Seq), (AV.int .i64 v5.Number), (AV.str v5.Data)])])]) (by first | rfl | (simp only [List.map_append, List.map_cons, List.map_nil, List.map_set, List.map_take, List.map_drop, List.append_nil, List.nil_append, List.map_replicate, List.length_replicate, List.length_map]; try rfl)) (by first | rfl | (simp only [List.map_append, List.map_cons, List.map_nil, List.map_set, List.map_take, List.map_drop, List.append_nil, List.nil_append, List.map_replicate, List.length_replicate, List.length_map]; try rfl)) (c_slices_Insert_Message X v4 v0 v5 hg17 hg18)) (allc (cells_raw (show ((insAt v4 v0 v5).map T_Message.av) = ((insAt v4 v0 v5).map T_Message.av) from rfl) cells_T_Message) (allc (show 0 < 7 from by decide) (allc (decide_eq_false hc7) (allc (decide_eq_false hc7) (allc (decide_eq_false hc7) (allc (decide_eq_false hc7) (allc (decide_eq_false hc7) (allc (decide_eq_false hc7) (allc (decide_eq_false hc7) (allc (decide_eq_false hc7) alln)))))))))))) (goes_eqS rfl rfl h)
theorem msg_Sort_calls (X : Ctx E) (a0 : (List T_Message)) {rows : List Ob} {r : AV} (h : ∀ C, Base Tryd.prog E C → msg_Sort_at0 C a0 rows r) : ACalls Tryd.prog E 79 [(AV.sl .p (a0.map T_Message.av))] rows r :=
  acalls_of_goes X.env X.good fn_msg_Sort (c := bodyOf Tryd.prog 79) (by kernel_rfl) (by kernel_rfl) (m := 37) (by kernel_rfl) h
theorem msort_inner (X : Ctx E) (hB : Base Tryd.prog E C) (l : List T_Message) (hl : l.length ≤ 100000) {rows : List Ob} {r : AV} (i : Nat) (hi : i < l.length) (out : List T_Message) (ho : out.length ≤ i) (hr : idRight (Msg.id l[i]) = true) (hout : ∀ m ∈ out, idRight (Msg.id m) = true)
    (hn : msg_Sort_at1 C l (l.length : Int) ((i : Int) + 1) (ins4 out l[i]) rows r) : ∀ n, n ≤ out.length → pos4 l[i] out n = pos4 l[i] out out.length → msg_Sort_at2 C (n : Int) l (l.length : Int) (i : Int) out l[i] rows r := by
  have fin : ∀ n, n ≤ out.length → n = pos4 l[i] out out.length → insAt out (n : Int) l[i] = ins4 out l[i] := by
    intro n h1 h2
    unfold ins4 insAt
    rw [← h2]
    simp
  intro n
  induction n with
  | zero =>
    intro h1 h2
    have h3 : 0 = pos4 l[i] out out.length := by rw [← h2]; rfl
    refine msg_Sort_wp2 X hB _ _ _ _ _ _ ⟨fun h => by omega, fun _ => ⟨by omega, by omega, by omega, ?_⟩⟩
    have := fin 0 h1 h3
    rw [this]; exact hn
  | succ n ih =>
    intro h1 h2
    have hg : out[n]? = some (out[n]'(by omega)) := List.getElem?_eq_getElem (by omega)
    have hm := msgLess_less4_id hr (hout (out[n]'(by omega)) (by simp))
    refine msg_Sort_wp2 X hB _ _ _ _ _ _ ⟨fun h => ⟨by omega, by omega, out[n]'(by omega), by omega, by rw [show (((n + 1 : Nat) : Int) - 1).toNat = n by omega]; exact hg, fun hlt => ?_, fun hlt => ?_⟩, fun h => by omega⟩
    · rw [hm] at hlt
      rw [show ((n + 1 : Nat) : Int) - 1 = (n : Int) by omega]
      refine ih (by omega) ?_
      rw [← h2]
      simp only [pos4, hg, hlt, if_true]
    · rw [hm] at hlt
      have h3 : n + 1 = pos4 l[i] out out.length := by
        rw [← h2]
        simp only [pos4, hg]
        rw [if_neg hlt]
      refine ⟨by omega, by omega, by omega, ?_⟩
      rw [fin (n + 1) h1 h3]; exact hn
theorem msort_loop (X : Ctx E) (hB : Base Tryd.prog E C) (l : List T_Message) (hl : l.length ≤ 100000) : ∀ (k i : Nat), l.length - i = k → i ≤ l.length →
    msg_Sort_at1 C l (l.length : Int) (i : Int) (sort4 (l.take i)) [(Ob.row 35 7 ((sort4 l).map T_Message.av))] (AV.own 0) := by
  intro k
  induction k with
  | zero =>
    intro i h1 h2
    have hi : i = l.length := by omega
    refine msg_Sort_wp1 X hB _ _ _ _ ⟨fun h => by omega, fun _ => ⟨by rw [hi, List.take_length], rfl⟩⟩
  | succ k ih =>
    intro i h1 h2
    have hi : i < l.length := by omega
    have hs : sort4 (l.take (i + 1)) = sortStep (sort4 (l.take i)) l[i] := by rw [← List.take_append_getElem hi, sort4_snoc]
    have hlen := sortTake_length l i
    have hn := ih (i + 1) (by omega) (by omega)
    rw [hs] at hn
    unfold sortStep at hn
    refine msg_Sort_wp1 X hB _ _ _ _ ⟨fun h => ⟨l[i], by omega, by simp [hi], fun hr => ?_, fun hr => ⟨by omega, ?_⟩⟩, fun h => by omega⟩
    · have hr : idRight (Msg.id l[i]) = true := hr
      rw [if_pos hr] at hn
      exact msort_inner X hB l hl i hi _ hlen hr (sort4_ids _) hn _ (Nat.le_refl _) rfl
    · have hr : ¬ idRight (Msg.id l[i]) = true := hr
      rw [if_neg hr] at hn
      exact hn
theorem c_msg_Sort (X : Ctx E) (a0 : List T_Message) (h0 : a0.length ≤ 100000) : ACalls Tryd.prog E n_msg_Sort [(AV.sl .p (a0.map T_Message.av))] [(Ob.row 35 7 ((sort4 a0).map T_Message.av))] (AV.own 0) :=
  msg_Sort_calls X a0 fun C hB => msg_Sort_wp0 X hB a0 (msort_loop X hB a0 h0 a0.length 0 (by omega) (by omega))

/-! ### omnibus/view.fresh -/
theorem fn_view_fresh : Tryd.prog.funcs[78]? = some Tryd.f78 := by kernel_rfl
def view_fresh_at0 (C : C0) (a0 : (List T_Entry)) (a1 : T_Entry) (a2 : (List T_Message)) (rows : List Ob) (r : AV) : Prop := Goes Tryd.prog C 78 [.code (bodyOf Tryd.prog 78)] ([(AV.sl .p (a0.map T_Entry.av)), (AV.agg [(AV.int .i64 a1.Term), (AV.int .i64 a1.Epoch), (AV.int .i64 a1.Members), (AV.sl .p (a1.Incs.map (AV.int .i64))), (AV.sl .p (a1.Msgs.map T_Message.av))]), (AV.sl .p (a2.map T_Message.av))] ++ junks 5) [] rows r
theorem view_fresh_wp0 (X : Ctx E) (hB : Base Tryd.prog E C) (a0 : (List T_Entry)) (a1 : T_Entry) (a2 : (List T_Message)) {rows : List Ob} {r : AV} (h : (rows = [] ∧ r = (AV.fn 117 [(AV.pin [(AV.sl .p (a2.map T_Message.av))] 0), (AV.pin [(AV.int .i64 a1.Term), (AV.int .i64 a1.Epoch), (AV.int .i64 a1.Members), (AV.sl .p (a1.Incs.map (AV.int .i64))), (AV.sl .p (a1.Msgs.map T_Message.av))] 0), (AV.pin [(AV.sl .p (a0.map T_Entry.av))] 0)]))) : view_fresh_at0 C a0 a1 a2 rows r := by
  unfold view_fresh_at0
  obtain ⟨h1, h2⟩ := h
  refine goes_eqR (h1.trans rfl) (h2.trans rfl) ((goes_ret (rows := []) (r := (AV.fn 117 [(AV.pin [(AV.sl .p (a2.map T_Message.av))] 0), (AV.pin [(AV.int .i64 a1.Term), (AV.int .i64 a1.Epoch), (AV.int .i64 a1.Members), (AV.sl .p (a1.Incs.map (AV.int .i64))), (AV.sl .p (a1.Msgs.map T_Message.av))] 0), (AV.pin [(AV.sl .p (a0.map T_Entry.av))] 0)])) hB fn_view_fresh (rv := [.tmp 6]) (by kernel_rfl) (n := 4) (scr := []) (keep := []) (by kernel_rfl) alln))
theorem view_fresh_calls (X : Ctx E) (a0 : (List T_Entry)) (a1 : T_Entry) (a2 : (List T_Message)) {rows : List Ob} {r : AV} (h : ∀ C, Base Tryd.prog E C → view_fresh_at0 C a0 a1 a2 rows r) : ACalls Tryd.prog E 78 [(AV.sl .p (a0.map T_Entry.av)), (AV.agg [(AV.int .i64 a1.Term), (AV.int .i64 a1.Epoch), (AV.int .i64 a1.Members), (AV.sl .p (a1.Incs.map (AV.int .i64))), (AV.sl .p (a1.Msgs.map T_Message.av))]), (AV.sl .p (a2.map T_Message.av))] rows r :=
  acalls_of_goes X.env X.good fn_view_fresh (c := bodyOf Tryd.prog 78) (by kernel_rfl) (by kernel_rfl) (m := 5) (by kernel_rfl) h
theorem c_view_fresh (X : Ctx E) (a0 : List T_Entry) (a1 : T_Entry) (a2 : List T_Message) : ACalls Tryd.prog E n_view_fresh [(AV.sl .p (a0.map T_Entry.av)), a1.av, (AV.sl .p (a2.map T_Message.av))] []
    (AV.fn n_view_fresh_1 [AV.pin [(AV.sl .p (a2.map T_Message.av))] 0, AV.pin [AV.int .i64 a1.Term, AV.int .i64 a1.Epoch, AV.int .i64 a1.Members, (AV.sl .p (a1.Incs.map (AV.int .i64))), (AV.sl .p (a1.Msgs.map T_Message.av))] 0, AV.pin [(AV.sl .p (a0.map T_Entry.av))] 0]) :=
  view_fresh_calls X a0 a1 a2 fun C hB => view_fresh_wp0 X hB a0 a1 a2 ⟨rfl, rfl⟩
end Go.Abs
