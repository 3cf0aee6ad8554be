/- Walks, printed by program. -/
import Derived.Test.YteocckoglkbonaaDoorW2a
import Derived.Test.YteocckoglkbonaaDoorSA
set_option linter.unusedVariables false
set_option linter.unusedSimpArgs false
set_option maxRecDepth 100000
namespace Go.Abs
open Go.Proofs
variable {E : Env} {C : C0}
/-! ### omnibus/omnibuslaw06.pick -/
theorem fn_law06_pick : Tryd.prog.funcs[81]? = some Tryd.f81 := by kernel_rfl
def law06_pick_at0 (C : C0) (a0 : Int) (a1 : Int) (rows : List Ob) (r : AV) : Prop := Goes Tryd.prog C 81 [.code (bodyOf Tryd.prog 81)] ([(AV.int .i64 a0), (AV.int .i64 a1)] ++ junks 11) [] rows r
theorem law06_pick_wp0 (X : Ctx E) (hB : Base Tryd.prog E C) (a0 : Int) (a1 : Int) {rows : List Ob} {r : AV} (h : ((a0 < 0 → ((-9223372036854775808) ≤ (a0 + 1) ∧ (a0 + 1) ≤ 9223372036854775807) ∧ ((-9223372036854775808) ≤ (0 - (a0 + 1)) ∧ (0 - (a0 + 1)) ≤ 9223372036854775807) ∧ (a1 ≠ 0) ∧ (rows = [] ∧ r = (AV.int .i64 (Int.tmod (0 - (a0 + 1)) a1)))) ∧ (¬ (a0 < 0) → (a1 ≠ 0) ∧ (rows = [] ∧ r = (AV.int .i64 (Int.tmod a0 a1)))))) : law06_pick_at0 C a0 a1 rows r := by
  unfold law06_pick_at0
  rcases Classical.em (a0 < 0) with hc1 | hc1
  · have h := h.1 hc1
    obtain ⟨hg2, h⟩ := h
    obtain ⟨hg3, h⟩ := h
    obtain ⟨hg4, h⟩ := h
    obtain ⟨h1, h2⟩ := h
    refine goes_eqR (h1.trans rfl) (h2.trans rfl) ((goes_ret (rows := []) (r := (AV.int .i64 (Int.tmod (0 - (a0 + 1)) a1))) hB fn_law06_pick (rv := [.tmp 4]) (by kernel_rfl) (n := 9) (scr := [(9, .b true), (15, .v (AV.int .i64 (a0 + 1))), (18, .v (AV.int .i64 (0 - (a0 + 1))))]) (keep := []) (by kernel_rfl) (allc hg4 (allc (wrap_i64 hg3) (allc (wrap_i64 hg2) (allc (decide_eq_true hc1) alln))))))
  · have h := h.2 hc1
    obtain ⟨hg5, h⟩ := h
    obtain ⟨h1, h2⟩ := h
    refine goes_eqR (h1.trans rfl) (h2.trans rfl) ((goes_ret (rows := []) (r := (AV.int .i64 (Int.tmod a0 a1))) hB fn_law06_pick (rv := [.tmp 4]) (by kernel_rfl) (n := 9) (scr := [(9, .b false)]) (keep := []) (by kernel_rfl) (allc hg5 (allc (decide_eq_false hc1) alln))))
theorem law06_pick_calls (X : Ctx E) (a0 : Int) (a1 : Int) {rows : List Ob} {r : AV} (h : ∀ C, Base Tryd.prog E C → law06_pick_at0 C a0 a1 rows r) : ACalls Tryd.prog E 81 [(AV.int .i64 a0), (AV.int .i64 a1)] rows r :=
  acalls_of_goes X.env X.good fn_law06_pick (c := bodyOf Tryd.prog 81) (by kernel_rfl) (by kernel_rfl) (m := 11) (by kernel_rfl) h
theorem c_law06_pick (X : Ctx E) (a b : Int) (ha : I64 a) (hb : (1 : Int) ≤ b) : ACalls Tryd.prog E n_law06_pick [(AV.int .i64 a), (AV.int .i64 b)] [] (AV.int .i64 (pickS a b)) :=
  law06_pick_calls X a b fun C hB => law06_pick_wp0 X hB a b (by
    obtain ⟨h1, h2⟩ := ha
    refine ⟨fun h => ⟨by omega, by omega, by omega, rfl, by simp [pickS, h]⟩, fun h => ⟨by omega, rfl, by simp [pickS, h]⟩⟩)

/-! ### omnibus/omnibuslaw16.pick -/
theorem fn_law16_pick : Tryd.prog.funcs[42]? = some Tryd.f42 := by kernel_rfl
def law16_pick_at0 (C : C0) (a0 : Int) (a1 : Int) (rows : List Ob) (r : AV) : Prop := Goes Tryd.prog C 42 [.code (bodyOf Tryd.prog 42)] ([(AV.int .i64 a0), (AV.int .i64 a1)] ++ junks 11) [] rows r
theorem law16_pick_wp0 (X : Ctx E) (hB : Base Tryd.prog E C) (a0 : Int) (a1 : Int) {rows : List Ob} {r : AV} (h : ((a0 < 0 → ((-9223372036854775808) ≤ (a0 + 1) ∧ (a0 + 1) ≤ 9223372036854775807) ∧ ((-9223372036854775808) ≤ (0 - (a0 + 1)) ∧ (0 - (a0 + 1)) ≤ 9223372036854775807) ∧ (a1 ≠ 0) ∧ (rows = [] ∧ r = (AV.int .i64 (Int.tmod (0 - (a0 + 1)) a1)))) ∧ (¬ (a0 < 0) → (a1 ≠ 0) ∧ (rows = [] ∧ r = (AV.int .i64 (Int.tmod a0 a1)))))) : law16_pick_at0 C a0 a1 rows r := by
  unfold law16_pick_at0
  rcases Classical.em (a0 < 0) with hc1 | hc1
  · have h := h.1 hc1
    obtain ⟨hg2, h⟩ := h
    obtain ⟨hg3, h⟩ := h
    obtain ⟨hg4, h⟩ := h
    obtain ⟨h1, h2⟩ := h
    refine goes_eqR (h1.trans rfl) (h2.trans rfl) ((goes_ret (rows := []) (r := (AV.int .i64 (Int.tmod (0 - (a0 + 1)) a1))) hB fn_law16_pick (rv := [.tmp 4]) (by kernel_rfl) (n := 9) (scr := [(9, .b true), (15, .v (AV.int .i64 (a0 + 1))), (18, .v (AV.int .i64 (0 - (a0 + 1))))]) (keep := []) (by kernel_rfl) (allc hg4 (allc (wrap_i64 hg3) (allc (wrap_i64 hg2) (allc (decide_eq_true hc1) alln))))))
  · have h := h.2 hc1
    obtain ⟨hg5, h⟩ := h
    obtain ⟨h1, h2⟩ := h
    refine goes_eqR (h1.trans rfl) (h2.trans rfl) ((goes_ret (rows := []) (r := (AV.int .i64 (Int.tmod a0 a1))) hB fn_law16_pick (rv := [.tmp 4]) (by kernel_rfl) (n := 9) (scr := [(9, .b false)]) (keep := []) (by kernel_rfl) (allc hg5 (allc (decide_eq_false hc1) alln))))
theorem law16_pick_calls (X : Ctx E) (a0 : Int) (a1 : Int) {rows : List Ob} {r : AV} (h : ∀ C, Base Tryd.prog E C → law16_pick_at0 C a0 a1 rows r) : ACalls Tryd.prog E 42 [(AV.int .i64 a0), (AV.int .i64 a1)] rows r :=
  acalls_of_goes X.env X.good fn_law16_pick (c := bodyOf Tryd.prog 42) (by kernel_rfl) (by kernel_rfl) (m := 11) (by kernel_rfl) h
theorem c_law16_pick (X : Ctx E) (a b : Int) (ha : I64 a) (hb : (1 : Int) ≤ b) : ACalls Tryd.prog E n_law16_pick [(AV.int .i64 a), (AV.int .i64 b)] [] (AV.int .i64 (pickS a b)) :=
  law16_pick_calls X a b fun C hB => law16_pick_wp0 X hB a b (by
    obtain ⟨h1, h2⟩ := ha
    refine ⟨fun h => ⟨by omega, by omega, by omega, rfl, by simp [pickS, h]⟩, fun h => ⟨by omega, rfl, by simp [pickS, h]⟩⟩)

/-! ### omnibus/omnibuslaw17.pick -/
theorem fn_law17_pick : Tryd.prog.funcs[37]? = some Tryd.f37 := by kernel_rfl
def law17_pick_at0 (C : C0) (a0 : Int) (a1 : Int) (rows : List Ob) (r : AV) : Prop := Goes Tryd.prog C 37 [.code (bodyOf Tryd.prog 37)] ([(AV.int .i64 a0), (AV.int .i64 a1)] ++ junks 11) [] rows r
theorem law17_pick_wp0 (X : Ctx E) (hB : Base Tryd.prog E C) (a0 : Int) (a1 : Int) {rows : List Ob} {r : AV} (h : ((a0 < 0 → ((-9223372036854775808) ≤ (a0 + 1) ∧ (a0 + 1) ≤ 9223372036854775807) ∧ ((-9223372036854775808) ≤ (0 - (a0 + 1)) ∧ (0 - (a0 + 1)) ≤ 9223372036854775807) ∧ (a1 ≠ 0) ∧ (rows = [] ∧ r = (AV.int .i64 (Int.tmod (0 - (a0 + 1)) a1)))) ∧ (¬ (a0 < 0) → (a1 ≠ 0) ∧ (rows = [] ∧ r = (AV.int .i64 (Int.tmod a0 a1)))))) : law17_pick_at0 C a0 a1 rows r := by
  unfold law17_pick_at0
  rcases Classical.em (a0 < 0) with hc1 | hc1
  · have h := h.1 hc1
    obtain ⟨hg2, h⟩ := h
    obtain ⟨hg3, h⟩ := h
    obtain ⟨hg4, h⟩ := h
    obtain ⟨h1, h2⟩ := h
    refine goes_eqR (h1.trans rfl) (h2.trans rfl) ((goes_ret (rows := []) (r := (AV.int .i64 (Int.tmod (0 - (a0 + 1)) a1))) hB fn_law17_pick (rv := [.tmp 4]) (by kernel_rfl) (n := 9) (scr := [(9, .b true), (15, .v (AV.int .i64 (a0 + 1))), (18, .v (AV.int .i64 (0 - (a0 + 1))))]) (keep := []) (by kernel_rfl) (allc hg4 (allc (wrap_i64 hg3) (allc (wrap_i64 hg2) (allc (decide_eq_true hc1) alln))))))
  · have h := h.2 hc1
    obtain ⟨hg5, h⟩ := h
    obtain ⟨h1, h2⟩ := h
    refine goes_eqR (h1.trans rfl) (h2.trans rfl) ((goes_ret (rows := []) (r := (AV.int .i64 (Int.tmod a0 a1))) hB fn_law17_pick (rv := [.tmp 4]) (by kernel_rfl) (n := 9) (scr := [(9, .b false)]) (keep := []) (by kernel_rfl) (allc hg5 (allc (decide_eq_false hc1) alln))))
theorem law17_pick_calls (X : Ctx E) (a0 : Int) (a1 : Int) {rows : List Ob} {r : AV} (h : ∀ C, Base Tryd.prog E C → law17_pick_at0 C a0 a1 rows r) : ACalls Tryd.prog E 37 [(AV.int .i64 a0), (AV.int .i64 a1)] rows r :=
  acalls_of_goes X.env X.good fn_law17_pick (c := bodyOf Tryd.prog 37) (by kernel_rfl) (by kernel_rfl) (m := 11) (by kernel_rfl) h
theorem c_law17_pick (X : Ctx E) (a b : Int) (ha : I64 a) (hb : (1 : Int) ≤ b) : ACalls Tryd.prog E n_law17_pick [(AV.int .i64 a), (AV.int .i64 b)] [] (AV.int .i64 (pickS a b)) :=
  law17_pick_calls X a b fun C hB => law17_pick_wp0 X hB a b (by
    obtain ⟨h1, h2⟩ := ha
    refine ⟨fun h => ⟨by omega, by omega, by omega, rfl, by simp [pickS, h]⟩, fun h => ⟨by omega, rfl, by simp [pickS, h]⟩⟩)

/-! ### omnibus/omnibuslaw17.Pending -/
theorem fn_law17_Pending : Tryd.prog.funcs[39]? = some Tryd.f39 := by kernel_rfl
def law17_Pending_at0 (C : C0) (a0 : (List T_a6_int)) (rows : List Ob) (r : AV) : Prop := Goes Tryd.prog C 39 [.code (bodyOf Tryd.prog 39)] ([(AV.sl .p (a0.map T_a6_int.av))] ++ junks 48) [] rows r
def law17_Pending_at1 (C : C0) (v0 : (List T_a6_int)) (v1 : Int) (v2 : (List T_Message)) (rows : List Ob) (r : AV) : Prop := Goes Tryd.prog C 39 (ctl 9 [.code (bodyOf Tryd.prog 39)] []) (([(AV.sl .p (v0.map T_a6_int.av)), AV.junk, AV.junk, (AV.own 0), (AV.int .i64 v1)] ++ junks 44)) [(Ob.row 35 7 (v2.map T_Message.av))] rows r
theorem law17_Pending_wp0 (X : Ctx E) (hB : Base Tryd.prog E C) (a0 : (List T_a6_int)) {rows : List Ob} {r : AV} (h : (law17_Pending_at1 C a0 0 [] rows r)) : law17_Pending_at0 C a0 rows r := by
  unfold law17_Pending_at0
  refine goes_cut hB (n := 9) (scr := []) (live := [0, 3, 4]) (keep := []) (todo' := (ctl 9 [.code (bodyOf Tryd.prog 39)] [])) (ts' := ([(AV.sl .p (a0.map T_a6_int.av)), AV.junk, AV.junk, (AV.sl .n []), (AV.int .i64 0)] ++ junks 44)) (h' := []) (by kernel_rfl) alln (goes_eqS rfl rfl (goes_adopt (l := [(35, 7, none, 3)]) (ts' := ([(AV.sl .p (a0.map T_a6_int.av)), AV.junk, AV.junk, (AV.own 0), (AV.int .i64 0)] ++ junks 44)) (h' := [(Ob.row 35 7 [])]) (by kernel_rfl) h))
theorem law17_Pending_wp1 (X : Ctx E) (hB : Base Tryd.prog E C) (v0 : (List T_a6_int)) (v1 : Int) (v2 : (List T_Message)) {rows : List Ob} {r : AV} (h : ((v1 < (v0.length : Int) → ((v1 < 8 → ∃ y3 : T_a6_int, 0 ≤ (v1 : Int) ∧ v0[v1.toNat]? = some y3 ∧ (I6 y3) ∧ (I64 y3.c2) ∧ ((1 : Int) ≤ 5) ∧ (I64 y3.c3) ∧ ((1 : Int) ≤ 3) ∧ ((-9223372036854775808) ≤ (1 + (pickS y3.c3 3)) ∧ (1 + (pickS y3.c3 3)) ≤ 9223372036854775807) ∧ (I64 y3.c4) ∧ ((1 : Int) ≤ 6) ∧ ((-9223372036854775808) ≤ (1 + (pickS y3.c4 6)) ∧ (1 + (pickS y3.c4 6)) ≤ 9223372036854775807) ∧ (((v2).length + ([(T_Message.mk (messageS y3 (⟨#[100]⟩ : ByteArray)).Id_Ext (messageS y3 (⟨#[100]⟩ : ByteArray)).Id_N (pickS y3.c2 5) (1 + (pickS y3.c3 3)) (1 + (pickS y3.c4 6)) (messageS y3 (⟨#[100]⟩ : ByteArray)).Number (messageS y3 (⟨#[100]⟩ : ByteArray)).Data)]).length) * 64 ≤ 140737488355328 ∧ (v2).length + ([(T_Message.mk (messageS y3 (⟨#[100]⟩ : ByteArray)).Id_Ext (messageS y3 (⟨#[100]⟩ : ByteArray)).Id_N (pickS y3.c2 5) (1 + (pickS y3.c3 3)) (1 + (pickS y3.c4 6)) (messageS y3 (⟨#[100]⟩ : ByteArray)).Number (messageS y3 (⟨#[100]⟩ : ByteArray)).Data)]).length ≤ 140737488355328) ∧ ((-9223372036854775808) ≤ (v1 + 1) ∧ (v1 + 1) ≤ 9223372036854775807) ∧ (law17_Pending_at1 C v0 (v1 + 1) (v2 ++ ([(T_Message.mk (messageS y3 (⟨#[100]⟩ : ByteArray)).Id_Ext (messageS y3 (⟨#[100]⟩ : ByteArray)).Id_N (pickS y3.c2 5) (1 + (pickS y3.c3 3)) (1 + (pickS y3.c4 6)) (messageS y3 (⟨#[100]⟩ : ByteArray)).Number (messageS y3 (⟨#[100]⟩ : ByteArray)).Data)])) rows r)) ∧ (¬ (v1 < 8) → (rows = [(Ob.row 35 7 (v2.map T_Message.av))] ∧ r = (AV.own 0))))) ∧ (¬ (v1 < (v0.length : Int)) → (rows = [(Ob.row 35 7 (v2.map T_Message.av))] ∧ r = (AV.own 0))))) : law17_Pending_at1 C v0 v1 v2 rows r := by
  unfold law17_Pending_at1
  rcases Classical.em (v1 < (v0.length : Int)) with hc1 | hc1
  · have h := h.1 hc1
    rcases Classical.em (v1 < 8) with hc2 | hc2
    · have h := h.1 hc2
      obtain ⟨y3, hg4, he5, h⟩ := h
      obtain ⟨hg6, h⟩ := h
      obtain ⟨hg7, h⟩ := h
      obtain ⟨hg8, h⟩ := h
      obtain ⟨hg9, h⟩ := h
      obtain ⟨hg10, h⟩ := h
      obtain ⟨hg11, h⟩ := h
      obtain ⟨hg12, h⟩ := h
      obtain ⟨hg13, h⟩ := h
      obtain ⟨hg14, h⟩ := h
      obtain ⟨hg15, h⟩ := h
      obtain ⟨hg16, h⟩ := h
      refine goes_cut hB (n := 19) (scr := [(8, .v (AV.int .i64 (v0.length : Int))), (15, .b true), (18, .b true), (22, .b true), (24, .b true), (32, .e (AV.agg [(AV.int .i64 y3.c0), (AV.int .i64 y3.c1), (AV.int .i64 y3.c2), (AV.int .i64 y3.c3), (AV.int .i64 y3.c4), (AV.int .i64 y3.c5)])), (38, .cf [] (AV.agg [(AV.bool (messageS y3 (⟨#[100]⟩ : ByteArray)).Id_Ext), (AV.int .i64 (messageS y3 (⟨#[100]⟩ : ByteArray)).Id_N), (AV.int .i64 (messageS y3 (⟨#[100]⟩ : ByteArray)).Sender), (AV.int .i64 (messageS y3 (⟨#[100]⟩ : ByteArray)).Inc), (AV.int .i64 (messageS y3 (⟨#[100]⟩ : ByteArray)).Seq), (AV.int .i64 (messageS y3 (⟨#[100]⟩ : ByteArray)).Number), (AV.str (messageS y3 (⟨#[100]⟩ : ByteArray)).Data)])), (53, .e (AV.agg [(AV.int .i64 y3.c0), (AV.int .i64 y3.c1), (AV.int .i64 y3.c2), (AV.int .i64 y3.c3), (AV.int .i64 y3.c4), (AV.int .i64 y3.c5)])), (62, .cf [] (AV.int .i64 (pickS y3.c2 5))), (77, .e (AV.agg [(AV.int .i64 y3.c0), (AV.int .i64 y3.c1), (AV.int .i64 y3.c2), (AV.int .i64 y3.c3), (AV.int .i64 y3.c4), (AV.int .i64 y3.c5)])), (86, .cf [] (AV.int .i64 (pickS y3.c3 3))), (90, .v (AV.int .i64 (1 + (pickS y3.c3 3)))), (104, .e (AV.agg [(AV.int .i64 y3.c0), (AV.int .i64 y3.c1), (AV.int .i64 y3.c2), (AV.int .i64 y3.c3), (AV.int .i64 y3.c4), (AV.int .i64 y3.c5)])), (113, .cf [] (AV.int .i64 (pickS y3.c4 6))), (117, .v (AV.int .i64 (1 + (pickS y3.c4 6)))), (144, .v (AV.int .i64 (v1 + 1)))]) (live := [0, 3, 4]) (keep := [3]) (todo' := (ctl 9 [.code (bodyOf Tryd.prog 39)] [])) (ts' := ([(AV.sl .p (v0.map T_a6_int.av)), AV.junk, AV.junk, (AV.own 0), (AV.int .i64 (v1 + 1))] ++ junks 44)) (h' := [(Ob.row 35 7 ((v2.map T_Message.av) ++ ([(AV.agg [(AV.bool (messageS y3 (⟨#[100]⟩ : ByteArray)).Id_Ext), (AV.int .i64 (messageS y3 (⟨#[100]⟩ : ByteArray)).Id_N), (AV.int .i64 (pickS y3.c2 5)), (AV.int .i64 (1 + (pickS y3.c3 3))), (AV.int .i64 (1 + (pickS y3.c4 6))), (AV.int .i64 (messageS y3 (⟨#[100]⟩ : ByteArray)).Number), (AV.str (messageS y3 (⟨#[100]⟩ : ByteArray)).Data)])])))]) (by kernel_rfl) (allc (wrap_i64 hg16) (allc (cells_raw (show [(AV.agg [(AV.bool (messageS y3 (⟨#[100]⟩ : ByteArray)).Id_Ext), (AV.int .i64 (messageS y3 (⟨#[100]⟩ : ByteArray)).Id_N), (AV.int .i64 (pickS y3.c2 5)), (AV.int .i64 (1 + (pickS y3.c3 3))), (AV.int .i64 (1 + (pickS y3.c4 6))), (AV.int .i64 (messageS y3 (⟨#[100]⟩ : ByteArray)).Number), (AV.str (messageS y3 (⟨#[100]⟩ : ByteArray)).Data)])] = (([(T_Message.mk (messageS y3 (⟨#[100]⟩ : ByteArray)).Id_Ext (messageS y3 (⟨#[100]⟩ : ByteArray)).Id_N (pickS y3.c2 5) (1 + (pickS y3.c3 3)) (1 + (pickS y3.c4 6)) (messageS y3 (⟨#[100]⟩ : ByteArray)).Number (messageS y3 (⟨#[100]⟩ : ByteArray)).Data)]).map T_Message.av) from by first | rfl | (simp only [List.map_append, List.map_cons, List.map_nil, List.map_set, List.map_take, List.map_drop, List.append_nil, List.nil_append, List.map_replicate, List.length_replicate, List.length_map]; try rfl)) cells_T_Message) (allc (le_raw3 (show (v2.map T_Message.av) = (v2.map T_Message.av) from rfl) (show [(AV.agg [(AV.bool (messageS y3 (⟨#[100]⟩ : ByteArray)).Id_Ext), (AV.int .i64 (messageS y3 (⟨#[100]⟩ : ByteArray)).Id_N), (AV.int .i64 (pickS y3.c2 5)), (AV.int .i64 (1 + (pickS y3.c3 3))), (AV.int .i64 (1 + (pickS y3.c4 6))), (AV.int .i64 (messageS y3 (⟨#[100]⟩ : ByteArray)).Number), (AV.str (messageS y3 (⟨#[100]⟩ : ByteArray)).Data)])] = (([(T_Message.mk (messageS y3 (⟨#[100]⟩ : ByteArray)).Id_Ext (messageS y3 (⟨#[100]⟩ : ByteArray)).Id_N (pickS y3.c2 5) (1 + (pickS y3.c3 3)) (1 + (pickS y3.c4 6)) (messageS y3 (⟨#[100]⟩ : ByteArray)).Number (messageS y3 (⟨#[100]⟩ : ByteArray)).Data)]).map T_Message.av) from by first | rfl | (simp only [List.map_append, List.map_cons, List.map_nil, List.map_set, List.map_take, List.map_drop, List.append_nil, List.nil_append, List.map_replicate, List.length_replicate, List.length_map]; try rfl)) hg15.1) (allc (le_raw4 (show (v2.map T_Message.av) = (v2.map T_Message.av) from rfl) (show [(AV.agg [(AV.bool (messageS y3 (⟨#[100]⟩ : ByteArray)).Id_Ext), (AV.int .i64 (messageS y3 (⟨#[100]⟩ : ByteArray)).Id_N), (AV.int .i64 (pickS y3.c2 5)), (AV.int .i64 (1 + (pickS y3.c3 3))), (AV.int .i64 (1 + (pickS y3.c4 6))), (AV.int .i64 (messageS y3 (⟨#[100]⟩ : ByteArray)).Number), (AV.str (messageS y3 (⟨#[100]⟩ : ByteArray)).Data)])] = (([(T_Message.mk (messageS y3 (⟨#[100]⟩ : ByteArray)).Id_Ext (messageS y3 (⟨#[100]⟩ : ByteArray)).Id_N (pickS y3.c2 5) (1 + (pickS y3.c3 3)) (1 + (pickS y3.c4 6)) (messageS y3 (⟨#[100]⟩ : ByteArray)).Number (messageS y3 (⟨#[100]⟩ : ByteArray)).Data)]).map T_Message.av) from by first | rfl | (simp only [List.map_append, List.map_cons, List.map_nil, List.map_set, List.map_take, List.map_drop, List.append_nil, List.nil_append, List.map_replicate, List.length_replicate, List.length_map]; try rfl)) hg15.2) (allc (wrap_i64 hg14) (allc (c_law17_pick X y3.c4 6 hg12 hg13) (allc (show rowsFlat [] from trivial) (allc (show (0 : Int) ≤ 4 ∧ (4 : Int) < ((6 : Nat) : Int) from by decide) (allc (And.intro hg4 (get_raw (show (v0.map T_a6_int.av) = (v0.map T_a6_int.av) from rfl) he5)) (allc (wrap_i64 hg11) (allc (c_law17_pick X y3.c3 3 hg9 hg10) (allc (show rowsFlat [] from trivial) (allc (show (0 : Int) ≤ 3 ∧ (3 : Int) < ((6 : Nat) : Int) from by decide) (allc (And.intro hg4 (get_raw (show (v0.map T_a6_int.av) = (v0.map T_a6_int.av) from rfl) he5)) (allc (c_law17_pick X y3.c2 5 hg7 hg8) (allc (show rowsFlat [] from trivial) (allc (show (0 : Int) ≤ 2 ∧ (2 : Int) < ((6 : Nat) : Int) from by decide) (allc (And.intro hg4 (get_raw (show (v0.map T_a6_int.av) = (v0.map T_a6_int.av) from rfl) he5)) (allc (c_law04_Message X y3 (⟨#[100]⟩ : ByteArray) hg6) (allc (show rowsFlat [] from trivial) (allc (And.intro hg4 (get_raw (show (v0.map T_a6_int.av) = (v0.map T_a6_int.av) from rfl) he5)) (allc (decide_eq_true hc2) (allc (decide_eq_true hc1) (allc (decide_eq_true hc1) (allc (decide_eq_true hc1) (allc (len_raw (show (v0.map T_a6_int.av) = (v0.map T_a6_int.av) from rfl)) alln)))))))))))))))))))))))))) (goes_eqS rfl (by first | rfl | (simp only [List.map_append, List.map_cons, List.map_nil, List.map_set, List.map_take, List.map_drop, List.append_nil, List.nil_append, List.map_replicate, List.length_replicate, List.length_map]; try rfl)) h)
    · have h := h.2 hc2
      obtain ⟨h1, h2⟩ := h
      refine goes_eqR (h1.trans rfl) (h2.trans rfl) ((goes_ret (rows := [(Ob.row 35 7 (v2.map T_Message.av))]) (r := (AV.own 0)) hB fn_law17_Pending (rv := [.tmp 2]) (by kernel_rfl) (n := 7) (scr := [(8, .v (AV.int .i64 (v0.length : Int))), (15, .b true), (18, .b true), (22, .b true), (24, .b false)]) (keep := [0]) (by kernel_rfl) (allc (decide_eq_false hc2) (allc (decide_eq_true hc1) (allc (decide_eq_true hc1) (allc (decide_eq_true hc1) (allc (len_raw (show (v0.map T_a6_int.av) = (v0.map T_a6_int.av) from rfl)) alln)))))))
  · have h := h.2 hc1
    obtain ⟨h1, h2⟩ := h
    refine goes_eqR (h1.trans rfl) (h2.trans rfl) ((goes_ret (rows := [(Ob.row 35 7 (v2.map T_Message.av))]) (r := (AV.own 0)) hB fn_law17_Pending (rv := [.tmp 2]) (by kernel_rfl) (n := 7) (scr := [(8, .v (AV.int .i64 (v0.length : Int))), (15, .b false), (18, .b false), (22, .b false)]) (keep := [0]) (by kernel_rfl) (allc (decide_eq_false hc1) (allc (decide_eq_false hc1) (allc (decide_eq_false hc1) (allc (len_raw (show (v0.map T_a6_int.av) = (v0.map T_a6_int.av) from rfl)) alln))))))
theorem law17_Pending_calls (X : Ctx E) (a0 : (List T_a6_int)) {rows : List Ob} {r : AV} (h : ∀ C, Base Tryd.prog E C → law17_Pending_at0 C a0 rows r) : ACalls Tryd.prog E 39 [(AV.sl .p (a0.map T_a6_int.av))] rows r :=
  acalls_of_goes X.env X.good fn_law17_Pending (c := bodyOf Tryd.prog 39) (by kernel_rfl) (by kernel_rfl) (m := 48) (by kernel_rfl) h
theorem law17_Pending_loop (X : Ctx E) (hB : Base Tryd.prog E C) (raw : List T_a6_int) (hr : ∀ y ∈ raw, I6 y) : ∀ (k i : Nat), min raw.length 8 - i = k → i ≤ min raw.length 8 → law17_Pending_at1 C raw (i : Int) ((pendS raw).take i) [(Ob.row 35 7 ((pendS raw).map T_Message.av))] (AV.own 0) := by
  have hm : (pendS raw).length = min raw.length 8 := by simp [pendS]; omega
  intro k
  induction k with
  | zero =>
    intro i h1 h2
    have hend : ([(Ob.row 35 7 ((pendS raw).map T_Message.av))] : List Ob) = [(Ob.row 35 7 (((pendS raw).take i).map T_Message.av))] ∧ AV.own 0 = AV.own 0 := by rw [List.take_of_length_le (by omega)]; exact ⟨rfl, rfl⟩
    exact law17_Pending_wp1 X hB _ _ _ ⟨fun h => ⟨fun h' => by omega, fun _ => hend⟩, fun _ => hend⟩
  | succ k ih =>
    intro i h1 h2
    have hi : i < raw.length := by omega
    have hip : i < (pendS raw).length := by omega
    have hn := ih (i + 1) (by omega) (by omega)
    have hg : (pendS raw)[i] = pendM raw[i] := by simp [pendS]
    rw [← take_snoc hip, hg] at hn
    have hy := hr raw[i] (by simp)
    have p2 := pickS_range (c := (raw[i]).c2) (n := 5) hy.2.2.1 (by omega)
    have p3 := pickS_range (c := (raw[i]).c3) (n := 3) hy.2.2.2.1 (by omega)
    have p4 := pickS_range (c := (raw[i]).c4) (n := 6) hy.2.2.2.2.1 (by omega)
    refine law17_Pending_wp1 X hB _ _ _ ⟨fun h => ⟨fun h' => ⟨raw[i], by omega, by simp [hi], hy, hy.2.2.1, by omega, hy.2.2.2.1, by omega, by omega, hy.2.2.2.2.1, by omega, by omega, ?_, by omega, hn⟩, fun h' => by omega⟩, fun h => by omega⟩
    simp only [List.length_take, List.length_cons, List.length_nil]; omega
theorem c_law17_Pending (X : Ctx E) (a0 : List T_a6_int) (h0 : ∀ y ∈ a0, I6 y) : ACalls Tryd.prog E n_law17_Pending [(AV.sl .p (a0.map T_a6_int.av))] [(Ob.row 35 7 ((pendS a0).map T_Message.av))] (AV.own 0) :=
  law17_Pending_calls X a0 fun C hB => law17_Pending_wp0 X hB a0 (law17_Pending_loop X hB a0 h0 _ 0 rfl (by omega))
end Go.Abs
