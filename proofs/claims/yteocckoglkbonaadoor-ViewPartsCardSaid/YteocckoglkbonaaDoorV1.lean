/- Walks, printed by program. -/
import Derived.Test.YteocckoglkbonaaDoorS7
set_option linter.unusedVariables false
set_option linter.unusedSimpArgs false
set_option maxRecDepth 100000
namespace Go.Abs
open Go.Proofs
variable {E : Env} {C : C0}
/-! ### omnibus/vec.node -/
theorem fn_vec_node : Tryd.prog.funcs[140]? = some Tryd.f140 := by kernel_rfl
def vec_node_at0 (C : C0) (a0 : Int) (rows : List Ob) (r : AV) : Prop := Goes Tryd.prog C 140 [.code (bodyOf Tryd.prog 140)] ([(AV.int .i64 a0)] ++ junks 8) [] rows r
theorem vec_node_wp0 (X : Ctx E) (hB : Base Tryd.prog E C) (a0 : Int) {rows : List Ob} {r : AV} (h : ((a0 ≥ 0 → (rows = [] ∧ r = (AV.bool (decide (a0 < 16))))) ∧ (¬ (a0 ≥ 0) → (rows = [] ∧ r = (AV.bool false))))) : vec_node_at0 C a0 rows r := by
  unfold vec_node_at0
  rcases Classical.em (a0 ≥ 0) with hc1 | hc1
  · have h := h.1 hc1
    obtain ⟨h1, h2⟩ := h
    refine goes_eqR (h1.trans rfl) (h2.trans rfl) ((goes_ret (rows := []) (r := (AV.bool (decide (a0 < 16)))) hB fn_vec_node (rv := [.tmp 2]) (by kernel_rfl) (n := 4) (scr := [(12, .b true), (15, .b true), (19, .b true)]) (keep := []) (by kernel_rfl) (allc (decide_eq_true hc1) (allc (decide_eq_true hc1) (allc (decide_eq_true hc1) alln)))))
  · have h := h.2 hc1
    obtain ⟨h1, h2⟩ := h
    refine goes_eqR (h1.trans rfl) (h2.trans rfl) ((goes_ret (rows := []) (r := (AV.bool false)) hB fn_vec_node (rv := [.tmp 2]) (by kernel_rfl) (n := 4) (scr := [(12, .b false), (15, .b false), (19, .b false)]) (keep := []) (by kernel_rfl) (allc (decide_eq_false hc1) (allc (decide_eq_false hc1) (allc (decide_eq_false hc1) alln)))))
theorem vec_node_calls (X : Ctx E) (a0 : Int) {rows : List Ob} {r : AV} (h : ∀ C, Base Tryd.prog E C → vec_node_at0 C a0 rows r) : ACalls Tryd.prog E 140 [(AV.int .i64 a0)] rows r :=
  acalls_of_goes X.env X.good fn_vec_node (c := bodyOf Tryd.prog 140) (by kernel_rfl) (by kernel_rfl) (m := 8) (by kernel_rfl) h
theorem c_vec_node (X : Ctx E) (a0 : Int)  : ACalls Tryd.prog E n_vec_node [(AV.int .i64 a0)] [] (AV.bool (nodeS a0)) :=
  vec_node_calls X a0 fun C hB => vec_node_wp0 X hB a0 ⟨fun h => ⟨rfl, by congr 1; exact decide_eq_decide.2 (by omega)⟩, fun h => ⟨rfl, by congr 1; exact decide_eq_false (by omega)⟩⟩

/-! ### omnibus/vec.cut -/
theorem fn_vec_cut : Tryd.prog.funcs[141]? = some Tryd.f141 := by kernel_rfl
def vec_cut_at0 (C : C0) (a0 : Int) (rows : List Ob) (r : AV) : Prop := Goes Tryd.prog C 141 [.code (bodyOf Tryd.prog 141)] ([(AV.int .i64 a0)] ++ junks 4) [] rows r
theorem vec_cut_wp0 (X : Ctx E) (hB : Base Tryd.prog E C) (a0 : Int) {rows : List Ob} {r : AV} (h : (rows = [] ∧ r = (AV.int .i64 (a0 % 65536)))) : vec_cut_at0 C a0 rows r := by
  unfold vec_cut_at0
  obtain ⟨h1, h2⟩ := h
  refine goes_eqR (h1.trans rfl) (h2.trans rfl) ((goes_ret (rows := []) (r := (AV.int .i64 (a0 % 65536))) hB fn_vec_cut (rv := [.tmp 2]) (by kernel_rfl) (n := 4) (scr := [(8, .v (AV.int .i64 (a0 % 65536)))]) (keep := []) (by kernel_rfl) (allc (and65535_i64 a0) alln)))
theorem vec_cut_calls (X : Ctx E) (a0 : Int) {rows : List Ob} {r : AV} (h : ∀ C, Base Tryd.prog E C → vec_cut_at0 C a0 rows r) : ACalls Tryd.prog E 141 [(AV.int .i64 a0)] rows r :=
  acalls_of_goes X.env X.good fn_vec_cut (c := bodyOf Tryd.prog 141) (by kernel_rfl) (by kernel_rfl) (m := 4) (by kernel_rfl) h
theorem c_vec_cut (X : Ctx E) (a0 : Int)  : ACalls Tryd.prog E n_vec_cut [(AV.int .i64 a0)] [] (AV.int .i64 (a0 % 65536)) :=
  vec_cut_calls X a0 fun C hB => vec_cut_wp0 X hB a0 ⟨rfl, rfl⟩

/-! ### omnibus/vec.Has -/
theorem fn_vec_Has : Tryd.prog.funcs[122]? = some Tryd.f122 := by kernel_rfl
def vec_Has_at0 (C : C0) (a0 : Int) (a1 : Int) (rows : List Ob) (r : AV) : Prop := Goes Tryd.prog C 122 [.code (bodyOf Tryd.prog 122)] ([(AV.int .i64 a0), (AV.int .i64 a1)] ++ junks 12) [] rows r
theorem vec_Has_wp0 (X : Ctx E) (hB : Base Tryd.prog E C) (a0 : Int) (a1 : Int) {rows : List Ob} {r : AV} (h : (((nodeS a1) = true → ((0 : Int) ≤ a1) ∧ (rows = [] ∧ r = (AV.bool (((Int.fdiv a0 (2 ^ min (a1 : Int).toNat (IntKind.bits .i64))) % 2) == 1)))) ∧ (¬ ((nodeS a1) = true) → (rows = [] ∧ r = (AV.bool false))))) : vec_Has_at0 C a0 a1 rows r := by
  unfold vec_Has_at0
  rcases Classical.em ((nodeS a1) = true) with hc1 | hc1
  · have h := h.1 hc1
    obtain ⟨hg2, h⟩ := h
    obtain ⟨h1, h2⟩ := h
    refine goes_eqR (h1.trans rfl) (h2.trans rfl) ((goes_ret (rows := []) (r := (AV.bool (((Int.fdiv a0 (2 ^ min (a1 : Int).toNat (IntKind.bits .i64))) % 2) == 1))) hB fn_vec_Has (rv := [.tmp 4]) (by kernel_rfl) (n := 4) (scr := [(7, .cf [] (AV.bool (nodeS a1))), (12, .b true), (15, .b true), (18, .b true), (21, .b true), (23, .v (AV.int .i64 ((Int.fdiv a0 (2 ^ min (a1 : Int).toNat (IntKind.bits .i64))) % 2))), (24, .b true), (28, .b true)]) (keep := []) (by kernel_rfl) (allc hc1 (allc hc1 (allc (and1_i64 (Int.fdiv a0 (2 ^ min (a1 : Int).toNat (IntKind.bits .i64)))) (allc hc1 (allc hg2 (allc hc1 (allc hc1 (allc hc1 (allc (c_vec_node X a1) (allc (show rowsFlat [] from trivial) alln))))))))))))
  · have h := h.2 hc1
    obtain ⟨h1, h2⟩ := h
    refine goes_eqR (h1.trans rfl) (h2.trans rfl) ((goes_ret (rows := []) (r := (AV.bool false)) hB fn_vec_Has (rv := [.tmp 4]) (by kernel_rfl) (n := 4) (scr := [(7, .cf [] (AV.bool (nodeS a1))), (12, .b false), (15, .b false), (18, .b false), (21, .b false), (24, .b false), (28, .b false)]) (keep := []) (by kernel_rfl) (allc (bF hc1) (allc (bF hc1) (allc (bF hc1) (allc (bF hc1) (allc (bF hc1) (allc (bF hc1) (allc (c_vec_node X a1) (allc (show rowsFlat [] from trivial) alln))))))))))
theorem vec_Has_calls (X : Ctx E) (a0 : Int) (a1 : Int) {rows : List Ob} {r : AV} (h : ∀ C, Base Tryd.prog E C → vec_Has_at0 C a0 a1 rows r) : ACalls Tryd.prog E 122 [(AV.int .i64 a0), (AV.int .i64 a1)] rows r :=
  acalls_of_goes X.env X.good fn_vec_Has (c := bodyOf Tryd.prog 122) (by kernel_rfl) (by kernel_rfl) (m := 12) (by kernel_rfl) h
theorem c_vec_Has (X : Ctx E) (a0 : Int) (a1 : Int)  : ACalls Tryd.prog E n_vec_Has [(AV.int .i64 a0), (AV.int .i64 a1)] [] (AV.bool (hasS a0 a1)) :=
  vec_Has_calls X a0 a1 fun C hB => vec_Has_wp0 X hB a0 a1 ⟨fun h => ⟨(of_decide_eq_true h).1, rfl, by simp only [hasS, h, bitS, Bool.true_and]; congr 1⟩, fun h => ⟨rfl, by simp [hasS, h]⟩⟩

/-! ### omnibus/vec.With -/
theorem fn_vec_With : Tryd.prog.funcs[116]? = some Tryd.f116 := by kernel_rfl
def vec_With_at0 (C : C0) (a0 : Int) (a1 : Int) (rows : List Ob) (r : AV) : Prop := Goes Tryd.prog C 116 [.code (bodyOf Tryd.prog 116)] ([(AV.int .i64 a0), (AV.int .i64 a1)] ++ junks 11) [] rows r
theorem vec_With_wp0 (X : Ctx E) (hB : Base Tryd.prog E C) (a0 : Int) (a1 : Int) {rows : List Ob} {r : AV} (h : (((nodeS a1) = true → ((0 : Int) ≤ a1) ∧ (rows = [] ∧ r = (AV.int .i64 ((IntKind.wrap .i64 (BitVec.toNat (((· ||| ·)) (BitVec.ofInt (IntKind.bits .i64) a0) (BitVec.ofInt (IntKind.bits .i64) (IntKind.wrap .i64 (1 * 2 ^ min (a1 : Int).toNat (IntKind.bits .i64))))))) % 65536)))) ∧ (¬ ((nodeS a1) = true) → (rows = [] ∧ r = (AV.int .i64 (a0 % 65536)))))) : vec_With_at0 C a0 a1 rows r := by
  unfold vec_With_at0
  rcases Classical.em ((nodeS a1) = true) with hc1 | hc1
  · have h := h.1 hc1
    obtain ⟨hg2, h⟩ := h
    obtain ⟨h1, h2⟩ := h
    refine goes_eqR (h1.trans rfl) (h2.trans rfl) ((goes_ret (rows := []) (r := (AV.int .i64 ((IntKind.wrap .i64 (BitVec.toNat (((· ||| ·)) (BitVec.ofInt (IntKind.bits .i64) a0) (BitVec.ofInt (IntKind.bits .i64) (IntKind.wrap .i64 (1 * 2 ^ min (a1 : Int).toNat (IntKind.bits .i64))))))) % 65536))) hB fn_vec_With (rv := [.tmp 4]) (by kernel_rfl) (n := 9) (scr := [(7, .cf [] (AV.bool (nodeS a1))), (9, .b true), (29, .cf [] (AV.int .i64 ((IntKind.wrap .i64 (BitVec.toNat (((· ||| ·)) (BitVec.ofInt (IntKind.bits .i64) a0) (BitVec.ofInt (IntKind.bits .i64) (IntKind.wrap .i64 (1 * 2 ^ min (a1 : Int).toNat (IntKind.bits .i64))))))) % 65536)))]) (keep := []) (by kernel_rfl) (allc (c_vec_cut X (IntKind.wrap .i64 (BitVec.toNat (((· ||| ·)) (BitVec.ofInt (IntKind.bits .i64) a0) (BitVec.ofInt (IntKind.bits .i64) (IntKind.wrap .i64 (1 * 2 ^ min (a1 : Int).toNat (IntKind.bits .i64)))))))) (allc (show rowsFlat [] from trivial) (allc hg2 (allc hc1 (allc (c_vec_node X a1) (allc (show rowsFlat [] from trivial) alln))))))))
  · have h := h.2 hc1
    obtain ⟨h1, h2⟩ := h
    refine goes_eqR (h1.trans rfl) (h2.trans rfl) ((goes_ret (rows := []) (r := (AV.int .i64 (a0 % 65536))) hB fn_vec_With (rv := [.tmp 4]) (by kernel_rfl) (n := 9) (scr := [(7, .cf [] (AV.bool (nodeS a1))), (9, .b false), (14, .cf [] (AV.int .i64 (a0 % 65536)))]) (keep := []) (by kernel_rfl) (allc (c_vec_cut X a0) (allc (show rowsFlat [] from trivial) (allc (bF hc1) (allc (c_vec_node X a1) (allc (show rowsFlat [] from trivial) alln)))))))
theorem vec_With_calls (X : Ctx E) (a0 : Int) (a1 : Int) {rows : List Ob} {r : AV} (h : ∀ C, Base Tryd.prog E C → vec_With_at0 C a0 a1 rows r) : ACalls Tryd.prog E 116 [(AV.int .i64 a0), (AV.int .i64 a1)] rows r :=
  acalls_of_goes X.env X.good fn_vec_With (c := bodyOf Tryd.prog 116) (by kernel_rfl) (by kernel_rfl) (m := 11) (by kernel_rfl) h
theorem c_vec_With (X : Ctx E) (a0 : Int) (a1 : Int)  : ACalls Tryd.prog E n_vec_With [(AV.int .i64 a0), (AV.int .i64 a1)] [] (AV.int .i64 (withS a0 a1)) :=
  vec_With_calls X a0 a1 fun C hB => vec_With_wp0 X hB a0 a1 ⟨fun h => ⟨(of_decide_eq_true h).1, rfl, by rw [with_raw h]⟩, fun h => ⟨rfl, by simp [withS, h]⟩⟩

/-! ### omnibus/vec.nodes -/
theorem fn_vec_nodes : Tryd.prog.funcs[139]? = some Tryd.f139 := by kernel_rfl
def vec_nodes_at0 (C : C0) (a0 : Int) (rows : List Ob) (r : AV) : Prop := Goes Tryd.prog C 139 [.code (bodyOf Tryd.prog 139)] ([(AV.int .i64 a0)] ++ junks 3) [] rows r
theorem vec_nodes_wp0 (X : Ctx E) (hB : Base Tryd.prog E C) (a0 : Int) {rows : List Ob} {r : AV} (h : (rows = [] ∧ r = (AV.fn 152 [(AV.pin [(AV.int .i64 a0)] 0)]))) : vec_nodes_at0 C a0 rows r := by
  unfold vec_nodes_at0
  obtain ⟨h1, h2⟩ := h
  refine goes_eqR (h1.trans rfl) (h2.trans rfl) ((goes_ret (rows := []) (r := (AV.fn 152 [(AV.pin [(AV.int .i64 a0)] 0)])) hB fn_vec_nodes (rv := [.tmp 2]) (by kernel_rfl) (n := 4) (scr := []) (keep := []) (by kernel_rfl) alln))
theorem vec_nodes_calls (X : Ctx E) (a0 : Int) {rows : List Ob} {r : AV} (h : ∀ C, Base Tryd.prog E C → vec_nodes_at0 C a0 rows r) : ACalls Tryd.prog E 139 [(AV.int .i64 a0)] rows r :=
  acalls_of_goes X.env X.good fn_vec_nodes (c := bodyOf Tryd.prog 139) (by kernel_rfl) (by kernel_rfl) (m := 3) (by kernel_rfl) h
theorem c_vec_nodes (X : Ctx E) (a0 : Int) : ACalls Tryd.prog E n_vec_nodes [AV.int .i64 a0] [] (AV.fn n_vec_nodes_1 [AV.pin [AV.int .i64 a0] 0]) :=
  vec_nodes_calls X a0 fun C hB => vec_nodes_wp0 X hB a0 ⟨rfl, rfl⟩

/-! ### omnibus/vec.List -/
theorem fn_vec_List : Tryd.prog.funcs[114]? = some Tryd.f114 := by kernel_rfl
theorem fn_vec_nodes_1 : Tryd.prog.funcs[152]? = some Tryd.f152 := by kernel_rfl
noncomputable def vec_List_rf0 : List Item := (ctl 6 [.code (bodyOf Tryd.prog 114)] [])
def vec_List_at0 (C : C0) (a0 : Int) (rows : List Ob) (r : AV) : Prop := Goes Tryd.prog C 114 [.code (bodyOf Tryd.prog 114)] ([(AV.int .i64 a0)] ++ junks 11) [] rows r
def vec_List_at1 (C : C0) (v0 : Int) (v1 : Int) (v2 : Int) (v3 : (List Int)) (rows : List Ob) (r : AV) : Prop := GoesG Tryd.prog C 114 152 1 (rfK vec_List_rf0) (ctl 4 [.code (bodyOf Tryd.prog 152)] []) (([(AV.yld 1 (List.range 4)), (AV.pin [(AV.int .i64 v0)] 0), AV.junk, AV.junk, (AV.int .i64 v1)] ++ junks 14)) [Ob.df, (Ob.lp ([AV.junk, AV.junk, (AV.ptr 2 0), AV.junk, AV.junk, (AV.fn 152 [(AV.pin [(AV.int .i64 v2)] 0)])] ++ junks 6) 114 [6] (rfAsg vec_List_rf0) (rfBdy vec_List_rf0) LSt.ready), (Ob.box 54 [(AV.own 3)]), (Ob.row 3 1 (v3.map (AV.int .i64)))] rows r
theorem vec_List_wp0 (X : Ctx E) (hB : Base Tryd.prog E C) (a0 : Int) {rows : List Ob} {r : AV} (h : (vec_List_at1 C a0 0 a0 [] rows r)) : vec_List_at0 C a0 rows r := by
  unfold vec_List_at0
  refine goes_cut hB (n := 6) (scr := [(7, .c [] (AV.fn 152 [(AV.pin [(AV.int .i64 a0)] 0)]))]) (live := [2, 5]) (keep := [0]) (todo' := vec_List_rf0) (ts' := ([AV.junk, AV.junk, (AV.ptr 0 0), AV.junk, AV.junk, (AV.fn 152 [(AV.pin [(AV.int .i64 a0)] 0)])] ++ junks 6)) (h' := [(Ob.box 54 [(AV.sl .n [])])]) (by kernel_rfl) (allc (c_vec_nodes X a0) alln) (goes_eqS rfl rfl ?_)
  refine goes_adopt (l := [(3, 1, some 0, 0)]) (ts' := ([AV.junk, AV.junk, (AV.ptr 0 0), AV.junk, AV.junk, (AV.fn 152 [(AV.pin [(AV.int .i64 a0)] 0)])] ++ junks 6)) (h' := [(Ob.box 54 [(AV.own 1)]), (Ob.row 3 1 [])]) (by kernel_rfl) ?_
  refine goes_rangeT hB (gid := 152) (caps := [(AV.pin [(AV.int .i64 a0)] 0)]) (ts2 := ([(AV.yld 3 (List.range 4)), (AV.pin [(AV.int .i64 a0)] 0)] ++ junks 17)) (h2 := [(Ob.box 54 [(AV.own 1)]), (Ob.row 3 1 []), Ob.df, (Ob.lp ([AV.junk, AV.junk, (AV.ptr 0 0), AV.junk, AV.junk, (AV.fn 152 [(AV.pin [(AV.int .i64 a0)] 0)])] ++ junks 6) 114 [6] (rfAsg vec_List_rf0) (rfBdy vec_List_rf0) LSt.ready)]) (cG := bodyOf Tryd.prog 152) (m := 17) (lp := 3) (by kernel_rfl) (by kernel_rfl) fn_vec_nodes_1 (by kernel_rfl) (by kernel_rfl) (by kernel_rfl) (by kernel_rfl) (by kernel_rfl) (by kernel_rfl) (by kernel_rfl) ?_
  refine goesG_cut hB (n := 4) (scr := []) (live := [0, 1, 4]) (keep := [2, 3, 0, 1]) (lp' := 1) (todo' := (ctl 4 [.code (bodyOf Tryd.prog 152)] [])) (ts' := ([(AV.yld 1 (List.range 4)), (AV.pin [(AV.int .i64 a0)] 0), AV.junk, AV.junk, (AV.int .i64 0)] ++ junks 14)) (h' := [Ob.df, (Ob.lp ([AV.junk, AV.junk, (AV.ptr 2 0), AV.junk, AV.junk, (AV.fn 152 [(AV.pin [(AV.int .i64 a0)] 0)])] ++ junks 6) 114 [6] (rfAsg vec_List_rf0) (rfBdy vec_List_rf0) LSt.ready), (Ob.box 54 [(AV.own 3)]), (Ob.row 3 1 [])]) (by kernel_rfl) alln (goesG_eqS rfl rfl h)
theorem vec_List_wp1 (X : Ctx E) (hB : Base Tryd.prog E C) (v0 : Int) (v1 : Int) (v2 : Int) (v3 : (List Int)) {rows : List Ob} {r : AV} (h : ((v1 < 16 → ((0 : Int) ≤ v1) ∧ ((((Int.fdiv v0 (2 ^ min (v1 : Int).toNat (IntKind.bits .i64))) % 2) = 1 → (((v3).length + ([v1]).length) * 8 ≤ 140737488355328 ∧ (v3).length + ([v1]).length ≤ 140737488355328) ∧ ((-9223372036854775808) ≤ (v1 + 1) ∧ (v1 + 1) ≤ 9223372036854775807) ∧ (vec_List_at1 C v0 (v1 + 1) v2 (v3 ++ ([v1])) rows r)) ∧ (¬ (((Int.fdiv v0 (2 ^ min (v1 : Int).toNat (IntKind.bits .i64))) % 2) = 1) → ((-9223372036854775808) ≤ (v1 + 1) ∧ (v1 + 1) ≤ 9223372036854775807) ∧ (vec_List_at1 C v0 (v1 + 1) v2 v3 rows r)))) ∧ (¬ (v1 < 16) → (rows = [(Ob.row 3 1 (v3.map (AV.int .i64)))] ∧ r = (AV.own 0))))) : vec_List_at1 C v0 v1 v2 v3 rows r := by
  unfold vec_List_at1
  rcases Classical.em (v1 < 16) with hc1 | hc1
  · have h := h.1 hc1
    obtain ⟨hg2, h⟩ := h
    rcases Classical.em (((Int.fdiv v0 (2 ^ min (v1 : Int).toNat (IntKind.bits .i64))) % 2) = 1) with hc3 | hc3
    · have h := h.1 hc3
      obtain ⟨hg4, h⟩ := h
      obtain ⟨hg5, h⟩ := h
      refine goesG_cut hB (n := 16) (scr := [(3, .b true), (21, .v (AV.int .i64 ((Int.fdiv v0 (2 ^ min (v1 : Int).toNat (IntKind.bits .i64))) % 2))), (28, .b true), (31, .b true), (34, .b true), (35, .y LSt.ready [(2, (Ob.box 54 [(AV.own 5)])), (3, Ob.dead)] [(Ob.row 3 1 [(AV.int .i64 v1)]), (Ob.row 3 1 ((v3.map (AV.int .i64)) ++ ([(AV.int .i64 v1)])))]), (37, .b true), (41, .b true), (46, .v (AV.int .i64 (v1 + 1)))]) (live := [0, 1, 4]) (keep := [0, 1, 2, 5]) (lp' := 1) (todo' := (ctl 4 [.code (bodyOf Tryd.prog 152)] [])) (ts' := ([(AV.yld 1 (List.range 4)), (AV.pin [(AV.int .i64 v0)] 0), AV.junk, AV.junk, (AV.int .i64 (v1 + 1))] ++ junks 14)) (h' := [Ob.df, (Ob.lp ([AV.junk, AV.junk, (AV.ptr 2 0), AV.junk, AV.junk, (AV.fn 152 [(AV.pin [(AV.int .i64 v2)] 0)])] ++ junks 6) 114 [6] (rfAsg vec_List_rf0) (rfBdy vec_List_rf0) LSt.ready), (Ob.box 54 [(AV.own 3)]), (Ob.row 3 1 ((v3.map (AV.int .i64)) ++ ([(AV.int .i64 v1)])))]) (by kernel_rfl) (allc (wrap_i64 hg5) (allc (ieqT hc3) (allc (ieqT hc3) (allc (round_ok (P := Tryd.prog) (E := E) (n1 := 1) (n2 := 3) (scr := []) (id := 1) (H := [Ob.df, (Ob.lp ([AV.junk, AV.junk, (AV.ptr 2 0), AV.junk, AV.junk, (AV.fn 152 [(AV.pin [(AV.int .i64 v2)] 0)])] ++ junks 6) 114 [6] (rfAsg vec_List_rf0) (rfBdy vec_List_rf0) LSt.ready), (Ob.box 54 [(AV.own 3)]), (Ob.row 3 1 (v3.map (AV.int .i64)))]) (args := [(AV.int .i64 v1)]) (st := LSt.ready) (upd := [(2, (Ob.box 54 [(AV.own 5)])), (3, Ob.dead)]) (new := [(Ob.row 3 1 [(AV.int .i64 v1)]), (Ob.row 3 1 ((v3.map (AV.int .i64)) ++ ([(AV.int .i64 v1)])))]) (by kernel_rfl) (allc (cells_raw (show [(AV.int .i64 v1)] = (([v1]).map (AV.int .i64)) from by first | rfl | (simp only [List.map_append, List.map_cons, List.map_nil, List.map_set, List.map_take, List.map_drop, List.append_nil, List.nil_append, List.map_replicate, List.length_replicate, List.length_map]; try rfl)) cells_int_i64) (allc (le_raw3 (show (v3.map (AV.int .i64)) = (v3.map (AV.int .i64)) from rfl) (show [(AV.int .i64 v1)] = (([v1]).map (AV.int .i64)) from by first | rfl | (simp only [List.map_append, List.map_cons, List.map_nil, List.map_set, List.map_take, List.map_drop, List.append_nil, List.nil_append, List.map_replicate, List.length_replicate, List.length_map]; try rfl)) hg4.1) (allc (le_raw4 (show (v3.map (AV.int .i64)) = (v3.map (AV.int .i64)) from rfl) (show [(AV.int .i64 v1)] = (([v1]).map (AV.int .i64)) from by first | rfl | (simp only [List.map_append, List.map_cons, List.map_nil, List.map_set, List.map_take, List.map_drop, List.append_nil, List.nil_append, List.map_replicate, List.length_replicate, List.length_map]; try rfl)) hg4.2) alln)))) (allc (ieqT hc3) (allc (ieqT hc3) (allc (ieqT hc3) (allc (and1_i64 (Int.fdiv v0 (2 ^ min (v1 : Int).toNat (IntKind.bits .i64)))) (allc hg2 (allc (decide_eq_true hc1) alln)))))))))) (goesG_eqS rfl (by first | rfl | (simp only [List.map_append, List.map_cons, List.map_nil, List.map_set, List.map_take, List.map_drop, List.append_nil, List.nil_append, List.map_replicate, List.length_replicate, List.length_map]; try rfl)) h)
    · have h := h.2 hc3
      obtain ⟨hg6, h⟩ := h
      refine goesG_cut hB (n := 16) (scr := [(3, .b true), (21, .v (AV.int .i64 ((Int.fdiv v0 (2 ^ min (v1 : Int).toNat (IntKind.bits .i64))) % 2))), (28, .b false), (31, .b false), (34, .b false), (37, .b false), (41, .b false), (46, .v (AV.int .i64 (v1 + 1)))]) (live := [0, 1, 4]) (keep := [0, 1, 2, 3]) (lp' := 1) (todo' := (ctl 4 [.code (bodyOf Tryd.prog 152)] [])) (ts' := ([(AV.yld 1 (List.range 4)), (AV.pin [(AV.int .i64 v0)] 0), AV.junk, AV.junk, (AV.int .i64 (v1 + 1))] ++ junks 14)) (h' := [Ob.df, (Ob.lp ([AV.junk, AV.junk, (AV.ptr 2 0), AV.junk, AV.junk, (AV.fn 152 [(AV.pin [(AV.int .i64 v2)] 0)])] ++ junks 6) 114 [6] (rfAsg vec_List_rf0) (rfBdy vec_List_rf0) LSt.ready), (Ob.box 54 [(AV.own 3)]), (Ob.row 3 1 (v3.map (AV.int .i64)))]) (by kernel_rfl) (allc (wrap_i64 hg6) (allc (ieqF hc3) (allc (ieqF hc3) (allc (ieqF hc3) (allc (ieqF hc3) (allc (ieqF hc3) (allc (and1_i64 (Int.fdiv v0 (2 ^ min (v1 : Int).toNat (IntKind.bits .i64)))) (allc hg2 (allc (decide_eq_true hc1) alln))))))))) (goesG_eqS rfl rfl h)
  · have h := h.2 hc1
    refine goesG_end hB fn_vec_nodes_1 (by kernel_rfl) (n := 5) (scr := [(3, .b false)]) (jump := []) (ts' := ([AV.junk, AV.junk, (AV.ptr 2 0), AV.junk, AV.junk, (AV.fn 152 [(AV.pin [(AV.int .i64 v2)] 0)])] ++ junks 6)) (h' := [Ob.df, Ob.dead, (Ob.box 54 [(AV.own 3)]), (Ob.row 3 1 (v3.map (AV.int .i64)))]) (by kernel_rfl) (allc (decide_eq_false hc1) alln) ?_
    obtain ⟨h1, h2⟩ := h
    refine goes_eqR (h1.trans rfl) (h2.trans rfl) ((goes_ret (rows := [(Ob.row 3 1 (v3.map (AV.int .i64)))]) (r := (AV.own 0)) hB fn_vec_List (rv := [.cell 2 54]) (by kernel_rfl) (n := 3) (scr := []) (keep := [3]) (by kernel_rfl) alln))
theorem vec_List_calls (X : Ctx E) (a0 : Int) {rows : List Ob} {r : AV} (h : ∀ C, Base Tryd.prog E C → vec_List_at0 C a0 rows r) : ACalls Tryd.prog E 114 [(AV.int .i64 a0)] rows r :=
  acalls_of_goes X.env X.good fn_vec_List (c := bodyOf Tryd.prog 114) (by kernel_rfl) (by kernel_rfl) (m := 11) (by kernel_rfl) h
theorem vec_List_loop (X : Ctx E) (hB : Base Tryd.prog E C) (v v2 : Int) : ∀ (k i : Nat), 16 - i = k → i ≤ 16 → vec_List_at1 C v (i : Int) v2 (listN v i) [(Ob.row 3 1 ((listS v).map (AV.int .i64)))] (AV.own 0) := by
  intro k
  induction k with
  | zero =>
    intro i h1 h2
    have hi : i = 16 := by omega
    subst hi
    exact vec_List_wp1 X hB _ _ _ _ ⟨fun h => by omega, fun _ => ⟨rfl, rfl⟩⟩
  | succ k ih =>
    intro i h1 h2
    have hn := ih (i + 1) (by omega) (by omega)
    have hl := listN_length v i
    rw [listN_succ] at hn
    refine vec_List_wp1 X hB _ _ _ _ ⟨fun h => ⟨by omega, fun hb => ⟨by simp; omega, by omega, ?_⟩, fun hb => ⟨by omega, ?_⟩⟩, fun h => by omega⟩
    · have : bitS v (i : Int) = true := decide_eq_true hb
      rw [if_pos this] at hn; exact hn
    · have : ¬ bitS v (i : Int) = true := fun h => hb (of_decide_eq_true h)
      rw [if_neg this] at hn; exact hn
theorem c_vec_List (X : Ctx E) (a0 : Int) : ACalls Tryd.prog E n_vec_List [AV.int .i64 a0] [(Ob.row 3 1 ((listS a0).map (AV.int .i64)))] (AV.own 0) :=
  vec_List_calls X a0 fun C hB => vec_List_wp0 X hB a0 (vec_List_loop X hB a0 a0 16 0 (by omega) (by omega))

/-! ### omnibus/vec.Count -/
theorem fn_vec_Count : Tryd.prog.funcs[120]? = some Tryd.f120 := by kernel_rfl
noncomputable def vec_Count_rf0 : List Item := (ctl 6 [.code (bodyOf Tryd.prog 120)] [])
def vec_Count_at0 (C : C0) (a0 : Int) (rows : List Ob) (r : AV) : Prop := Goes Tryd.prog C 120 [.code (bodyOf Tryd.prog 120)] ([(AV.int .i64 a0)] ++ junks 8) [] rows r
def vec_Count_at1 (C : C0) (v0 : Int) (v1 : Int) (v2 : Int) (v3 : Int) (rows : List Ob) (r : AV) : Prop := GoesG Tryd.prog C 120 152 1 (rfK vec_Count_rf0) (ctl 4 [.code (bodyOf Tryd.prog 152)] []) (([(AV.yld 1 (List.range 3)), (AV.pin [(AV.int .i64 v0)] 0), AV.junk, AV.junk, (AV.int .i64 v1)] ++ junks 14)) [Ob.df, (Ob.lp ([AV.junk, AV.junk, (AV.ptr 2 0), AV.junk, (AV.fn 152 [(AV.pin [(AV.int .i64 v2)] 0)])] ++ junks 4) 120 [5] (rfAsg vec_Count_rf0) (rfBdy vec_Count_rf0) LSt.ready), (Ob.box 3 [(AV.int .i64 v3)])] rows r
theorem vec_Count_wp0 (X : Ctx E) (hB : Base Tryd.prog E C) (a0 : Int) {rows : List Ob} {r : AV} (h : (vec_Count_at1 C a0 0 a0 0 rows r)) : vec_Count_at0 C a0 rows r := by
  unfold vec_Count_at0
  refine goes_cut hB (n := 6) (scr := [(7, .c [] (AV.fn 152 [(AV.pin [(AV.int .i64 a0)] 0)]))]) (live := [2, 4]) (keep := [0]) (todo' := vec_Count_rf0) (ts' := ([AV.junk, AV.junk, (AV.ptr 0 0), AV.junk, (AV.fn 152 [(AV.pin [(AV.int .i64 a0)] 0)])] ++ junks 4)) (h' := [(Ob.box 3 [(AV.int .i64 0)])]) (by kernel_rfl) (allc (c_vec_nodes X a0) alln) (goes_eqS rfl rfl ?_)
  refine goes_rangeT hB (gid := 152) (caps := [(AV.pin [(AV.int .i64 a0)] 0)]) (ts2 := ([(AV.yld 2 (List.range 3)), (AV.pin [(AV.int .i64 a0)] 0)] ++ junks 17)) (h2 := [(Ob.box 3 [(AV.int .i64 0)]), Ob.df, (Ob.lp ([AV.junk, AV.junk, (AV.ptr 0 0), AV.junk, (AV.fn 152 [(AV.pin [(AV.int .i64 a0)] 0)])] ++ junks 4) 120 [5] (rfAsg vec_Count_rf0) (rfBdy vec_Count_rf0) LSt.ready)]) (cG := bodyOf Tryd.prog 152) (m := 17) (lp := 2) (by kernel_rfl) (by kernel_rfl) fn_vec_nodes_1 (by kernel_rfl) (by kernel_rfl) (by kernel_rfl) (by kernel_rfl) (by kernel_rfl) (by kernel_rfl) (by kernel_rfl) ?_
  refine goesG_cut hB (n := 4) (scr := []) (live := [0, 1, 4]) (keep := [1, 2, 0]) (lp' := 1) (todo' := (ctl 4 [.code (bodyOf Tryd.prog 152)] [])) (ts' := ([(AV.yld 1 (List.range 3)), (AV.pin [(AV.int .i64 a0)] 0), AV.junk, AV.junk, (AV.int .i64 0)] ++ junks 14)) (h' := [Ob.df, (Ob.lp ([AV.junk, AV.junk, (AV.ptr 2 0), AV.junk, (AV.fn 152 [(AV.pin [(AV.int .i64 a0)] 0)])] ++ junks 4) 120 [5] (rfAsg vec_Count_rf0) (rfBdy vec_Count_rf0) LSt.ready), (Ob.box 3 [(AV.int .i64 0)])]) (by kernel_rfl) alln (goesG_eqS rfl rfl h)
theorem vec_Count_wp1 (X : Ctx E) (hB : Base Tryd.prog E C) (v0 : Int) (v1 : Int) (v2 : Int) (v3 : Int) {rows : List Ob} {r : AV} (h : ((v1 < 16 → ((0 : Int) ≤ v1) ∧ ((((Int.fdiv v0 (2 ^ min (v1 : Int).toNat (IntKind.bits .i64))) % 2) = 1 → ((-9223372036854775808) ≤ (v3 + 1) ∧ (v3 + 1) ≤ 9223372036854775807) ∧ ((-9223372036854775808) ≤ (v1 + 1) ∧ (v1 + 1) ≤ 9223372036854775807) ∧ (vec_Count_at1 C v0 (v1 + 1) v2 (v3 + 1) rows r)) ∧ (¬ (((Int.fdiv v0 (2 ^ min (v1 : Int).toNat (IntKind.bits .i64))) % 2) = 1) → ((-9223372036854775808) ≤ (v1 + 1) ∧ (v1 + 1) ≤ 9223372036854775807) ∧ (vec_Count_at1 C v0 (v1 + 1) v2 v3 rows r)))) ∧ (¬ (v1 < 16) → (rows = [] ∧ r = (AV.int .i64 v3))))) : vec_Count_at1 C v0 v1 v2 v3 rows r := by
  unfold vec_Count_at1
  rcases Classical.em (v1 < 16) with hc1 | hc1
  · have h := h.1 hc1
    obtain ⟨hg2, h⟩ := h
    rcases Classical.em (((Int.fdiv v0 (2 ^ min (v1 : Int).toNat (IntKind.bits .i64))) % 2) = 1) with hc3 | hc3
    · have h := h.1 hc3
      obtain ⟨hg4, h⟩ := h
      obtain ⟨hg5, h⟩ := h
      refine goesG_cut hB (n := 16) (scr := [(3, .b true), (21, .v (AV.int .i64 ((Int.fdiv v0 (2 ^ min (v1 : Int).toNat (IntKind.bits .i64))) % 2))), (28, .b true), (31, .b true), (34, .b true), (35, .y LSt.ready [(2, (Ob.box 3 [(AV.int .i64 (v3 + 1))]))] []), (37, .b true), (41, .b true), (46, .v (AV.int .i64 (v1 + 1)))]) (live := [0, 1, 4]) (keep := [0, 1, 2]) (lp' := 1) (todo' := (ctl 4 [.code (bodyOf Tryd.prog 152)] [])) (ts' := ([(AV.yld 1 (List.range 3)), (AV.pin [(AV.int .i64 v0)] 0), AV.junk, AV.junk, (AV.int .i64 (v1 + 1))] ++ junks 14)) (h' := [Ob.df, (Ob.lp ([AV.junk, AV.junk, (AV.ptr 2 0), AV.junk, (AV.fn 152 [(AV.pin [(AV.int .i64 v2)] 0)])] ++ junks 4) 120 [5] (rfAsg vec_Count_rf0) (rfBdy vec_Count_rf0) LSt.ready), (Ob.box 3 [(AV.int .i64 (v3 + 1))])]) (by kernel_rfl) (allc (wrap_i64 hg5) (allc (ieqT hc3) (allc (ieqT hc3) (allc (round_ok (P := Tryd.prog) (E := E) (n1 := 1) (n2 := 3) (scr := [(5, .v (AV.int .i64 (v3 + 1)))]) (id := 1) (H := [Ob.df, (Ob.lp ([AV.junk, AV.junk, (AV.ptr 2 0), AV.junk, (AV.fn 152 [(AV.pin [(AV.int .i64 v2)] 0)])] ++ junks 4) 120 [5] (rfAsg vec_Count_rf0) (rfBdy vec_Count_rf0) LSt.ready), (Ob.box 3 [(AV.int .i64 v3)])]) (args := [(AV.int .i64 v1)]) (st := LSt.ready) (upd := [(2, (Ob.box 3 [(AV.int .i64 (v3 + 1))]))]) (new := []) (by kernel_rfl) (allc (wrap_i64 hg4) alln)) (allc (ieqT hc3) (allc (ieqT hc3) (allc (ieqT hc3) (allc (and1_i64 (Int.fdiv v0 (2 ^ min (v1 : Int).toNat (IntKind.bits .i64)))) (allc hg2 (allc (decide_eq_true hc1) alln)))))))))) (goesG_eqS rfl rfl h)
    · have h := h.2 hc3
      obtain ⟨hg6, h⟩ := h
      refine goesG_cut hB (n := 16) (scr := [(3, .b true), (21, .v (AV.int .i64 ((Int.fdiv v0 (2 ^ min (v1 : Int).toNat (IntKind.bits .i64))) % 2))), (28, .b false), (31, .b false), (34, .b false), (37, .b false), (41, .b false), (46, .v (AV.int .i64 (v1 + 1)))]) (live := [0, 1, 4]) (keep := [0, 1, 2]) (lp' := 1) (todo' := (ctl 4 [.code (bodyOf Tryd.prog 152)] [])) (ts' := ([(AV.yld 1 (List.range 3)), (AV.pin [(AV.int .i64 v0)] 0), AV.junk, AV.junk, (AV.int .i64 (v1 + 1))] ++ junks 14)) (h' := [Ob.df, (Ob.lp ([AV.junk, AV.junk, (AV.ptr 2 0), AV.junk, (AV.fn 152 [(AV.pin [(AV.int .i64 v2)] 0)])] ++ junks 4) 120 [5] (rfAsg vec_Count_rf0) (rfBdy vec_Count_rf0) LSt.ready), (Ob.box 3 [(AV.int .i64 v3)])]) (by kernel_rfl) (allc (wrap_i64 hg6) (allc (ieqF hc3) (allc (ieqF hc3) (allc (ieqF hc3) (allc (ieqF hc3) (allc (ieqF hc3) (allc (and1_i64 (Int.fdiv v0 (2 ^ min (v1 : Int).toNat (IntKind.bits .i64)))) (allc hg2 (allc (decide_eq_true hc1) alln))))))))) (goesG_eqS rfl rfl h)
  · have h := h.2 hc1
    refine goesG_end hB fn_vec_nodes_1 (by kernel_rfl) (n := 5) (scr := [(3, .b false)]) (jump := []) (ts' := ([AV.junk, AV.junk, (AV.ptr 2 0), AV.junk, (AV.fn 152 [(AV.pin [(AV.int .i64 v2)] 0)])] ++ junks 4)) (h' := [Ob.df, Ob.dead, (Ob.box 3 [(AV.int .i64 v3)])]) (by kernel_rfl) (allc (decide_eq_false hc1) alln) ?_
    obtain ⟨h1, h2⟩ := h
    refine goes_eqR (h1.trans rfl) (h2.trans rfl) ((goes_ret (rows := []) (r := (AV.int .i64 v3)) hB fn_vec_Count (rv := [.cell 2 3]) (by kernel_rfl) (n := 3) (scr := []) (keep := []) (by kernel_rfl) alln))
theorem vec_Count_calls (X : Ctx E) (a0 : Int) {rows : List Ob} {r : AV} (h : ∀ C, Base Tryd.prog E C → vec_Count_at0 C a0 rows r) : ACalls Tryd.prog E 120 [(AV.int .i64 a0)] rows r :=
  acalls_of_goes X.env X.good fn_vec_Count (c := bodyOf Tryd.prog 120) (by kernel_rfl) (by kernel_rfl) (m := 8) (by kernel_rfl) h
theorem vec_Count_loop (X : Ctx E) (hB : Base Tryd.prog E C) (v v2 : Int) : ∀ (k i : Nat), 16 - i = k → i ≤ 16 → vec_Count_at1 C v (i : Int) v2 ((listN v i).length : Int) [] (AV.int .i64 (countS v)) := by
  intro k
  induction k with
  | zero =>
    intro i h1 h2
    have hi : i = 16 := by omega
    subst hi
    exact vec_Count_wp1 X hB _ _ _ _ ⟨fun h => by omega, fun _ => ⟨rfl, rfl⟩⟩
  | succ k ih =>
    intro i h1 h2
    have hn := ih (i + 1) (by omega) (by omega)
    have hl := listN_length v i
    rw [listN_succ] at hn
    refine vec_Count_wp1 X hB _ _ _ _ ⟨fun h => ⟨by omega, fun hb => ⟨by omega, by omega, ?_⟩, fun hb => ⟨by omega, ?_⟩⟩, fun h => by omega⟩
    · have : bitS v (i : Int) = true := decide_eq_true hb
      rw [if_pos this, List.length_append] at hn; exact hn
    · have : ¬ bitS v (i : Int) = true := fun h => hb (of_decide_eq_true h)
      rw [if_neg this] at hn; exact hn
theorem c_vec_Count (X : Ctx E) (a0 : Int) : ACalls Tryd.prog E n_vec_Count [AV.int .i64 a0] [] (AV.int .i64 (countS a0)) :=
  vec_Count_calls X a0 fun C hB => vec_Count_wp0 X hB a0 (vec_Count_loop X hB a0 a0 16 0 (by omega) (by omega))

/-! ### omnibus/omnibusref03.mod -/
theorem fn_ref03_mod : Tryd.prog.funcs[80]? = some Tryd.f80 := by kernel_rfl
def ref03_mod_at0 (C : C0) (a0 : Int) (rows : List Ob) (r : AV) : Prop := Goes Tryd.prog C 80 [.code (bodyOf Tryd.prog 80)] ([(AV.int .i64 a0)] ++ junks 10) [] rows r
theorem ref03_mod_wp0 (X : Ctx E) (hB : Base Tryd.prog E C) (a0 : Int) {rows : List Ob} {r : AV} (h : (((Int.tmod a0 65536) < 0 → ((-9223372036854775808) ≤ ((Int.tmod a0 65536) + 65536) ∧ ((Int.tmod a0 65536) + 65536) ≤ 9223372036854775807) ∧ (rows = [] ∧ r = (AV.int .i64 ((Int.tmod a0 65536) + 65536)))) ∧ (¬ ((Int.tmod a0 65536) < 0) → (rows = [] ∧ r = (AV.int .i64 (Int.tmod a0 65536)))))) : ref03_mod_at0 C a0 rows r := by
  unfold ref03_mod_at0
  rcases Classical.em ((Int.tmod a0 65536) < 0) with hc1 | hc1
  · have h := h.1 hc1
    obtain ⟨hg2, h⟩ := h
    obtain ⟨h1, h2⟩ := h
    refine goes_eqR (h1.trans rfl) (h2.trans rfl) ((goes_ret (rows := []) (r := (AV.int .i64 ((Int.tmod a0 65536) + 65536))) hB fn_ref03_mod (rv := [.tmp 2]) (by kernel_rfl) (n := 10) (scr := [(18, .b true), (24, .v (AV.int .i64 ((Int.tmod a0 65536) + 65536)))]) (keep := []) (by kernel_rfl) (allc (wrap_i64 hg2) (allc (decide_eq_true hc1) (allc (show (65536 : Int) ≠ 0 from by decide) alln)))))
  · have h := h.2 hc1
    obtain ⟨h1, h2⟩ := h
    refine goes_eqR (h1.trans rfl) (h2.trans rfl) ((goes_ret (rows := []) (r := (AV.int .i64 (Int.tmod a0 65536))) hB fn_ref03_mod (rv := [.tmp 2]) (by kernel_rfl) (n := 11) (scr := [(18, .b false)]) (keep := []) (by kernel_rfl) (allc (decide_eq_false hc1) (allc (show (65536 : Int) ≠ 0 from by decide) alln))))
theorem ref03_mod_calls (X : Ctx E) (a0 : Int) {rows : List Ob} {r : AV} (h : ∀ C, Base Tryd.prog E C → ref03_mod_at0 C a0 rows r) : ACalls Tryd.prog E 80 [(AV.int .i64 a0)] rows r :=
  acalls_of_goes X.env X.good fn_ref03_mod (c := bodyOf Tryd.prog 80) (by kernel_rfl) (by kernel_rfl) (m := 10) (by kernel_rfl) h
theorem c_ref03_mod (X : Ctx E) (a0 : Int)  : ACalls Tryd.prog E n_ref03_mod [(AV.int .i64 a0)] [] (AV.int .i64 (a0 % 65536)) :=
  ref03_mod_calls X a0 fun C hB => ref03_mod_wp0 X hB a0 (by have := mod_tmod a0; refine ⟨fun h => ?_, fun h => ?_⟩ <;> simp only [h, if_true, if_false] at this <;> rw [this]; exact ⟨by omega, rfl, rfl⟩; exact ⟨rfl, rfl⟩)

/-! ### omnibus/omnibusref03.Has -/
theorem fn_ref03_Has : Tryd.prog.funcs[40]? = some Tryd.f40 := by kernel_rfl
def ref03_Has_at0 (C : C0) (a0 : Int) (a1 : Int) (rows : List Ob) (r : AV) : Prop := Goes Tryd.prog C 40 [.code (bodyOf Tryd.prog 40)] ([(AV.int .i64 a0), (AV.int .i64 a1)] ++ junks 17) [] rows r
theorem ref03_Has_wp0 (X : Ctx E) (hB : Base Tryd.prog E C) (a0 : Int) (a1 : Int) {rows : List Ob} {r : AV} (h : ((a1 ≥ 0 → ((a1 ≤ 15 → ((0 : Int) ≤ a1) ∧ (rows = [] ∧ r = (AV.bool (((Int.fdiv (a0 % 65536) (2 ^ min (a1 : Int).toNat (IntKind.bits .i64))) % 2) == 1)))) ∧ (¬ (a1 ≤ 15) → (rows = [] ∧ r = (AV.bool false))))) ∧ (¬ (a1 ≥ 0) → (rows = [] ∧ r = (AV.bool false))))) : ref03_Has_at0 C a0 a1 rows r := by
  unfold ref03_Has_at0
  rcases Classical.em (a1 ≥ 0) with hc1 | hc1
  · have h := h.1 hc1
    rcases Classical.em (a1 ≤ 15) with hc2 | hc2
    · have h := h.1 hc2
      obtain ⟨hg3, h⟩ := h
      obtain ⟨h1, h2⟩ := h
      refine goes_eqR (h1.trans rfl) (h2.trans rfl) ((goes_ret (rows := []) (r := (AV.bool (((Int.fdiv (a0 % 65536) (2 ^ min (a1 : Int).toNat (IntKind.bits .i64))) % 2) == 1))) hB fn_ref03_Has (rv := [.tmp 4]) (by kernel_rfl) (n := 4) (scr := [(12, .b true), (15, .b true), (19, .b true), (24, .b true), (27, .b true), (28, .cf [] (AV.int .i64 (a0 % 65536))), (30, .b true), (33, .b true), (36, .b true), (38, .v (AV.int .i64 ((Int.fdiv (a0 % 65536) (2 ^ min (a1 : Int).toNat (IntKind.bits .i64))) % 2))), (39, .b true), (43, .b true)]) (keep := []) (by kernel_rfl) (allc (decide_eq_true hc2) (allc (decide_eq_true hc2) (allc (and1_i64 (Int.fdiv (a0 % 65536) (2 ^ min (a1 : Int).toNat (IntKind.bits .i64)))) (allc (decide_eq_true hc2) (allc hg3 (allc (decide_eq_true hc2) (allc (decide_eq_true hc2) (allc (c_ref03_mod X a0) (allc (show rowsFlat [] from trivial) (allc (decide_eq_true hc2) (allc (decide_eq_true hc2) (allc (decide_eq_true hc1) (allc (decide_eq_true hc1) (allc (decide_eq_true hc1) alln))))))))))))))))
    · have h := h.2 hc2
      obtain ⟨h1, h2⟩ := h
      refine goes_eqR (h1.trans rfl) (h2.trans rfl) ((goes_ret (rows := []) (r := (AV.bool false)) hB fn_ref03_Has (rv := [.tmp 4]) (by kernel_rfl) (n := 4) (scr := [(12, .b true), (15, .b true), (19, .b true), (24, .b false), (27, .b false), (30, .b false), (33, .b false), (36, .b false), (39, .b false), (43, .b false)]) (keep := []) (by kernel_rfl) (allc (decide_eq_false hc2) (allc (decide_eq_false hc2) (allc (decide_eq_false hc2) (allc (decide_eq_false hc2) (allc (decide_eq_false hc2) (allc (decide_eq_false hc2) (allc (decide_eq_false hc2) (allc (decide_eq_true hc1) (allc (decide_eq_true hc1) (allc (decide_eq_true hc1) alln))))))))))))
  · have h := h.2 hc1
    obtain ⟨h1, h2⟩ := h
    refine goes_eqR (h1.trans rfl) (h2.trans rfl) ((goes_ret (rows := []) (r := (AV.bool false)) hB fn_ref03_Has (rv := [.tmp 4]) (by kernel_rfl) (n := 4) (scr := [(12, .b false), (15, .b false), (19, .b false)]) (keep := []) (by kernel_rfl) (allc (decide_eq_false hc1) (allc (decide_eq_false hc1) (allc (decide_eq_false hc1) alln)))))
theorem ref03_Has_calls (X : Ctx E) (a0 : Int) (a1 : Int) {rows : List Ob} {r : AV} (h : ∀ C, Base Tryd.prog E C → ref03_Has_at0 C a0 a1 rows r) : ACalls Tryd.prog E 40 [(AV.int .i64 a0), (AV.int .i64 a1)] rows r :=
  acalls_of_goes X.env X.good fn_ref03_Has (c := bodyOf Tryd.prog 40) (by kernel_rfl) (by kernel_rfl) (m := 17) (by kernel_rfl) h
theorem c_ref03_Has (X : Ctx E) (a0 : Int) (a1 : Int)  : ACalls Tryd.prog E n_ref03_Has [(AV.int .i64 a0), (AV.int .i64 a1)] [] (AV.bool (hasS a0 a1)) :=
  ref03_Has_calls X a0 a1 fun C hB => ref03_Has_wp0 X hB a0 a1 ⟨fun h => ⟨fun h2 => ⟨by omega, rfl, by rw [hasS, ← bit_mod (by omega) (by omega)]; simp only [nodeS, bitS]; rw [decide_eq_true (by omega)]; rfl⟩, fun h2 => ⟨rfl, by simp [hasS, nodeS]; omega⟩⟩, fun h => ⟨rfl, by simp [hasS, nodeS]; omega⟩⟩

/-! ### omnibus/omnibusref03.List -/
theorem fn_ref03_List : Tryd.prog.funcs[71]? = some Tryd.f71 := by kernel_rfl
def ref03_List_at0 (C : C0) (a0 : Int) (rows : List Ob) (r : AV) : Prop := Goes Tryd.prog C 71 [.code (bodyOf Tryd.prog 71)] ([(AV.int .i64 a0)] ++ junks 16) [] rows r
def ref03_List_at1 (C : C0) (v0 : Int) (v1 : Int) (v2 : (List Int)) (rows : List Ob) (r : AV) : Prop := Goes Tryd.prog C 71 (ctl 9 [.code (bodyOf Tryd.prog 71)] []) (([(AV.int .i64 v0), AV.junk, AV.junk, (AV.own 0), (AV.int .i64 v1)] ++ junks 12)) [(Ob.row 3 1 (v2.map (AV.int .i64)))] rows r
theorem ref03_List_wp0 (X : Ctx E) (hB : Base Tryd.prog E C) (a0 : Int) {rows : List Ob} {r : AV} (h : (ref03_List_at1 C a0 0 [] rows r)) : ref03_List_at0 C a0 rows r := by
  unfold ref03_List_at0
  refine goes_cut hB (n := 9) (scr := []) (live := [0, 3, 4]) (keep := []) (todo' := (ctl 9 [.code (bodyOf Tryd.prog 71)] [])) (ts' := ([(AV.int .i64 a0), AV.junk, AV.junk, (AV.sl .n []), (AV.int .i64 0)] ++ junks 12)) (h' := []) (by kernel_rfl) alln (goes_eqS rfl rfl (goes_adopt (l := [(3, 1, none, 3)]) (ts' := ([(AV.int .i64 a0), AV.junk, AV.junk, (AV.own 0), (AV.int .i64 0)] ++ junks 12)) (h' := [(Ob.row 3 1 [])]) (by kernel_rfl) h))
theorem ref03_List_wp1 (X : Ctx E) (hB : Base Tryd.prog E C) (v0 : Int) (v1 : Int) (v2 : (List Int)) {rows : List Ob} {r : AV} (h : ((v1 < 16 → (((hasS v0 v1) = true → (((v2).length + ([v1]).length) * 8 ≤ 140737488355328 ∧ (v2).length + ([v1]).length ≤ 140737488355328) ∧ ((-9223372036854775808) ≤ (v1 + 1) ∧ (v1 + 1) ≤ 9223372036854775807) ∧ (ref03_List_at1 C v0 (v1 + 1) (v2 ++ ([v1])) rows r)) ∧ (¬ ((hasS v0 v1) = true) → ((-9223372036854775808) ≤ (v1 + 1) ∧ (v1 + 1) ≤ 9223372036854775807) ∧ (ref03_List_at1 C v0 (v1 + 1) v2 rows r)))) ∧ (¬ (v1 < 16) → (rows = [(Ob.row 3 1 (v2.map (AV.int .i64)))] ∧ r = (AV.own 0))))) : ref03_List_at1 C v0 v1 v2 rows r := by
  unfold ref03_List_at1
  rcases Classical.em (v1 < 16) with hc1 | hc1
  · have h := h.1 hc1
    rcases Classical.em ((hasS v0 v1) = true) with hc2 | hc2
    · have h := h.1 hc2
      obtain ⟨hg3, h⟩ := h
      obtain ⟨hg4, h⟩ := h
      refine goes_cut hB (n := 14) (scr := [(6, .b true), (14, .cf [] (AV.bool (hasS v0 v1))), (16, .b true), (37, .v (AV.int .i64 (v1 + 1)))]) (live := [0, 3, 4]) (keep := [2]) (todo' := (ctl 9 [.code (bodyOf Tryd.prog 71)] [])) (ts' := ([(AV.int .i64 v0), AV.junk, AV.junk, (AV.own 0), (AV.int .i64 (v1 + 1))] ++ junks 12)) (h' := [(Ob.row 3 1 ((v2.map (AV.int .i64)) ++ ([(AV.int .i64 v1)])))]) (by kernel_rfl) (allc (wrap_i64 hg4) (allc (cells_raw (show [(AV.int .i64 v1)] = (([v1]).map (AV.int .i64)) from by first | rfl | (simp only [List.map_append, List.map_cons, List.map_nil, List.map_set, List.map_take, List.map_drop, List.append_nil, List.nil_append, List.map_replicate, List.length_replicate, List.length_map]; try rfl)) cells_int_i64) (allc (le_raw3 (show (v2.map (AV.int .i64)) = (v2.map (AV.int .i64)) from rfl) (show [(AV.int .i64 v1)] = (([v1]).map (AV.int .i64)) from by first | rfl | (simp only [List.map_append, List.map_cons, List.map_nil, List.map_set, List.map_take, List.map_drop, List.append_nil, List.nil_append, List.map_replicate, List.length_replicate, List.length_map]; try rfl)) hg3.1) (allc (le_raw4 (show (v2.map (AV.int .i64)) = (v2.map (AV.int .i64)) from rfl) (show [(AV.int .i64 v1)] = (([v1]).map (AV.int .i64)) from by first | rfl | (simp only [List.map_append, List.map_cons, List.map_nil, List.map_set, List.map_take, List.map_drop, List.append_nil, List.nil_append, List.map_replicate, List.length_replicate, List.length_map]; try rfl)) hg3.2) (allc hc2 (allc (c_ref03_Has X v0 v1) (allc (show rowsFlat [] from trivial) (allc (decide_eq_true hc1) alln)))))))) (goes_eqS rfl (by first | rfl | (simp only [List.map_append, List.map_cons, List.map_nil, List.map_set, List.map_take, List.map_drop, List.append_nil, List.nil_append, List.map_replicate, List.length_replicate, List.length_map]; try rfl)) h)
    · have h := h.2 hc2
      obtain ⟨hg5, h⟩ := h
      refine goes_cut hB (n := 14) (scr := [(6, .b true), (14, .cf [] (AV.bool (hasS v0 v1))), (16, .b false), (22, .v (AV.int .i64 (v1 + 1)))]) (live := [0, 3, 4]) (keep := [0]) (todo' := (ctl 9 [.code (bodyOf Tryd.prog 71)] [])) (ts' := ([(AV.int .i64 v0), AV.junk, AV.junk, (AV.own 0), (AV.int .i64 (v1 + 1))] ++ junks 12)) (h' := [(Ob.row 3 1 (v2.map (AV.int .i64)))]) (by kernel_rfl) (allc (wrap_i64 hg5) (allc (bF hc2) (allc (c_ref03_Has X v0 v1) (allc (show rowsFlat [] from trivial) (allc (decide_eq_true hc1) alln))))) (goes_eqS rfl rfl h)
  · have h := h.2 hc1
    obtain ⟨h1, h2⟩ := h
    refine goes_eqR (h1.trans rfl) (h2.trans rfl) ((goes_ret (rows := [(Ob.row 3 1 (v2.map (AV.int .i64)))]) (r := (AV.own 0)) hB fn_ref03_List (rv := [.tmp 2]) (by kernel_rfl) (n := 7) (scr := [(6, .b false)]) (keep := [0]) (by kernel_rfl) (allc (decide_eq_false hc1) alln)))
theorem ref03_List_calls (X : Ctx E) (a0 : Int) {rows : List Ob} {r : AV} (h : ∀ C, Base Tryd.prog E C → ref03_List_at0 C a0 rows r) : ACalls Tryd.prog E 71 [(AV.int .i64 a0)] rows r :=
  acalls_of_goes X.env X.good fn_ref03_List (c := bodyOf Tryd.prog 71) (by kernel_rfl) (by kernel_rfl) (m := 16) (by kernel_rfl) h
theorem ref03_List_loop (X : Ctx E) (hB : Base Tryd.prog E C) (v : Int) : ∀ (k i : Nat), 16 - i = k → i ≤ 16 → ref03_List_at1 C v (i : Int) (listN v i) [(Ob.row 3 1 ((listS v).map (AV.int .i64)))] (AV.own 0) := by
  intro k
  induction k with
  | zero =>
    intro i h1 h2
    have hi : i = 16 := by omega
    subst hi
    exact ref03_List_wp1 X hB _ _ _ ⟨fun h => by omega, fun _ => ⟨rfl, rfl⟩⟩
  | succ k ih =>
    intro i h1 h2
    have hn := ih (i + 1) (by omega) (by omega)
    have hl := listN_length v i
    rw [listN_succ] at hn
    have hb : hasS v (i : Int) = bitS v (i : Int) := by simp [hasS, nodeS]; intro; omega
    refine ref03_List_wp1 X hB _ _ _ ⟨fun h => ⟨fun hb' => ⟨by simp; omega, by omega, ?_⟩, fun hb' => ⟨by omega, ?_⟩⟩, fun h => by omega⟩
    · rw [hb] at hb'; rw [if_pos hb'] at hn; exact hn
    · rw [hb] at hb'; rw [if_neg hb'] at hn; exact hn
theorem c_ref03_List (X : Ctx E) (a0 : Int) : ACalls Tryd.prog E n_ref03_List [AV.int .i64 a0] [(Ob.row 3 1 ((listS a0).map (AV.int .i64)))] (AV.own 0) :=
  ref03_List_calls X a0 fun C hB => ref03_List_wp0 X hB a0 (ref03_List_loop X hB a0 16 0 (by omega) (by omega))

/-! ### omnibus/omnibusref03.Count -/
theorem fn_ref03_Count : Tryd.prog.funcs[111]? = some Tryd.f111 := by kernel_rfl
def ref03_Count_at0 (C : C0) (a0 : Int) (rows : List Ob) (r : AV) : Prop := Goes Tryd.prog C 111 [.code (bodyOf Tryd.prog 111)] ([(AV.int .i64 a0)] ++ junks 5) [] rows r
theorem ref03_Count_wp0 (X : Ctx E) (hB : Base Tryd.prog E C) (a0 : Int) {rows : List Ob} {r : AV} (h : (rows = [] ∧ r = (AV.int .i64 ((listS a0).length : Int)))) : ref03_Count_at0 C a0 rows r := by
  unfold ref03_Count_at0
  obtain ⟨h1, h2⟩ := h
  refine goes_eqR (h1.trans rfl) (h2.trans rfl) ((goes_ret (rows := []) (r := (AV.int .i64 ((listS a0).length : Int))) hB fn_ref03_Count (rv := [.tmp 2]) (by kernel_rfl) (n := 4) (scr := [(7, .cf [(Ob.row 3 1 ((listS a0).map (AV.int .i64)))] (AV.own 0)), (11, .v (AV.int .i64 ((listS a0).length : Int)))]) (keep := []) (by kernel_rfl) (allc (len_raw (show ((listS a0).map (AV.int .i64)) = ((listS a0).map (AV.int .i64)) from rfl)) (allc (c_ref03_List X a0) (allc (show rowsFlat [(Ob.row 3 1 ((listS a0).map (AV.int .i64)))] from ⟨flat_raw (show ((listS a0).map (AV.int .i64)) = ((listS a0).map (AV.int .i64)) from rfl) flat_int_i64, trivial⟩) alln)))))
theorem ref03_Count_calls (X : Ctx E) (a0 : Int) {rows : List Ob} {r : AV} (h : ∀ C, Base Tryd.prog E C → ref03_Count_at0 C a0 rows r) : ACalls Tryd.prog E 111 [(AV.int .i64 a0)] rows r :=
  acalls_of_goes X.env X.good fn_ref03_Count (c := bodyOf Tryd.prog 111) (by kernel_rfl) (by kernel_rfl) (m := 5) (by kernel_rfl) h
theorem c_ref03_Count (X : Ctx E) (a0 : Int)  : ACalls Tryd.prog E n_ref03_Count [(AV.int .i64 a0)] [] (AV.int .i64 (countS a0)) :=
  ref03_Count_calls X a0 fun C hB => ref03_Count_wp0 X hB a0 ⟨rfl, rfl⟩

/-! ### omnibus/omnibusref03.Ints -/
theorem fn_ref03_Ints : Tryd.prog.funcs[31]? = some Tryd.f31 := by kernel_rfl
def ref03_Ints_at0 (C : C0) (a0 : (List Int)) (a1 : (List Int)) (rows : List Ob) (r : AV) : Prop := Goes Tryd.prog C 31 [.code (bodyOf Tryd.prog 31)] ([(AV.sl .p (a0.map (AV.int .i64))), (AV.sl .p (a1.map (AV.int .i64)))] ++ junks 24) [] rows r
def ref03_Ints_at1 (C : C0) (v0 : (List Int)) (v1 : (List Int)) (v2 : Int) (rows : List Ob) (r : AV) : Prop := Goes Tryd.prog C 31 (ctl 12 [.code (bodyOf Tryd.prog 31)] [false]) (([(AV.sl .p (v0.map (AV.int .i64))), (AV.sl .p (v1.map (AV.int .i64))), AV.junk, AV.junk, AV.junk, (AV.int .i64 v2)] ++ junks 20)) [] rows r
theorem ref03_Ints_wp0 (X : Ctx E) (hB : Base Tryd.prog E C) (a0 : (List Int)) (a1 : (List Int)) {rows : List Ob} {r : AV} (h : (((a0.length : Int) = (a1.length : Int) → (ref03_Ints_at1 C a0 a1 0 rows r)) ∧ (¬ ((a0.length : Int) = (a1.length : Int)) → (rows = [] ∧ r = (AV.bool false))))) : ref03_Ints_at0 C a0 a1 rows r := by
  unfold ref03_Ints_at0
  rcases Classical.em ((a0.length : Int) = (a1.length : Int)) with hc1 | hc1
  · have h := h.1 hc1
    refine goes_cut hB (n := 12) (scr := [(8, .v (AV.int .i64 (a0.length : Int))), (14, .v (AV.int .i64 (a1.length : Int))), (18, .b false)]) (live := [0, 1, 5]) (keep := []) (todo' := (ctl 12 [.code (bodyOf Tryd.prog 31)] [false])) (ts' := ([(AV.sl .p (a0.map (AV.int .i64))), (AV.sl .p (a1.map (AV.int .i64))), AV.junk, AV.junk, AV.junk, (AV.int .i64 0)] ++ junks 20)) (h' := []) (by kernel_rfl) (allc (congrArg not (ieqT hc1)) (allc (len_raw (show (a1.map (AV.int .i64)) = (a1.map (AV.int .i64)) from rfl)) (allc (len_raw (show (a0.map (AV.int .i64)) = (a0.map (AV.int .i64)) from rfl)) alln))) (goes_eqS rfl rfl h)
  · have h := h.2 hc1
    obtain ⟨h1, h2⟩ := h
    refine goes_eqR (h1.trans rfl) (h2.trans rfl) ((goes_ret (rows := []) (r := (AV.bool false)) hB fn_ref03_Ints (rv := [.tmp 4]) (by kernel_rfl) (n := 8) (scr := [(8, .v (AV.int .i64 (a0.length : Int))), (14, .v (AV.int .i64 (a1.length : Int))), (18, .b true)]) (keep := []) (by kernel_rfl) (allc (congrArg not (ieqF hc1)) (allc (len_raw (show (a1.map (AV.int .i64)) = (a1.map (AV.int .i64)) from rfl)) (allc (len_raw (show (a0.map (AV.int .i64)) = (a0.map (AV.int .i64)) from rfl)) alln)))))
theorem ref03_Ints_wp1 (X : Ctx E) (hB : Base Tryd.prog E C) (v0 : (List Int)) (v1 : (List Int)) (v2 : Int) {rows : List Ob} {r : AV} (h : ((v2 < (v0.length : Int) → ∃ y3 : Int, 0 ≤ (v2 : Int) ∧ v0[v2.toNat]? = some y3 ∧ ∃ y6 : Int, 0 ≤ (v2 : Int) ∧ v1[v2.toNat]? = some y6 ∧ ((y3 = y6 → ((-9223372036854775808) ≤ (v2 + 1) ∧ (v2 + 1) ≤ 9223372036854775807) ∧ (ref03_Ints_at1 C v0 v1 (v2 + 1) rows r)) ∧ (¬ (y3 = y6) → (rows = [] ∧ r = (AV.bool false))))) ∧ (¬ (v2 < (v0.length : Int)) → (rows = [] ∧ r = (AV.bool true))))) : ref03_Ints_at1 C v0 v1 v2 rows r := by
  unfold ref03_Ints_at1
  rcases Classical.em (v2 < (v0.length : Int)) with hc2 | hc2
  · have h := h.1 hc2
    obtain ⟨y3, hg4, he5, h⟩ := h
    obtain ⟨y6, hg7, he8, h⟩ := h
    rcases Classical.em (y3 = y6) with hc9 | hc9
    · have h := h.1 hc9
      obtain ⟨hg10, h⟩ := h
      refine goes_cut hB (n := 14) (scr := [(8, .v (AV.int .i64 (v0.length : Int))), (12, .b true), (20, .e (AV.int .i64 y3)), (32, .e (AV.int .i64 y6)), (40, .b false), (46, .v (AV.int .i64 (v2 + 1)))]) (live := [0, 1, 5]) (keep := []) (todo' := (ctl 12 [.code (bodyOf Tryd.prog 31)] [false])) (ts' := ([(AV.sl .p (v0.map (AV.int .i64))), (AV.sl .p (v1.map (AV.int .i64))), AV.junk, AV.junk, AV.junk, (AV.int .i64 (v2 + 1))] ++ junks 20)) (h' := []) (by kernel_rfl) (allc (wrap_i64 hg10) (allc (congrArg not (ieqT hc9)) (allc (And.intro hg7 (get_raw (show (v1.map (AV.int .i64)) = (v1.map (AV.int .i64)) from rfl) he8)) (allc (And.intro hg4 (get_raw (show (v0.map (AV.int .i64)) = (v0.map (AV.int .i64)) from rfl) he5)) (allc (decide_eq_true hc2) (allc (len_raw (show (v0.map (AV.int .i64)) = (v0.map (AV.int .i64)) from rfl)) alln)))))) (goes_eqS rfl rfl h)
    · have h := h.2 hc9
      obtain ⟨h1, h2⟩ := h
      refine goes_eqR (h1.trans rfl) (h2.trans rfl) ((goes_ret (rows := []) (r := (AV.bool false)) hB fn_ref03_Ints (rv := [.tmp 4]) (by kernel_rfl) (n := 12) (scr := [(8, .v (AV.int .i64 (v0.length : Int))), (12, .b true), (20, .e (AV.int .i64 y3)), (32, .e (AV.int .i64 y6)), (40, .b true)]) (keep := []) (by kernel_rfl) (allc (congrArg not (ieqF hc9)) (allc (And.intro hg7 (get_raw (show (v1.map (AV.int .i64)) = (v1.map (AV.int .i64)) from rfl) he8)) (allc (And.intro hg4 (get_raw (show (v0.map (AV.int .i64)) = (v0.map (AV.int .i64)) from rfl) he5)) (allc (decide_eq_true hc2) (allc (len_raw (show (v0.map (AV.int .i64)) = (v0.map (AV.int .i64)) from rfl)) alln)))))))
  · have h := h.2 hc2
    obtain ⟨h1, h2⟩ := h
    refine goes_eqR (h1.trans rfl) (h2.trans rfl) ((goes_ret (rows := []) (r := (AV.bool true)) hB fn_ref03_Ints (rv := [.tmp 4]) (by kernel_rfl) (n := 7) (scr := [(8, .v (AV.int .i64 (v0.length : Int))), (12, .b false)]) (keep := []) (by kernel_rfl) (allc (decide_eq_false hc2) (allc (len_raw (show (v0.map (AV.int .i64)) = (v0.map (AV.int .i64)) from rfl)) alln))))
theorem ref03_Ints_calls (X : Ctx E) (a0 : (List Int)) (a1 : (List Int)) {rows : List Ob} {r : AV} (h : ∀ C, Base Tryd.prog E C → ref03_Ints_at0 C a0 a1 rows r) : ACalls Tryd.prog E 31 [(AV.sl .p (a0.map (AV.int .i64))), (AV.sl .p (a1.map (AV.int .i64)))] rows r :=
  acalls_of_goes X.env X.good fn_ref03_Ints (c := bodyOf Tryd.prog 31) (by kernel_rfl) (by kernel_rfl) (m := 24) (by kernel_rfl) h
theorem ref03_Ints_loop (X : Ctx E) (hB : Base Tryd.prog E C) (a b : List Int) (hl : a.length ≤ 4611686018427387904) (he : a.length = b.length) : ∀ (k i : Nat), a.length - i = k → i ≤ a.length → (∀ j, j < i → a[j]? = b[j]?) → ref03_Ints_at1 C a b (i : Int) [] (AV.bool (@decide (a = b) (Classical.propDecidable _))) := by
  intro k
  induction k with
  | zero =>
    intro i h1 h2 h3
    have hi : i = a.length := by omega
    refine ref03_Ints_wp1 X hB _ _ _ ⟨fun h => by omega, fun _ => ⟨rfl, ?_⟩⟩
    rw [pdecT]
    refine List.ext_getElem? (fun j => ?_)
    by_cases hj : j < i
    · exact h3 j hj
    · rw [List.getElem?_eq_none (by omega), List.getElem?_eq_none (by omega)]
  | succ k ih =>
    intro i h1 h2 h3
    have hi : i < a.length := by omega
    have hi2 : i < b.length := by omega
    refine ref03_Ints_wp1 X hB _ _ _ ⟨fun h => ⟨a[i], by omega, by simp [hi], b[i], by omega, by simp [hi2], fun he => ⟨by omega, ?_⟩, fun hne => ⟨rfl, ?_⟩⟩, fun h => by omega⟩
    · refine ih (i + 1) (by omega) (by omega) (fun j hj => ?_)
      by_cases hji : j < i
      · exact h3 j hji
      · have : j = i := by omega
        subst this; simp [hi, hi2, he]
    · rw [pdecF]
      intro e; subst e; exact hne rfl
theorem c_ref03_Ints (X : Ctx E) (a0 a1 : List Int) (h0 : a0.length ≤ 4611686018427387904) : ACalls Tryd.prog E n_ref03_Ints [(AV.sl .p (a0.map (AV.int .i64))), (AV.sl .p (a1.map (AV.int .i64)))] [] (AV.bool (@decide (a0 = a1) (Classical.propDecidable _))) :=
  ref03_Ints_calls X a0 a1 fun C hB => ref03_Ints_wp0 X hB a0 a1 ⟨fun h => ref03_Ints_loop X hB a0 a1 h0 (by omega) a0.length 0 (by omega) (by omega) (fun j hj => by omega), fun h => ⟨rfl, by rw [pdecF]; intro e; subst e; exact h rfl⟩⟩
end Go.Abs
