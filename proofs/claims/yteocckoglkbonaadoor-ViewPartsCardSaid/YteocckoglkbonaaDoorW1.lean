/- Walks, printed by program. -/
import Derived.Test.YteocckoglkbonaaDoorWS
set_option linter.unusedVariables false
set_option linter.unusedSimpArgs false
set_option maxRecDepth 100000
namespace Go.Abs
open Go.Proofs
variable {E : Env} {C : C0}
/-! ### omnibus/omnibuslaw13.pick -/
theorem fn_law13_pick : Tryd.prog.funcs[18]? = some Tryd.f18 := by kernel_rfl
def law13_pick_at0 (C : C0) (a0 : Int) (a1 : Int) (rows : List Ob) (r : AV) : Prop := Goes Tryd.prog C 18 [.code (bodyOf Tryd.prog 18)] ([(AV.int .i64 a0), (AV.int .i64 a1)] ++ junks 11) [] rows r
theorem law13_pick_wp0 (X : Ctx E) (hB : Base Tryd.prog E C) (a0 : Int) (a1 : Int) {rows : List Ob} {r : AV} (h : ((a0 < 0 → ((-9223372036854775808) ≤ (a0 + 1) ∧ (a0 + 1) ≤ 9223372036854775807) ∧ ((-9223372036854775808) ≤ (0 - (a0 + 1)) ∧ (0 - (a0 + 1)) ≤ 9223372036854775807) ∧ (a1 ≠ 0) ∧ (rows = [] ∧ r = (AV.int .i64 (Int.tmod (0 - (a0 + 1)) a1)))) ∧ (¬ (a0 < 0) → (a1 ≠ 0) ∧ (rows = [] ∧ r = (AV.int .i64 (Int.tmod a0 a1)))))) : law13_pick_at0 C a0 a1 rows r := by
  unfold law13_pick_at0
  rcases Classical.em (a0 < 0) with hc1 | hc1
  · have h := h.1 hc1
    obtain ⟨hg2, h⟩ := h
    obtain ⟨hg3, h⟩ := h
    obtain ⟨hg4, h⟩ := h
    obtain ⟨h1, h2⟩ := h
    refine goes_eqR (h1.trans rfl) (h2.trans rfl) ((goes_ret (rows := []) (r := (AV.int .i64 (Int.tmod (0 - (a0 + 1)) a1))) hB fn_law13_pick (rv := [.tmp 4]) (by kernel_rfl) (n := 9) (scr := [(9, .b true), (15, .v (AV.int .i64 (a0 + 1))), (18, .v (AV.int .i64 (0 - (a0 + 1))))]) (keep := []) (by kernel_rfl) (allc hg4 (allc (wrap_i64 hg3) (allc (wrap_i64 hg2) (allc (decide_eq_true hc1) alln))))))
  · have h := h.2 hc1
    obtain ⟨hg5, h⟩ := h
    obtain ⟨h1, h2⟩ := h
    refine goes_eqR (h1.trans rfl) (h2.trans rfl) ((goes_ret (rows := []) (r := (AV.int .i64 (Int.tmod a0 a1))) hB fn_law13_pick (rv := [.tmp 4]) (by kernel_rfl) (n := 9) (scr := [(9, .b false)]) (keep := []) (by kernel_rfl) (allc hg5 (allc (decide_eq_false hc1) alln))))
theorem law13_pick_calls (X : Ctx E) (a0 : Int) (a1 : Int) {rows : List Ob} {r : AV} (h : ∀ C, Base Tryd.prog E C → law13_pick_at0 C a0 a1 rows r) : ACalls Tryd.prog E 18 [(AV.int .i64 a0), (AV.int .i64 a1)] rows r :=
  acalls_of_goes X.env X.good fn_law13_pick (c := bodyOf Tryd.prog 18) (by kernel_rfl) (by kernel_rfl) (m := 11) (by kernel_rfl) h
theorem c_law13_pick (X : Ctx E) (a b : Int) (ha : I64 a) (hb : (1 : Int) ≤ b) : ACalls Tryd.prog E n_law13_pick [(AV.int .i64 a), (AV.int .i64 b)] [] (AV.int .i64 (pickS a b)) :=
  law13_pick_calls X a b fun C hB => law13_pick_wp0 X hB a b (by
    obtain ⟨h1, h2⟩ := ha
    refine ⟨fun h => ⟨by omega, by omega, by omega, rfl, by simp [pickS, h]⟩, fun h => ⟨by omega, rfl, by simp [pickS, h]⟩⟩)

/-! ### omnibus/omnibuslaw04.pick -/
theorem fn_law04_pick : Tryd.prog.funcs[101]? = some Tryd.f101 := by kernel_rfl
def law04_pick_at0 (C : C0) (a0 : Int) (a1 : Int) (rows : List Ob) (r : AV) : Prop := Goes Tryd.prog C 101 [.code (bodyOf Tryd.prog 101)] ([(AV.int .i64 a0), (AV.int .i64 a1)] ++ junks 11) [] rows r
theorem law04_pick_wp0 (X : Ctx E) (hB : Base Tryd.prog E C) (a0 : Int) (a1 : Int) {rows : List Ob} {r : AV} (h : ((a0 < 0 → ((-9223372036854775808) ≤ (a0 + 1) ∧ (a0 + 1) ≤ 9223372036854775807) ∧ ((-9223372036854775808) ≤ (0 - (a0 + 1)) ∧ (0 - (a0 + 1)) ≤ 9223372036854775807) ∧ (a1 ≠ 0) ∧ (rows = [] ∧ r = (AV.int .i64 (Int.tmod (0 - (a0 + 1)) a1)))) ∧ (¬ (a0 < 0) → (a1 ≠ 0) ∧ (rows = [] ∧ r = (AV.int .i64 (Int.tmod a0 a1)))))) : law04_pick_at0 C a0 a1 rows r := by
  unfold law04_pick_at0
  rcases Classical.em (a0 < 0) with hc1 | hc1
  · have h := h.1 hc1
    obtain ⟨hg2, h⟩ := h
    obtain ⟨hg3, h⟩ := h
    obtain ⟨hg4, h⟩ := h
    obtain ⟨h1, h2⟩ := h
    refine goes_eqR (h1.trans rfl) (h2.trans rfl) ((goes_ret (rows := []) (r := (AV.int .i64 (Int.tmod (0 - (a0 + 1)) a1))) hB fn_law04_pick (rv := [.tmp 4]) (by kernel_rfl) (n := 9) (scr := [(9, .b true), (15, .v (AV.int .i64 (a0 + 1))), (18, .v (AV.int .i64 (0 - (a0 + 1))))]) (keep := []) (by kernel_rfl) (allc hg4 (allc (wrap_i64 hg3) (allc (wrap_i64 hg2) (allc (decide_eq_true hc1) alln))))))
  · have h := h.2 hc1
    obtain ⟨hg5, h⟩ := h
    obtain ⟨h1, h2⟩ := h
    refine goes_eqR (h1.trans rfl) (h2.trans rfl) ((goes_ret (rows := []) (r := (AV.int .i64 (Int.tmod a0 a1))) hB fn_law04_pick (rv := [.tmp 4]) (by kernel_rfl) (n := 9) (scr := [(9, .b false)]) (keep := []) (by kernel_rfl) (allc hg5 (allc (decide_eq_false hc1) alln))))
theorem law04_pick_calls (X : Ctx E) (a0 : Int) (a1 : Int) {rows : List Ob} {r : AV} (h : ∀ C, Base Tryd.prog E C → law04_pick_at0 C a0 a1 rows r) : ACalls Tryd.prog E 101 [(AV.int .i64 a0), (AV.int .i64 a1)] rows r :=
  acalls_of_goes X.env X.good fn_law04_pick (c := bodyOf Tryd.prog 101) (by kernel_rfl) (by kernel_rfl) (m := 11) (by kernel_rfl) h
theorem c_law04_pick (X : Ctx E) (a b : Int) (ha : I64 a) (hb : (1 : Int) ≤ b) : ACalls Tryd.prog E n_law04_pick [(AV.int .i64 a), (AV.int .i64 b)] [] (AV.int .i64 (pickS a b)) :=
  law04_pick_calls X a b fun C hB => law04_pick_wp0 X hB a b (by
    obtain ⟨h1, h2⟩ := ha
    refine ⟨fun h => ⟨by omega, by omega, by omega, rfl, by simp [pickS, h]⟩, fun h => ⟨by omega, rfl, by simp [pickS, h]⟩⟩)

/-! ### omnibus/omnibuslaw02.pick -/
theorem fn_law02_pick : Tryd.prog.funcs[136]? = some Tryd.f136 := by kernel_rfl
def law02_pick_at0 (C : C0) (a0 : Int) (a1 : Int) (rows : List Ob) (r : AV) : Prop := Goes Tryd.prog C 136 [.code (bodyOf Tryd.prog 136)] ([(AV.int .i64 a0), (AV.int .i64 a1)] ++ junks 11) [] rows r
theorem law02_pick_wp0 (X : Ctx E) (hB : Base Tryd.prog E C) (a0 : Int) (a1 : Int) {rows : List Ob} {r : AV} (h : ((a0 < 0 → ((-9223372036854775808) ≤ (a0 + 1) ∧ (a0 + 1) ≤ 9223372036854775807) ∧ ((-9223372036854775808) ≤ (0 - (a0 + 1)) ∧ (0 - (a0 + 1)) ≤ 9223372036854775807) ∧ (a1 ≠ 0) ∧ (rows = [] ∧ r = (AV.int .i64 (Int.tmod (0 - (a0 + 1)) a1)))) ∧ (¬ (a0 < 0) → (a1 ≠ 0) ∧ (rows = [] ∧ r = (AV.int .i64 (Int.tmod a0 a1)))))) : law02_pick_at0 C a0 a1 rows r := by
  unfold law02_pick_at0
  rcases Classical.em (a0 < 0) with hc1 | hc1
  · have h := h.1 hc1
    obtain ⟨hg2, h⟩ := h
    obtain ⟨hg3, h⟩ := h
    obtain ⟨hg4, h⟩ := h
    obtain ⟨h1, h2⟩ := h
    refine goes_eqR (h1.trans rfl) (h2.trans rfl) ((goes_ret (rows := []) (r := (AV.int .i64 (Int.tmod (0 - (a0 + 1)) a1))) hB fn_law02_pick (rv := [.tmp 4]) (by kernel_rfl) (n := 9) (scr := [(9, .b true), (15, .v (AV.int .i64 (a0 + 1))), (18, .v (AV.int .i64 (0 - (a0 + 1))))]) (keep := []) (by kernel_rfl) (allc hg4 (allc (wrap_i64 hg3) (allc (wrap_i64 hg2) (allc (decide_eq_true hc1) alln))))))
  · have h := h.2 hc1
    obtain ⟨hg5, h⟩ := h
    obtain ⟨h1, h2⟩ := h
    refine goes_eqR (h1.trans rfl) (h2.trans rfl) ((goes_ret (rows := []) (r := (AV.int .i64 (Int.tmod a0 a1))) hB fn_law02_pick (rv := [.tmp 4]) (by kernel_rfl) (n := 9) (scr := [(9, .b false)]) (keep := []) (by kernel_rfl) (allc hg5 (allc (decide_eq_false hc1) alln))))
theorem law02_pick_calls (X : Ctx E) (a0 : Int) (a1 : Int) {rows : List Ob} {r : AV} (h : ∀ C, Base Tryd.prog E C → law02_pick_at0 C a0 a1 rows r) : ACalls Tryd.prog E 136 [(AV.int .i64 a0), (AV.int .i64 a1)] rows r :=
  acalls_of_goes X.env X.good fn_law02_pick (c := bodyOf Tryd.prog 136) (by kernel_rfl) (by kernel_rfl) (m := 11) (by kernel_rfl) h
theorem c_law02_pick (X : Ctx E) (a b : Int) (ha : I64 a) (hb : (1 : Int) ≤ b) : ACalls Tryd.prog E n_law02_pick [(AV.int .i64 a), (AV.int .i64 b)] [] (AV.int .i64 (pickS a b)) :=
  law02_pick_calls X a b fun C hB => law02_pick_wp0 X hB a b (by
    obtain ⟨h1, h2⟩ := ha
    refine ⟨fun h => ⟨by omega, by omega, by omega, rfl, by simp [pickS, h]⟩, fun h => ⟨by omega, rfl, by simp [pickS, h]⟩⟩)

/-! ### omnibus/txq.may -/
theorem fn_txq_may : Tryd.prog.funcs[53]? = some Tryd.f53 := by kernel_rfl
def txq_may_at0 (C : C0) (a0 : Int) (rows : List Ob) (r : AV) : Prop := Goes Tryd.prog C 53 [.code (bodyOf Tryd.prog 53)] ([(AV.int .i64 a0)] ++ junks 8) [] rows r
theorem txq_may_wp0 (X : Ctx E) (hB : Base Tryd.prog E C) (a0 : Int) {rows : List Ob} {r : AV} (h : ((a0 ≥ 1 → (rows = [] ∧ r = (AV.bool (decide (a0 ≤ 32))))) ∧ (¬ (a0 ≥ 1) → (rows = [] ∧ r = (AV.bool false))))) : txq_may_at0 C a0 rows r := by
  unfold txq_may_at0
  rcases Classical.em (a0 ≥ 1) with hc1 | hc1
  · have h := h.1 hc1
    obtain ⟨h1, h2⟩ := h
    refine goes_eqR (h1.trans rfl) (h2.trans rfl) ((goes_ret (rows := []) (r := (AV.bool (decide (a0 ≤ 32)))) hB fn_txq_may (rv := [.tmp 2]) (by kernel_rfl) (n := 4) (scr := [(12, .b true), (15, .b true), (19, .b true)]) (keep := []) (by kernel_rfl) (allc (decide_eq_true hc1) (allc (decide_eq_true hc1) (allc (decide_eq_true hc1) alln)))))
  · have h := h.2 hc1
    obtain ⟨h1, h2⟩ := h
    refine goes_eqR (h1.trans rfl) (h2.trans rfl) ((goes_ret (rows := []) (r := (AV.bool false)) hB fn_txq_may (rv := [.tmp 2]) (by kernel_rfl) (n := 4) (scr := [(12, .b false), (15, .b false), (19, .b false)]) (keep := []) (by kernel_rfl) (allc (decide_eq_false hc1) (allc (decide_eq_false hc1) (allc (decide_eq_false hc1) alln)))))
theorem txq_may_calls (X : Ctx E) (a0 : Int) {rows : List Ob} {r : AV} (h : ∀ C, Base Tryd.prog E C → txq_may_at0 C a0 rows r) : ACalls Tryd.prog E 53 [(AV.int .i64 a0)] rows r :=
  acalls_of_goes X.env X.good fn_txq_may (c := bodyOf Tryd.prog 53) (by kernel_rfl) (by kernel_rfl) (m := 8) (by kernel_rfl) h
theorem c_txq_may (X : Ctx E) (a : Int) : ACalls Tryd.prog E n_txq_may [(AV.int .i64 a)] [] (AV.bool (mayS a)) :=
  txq_may_calls X a fun C hB => txq_may_wp0 X hB a ⟨fun h => ⟨rfl, by simp [mayS]; omega⟩, fun h => ⟨rfl, by simp [mayS]; omega⟩⟩

/-! ### omnibus/msg.small -/
theorem fn_msg_small : Tryd.prog.funcs[94]? = some Tryd.f94 := by kernel_rfl
def msg_small_at0 (C : C0) (a0 : Int) (rows : List Ob) (r : AV) : Prop := Goes Tryd.prog C 94 [.code (bodyOf Tryd.prog 94)] ([(AV.int .i64 a0)] ++ junks 8) [] rows r
theorem msg_small_wp0 (X : Ctx E) (hB : Base Tryd.prog E C) (a0 : Int) {rows : List Ob} {r : AV} (h : ((a0 ≥ 1 → (rows = [] ∧ r = (AV.bool (decide (a0 ≤ 65535))))) ∧ (¬ (a0 ≥ 1) → (rows = [] ∧ r = (AV.bool false))))) : msg_small_at0 C a0 rows r := by
  unfold msg_small_at0
  rcases Classical.em (a0 ≥ 1) with hc1 | hc1
  · have h := h.1 hc1
    obtain ⟨h1, h2⟩ := h
    refine goes_eqR (h1.trans rfl) (h2.trans rfl) ((goes_ret (rows := []) (r := (AV.bool (decide (a0 ≤ 65535)))) hB fn_msg_small (rv := [.tmp 2]) (by kernel_rfl) (n := 4) (scr := [(12, .b true), (15, .b true), (19, .b true)]) (keep := []) (by kernel_rfl) (allc (decide_eq_true hc1) (allc (decide_eq_true hc1) (allc (decide_eq_true hc1) alln)))))
  · have h := h.2 hc1
    obtain ⟨h1, h2⟩ := h
    refine goes_eqR (h1.trans rfl) (h2.trans rfl) ((goes_ret (rows := []) (r := (AV.bool false)) hB fn_msg_small (rv := [.tmp 2]) (by kernel_rfl) (n := 4) (scr := [(12, .b false), (15, .b false), (19, .b false)]) (keep := []) (by kernel_rfl) (allc (decide_eq_false hc1) (allc (decide_eq_false hc1) (allc (decide_eq_false hc1) alln)))))
theorem msg_small_calls (X : Ctx E) (a0 : Int) {rows : List Ob} {r : AV} (h : ∀ C, Base Tryd.prog E C → msg_small_at0 C a0 rows r) : ACalls Tryd.prog E 94 [(AV.int .i64 a0)] rows r :=
  acalls_of_goes X.env X.good fn_msg_small (c := bodyOf Tryd.prog 94) (by kernel_rfl) (by kernel_rfl) (m := 8) (by kernel_rfl) h
theorem c_msg_small (X : Ctx E) (a : Int) : ACalls Tryd.prog E n_msg_small [(AV.int .i64 a)] [] (AV.bool (smallS a)) :=
  msg_small_calls X a fun C hB => msg_small_wp0 X hB a ⟨fun h => ⟨rfl, by simp [smallS]; omega⟩, fun h => ⟨rfl, by simp [smallS]; omega⟩⟩

/-! ### omnibus/ident.within -/
theorem fn_ident_within : Tryd.prog.funcs[131]? = some Tryd.f131 := by kernel_rfl
def ident_within_at0 (C : C0) (a0 : Int) (a1 : Bool) (rows : List Ob) (r : AV) : Prop := Goes Tryd.prog C 131 [.code (bodyOf Tryd.prog 131)] ([(AV.int .i64 a0), (AV.bool a1)] ++ junks 11) [] rows r
theorem ident_within_wp0 (X : Ctx E) (hB : Base Tryd.prog E C) (a0 : Int) (a1 : Bool) {rows : List Ob} {r : AV} (h : ((a0 ≥ 0 → (rows = [] ∧ r = (AV.bool (decide (a0 ≤ (limitS a1)))))) ∧ (¬ (a0 ≥ 0) → (rows = [] ∧ r = (AV.bool false))))) : ident_within_at0 C a0 a1 rows r := by
  unfold ident_within_at0
  rcases Classical.em (a0 ≥ 0) with hc1 | hc1
  · have h := h.1 hc1
    obtain ⟨h1, h2⟩ := h
    refine goes_eqR (h1.trans rfl) (h2.trans rfl) ((goes_ret (rows := []) (r := (AV.bool (decide (a0 ≤ (limitS a1))))) hB fn_ident_within (rv := [.tmp 4]) (by kernel_rfl) (n := 4) (scr := [(12, .b true), (15, .b true), (18, .b true), (19, .cf [] (AV.int .i64 (limitS a1))), (21, .b true), (25, .b true)]) (keep := []) (by kernel_rfl) (allc (decide_eq_true hc1) (allc (decide_eq_true hc1) (allc (c_ident_limit X a1) (allc (show rowsFlat [] from trivial) (allc (decide_eq_true hc1) (allc (decide_eq_true hc1) (allc (decide_eq_true hc1) alln)))))))))
  · have h := h.2 hc1
    obtain ⟨h1, h2⟩ := h
    refine goes_eqR (h1.trans rfl) (h2.trans rfl) ((goes_ret (rows := []) (r := (AV.bool false)) hB fn_ident_within (rv := [.tmp 4]) (by kernel_rfl) (n := 4) (scr := [(12, .b false), (15, .b false), (18, .b false), (21, .b false), (25, .b false)]) (keep := []) (by kernel_rfl) (allc (decide_eq_false hc1) (allc (decide_eq_false hc1) (allc (decide_eq_false hc1) (allc (decide_eq_false hc1) (allc (decide_eq_false hc1) alln)))))))
theorem ident_within_calls (X : Ctx E) (a0 : Int) (a1 : Bool) {rows : List Ob} {r : AV} (h : ∀ C, Base Tryd.prog E C → ident_within_at0 C a0 a1 rows r) : ACalls Tryd.prog E 131 [(AV.int .i64 a0), (AV.bool a1)] rows r :=
  acalls_of_goes X.env X.good fn_ident_within (c := bodyOf Tryd.prog 131) (by kernel_rfl) (by kernel_rfl) (m := 11) (by kernel_rfl) h
theorem c_ident_within (X : Ctx E) (a : Int) (b : Bool) : ACalls Tryd.prog E n_ident_within [(AV.int .i64 a), (AV.bool b)] [] (AV.bool (withinS a b)) :=
  ident_within_calls X a b fun C hB => ident_within_wp0 X hB a b ⟨fun h => ⟨rfl, by simp [withinS]; omega⟩, fun h => ⟨rfl, by simp [withinS]; omega⟩⟩

/-! ### omnibus/ident.Right -/
theorem fn_ident_Right : Tryd.prog.funcs[93]? = some Tryd.f93 := by kernel_rfl
def ident_Right_at0 (C : C0) (a0 : T_Ident) (rows : List Ob) (r : AV) : Prop := Goes Tryd.prog C 93 [.code (bodyOf Tryd.prog 93)] ([(AV.agg [(AV.bool a0.Ext), (AV.int .i64 a0.N)])] ++ junks 7) [] rows r
theorem ident_Right_wp0 (X : Ctx E) (hB : Base Tryd.prog E C) (a0 : T_Ident) {rows : List Ob} {r : AV} (h : (rows = [] ∧ r = (AV.bool (withinS a0.N a0.Ext)))) : ident_Right_at0 C a0 rows r := by
  unfold ident_Right_at0
  obtain ⟨h1, h2⟩ := h
  refine goes_eqR (h1.trans rfl) (h2.trans rfl) ((goes_ret (rows := []) (r := (AV.bool (withinS a0.N a0.Ext))) hB fn_ident_Right (rv := [.tmp 2]) (by kernel_rfl) (n := 4) (scr := [(19, .cf [] (AV.bool (withinS a0.N a0.Ext)))]) (keep := []) (by kernel_rfl) (allc (c_ident_within X a0.N a0.Ext) (allc (show rowsFlat [] from trivial) alln))))
theorem ident_Right_calls (X : Ctx E) (a0 : T_Ident) {rows : List Ob} {r : AV} (h : ∀ C, Base Tryd.prog E C → ident_Right_at0 C a0 rows r) : ACalls Tryd.prog E 93 [(AV.agg [(AV.bool a0.Ext), (AV.int .i64 a0.N)])] rows r :=
  acalls_of_goes X.env X.good fn_ident_Right (c := bodyOf Tryd.prog 93) (by kernel_rfl) (by kernel_rfl) (m := 7) (by kernel_rfl) h
theorem c_ident_Right (X : Ctx E) (a : T_Ident) : ACalls Tryd.prog E n_ident_Right [a.av] [] (AV.bool (idRight a)) :=
  ident_Right_calls X a fun C hB => ident_Right_wp0 X hB a ⟨rfl, rfl⟩

/-! ### omnibus/ident.Key -/
theorem fn_ident_Key : Tryd.prog.funcs[148]? = some Tryd.f148 := by kernel_rfl
def ident_Key_at0 (C : C0) (a0 : T_Ident) (rows : List Ob) (r : AV) : Prop := Goes Tryd.prog C 148 [.code (bodyOf Tryd.prog 148)] ([(AV.agg [(AV.bool a0.Ext), (AV.int .i64 a0.N)])] ++ junks 23) [] rows r
theorem ident_Key_wp0 (X : Ctx E) (hB : Base Tryd.prog E C) (a0 : T_Ident) {rows : List Ob} {r : AV} (h : (((idRight a0) = true → ((a0.Ext = true → (rows = [] ∧ r = (AV.tup [(AV.int .i64 (IntKind.wrap .i64 (BitVec.toNat (((· ||| ·)) (BitVec.ofInt (IntKind.bits .i64) (IntKind.wrap .i64 (BitVec.toNat (((· ||| ·)) (BitVec.ofInt (IntKind.bits .i64) (IntKind.wrap .i64 ((IntKind.wrap .i64 (BitVec.toNat (((fun x y => x &&& ~~~y)) (BitVec.ofInt (IntKind.bits .i64) a0.N) (BitVec.ofInt (IntKind.bits .i64) 262143)))) * 2 ^ min (1 : Int).toNat (IntKind.bits .i64)))) (BitVec.ofInt (IntKind.bits .i64) 262144))))) (BitVec.ofInt (IntKind.bits .i64) (IntKind.wrap .i64 (BitVec.toNat (((· &&& ·)) (BitVec.ofInt (IntKind.bits .i64) a0.N) (BitVec.ofInt (IntKind.bits .i64) 262143))))))))), (AV.int .i64 0)]))) ∧ (¬ (a0.Ext = true) → ((-9223372036854775808) ≤ (a0.N * 2) ∧ (a0.N * 2) ≤ 9223372036854775807) ∧ ((-9223372036854775808) ≤ ((a0.N * 2) * 262144) ∧ ((a0.N * 2) * 262144) ≤ 9223372036854775807) ∧ (rows = [] ∧ r = (AV.tup [(AV.int .i64 ((a0.N * 2) * 262144)), (AV.int .i64 0)]))))) ∧ (¬ ((idRight a0) = true) → (rows = [] ∧ r = (AV.tup [(AV.int .i64 0), (AV.int .i64 1)]))))) : ident_Key_at0 C a0 rows r := by
  unfold ident_Key_at0
  rcases Classical.em ((idRight a0) = true) with hc1 | hc1
  · have h := h.1 hc1
    rcases Classical.em (a0.Ext = true) with hc2 | hc2
    · have h := h.1 hc2
      obtain ⟨h1, h2⟩ := h
      refine goes_eqR (h1.trans rfl) (h2.trans rfl) ((goes_ret (rows := []) (r := (AV.tup [(AV.int .i64 (IntKind.wrap .i64 (BitVec.toNat (((· ||| ·)) (BitVec.ofInt (IntKind.bits .i64) (IntKind.wrap .i64 (BitVec.toNat (((· ||| ·)) (BitVec.ofInt (IntKind.bits .i64) (IntKind.wrap .i64 ((IntKind.wrap .i64 (BitVec.toNat (((fun x y => x &&& ~~~y)) (BitVec.ofInt (IntKind.bits .i64) a0.N) (BitVec.ofInt (IntKind.bits .i64) 262143)))) * 2 ^ min (1 : Int).toNat (IntKind.bits .i64)))) (BitVec.ofInt (IntKind.bits .i64) 262144))))) (BitVec.ofInt (IntKind.bits .i64) (IntKind.wrap .i64 (BitVec.toNat (((· &&& ·)) (BitVec.ofInt (IntKind.bits .i64) a0.N) (BitVec.ofInt (IntKind.bits .i64) 262143))))))))), (AV.int .i64 0)])) hB fn_ident_Key (rv := [.tmp 2, .tmp 3]) (by kernel_rfl) (n := 12) (scr := [(13, .cf [] (AV.bool (idRight a0))), (21, .b false), (31, .b true)]) (keep := []) (by kernel_rfl) (allc (show (0 : Int) ≤ 1 from by decide) (allc hc2 (allc (congrArg not hc1) (allc (c_ident_Right X a0) (allc (show rowsFlat [] from trivial) alln)))))))
    · have h := h.2 hc2
      obtain ⟨hg3, h⟩ := h
      obtain ⟨hg4, h⟩ := h
      obtain ⟨h1, h2⟩ := h
      refine goes_eqR (h1.trans rfl) (h2.trans rfl) ((goes_ret (rows := []) (r := (AV.tup [(AV.int .i64 ((a0.N * 2) * 262144)), (AV.int .i64 0)])) hB fn_ident_Key (rv := [.tmp 2, .tmp 3]) (by kernel_rfl) (n := 14) (scr := [(13, .cf [] (AV.bool (idRight a0))), (21, .b false), (31, .b false), (40, .v (AV.int .i64 (a0.N * 2))), (43, .v (AV.int .i64 ((a0.N * 2) * 262144)))]) (keep := []) (by kernel_rfl) (allc (wrap_i64 hg4) (allc (wrap_i64 hg3) (allc (bF hc2) (allc (congrArg not hc1) (allc (c_ident_Right X a0) (allc (show rowsFlat [] from trivial) alln))))))))
  · have h := h.2 hc1
    obtain ⟨h1, h2⟩ := h
    refine goes_eqR (h1.trans rfl) (h2.trans rfl) ((goes_ret (rows := []) (r := (AV.tup [(AV.int .i64 0), (AV.int .i64 1)])) hB fn_ident_Key (rv := [.tmp 2, .tmp 3]) (by kernel_rfl) (n := 9) (scr := [(13, .cf [] (AV.bool (idRight a0))), (21, .b true)]) (keep := []) (by kernel_rfl) (allc (congrArg not (bF hc1)) (allc (c_ident_Right X a0) (allc (show rowsFlat [] from trivial) alln)))))
theorem ident_Key_calls (X : Ctx E) (a0 : T_Ident) {rows : List Ob} {r : AV} (h : ∀ C, Base Tryd.prog E C → ident_Key_at0 C a0 rows r) : ACalls Tryd.prog E 148 [(AV.agg [(AV.bool a0.Ext), (AV.int .i64 a0.N)])] rows r :=
  acalls_of_goes X.env X.good fn_ident_Key (c := bodyOf Tryd.prog 148) (by kernel_rfl) (by kernel_rfl) (m := 23) (by kernel_rfl) h
theorem c_ident_Key (X : Ctx E) (a : T_Ident) : ACalls Tryd.prog E n_ident_Key [a.av] [] (AV.tup [AV.int .i64 (keyS a).1, AV.int .i64 (keyS a).2]) :=
  ident_Key_calls X a fun C hB => ident_Key_wp0 X hB a ⟨fun h => ⟨fun h2 => ⟨rfl, by simp [keyS, h, h2, keyBits]⟩, fun h2 => by
    simp [idRight, withinS, limitS, h2] at h
    exact ⟨by omega, by omega, rfl, by simp [keyS, idRight, withinS, limitS, h, h2]⟩⟩, fun h => ⟨rfl, by simp [keyS, h]⟩⟩

/-! ### omnibus/ident.Less -/
theorem fn_ident_Less : Tryd.prog.funcs[132]? = some Tryd.f132 := by kernel_rfl
def ident_Less_at0 (C : C0) (a0 : T_Ident) (a1 : T_Ident) (rows : List Ob) (r : AV) : Prop := Goes Tryd.prog C 132 [.code (bodyOf Tryd.prog 132)] ([(AV.agg [(AV.bool a0.Ext), (AV.int .i64 a0.N)]), (AV.agg [(AV.bool a1.Ext), (AV.int .i64 a1.N)])] ++ junks 28) [] rows r
theorem ident_Less_wp0 (X : Ctx E) (hB : Base Tryd.prog E C) (a0 : T_Ident) (a1 : T_Ident) {rows : List Ob} {r : AV} (h : (((keyS a0).2 = 0 → (((keyS a1).2 = 0 → (rows = [] ∧ r = (AV.bool (decide ((keyS a0).1 < (keyS a1).1))))) ∧ (¬ ((keyS a1).2 = 0) → (rows = [] ∧ r = (AV.bool false))))) ∧ (¬ ((keyS a0).2 = 0) → (rows = [] ∧ r = (AV.bool false))))) : ident_Less_at0 C a0 a1 rows r := by
  unfold ident_Less_at0
  rcases Classical.em ((keyS a0).2 = 0) with hc1 | hc1
  · have h := h.1 hc1
    rcases Classical.em ((keyS a1).2 = 0) with hc2 | hc2
    · have h := h.1 hc2
      obtain ⟨h1, h2⟩ := h
      refine goes_eqR (h1.trans rfl) (h2.trans rfl) ((goes_ret (rows := []) (r := (AV.bool (decide ((keyS a0).1 < (keyS a1).1)))) hB fn_ident_Less (rv := [.tmp 4]) (by kernel_rfl) (n := 8) (scr := [(13, .cf [] (AV.tup [(AV.int .i64 (keyS a0).1), (AV.int .i64 (keyS a0).2)])), (34, .cf [] (AV.tup [(AV.int .i64 (keyS a1).1), (AV.int .i64 (keyS a1).2)])), (60, .b true), (63, .b true), (67, .b true), (72, .b true), (75, .b true), (78, .b true), (82, .b true)]) (keep := []) (by kernel_rfl) (allc (ieqT hc2) (allc (ieqT hc2) (allc (ieqT hc2) (allc (ieqT hc2) (allc (ieqT hc1) (allc (ieqT hc1) (allc (ieqT hc1) (allc (c_ident_Key X a1) (allc (show rowsFlat [] from trivial) (allc (c_ident_Key X a0) (allc (show rowsFlat [] from trivial) alln)))))))))))))
    · have h := h.2 hc2
      obtain ⟨h1, h2⟩ := h
      refine goes_eqR (h1.trans rfl) (h2.trans rfl) ((goes_ret (rows := []) (r := (AV.bool false)) hB fn_ident_Less (rv := [.tmp 4]) (by kernel_rfl) (n := 8) (scr := [(13, .cf [] (AV.tup [(AV.int .i64 (keyS a0).1), (AV.int .i64 (keyS a0).2)])), (34, .cf [] (AV.tup [(AV.int .i64 (keyS a1).1), (AV.int .i64 (keyS a1).2)])), (60, .b true), (63, .b true), (67, .b true), (72, .b false), (75, .b false), (78, .b false), (82, .b false)]) (keep := []) (by kernel_rfl) (allc (ieqF hc2) (allc (ieqF hc2) (allc (ieqF hc2) (allc (ieqF hc2) (allc (ieqT hc1) (allc (ieqT hc1) (allc (ieqT hc1) (allc (c_ident_Key X a1) (allc (show rowsFlat [] from trivial) (allc (c_ident_Key X a0) (allc (show rowsFlat [] from trivial) alln)))))))))))))
  · have h := h.2 hc1
    obtain ⟨h1, h2⟩ := h
    refine goes_eqR (h1.trans rfl) (h2.trans rfl) ((goes_ret (rows := []) (r := (AV.bool false)) hB fn_ident_Less (rv := [.tmp 4]) (by kernel_rfl) (n := 8) (scr := [(13, .cf [] (AV.tup [(AV.int .i64 (keyS a0).1), (AV.int .i64 (keyS a0).2)])), (34, .cf [] (AV.tup [(AV.int .i64 (keyS a1).1), (AV.int .i64 (keyS a1).2)])), (60, .b false), (63, .b false), (67, .b false)]) (keep := []) (by kernel_rfl) (allc (ieqF hc1) (allc (ieqF hc1) (allc (ieqF hc1) (allc (c_ident_Key X a1) (allc (show rowsFlat [] from trivial) (allc (c_ident_Key X a0) (allc (show rowsFlat [] from trivial) alln)))))))))
theorem ident_Less_calls (X : Ctx E) (a0 : T_Ident) (a1 : T_Ident) {rows : List Ob} {r : AV} (h : ∀ C, Base Tryd.prog E C → ident_Less_at0 C a0 a1 rows r) : ACalls Tryd.prog E 132 [(AV.agg [(AV.bool a0.Ext), (AV.int .i64 a0.N)]), (AV.agg [(AV.bool a1.Ext), (AV.int .i64 a1.N)])] rows r :=
  acalls_of_goes X.env X.good fn_ident_Less (c := bodyOf Tryd.prog 132) (by kernel_rfl) (by kernel_rfl) (m := 28) (by kernel_rfl) h
theorem c_ident_Less (X : Ctx E) (a b : T_Ident) : ACalls Tryd.prog E n_ident_Less [a.av, b.av] [] (AV.bool (idLess a b)) :=
  ident_Less_calls X a b fun C hB => ident_Less_wp0 X hB a b ⟨fun h => ⟨fun h2 => ⟨rfl, by simp [idLess, h, h2]⟩, fun h2 => ⟨rfl, by simp [idLess, h2]⟩⟩, fun h => ⟨rfl, by simp [idLess, h]⟩⟩

/-! ### cmp.isNaN[int] -/
theorem fn_cmp_isNaN_int : Tryd.prog.funcs[149]? = some Tryd.f149 := by kernel_rfl
def cmp_isNaN_int_at0 (C : C0) (a0 : Int) (rows : List Ob) (r : AV) : Prop := Goes Tryd.prog C 149 [.code (bodyOf Tryd.prog 149)] ([(AV.int .i64 a0)] ++ junks 5) [] rows r
theorem cmp_isNaN_int_wp0 (X : Ctx E) (hB : Base Tryd.prog E C) (a0 : Int) {rows : List Ob} {r : AV} (h : (rows = [] ∧ r = (AV.bool (!(a0 == a0))))) : cmp_isNaN_int_at0 C a0 rows r := by
  unfold cmp_isNaN_int_at0
  obtain ⟨h1, h2⟩ := h
  refine goes_eqR (h1.trans rfl) (h2.trans rfl) ((goes_ret (rows := []) (r := (AV.bool (!(a0 == a0)))) hB fn_cmp_isNaN_int (rv := [.tmp 2]) (by kernel_rfl) (n := 4) (scr := []) (keep := []) (by kernel_rfl) alln))
theorem cmp_isNaN_int_calls (X : Ctx E) (a0 : Int) {rows : List Ob} {r : AV} (h : ∀ C, Base Tryd.prog E C → cmp_isNaN_int_at0 C a0 rows r) : ACalls Tryd.prog E 149 [(AV.int .i64 a0)] rows r :=
  acalls_of_goes X.env X.good fn_cmp_isNaN_int (c := bodyOf Tryd.prog 149) (by kernel_rfl) (by kernel_rfl) (m := 5) (by kernel_rfl) h
theorem c_cmp_isNaN_int (X : Ctx E) (a : Int) : ACalls Tryd.prog E n_cmp_isNaN_int [(AV.int .i64 a)] [] (AV.bool false) :=
  cmp_isNaN_int_calls X a fun C hB => cmp_isNaN_int_wp0 X hB a (by simp)

/-! ### cmp.Compare[int] -/
theorem fn_cmp_Compare_int : Tryd.prog.funcs[134]? = some Tryd.f134 := by kernel_rfl
def cmp_Compare_int_at0 (C : C0) (a0 : Int) (a1 : Int) (rows : List Ob) (r : AV) : Prop := Goes Tryd.prog C 134 [.code (bodyOf Tryd.prog 134)] ([(AV.int .i64 a0), (AV.int .i64 a1)] ++ junks 18) [] rows r
theorem cmp_Compare_int_wp0 (X : Ctx E) (hB : Base Tryd.prog E C) (a0 : Int) (a1 : Int) {rows : List Ob} {r : AV} (h : ((a0 < a1 → (rows = [] ∧ r = (AV.int .i64 (-1)))) ∧ (¬ (a0 < a1) → ((a0 > a1 → (rows = [] ∧ r = (AV.int .i64 1))) ∧ (¬ (a0 > a1) → (rows = [] ∧ r = (AV.int .i64 0))))))) : cmp_Compare_int_at0 C a0 a1 rows r := by
  unfold cmp_Compare_int_at0
  rcases Classical.em (a0 < a1) with hc1 | hc1
  · have h := h.1 hc1
    obtain ⟨h1, h2⟩ := h
    refine goes_eqR (h1.trans rfl) (h2.trans rfl) ((goes_ret (rows := []) (r := (AV.int .i64 (-1))) hB fn_cmp_Compare_int (rv := [.tmp 4]) (by kernel_rfl) (n := 22) (scr := [(7, .cf [] (AV.bool false)), (16, .cf [] (AV.bool false)), (38, .b true)]) (keep := []) (by kernel_rfl) (allc (decide_eq_true hc1) (allc (c_cmp_isNaN_int X a1) (allc (show rowsFlat [] from trivial) (allc (c_cmp_isNaN_int X a0) (allc (show rowsFlat [] from trivial) alln)))))))
  · have h := h.2 hc1
    rcases Classical.em (a0 > a1) with hc2 | hc2
    · have h := h.1 hc2
      obtain ⟨h1, h2⟩ := h
      refine goes_eqR (h1.trans rfl) (h2.trans rfl) ((goes_ret (rows := []) (r := (AV.int .i64 1)) hB fn_cmp_Compare_int (rv := [.tmp 4]) (by kernel_rfl) (n := 27) (scr := [(7, .cf [] (AV.bool false)), (16, .cf [] (AV.bool false)), (38, .b false), (48, .b true)]) (keep := []) (by kernel_rfl) (allc (decide_eq_true hc2) (allc (decide_eq_false hc1) (allc (c_cmp_isNaN_int X a1) (allc (show rowsFlat [] from trivial) (allc (c_cmp_isNaN_int X a0) (allc (show rowsFlat [] from trivial) alln))))))))
    · have h := h.2 hc2
      obtain ⟨h1, h2⟩ := h
      refine goes_eqR (h1.trans rfl) (h2.trans rfl) ((goes_ret (rows := []) (r := (AV.int .i64 0)) hB fn_cmp_Compare_int (rv := [.tmp 4]) (by kernel_rfl) (n := 28) (scr := [(7, .cf [] (AV.bool false)), (16, .cf [] (AV.bool false)), (38, .b false), (48, .b false)]) (keep := []) (by kernel_rfl) (allc (decide_eq_false hc2) (allc (decide_eq_false hc1) (allc (c_cmp_isNaN_int X a1) (allc (show rowsFlat [] from trivial) (allc (c_cmp_isNaN_int X a0) (allc (show rowsFlat [] from trivial) alln))))))))
theorem cmp_Compare_int_calls (X : Ctx E) (a0 : Int) (a1 : Int) {rows : List Ob} {r : AV} (h : ∀ C, Base Tryd.prog E C → cmp_Compare_int_at0 C a0 a1 rows r) : ACalls Tryd.prog E 134 [(AV.int .i64 a0), (AV.int .i64 a1)] rows r :=
  acalls_of_goes X.env X.good fn_cmp_Compare_int (c := bodyOf Tryd.prog 134) (by kernel_rfl) (by kernel_rfl) (m := 18) (by kernel_rfl) h
theorem c_cmp_Compare_int (X : Ctx E) (a b : Int) : ACalls Tryd.prog E n_cmp_Compare_int [(AV.int .i64 a), (AV.int .i64 b)] [] (AV.int .i64 (cmpS a b)) :=
  cmp_Compare_int_calls X a b fun C hB => cmp_Compare_int_wp0 X hB a b ⟨fun h => ⟨rfl, by simp [cmpS, h]⟩, fun h => ⟨fun h2 => ⟨rfl, by simp [cmpS, h, h2]⟩, fun h2 => ⟨rfl, by simp [cmpS, h, h2]⟩⟩⟩

/-! ### cmp.Or[int] -/
theorem fn_cmp_Or_int : Tryd.prog.funcs[133]? = some Tryd.f133 := by kernel_rfl
def cmp_Or_int_at0 (C : C0) (a0 : (List Int)) (rows : List Ob) (r : AV) : Prop := Goes Tryd.prog C 133 [.code (bodyOf Tryd.prog 133)] ([(AV.sl .p (a0.map (AV.int .i64)))] ++ junks 17) [] rows r
def cmp_Or_int_at1 (C : C0) (v0 : Int) (v1 : (List Int)) (v2 : Int) (v3 : Int) (rows : List Ob) (r : AV) : Prop := Goes Tryd.prog C 133 (ctl 9 [.code (bodyOf Tryd.prog 133)] []) (([AV.junk, AV.junk, AV.junk, (AV.int .i64 v0), AV.junk, AV.junk, (AV.sl .p (v1.map (AV.int .i64))), (AV.int .i64 v2), (AV.int .i64 v3)] ++ junks 9)) [] rows r
theorem cmp_Or_int_wp0 (X : Ctx E) (hB : Base Tryd.prog E C) (a0 : (List Int)) {rows : List Ob} {r : AV} (h : (cmp_Or_int_at1 C 0 a0 (a0.length : Int) 0 rows r)) : cmp_Or_int_at0 C a0 rows r := by
  unfold cmp_Or_int_at0
  refine goes_cut hB (n := 9) (scr := [(11, .v (AV.int .i64 (a0.length : Int)))]) (live := [3, 6, 7, 8]) (keep := []) (todo' := (ctl 9 [.code (bodyOf Tryd.prog 133)] [])) (ts' := ([AV.junk, AV.junk, AV.junk, (AV.int .i64 0), AV.junk, AV.junk, (AV.sl .p (a0.map (AV.int .i64))), (AV.int .i64 (a0.length : Int)), (AV.int .i64 0)] ++ junks 9)) (h' := []) (by kernel_rfl) (allc (len_raw (show (a0.map (AV.int .i64)) = (a0.map (AV.int .i64)) from rfl)) alln) (goes_eqS rfl rfl h)
theorem cmp_Or_int_wp1 (X : Ctx E) (hB : Base Tryd.prog E C) (v0 : Int) (v1 : (List Int)) (v2 : Int) (v3 : Int) {rows : List Ob} {r : AV} (h : ((v3 < v2 → ∃ y2 : Int, 0 ≤ (v3 : Int) ∧ v1[v3.toNat]? = some y2 ∧ ((y2 = v0 → ((-9223372036854775808) ≤ (v3 + 1) ∧ (v3 + 1) ≤ 9223372036854775807) ∧ (cmp_Or_int_at1 C v0 v1 v2 (v3 + 1) rows r)) ∧ (¬ (y2 = v0) → (rows = [] ∧ r = (AV.int .i64 y2))))) ∧ (¬ (v3 < v2) → (rows = [] ∧ r = (AV.int .i64 v0))))) : cmp_Or_int_at1 C v0 v1 v2 v3 rows r := by
  unfold cmp_Or_int_at1
  rcases Classical.em (v3 < v2) with hc1 | hc1
  · have h := h.1 hc1
    obtain ⟨y2, hg3, he4, h⟩ := h
    rcases Classical.em (y2 = v0) with hc5 | hc5
    · have h := h.1 hc5
      obtain ⟨hg6, h⟩ := h
      refine goes_cut hB (n := 16) (scr := [(3, .b true), (5, .e (AV.int .i64 y2)), (22, .b false), (25, .v (AV.int .i64 (v3 + 1)))]) (live := [3, 6, 7, 8]) (keep := []) (todo' := (ctl 9 [.code (bodyOf Tryd.prog 133)] [])) (ts' := ([AV.junk, AV.junk, AV.junk, (AV.int .i64 v0), AV.junk, AV.junk, (AV.sl .p (v1.map (AV.int .i64))), (AV.int .i64 v2), (AV.int .i64 (v3 + 1))] ++ junks 9)) (h' := []) (by kernel_rfl) (allc (wrap_i64 hg6) (allc (congrArg not (ieqT hc5)) (allc (And.intro hg3 (get_raw (show (v1.map (AV.int .i64)) = (v1.map (AV.int .i64)) from rfl) he4)) (allc (decide_eq_true hc1) alln)))) (goes_eqS rfl rfl h)
    · have h := h.2 hc5
      obtain ⟨h1, h2⟩ := h
      refine goes_eqR (h1.trans rfl) (h2.trans rfl) ((goes_ret (rows := []) (r := (AV.int .i64 y2)) hB fn_cmp_Or_int (rv := [.tmp 2]) (by kernel_rfl) (n := 14) (scr := [(3, .b true), (5, .e (AV.int .i64 y2)), (22, .b true)]) (keep := []) (by kernel_rfl) (allc (congrArg not (ieqF hc5)) (allc (And.intro hg3 (get_raw (show (v1.map (AV.int .i64)) = (v1.map (AV.int .i64)) from rfl) he4)) (allc (decide_eq_true hc1) alln)))))
  · have h := h.2 hc1
    obtain ⟨h1, h2⟩ := h
    refine goes_eqR (h1.trans rfl) (h2.trans rfl) ((goes_ret (rows := []) (r := (AV.int .i64 v0)) hB fn_cmp_Or_int (rv := [.tmp 2]) (by kernel_rfl) (n := 7) (scr := [(3, .b false)]) (keep := []) (by kernel_rfl) (allc (decide_eq_false hc1) alln)))
theorem cmp_Or_int_calls (X : Ctx E) (a0 : (List Int)) {rows : List Ob} {r : AV} (h : ∀ C, Base Tryd.prog E C → cmp_Or_int_at0 C a0 rows r) : ACalls Tryd.prog E 133 [(AV.sl .p (a0.map (AV.int .i64)))] rows r :=
  acalls_of_goes X.env X.good fn_cmp_Or_int (c := bodyOf Tryd.prog 133) (by kernel_rfl) (by kernel_rfl) (m := 17) (by kernel_rfl) h
theorem or_loop (X : Ctx E) (hB : Base Tryd.prog E C) (l : List Int) (hl : l.length ≤ 1000) : ∀ (n i : Nat), l.length - i = n → i ≤ l.length → cmp_Or_int_at1 C 0 l (l.length : Int) (i : Int) [] (AV.int .i64 (orS (l.drop i))) := by
  intro n
  induction n with
  | zero =>
    intro i h1 h2
    have hi : i = l.length := by omega
    refine cmp_Or_int_wp1 X hB _ _ _ _ ⟨fun h => by omega, fun _ => ⟨rfl, ?_⟩⟩
    rw [hi, List.drop_length]; rfl
  | succ n ih =>
    intro i h1 h2
    have hi : i < l.length := by omega
    refine cmp_Or_int_wp1 X hB _ _ _ _ ⟨fun h => ⟨l[i], by omega, by simp [hi], fun h0 => ⟨by omega, ?_⟩, fun h0 => ⟨rfl, ?_⟩⟩, fun h => by omega⟩
    · have := ih (i + 1) (by omega) (by omega)
      rw [List.drop_eq_getElem_cons hi]
      simp only [orS, h0, if_true]
      exact this
    · rw [List.drop_eq_getElem_cons hi]
      simp only [orS, h0, if_false]
theorem c_cmp_Or_int (X : Ctx E) (l : List Int) (hl : l.length ≤ 1000) : ACalls Tryd.prog E n_cmp_Or_int [(AV.sl .p (l.map (AV.int .i64)))] [] (AV.int .i64 (orS l)) :=
  cmp_Or_int_calls X l fun C hB => cmp_Or_int_wp0 X hB l (by simpa using or_loop X hB l hl l.length 0 (by omega) (by omega))

/-! ### omnibus/msg.compare -/
theorem fn_msg_compare : Tryd.prog.funcs[97]? = some Tryd.f97 := by kernel_rfl
def msg_compare_at0 (C : C0) (a0 : T_Message) (a1 : T_Message) (rows : List Ob) (r : AV) : Prop := Goes Tryd.prog C 97 [.code (bodyOf Tryd.prog 97)] ([(AV.agg [(AV.bool a0.Id_Ext), (AV.int .i64 a0.Id_N), (AV.int .i64 a0.Sender), (AV.int .i64 a0.Inc), (AV.int .i64 a0.Seq), (AV.int .i64 a0.Number), (AV.str a0.Data)]), (AV.agg [(AV.bool a1.Id_Ext), (AV.int .i64 a1.Id_N), (AV.int .i64 a1.Sender), (AV.int .i64 a1.Inc), (AV.int .i64 a1.Seq), (AV.int .i64 a1.Number), (AV.str a1.Data)])] ++ junks 33) [] rows r
theorem msg_compare_wp0 (X : Ctx E) (hB : Base Tryd.prog E C) (a0 : T_Message) (a1 : T_Message) {rows : List Ob} {r : AV} (h : (((idLess (T_Ident.mk a0.Id_Ext a0.Id_N) (T_Ident.mk a1.Id_Ext a1.Id_N)) = true → (rows = [] ∧ r = (AV.int .i64 (-1)))) ∧ (¬ ((idLess (T_Ident.mk a0.Id_Ext a0.Id_N) (T_Ident.mk a1.Id_Ext a1.Id_N)) = true) → (((idLess (T_Ident.mk a1.Id_Ext a1.Id_N) (T_Ident.mk a0.Id_Ext a0.Id_N)) = true → (rows = [] ∧ r = (AV.int .i64 1))) ∧ (¬ ((idLess (T_Ident.mk a1.Id_Ext a1.Id_N) (T_Ident.mk a0.Id_Ext a0.Id_N)) = true) → (((T_Ident.mk a0.Id_Ext a0.Id_N) = (T_Ident.mk a1.Id_Ext a1.Id_N) → (([(cmpS a0.Sender a1.Sender), (cmpS a0.Number a1.Number)]).length ≤ 1000) ∧ (rows = [] ∧ r = (AV.int .i64 (orS ([(cmpS a0.Sender a1.Sender), (cmpS a0.Number a1.Number)]))))) ∧ (¬ ((T_Ident.mk a0.Id_Ext a0.Id_N) = (T_Ident.mk a1.Id_Ext a1.Id_N)) → (rows = [] ∧ r = (AV.int .i64 0))))))))) : msg_compare_at0 C a0 a1 rows r := by
  unfold msg_compare_at0
  rcases Classical.em ((idLess (T_Ident.mk a0.Id_Ext a0.Id_N) (T_Ident.mk a1.Id_Ext a1.Id_N)) = true) with hc1 | hc1
  · have h := h.1 hc1
    obtain ⟨h1, h2⟩ := h
    refine goes_eqR (h1.trans rfl) (h2.trans rfl) ((goes_ret (rows := []) (r := (AV.int .i64 (-1))) hB fn_msg_compare (rv := [.tmp 4]) (by kernel_rfl) (n := 9) (scr := [(22, .cf [] (AV.bool (idLess (T_Ident.mk a0.Id_Ext a0.Id_N) (T_Ident.mk a1.Id_Ext a1.Id_N)))), (27, .b true)]) (keep := []) (by kernel_rfl) (allc hc1 (allc (c_ident_Less X (T_Ident.mk a0.Id_Ext a0.Id_N) (T_Ident.mk a1.Id_Ext a1.Id_N)) (allc (show rowsFlat [] from trivial) alln)))))
  · have h := h.2 hc1
    rcases Classical.em ((idLess (T_Ident.mk a1.Id_Ext a1.Id_N) (T_Ident.mk a0.Id_Ext a0.Id_N)) = true) with hc2 | hc2
    · have h := h.1 hc2
      obtain ⟨h1, h2⟩ := h
      refine goes_eqR (h1.trans rfl) (h2.trans rfl) ((goes_ret (rows := []) (r := (AV.int .i64 1)) hB fn_msg_compare (rv := [.tmp 4]) (by kernel_rfl) (n := 12) (scr := [(22, .cf [] (AV.bool (idLess (T_Ident.mk a0.Id_Ext a0.Id_N) (T_Ident.mk a1.Id_Ext a1.Id_N)))), (27, .b false), (41, .cf [] (AV.bool (idLess (T_Ident.mk a1.Id_Ext a1.Id_N) (T_Ident.mk a0.Id_Ext a0.Id_N)))), (46, .b true)]) (keep := []) (by kernel_rfl) (allc hc2 (allc (c_ident_Less X (T_Ident.mk a1.Id_Ext a1.Id_N) (T_Ident.mk a0.Id_Ext a0.Id_N)) (allc (show rowsFlat [] from trivial) (allc (bF hc1) (allc (c_ident_Less X (T_Ident.mk a0.Id_Ext a0.Id_N) (T_Ident.mk a1.Id_Ext a1.Id_N)) (allc (show rowsFlat [] from trivial) alln))))))))
    · have h := h.2 hc2
      rcases Classical.em ((T_Ident.mk a0.Id_Ext a0.Id_N) = (T_Ident.mk a1.Id_Ext a1.Id_N)) with hc3 | hc3
      · have h := h.1 hc3
        obtain ⟨hg4, h⟩ := h
        obtain ⟨h1, h2⟩ := h
        refine goes_eqR (h1.trans rfl) (h2.trans rfl) ((goes_ret (rows := []) (r := (AV.int .i64 (orS ([(cmpS a0.Sender a1.Sender), (cmpS a0.Number a1.Number)])))) hB fn_msg_compare (rv := [.tmp 4]) (by kernel_rfl) (n := 17) (scr := [(22, .cf [] (AV.bool (idLess (T_Ident.mk a0.Id_Ext a0.Id_N) (T_Ident.mk a1.Id_Ext a1.Id_N)))), (27, .b false), (41, .cf [] (AV.bool (idLess (T_Ident.mk a1.Id_Ext a1.Id_N) (T_Ident.mk a0.Id_Ext a0.Id_N)))), (46, .b false), (65, .b false), (79, .cf [] (AV.int .i64 (cmpS a0.Sender a1.Sender))), (94, .cf [] (AV.int .i64 (cmpS a0.Number a1.Number))), (100, .cf [] (AV.int .i64 (orS ([(cmpS a0.Sender a1.Sender), (cmpS a0.Number a1.Number)]))))]) (keep := []) (by kernel_rfl) (allc (acalls_eq2 (vals := [(AV.sl .p [(AV.int .i64 (cmpS a0.Sender a1.Sender)), (AV.int .i64 (cmpS a0.Number a1.Number))])]) (by first | rfl | (simp only [List.map_append, List.map_cons, List.map_nil, List.map_set, List.map_take, List.map_drop, List.append_nil, List.nil_append, List.map_replicate, List.length_replicate, List.length_map]; try rfl)) (c_cmp_Or_int X ([(cmpS a0.Sender a1.Sender), (cmpS a0.Number a1.Number)]) hg4)) (allc (show rowsFlat [] from trivial) (allc (c_cmp_Compare_int X a0.Number a1.Number) (allc (show rowsFlat [] from trivial) (allc (c_cmp_Compare_int X a0.Sender a1.Sender) (allc (show rowsFlat [] from trivial) (allc (congrArg not (T_Ident.beqT hc3)) (allc (bF hc2) (allc (c_ident_Less X (T_Ident.mk a1.Id_Ext a1.Id_N) (T_Ident.mk a0.Id_Ext a0.Id_N)) (allc (show rowsFlat [] from trivial) (allc (bF hc1) (allc (c_ident_Less X (T_Ident.mk a0.Id_Ext a0.Id_N) (T_Ident.mk a1.Id_Ext a1.Id_N)) (allc (show rowsFlat [] from trivial) alln)))))))))))))))
      · have h := h.2 hc3
        obtain ⟨h1, h2⟩ := h
        refine goes_eqR (h1.trans rfl) (h2.trans rfl) ((goes_ret (rows := []) (r := (AV.int .i64 0)) hB fn_msg_compare (rv := [.tmp 4]) (by kernel_rfl) (n := 15) (scr := [(22, .cf [] (AV.bool (idLess (T_Ident.mk a0.Id_Ext a0.Id_N) (T_Ident.mk a1.Id_Ext a1.Id_N)))), (27, .b false), (41, .cf [] (AV.bool (idLess (T_Ident.mk a1.Id_Ext a1.Id_N) (T_Ident.mk a0.Id_Ext a0.Id_N)))), (46, .b false), (65, .b true)]) (keep := []) (by kernel_rfl) (allc (congrArg not (T_Ident.beqF hc3)) (allc (bF hc2) (allc (c_ident_Less X (T_Ident.mk a1.Id_Ext a1.Id_N) (T_Ident.mk a0.Id_Ext a0.Id_N)) (allc (show rowsFlat [] from trivial) (allc (bF hc1) (allc (c_ident_Less X (T_Ident.mk a0.Id_Ext a0.Id_N) (T_Ident.mk a1.Id_Ext a1.Id_N)) (allc (show rowsFlat [] from trivial) alln)))))))))
theorem msg_compare_calls (X : Ctx E) (a0 : T_Message) (a1 : T_Message) {rows : List Ob} {r : AV} (h : ∀ C, Base Tryd.prog E C → msg_compare_at0 C a0 a1 rows r) : ACalls Tryd.prog E 97 [(AV.agg [(AV.bool a0.Id_Ext), (AV.int .i64 a0.Id_N), (AV.int .i64 a0.Sender), (AV.int .i64 a0.Inc), (AV.int .i64 a0.Seq), (AV.int .i64 a0.Number), (AV.str a0.Data)]), (AV.agg [(AV.bool a1.Id_Ext), (AV.int .i64 a1.Id_N), (AV.int .i64 a1.Sender), (AV.int .i64 a1.Inc), (AV.int .i64 a1.Seq), (AV.int .i64 a1.Number), (AV.str a1.Data)])] rows r :=
  acalls_of_goes X.env X.good fn_msg_compare (c := bodyOf Tryd.prog 97) (by kernel_rfl) (by kernel_rfl) (m := 33) (by kernel_rfl) h
theorem c_msg_compare (X : Ctx E) (a b : T_Message) : ACalls Tryd.prog E n_msg_compare [a.av, b.av] [] (AV.int .i64 (compareS a b)) :=
  msg_compare_calls X a b fun C hB => msg_compare_wp0 X hB a b ⟨fun h => ⟨rfl, by simp [compareS, Msg.id, h]⟩, fun h => ⟨fun h2 => ⟨rfl, by simp [compareS, Msg.id, h, h2]⟩,
    fun h2 => ⟨fun h3 => ⟨by simp, rfl, by have := T_Ident.beqT h3; simp [compareS, Msg.id, h, h2, this]⟩, fun h3 => ⟨rfl, by have := T_Ident.beqF h3; simp [compareS, Msg.id, h, h2, this]⟩⟩⟩⟩

/-! ### omnibus/msg.Less -/
theorem fn_msg_Less : Tryd.prog.funcs[59]? = some Tryd.f59 := by kernel_rfl
def msg_Less_at0 (C : C0) (a0 : T_Message) (a1 : T_Message) (rows : List Ob) (r : AV) : Prop := Goes Tryd.prog C 59 [.code (bodyOf Tryd.prog 59)] ([(AV.agg [(AV.bool a0.Id_Ext), (AV.int .i64 a0.Id_N), (AV.int .i64 a0.Sender), (AV.int .i64 a0.Inc), (AV.int .i64 a0.Seq), (AV.int .i64 a0.Number), (AV.str a0.Data)]), (AV.agg [(AV.bool a1.Id_Ext), (AV.int .i64 a1.Id_N), (AV.int .i64 a1.Sender), (AV.int .i64 a1.Inc), (AV.int .i64 a1.Seq), (AV.int .i64 a1.Number), (AV.str a1.Data)])] ++ junks 7) [] rows r
theorem msg_Less_wp0 (X : Ctx E) (hB : Base Tryd.prog E C) (a0 : T_Message) (a1 : T_Message) {rows : List Ob} {r : AV} (h : (rows = [] ∧ r = (AV.bool (decide ((compareS a0 a1) < 0))))) : msg_Less_at0 C a0 a1 rows r := by
  unfold msg_Less_at0
  obtain ⟨h1, h2⟩ := h
  refine goes_eqR (h1.trans rfl) (h2.trans rfl) ((goes_ret (rows := []) (r := (AV.bool (decide ((compareS a0 a1) < 0)))) hB fn_msg_Less (rv := [.tmp 4]) (by kernel_rfl) (n := 4) (scr := [(16, .cf [] (AV.int .i64 (compareS a0 a1)))]) (keep := []) (by kernel_rfl) (allc (c_msg_compare X a0 a1) (allc (show rowsFlat [] from trivial) alln))))
theorem msg_Less_calls (X : Ctx E) (a0 : T_Message) (a1 : T_Message) {rows : List Ob} {r : AV} (h : ∀ C, Base Tryd.prog E C → msg_Less_at0 C a0 a1 rows r) : ACalls Tryd.prog E 59 [(AV.agg [(AV.bool a0.Id_Ext), (AV.int .i64 a0.Id_N), (AV.int .i64 a0.Sender), (AV.int .i64 a0.Inc), (AV.int .i64 a0.Seq), (AV.int .i64 a0.Number), (AV.str a0.Data)]), (AV.agg [(AV.bool a1.Id_Ext), (AV.int .i64 a1.Id_N), (AV.int .i64 a1.Sender), (AV.int .i64 a1.Inc), (AV.int .i64 a1.Seq), (AV.int .i64 a1.Number), (AV.str a1.Data)])] rows r :=
  acalls_of_goes X.env X.good fn_msg_Less (c := bodyOf Tryd.prog 59) (by kernel_rfl) (by kernel_rfl) (m := 7) (by kernel_rfl) h
theorem c_msg_Less (X : Ctx E) (a b : T_Message) : ACalls Tryd.prog E n_msg_Less [a.av, b.av] [] (AV.bool (msgLess a b)) :=
  msg_Less_calls X a b fun C hB => msg_Less_wp0 X hB a b ⟨rfl, rfl⟩

/-! ### omnibus/msg.Right -/
theorem fn_msg_Right : Tryd.prog.funcs[54]? = some Tryd.f54 := by kernel_rfl
def msg_Right_at0 (C : C0) (a0 : T_Message) (rows : List Ob) (r : AV) : Prop := Goes Tryd.prog C 54 [.code (bodyOf Tryd.prog 54)] ([(AV.agg [(AV.bool a0.Id_Ext), (AV.int .i64 a0.Id_N), (AV.int .i64 a0.Sender), (AV.int .i64 a0.Inc), (AV.int .i64 a0.Seq), (AV.int .i64 a0.Number), (AV.str a0.Data)])] ++ junks 36) [] rows r
theorem msg_Right_wp0 (X : Ctx E) (hB : Base Tryd.prog E C) (a0 : T_Message) {rows : List Ob} {r : AV} (h : (((idRight (T_Ident.mk a0.Id_Ext a0.Id_N)) = true → ((a0.Sender ≥ 0 → ((a0.Sender < 16 → (((smallS a0.Inc) = true → (((smallS a0.Seq) = true → (((smallS a0.Number) = true → (rows = [] ∧ r = (AV.bool (decide ((a0.Data.size : Int) ≤ 8))))) ∧ (¬ ((smallS a0.Number) = true) → (rows = [] ∧ r = (AV.bool false))))) ∧ (¬ ((smallS a0.Seq) = true) → (rows = [] ∧ r = (AV.bool false))))) ∧ (¬ ((smallS a0.Inc) = true) → (rows = [] ∧ r = (AV.bool false))))) ∧ (¬ (a0.Sender < 16) → (rows = [] ∧ r = (AV.bool false))))) ∧ (¬ (a0.Sender ≥ 0) → (rows = [] ∧ r = (AV.bool false))))) ∧ (¬ ((idRight (T_Ident.mk a0.Id_Ext a0.Id_N)) = true) → (rows = [] ∧ r = (AV.bool false))))) : msg_Right_at0 C a0 rows r := by
  unfold msg_Right_at0
  rcases Classical.em ((idRight (T_Ident.mk a0.Id_Ext a0.Id_N)) = true) with hc1 | hc1
  · have h := h.1 hc1
    rcases Classical.em (a0.Sender ≥ 0) with hc2 | hc2
    · have h := h.1 hc2
      rcases Classical.em (a0.Sender < 16) with hc3 | hc3
      · have h := h.1 hc3
        rcases Classical.em ((smallS a0.Inc) = true) with hc4 | hc4
        · have h := h.1 hc4
          rcases Classical.em ((smallS a0.Seq) = true) with hc5 | hc5
          · have h := h.1 hc5
            rcases Classical.em ((smallS a0.Number) = true) with hc6 | hc6
            · have h := h.1 hc6
              obtain ⟨h1, h2⟩ := h
              refine goes_eqR (h1.trans rfl) (h2.trans rfl) ((goes_ret (rows := []) (r := (AV.bool (decide ((a0.Data.size : Int) ≤ 8)))) hB fn_msg_Right (rv := [.tmp 2]) (by kernel_rfl) (n := 4) (scr := [(13, .cf [] (AV.bool (idRight (T_Ident.mk a0.Id_Ext a0.Id_N)))), (18, .b true), (21, .b true), (24, .b true), (28, .b true), (33, .b true), (36, .b true), (39, .b true), (43, .b true), (48, .b true), (51, .b true), (54, .b true), (55, .cf [] (AV.bool (smallS a0.Inc))), (58, .b true), (63, .b true), (66, .b true), (69, .b true), (70, .cf [] (AV.bool (smallS a0.Seq))), (73, .b true), (78, .b true), (81, .b true), (84, .b true), (85, .cf [] (AV.bool (smallS a0.Number))), (88, .b true), (93, .b true), (96, .b true), (99, .b true), (102, .b true), (106, .b true)]) (keep := []) (by kernel_rfl) (allc hc6 (allc hc6 (allc hc6 (allc hc6 (allc hc6 (allc hc5 (allc (c_msg_small X a0.Number) (allc (show rowsFlat [] from trivial) (allc hc5 (allc hc5 (allc hc5 (allc hc4 (allc (c_msg_small X a0.Seq) (allc (show rowsFlat [] from trivial) (allc hc4 (allc hc4 (allc hc4 (allc (decide_eq_true hc3) (allc (c_msg_small X a0.Inc) (allc (show rowsFlat [] from trivial) (allc (decide_eq_true hc3) (allc (decide_eq_true hc3) (allc (decide_eq_true hc3) (allc (decide_eq_true hc2) (allc (decide_eq_true hc2) (allc (decide_eq_true hc2) (allc (decide_eq_true hc2) (allc hc1 (allc hc1 (allc hc1 (allc hc1 (allc (c_ident_Right X (T_Ident.mk a0.Id_Ext a0.Id_N)) (allc (show rowsFlat [] from trivial) alln)))))))))))))))))))))))))))))))))))
            · have h := h.2 hc6
              obtain ⟨h1, h2⟩ := h
              refine goes_eqR (h1.trans rfl) (h2.trans rfl) ((goes_ret (rows := []) (r := (AV.bool false)) hB fn_msg_Right (rv := [.tmp 2]) (by kernel_rfl) (n := 4) (scr := [(13, .cf [] (AV.bool (idRight (T_Ident.mk a0.Id_Ext a0.Id_N)))), (18, .b true), (21, .b true), (24, .b true), (28, .b true), (33, .b true), (36, .b true), (39, .b true), (43, .b true), (48, .b true), (51, .b true), (54, .b true), (55, .cf [] (AV.bool (smallS a0.Inc))), (58, .b true), (63, .b true), (66, .b true), (69, .b true), (70, .cf [] (AV.bool (smallS a0.Seq))), (73, .b true), (78, .b true), (81, .b true), (84, .b true), (85, .cf [] (AV.bool (smallS a0.Number))), (88, .b true), (93, .b false), (96, .b false), (99, .b false), (102, .b false), (106, .b false)]) (keep := []) (by kernel_rfl) (allc (bF hc6) (allc (bF hc6) (allc (bF hc6) (allc (bF hc6) (allc (bF hc6) (allc hc5 (allc (c_msg_small X a0.Number) (allc (show rowsFlat [] from trivial) (allc hc5 (allc hc5 (allc hc5 (allc hc4 (allc (c_msg_small X a0.Seq) (allc (show rowsFlat [] from trivial) (allc hc4 (allc hc4 (allc hc4 (allc (decide_eq_true hc3) (allc (c_msg_small X a0.Inc) (allc (show rowsFlat [] from trivial) (allc (decide_eq_true hc3) (allc (decide_eq_true hc3) (allc (decide_eq_true hc3) (allc (decide_eq_true hc2) (allc (decide_eq_true hc2) (allc (decide_eq_true hc2) (allc (decide_eq_true hc2) (allc hc1 (allc hc1 (allc hc1 (allc hc1 (allc (c_ident_Right X (T_Ident.mk a0.Id_Ext a0.Id_N)) (allc (show rowsFlat [] from trivial) alln)))))))))))))))))))))))))))))))))))
          · have h := h.2 hc5
            obtain ⟨h1, h2⟩ := h
            refine goes_eqR (h1.trans rfl) (h2.trans rfl) ((goes_ret (rows := []) (r := (AV.bool false)) hB fn_msg_Right (rv := [.tmp 2]) (by kernel_rfl) (n := 4) (scr := [(13, .cf [] (AV.bool (idRight (T_Ident.mk a0.Id_Ext a0.Id_N)))), (18, .b true), (21, .b true), (24, .b true), (28, .b true), (33, .b true), (36, .b true), (39, .b true), (43, .b true), (48, .b true), (51, .b true), (54, .b true), (55, .cf [] (AV.bool (smallS a0.Inc))), (58, .b true), (63, .b true), (66, .b true), (69, .b true), (70, .cf [] (AV.bool (smallS a0.Seq))), (73, .b true), (78, .b false), (81, .b false), (84, .b false), (88, .b false)]) (keep := []) (by kernel_rfl) (allc (bF hc5) (allc (bF hc5) (allc (bF hc5) (allc (bF hc5) (allc hc4 (allc (c_msg_small X a0.Seq) (allc (show rowsFlat [] from trivial) (allc hc4 (allc hc4 (allc hc4 (allc (decide_eq_true hc3) (allc (c_msg_small X a0.Inc) (allc (show rowsFlat [] from trivial) (allc (decide_eq_true hc3) (allc (decide_eq_true hc3) (allc (decide_eq_true hc3) (allc (decide_eq_true hc2) (allc (decide_eq_true hc2) (allc (decide_eq_true hc2) (allc (decide_eq_true hc2) (allc hc1 (allc hc1 (allc hc1 (allc hc1 (allc (c_ident_Right X (T_Ident.mk a0.Id_Ext a0.Id_N)) (allc (show rowsFlat [] from trivial) alln))))))))))))))))))))))))))))
        · have h := h.2 hc4
          obtain ⟨h1, h2⟩ := h
          refine goes_eqR (h1.trans rfl) (h2.trans rfl) ((goes_ret (rows := []) (r := (AV.bool false)) hB fn_msg_Right (rv := [.tmp 2]) (by kernel_rfl) (n := 4) (scr := [(13, .cf [] (AV.bool (idRight (T_Ident.mk a0.Id_Ext a0.Id_N)))), (18, .b true), (21, .b true), (24, .b true), (28, .b true), (33, .b true), (36, .b true), (39, .b true), (43, .b true), (48, .b true), (51, .b true), (54, .b true), (55, .cf [] (AV.bool (smallS a0.Inc))), (58, .b true), (63, .b false), (66, .b false), (69, .b false), (73, .b false)]) (keep := []) (by kernel_rfl) (allc (bF hc4) (allc (bF hc4) (allc (bF hc4) (allc (bF hc4) (allc (decide_eq_true hc3) (allc (c_msg_small X a0.Inc) (allc (show rowsFlat [] from trivial) (allc (decide_eq_true hc3) (allc (decide_eq_true hc3) (allc (decide_eq_true hc3) (allc (decide_eq_true hc2) (allc (decide_eq_true hc2) (allc (decide_eq_true hc2) (allc (decide_eq_true hc2) (allc hc1 (allc hc1 (allc hc1 (allc hc1 (allc (c_ident_Right X (T_Ident.mk a0.Id_Ext a0.Id_N)) (allc (show rowsFlat [] from trivial) alln))))))))))))))))))))))
      · have h := h.2 hc3
        obtain ⟨h1, h2⟩ := h
        refine goes_eqR (h1.trans rfl) (h2.trans rfl) ((goes_ret (rows := []) (r := (AV.bool false)) hB fn_msg_Right (rv := [.tmp 2]) (by kernel_rfl) (n := 4) (scr := [(13, .cf [] (AV.bool (idRight (T_Ident.mk a0.Id_Ext a0.Id_N)))), (18, .b true), (21, .b true), (24, .b true), (28, .b true), (33, .b true), (36, .b true), (39, .b true), (43, .b true), (48, .b false), (51, .b false), (54, .b false), (58, .b false)]) (keep := []) (by kernel_rfl) (allc (decide_eq_false hc3) (allc (decide_eq_false hc3) (allc (decide_eq_false hc3) (allc (decide_eq_false hc3) (allc (decide_eq_true hc2) (allc (decide_eq_true hc2) (allc (decide_eq_true hc2) (allc (decide_eq_true hc2) (allc hc1 (allc hc1 (allc hc1 (allc hc1 (allc (c_ident_Right X (T_Ident.mk a0.Id_Ext a0.Id_N)) (allc (show rowsFlat [] from trivial) alln))))))))))))))))
    · have h := h.2 hc2
      obtain ⟨h1, h2⟩ := h
      refine goes_eqR (h1.trans rfl) (h2.trans rfl) ((goes_ret (rows := []) (r := (AV.bool false)) hB fn_msg_Right (rv := [.tmp 2]) (by kernel_rfl) (n := 4) (scr := [(13, .cf [] (AV.bool (idRight (T_Ident.mk a0.Id_Ext a0.Id_N)))), (18, .b true), (21, .b true), (24, .b true), (28, .b true), (33, .b false), (36, .b false), (39, .b false), (43, .b false)]) (keep := []) (by kernel_rfl) (allc (decide_eq_false hc2) (allc (decide_eq_false hc2) (allc (decide_eq_false hc2) (allc (decide_eq_false hc2) (allc hc1 (allc hc1 (allc hc1 (allc hc1 (allc (c_ident_Right X (T_Ident.mk a0.Id_Ext a0.Id_N)) (allc (show rowsFlat [] from trivial) alln))))))))))))
  · have h := h.2 hc1
    obtain ⟨h1, h2⟩ := h
    refine goes_eqR (h1.trans rfl) (h2.trans rfl) ((goes_ret (rows := []) (r := (AV.bool false)) hB fn_msg_Right (rv := [.tmp 2]) (by kernel_rfl) (n := 4) (scr := [(13, .cf [] (AV.bool (idRight (T_Ident.mk a0.Id_Ext a0.Id_N)))), (18, .b false), (21, .b false), (24, .b false), (28, .b false)]) (keep := []) (by kernel_rfl) (allc (bF hc1) (allc (bF hc1) (allc (bF hc1) (allc (bF hc1) (allc (c_ident_Right X (T_Ident.mk a0.Id_Ext a0.Id_N)) (allc (show rowsFlat [] from trivial) alln))))))))
theorem msg_Right_calls (X : Ctx E) (a0 : T_Message) {rows : List Ob} {r : AV} (h : ∀ C, Base Tryd.prog E C → msg_Right_at0 C a0 rows r) : ACalls Tryd.prog E 54 [(AV.agg [(AV.bool a0.Id_Ext), (AV.int .i64 a0.Id_N), (AV.int .i64 a0.Sender), (AV.int .i64 a0.Inc), (AV.int .i64 a0.Seq), (AV.int .i64 a0.Number), (AV.str a0.Data)])] rows r :=
  acalls_of_goes X.env X.good fn_msg_Right (c := bodyOf Tryd.prog 54) (by kernel_rfl) (by kernel_rfl) (m := 36) (by kernel_rfl) h
theorem c_msg_Right (X : Ctx E) (a : T_Message) : ACalls Tryd.prog E n_msg_Right [a.av] [] (AV.bool (msgRight a)) :=
  msg_Right_calls X a fun C hB => msg_Right_wp0 X hB a (by
    refine ⟨fun h1 => ⟨fun h2 => ⟨fun h3 => ⟨fun h4 => ⟨fun h5 => ⟨fun h6 => ⟨rfl, ?_⟩, fun h6 => ⟨rfl, ?_⟩⟩, fun h5 => ⟨rfl, ?_⟩⟩, fun h4 => ⟨rfl, ?_⟩⟩, fun h3 => ⟨rfl, ?_⟩⟩, fun h2 => ⟨rfl, ?_⟩⟩, fun h1 => ⟨rfl, ?_⟩⟩ <;> (congr 1; simp only [msgRight, Msg.id]; simp_all; try (intros; omega)))

/-! ### omnibus/omnibusref04.Same -/
theorem fn_ref04_Same : Tryd.prog.funcs[26]? = some Tryd.f26 := by kernel_rfl
def ref04_Same_at0 (C : C0) (a0 : (List T_Message)) (a1 : (List T_Message)) (rows : List Ob) (r : AV) : Prop := Goes Tryd.prog C 26 [.code (bodyOf Tryd.prog 26)] ([(AV.sl .p (a0.map T_Message.av)), (AV.sl .p (a1.map T_Message.av))] ++ junks 24) [] rows r
def ref04_Same_at1 (C : C0) (v0 : (List T_Message)) (v1 : (List T_Message)) (v2 : Int) (rows : List Ob) (r : AV) : Prop := Goes Tryd.prog C 26 (ctl 12 [.code (bodyOf Tryd.prog 26)] [false]) (([(AV.sl .p (v0.map T_Message.av)), (AV.sl .p (v1.map T_Message.av)), AV.junk, AV.junk, AV.junk, (AV.int .i64 v2)] ++ junks 20)) [] rows r
theorem ref04_Same_wp0 (X : Ctx E) (hB : Base Tryd.prog E C) (a0 : (List T_Message)) (a1 : (List T_Message)) {rows : List Ob} {r : AV} (h : (((a0.length : Int) = (a1.length : Int) → (ref04_Same_at1 C a0 a1 0 rows r)) ∧ (¬ ((a0.length : Int) = (a1.length : Int)) → (rows = [] ∧ r = (AV.bool false))))) : ref04_Same_at0 C a0 a1 rows r := by
  unfold ref04_Same_at0
  rcases Classical.em ((a0.length : Int) = (a1.length : Int)) with hc1 | hc1
  · have h := h.1 hc1
    refine goes_cut hB (n := 12) (scr := [(8, .v (AV.int .i64 (a0.length : Int))), (14, .v (AV.int .i64 (a1.length : Int))), (18, .b false)]) (live := [0, 1, 5]) (keep := []) (todo' := (ctl 12 [.code (bodyOf Tryd.prog 26)] [false])) (ts' := ([(AV.sl .p (a0.map T_Message.av)), (AV.sl .p (a1.map T_Message.av)), AV.junk, AV.junk, AV.junk, (AV.int .i64 0)] ++ junks 20)) (h' := []) (by kernel_rfl) (allc (congrArg not (ieqT hc1)) (allc (len_raw (show (a1.map T_Message.av) = (a1.map T_Message.av) from rfl)) (allc (len_raw (show (a0.map T_Message.av) = (a0.map T_Message.av) from rfl)) alln))) (goes_eqS rfl rfl h)
  · have h := h.2 hc1
    obtain ⟨h1, h2⟩ := h
    refine goes_eqR (h1.trans rfl) (h2.trans rfl) ((goes_ret (rows := []) (r := (AV.bool false)) hB fn_ref04_Same (rv := [.tmp 4]) (by kernel_rfl) (n := 8) (scr := [(8, .v (AV.int .i64 (a0.length : Int))), (14, .v (AV.int .i64 (a1.length : Int))), (18, .b true)]) (keep := []) (by kernel_rfl) (allc (congrArg not (ieqF hc1)) (allc (len_raw (show (a1.map T_Message.av) = (a1.map T_Message.av) from rfl)) (allc (len_raw (show (a0.map T_Message.av) = (a0.map T_Message.av) from rfl)) alln)))))
theorem ref04_Same_wp1 (X : Ctx E) (hB : Base Tryd.prog E C) (v0 : (List T_Message)) (v1 : (List T_Message)) (v2 : Int) {rows : List Ob} {r : AV} (h : ((v2 < (v0.length : Int) → ∃ y3 : T_Message, 0 ≤ (v2 : Int) ∧ v0[v2.toNat]? = some y3 ∧ ∃ y6 : T_Message, 0 ≤ (v2 : Int) ∧ v1[v2.toNat]? = some y6 ∧ ((y3 = y6 → ((-9223372036854775808) ≤ (v2 + 1) ∧ (v2 + 1) ≤ 9223372036854775807) ∧ (ref04_Same_at1 C v0 v1 (v2 + 1) rows r)) ∧ (¬ (y3 = y6) → (rows = [] ∧ r = (AV.bool false))))) ∧ (¬ (v2 < (v0.length : Int)) → (rows = [] ∧ r = (AV.bool true))))) : ref04_Same_at1 C v0 v1 v2 rows r := by
  unfold ref04_Same_at1
  rcases Classical.em (v2 < (v0.length : Int)) with hc2 | hc2
  · have h := h.1 hc2
    obtain ⟨y3, hg4, he5, h⟩ := h
    obtain ⟨y6, hg7, he8, h⟩ := h
    rcases Classical.em (y3 = y6) with hc9 | hc9
    · have h := h.1 hc9
      obtain ⟨hg10, h⟩ := h
      refine goes_cut hB (n := 14) (scr := [(8, .v (AV.int .i64 (v0.length : Int))), (12, .b true), (20, .e (AV.agg [(AV.bool y3.Id_Ext), (AV.int .i64 y3.Id_N), (AV.int .i64 y3.Sender), (AV.int .i64 y3.Inc), (AV.int .i64 y3.Seq), (AV.int .i64 y3.Number), (AV.str y3.Data)])), (32, .e (AV.agg [(AV.bool y6.Id_Ext), (AV.int .i64 y6.Id_N), (AV.int .i64 y6.Sender), (AV.int .i64 y6.Inc), (AV.int .i64 y6.Seq), (AV.int .i64 y6.Number), (AV.str y6.Data)])), (40, .b false), (46, .v (AV.int .i64 (v2 + 1)))]) (live := [0, 1, 5]) (keep := []) (todo' := (ctl 12 [.code (bodyOf Tryd.prog 26)] [false])) (ts' := ([(AV.sl .p (v0.map T_Message.av)), (AV.sl .p (v1.map T_Message.av)), AV.junk, AV.junk, AV.junk, (AV.int .i64 (v2 + 1))] ++ junks 20)) (h' := []) (by kernel_rfl) (allc (wrap_i64 hg10) (allc (congrArg not (T_Message.beqT hc9)) (allc (And.intro hg7 (get_raw (show (v1.map T_Message.av) = (v1.map T_Message.av) from rfl) he8)) (allc (And.intro hg4 (get_raw (show (v0.map T_Message.av) = (v0.map T_Message.av) from rfl) he5)) (allc (decide_eq_true hc2) (allc (len_raw (show (v0.map T_Message.av) = (v0.map T_Message.av) from rfl)) alln)))))) (goes_eqS rfl rfl h)
    · have h := h.2 hc9
      obtain ⟨h1, h2⟩ := h
      refine goes_eqR (h1.trans rfl) (h2.trans rfl) ((goes_ret (rows := []) (r := (AV.bool false)) hB fn_ref04_Same (rv := [.tmp 4]) (by kernel_rfl) (n := 12) (scr := [(8, .v (AV.int .i64 (v0.length : Int))), (12, .b true), (20, .e (AV.agg [(AV.bool y3.Id_Ext), (AV.int .i64 y3.Id_N), (AV.int .i64 y3.Sender), (AV.int .i64 y3.Inc), (AV.int .i64 y3.Seq), (AV.int .i64 y3.Number), (AV.str y3.Data)])), (32, .e (AV.agg [(AV.bool y6.Id_Ext), (AV.int .i64 y6.Id_N), (AV.int .i64 y6.Sender), (AV.int .i64 y6.Inc), (AV.int .i64 y6.Seq), (AV.int .i64 y6.Number), (AV.str y6.Data)])), (40, .b true)]) (keep := []) (by kernel_rfl) (allc (congrArg not (T_Message.beqF hc9)) (allc (And.intro hg7 (get_raw (show (v1.map T_Message.av) = (v1.map T_Message.av) from rfl) he8)) (allc (And.intro hg4 (get_raw (show (v0.map T_Message.av) = (v0.map T_Message.av) from rfl) he5)) (allc (decide_eq_true hc2) (allc (len_raw (show (v0.map T_Message.av) = (v0.map T_Message.av) from rfl)) alln)))))))
  · have h := h.2 hc2
    obtain ⟨h1, h2⟩ := h
    refine goes_eqR (h1.trans rfl) (h2.trans rfl) ((goes_ret (rows := []) (r := (AV.bool true)) hB fn_ref04_Same (rv := [.tmp 4]) (by kernel_rfl) (n := 7) (scr := [(8, .v (AV.int .i64 (v0.length : Int))), (12, .b false)]) (keep := []) (by kernel_rfl) (allc (decide_eq_false hc2) (allc (len_raw (show (v0.map T_Message.av) = (v0.map T_Message.av) from rfl)) alln))))
theorem ref04_Same_calls (X : Ctx E) (a0 : (List T_Message)) (a1 : (List T_Message)) {rows : List Ob} {r : AV} (h : ∀ C, Base Tryd.prog E C → ref04_Same_at0 C a0 a1 rows r) : ACalls Tryd.prog E 26 [(AV.sl .p (a0.map T_Message.av)), (AV.sl .p (a1.map T_Message.av))] rows r :=
  acalls_of_goes X.env X.good fn_ref04_Same (c := bodyOf Tryd.prog 26) (by kernel_rfl) (by kernel_rfl) (m := 24) (by kernel_rfl) h
theorem same_loop (X : Ctx E) (hB : Base Tryd.prog E C) (a b : List T_Message) (hl : a.length ≤ 4611686018427387904) (hab : a.length = b.length) : ∀ (n i : Nat), a.length - i = n → i ≤ a.length → a.take i = b.take i →
    ref04_Same_at1 C a b (i : Int) [] (AV.bool (@decide (a = b) (Classical.propDecidable _))) := by
  intro n
  induction n with
  | zero =>
    intro i h1 h2 h3
    have hi : i = a.length := by omega
    refine ref04_Same_wp1 X hB _ _ _ ⟨fun h => by omega, fun _ => ⟨rfl, ?_⟩⟩
    have : a = b := by rw [hi, List.take_length, hab, List.take_length] at h3; exact h3
    rw [pdecT this]
  | succ n ih =>
    intro i h1 h2 h3
    have hi : i < a.length := by omega
    have hi' : i < b.length := by omega
    refine ref04_Same_wp1 X hB _ _ _ ⟨fun h => ⟨a[i], by omega, by simp [hi], b[i], by omega, by simp [hi'], fun h0 => ⟨by omega, ?_⟩, fun h0 => ⟨rfl, ?_⟩⟩, fun h => by omega⟩
    · refine ih (i + 1) (by omega) (by omega) ?_
      rw [← List.take_append_getElem hi, ← List.take_append_getElem hi', h3, h0]
    · rw [pdecF (fun e => h0 (by subst e; rfl))]
theorem c_ref04_Same (X : Ctx E) (a b : List T_Message) (hl : a.length ≤ 4611686018427387904) : ACalls Tryd.prog E n_ref04_Same [(AV.sl .p (a.map T_Message.av)), (AV.sl .p (b.map T_Message.av))] [] (AV.bool (@decide (a = b) (Classical.propDecidable _))) :=
  ref04_Same_calls X a b fun C hB => ref04_Same_wp0 X hB a b ⟨fun h => same_loop X hB a b hl (by omega) a.length 0 (by omega) (by omega) rfl, fun h => ⟨rfl, by rw [pdecF (fun e => h (by rw [e]))]⟩⟩

/-! ### omnibus/omnibusref13.Same -/
theorem fn_ref13_Same : Tryd.prog.funcs[24]? = some Tryd.f24 := by kernel_rfl
def ref13_Same_at0 (C : C0) (a0 : T_Queue) (a1 : T_Queue) (rows : List Ob) (r : AV) : Prop := Goes Tryd.prog C 24 [.code (bodyOf Tryd.prog 24)] ([(AV.agg [(AV.int .i64 a0.Limit), (AV.sl .p (a0.Msgs.map T_Message.av))]), (AV.agg [(AV.int .i64 a1.Limit), (AV.sl .p (a1.Msgs.map T_Message.av))])] ++ junks 15) [] rows r
theorem ref13_Same_wp0 (X : Ctx E) (hB : Base Tryd.prog E C) (a0 : T_Queue) (a1 : T_Queue) {rows : List Ob} {r : AV} (h : ((a0.Limit = a1.Limit → (a0.Msgs.length ≤ 4611686018427387904) ∧ (rows = [] ∧ r = (AV.bool (@decide (a0.Msgs = a1.Msgs) (Classical.propDecidable _))))) ∧ (¬ (a0.Limit = a1.Limit) → (rows = [] ∧ r = (AV.bool false))))) : ref13_Same_at0 C a0 a1 rows r := by
  unfold ref13_Same_at0
  rcases Classical.em (a0.Limit = a1.Limit) with hc1 | hc1
  · have h := h.1 hc1
    obtain ⟨hg2, h⟩ := h
    obtain ⟨h1, h2⟩ := h
    refine goes_eqR (h1.trans rfl) (h2.trans rfl) ((goes_ret (rows := []) (r := (AV.bool (@decide (a0.Msgs = a1.Msgs) (Classical.propDecidable _)))) hB fn_ref13_Same (rv := [.tmp 4]) (by kernel_rfl) (n := 4) (scr := [(27, .b true), (30, .b true), (33, .b true), (36, .b true), (39, .b true), (40, .cf [] (AV.bool (@decide (a0.Msgs = a1.Msgs) (Classical.propDecidable _)))), (43, .b true)]) (keep := []) (by kernel_rfl) (allc (ieqT hc1) (allc (c_ref04_Same X a0.Msgs a1.Msgs hg2) (allc (show rowsFlat [] from trivial) (allc (ieqT hc1) (allc (ieqT hc1) (allc (ieqT hc1) (allc (ieqT hc1) (allc (ieqT hc1) alln))))))))))
  · have h := h.2 hc1
    obtain ⟨h1, h2⟩ := h
    refine goes_eqR (h1.trans rfl) (h2.trans rfl) ((goes_ret (rows := []) (r := (AV.bool false)) hB fn_ref13_Same (rv := [.tmp 4]) (by kernel_rfl) (n := 4) (scr := [(27, .b false), (30, .b false), (33, .b false), (36, .b false), (39, .b false), (43, .b false)]) (keep := []) (by kernel_rfl) (allc (ieqF hc1) (allc (ieqF hc1) (allc (ieqF hc1) (allc (ieqF hc1) (allc (ieqF hc1) (allc (ieqF hc1) alln))))))))
theorem ref13_Same_calls (X : Ctx E) (a0 : T_Queue) (a1 : T_Queue) {rows : List Ob} {r : AV} (h : ∀ C, Base Tryd.prog E C → ref13_Same_at0 C a0 a1 rows r) : ACalls Tryd.prog E 24 [(AV.agg [(AV.int .i64 a0.Limit), (AV.sl .p (a0.Msgs.map T_Message.av))]), (AV.agg [(AV.int .i64 a1.Limit), (AV.sl .p (a1.Msgs.map T_Message.av))])] rows r :=
  acalls_of_goes X.env X.good fn_ref13_Same (c := bodyOf Tryd.prog 24) (by kernel_rfl) (by kernel_rfl) (m := 15) (by kernel_rfl) h
theorem c_ref13_Same (X : Ctx E) (a b : T_Queue) (hl : a.Msgs.length ≤ 4611686018427387904) : ACalls Tryd.prog E n_ref13_Same [a.av, b.av] [] (AV.bool (@decide (a = b) (Classical.propDecidable _))) :=
  ref13_Same_calls X a b fun C hB => ref13_Same_wp0 X hB a b ⟨fun h => ⟨hl, rfl, by cases a; cases b; simp_all⟩, fun h => ⟨rfl, by rw [pdecF (fun e => h (by rw [e]))]⟩⟩

/-! ### omnibus/omnibuslaw02.Ident -/
theorem fn_law02_Ident : Tryd.prog.funcs[100]? = some Tryd.f100 := by kernel_rfl
def law02_Ident_at0 (C : C0) (a0 : Int) (a1 : Bool) (rows : List Ob) (r : AV) : Prop := Goes Tryd.prog C 100 [.code (bodyOf Tryd.prog 100)] ([(AV.int .i64 a0), (AV.bool a1)] ++ junks 10) [] rows r
theorem law02_Ident_wp0 (X : Ctx E) (hB : Base Tryd.prog E C) (a0 : Int) (a1 : Bool) {rows : List Ob} {r : AV} (h : ((a1 = true → (I64 a0) ∧ ((1 : Int) ≤ 536870912) ∧ (rows = [] ∧ r = (AV.agg [(AV.bool true), (AV.int .i64 (pickS a0 536870912))]))) ∧ (¬ (a1 = true) → (I64 a0) ∧ ((1 : Int) ≤ 2048) ∧ (rows = [] ∧ r = (AV.agg [(AV.bool false), (AV.int .i64 (pickS a0 2048))]))))) : law02_Ident_at0 C a0 a1 rows r := by
  unfold law02_Ident_at0
  rcases Classical.em (a1 = true) with hc1 | hc1
  · have h := h.1 hc1
    obtain ⟨hg2, h⟩ := h
    obtain ⟨hg3, h⟩ := h
    obtain ⟨h1, h2⟩ := h
    refine goes_eqR (h1.trans rfl) (h2.trans rfl) ((goes_ret (rows := []) (r := (AV.agg [(AV.bool true), (AV.int .i64 (pickS a0 536870912))])) hB fn_law02_Ident (rv := [.cell 4 33]) (by kernel_rfl) (n := 8) (scr := [(6, .b true), (11, .cf [] (AV.int .i64 (pickS a0 536870912)))]) (keep := []) (by kernel_rfl) (allc (c_law02_pick X a0 536870912 hg2 hg3) (allc (show rowsFlat [] from trivial) (allc hc1 alln)))))
  · have h := h.2 hc1
    obtain ⟨hg4, h⟩ := h
    obtain ⟨hg5, h⟩ := h
    obtain ⟨h1, h2⟩ := h
    refine goes_eqR (h1.trans rfl) (h2.trans rfl) ((goes_ret (rows := []) (r := (AV.agg [(AV.bool false), (AV.int .i64 (pickS a0 2048))])) hB fn_law02_Ident (rv := [.cell 4 33]) (by kernel_rfl) (n := 9) (scr := [(6, .b false), (11, .cf [] (AV.int .i64 (pickS a0 2048)))]) (keep := []) (by kernel_rfl) (allc (c_law02_pick X a0 2048 hg4 hg5) (allc (show rowsFlat [] from trivial) (allc (bF hc1) alln)))))
theorem law02_Ident_calls (X : Ctx E) (a0 : Int) (a1 : Bool) {rows : List Ob} {r : AV} (h : ∀ C, Base Tryd.prog E C → law02_Ident_at0 C a0 a1 rows r) : ACalls Tryd.prog E 100 [(AV.int .i64 a0), (AV.bool a1)] rows r :=
  acalls_of_goes X.env X.good fn_law02_Ident (c := bodyOf Tryd.prog 100) (by kernel_rfl) (by kernel_rfl) (m := 10) (by kernel_rfl) h
theorem c_law02_Ident (X : Ctx E) (a : Int) (b : Bool) (ha : I64 a) : ACalls Tryd.prog E n_law02_Ident [(AV.int .i64 a), (AV.bool b)] [] (identS a b).av :=
  law02_Ident_calls X a b fun C hB => law02_Ident_wp0 X hB a b ⟨fun h => ⟨ha, by omega, rfl, by simp [identS, T_Ident.av, h]⟩, fun h => ⟨ha, by omega, rfl, by simp [identS, T_Ident.av, h]⟩⟩
end Go.Abs
