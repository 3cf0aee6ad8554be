/- Walks, printed by program. -/
import Derived.Test.YteocckoglkbonaaDoorW1
import Derived.Test.YteocckoglkbonaaDoorL1
import Derived.Test.YteocckoglkbonaaDoorS6
set_option linter.unusedVariables false
set_option linter.unusedSimpArgs false
set_option maxRecDepth 100000
namespace Go.Abs
open Go.Proofs
variable {E : Env} {C : C0}
/-! ### omnibus/omnibusref02.limit -/
theorem fn_ref02_limit : Tryd.prog.funcs[142]? = some Tryd.f142 := by kernel_rfl
def ref02_limit_at0 (C : C0) (a0 : Bool) (rows : List Ob) (r : AV) : Prop := Goes Tryd.prog C 142 [.code (bodyOf Tryd.prog 142)] ([(AV.bool a0)] ++ junks 3) [] rows r
theorem ref02_limit_wp0 (X : Ctx E) (hB : Base Tryd.prog E C) (a0 : Bool) {rows : List Ob} {r : AV} (h : ((a0 = true → (rows = [] ∧ r = (AV.int .i64 536870911))) ∧ (¬ (a0 = true) → (rows = [] ∧ r = (AV.int .i64 2047))))) : ref02_limit_at0 C a0 rows r := by
  unfold ref02_limit_at0
  rcases Classical.em (a0 = true) with hc1 | hc1
  · have h := h.1 hc1
    obtain ⟨h1, h2⟩ := h
    refine goes_eqR (h1.trans rfl) (h2.trans rfl) ((goes_ret (rows := []) (r := (AV.int .i64 536870911)) hB fn_ref02_limit (rv := [.tmp 2]) (by kernel_rfl) (n := 8) (scr := [(6, .b true)]) (keep := []) (by kernel_rfl) (allc hc1 alln)))
  · have h := h.2 hc1
    obtain ⟨h1, h2⟩ := h
    refine goes_eqR (h1.trans rfl) (h2.trans rfl) ((goes_ret (rows := []) (r := (AV.int .i64 2047)) hB fn_ref02_limit (rv := [.tmp 2]) (by kernel_rfl) (n := 9) (scr := [(6, .b false)]) (keep := []) (by kernel_rfl) (allc (bF hc1) alln)))
theorem ref02_limit_calls (X : Ctx E) (a0 : Bool) {rows : List Ob} {r : AV} (h : ∀ C, Base Tryd.prog E C → ref02_limit_at0 C a0 rows r) : ACalls Tryd.prog E 142 [(AV.bool a0)] rows r :=
  acalls_of_goes X.env X.good fn_ref02_limit (c := bodyOf Tryd.prog 142) (by kernel_rfl) (by kernel_rfl) (m := 3) (by kernel_rfl) h
theorem c_ref02_limit (X : Ctx E) (e : Bool) : ACalls Tryd.prog E n_ref02_limit [AV.bool e] [] (AV.int .i64 (limitS e)) :=
  ref02_limit_calls X e fun C hB => ref02_limit_wp0 X hB e ⟨fun h => ⟨rfl, by simp [limitS, h]⟩, fun h => ⟨rfl, by simp [limitS, h]⟩⟩

/-! ### omnibus/omnibusref02.Right -/
theorem fn_ref02_Right : Tryd.prog.funcs[118]? = some Tryd.f118 := by kernel_rfl
def ref02_Right_at0 (C : C0) (a0 : T_Ident) (rows : List Ob) (r : AV) : Prop := Goes Tryd.prog C 118 [.code (bodyOf Tryd.prog 118)] ([(AV.agg [(AV.bool a0.Ext), (AV.int .i64 a0.N)])] ++ junks 13) [] rows r
theorem ref02_Right_wp0 (X : Ctx E) (hB : Base Tryd.prog E C) (a0 : T_Ident) {rows : List Ob} {r : AV} (h : ((a0.N ≥ 0 → (rows = [] ∧ r = (AV.bool (decide (a0.N ≤ (limitS a0.Ext)))))) ∧ (¬ (a0.N ≥ 0) → (rows = [] ∧ r = (AV.bool false))))) : ref02_Right_at0 C a0 rows r := by
  unfold ref02_Right_at0
  rcases Classical.em (a0.N ≥ 0) with hc1 | hc1
  · have h := h.1 hc1
    obtain ⟨h1, h2⟩ := h
    refine goes_eqR (h1.trans rfl) (h2.trans rfl) ((goes_ret (rows := []) (r := (AV.bool (decide (a0.N ≤ (limitS a0.Ext))))) hB fn_ref02_Right (rv := [.tmp 2]) (by kernel_rfl) (n := 4) (scr := [(18, .b true), (21, .b true), (24, .b true), (27, .b true), (30, .b true), (31, .cf [] (AV.int .i64 (limitS a0.Ext))), (33, .b true), (37, .b true)]) (keep := []) (by kernel_rfl) (allc (decide_eq_true hc1) (allc (decide_eq_true hc1) (allc (c_ref02_limit X a0.Ext) (allc (show rowsFlat [] from trivial) (allc (decide_eq_true hc1) (allc (decide_eq_true hc1) (allc (decide_eq_true hc1) (allc (decide_eq_true hc1) (allc (decide_eq_true hc1) alln)))))))))))
  · have h := h.2 hc1
    obtain ⟨h1, h2⟩ := h
    refine goes_eqR (h1.trans rfl) (h2.trans rfl) ((goes_ret (rows := []) (r := (AV.bool false)) hB fn_ref02_Right (rv := [.tmp 2]) (by kernel_rfl) (n := 4) (scr := [(18, .b false), (21, .b false), (24, .b false), (27, .b false), (30, .b false), (33, .b false), (37, .b false)]) (keep := []) (by kernel_rfl) (allc (decide_eq_false hc1) (allc (decide_eq_false hc1) (allc (decide_eq_false hc1) (allc (decide_eq_false hc1) (allc (decide_eq_false hc1) (allc (decide_eq_false hc1) (allc (decide_eq_false hc1) alln)))))))))
theorem ref02_Right_calls (X : Ctx E) (a0 : T_Ident) {rows : List Ob} {r : AV} (h : ∀ C, Base Tryd.prog E C → ref02_Right_at0 C a0 rows r) : ACalls Tryd.prog E 118 [(AV.agg [(AV.bool a0.Ext), (AV.int .i64 a0.N)])] rows r :=
  acalls_of_goes X.env X.good fn_ref02_Right (c := bodyOf Tryd.prog 118) (by kernel_rfl) (by kernel_rfl) (m := 13) (by kernel_rfl) h
theorem c_ref02_Right (X : Ctx E) (a : T_Ident) : ACalls Tryd.prog E n_ref02_Right [a.av] [] (AV.bool (idRight a)) :=
  ref02_Right_calls X a fun C hB => ref02_Right_wp0 X hB a ⟨fun h => ⟨rfl, by simp [idRight, withinS]; omega⟩, fun h => ⟨rfl, by simp [idRight, withinS]; omega⟩⟩

/-! ### omnibus/omnibusref02.Key -/
theorem fn_ref02_Key : Tryd.prog.funcs[151]? = some Tryd.f151 := by kernel_rfl
def ref02_Key_at0 (C : C0) (a0 : T_Ident) (rows : List Ob) (r : AV) : Prop := Goes Tryd.prog C 151 [.code (bodyOf Tryd.prog 151)] ([(AV.agg [(AV.bool a0.Ext), (AV.int .i64 a0.N)])] ++ junks 21) [] rows r
theorem ref02_Key_wp0 (X : Ctx E) (hB : Base Tryd.prog E C) (a0 : T_Ident) {rows : List Ob} {r : AV} (h : (((idRight a0) = true → ((a0.Ext = true → ((-9223372036854775808) ≤ (Int.tdiv a0.N 262144) ∧ (Int.tdiv a0.N 262144) ≤ 9223372036854775807) ∧ ((-9223372036854775808) ≤ (524288 * (Int.tdiv a0.N 262144)) ∧ (524288 * (Int.tdiv a0.N 262144)) ≤ 9223372036854775807) ∧ ((-9223372036854775808) ≤ ((524288 * (Int.tdiv a0.N 262144)) + 262144) ∧ ((524288 * (Int.tdiv a0.N 262144)) + 262144) ≤ 9223372036854775807) ∧ ((-9223372036854775808) ≤ (((524288 * (Int.tdiv a0.N 262144)) + 262144) + (Int.tmod a0.N 262144)) ∧ (((524288 * (Int.tdiv a0.N 262144)) + 262144) + (Int.tmod a0.N 262144)) ≤ 9223372036854775807) ∧ (rows = [] ∧ r = (AV.tup [(AV.int .i64 (((524288 * (Int.tdiv a0.N 262144)) + 262144) + (Int.tmod a0.N 262144))), (AV.int .i64 0)]))) ∧ (¬ (a0.Ext = true) → ((-9223372036854775808) ≤ (524288 * a0.N) ∧ (524288 * a0.N) ≤ 9223372036854775807) ∧ (rows = [] ∧ r = (AV.tup [(AV.int .i64 (524288 * a0.N)), (AV.int .i64 0)]))))) ∧ (¬ ((idRight a0) = true) → (rows = [] ∧ r = (AV.tup [(AV.int .i64 0), (AV.int .i64 1)]))))) : ref02_Key_at0 C a0 rows r := by
  unfold ref02_Key_at0
  rcases Classical.em ((idRight a0) = true) with hc1 | hc1
  · have h := h.1 hc1
    rcases Classical.em (a0.Ext = true) with hc2 | hc2
    · have h := h.1 hc2
      obtain ⟨hg3, h⟩ := h
      obtain ⟨hg4, h⟩ := h
      obtain ⟨hg5, h⟩ := h
      obtain ⟨hg6, h⟩ := h
      obtain ⟨h1, h2⟩ := h
      refine goes_eqR (h1.trans rfl) (h2.trans rfl) ((goes_ret (rows := []) (r := (AV.tup [(AV.int .i64 (((524288 * (Int.tdiv a0.N 262144)) + 262144) + (Int.tmod a0.N 262144))), (AV.int .i64 0)])) hB fn_ref02_Key (rv := [.tmp 2, .tmp 3]) (by kernel_rfl) (n := 14) (scr := [(13, .cf [] (AV.bool (idRight a0))), (18, .b false), (28, .b false), (37, .v (AV.int .i64 (Int.tdiv a0.N 262144))), (40, .v (AV.int .i64 (524288 * (Int.tdiv a0.N 262144)))), (43, .v (AV.int .i64 ((524288 * (Int.tdiv a0.N 262144)) + 262144))), (55, .v (AV.int .i64 (((524288 * (Int.tdiv a0.N 262144)) + 262144) + (Int.tmod a0.N 262144))))]) (keep := []) (by kernel_rfl) (allc (wrap_i64 hg6) (allc (show (262144 : Int) ≠ 0 from by decide) (allc (wrap_i64 hg5) (allc (wrap_i64 hg4) (allc (wrap_i64 hg3) (allc (show (262144 : Int) ≠ 0 from by decide) (allc (congrArg not hc2) (allc (congrArg not hc1) (allc (c_ref02_Right X a0) (allc (show rowsFlat [] from trivial) alln))))))))))))
    · have h := h.2 hc2
      obtain ⟨hg7, h⟩ := h
      obtain ⟨h1, h2⟩ := h
      refine goes_eqR (h1.trans rfl) (h2.trans rfl) ((goes_ret (rows := []) (r := (AV.tup [(AV.int .i64 (524288 * a0.N)), (AV.int .i64 0)])) hB fn_ref02_Key (rv := [.tmp 2, .tmp 3]) (by kernel_rfl) (n := 13) (scr := [(13, .cf [] (AV.bool (idRight a0))), (18, .b false), (28, .b true), (37, .v (AV.int .i64 (524288 * a0.N)))]) (keep := []) (by kernel_rfl) (allc (wrap_i64 hg7) (allc (congrArg not (bF hc2)) (allc (congrArg not hc1) (allc (c_ref02_Right X a0) (allc (show rowsFlat [] from trivial) alln)))))))
  · have h := h.2 hc1
    obtain ⟨h1, h2⟩ := h
    refine goes_eqR (h1.trans rfl) (h2.trans rfl) ((goes_ret (rows := []) (r := (AV.tup [(AV.int .i64 0), (AV.int .i64 1)])) hB fn_ref02_Key (rv := [.tmp 2, .tmp 3]) (by kernel_rfl) (n := 8) (scr := [(13, .cf [] (AV.bool (idRight a0))), (18, .b true)]) (keep := []) (by kernel_rfl) (allc (congrArg not (bF hc1)) (allc (c_ref02_Right X a0) (allc (show rowsFlat [] from trivial) alln)))))
theorem ref02_Key_calls (X : Ctx E) (a0 : T_Ident) {rows : List Ob} {r : AV} (h : ∀ C, Base Tryd.prog E C → ref02_Key_at0 C a0 rows r) : ACalls Tryd.prog E 151 [(AV.agg [(AV.bool a0.Ext), (AV.int .i64 a0.N)])] rows r :=
  acalls_of_goes X.env X.good fn_ref02_Key (c := bodyOf Tryd.prog 151) (by kernel_rfl) (by kernel_rfl) (m := 21) (by kernel_rfl) h
theorem c_ref02_Key (X : Ctx E) (a : T_Ident) : ACalls Tryd.prog E n_ref02_Key [a.av] [] (AV.tup [AV.int .i64 (keyS a).1, AV.int .i64 (keyS a).2]) :=
  ref02_Key_calls X a fun C hB => ref02_Key_wp0 X hB a (by
    refine ⟨fun h => ?_, fun h => ⟨rfl, by simp [keyS, h]⟩⟩
    have hr : 0 ≤ a.N ∧ a.N ≤ limitS a.Ext := of_decide_eq_true h
    have hl : limitS a.Ext ≤ 536870911 := by cases a.Ext <;> decide
    have e1 : Int.tdiv a.N 262144 = a.N / 262144 := Int.tdiv_eq_ediv_of_nonneg hr.1
    have e2 : Int.tmod a.N 262144 = a.N % 262144 := Int.tmod_eq_emod_of_nonneg hr.1
    rw [e1, e2]
    refine ⟨fun he => ⟨by omega, by omega, by omega, by omega, rfl, ?_⟩, fun he => ⟨by omega, rfl, ?_⟩⟩
    · have hk : keyS a = (keyBits a.N, 0) := by simp [keyS, h, he]
      obtain ⟨n, hn⟩ : ∃ n : Nat, a.N = (n : Int) := ⟨a.N.toNat, by omega⟩
      rw [hk]
      have := keyBits_eq n (by omega)
      rw [← hn] at this
      simp only [this]
      congr 4
      omega
    · have hk : keyS a = ((a.N * 2) * 262144, 0) := by simp [keyS, h, he]
      rw [hk]
      congr 4
      omega)

/-! ### omnibus/omnibusref02.Less -/
theorem fn_ref02_Less : Tryd.prog.funcs[138]? = some Tryd.f138 := by kernel_rfl
def ref02_Less_at0 (C : C0) (a0 : T_Ident) (a1 : T_Ident) (rows : List Ob) (r : AV) : Prop := Goes Tryd.prog C 138 [.code (bodyOf Tryd.prog 138)] ([(AV.agg [(AV.bool a0.Ext), (AV.int .i64 a0.N)]), (AV.agg [(AV.bool a1.Ext), (AV.int .i64 a1.N)])] ++ junks 28) [] rows r
theorem ref02_Less_wp0 (X : Ctx E) (hB : Base Tryd.prog E C) (a0 : T_Ident) (a1 : T_Ident) {rows : List Ob} {r : AV} (h : (((keyS a0).2 = 0 → (((keyS a1).2 = 0 → (rows = [] ∧ r = (AV.bool (decide ((keyS a0).1 < (keyS a1).1))))) ∧ (¬ ((keyS a1).2 = 0) → (rows = [] ∧ r = (AV.bool false))))) ∧ (¬ ((keyS a0).2 = 0) → (rows = [] ∧ r = (AV.bool false))))) : ref02_Less_at0 C a0 a1 rows r := by
  unfold ref02_Less_at0
  rcases Classical.em ((keyS a0).2 = 0) with hc1 | hc1
  · have h := h.1 hc1
    rcases Classical.em ((keyS a1).2 = 0) with hc2 | hc2
    · have h := h.1 hc2
      obtain ⟨h1, h2⟩ := h
      refine goes_eqR (h1.trans rfl) (h2.trans rfl) ((goes_ret (rows := []) (r := (AV.bool (decide ((keyS a0).1 < (keyS a1).1)))) hB fn_ref02_Less (rv := [.tmp 4]) (by kernel_rfl) (n := 8) (scr := [(13, .cf [] (AV.tup [(AV.int .i64 (keyS a0).1), (AV.int .i64 (keyS a0).2)])), (34, .cf [] (AV.tup [(AV.int .i64 (keyS a1).1), (AV.int .i64 (keyS a1).2)])), (60, .b true), (63, .b true), (67, .b true), (72, .b true), (75, .b true), (78, .b true), (82, .b true)]) (keep := []) (by kernel_rfl) (allc (ieqT hc2) (allc (ieqT hc2) (allc (ieqT hc2) (allc (ieqT hc2) (allc (ieqT hc1) (allc (ieqT hc1) (allc (ieqT hc1) (allc (c_ref02_Key X a1) (allc (show rowsFlat [] from trivial) (allc (c_ref02_Key X a0) (allc (show rowsFlat [] from trivial) alln)))))))))))))
    · have h := h.2 hc2
      obtain ⟨h1, h2⟩ := h
      refine goes_eqR (h1.trans rfl) (h2.trans rfl) ((goes_ret (rows := []) (r := (AV.bool false)) hB fn_ref02_Less (rv := [.tmp 4]) (by kernel_rfl) (n := 8) (scr := [(13, .cf [] (AV.tup [(AV.int .i64 (keyS a0).1), (AV.int .i64 (keyS a0).2)])), (34, .cf [] (AV.tup [(AV.int .i64 (keyS a1).1), (AV.int .i64 (keyS a1).2)])), (60, .b true), (63, .b true), (67, .b true), (72, .b false), (75, .b false), (78, .b false), (82, .b false)]) (keep := []) (by kernel_rfl) (allc (ieqF hc2) (allc (ieqF hc2) (allc (ieqF hc2) (allc (ieqF hc2) (allc (ieqT hc1) (allc (ieqT hc1) (allc (ieqT hc1) (allc (c_ref02_Key X a1) (allc (show rowsFlat [] from trivial) (allc (c_ref02_Key X a0) (allc (show rowsFlat [] from trivial) alln)))))))))))))
  · have h := h.2 hc1
    obtain ⟨h1, h2⟩ := h
    refine goes_eqR (h1.trans rfl) (h2.trans rfl) ((goes_ret (rows := []) (r := (AV.bool false)) hB fn_ref02_Less (rv := [.tmp 4]) (by kernel_rfl) (n := 8) (scr := [(13, .cf [] (AV.tup [(AV.int .i64 (keyS a0).1), (AV.int .i64 (keyS a0).2)])), (34, .cf [] (AV.tup [(AV.int .i64 (keyS a1).1), (AV.int .i64 (keyS a1).2)])), (60, .b false), (63, .b false), (67, .b false)]) (keep := []) (by kernel_rfl) (allc (ieqF hc1) (allc (ieqF hc1) (allc (ieqF hc1) (allc (c_ref02_Key X a1) (allc (show rowsFlat [] from trivial) (allc (c_ref02_Key X a0) (allc (show rowsFlat [] from trivial) alln)))))))))
theorem ref02_Less_calls (X : Ctx E) (a0 : T_Ident) (a1 : T_Ident) {rows : List Ob} {r : AV} (h : ∀ C, Base Tryd.prog E C → ref02_Less_at0 C a0 a1 rows r) : ACalls Tryd.prog E 138 [(AV.agg [(AV.bool a0.Ext), (AV.int .i64 a0.N)]), (AV.agg [(AV.bool a1.Ext), (AV.int .i64 a1.N)])] rows r :=
  acalls_of_goes X.env X.good fn_ref02_Less (c := bodyOf Tryd.prog 138) (by kernel_rfl) (by kernel_rfl) (m := 28) (by kernel_rfl) h
theorem c_ref02_Less (X : Ctx E) (a b : T_Ident) : ACalls Tryd.prog E n_ref02_Less [a.av, b.av] [] (AV.bool (idLess a b)) :=
  ref02_Less_calls X a b fun C hB => ref02_Less_wp0 X hB a b ⟨fun h => ⟨fun h2 => ⟨rfl, by simp [idLess, h, h2]⟩, fun h2 => ⟨rfl, by simp [idLess, h2]⟩⟩, fun h => ⟨rfl, by simp [idLess, h]⟩⟩

/-! ### omnibus/omnibusref04.small -/
theorem fn_ref04_small : Tryd.prog.funcs[137]? = some Tryd.f137 := by kernel_rfl
def ref04_small_at0 (C : C0) (a0 : Int) (rows : List Ob) (r : AV) : Prop := Goes Tryd.prog C 137 [.code (bodyOf Tryd.prog 137)] ([(AV.int .i64 a0)] ++ junks 8) [] rows r
theorem ref04_small_wp0 (X : Ctx E) (hB : Base Tryd.prog E C) (a0 : Int) {rows : List Ob} {r : AV} (h : ((a0 ≥ 1 → (rows = [] ∧ r = (AV.bool (decide (a0 ≤ 65535))))) ∧ (¬ (a0 ≥ 1) → (rows = [] ∧ r = (AV.bool false))))) : ref04_small_at0 C a0 rows r := by
  unfold ref04_small_at0
  rcases Classical.em (a0 ≥ 1) with hc1 | hc1
  · have h := h.1 hc1
    obtain ⟨h1, h2⟩ := h
    refine goes_eqR (h1.trans rfl) (h2.trans rfl) ((goes_ret (rows := []) (r := (AV.bool (decide (a0 ≤ 65535)))) hB fn_ref04_small (rv := [.tmp 2]) (by kernel_rfl) (n := 4) (scr := [(12, .b true), (15, .b true), (19, .b true)]) (keep := []) (by kernel_rfl) (allc (decide_eq_true hc1) (allc (decide_eq_true hc1) (allc (decide_eq_true hc1) alln)))))
  · have h := h.2 hc1
    obtain ⟨h1, h2⟩ := h
    refine goes_eqR (h1.trans rfl) (h2.trans rfl) ((goes_ret (rows := []) (r := (AV.bool false)) hB fn_ref04_small (rv := [.tmp 2]) (by kernel_rfl) (n := 4) (scr := [(12, .b false), (15, .b false), (19, .b false)]) (keep := []) (by kernel_rfl) (allc (decide_eq_false hc1) (allc (decide_eq_false hc1) (allc (decide_eq_false hc1) alln)))))
theorem ref04_small_calls (X : Ctx E) (a0 : Int) {rows : List Ob} {r : AV} (h : ∀ C, Base Tryd.prog E C → ref04_small_at0 C a0 rows r) : ACalls Tryd.prog E 137 [(AV.int .i64 a0)] rows r :=
  acalls_of_goes X.env X.good fn_ref04_small (c := bodyOf Tryd.prog 137) (by kernel_rfl) (by kernel_rfl) (m := 8) (by kernel_rfl) h
theorem c_ref04_small (X : Ctx E) (a : Int) : ACalls Tryd.prog E n_ref04_small [(AV.int .i64 a)] [] (AV.bool (smallS a)) :=
  ref04_small_calls X a fun C hB => ref04_small_wp0 X hB a ⟨fun h => ⟨rfl, by simp [smallS]; omega⟩, fun h => ⟨rfl, by simp [smallS]; omega⟩⟩

/-! ### omnibus/omnibusref04.Right -/
theorem fn_ref04_Right : Tryd.prog.funcs[104]? = some Tryd.f104 := by kernel_rfl
def ref04_Right_at0 (C : C0) (a0 : T_Message) (rows : List Ob) (r : AV) : Prop := Goes Tryd.prog C 104 [.code (bodyOf Tryd.prog 104)] ([(AV.agg [(AV.bool a0.Id_Ext), (AV.int .i64 a0.Id_N), (AV.int .i64 a0.Sender), (AV.int .i64 a0.Inc), (AV.int .i64 a0.Seq), (AV.int .i64 a0.Number), (AV.str a0.Data)])] ++ junks 38) [] rows r
theorem ref04_Right_wp0 (X : Ctx E) (hB : Base Tryd.prog E C) (a0 : T_Message) {rows : List Ob} {r : AV} (h : (((idRight (T_Ident.mk a0.Id_Ext a0.Id_N)) = true → ((a0.Sender ≥ 0 → ((a0.Sender ≤ 15 → (((smallS a0.Inc) = true → (((smallS a0.Seq) = true → (((smallS a0.Number) = true → (rows = [] ∧ r = (AV.bool (decide ((a0.Data.size : Int) ≤ 8))))) ∧ (¬ ((smallS a0.Number) = true) → (rows = [] ∧ r = (AV.bool false))))) ∧ (¬ ((smallS a0.Seq) = true) → (rows = [] ∧ r = (AV.bool false))))) ∧ (¬ ((smallS a0.Inc) = true) → (rows = [] ∧ r = (AV.bool false))))) ∧ (¬ (a0.Sender ≤ 15) → (rows = [] ∧ r = (AV.bool false))))) ∧ (¬ (a0.Sender ≥ 0) → (rows = [] ∧ r = (AV.bool false))))) ∧ (¬ ((idRight (T_Ident.mk a0.Id_Ext a0.Id_N)) = true) → (rows = [] ∧ r = (AV.bool false))))) : ref04_Right_at0 C a0 rows r := by
  unfold ref04_Right_at0
  rcases Classical.em ((idRight (T_Ident.mk a0.Id_Ext a0.Id_N)) = true) with hc1 | hc1
  · have h := h.1 hc1
    rcases Classical.em (a0.Sender ≥ 0) with hc2 | hc2
    · have h := h.1 hc2
      rcases Classical.em (a0.Sender ≤ 15) with hc3 | hc3
      · have h := h.1 hc3
        rcases Classical.em ((smallS a0.Inc) = true) with hc4 | hc4
        · have h := h.1 hc4
          rcases Classical.em ((smallS a0.Seq) = true) with hc5 | hc5
          · have h := h.1 hc5
            rcases Classical.em ((smallS a0.Number) = true) with hc6 | hc6
            · have h := h.1 hc6
              obtain ⟨h1, h2⟩ := h
              refine goes_eqR (h1.trans rfl) (h2.trans rfl) ((goes_ret (rows := []) (r := (AV.bool (decide ((a0.Data.size : Int) ≤ 8)))) hB fn_ref04_Right (rv := [.tmp 2]) (by kernel_rfl) (n := 6) (scr := [(13, .cf [] (AV.bool (idRight (T_Ident.mk a0.Id_Ext a0.Id_N)))), (24, .b true), (27, .b true), (30, .b true), (34, .b true), (39, .b true), (42, .b true), (45, .b true), (49, .b true), (54, .b true), (57, .b true), (60, .b true), (61, .cf [] (AV.bool (smallS a0.Inc))), (64, .b true), (69, .b true), (72, .b true), (75, .b true), (76, .cf [] (AV.bool (smallS a0.Seq))), (79, .b true), (84, .b true), (87, .b true), (90, .b true), (91, .cf [] (AV.bool (smallS a0.Number))), (94, .b true), (99, .b true), (102, .b true), (105, .b true), (108, .b true), (112, .b true)]) (keep := []) (by kernel_rfl) (allc hc6 (allc hc6 (allc hc6 (allc hc6 (allc hc6 (allc hc5 (allc (c_ref04_small X a0.Number) (allc (show rowsFlat [] from trivial) (allc hc5 (allc hc5 (allc hc5 (allc hc4 (allc (c_ref04_small X a0.Seq) (allc (show rowsFlat [] from trivial) (allc hc4 (allc hc4 (allc hc4 (allc (decide_eq_true hc3) (allc (c_ref04_small X a0.Inc) (allc (show rowsFlat [] from trivial) (allc (decide_eq_true hc3) (allc (decide_eq_true hc3) (allc (decide_eq_true hc3) (allc (decide_eq_true hc2) (allc (decide_eq_true hc2) (allc (decide_eq_true hc2) (allc (decide_eq_true hc2) (allc hc1 (allc hc1 (allc hc1 (allc hc1 (allc (c_ref02_Right X (T_Ident.mk a0.Id_Ext a0.Id_N)) (allc (show rowsFlat [] from trivial) alln)))))))))))))))))))))))))))))))))))
            · have h := h.2 hc6
              obtain ⟨h1, h2⟩ := h
              refine goes_eqR (h1.trans rfl) (h2.trans rfl) ((goes_ret (rows := []) (r := (AV.bool false)) hB fn_ref04_Right (rv := [.tmp 2]) (by kernel_rfl) (n := 6) (scr := [(13, .cf [] (AV.bool (idRight (T_Ident.mk a0.Id_Ext a0.Id_N)))), (24, .b true), (27, .b true), (30, .b true), (34, .b true), (39, .b true), (42, .b true), (45, .b true), (49, .b true), (54, .b true), (57, .b true), (60, .b true), (61, .cf [] (AV.bool (smallS a0.Inc))), (64, .b true), (69, .b true), (72, .b true), (75, .b true), (76, .cf [] (AV.bool (smallS a0.Seq))), (79, .b true), (84, .b true), (87, .b true), (90, .b true), (91, .cf [] (AV.bool (smallS a0.Number))), (94, .b true), (99, .b false), (102, .b false), (105, .b false), (108, .b false), (112, .b false)]) (keep := []) (by kernel_rfl) (allc (bF hc6) (allc (bF hc6) (allc (bF hc6) (allc (bF hc6) (allc (bF hc6) (allc hc5 (allc (c_ref04_small X a0.Number) (allc (show rowsFlat [] from trivial) (allc hc5 (allc hc5 (allc hc5 (allc hc4 (allc (c_ref04_small X a0.Seq) (allc (show rowsFlat [] from trivial) (allc hc4 (allc hc4 (allc hc4 (allc (decide_eq_true hc3) (allc (c_ref04_small X a0.Inc) (allc (show rowsFlat [] from trivial) (allc (decide_eq_true hc3) (allc (decide_eq_true hc3) (allc (decide_eq_true hc3) (allc (decide_eq_true hc2) (allc (decide_eq_true hc2) (allc (decide_eq_true hc2) (allc (decide_eq_true hc2) (allc hc1 (allc hc1 (allc hc1 (allc hc1 (allc (c_ref02_Right X (T_Ident.mk a0.Id_Ext a0.Id_N)) (allc (show rowsFlat [] from trivial) alln)))))))))))))))))))))))))))))))))))
          · have h := h.2 hc5
            obtain ⟨h1, h2⟩ := h
            refine goes_eqR (h1.trans rfl) (h2.trans rfl) ((goes_ret (rows := []) (r := (AV.bool false)) hB fn_ref04_Right (rv := [.tmp 2]) (by kernel_rfl) (n := 6) (scr := [(13, .cf [] (AV.bool (idRight (T_Ident.mk a0.Id_Ext a0.Id_N)))), (24, .b true), (27, .b true), (30, .b true), (34, .b true), (39, .b true), (42, .b true), (45, .b true), (49, .b true), (54, .b true), (57, .b true), (60, .b true), (61, .cf [] (AV.bool (smallS a0.Inc))), (64, .b true), (69, .b true), (72, .b true), (75, .b true), (76, .cf [] (AV.bool (smallS a0.Seq))), (79, .b true), (84, .b false), (87, .b false), (90, .b false), (94, .b false)]) (keep := []) (by kernel_rfl) (allc (bF hc5) (allc (bF hc5) (allc (bF hc5) (allc (bF hc5) (allc hc4 (allc (c_ref04_small X a0.Seq) (allc (show rowsFlat [] from trivial) (allc hc4 (allc hc4 (allc hc4 (allc (decide_eq_true hc3) (allc (c_ref04_small X a0.Inc) (allc (show rowsFlat [] from trivial) (allc (decide_eq_true hc3) (allc (decide_eq_true hc3) (allc (decide_eq_true hc3) (allc (decide_eq_true hc2) (allc (decide_eq_true hc2) (allc (decide_eq_true hc2) (allc (decide_eq_true hc2) (allc hc1 (allc hc1 (allc hc1 (allc hc1 (allc (c_ref02_Right X (T_Ident.mk a0.Id_Ext a0.Id_N)) (allc (show rowsFlat [] from trivial) alln))))))))))))))))))))))))))))
        · have h := h.2 hc4
          obtain ⟨h1, h2⟩ := h
          refine goes_eqR (h1.trans rfl) (h2.trans rfl) ((goes_ret (rows := []) (r := (AV.bool false)) hB fn_ref04_Right (rv := [.tmp 2]) (by kernel_rfl) (n := 6) (scr := [(13, .cf [] (AV.bool (idRight (T_Ident.mk a0.Id_Ext a0.Id_N)))), (24, .b true), (27, .b true), (30, .b true), (34, .b true), (39, .b true), (42, .b true), (45, .b true), (49, .b true), (54, .b true), (57, .b true), (60, .b true), (61, .cf [] (AV.bool (smallS a0.Inc))), (64, .b true), (69, .b false), (72, .b false), (75, .b false), (79, .b false)]) (keep := []) (by kernel_rfl) (allc (bF hc4) (allc (bF hc4) (allc (bF hc4) (allc (bF hc4) (allc (decide_eq_true hc3) (allc (c_ref04_small X a0.Inc) (allc (show rowsFlat [] from trivial) (allc (decide_eq_true hc3) (allc (decide_eq_true hc3) (allc (decide_eq_true hc3) (allc (decide_eq_true hc2) (allc (decide_eq_true hc2) (allc (decide_eq_true hc2) (allc (decide_eq_true hc2) (allc hc1 (allc hc1 (allc hc1 (allc hc1 (allc (c_ref02_Right X (T_Ident.mk a0.Id_Ext a0.Id_N)) (allc (show rowsFlat [] from trivial) alln))))))))))))))))))))))
      · have h := h.2 hc3
        obtain ⟨h1, h2⟩ := h
        refine goes_eqR (h1.trans rfl) (h2.trans rfl) ((goes_ret (rows := []) (r := (AV.bool false)) hB fn_ref04_Right (rv := [.tmp 2]) (by kernel_rfl) (n := 6) (scr := [(13, .cf [] (AV.bool (idRight (T_Ident.mk a0.Id_Ext a0.Id_N)))), (24, .b true), (27, .b true), (30, .b true), (34, .b true), (39, .b true), (42, .b true), (45, .b true), (49, .b true), (54, .b false), (57, .b false), (60, .b false), (64, .b false)]) (keep := []) (by kernel_rfl) (allc (decide_eq_false hc3) (allc (decide_eq_false hc3) (allc (decide_eq_false hc3) (allc (decide_eq_false hc3) (allc (decide_eq_true hc2) (allc (decide_eq_true hc2) (allc (decide_eq_true hc2) (allc (decide_eq_true hc2) (allc hc1 (allc hc1 (allc hc1 (allc hc1 (allc (c_ref02_Right X (T_Ident.mk a0.Id_Ext a0.Id_N)) (allc (show rowsFlat [] from trivial) alln))))))))))))))))
    · have h := h.2 hc2
      obtain ⟨h1, h2⟩ := h
      refine goes_eqR (h1.trans rfl) (h2.trans rfl) ((goes_ret (rows := []) (r := (AV.bool false)) hB fn_ref04_Right (rv := [.tmp 2]) (by kernel_rfl) (n := 6) (scr := [(13, .cf [] (AV.bool (idRight (T_Ident.mk a0.Id_Ext a0.Id_N)))), (24, .b true), (27, .b true), (30, .b true), (34, .b true), (39, .b false), (42, .b false), (45, .b false), (49, .b false)]) (keep := []) (by kernel_rfl) (allc (decide_eq_false hc2) (allc (decide_eq_false hc2) (allc (decide_eq_false hc2) (allc (decide_eq_false hc2) (allc hc1 (allc hc1 (allc hc1 (allc hc1 (allc (c_ref02_Right X (T_Ident.mk a0.Id_Ext a0.Id_N)) (allc (show rowsFlat [] from trivial) alln))))))))))))
  · have h := h.2 hc1
    obtain ⟨h1, h2⟩ := h
    refine goes_eqR (h1.trans rfl) (h2.trans rfl) ((goes_ret (rows := []) (r := (AV.bool false)) hB fn_ref04_Right (rv := [.tmp 2]) (by kernel_rfl) (n := 6) (scr := [(13, .cf [] (AV.bool (idRight (T_Ident.mk a0.Id_Ext a0.Id_N)))), (24, .b false), (27, .b false), (30, .b false), (34, .b false)]) (keep := []) (by kernel_rfl) (allc (bF hc1) (allc (bF hc1) (allc (bF hc1) (allc (bF hc1) (allc (c_ref02_Right X (T_Ident.mk a0.Id_Ext a0.Id_N)) (allc (show rowsFlat [] from trivial) alln))))))))
theorem ref04_Right_calls (X : Ctx E) (a0 : T_Message) {rows : List Ob} {r : AV} (h : ∀ C, Base Tryd.prog E C → ref04_Right_at0 C a0 rows r) : ACalls Tryd.prog E 104 [(AV.agg [(AV.bool a0.Id_Ext), (AV.int .i64 a0.Id_N), (AV.int .i64 a0.Sender), (AV.int .i64 a0.Inc), (AV.int .i64 a0.Seq), (AV.int .i64 a0.Number), (AV.str a0.Data)])] rows r :=
  acalls_of_goes X.env X.good fn_ref04_Right (c := bodyOf Tryd.prog 104) (by kernel_rfl) (by kernel_rfl) (m := 38) (by kernel_rfl) h
theorem c_ref04_Right (X : Ctx E) (a : T_Message) : ACalls Tryd.prog E n_ref04_Right [a.av] [] (AV.bool (msgRight a)) :=
  ref04_Right_calls X a fun C hB => ref04_Right_wp0 X hB a (by
    refine ⟨fun h1 => ⟨fun h2 => ⟨fun h3 => ⟨fun h4 => ⟨fun h5 => ⟨fun h6 => ⟨rfl, ?_⟩, fun h6 => ⟨rfl, ?_⟩⟩, fun h5 => ⟨rfl, ?_⟩⟩, fun h4 => ⟨rfl, ?_⟩⟩, fun h3 => ⟨rfl, ?_⟩⟩, fun h2 => ⟨rfl, ?_⟩⟩, fun h1 => ⟨rfl, ?_⟩⟩ <;>
      (congr 1; simp only [msgRight, Msg.id]; simp_all; try (intros; omega)))

/-! ### omnibus/omnibusref04.Less -/
theorem fn_ref04_Less : Tryd.prog.funcs[112]? = some Tryd.f112 := by kernel_rfl
def ref04_Less_at0 (C : C0) (a0 : T_Message) (a1 : T_Message) (rows : List Ob) (r : AV) : Prop := Goes Tryd.prog C 112 [.code (bodyOf Tryd.prog 112)] ([(AV.agg [(AV.bool a0.Id_Ext), (AV.int .i64 a0.Id_N), (AV.int .i64 a0.Sender), (AV.int .i64 a0.Inc), (AV.int .i64 a0.Seq), (AV.int .i64 a0.Number), (AV.str a0.Data)]), (AV.agg [(AV.bool a1.Id_Ext), (AV.int .i64 a1.Id_N), (AV.int .i64 a1.Sender), (AV.int .i64 a1.Inc), (AV.int .i64 a1.Seq), (AV.int .i64 a1.Number), (AV.str a1.Data)])] ++ junks 28) [] rows r
theorem ref04_Less_wp0 (X : Ctx E) (hB : Base Tryd.prog E C) (a0 : T_Message) (a1 : T_Message) {rows : List Ob} {r : AV} (h : (((T_Ident.mk a0.Id_Ext a0.Id_N) = (T_Ident.mk a1.Id_Ext a1.Id_N) → ((a0.Sender = a1.Sender → (rows = [] ∧ r = (AV.bool (decide (a0.Number < a1.Number))))) ∧ (¬ (a0.Sender = a1.Sender) → (rows = [] ∧ r = (AV.bool (decide (a0.Sender < a1.Sender))))))) ∧ (¬ ((T_Ident.mk a0.Id_Ext a0.Id_N) = (T_Ident.mk a1.Id_Ext a1.Id_N)) → (rows = [] ∧ r = (AV.bool (idLess (T_Ident.mk a0.Id_Ext a0.Id_N) (T_Ident.mk a1.Id_Ext a1.Id_N))))))) : ref04_Less_at0 C a0 a1 rows r := by
  unfold ref04_Less_at0
  rcases Classical.em ((T_Ident.mk a0.Id_Ext a0.Id_N) = (T_Ident.mk a1.Id_Ext a1.Id_N)) with hc1 | hc1
  · have h := h.1 hc1
    rcases Classical.em (a0.Sender = a1.Sender) with hc2 | hc2
    · have h := h.1 hc2
      obtain ⟨h1, h2⟩ := h
      refine goes_eqR (h1.trans rfl) (h2.trans rfl) ((goes_ret (rows := []) (r := (AV.bool (decide (a0.Number < a1.Number)))) hB fn_ref04_Less (rv := [.tmp 4]) (by kernel_rfl) (n := 14) (scr := [(24, .b false), (40, .b false)]) (keep := []) (by kernel_rfl) (allc (congrArg not (ieqT hc2)) (allc (congrArg not (T_Ident.beqT hc1)) alln))))
    · have h := h.2 hc2
      obtain ⟨h1, h2⟩ := h
      refine goes_eqR (h1.trans rfl) (h2.trans rfl) ((goes_ret (rows := []) (r := (AV.bool (decide (a0.Sender < a1.Sender)))) hB fn_ref04_Less (rv := [.tmp 4]) (by kernel_rfl) (n := 13) (scr := [(24, .b false), (40, .b true)]) (keep := []) (by kernel_rfl) (allc (congrArg not (ieqF hc2)) (allc (congrArg not (T_Ident.beqT hc1)) alln))))
  · have h := h.2 hc1
    obtain ⟨h1, h2⟩ := h
    refine goes_eqR (h1.trans rfl) (h2.trans rfl) ((goes_ret (rows := []) (r := (AV.bool (idLess (T_Ident.mk a0.Id_Ext a0.Id_N) (T_Ident.mk a1.Id_Ext a1.Id_N)))) hB fn_ref04_Less (rv := [.tmp 4]) (by kernel_rfl) (n := 8) (scr := [(24, .b true), (38, .cf [] (AV.bool (idLess (T_Ident.mk a0.Id_Ext a0.Id_N) (T_Ident.mk a1.Id_Ext a1.Id_N))))]) (keep := []) (by kernel_rfl) (allc (c_ref02_Less X (T_Ident.mk a0.Id_Ext a0.Id_N) (T_Ident.mk a1.Id_Ext a1.Id_N)) (allc (show rowsFlat [] from trivial) (allc (congrArg not (T_Ident.beqF hc1)) alln)))))
theorem ref04_Less_calls (X : Ctx E) (a0 : T_Message) (a1 : T_Message) {rows : List Ob} {r : AV} (h : ∀ C, Base Tryd.prog E C → ref04_Less_at0 C a0 a1 rows r) : ACalls Tryd.prog E 112 [(AV.agg [(AV.bool a0.Id_Ext), (AV.int .i64 a0.Id_N), (AV.int .i64 a0.Sender), (AV.int .i64 a0.Inc), (AV.int .i64 a0.Seq), (AV.int .i64 a0.Number), (AV.str a0.Data)]), (AV.agg [(AV.bool a1.Id_Ext), (AV.int .i64 a1.Id_N), (AV.int .i64 a1.Sender), (AV.int .i64 a1.Inc), (AV.int .i64 a1.Seq), (AV.int .i64 a1.Number), (AV.str a1.Data)])] rows r :=
  acalls_of_goes X.env X.good fn_ref04_Less (c := bodyOf Tryd.prog 112) (by kernel_rfl) (by kernel_rfl) (m := 28) (by kernel_rfl) h
theorem c_ref04_Less (X : Ctx E) (a b : T_Message) : ACalls Tryd.prog E n_ref04_Less [a.av, b.av] [] (AV.bool (less4 a b)) :=
  ref04_Less_calls X a b fun C hB => ref04_Less_wp0 X hB a b ⟨fun h => ⟨fun h2 => ⟨rfl, by have := T_Ident.beqT h; simp [less4, Msg.id, this, h2]⟩, fun h2 => ⟨rfl, by have := T_Ident.beqT h; simp [less4, Msg.id, this, h2]⟩⟩,
    fun h => ⟨rfl, by have := T_Ident.beqF h; simp [less4, Msg.id, this]⟩⟩

/-! ### omnibus/omnibusref04.Sort -/
theorem fn_ref04_Sort : Tryd.prog.funcs[82]? = some Tryd.f82 := by kernel_rfl
def ref04_Sort_at0 (C : C0) (a0 : (List T_Message)) (rows : List Ob) (r : AV) : Prop := Goes Tryd.prog C 82 [.code (bodyOf Tryd.prog 82)] ([(AV.sl .p (a0.map T_Message.av))] ++ junks 51) [] rows r
def ref04_Sort_at1 (C : C0) (v0 : (List T_Message)) (v1 : Int) (v2 : (List T_Message)) (rows : List Ob) (r : AV) : Prop := Goes Tryd.prog C 82 (ctl 9 [.code (bodyOf Tryd.prog 82)] []) (([(AV.sl .p (v0.map T_Message.av)), AV.junk, AV.junk, (AV.own 0), (AV.int .i64 v1)] ++ junks 47)) [(Ob.row 35 7 (v2.map T_Message.av))] rows r
def ref04_Sort_at2 (C : C0) (v0 : (List T_Message)) (v1 : Int) (v2 : Int) (v3 : (List T_Message)) (rows : List Ob) (r : AV) : Prop := Goes Tryd.prog C 82 (ctl 26 [.code (bodyOf Tryd.prog 82)] [true, false]) (([(AV.sl .p (v0.map T_Message.av)), AV.junk, AV.junk, (AV.own 0), (AV.int .i64 v1), (AV.int .i64 v2)] ++ junks 46)) [(Ob.row 35 7 (v3.map T_Message.av))] rows r
theorem ref04_Sort_wp0 (X : Ctx E) (hB : Base Tryd.prog E C) (a0 : (List T_Message)) {rows : List Ob} {r : AV} (h : (ref04_Sort_at1 C a0 0 [] rows r)) : ref04_Sort_at0 C a0 rows r := by
  unfold ref04_Sort_at0
  refine goes_cut hB (n := 9) (scr := []) (live := [0, 3, 4]) (keep := []) (todo' := (ctl 9 [.code (bodyOf Tryd.prog 82)] [])) (ts' := ([(AV.sl .p (a0.map T_Message.av)), AV.junk, AV.junk, (AV.sl .n []), (AV.int .i64 0)] ++ junks 47)) (h' := []) (by kernel_rfl) alln (goes_eqS rfl rfl (goes_adopt (l := [(35, 7, none, 3)]) (ts' := ([(AV.sl .p (a0.map T_Message.av)), AV.junk, AV.junk, (AV.own 0), (AV.int .i64 0)] ++ junks 47)) (h' := [(Ob.row 35 7 [])]) (by kernel_rfl) h))
theorem ref04_Sort_wp1 (X : Ctx E) (hB : Base Tryd.prog E C) (v0 : (List T_Message)) (v1 : Int) (v2 : (List T_Message)) {rows : List Ob} {r : AV} (h : ((v1 < (v0.length : Int) → ∃ y2 : T_Message, 0 ≤ (v1 : Int) ∧ v0[v1.toNat]? = some y2 ∧ (((idRight (T_Ident.mk y2.Id_Ext y2.Id_N)) = true → (ref04_Sort_at2 C v0 v1 (v2.length : Int) v2 rows r)) ∧ (¬ ((idRight (T_Ident.mk y2.Id_Ext y2.Id_N)) = true) → ((-9223372036854775808) ≤ (v1 + 1) ∧ (v1 + 1) ≤ 9223372036854775807) ∧ (ref04_Sort_at1 C v0 (v1 + 1) v2 rows r)))) ∧ (¬ (v1 < (v0.length : Int)) → (rows = [(Ob.row 35 7 (v2.map T_Message.av))] ∧ r = (AV.own 0))))) : ref04_Sort_at1 C v0 v1 v2 rows r := by
  unfold ref04_Sort_at1
  rcases Classical.em (v1 < (v0.length : Int)) with hc1 | hc1
  · have h := h.1 hc1
    obtain ⟨y2, hg3, he4, h⟩ := h
    rcases Classical.em ((idRight (T_Ident.mk y2.Id_Ext y2.Id_N)) = true) with hc5 | hc5
    · have h := h.1 hc5
      refine goes_cut hB (n := 17) (scr := [(8, .v (AV.int .i64 (v0.length : Int))), (12, .b true), (20, .e (AV.agg [(AV.bool y2.Id_Ext), (AV.int .i64 y2.Id_N), (AV.int .i64 y2.Sender), (AV.int .i64 y2.Inc), (AV.int .i64 y2.Seq), (AV.int .i64 y2.Number), (AV.str y2.Data)])), (29, .cf [] (AV.bool (idRight (T_Ident.mk y2.Id_Ext y2.Id_N)))), (34, .b false), (40, .v (AV.int .i64 (v2.length : Int)))]) (live := [0, 3, 4, 5]) (keep := [0]) (todo' := (ctl 26 [.code (bodyOf Tryd.prog 82)] [true, false])) (ts' := ([(AV.sl .p (v0.map T_Message.av)), AV.junk, AV.junk, (AV.own 0), (AV.int .i64 v1), (AV.int .i64 (v2.length : Int))] ++ junks 46)) (h' := [(Ob.row 35 7 (v2.map T_Message.av))]) (by kernel_rfl) (allc (len_raw (show (v2.map T_Message.av) = (v2.map T_Message.av) from rfl)) (allc (congrArg not hc5) (allc (c_ref02_Right X (T_Ident.mk y2.Id_Ext y2.Id_N)) (allc (show rowsFlat [] from trivial) (allc (And.intro hg3 (get_raw (show (v0.map T_Message.av) = (v0.map T_Message.av) from rfl) he4)) (allc (decide_eq_true hc1) (allc (len_raw (show (v0.map T_Message.av) = (v0.map T_Message.av) from rfl)) alln))))))) (goes_eqS rfl rfl h)
    · have h := h.2 hc5
      obtain ⟨hg6, h⟩ := h
      refine goes_cut hB (n := 14) (scr := [(8, .v (AV.int .i64 (v0.length : Int))), (12, .b true), (20, .e (AV.agg [(AV.bool y2.Id_Ext), (AV.int .i64 y2.Id_N), (AV.int .i64 y2.Sender), (AV.int .i64 y2.Inc), (AV.int .i64 y2.Seq), (AV.int .i64 y2.Number), (AV.str y2.Data)])), (29, .cf [] (AV.bool (idRight (T_Ident.mk y2.Id_Ext y2.Id_N)))), (34, .b true), (40, .v (AV.int .i64 (v1 + 1)))]) (live := [0, 3, 4]) (keep := [0]) (todo' := (ctl 9 [.code (bodyOf Tryd.prog 82)] [])) (ts' := ([(AV.sl .p (v0.map T_Message.av)), AV.junk, AV.junk, (AV.own 0), (AV.int .i64 (v1 + 1))] ++ junks 47)) (h' := [(Ob.row 35 7 (v2.map T_Message.av))]) (by kernel_rfl) (allc (wrap_i64 hg6) (allc (congrArg not (bF hc5)) (allc (c_ref02_Right X (T_Ident.mk y2.Id_Ext y2.Id_N)) (allc (show rowsFlat [] from trivial) (allc (And.intro hg3 (get_raw (show (v0.map T_Message.av) = (v0.map T_Message.av) from rfl) he4)) (allc (decide_eq_true hc1) (allc (len_raw (show (v0.map T_Message.av) = (v0.map T_Message.av) from rfl)) alln))))))) (goes_eqS rfl rfl h)
  · have h := h.2 hc1
    obtain ⟨h1, h2⟩ := h
    refine goes_eqR (h1.trans rfl) (h2.trans rfl) ((goes_ret (rows := [(Ob.row 35 7 (v2.map T_Message.av))]) (r := (AV.own 0)) hB fn_ref04_Sort (rv := [.tmp 2]) (by kernel_rfl) (n := 7) (scr := [(8, .v (AV.int .i64 (v0.length : Int))), (12, .b false)]) (keep := [0]) (by kernel_rfl) (allc (decide_eq_false hc1) (allc (len_raw (show (v0.map T_Message.av) = (v0.map T_Message.av) from rfl)) alln))))
theorem ref04_Sort_wp2 (X : Ctx E) (hB : Base Tryd.prog E C) (v0 : (List T_Message)) (v1 : Int) (v2 : Int) (v3 : (List T_Message)) {rows : List Ob} {r : AV} (h : ((v2 > 0 → ∃ y8 : T_Message, 0 ≤ (v1 : Int) ∧ v0[v1.toNat]? = some y8 ∧ ((-9223372036854775808) ≤ (v2 - 1) ∧ (v2 - 1) ≤ 9223372036854775807) ∧ ((0 : Int) ≤ (v2 - 1) ∧ ((v2 - 1) : Int) < (v3.length : Int)) ∧ ∃ y13 : T_Message, 0 ≤ ((v2 - 1) : Int) ∧ v3[(v2 - 1).toNat]? = some y13 ∧ (((less4 y8 y13) = true → (ref04_Sort_at2 C v0 v1 (v2 - 1) v3 rows r)) ∧ (¬ ((less4 y8 y13) = true) → ((0 : Int) ≤ 0 ∧ (0 : Int) ≤ v2 ∧ (v2 : Int) ≤ (v3.length : Int)) ∧ ((((v3.take (v2 : Int).toNat).drop (0 : Int).toNat)).length * 64 ≤ 140737488355328 ∧ (((v3.take (v2 : Int).toNat).drop (0 : Int).toNat)).length ≤ 140737488355328) ∧ (((((v3.take (v2 : Int).toNat).drop (0 : Int).toNat)).length + ([y8]).length) * 64 ≤ 140737488355328 ∧ (((v3.take (v2 : Int).toNat).drop (0 : Int).toNat)).length + ([y8]).length ≤ 140737488355328) ∧ ((0 : Int) ≤ v2 ∧ (v2 : Int) ≤ (v3.length : Int) ∧ ((v3.length : Int) : Int) ≤ (v3.length : Int)) ∧ ((((((v3.take (v2 : Int).toNat).drop (0 : Int).toNat) ++ ([y8]))).length + (((v3.take ((v3.length : Int) : Int).toNat).drop (v2 : Int).toNat)).length) * 64 ≤ 140737488355328 ∧ ((((v3.take (v2 : Int).toNat).drop (0 : Int).toNat) ++ ([y8]))).length + (((v3.take ((v3.length : Int) : Int).toNat).drop (v2 : Int).toNat)).length ≤ 140737488355328) ∧ ((-9223372036854775808) ≤ (v1 + 1) ∧ (v1 + 1) ≤ 9223372036854775807) ∧ (ref04_Sort_at1 C v0 (v1 + 1) ((((v3.take (v2 : Int).toNat).drop (0 : Int).toNat) ++ ([y8])) ++ ((v3.take ((v3.length : Int) : Int).toNat).drop (v2 : Int).toNat)) rows r)))) ∧ (¬ (v2 > 0) → ((0 : Int) ≤ 0 ∧ (0 : Int) ≤ v2 ∧ (v2 : Int) ≤ (v3.length : Int)) ∧ ((((v3.take (v2 : Int).toNat).drop (0 : Int).toNat)).length * 64 ≤ 140737488355328 ∧ (((v3.take (v2 : Int).toNat).drop (0 : Int).toNat)).length ≤ 140737488355328) ∧ ∃ y25 : T_Message, 0 ≤ (v1 : Int) ∧ v0[v1.toNat]? = some y25 ∧ (((((v3.take (v2 : Int).toNat).drop (0 : Int).toNat)).length + ([y25]).length) * 64 ≤ 140737488355328 ∧ (((v3.take (v2 : Int).toNat).drop (0 : Int).toNat)).length + ([y25]).length ≤ 140737488355328) ∧ ((0 : Int) ≤ v2 ∧ (v2 : Int) ≤ (v3.length : Int) ∧ ((v3.length : Int) : Int) ≤ (v3.length : Int)) ∧ ((((((v3.take (v2 : Int).toNat).drop (0 : Int).toNat) ++ ([y25]))).length + (((v3.take ((v3.length : Int) : Int).toNat).drop (v2 : Int).toNat)).length) * 64 ≤ 140737488355328 ∧ ((((v3.take (v2 : Int).toNat).drop (0 : Int).toNat) ++ ([y25]))).length + (((v3.take ((v3.length : Int) : Int).toNat).drop (v2 : Int).toNat)).length ≤ 140737488355328) ∧ ((-9223372036854775808) ≤ (v1 + 1) ∧ (v1 + 1) ≤ 9223372036854775807) ∧ (ref04_Sort_at1 C v0 (v1 + 1) ((((v3.take (v2 : Int).toNat).drop (0 : Int).toNat) ++ ([y25])) ++ ((v3.take ((v3.length : Int) : Int).toNat).drop (v2 : Int).toNat)) rows r)))) : ref04_Sort_at2 C v0 v1 v2 v3 rows r := by
  unfold ref04_Sort_at2
  rcases Classical.em (v2 > 0) with hc7 | hc7
  · have h := h.1 hc7
    obtain ⟨y8, hg9, he10, h⟩ := h
    obtain ⟨hg11, h⟩ := h
    obtain ⟨hg12, h⟩ := h
    obtain ⟨y13, hg14, he15, h⟩ := h
    rcases Classical.em ((less4 y8 y13) = true) with hc16 | hc16
    · have h := h.1 hc16
      refine goes_cut hB (n := 9) (scr := [(9, .b true), (12, .b true), (15, .b true), (16, .e (AV.agg [(AV.bool y8.Id_Ext), (AV.int .i64 y8.Id_N), (AV.int .i64 y8.Sender), (AV.int .i64 y8.Inc), (AV.int .i64 y8.Seq), (AV.int .i64 y8.Number), (AV.str y8.Data)])), (18, .b true), (21, .b true), (24, .b true), (27, .b true), (29, .v (AV.int .i64 (v2 - 1))), (30, .b true), (33, .b true), (34, .e (AV.agg [(AV.bool y13.Id_Ext), (AV.int .i64 y13.Id_N), (AV.int .i64 y13.Sender), (AV.int .i64 y13.Inc), (AV.int .i64 y13.Seq), (AV.int .i64 y13.Number), (AV.str y13.Data)])), (36, .b true), (37, .cf [] (AV.bool (less4 y8 y13))), (40, .b true), (42, .b true), (48, .v (AV.int .i64 (v2 - 1)))]) (live := [0, 3, 4, 5]) (keep := [0]) (todo' := (ctl 26 [.code (bodyOf Tryd.prog 82)] [true, false])) (ts' := ([(AV.sl .p (v0.map T_Message.av)), AV.junk, AV.junk, (AV.own 0), (AV.int .i64 v1), (AV.int .i64 (v2 - 1))] ++ junks 46)) (h' := [(Ob.row 35 7 (v3.map T_Message.av))]) (by kernel_rfl) (allc (wrap_i64 hg11) (allc hc16 (allc (decide_eq_true hc7) (allc (c_ref04_Less X y8 y13) (allc (show rowsFlat [] from trivial) (allc (decide_eq_true hc7) (allc (get_raw (show (v3.map T_Message.av) = (v3.map T_Message.av) from rfl) he15) (allc (decide_eq_true hc7) (allc (lt_raw (show (v3.map T_Message.av) = (v3.map T_Message.av) from rfl) hg12) (allc (decide_eq_true hc7) (allc (wrap_i64 hg11) (allc (decide_eq_true hc7) (allc (decide_eq_true hc7) (allc (decide_eq_true hc7) (allc (decide_eq_true hc7) (allc (And.intro hg9 (get_raw (show (v0.map T_Message.av) = (v0.map T_Message.av) from rfl) he10)) (allc (decide_eq_true hc7) (allc (decide_eq_true hc7) (allc (decide_eq_true hc7) alln))))))))))))))))))) (goes_eqS rfl rfl h)
    · have h := h.2 hc16
      refine goes_cut hB (n := 5) (scr := [(9, .b true), (12, .b true), (15, .b true), (16, .e (AV.agg [(AV.bool y8.Id_Ext), (AV.int .i64 y8.Id_N), (AV.int .i64 y8.Sender), (AV.int .i64 y8.Inc), (AV.int .i64 y8.Seq), (AV.int .i64 y8.Number), (AV.str y8.Data)])), (18, .b true), (21, .b true), (24, .b true), (27, .b true), (29, .v (AV.int .i64 (v2 - 1))), (30, .b true), (33, .b true), (34, .e (AV.agg [(AV.bool y13.Id_Ext), (AV.int .i64 y13.Id_N), (AV.int .i64 y13.Sender), (AV.int .i64 y13.Inc), (AV.int .i64 y13.Seq), (AV.int .i64 y13.Number), (AV.str y13.Data)])), (36, .b true), (37, .cf [] (AV.bool (less4 y8 y13))), (40, .b true), (42, .b false)]) (live := [0, 3, 4, 5]) (keep := [0]) (todo' := (ctl 31 [.code (bodyOf Tryd.prog 82)] [true, false, false])) (ts' := ([(AV.sl .p (v0.map T_Message.av)), AV.junk, AV.junk, (AV.own 0), (AV.int .i64 v1), (AV.int .i64 v2)] ++ junks 46)) (h' := [(Ob.row 35 7 (v3.map T_Message.av))]) (by kernel_rfl) (allc (bF hc16) (allc (decide_eq_true hc7) (allc (c_ref04_Less X y8 y13) (allc (show rowsFlat [] from trivial) (allc (decide_eq_true hc7) (allc (get_raw (show (v3.map T_Message.av) = (v3.map T_Message.av) from rfl) he15) (allc (decide_eq_true hc7) (allc (lt_raw (show (v3.map T_Message.av) = (v3.map T_Message.av) from rfl) hg12) (allc (decide_eq_true hc7) (allc (wrap_i64 hg11) (allc (decide_eq_true hc7) (allc (decide_eq_true hc7) (allc (decide_eq_true hc7) (allc (decide_eq_true hc7) (allc (And.intro hg9 (get_raw (show (v0.map T_Message.av) = (v0.map T_Message.av) from rfl) he10)) (allc (decide_eq_true hc7) (allc (decide_eq_true hc7) (allc (decide_eq_true hc7) alln)))))))))))))))))) (goes_eqS rfl rfl (goes_freeze (l := [0]) (ts := ([(AV.sl .p (v0.map T_Message.av)), AV.junk, AV.junk, (AV.own 0), (AV.int .i64 v1), (AV.int .i64 v2)] ++ junks 46)) (h' := [(Ob.fro (v3.map T_Message.av))]) (by kernel_rfl) ?_))
      obtain ⟨hg17, h⟩ := h
      obtain ⟨hg18, h⟩ := h
      obtain ⟨hg19, h⟩ := h
      obtain ⟨hg20, h⟩ := h
      obtain ⟨hg21, h⟩ := h
      obtain ⟨hg22, h⟩ := h
      refine goes_cut hB (n := 4) (scr := [(19, .e (AV.agg [(AV.bool y8.Id_Ext), (AV.int .i64 y8.Id_N), (AV.int .i64 y8.Sender), (AV.int .i64 y8.Inc), (AV.int .i64 y8.Seq), (AV.int .i64 y8.Number), (AV.str y8.Data)])), (50, .v (AV.int .i64 (v1 + 1)))]) (live := [0, 3, 4]) (keep := [4]) (todo' := (ctl 9 [.code (bodyOf Tryd.prog 82)] [])) (ts' := ([(AV.sl .p (v0.map T_Message.av)), AV.junk, AV.junk, (AV.own 0), (AV.int .i64 (v1 + 1))] ++ junks 47)) (h' := [(Ob.row 35 7 (((((v3.map T_Message.av).take (v2 : Int).toNat).drop (0 : Int).toNat) ++ ([(AV.agg [(AV.bool y8.Id_Ext), (AV.int .i64 y8.Id_N), (AV.int .i64 y8.Sender), (AV.int .i64 y8.Inc), (AV.int .i64 y8.Seq), (AV.int .i64 y8.Number), (AV.str y8.Data)])])) ++ (((v3.map T_Message.av).take (((v3.map T_Message.av).length : Int) : Int).toNat).drop (v2 : Int).toNat)))]) (by kernel_rfl) (allc (wrap_i64 hg22) (allc (cells_raw (show (((v3.map T_Message.av).take (((v3.map T_Message.av).length : Int) : Int).toNat).drop (v2 : Int).toNat) = (((v3.take ((v3.length : Int) : Int).toNat).drop (v2 : Int).toNat).map T_Message.av) from by first | rfl | (simp only [List.map_append, List.map_cons, List.map_nil, List.map_set, List.map_take, List.map_drop, List.append_nil, List.nil_append, List.map_replicate, List.length_replicate, List.length_map]; try rfl)) cells_T_Message) (allc (le_raw3 (show ((((v3.map T_Message.av).take (v2 : Int).toNat).drop (0 : Int).toNat) ++ ([(AV.agg [(AV.bool y8.Id_Ext), (AV.int .i64 y8.Id_N), (AV.int .i64 y8.Sender), (AV.int .i64 y8.Inc), (AV.int .i64 y8.Seq), (AV.int .i64 y8.Number), (AV.str y8.Data)])])) = ((((v3.take (v2 : Int).toNat).drop (0 : Int).toNat) ++ ([y8])).map T_Message.av) from by first | rfl | (simp only [List.map_append, List.map_cons, List.map_nil, List.map_set, List.map_take, List.map_drop, List.append_nil, List.nil_append, List.map_replicate, List.length_replicate, List.length_map]; try rfl)) (show (((v3.map T_Message.av).take (((v3.map T_Message.av).length : Int) : Int).toNat).drop (v2 : Int).toNat) = (((v3.take ((v3.length : Int) : Int).toNat).drop (v2 : Int).toNat).map T_Message.av) from by first | rfl | (simp only [List.map_append, List.map_cons, List.map_nil, List.map_set, List.map_take, List.map_drop, List.append_nil, List.nil_append, List.map_replicate, List.length_replicate, List.length_map]; try rfl)) hg21.1) (allc (le_raw4 (show ((((v3.map T_Message.av).take (v2 : Int).toNat).drop (0 : Int).toNat) ++ ([(AV.agg [(AV.bool y8.Id_Ext), (AV.int .i64 y8.Id_N), (AV.int .i64 y8.Sender), (AV.int .i64 y8.Inc), (AV.int .i64 y8.Seq), (AV.int .i64 y8.Number), (AV.str y8.Data)])])) = ((((v3.take (v2 : Int).toNat).drop (0 : Int).toNat) ++ ([y8])).map T_Message.av) from by first | rfl | (simp only [List.map_append, List.map_cons, List.map_nil, List.map_set, List.map_take, List.map_drop, List.append_nil, List.nil_append, List.map_replicate, List.length_replicate, List.length_map]; try rfl)) (show (((v3.map T_Message.av).take (((v3.map T_Message.av).length : Int) : Int).toNat).drop (v2 : Int).toNat) = (((v3.take ((v3.length : Int) : Int).toNat).drop (v2 : Int).toNat).map T_Message.av) from by first | rfl | (simp only [List.map_append, List.map_cons, List.map_nil, List.map_set, List.map_take, List.map_drop, List.append_nil, List.nil_append, List.map_replicate, List.length_replicate, List.length_map]; try rfl)) hg21.2) (allc (slice_rawN (show (v3.map T_Message.av) = (v3.map T_Message.av) from rfl) hg20) (allc (cells_raw (show (v3.map T_Message.av) = (v3.map T_Message.av) from rfl) cells_T_Message) (allc (cells_raw (show [(AV.agg [(AV.bool y8.Id_Ext), (AV.int .i64 y8.Id_N), (AV.int .i64 y8.Sender), (AV.int .i64 y8.Inc), (AV.int .i64 y8.Seq), (AV.int .i64 y8.Number), (AV.str y8.Data)])] = (([y8]).map T_Message.av) from by first | rfl | (simp only [List.map_append, List.map_cons, List.map_nil, List.map_set, List.map_take, List.map_drop, List.append_nil, List.nil_append, List.map_replicate, List.length_replicate, List.length_map]; try rfl)) cells_T_Message) (allc (le_raw3 (show (((v3.map T_Message.av).take (v2 : Int).toNat).drop (0 : Int).toNat) = (((v3.take (v2 : Int).toNat).drop (0 : Int).toNat).map T_Message.av) from by first | rfl | (simp only [List.map_append, List.map_cons, List.map_nil, List.map_set, List.map_take, List.map_drop, List.append_nil, List.nil_append, List.map_replicate, List.length_replicate, List.length_map]; try rfl)) (show [(AV.agg [(AV.bool y8.Id_Ext), (AV.int .i64 y8.Id_N), (AV.int .i64 y8.Sender), (AV.int .i64 y8.Inc), (AV.int .i64 y8.Seq), (AV.int .i64 y8.Number), (AV.str y8.Data)])] = (([y8]).map T_Message.av) from by first | rfl | (simp only [List.map_append, List.map_cons, List.map_nil, List.map_set, List.map_take, List.map_drop, List.append_nil, List.nil_append, List.map_replicate, List.length_replicate, List.length_map]; try rfl)) hg19.1) (allc (le_raw4 (show (((v3.map T_Message.av).take (v2 : Int).toNat).drop (0 : Int).toNat) = (((v3.take (v2 : Int).toNat).drop (0 : Int).toNat).map T_Message.av) from by first | rfl | (simp only [List.map_append, List.map_cons, List.map_nil, List.map_set, List.map_take, List.map_drop, List.append_nil, List.nil_append, List.map_replicate, List.length_replicate, List.length_map]; try rfl)) (show [(AV.agg [(AV.bool y8.Id_Ext), (AV.int .i64 y8.Id_N), (AV.int .i64 y8.Sender), (AV.int .i64 y8.Inc), (AV.int .i64 y8.Seq), (AV.int .i64 y8.Number), (AV.str y8.Data)])] = (([y8]).map T_Message.av) from by first | rfl | (simp only [List.map_append, List.map_cons, List.map_nil, List.map_set, List.map_take, List.map_drop, List.append_nil, List.nil_append, List.map_replicate, List.length_replicate, List.length_map]; try rfl)) hg19.2) (allc (And.intro hg9 (get_raw (show (v0.map T_Message.av) = (v0.map T_Message.av) from rfl) he10)) (allc (cells_raw (show (((v3.map T_Message.av).take (v2 : Int).toNat).drop (0 : Int).toNat) = (((v3.take (v2 : Int).toNat).drop (0 : Int).toNat).map T_Message.av) from by first | rfl | (simp only [List.map_append, List.map_cons, List.map_nil, List.map_set, List.map_take, List.map_drop, List.append_nil, List.nil_append, List.map_replicate, List.length_replicate, List.length_map]; try rfl)) cells_T_Message) (allc (le_raw1 (show (((v3.map T_Message.av).take (v2 : Int).toNat).drop (0 : Int).toNat) = (((v3.take (v2 : Int).toNat).drop (0 : Int).toNat).map T_Message.av) from by first | rfl | (simp only [List.map_append, List.map_cons, List.map_nil, List.map_set, List.map_take, List.map_drop, List.append_nil, List.nil_append, List.map_replicate, List.length_replicate, List.length_map]; try rfl)) hg18.1) (allc (le_raw2 (show (((v3.map T_Message.av).take (v2 : Int).toNat).drop (0 : Int).toNat) = (((v3.take (v2 : Int).toNat).drop (0 : Int).toNat).map T_Message.av) from by first | rfl | (simp only [List.map_append, List.map_cons, List.map_nil, List.map_set, List.map_take, List.map_drop, List.append_nil, List.nil_append, List.map_replicate, List.length_replicate, List.length_map]; try rfl)) hg18.2) (allc (slice_raw (show (v3.map T_Message.av) = (v3.map T_Message.av) from rfl) hg17) (allc (cells_raw (show (v3.map T_Message.av) = (v3.map T_Message.av) from rfl) cells_T_Message) alln))))))))))))))) (goes_eqS rfl (by first | rfl | (simp only [List.map_append, List.map_cons, List.map_nil, List.map_set, List.map_take, List.map_drop, List.append_nil, List.nil_append, List.map_replicate, List.length_replicate, List.length_map]; try rfl)) h)
  · have h := h.2 hc7
    refine goes_cut hB (n := 5) (scr := [(9, .b false), (12, .b false), (15, .b false), (18, .b false), (21, .b false), (24, .b false), (27, .b false), (30, .b false), (33, .b false), (36, .b false), (40, .b false)]) (live := [0, 3, 4, 5]) (keep := [0]) (todo' := (ctl 31 [.code (bodyOf Tryd.prog 82)] [true, false, false])) (ts' := ([(AV.sl .p (v0.map T_Message.av)), AV.junk, AV.junk, (AV.own 0), (AV.int .i64 v1), (AV.int .i64 v2)] ++ junks 46)) (h' := [(Ob.row 35 7 (v3.map T_Message.av))]) (by kernel_rfl) (allc (decide_eq_false hc7) (allc (decide_eq_false hc7) (allc (decide_eq_false hc7) (allc (decide_eq_false hc7) (allc (decide_eq_false hc7) (allc (decide_eq_false hc7) (allc (decide_eq_false hc7) (allc (decide_eq_false hc7) (allc (decide_eq_false hc7) (allc (decide_eq_false hc7) (allc (decide_eq_false hc7) alln))))))))))) (goes_eqS rfl rfl (goes_freeze (l := [0]) (ts := ([(AV.sl .p (v0.map T_Message.av)), AV.junk, AV.junk, (AV.own 0), (AV.int .i64 v1), (AV.int .i64 v2)] ++ junks 46)) (h' := [(Ob.fro (v3.map T_Message.av))]) (by kernel_rfl) ?_))
    obtain ⟨hg23, h⟩ := h
    obtain ⟨hg24, h⟩ := h
    obtain ⟨y25, hg26, he27, h⟩ := h
    obtain ⟨hg28, h⟩ := h
    obtain ⟨hg29, h⟩ := h
    obtain ⟨hg30, h⟩ := h
    obtain ⟨hg31, h⟩ := h
    refine goes_cut hB (n := 4) (scr := [(19, .e (AV.agg [(AV.bool y25.Id_Ext), (AV.int .i64 y25.Id_N), (AV.int .i64 y25.Sender), (AV.int .i64 y25.Inc), (AV.int .i64 y25.Seq), (AV.int .i64 y25.Number), (AV.str y25.Data)])), (50, .v (AV.int .i64 (v1 + 1)))]) (live := [0, 3, 4]) (keep := [4]) (todo' := (ctl 9 [.code (bodyOf Tryd.prog 82)] [])) (ts' := ([(AV.sl .p (v0.map T_Message.av)), AV.junk, AV.junk, (AV.own 0), (AV.int .i64 (v1 + 1))] ++ junks 47)) (h' := [(Ob.row 35 7 (((((v3.map T_Message.av).take (v2 : Int).toNat).drop (0 : Int).toNat) ++ ([(AV.agg [(AV.bool y25.Id_Ext), (AV.int .i64 y25.Id_N), (AV.int .i64 y25.Sender), (AV.int .i64 y25.Inc), (AV.int .i64 y25.Seq), (AV.int .i64 y25.Number), (AV.str y25.Data)])])) ++ (((v3.map T_Message.av).take (((v3.map T_Message.av).length : Int) : Int).toNat).drop (v2 : Int).toNat)))]) (by kernel_rfl) (allc (wrap_i64 hg31) (allc (cells_raw (show (((v3.map T_Message.av).take (((v3.map T_Message.av).length : Int) : Int).toNat).drop (v2 : Int).toNat) = (((v3.take ((v3.length : Int) : Int).toNat).drop (v2 : Int).toNat).map T_Message.av) from by first | rfl | (simp only [List.map_append, List.map_cons, List.map_nil, List.map_set, List.map_take, List.map_drop, List.append_nil, List.nil_append, List.map_replicate, List.length_replicate, List.length_map]; try rfl)) cells_T_Message) (allc (le_raw3 (show ((((v3.map T_Message.av).take (v2 : Int).toNat).drop (0 : Int).toNat) ++ ([(AV.agg [(AV.bool y25.Id_Ext), (AV.int .i64 y25.Id_N), (AV.int .i64 y25.Sender), (AV.int .i64 y25.Inc), (AV.int .i64 y25.Seq), (AV.int .i64 y25.Number), (AV.str y25.Data)])])) = ((((v3.take (v2 : Int).toNat).drop (0 : Int).toNat) ++ ([y25])).map T_Message.av) from by first | rfl | (simp only [List.map_append, List.map_cons, List.map_nil, List.map_set, List.map_take, List.map_drop, List.append_nil, List.nil_append, List.map_replicate, List.length_replicate, List.length_map]; try rfl)) (show (((v3.map T_Message.av).take (((v3.map T_Message.av).length : Int) : Int).toNat).drop (v2 : Int).toNat) = (((v3.take ((v3.length : Int) : Int).toNat).drop (v2 : Int).toNat).map T_Message.av) from by first | rfl | (simp only [List.map_append, List.map_cons, List.map_nil, List.map_set, List.map_take, List.map_drop, List.append_nil, List.nil_append, List.map_replicate, List.length_replicate, List.length_map]; try rfl)) hg30.1) (allc (le_raw4 (show ((((v3.map T_Message.av).take (v2 : Int).toNat).drop (0 : Int).toNat) ++ ([(AV.agg [(AV.bool y25.Id_Ext), (AV.int .i64 y25.Id_N), (AV.int .i64 y25.Sender), (AV.int .i64 y25.Inc), (AV.int .i64 y25.Seq), (AV.int .i64 y25.Number), (AV.str y25.Data)])])) = ((((v3.take (v2 : Int).toNat).drop (0 : Int).toNat) ++ ([y25])).map T_Message.av) from by first | rfl | (simp only [List.map_append, List.map_cons, List.map_nil, List.map_set, List.map_take, List.map_drop, List.append_nil, List.nil_append, List.map_replicate, List.length_replicate, List.length_map]; try rfl)) (show (((v3.map T_Message.av).take (((v3.map T_Message.av).length : Int) : Int).toNat).drop (v2 : Int).toNat) = (((v3.take ((v3.length : Int) : Int).toNat).drop (v2 : Int).toNat).map T_Message.av) from by first | rfl | (simp only [List.map_append, List.map_cons, List.map_nil, List.map_set, List.map_take, List.map_drop, List.append_nil, List.nil_append, List.map_replicate, List.length_replicate, List.length_map]; try rfl)) hg30.2) (allc (slice_rawN (show (v3.map T_Message.av) = (v3.map T_Message.av) from rfl) hg29) (allc (cells_raw (show (v3.map T_Message.av) = (v3.map T_Message.av) from rfl) cells_T_Message) (allc (cells_raw (show [(AV.agg [(AV.bool y25.Id_Ext), (AV.int .i64 y25.Id_N), (AV.int .i64 y25.Sender), (AV.int .i64 y25.Inc), (AV.int .i64 y25.Seq), (AV.int .i64 y25.Number), (AV.str y25.Data)])] = (([y25]).map T_Message.av) from by first | rfl | (simp only [List.map_append, List.map_cons, List.map_nil, List.map_set, List.map_take, List.map_drop, List.append_nil, List.nil_append, List.map_replicate, List.length_replicate, List.length_map]; try rfl)) cells_T_Message) (allc (le_raw3 (show (((v3.map T_Message.av).take (v2 : Int).toNat).drop (0 : Int).toNat) = (((v3.take (v2 : Int).toNat).drop (0 : Int).toNat).map T_Message.av) from by first | rfl | (simp only [List.map_append, List.map_cons, List.map_nil, List.map_set, List.map_take, List.map_drop, List.append_nil, List.nil_append, List.map_replicate, List.length_replicate, List.length_map]; try rfl)) (show [(AV.agg [(AV.bool y25.Id_Ext), (AV.int .i64 y25.Id_N), (AV.int .i64 y25.Sender), (AV.int .i64 y25.Inc), (AV.int .i64 y25.Seq), (AV.int .i64 y25.Number), (AV.str y25.Data)])] = (([y25]).map T_Message.av) from by first | rfl | (simp only [List.map_append, List.map_cons, List.map_nil, List.map_set, List.map_take, List.map_drop, List.append_nil, List.nil_append, List.map_replicate, List.length_replicate, List.length_map]; try rfl)) hg28.1) (allc (le_raw4 (show (((v3.map T_Message.av).take (v2 : Int).toNat).drop (0 : Int).toNat) = (((v3.take (v2 : Int).toNat).drop (0 : Int).toNat).map T_Message.av) from by first | rfl | (simp only [List.map_append, List.map_cons, List.map_nil, List.map_set, List.map_take, List.map_drop, List.append_nil, List.nil_append, List.map_replicate, List.length_replicate, List.length_map]; try rfl)) (show [(AV.agg [(AV.bool y25.Id_Ext), (AV.int .i64 y25.Id_N), (AV.int .i64 y25.Sender), (AV.int .i64 y25.Inc), (AV.int .i64 y25.Seq), (AV.int .i64 y25.Number), (AV.str y25.Data)])] = (([y25]).map T_Message.av) from by first | rfl | (simp only [List.map_append, List.map_cons, List.map_nil, List.map_set, List.map_take, List.map_drop, List.append_nil, List.nil_append, List.map_replicate, List.length_replicate, List.length_map]; try rfl)) hg28.2) (allc (And.intro hg26 (get_raw (show (v0.map T_Message.av) = (v0.map T_Message.av) from rfl) he27)) (allc (cells_raw (show (((v3.map T_Message.av).take (v2 : Int).toNat).drop (0 : Int).toNat) = (((v3.take (v2 : Int).toNat).drop (0 : Int).toNat).map T_Message.av) from by first | rfl | (simp only [List.map_append, List.map_cons, List.map_nil, List.map_set, List.map_take, List.map_drop, List.append_nil, List.nil_append, List.map_replicate, List.length_replicate, List.length_map]; try rfl)) cells_T_Message) (allc (le_raw1 (show (((v3.map T_Message.av).take (v2 : Int).toNat).drop (0 : Int).toNat) = (((v3.take (v2 : Int).toNat).drop (0 : Int).toNat).map T_Message.av) from by first | rfl | (simp only [List.map_append, List.map_cons, List.map_nil, List.map_set, List.map_take, List.map_drop, List.append_nil, List.nil_append, List.map_replicate, List.length_replicate, List.length_map]; try rfl)) hg24.1) (allc (le_raw2 (show (((v3.map T_Message.av).take (v2 : Int).toNat).drop (0 : Int).toNat) = (((v3.take (v2 : Int).toNat).drop (0 : Int).toNat).map T_Message.av) from by first | rfl | (simp only [List.map_append, List.map_cons, List.map_nil, List.map_set, List.map_take, List.map_drop, List.append_nil, List.nil_append, List.map_replicate, List.length_replicate, List.length_map]; try rfl)) hg24.2) (allc (slice_raw (show (v3.map T_Message.av) = (v3.map T_Message.av) from rfl) hg23) (allc (cells_raw (show (v3.map T_Message.av) = (v3.map T_Message.av) from rfl) cells_T_Message) alln))))))))))))))) (goes_eqS rfl (by first | rfl | (simp only [List.map_append, List.map_cons, List.map_nil, List.map_set, List.map_take, List.map_drop, List.append_nil, List.nil_append, List.map_replicate, List.length_replicate, List.length_map]; try rfl)) h)
theorem ref04_Sort_calls (X : Ctx E) (a0 : (List T_Message)) {rows : List Ob} {r : AV} (h : ∀ C, Base Tryd.prog E C → ref04_Sort_at0 C a0 rows r) : ACalls Tryd.prog E 82 [(AV.sl .p (a0.map T_Message.av))] rows r :=
  acalls_of_goes X.env X.good fn_ref04_Sort (c := bodyOf Tryd.prog 82) (by kernel_rfl) (by kernel_rfl) (m := 51) (by kernel_rfl) h
theorem sort_inner (X : Ctx E) (hB : Base Tryd.prog E C) (l : List T_Message) (hl : l.length ≤ 100000) {rows : List Ob} {r : AV} (i : Nat) (hi : i < l.length) (out : List T_Message) (ho : out.length ≤ i)
    (hn : ref04_Sort_at1 C l ((i : Int) + 1) (ins4 out l[i]) rows r) : ∀ n, n ≤ out.length → pos4 l[i] out n = pos4 l[i] out out.length → ref04_Sort_at2 C l (i : Int) (n : Int) out rows r := by
  have fin : ∀ n, n ≤ out.length → n = pos4 l[i] out out.length → ((((out.take (n : Int).toNat).drop (0 : Int).toNat) ++ ([l[i]])) ++ ((out.take ((out.length : Int) : Int).toNat).drop (n : Int).toNat)) = ins4 out l[i] := by
    intro n h1 h2
    unfold ins4
    rw [← h2]
    simp
  intro n
  induction n with
  | zero =>
    intro h1 h2
    have h3 : 0 = pos4 l[i] out out.length := by rw [← h2]; rfl
    refine ref04_Sort_wp2 X hB _ _ _ _ ⟨fun h => by omega, fun _ => ⟨by omega, by simp, l[i], by omega, by simp [hi], by simp <;> omega, by omega, by simp <;> omega, by omega, ?_⟩⟩
    have := fin 0 h1 h3
    rw [this]; exact hn
  | succ n ih =>
    intro h1 h2
    have hg : out[n]? = some (out[n]'(by omega)) := List.getElem?_eq_getElem (by omega)
    refine ref04_Sort_wp2 X hB _ _ _ _ ⟨fun h => ⟨l[i], by omega, by simp [hi], by omega, by omega, out[n]'(by omega), by omega, by rw [show (((n + 1 : Nat) : Int) - 1).toNat = n by omega]; exact hg, fun hlt => ?_, fun hlt => ?_⟩, fun h => by omega⟩
    · rw [show ((n + 1 : Nat) : Int) - 1 = (n : Int) by omega]
      refine ih (by omega) ?_
      rw [← h2]
      simp only [pos4, hg, hlt, if_true]
    · have h3 : n + 1 = pos4 l[i] out out.length := by
        rw [← h2]
        simp only [pos4, hg]
        rw [if_neg hlt]
      refine ⟨by omega, by simp <;> omega, by simp <;> omega, by omega, by simp <;> omega, by omega, ?_⟩
      rw [fin (n + 1) h1 h3]; exact hn
theorem ins4_length (l : List T_Message) (m : T_Message) : (ins4 l m).length = l.length + 1 := ins4_perm.length_eq
theorem sortTake_length (l : List T_Message) : ∀ n, (sort4 (l.take n)).length ≤ n := by
  have key : ∀ (l out : List T_Message), (l.foldl sortStep out).length ≤ out.length + l.length := by
    intro l
    induction l with
    | nil => intro out; simp
    | cons m l ih =>
      intro out
      have := ih (sortStep out m)
      have h2 : (sortStep out m).length ≤ out.length + 1 := by unfold sortStep; split; rw [ins4_length]; exact Nat.le_refl _; omega
      simp only [List.foldl_cons, List.length_cons]
      omega
  intro n
  have := key (l.take n) []
  simp at this
  unfold sort4
  omega
theorem sort_loop (X : Ctx E) (hB : Base Tryd.prog E C) (l : List T_Message) (hl : l.length ≤ 100000) : ∀ (k i : Nat), l.length - i = k → i ≤ l.length →
    ref04_Sort_at1 C l (i : Int) (sort4 (l.take i)) [(Ob.row t_Message 7 ((sort4 l).map T_Message.av))] (AV.own 0) := by
  intro k
  induction k with
  | zero =>
    intro i h1 h2
    have hi : i = l.length := by omega
    refine ref04_Sort_wp1 X hB _ _ _ ⟨fun h => by omega, fun _ => ⟨by rw [hi, List.take_length], rfl⟩⟩
  | succ k ih =>
    intro i h1 h2
    have hi : i < l.length := by omega
    have hs : sort4 (l.take (i + 1)) = sortStep (sort4 (l.take i)) l[i] := by rw [← List.take_append_getElem hi, sort4_snoc]
    have hlen := sortTake_length l i
    have hn := ih (i + 1) (by omega) (by omega)
    rw [hs] at hn
    unfold sortStep at hn
    refine ref04_Sort_wp1 X hB _ _ _ ⟨fun h => ⟨l[i], by omega, by simp [hi], fun hr => ?_, fun hr => ⟨by omega, ?_⟩⟩, fun h => by omega⟩
    · have hr : idRight (Msg.id l[i]) = true := hr
      rw [if_pos hr] at hn
      exact sort_inner X hB l hl i hi _ hlen hn _ (Nat.le_refl _) rfl
    · have hr : ¬ idRight (Msg.id l[i]) = true := hr
      rw [if_neg hr] at hn
      exact hn
theorem c_ref04_Sort (X : Ctx E) (l : List T_Message) (hl : l.length ≤ 100000) : ACalls Tryd.prog E n_ref04_Sort [(AV.sl .p (l.map T_Message.av))] [(Ob.row t_Message 7 ((sort4 l).map T_Message.av))] (AV.own 0) :=
  ref04_Sort_calls X l fun C hB => ref04_Sort_wp0 X hB l (sort_loop X hB l hl l.length 0 (by omega) (by omega))
end Go.Abs
