/- Walks, printed by program. -/
import Derived.Test.YteocckoglkbonaaDoorW1
set_option linter.unusedVariables false
set_option linter.unusedSimpArgs false
set_option maxRecDepth 100000
namespace Go.Abs
open Go.Proofs
variable {E : Env} {C : C0}
/-! ### omnibus/txq.of$1 -/
theorem fn_txq_of_1 : Tryd.prog.funcs[96]? = some Tryd.f96 := by kernel_rfl
def txq_of_1_at0 (C : C0) (a0 : T_Message) (n : Int) (rows : List Ob) (r : AV) : Prop := Goes Tryd.prog C 96 [.code (bodyOf Tryd.prog 96)] ([(AV.agg [(AV.bool a0.Id_Ext), (AV.int .i64 a0.Id_N), (AV.int .i64 a0.Sender), (AV.int .i64 a0.Inc), (AV.int .i64 a0.Seq), (AV.int .i64 a0.Number), (AV.str a0.Data)]), (AV.pin [(AV.int .i64 n)] 0)] ++ junks 6) [] rows r
theorem txq_of_1_wp0 (X : Ctx E) (hB : Base Tryd.prog E C) (a0 : T_Message) (n : Int) {rows : List Ob} {r : AV} (h : (rows = [] ∧ r = (AV.bool (a0.Number == n)))) : txq_of_1_at0 C a0 n rows r := by
  unfold txq_of_1_at0
  obtain ⟨h1, h2⟩ := h
  refine goes_eqR (h1.trans rfl) (h2.trans rfl) ((goes_ret (rows := []) (r := (AV.bool (a0.Number == n))) hB fn_txq_of_1 (rv := [.tmp 3]) (by kernel_rfl) (n := 4) (scr := []) (keep := []) (by kernel_rfl) alln))
theorem txq_of_1_calls (X : Ctx E) (a0 : T_Message) (n : Int) {rows : List Ob} {r : AV} (h : ∀ C, Base Tryd.prog E C → txq_of_1_at0 C a0 n rows r) : ACalls Tryd.prog E 96 [(AV.agg [(AV.bool a0.Id_Ext), (AV.int .i64 a0.Id_N), (AV.int .i64 a0.Sender), (AV.int .i64 a0.Inc), (AV.int .i64 a0.Seq), (AV.int .i64 a0.Number), (AV.str a0.Data)]), (AV.pin [(AV.int .i64 n)] 0)] rows r :=
  acalls_of_goes X.env X.good fn_txq_of_1 (c := bodyOf Tryd.prog 96) (by kernel_rfl) (by kernel_rfl) (m := 6) (by kernel_rfl) h
theorem c_txq_of_1 (X : Ctx E) (a : T_Message) (n : Int) : ACalls Tryd.prog E n_txq_of_1 [a.av, (AV.pin [(AV.int .i64 n)] 0)] [] (AV.bool (decide (a.Number = n))) :=
  txq_of_1_calls X a n fun C hB => txq_of_1_wp0 X hB a n ⟨rfl, rfl⟩

/-! ### omnibus/txq.Put$1 -/
theorem fn_txq_Put_1 : Tryd.prog.funcs[58]? = some Tryd.f58 := by kernel_rfl
def txq_Put_1_at0 (C : C0) (a0 : T_Message) (m : T_Message) (rows : List Ob) (r : AV) : Prop := Goes Tryd.prog C 58 [.code (bodyOf Tryd.prog 58)] ([(AV.agg [(AV.bool a0.Id_Ext), (AV.int .i64 a0.Id_N), (AV.int .i64 a0.Sender), (AV.int .i64 a0.Inc), (AV.int .i64 a0.Seq), (AV.int .i64 a0.Number), (AV.str a0.Data)]), (AV.pin [(AV.bool m.Id_Ext), (AV.int .i64 m.Id_N), (AV.int .i64 m.Sender), (AV.int .i64 m.Inc), (AV.int .i64 m.Seq), (AV.int .i64 m.Number), (AV.str m.Data)] 0)] ++ junks 5) [] rows r
theorem txq_Put_1_wp0 (X : Ctx E) (hB : Base Tryd.prog E C) (a0 : T_Message) (m : T_Message) {rows : List Ob} {r : AV} (h : (rows = [] ∧ r = (AV.bool (msgLess m a0)))) : txq_Put_1_at0 C a0 m rows r := by
  unfold txq_Put_1_at0
  obtain ⟨h1, h2⟩ := h
  refine goes_eqR (h1.trans rfl) (h2.trans rfl) ((goes_ret (rows := []) (r := (AV.bool (msgLess m a0))) hB fn_txq_Put_1 (rv := [.tmp 3]) (by kernel_rfl) (n := 4) (scr := [(13, .cf [] (AV.bool (msgLess m a0)))]) (keep := []) (by kernel_rfl) (allc (c_msg_Less X m a0) (allc (show rowsFlat [] from trivial) alln))))
theorem txq_Put_1_calls (X : Ctx E) (a0 : T_Message) (m : T_Message) {rows : List Ob} {r : AV} (h : ∀ C, Base Tryd.prog E C → txq_Put_1_at0 C a0 m rows r) : ACalls Tryd.prog E 58 [(AV.agg [(AV.bool a0.Id_Ext), (AV.int .i64 a0.Id_N), (AV.int .i64 a0.Sender), (AV.int .i64 a0.Inc), (AV.int .i64 a0.Seq), (AV.int .i64 a0.Number), (AV.str a0.Data)]), (AV.pin [(AV.bool m.Id_Ext), (AV.int .i64 m.Id_N), (AV.int .i64 m.Sender), (AV.int .i64 m.Inc), (AV.int .i64 m.Seq), (AV.int .i64 m.Number), (AV.str m.Data)] 0)] rows r :=
  acalls_of_goes X.env X.good fn_txq_Put_1 (c := bodyOf Tryd.prog 58) (by kernel_rfl) (by kernel_rfl) (m := 5) (by kernel_rfl) h
theorem c_txq_Put_1 (X : Ctx E) (a m : T_Message) : ACalls Tryd.prog E n_txq_Put_1 [a.av, (AV.pin m.av.cells 0)] [] (AV.bool (msgLess m a)) :=
  txq_Put_1_calls X a m fun C hB => txq_Put_1_wp0 X hB a m ⟨rfl, rfl⟩

/-! ### omnibus/txq.Take$1 -/
theorem fn_txq_Take_1 : Tryd.prog.funcs[63]? = some Tryd.f63 := by kernel_rfl
def txq_Take_1_at0 (C : C0) (a0 : T_Message) (rows : List Ob) (r : AV) : Prop := Goes Tryd.prog C 63 [.code (bodyOf Tryd.prog 63)] ([(AV.agg [(AV.bool a0.Id_Ext), (AV.int .i64 a0.Id_N), (AV.int .i64 a0.Sender), (AV.int .i64 a0.Inc), (AV.int .i64 a0.Seq), (AV.int .i64 a0.Number), (AV.str a0.Data)])] ++ junks 2) [] rows r
theorem txq_Take_1_wp0 (X : Ctx E) (hB : Base Tryd.prog E C) (a0 : T_Message) {rows : List Ob} {r : AV} (h : (rows = [] ∧ r = (AV.bool true))) : txq_Take_1_at0 C a0 rows r := by
  unfold txq_Take_1_at0
  obtain ⟨h1, h2⟩ := h
  refine goes_eqR (h1.trans rfl) (h2.trans rfl) ((goes_ret (rows := []) (r := (AV.bool true)) hB fn_txq_Take_1 (rv := [.tmp 2]) (by kernel_rfl) (n := 4) (scr := []) (keep := []) (by kernel_rfl) alln))
theorem txq_Take_1_calls (X : Ctx E) (a0 : T_Message) {rows : List Ob} {r : AV} (h : ∀ C, Base Tryd.prog E C → txq_Take_1_at0 C a0 rows r) : ACalls Tryd.prog E 63 [(AV.agg [(AV.bool a0.Id_Ext), (AV.int .i64 a0.Id_N), (AV.int .i64 a0.Sender), (AV.int .i64 a0.Inc), (AV.int .i64 a0.Seq), (AV.int .i64 a0.Number), (AV.str a0.Data)])] rows r :=
  acalls_of_goes X.env X.good fn_txq_Take_1 (c := bodyOf Tryd.prog 63) (by kernel_rfl) (by kernel_rfl) (m := 2) (by kernel_rfl) h
theorem c_txq_Take_1 (X : Ctx E) (a : T_Message) : ACalls Tryd.prog E n_txq_Take_1 [a.av] [] (AV.bool true) :=
  txq_Take_1_calls X a fun C hB => txq_Take_1_wp0 X hB a ⟨rfl, rfl⟩

/-! ### omnibus/txq.of -/
theorem fn_txq_of : Tryd.prog.funcs[57]? = some Tryd.f57 := by kernel_rfl
def txq_of_at0 (C : C0) (a0 : Int) (rows : List Ob) (r : AV) : Prop := Goes Tryd.prog C 57 [.code (bodyOf Tryd.prog 57)] ([(AV.int .i64 a0)] ++ junks 3) [] rows r
theorem txq_of_wp0 (X : Ctx E) (hB : Base Tryd.prog E C) (a0 : Int) {rows : List Ob} {r : AV} (h : (rows = [] ∧ r = (AV.fn 96 [(AV.pin [(AV.int .i64 a0)] 0)]))) : txq_of_at0 C a0 rows r := by
  unfold txq_of_at0
  obtain ⟨h1, h2⟩ := h
  refine goes_eqR (h1.trans rfl) (h2.trans rfl) ((goes_ret (rows := []) (r := (AV.fn 96 [(AV.pin [(AV.int .i64 a0)] 0)])) hB fn_txq_of (rv := [.tmp 2]) (by kernel_rfl) (n := 4) (scr := []) (keep := []) (by kernel_rfl) alln))
theorem txq_of_calls (X : Ctx E) (a0 : Int) {rows : List Ob} {r : AV} (h : ∀ C, Base Tryd.prog E C → txq_of_at0 C a0 rows r) : ACalls Tryd.prog E 57 [(AV.int .i64 a0)] rows r :=
  acalls_of_goes X.env X.good fn_txq_of (c := bodyOf Tryd.prog 57) (by kernel_rfl) (by kernel_rfl) (m := 3) (by kernel_rfl) h
theorem c_txq_of (X : Ctx E) (n : Int) : ACalls Tryd.prog E n_txq_of [(AV.int .i64 n)] [] (AV.fn n_txq_of_1 [(AV.pin [(AV.int .i64 n)] 0)]) :=
  txq_of_calls X n fun C hB => txq_of_wp0 X hB n ⟨rfl, rfl⟩

/-! ### omnibus/omnibuslaw04.Message -/
theorem fn_law04_Message : Tryd.prog.funcs[61]? = some Tryd.f61 := by kernel_rfl
def law04_Message_at0 (C : C0) (a0 : T_a6_int) (a1 : ByteArray) (rows : List Ob) (r : AV) : Prop := Goes Tryd.prog C 61 [.code (bodyOf Tryd.prog 61)] ([(AV.agg [(AV.int .i64 a0.c0), (AV.int .i64 a0.c1), (AV.int .i64 a0.c2), (AV.int .i64 a0.c3), (AV.int .i64 a0.c4), (AV.int .i64 a0.c5)]), (AV.str a1)] ++ junks 45) [] rows r
theorem law04_Message_wp0 (X : Ctx E) (hB : Base Tryd.prog E C) (a0 : T_a6_int) (a1 : ByteArray) {rows : List Ob} {r : AV} (h : (I64 a0.c0) ∧ ((1 : Int) ≤ 5) ∧ (I64 a0.c1) ∧ ((1 : Int) ≤ 3) ∧ (I64 (pickS a0.c0 5)) ∧ ((1 : Int) ≤ 7) ∧ (((pickS a0.c1 7) = 6 → ((1 : Int) ≤ 2) ∧ (I64 a0.c2) ∧ ((1 : Int) ≤ 16) ∧ (I64 a0.c3) ∧ ((1 : Int) ≤ 65535) ∧ ((-9223372036854775808) ≤ (1 + (pickS a0.c3 65535)) ∧ (1 + (pickS a0.c3 65535)) ≤ 9223372036854775807) ∧ (I64 a0.c4) ∧ ((-9223372036854775808) ≤ (1 + (pickS a0.c4 65535)) ∧ (1 + (pickS a0.c4 65535)) ≤ 9223372036854775807) ∧ (I64 a0.c5) ∧ ((-9223372036854775808) ≤ (1 + (pickS a0.c5 65535)) ∧ (1 + (pickS a0.c5 65535)) ≤ 9223372036854775807) ∧ ((0 : Int) ≤ 0 ∧ (0 : Int) ≤ (if 8 < (a1.size : Int) then 8 else (a1.size : Int)) ∧ (if 8 < (a1.size : Int) then 8 else (a1.size : Int)) ≤ (a1.size : Int)) ∧ (rows = [] ∧ r = (AV.agg [(AV.bool (identS a0.c0 ((pickS a0.c1 2) == 0)).Ext), (AV.int .i64 (identS a0.c0 ((pickS a0.c1 2) == 0)).N), (AV.int .i64 (pickS a0.c2 16)), (AV.int .i64 (1 + (pickS a0.c3 65535))), (AV.int .i64 (1 + (pickS a0.c4 65535))), (AV.int .i64 (1 + (pickS a0.c5 65535))), (AV.str (a1.extract (0 : Int).toNat ((if 8 < (a1.size : Int) then 8 else (a1.size : Int)) : Int).toNat))]))) ∧ (¬ ((pickS a0.c1 7) = 6) → (I64 a0.c2) ∧ ((1 : Int) ≤ 16) ∧ (I64 a0.c3) ∧ ((1 : Int) ≤ 65535) ∧ ((-9223372036854775808) ≤ (1 + (pickS a0.c3 65535)) ∧ (1 + (pickS a0.c3 65535)) ≤ 9223372036854775807) ∧ (I64 a0.c4) ∧ ((-9223372036854775808) ≤ (1 + (pickS a0.c4 65535)) ∧ (1 + (pickS a0.c4 65535)) ≤ 9223372036854775807) ∧ (I64 a0.c5) ∧ ((-9223372036854775808) ≤ (1 + (pickS a0.c5 65535)) ∧ (1 + (pickS a0.c5 65535)) ≤ 9223372036854775807) ∧ ((0 : Int) ≤ 0 ∧ (0 : Int) ≤ (if 8 < (a1.size : Int) then 8 else (a1.size : Int)) ∧ (if 8 < (a1.size : Int) then 8 else (a1.size : Int)) ≤ (a1.size : Int)) ∧ (rows = [] ∧ r = (AV.agg [(AV.bool (identS (pickS a0.c0 5) ((pickS a0.c1 3) == 0)).Ext), (AV.int .i64 (identS (pickS a0.c0 5) ((pickS a0.c1 3) == 0)).N), (AV.int .i64 (pickS a0.c2 16)), (AV.int .i64 (1 + (pickS a0.c3 65535))), (AV.int .i64 (1 + (pickS a0.c4 65535))), (AV.int .i64 (1 + (pickS a0.c5 65535))), (AV.str (a1.extract (0 : Int).toNat ((if 8 < (a1.size : Int) then 8 else (a1.size : Int)) : Int).toNat))]))))) : law04_Message_at0 C a0 a1 rows r := by
  unfold law04_Message_at0
  obtain ⟨hg1, h⟩ := h
  obtain ⟨hg2, h⟩ := h
  obtain ⟨hg3, h⟩ := h
  obtain ⟨hg4, h⟩ := h
  obtain ⟨hg5, h⟩ := h
  obtain ⟨hg6, h⟩ := h
  rcases Classical.em ((pickS a0.c1 7) = 6) with hc7 | hc7
  · have h := h.1 hc7
    obtain ⟨hg8, h⟩ := h
    obtain ⟨hg9, h⟩ := h
    obtain ⟨hg10, h⟩ := h
    obtain ⟨hg11, h⟩ := h
    obtain ⟨hg12, h⟩ := h
    obtain ⟨hg13, h⟩ := h
    obtain ⟨hg14, h⟩ := h
    obtain ⟨hg15, h⟩ := h
    obtain ⟨hg16, h⟩ := h
    obtain ⟨hg17, h⟩ := h
    obtain ⟨hg18, h⟩ := h
    obtain ⟨h1, h2⟩ := h
    refine goes_eqR (h1.trans rfl) (h2.trans rfl) ((goes_ret (rows := []) (r := (AV.agg [(AV.bool (identS a0.c0 ((pickS a0.c1 2) == 0)).Ext), (AV.int .i64 (identS a0.c0 ((pickS a0.c1 2) == 0)).N), (AV.int .i64 (pickS a0.c2 16)), (AV.int .i64 (1 + (pickS a0.c3 65535))), (AV.int .i64 (1 + (pickS a0.c4 65535))), (AV.int .i64 (1 + (pickS a0.c5 65535))), (AV.str (a1.extract (0 : Int).toNat ((if 8 < (a1.size : Int) then 8 else (a1.size : Int)) : Int).toNat))])) hB fn_law04_Message (rv := [.cell 4 35]) (by kernel_rfl) (n := 11) (scr := [(13, .cf [] (AV.int .i64 (pickS a0.c0 5))), (22, .cf [] (AV.int .i64 (pickS a0.c1 3))), (28, .cf [] (AV.agg [(AV.bool (identS (pickS a0.c0 5) ((pickS a0.c1 3) == 0)).Ext), (AV.int .i64 (identS (pickS a0.c0 5) ((pickS a0.c1 3) == 0)).N)])), (43, .cf [] (AV.int .i64 (pickS a0.c1 7))), (48, .b true), (62, .cf [] (AV.int .i64 (pickS a0.c1 2))), (68, .cf [] (AV.agg [(AV.bool (identS a0.c0 ((pickS a0.c1 2) == 0)).Ext), (AV.int .i64 (identS a0.c0 ((pickS a0.c1 2) == 0)).N)])), (83, .cf [] (AV.int .i64 (pickS a0.c2 16))), (92, .cf [] (AV.int .i64 (pickS a0.c3 65535))), (96, .v (AV.int .i64 (1 + (pickS a0.c3 65535)))), (104, .cf [] (AV.int .i64 (pickS a0.c4 65535))), (108, .v (AV.int .i64 (1 + (pickS a0.c4 65535)))), (116, .cf [] (AV.int .i64 (pickS a0.c5 65535))), (120, .v (AV.int .i64 (1 + (pickS a0.c5 65535))))]) (keep := []) (by kernel_rfl) (allc hg18 (allc (wrap_i64 hg17) (allc (c_law04_pick X a0.c5 65535 hg16 hg12) (allc (show rowsFlat [] from trivial) (allc (show (0 : Int) ≤ 5 ∧ (5 : Int) < ((6 : Nat) : Int) from by decide) (allc (wrap_i64 hg15) (allc (c_law04_pick X a0.c4 65535 hg14 hg12) (allc (show rowsFlat [] from trivial) (allc (show (0 : Int) ≤ 4 ∧ (4 : Int) < ((6 : Nat) : Int) from by decide) (allc (wrap_i64 hg13) (allc (c_law04_pick X a0.c3 65535 hg11 hg12) (allc (show rowsFlat [] from trivial) (allc (show (0 : Int) ≤ 3 ∧ (3 : Int) < ((6 : Nat) : Int) from by decide) (allc (c_law04_pick X a0.c2 16 hg9 hg10) (allc (show rowsFlat [] from trivial) (allc (show (0 : Int) ≤ 2 ∧ (2 : Int) < ((6 : Nat) : Int) from by decide) (allc (c_law02_Ident X a0.c0 ((pickS a0.c1 2) == 0) hg1) (allc (show rowsFlat [] from trivial) (allc (c_law04_pick X a0.c1 2 hg3 hg8) (allc (show rowsFlat [] from trivial) (allc (show (0 : Int) ≤ 1 ∧ (1 : Int) < ((6 : Nat) : Int) from by decide) (allc (show (0 : Int) ≤ 0 ∧ (0 : Int) < ((6 : Nat) : Int) from by decide) (allc (ieqT hc7) (allc (c_law04_pick X a0.c1 7 hg3 hg6) (allc (show rowsFlat [] from trivial) (allc (show (0 : Int) ≤ 1 ∧ (1 : Int) < ((6 : Nat) : Int) from by decide) (allc (c_law02_Ident X (pickS a0.c0 5) ((pickS a0.c1 3) == 0) hg5) (allc (show rowsFlat [] from trivial) (allc (c_law04_pick X a0.c1 3 hg3 hg4) (allc (show rowsFlat [] from trivial) (allc (show (0 : Int) ≤ 1 ∧ (1 : Int) < ((6 : Nat) : Int) from by decide) (allc (c_law04_pick X a0.c0 5 hg1 hg2) (allc (show rowsFlat [] from trivial) (allc (show (0 : Int) ≤ 0 ∧ (0 : Int) < ((6 : Nat) : Int) from by decide) alln))))))))))))))))))))))))))))))))))))
  · have h := h.2 hc7
    obtain ⟨hg19, h⟩ := h
    obtain ⟨hg20, h⟩ := h
    obtain ⟨hg21, h⟩ := h
    obtain ⟨hg22, h⟩ := h
    obtain ⟨hg23, h⟩ := h
    obtain ⟨hg24, h⟩ := h
    obtain ⟨hg25, h⟩ := h
    obtain ⟨hg26, h⟩ := h
    obtain ⟨hg27, h⟩ := h
    obtain ⟨hg28, h⟩ := h
    obtain ⟨h1, h2⟩ := h
    refine goes_eqR (h1.trans rfl) (h2.trans rfl) ((goes_ret (rows := []) (r := (AV.agg [(AV.bool (identS (pickS a0.c0 5) ((pickS a0.c1 3) == 0)).Ext), (AV.int .i64 (identS (pickS a0.c0 5) ((pickS a0.c1 3) == 0)).N), (AV.int .i64 (pickS a0.c2 16)), (AV.int .i64 (1 + (pickS a0.c3 65535))), (AV.int .i64 (1 + (pickS a0.c4 65535))), (AV.int .i64 (1 + (pickS a0.c5 65535))), (AV.str (a1.extract (0 : Int).toNat ((if 8 < (a1.size : Int) then 8 else (a1.size : Int)) : Int).toNat))])) hB fn_law04_Message (rv := [.cell 4 35]) (by kernel_rfl) (n := 11) (scr := [(13, .cf [] (AV.int .i64 (pickS a0.c0 5))), (22, .cf [] (AV.int .i64 (pickS a0.c1 3))), (28, .cf [] (AV.agg [(AV.bool (identS (pickS a0.c0 5) ((pickS a0.c1 3) == 0)).Ext), (AV.int .i64 (identS (pickS a0.c0 5) ((pickS a0.c1 3) == 0)).N)])), (43, .cf [] (AV.int .i64 (pickS a0.c1 7))), (48, .b false), (59, .cf [] (AV.int .i64 (pickS a0.c2 16))), (68, .cf [] (AV.int .i64 (pickS a0.c3 65535))), (72, .v (AV.int .i64 (1 + (pickS a0.c3 65535)))), (80, .cf [] (AV.int .i64 (pickS a0.c4 65535))), (84, .v (AV.int .i64 (1 + (pickS a0.c4 65535)))), (92, .cf [] (AV.int .i64 (pickS a0.c5 65535))), (96, .v (AV.int .i64 (1 + (pickS a0.c5 65535))))]) (keep := []) (by kernel_rfl) (allc hg28 (allc (wrap_i64 hg27) (allc (c_law04_pick X a0.c5 65535 hg26 hg22) (allc (show rowsFlat [] from trivial) (allc (show (0 : Int) ≤ 5 ∧ (5 : Int) < ((6 : Nat) : Int) from by decide) (allc (wrap_i64 hg25) (allc (c_law04_pick X a0.c4 65535 hg24 hg22) (allc (show rowsFlat [] from trivial) (allc (show (0 : Int) ≤ 4 ∧ (4 : Int) < ((6 : Nat) : Int) from by decide) (allc (wrap_i64 hg23) (allc (c_law04_pick X a0.c3 65535 hg21 hg22) (allc (show rowsFlat [] from trivial) (allc (show (0 : Int) ≤ 3 ∧ (3 : Int) < ((6 : Nat) : Int) from by decide) (allc (c_law04_pick X a0.c2 16 hg19 hg20) (allc (show rowsFlat [] from trivial) (allc (show (0 : Int) ≤ 2 ∧ (2 : Int) < ((6 : Nat) : Int) from by decide) (allc (ieqF hc7) (allc (c_law04_pick X a0.c1 7 hg3 hg6) (allc (show rowsFlat [] from trivial) (allc (show (0 : Int) ≤ 1 ∧ (1 : Int) < ((6 : Nat) : Int) from by decide) (allc (c_law02_Ident X (pickS a0.c0 5) ((pickS a0.c1 3) == 0) hg5) (allc (show rowsFlat [] from trivial) (allc (c_law04_pick X a0.c1 3 hg3 hg4) (allc (show rowsFlat [] from trivial) (allc (show (0 : Int) ≤ 1 ∧ (1 : Int) < ((6 : Nat) : Int) from by decide) (allc (c_law04_pick X a0.c0 5 hg1 hg2) (allc (show rowsFlat [] from trivial) (allc (show (0 : Int) ≤ 0 ∧ (0 : Int) < ((6 : Nat) : Int) from by decide) alln))))))))))))))))))))))))))))))
theorem law04_Message_calls (X : Ctx E) (a0 : T_a6_int) (a1 : ByteArray) {rows : List Ob} {r : AV} (h : ∀ C, Base Tryd.prog E C → law04_Message_at0 C a0 a1 rows r) : ACalls Tryd.prog E 61 [(AV.agg [(AV.int .i64 a0.c0), (AV.int .i64 a0.c1), (AV.int .i64 a0.c2), (AV.int .i64 a0.c3), (AV.int .i64 a0.c4), (AV.int .i64 a0.c5)]), (AV.str a1)] rows r :=
  acalls_of_goes X.env X.good fn_law04_Message (c := bodyOf Tryd.prog 61) (by kernel_rfl) (by kernel_rfl) (m := 45) (by kernel_rfl) h
theorem c_law04_Message (X : Ctx E) (a : T_a6_int) (d : ByteArray) (ha : I6 a) : ACalls Tryd.prog E n_law04_Message [a.av, (AV.str d)] [] (messageS a d).av :=
  law04_Message_calls X a d fun C hB => law04_Message_wp0 X hB a d (by
    obtain ⟨h0, h1, h2, h3, h4, h5⟩ := ha
    have r3 := pickS_range h3 (n := 65535) (by omega)
    have r4 := pickS_range h4 (n := 65535) (by omega)
    have r5 := pickS_range h5 (n := 65535) (by omega)
    have hs : (0 : Int) ≤ 0 ∧ (0 : Int) ≤ (if 8 < (d.size : Int) then 8 else (d.size : Int)) ∧ (if 8 < (d.size : Int) then 8 else (d.size : Int)) ≤ (d.size : Int) := by split <;> omega
    refine ⟨h0, by omega, h1, by omega, pickS_I64 h0 (by omega) (by omega), by omega, fun h => ⟨by omega, h2, by omega, h3, by omega, by omega, h4, by omega, h5, by omega, hs, rfl, ?_⟩, fun h => ⟨h2, by omega, h3, by omega, by omega, h4, by omega, h5, by omega, hs, rfl, ?_⟩⟩
    · simp only [messageS, messageId, h, if_true, T_Message.av]
    · simp only [messageS, messageId, h, if_false, T_Message.av])

/-! ### omnibus/omnibuslaw13.Numbered -/
theorem fn_law13_Numbered : Tryd.prog.funcs[20]? = some Tryd.f20 := by kernel_rfl
def law13_Numbered_at0 (C : C0) (a0 : T_a6_int) (a1 : Int) (rows : List Ob) (r : AV) : Prop := Goes Tryd.prog C 20 [.code (bodyOf Tryd.prog 20)] ([(AV.agg [(AV.int .i64 a0.c0), (AV.int .i64 a0.c1), (AV.int .i64 a0.c2), (AV.int .i64 a0.c3), (AV.int .i64 a0.c4), (AV.int .i64 a0.c5)]), (AV.int .i64 a1)] ++ junks 9) [] rows r
theorem law13_Numbered_wp0 (X : Ctx E) (hB : Base Tryd.prog E C) (a0 : T_a6_int) (a1 : Int) {rows : List Ob} {r : AV} (h : (I6 a0) ∧ (rows = [] ∧ r = (AV.agg [(AV.bool (messageS a0 (⟨#[100]⟩ : ByteArray)).Id_Ext), (AV.int .i64 (messageS a0 (⟨#[100]⟩ : ByteArray)).Id_N), (AV.int .i64 (messageS a0 (⟨#[100]⟩ : ByteArray)).Sender), (AV.int .i64 (messageS a0 (⟨#[100]⟩ : ByteArray)).Inc), (AV.int .i64 (messageS a0 (⟨#[100]⟩ : ByteArray)).Seq), (AV.int .i64 a1), (AV.str (messageS a0 (⟨#[100]⟩ : ByteArray)).Data)]))) : law13_Numbered_at0 C a0 a1 rows r := by
  unfold law13_Numbered_at0
  obtain ⟨hg1, h⟩ := h
  obtain ⟨h1, h2⟩ := h
  refine goes_eqR (h1.trans rfl) (h2.trans rfl) ((goes_ret (rows := []) (r := (AV.agg [(AV.bool (messageS a0 (⟨#[100]⟩ : ByteArray)).Id_Ext), (AV.int .i64 (messageS a0 (⟨#[100]⟩ : ByteArray)).Id_N), (AV.int .i64 (messageS a0 (⟨#[100]⟩ : ByteArray)).Sender), (AV.int .i64 (messageS a0 (⟨#[100]⟩ : ByteArray)).Inc), (AV.int .i64 (messageS a0 (⟨#[100]⟩ : ByteArray)).Seq), (AV.int .i64 a1), (AV.str (messageS a0 (⟨#[100]⟩ : ByteArray)).Data)])) hB fn_law13_Numbered (rv := [.cell 4 35]) (by kernel_rfl) (n := 8) (scr := [(10, .cf [] (AV.agg [(AV.bool (messageS a0 (⟨#[100]⟩ : ByteArray)).Id_Ext), (AV.int .i64 (messageS a0 (⟨#[100]⟩ : ByteArray)).Id_N), (AV.int .i64 (messageS a0 (⟨#[100]⟩ : ByteArray)).Sender), (AV.int .i64 (messageS a0 (⟨#[100]⟩ : ByteArray)).Inc), (AV.int .i64 (messageS a0 (⟨#[100]⟩ : ByteArray)).Seq), (AV.int .i64 (messageS a0 (⟨#[100]⟩ : ByteArray)).Number), (AV.str (messageS a0 (⟨#[100]⟩ : ByteArray)).Data)]))]) (keep := []) (by kernel_rfl) (allc (c_law04_Message X a0 (⟨#[100]⟩ : ByteArray) hg1) (allc (show rowsFlat [] from trivial) alln))))
theorem law13_Numbered_calls (X : Ctx E) (a0 : T_a6_int) (a1 : Int) {rows : List Ob} {r : AV} (h : ∀ C, Base Tryd.prog E C → law13_Numbered_at0 C a0 a1 rows r) : ACalls Tryd.prog E 20 [(AV.agg [(AV.int .i64 a0.c0), (AV.int .i64 a0.c1), (AV.int .i64 a0.c2), (AV.int .i64 a0.c3), (AV.int .i64 a0.c4), (AV.int .i64 a0.c5)]), (AV.int .i64 a1)] rows r :=
  acalls_of_goes X.env X.good fn_law13_Numbered (c := bodyOf Tryd.prog 20) (by kernel_rfl) (by kernel_rfl) (m := 9) (by kernel_rfl) h
theorem c_law13_Numbered (X : Ctx E) (a : T_a6_int) (k : Int) (ha : I6 a) : ACalls Tryd.prog E n_law13_Numbered [a.av, (AV.int .i64 k)] [] (numberedS a k).av :=
  law13_Numbered_calls X a k fun C hB => law13_Numbered_wp0 X hB a k ⟨ha, rfl, rfl⟩

/-! ### slices.IndexFunc[[]omnibus/api.Message,omnibus/api.Message] -/
theorem fn_slices_IndexFunc_Message : Tryd.prog.funcs[95]? = some Tryd.f95 := by kernel_rfl
def slices_IndexFunc_Message_a_at0 (C : C0) (fv : FuncId) (a0 : (List T_Message)) (rows : List Ob) (r : AV) : Prop := Goes Tryd.prog C 95 [.code (bodyOf Tryd.prog 95)] ([(AV.sl .p (a0.map T_Message.av)), (AV.fn fv [])] ++ junks 17) [] rows r
def slices_IndexFunc_Message_a_at1 (C : C0) (fv : FuncId) (v0 : (List T_Message)) (v1 : Int) (v2 : Int) (rows : List Ob) (r : AV) : Prop := Goes Tryd.prog C 95 (ctl 7 [.code (bodyOf Tryd.prog 95)] []) (([(AV.sl .p (v0.map T_Message.av)), (AV.fn fv []), AV.junk, AV.junk, AV.junk, AV.junk, AV.junk, (AV.int .i64 v1), (AV.int .i64 v2)] ++ junks 10)) [] rows r
theorem slices_IndexFunc_Message_a_wp0 (X : Ctx E) (hB : Base Tryd.prog E C) (fv : FuncId) (a0 : (List T_Message)) (p : T_Message → Bool) (hp : ∀ x : T_Message, ACalls Tryd.prog E fv [x.av] [] (AV.bool (p x))) {rows : List Ob} {r : AV} (h : (slices_IndexFunc_Message_a_at1 C fv a0 (a0.length : Int) 0 rows r)) : slices_IndexFunc_Message_a_at0 C fv a0 rows r := by
  unfold slices_IndexFunc_Message_a_at0
  refine goes_cut hB (n := 7) (scr := [(8, .v (AV.int .i64 (a0.length : Int)))]) (live := [0, 1, 7, 8]) (keep := []) (todo' := (ctl 7 [.code (bodyOf Tryd.prog 95)] [])) (ts' := ([(AV.sl .p (a0.map T_Message.av)), (AV.fn fv []), AV.junk, AV.junk, AV.junk, AV.junk, AV.junk, (AV.int .i64 (a0.length : Int)), (AV.int .i64 0)] ++ junks 10)) (h' := []) (by kernel_rfl) (allc (len_raw (show (a0.map T_Message.av) = (a0.map T_Message.av) from rfl)) alln) (goes_eqS rfl rfl h)
theorem slices_IndexFunc_Message_a_wp1 (X : Ctx E) (hB : Base Tryd.prog E C) (fv : FuncId) (v0 : (List T_Message)) (v1 : Int) (v2 : Int) (p : T_Message → Bool) (hp : ∀ x : T_Message, ACalls Tryd.prog E fv [x.av] [] (AV.bool (p x))) {rows : List Ob} {r : AV} (h : ((v2 < v1 → ∃ y2 : T_Message, 0 ≤ (v2 : Int) ∧ v0[v2.toNat]? = some y2 ∧ (((p y2) = true → (rows = [] ∧ r = (AV.int .i64 v2))) ∧ (¬ ((p y2) = true) → ((-9223372036854775808) ≤ (v2 + 1) ∧ (v2 + 1) ≤ 9223372036854775807) ∧ (slices_IndexFunc_Message_a_at1 C fv v0 v1 (v2 + 1) rows r)))) ∧ (¬ (v2 < v1) → (rows = [] ∧ r = (AV.int .i64 (-1)))))) : slices_IndexFunc_Message_a_at1 C fv v0 v1 v2 rows r := by
  unfold slices_IndexFunc_Message_a_at1
  rcases Classical.em (v2 < v1) with hc1 | hc1
  · have h := h.1 hc1
    obtain ⟨y2, hg3, he4, h⟩ := h
    rcases Classical.em ((p y2) = true) with hc5 | hc5
    · have h := h.1 hc5
      obtain ⟨h1, h2⟩ := h
      refine goes_eqR (h1.trans rfl) (h2.trans rfl) ((goes_ret (rows := []) (r := (AV.int .i64 v2)) hB fn_slices_IndexFunc_Message (rv := [.tmp 4]) (by kernel_rfl) (n := 14) (scr := [(3, .b true), (20, .e (AV.agg [(AV.bool y2.Id_Ext), (AV.int .i64 y2.Id_N), (AV.int .i64 y2.Sender), (AV.int .i64 y2.Inc), (AV.int .i64 y2.Seq), (AV.int .i64 y2.Number), (AV.str y2.Data)])), (26, .cf [] (AV.bool (p y2))), (28, .b true)]) (keep := []) (by kernel_rfl) (allc hc5 (allc (hp y2) (allc (show rowsFlat [] from trivial) (allc (And.intro hg3 (get_raw (show (v0.map T_Message.av) = (v0.map T_Message.av) from rfl) he4)) (allc (decide_eq_true hc1) alln)))))))
    · have h := h.2 hc5
      obtain ⟨hg6, h⟩ := h
      refine goes_cut hB (n := 16) (scr := [(3, .b true), (20, .e (AV.agg [(AV.bool y2.Id_Ext), (AV.int .i64 y2.Id_N), (AV.int .i64 y2.Sender), (AV.int .i64 y2.Inc), (AV.int .i64 y2.Seq), (AV.int .i64 y2.Number), (AV.str y2.Data)])), (26, .cf [] (AV.bool (p y2))), (28, .b false), (31, .v (AV.int .i64 (v2 + 1)))]) (live := [0, 1, 7, 8]) (keep := []) (todo' := (ctl 7 [.code (bodyOf Tryd.prog 95)] [])) (ts' := ([(AV.sl .p (v0.map T_Message.av)), (AV.fn fv []), AV.junk, AV.junk, AV.junk, AV.junk, AV.junk, (AV.int .i64 v1), (AV.int .i64 (v2 + 1))] ++ junks 10)) (h' := []) (by kernel_rfl) (allc (wrap_i64 hg6) (allc (bF hc5) (allc (hp y2) (allc (show rowsFlat [] from trivial) (allc (And.intro hg3 (get_raw (show (v0.map T_Message.av) = (v0.map T_Message.av) from rfl) he4)) (allc (decide_eq_true hc1) alln)))))) (goes_eqS rfl rfl h)
  · have h := h.2 hc1
    obtain ⟨h1, h2⟩ := h
    refine goes_eqR (h1.trans rfl) (h2.trans rfl) ((goes_ret (rows := []) (r := (AV.int .i64 (-1))) hB fn_slices_IndexFunc_Message (rv := [.tmp 4]) (by kernel_rfl) (n := 7) (scr := [(3, .b false)]) (keep := []) (by kernel_rfl) (allc (decide_eq_false hc1) alln)))
theorem slices_IndexFunc_Message_a_calls (X : Ctx E) (fv : FuncId) (a0 : (List T_Message)) {rows : List Ob} {r : AV} (h : ∀ C, Base Tryd.prog E C → slices_IndexFunc_Message_a_at0 C fv a0 rows r) : ACalls Tryd.prog E 95 [(AV.sl .p (a0.map T_Message.av)), (AV.fn fv [])] rows r :=
  acalls_of_goes X.env X.good fn_slices_IndexFunc_Message (c := bodyOf Tryd.prog 95) (by kernel_rfl) (by kernel_rfl) (m := 17) (by kernel_rfl) h
theorem idx_loopa (X : Ctx E) (hB : Base Tryd.prog E C) (fv : FuncId) (l : List T_Message) (p : T_Message → Bool) (hp : ∀ x : T_Message, ACalls Tryd.prog E fv [x.av] [] (AV.bool (p x))) (hl : l.length ≤ 4611686018427387904) :
    ∀ (k i : Nat), l.length - i = k → i ≤ l.length → (∀ j, j < i → ∀ y, l[j]? = some y → p y = false) → slices_IndexFunc_Message_a_at1 C fv l (l.length : Int) (i : Int) [] (AV.int .i64 (idxS p l)) := by
  intro k
  induction k with
  | zero =>
    intro i h1 h2 h3
    refine slices_IndexFunc_Message_a_wp1 X hB fv _ _ _ p hp ⟨fun h => by omega, fun _ => ⟨rfl, ?_⟩⟩
    rw [idxS_none (fun j y hy => h3 j (by have := (List.getElem?_eq_some_iff.1 hy).1; omega) y hy)]
  | succ k ih =>
    intro i h1 h2 h3
    have hi : i < l.length := by omega
    refine slices_IndexFunc_Message_a_wp1 X hB fv _ _ _ p hp ⟨fun h => ⟨l[i], by omega, by simp [hi], fun h0 => ⟨rfl, ?_⟩, fun h0 => ⟨by omega, ?_⟩⟩, fun h => by omega⟩
    · rw [idxS_some hi h0 (fun j hj y hy => h3 j hj y hy)]
    · refine ih (i + 1) (by omega) (by omega) (fun j hj y hy => ?_)
      by_cases hji : j = i
      · subst hji
        rw [List.getElem?_eq_getElem hi] at hy
        cases hy
        exact bF h0
      · exact h3 j (by omega) y hy
theorem c_slices_IndexFunc_Message_a (X : Ctx E) (fv : FuncId) (l : List T_Message) (p : T_Message → Bool) (hp : ∀ x : T_Message, ACalls Tryd.prog E fv [x.av] [] (AV.bool (p x))) (hl : l.length ≤ 4611686018427387904) :
    ACalls Tryd.prog E n_slices_IndexFunc_Message [(AV.sl .p (l.map T_Message.av)), (AV.fn fv [])] [] (AV.int .i64 (idxS p l)) :=
  slices_IndexFunc_Message_a_calls X fv l fun C hB => slices_IndexFunc_Message_a_wp0 X hB fv l p hp (idx_loopa X hB fv l p hp hl l.length 0 (by omega) (by omega) (fun j hj => by omega))

/-! ### slices.IndexFunc[[]omnibus/api.Message,omnibus/api.Message] -/
def slices_IndexFunc_Message_b_at0 (C : C0) (fv : FuncId) (n : Int) (a0 : (List T_Message)) (rows : List Ob) (r : AV) : Prop := Goes Tryd.prog C 95 [.code (bodyOf Tryd.prog 95)] ([(AV.sl .p (a0.map T_Message.av)), (AV.fn fv [(AV.pin [(AV.int .i64 n)] 0)])] ++ junks 17) [] rows r
def slices_IndexFunc_Message_b_at1 (C : C0) (fv : FuncId) (n : Int) (v0 : (List T_Message)) (v1 : Int) (v2 : Int) (rows : List Ob) (r : AV) : Prop := Goes Tryd.prog C 95 (ctl 7 [.code (bodyOf Tryd.prog 95)] []) (([(AV.sl .p (v0.map T_Message.av)), (AV.fn fv [(AV.pin [(AV.int .i64 n)] 0)]), AV.junk, AV.junk, AV.junk, AV.junk, AV.junk, (AV.int .i64 v1), (AV.int .i64 v2)] ++ junks 10)) [] rows r
theorem slices_IndexFunc_Message_b_wp0 (X : Ctx E) (hB : Base Tryd.prog E C) (fv : FuncId) (n : Int) (a0 : (List T_Message)) (p : T_Message → Bool) (hp : ∀ x : T_Message, ACalls Tryd.prog E fv [x.av, (AV.pin [(AV.int .i64 n)] 0)] [] (AV.bool (p x))) {rows : List Ob} {r : AV} (h : (slices_IndexFunc_Message_b_at1 C fv n a0 (a0.length : Int) 0 rows r)) : slices_IndexFunc_Message_b_at0 C fv n a0 rows r := by
  unfold slices_IndexFunc_Message_b_at0
  refine goes_cut hB (n := 7) (scr := [(8, .v (AV.int .i64 (a0.length : Int)))]) (live := [0, 1, 7, 8]) (keep := []) (todo' := (ctl 7 [.code (bodyOf Tryd.prog 95)] [])) (ts' := ([(AV.sl .p (a0.map T_Message.av)), (AV.fn fv [(AV.pin [(AV.int .i64 n)] 0)]), AV.junk, AV.junk, AV.junk, AV.junk, AV.junk, (AV.int .i64 (a0.length : Int)), (AV.int .i64 0)] ++ junks 10)) (h' := []) (by kernel_rfl) (allc (len_raw (show (a0.map T_Message.av) = (a0.map T_Message.av) from rfl)) alln) (goes_eqS rfl rfl h)
theorem slices_IndexFunc_Message_b_wp1 (X : Ctx E) (hB : Base Tryd.prog E C) (fv : FuncId) (n : Int) (v0 : (List T_Message)) (v1 : Int) (v2 : Int) (p : T_Message → Bool) (hp : ∀ x : T_Message, ACalls Tryd.prog E fv [x.av, (AV.pin [(AV.int .i64 n)] 0)] [] (AV.bool (p x))) {rows : List Ob} {r : AV} (h : ((v2 < v1 → ∃ y2 : T_Message, 0 ≤ (v2 : Int) ∧ v0[v2.toNat]? = some y2 ∧ (((p y2) = true → (rows = [] ∧ r = (AV.int .i64 v2))) ∧ (¬ ((p y2) = true) → ((-9223372036854775808) ≤ (v2 + 1) ∧ (v2 + 1) ≤ 9223372036854775807) ∧ (slices_IndexFunc_Message_b_at1 C fv n v0 v1 (v2 + 1) rows r)))) ∧ (¬ (v2 < v1) → (rows = [] ∧ r = (AV.int .i64 (-1)))))) : slices_IndexFunc_Message_b_at1 C fv n v0 v1 v2 rows r := by
  unfold slices_IndexFunc_Message_b_at1
  rcases Classical.em (v2 < v1) with hc1 | hc1
  · have h := h.1 hc1
    obtain ⟨y2, hg3, he4, h⟩ := h
    rcases Classical.em ((p y2) = true) with hc5 | hc5
    · have h := h.1 hc5
      obtain ⟨h1, h2⟩ := h
      refine goes_eqR (h1.trans rfl) (h2.trans rfl) ((goes_ret (rows := []) (r := (AV.int .i64 v2)) hB fn_slices_IndexFunc_Message (rv := [.tmp 4]) (by kernel_rfl) (n := 14) (scr := [(3, .b true), (20, .e (AV.agg [(AV.bool y2.Id_Ext), (AV.int .i64 y2.Id_N), (AV.int .i64 y2.Sender), (AV.int .i64 y2.Inc), (AV.int .i64 y2.Seq), (AV.int .i64 y2.Number), (AV.str y2.Data)])), (26, .cf [] (AV.bool (p y2))), (28, .b true)]) (keep := []) (by kernel_rfl) (allc hc5 (allc (hp y2) (allc (show rowsFlat [] from trivial) (allc (And.intro hg3 (get_raw (show (v0.map T_Message.av) = (v0.map T_Message.av) from rfl) he4)) (allc (decide_eq_true hc1) alln)))))))
    · have h := h.2 hc5
      obtain ⟨hg6, h⟩ := h
      refine goes_cut hB (n := 16) (scr := [(3, .b true), (20, .e (AV.agg [(AV.bool y2.Id_Ext), (AV.int .i64 y2.Id_N), (AV.int .i64 y2.Sender), (AV.int .i64 y2.Inc), (AV.int .i64 y2.Seq), (AV.int .i64 y2.Number), (AV.str y2.Data)])), (26, .cf [] (AV.bool (p y2))), (28, .b false), (31, .v (AV.int .i64 (v2 + 1)))]) (live := [0, 1, 7, 8]) (keep := []) (todo' := (ctl 7 [.code (bodyOf Tryd.prog 95)] [])) (ts' := ([(AV.sl .p (v0.map T_Message.av)), (AV.fn fv [(AV.pin [(AV.int .i64 n)] 0)]), AV.junk, AV.junk, AV.junk, AV.junk, AV.junk, (AV.int .i64 v1), (AV.int .i64 (v2 + 1))] ++ junks 10)) (h' := []) (by kernel_rfl) (allc (wrap_i64 hg6) (allc (bF hc5) (allc (hp y2) (allc (show rowsFlat [] from trivial) (allc (And.intro hg3 (get_raw (show (v0.map T_Message.av) = (v0.map T_Message.av) from rfl) he4)) (allc (decide_eq_true hc1) alln)))))) (goes_eqS rfl rfl h)
  · have h := h.2 hc1
    obtain ⟨h1, h2⟩ := h
    refine goes_eqR (h1.trans rfl) (h2.trans rfl) ((goes_ret (rows := []) (r := (AV.int .i64 (-1))) hB fn_slices_IndexFunc_Message (rv := [.tmp 4]) (by kernel_rfl) (n := 7) (scr := [(3, .b false)]) (keep := []) (by kernel_rfl) (allc (decide_eq_false hc1) alln)))
theorem slices_IndexFunc_Message_b_calls (X : Ctx E) (fv : FuncId) (n : Int) (a0 : (List T_Message)) {rows : List Ob} {r : AV} (h : ∀ C, Base Tryd.prog E C → slices_IndexFunc_Message_b_at0 C fv n a0 rows r) : ACalls Tryd.prog E 95 [(AV.sl .p (a0.map T_Message.av)), (AV.fn fv [(AV.pin [(AV.int .i64 n)] 0)])] rows r :=
  acalls_of_goes X.env X.good fn_slices_IndexFunc_Message (c := bodyOf Tryd.prog 95) (by kernel_rfl) (by kernel_rfl) (m := 17) (by kernel_rfl) h
theorem idx_loopb (X : Ctx E) (hB : Base Tryd.prog E C) (fv : FuncId) (n : Int) (l : List T_Message) (p : T_Message → Bool) (hp : ∀ x : T_Message, ACalls Tryd.prog E fv [x.av, (AV.pin [(AV.int .i64 n)] 0)] [] (AV.bool (p x))) (hl : l.length ≤ 4611686018427387904) :
    ∀ (k i : Nat), l.length - i = k → i ≤ l.length → (∀ j, j < i → ∀ y, l[j]? = some y → p y = false) → slices_IndexFunc_Message_b_at1 C fv n l (l.length : Int) (i : Int) [] (AV.int .i64 (idxS p l)) := by
  intro k
  induction k with
  | zero =>
    intro i h1 h2 h3
    refine slices_IndexFunc_Message_b_wp1 X hB fv n _ _ _ p hp ⟨fun h => by omega, fun _ => ⟨rfl, ?_⟩⟩
    rw [idxS_none (fun j y hy => h3 j (by have := (List.getElem?_eq_some_iff.1 hy).1; omega) y hy)]
  | succ k ih =>
    intro i h1 h2 h3
    have hi : i < l.length := by omega
    refine slices_IndexFunc_Message_b_wp1 X hB fv n _ _ _ p hp ⟨fun h => ⟨l[i], by omega, by simp [hi], fun h0 => ⟨rfl, ?_⟩, fun h0 => ⟨by omega, ?_⟩⟩, fun h => by omega⟩
    · rw [idxS_some hi h0 (fun j hj y hy => h3 j hj y hy)]
    · refine ih (i + 1) (by omega) (by omega) (fun j hj y hy => ?_)
      by_cases hji : j = i
      · subst hji
        rw [List.getElem?_eq_getElem hi] at hy
        cases hy
        exact bF h0
      · exact h3 j (by omega) y hy
theorem c_slices_IndexFunc_Message_b (X : Ctx E) (fv : FuncId) (n : Int) (l : List T_Message) (p : T_Message → Bool) (hp : ∀ x : T_Message, ACalls Tryd.prog E fv [x.av, (AV.pin [(AV.int .i64 n)] 0)] [] (AV.bool (p x))) (hl : l.length ≤ 4611686018427387904) :
    ACalls Tryd.prog E n_slices_IndexFunc_Message [(AV.sl .p (l.map T_Message.av)), (AV.fn fv [(AV.pin [(AV.int .i64 n)] 0)])] [] (AV.int .i64 (idxS p l)) :=
  slices_IndexFunc_Message_b_calls X fv n l fun C hB => slices_IndexFunc_Message_b_wp0 X hB fv n l p hp (idx_loopb X hB fv n l p hp hl l.length 0 (by omega) (by omega) (fun j hj => by omega))

/-! ### slices.IndexFunc[[]omnibus/api.Message,omnibus/api.Message] -/
def slices_IndexFunc_Message_c_at0 (C : C0) (fv : FuncId) (m : T_Message) (a0 : (List T_Message)) (rows : List Ob) (r : AV) : Prop := Goes Tryd.prog C 95 [.code (bodyOf Tryd.prog 95)] ([(AV.sl .p (a0.map T_Message.av)), (AV.fn fv [(AV.pin [(AV.bool m.Id_Ext), (AV.int .i64 m.Id_N), (AV.int .i64 m.Sender), (AV.int .i64 m.Inc), (AV.int .i64 m.Seq), (AV.int .i64 m.Number), (AV.str m.Data)] 0)])] ++ junks 17) [] rows r
def slices_IndexFunc_Message_c_at1 (C : C0) (fv : FuncId) (m : T_Message) (v0 : (List T_Message)) (v1 : Int) (v2 : Int) (rows : List Ob) (r : AV) : Prop := Goes Tryd.prog C 95 (ctl 7 [.code (bodyOf Tryd.prog 95)] []) (([(AV.sl .p (v0.map T_Message.av)), (AV.fn fv [(AV.pin [(AV.bool m.Id_Ext), (AV.int .i64 m.Id_N), (AV.int .i64 m.Sender), (AV.int .i64 m.Inc), (AV.int .i64 m.Seq), (AV.int .i64 m.Number), (AV.str m.Data)] 0)]), AV.junk, AV.junk, AV.junk, AV.junk, AV.junk, (AV.int .i64 v1), (AV.int .i64 v2)] ++ junks 10)) [] rows r
theorem slices_IndexFunc_Message_c_wp0 (X : Ctx E) (hB : Base Tryd.prog E C) (fv : FuncId) (m : T_Message) (a0 : (List T_Message)) (p : T_Message → Bool) (hp : ∀ x : T_Message, ACalls Tryd.prog E fv [x.av, (AV.pin [(AV.bool m.Id_Ext), (AV.int .i64 m.Id_N), (AV.int .i64 m.Sender), (AV.int .i64 m.Inc), (AV.int .i64 m.Seq), (AV.int .i64 m.Number), (AV.str m.Data)] 0)] [] (AV.bool (p x))) {rows : List Ob} {r : AV} (h : (slices_IndexFunc_Message_c_at1 C fv m a0 (a0.length : Int) 0 rows r)) : slices_IndexFunc_Message_c_at0 C fv m a0 rows r := by
  unfold slices_IndexFunc_Message_c_at0
  refine goes_cut hB (n := 7) (scr := [(8, .v (AV.int .i64 (a0.length : Int)))]) (live := [0, 1, 7, 8]) (keep := []) (todo' := (ctl 7 [.code (bodyOf Tryd.prog 95)] [])) (ts' := ([(AV.sl .p (a0.map T_Message.av)), (AV.fn fv [(AV.pin [(AV.bool m.Id_Ext), (AV.int .i64 m.Id_N), (AV.int .i64 m.Sender), (AV.int .i64 m.Inc), (AV.int .i64 m.Seq), (AV.int .i64 m.Number), (AV.str m.Data)] 0)]), AV.junk, AV.junk, AV.junk, AV.junk, AV.junk, (AV.int .i64 (a0.length : Int)), (AV.int .i64 0)] ++ junks 10)) (h' := []) (by kernel_rfl) (allc (len_raw (show (a0.map T_Message.av) = (a0.map T_Message.av) from rfl)) alln) (goes_eqS rfl rfl h)
theorem slices_IndexFunc_Message_c_wp1 (X : Ctx E) (hB : Base Tryd.prog E C) (fv : FuncId) (m : T_Message) (v0 : (List T_Message)) (v1 : Int) (v2 : Int) (p : T_Message → Bool) (hp : ∀ x : T_Message, ACalls Tryd.prog E fv [x.av, (AV.pin [(AV.bool m.Id_Ext), (AV.int .i64 m.Id_N), (AV.int .i64 m.Sender), (AV.int .i64 m.Inc), (AV.int .i64 m.Seq), (AV.int .i64 m.Number), (AV.str m.Data)] 0)] [] (AV.bool (p x))) {rows : List Ob} {r : AV} (h : ((v2 < v1 → ∃ y2 : T_Message, 0 ≤ (v2 : Int) ∧ v0[v2.toNat]? = some y2 ∧ (((p y2) = true → (rows = [] ∧ r = (AV.int .i64 v2))) ∧ (¬ ((p y2) = true) → ((-9223372036854775808) ≤ (v2 + 1) ∧ (v2 + 1) ≤ 9223372036854775807) ∧ (slices_IndexFunc_Message_c_at1 C fv m v0 v1 (v2 + 1) rows r)))) ∧ (¬ (v2 < v1) → (rows = [] ∧ r = (AV.int .i64 (-1)))))) : slices_IndexFunc_Message_c_at1 C fv m v0 v1 v2 rows r := by
  unfold slices_IndexFunc_Message_c_at1
  rcases Classical.em (v2 < v1) with hc1 | hc1
  · have h := h.1 hc1
    obtain ⟨y2, hg3, he4, h⟩ := h
    rcases Classical.em ((p y2) = true) with hc5 | hc5
    · have h := h.1 hc5
      obtain ⟨h1, h2⟩ := h
      refine goes_eqR (h1.trans rfl) (h2.trans rfl) ((goes_ret (rows := []) (r := (AV.int .i64 v2)) hB fn_slices_IndexFunc_Message (rv := [.tmp 4]) (by kernel_rfl) (n := 14) (scr := [(3, .b true), (20, .e (AV.agg [(AV.bool y2.Id_Ext), (AV.int .i64 y2.Id_N), (AV.int .i64 y2.Sender), (AV.int .i64 y2.Inc), (AV.int .i64 y2.Seq), (AV.int .i64 y2.Number), (AV.str y2.Data)])), (26, .cf [] (AV.bool (p y2))), (28, .b true)]) (keep := []) (by kernel_rfl) (allc hc5 (allc (hp y2) (allc (show rowsFlat [] from trivial) (allc (And.intro hg3 (get_raw (show (v0.map T_Message.av) = (v0.map T_Message.av) from rfl) he4)) (allc (decide_eq_true hc1) alln)))))))
    · have h := h.2 hc5
      obtain ⟨hg6, h⟩ := h
      refine goes_cut hB (n := 16) (scr := [(3, .b true), (20, .e (AV.agg [(AV.bool y2.Id_Ext), (AV.int .i64 y2.Id_N), (AV.int .i64 y2.Sender), (AV.int .i64 y2.Inc), (AV.int .i64 y2.Seq), (AV.int .i64 y2.Number), (AV.str y2.Data)])), (26, .cf [] (AV.bool (p y2))), (28, .b false), (31, .v (AV.int .i64 (v2 + 1)))]) (live := [0, 1, 7, 8]) (keep := []) (todo' := (ctl 7 [.code (bodyOf Tryd.prog 95)] [])) (ts' := ([(AV.sl .p (v0.map T_Message.av)), (AV.fn fv [(AV.pin [(AV.bool m.Id_Ext), (AV.int .i64 m.Id_N), (AV.int .i64 m.Sender), (AV.int .i64 m.Inc), (AV.int .i64 m.Seq), (AV.int .i64 m.Number), (AV.str m.Data)] 0)]), AV.junk, AV.junk, AV.junk, AV.junk, AV.junk, (AV.int .i64 v1), (AV.int .i64 (v2 + 1))] ++ junks 10)) (h' := []) (by kernel_rfl) (allc (wrap_i64 hg6) (allc (bF hc5) (allc (hp y2) (allc (show rowsFlat [] from trivial) (allc (And.intro hg3 (get_raw (show (v0.map T_Message.av) = (v0.map T_Message.av) from rfl) he4)) (allc (decide_eq_true hc1) alln)))))) (goes_eqS rfl rfl h)
  · have h := h.2 hc1
    obtain ⟨h1, h2⟩ := h
    refine goes_eqR (h1.trans rfl) (h2.trans rfl) ((goes_ret (rows := []) (r := (AV.int .i64 (-1))) hB fn_slices_IndexFunc_Message (rv := [.tmp 4]) (by kernel_rfl) (n := 7) (scr := [(3, .b false)]) (keep := []) (by kernel_rfl) (allc (decide_eq_false hc1) alln)))
theorem slices_IndexFunc_Message_c_calls (X : Ctx E) (fv : FuncId) (m : T_Message) (a0 : (List T_Message)) {rows : List Ob} {r : AV} (h : ∀ C, Base Tryd.prog E C → slices_IndexFunc_Message_c_at0 C fv m a0 rows r) : ACalls Tryd.prog E 95 [(AV.sl .p (a0.map T_Message.av)), (AV.fn fv [(AV.pin [(AV.bool m.Id_Ext), (AV.int .i64 m.Id_N), (AV.int .i64 m.Sender), (AV.int .i64 m.Inc), (AV.int .i64 m.Seq), (AV.int .i64 m.Number), (AV.str m.Data)] 0)])] rows r :=
  acalls_of_goes X.env X.good fn_slices_IndexFunc_Message (c := bodyOf Tryd.prog 95) (by kernel_rfl) (by kernel_rfl) (m := 17) (by kernel_rfl) h
theorem idx_loopc (X : Ctx E) (hB : Base Tryd.prog E C) (fv : FuncId) (m : T_Message) (l : List T_Message) (p : T_Message → Bool) (hp : ∀ x : T_Message, ACalls Tryd.prog E fv [x.av, (AV.pin m.av.cells 0)] [] (AV.bool (p x))) (hl : l.length ≤ 4611686018427387904) :
    ∀ (k i : Nat), l.length - i = k → i ≤ l.length → (∀ j, j < i → ∀ y, l[j]? = some y → p y = false) → slices_IndexFunc_Message_c_at1 C fv m l (l.length : Int) (i : Int) [] (AV.int .i64 (idxS p l)) := by
  intro k
  induction k with
  | zero =>
    intro i h1 h2 h3
    refine slices_IndexFunc_Message_c_wp1 X hB fv m _ _ _ p hp ⟨fun h => by omega, fun _ => ⟨rfl, ?_⟩⟩
    rw [idxS_none (fun j y hy => h3 j (by have := (List.getElem?_eq_some_iff.1 hy).1; omega) y hy)]
  | succ k ih =>
    intro i h1 h2 h3
    have hi : i < l.length := by omega
    refine slices_IndexFunc_Message_c_wp1 X hB fv m _ _ _ p hp ⟨fun h => ⟨l[i], by omega, by simp [hi], fun h0 => ⟨rfl, ?_⟩, fun h0 => ⟨by omega, ?_⟩⟩, fun h => by omega⟩
    · rw [idxS_some hi h0 (fun j hj y hy => h3 j hj y hy)]
    · refine ih (i + 1) (by omega) (by omega) (fun j hj y hy => ?_)
      by_cases hji : j = i
      · subst hji
        rw [List.getElem?_eq_getElem hi] at hy
        cases hy
        exact bF h0
      · exact h3 j (by omega) y hy
theorem c_slices_IndexFunc_Message_c (X : Ctx E) (fv : FuncId) (m : T_Message) (l : List T_Message) (p : T_Message → Bool) (hp : ∀ x : T_Message, ACalls Tryd.prog E fv [x.av, (AV.pin m.av.cells 0)] [] (AV.bool (p x))) (hl : l.length ≤ 4611686018427387904) :
    ACalls Tryd.prog E n_slices_IndexFunc_Message [(AV.sl .p (l.map T_Message.av)), (AV.fn fv [(AV.pin m.av.cells 0)])] [] (AV.int .i64 (idxS p l)) :=
  slices_IndexFunc_Message_c_calls X fv m l fun C hB => slices_IndexFunc_Message_c_wp0 X hB fv m l p hp (idx_loopc X hB fv m l p hp hl l.length 0 (by omega) (by omega) (fun j hj => by omega))

/-! ### omnibus/txq.find[omnibus/api.Message] -/
theorem fn_txq_find_Message : Tryd.prog.funcs[56]? = some Tryd.f56 := by kernel_rfl
def txq_find_Message_a_at0 (C : C0) (fv : FuncId) (a0 : (List T_Message)) (rows : List Ob) (r : AV) : Prop := Goes Tryd.prog C 56 [.code (bodyOf Tryd.prog 56)] ([(AV.sl .p (a0.map T_Message.av)), (AV.fn fv [])] ++ junks 6) [] rows r
theorem txq_find_Message_a_wp0 (X : Ctx E) (hB : Base Tryd.prog E C) (fv : FuncId) (a0 : (List T_Message)) (p : T_Message → Bool) (hp : ∀ x : T_Message, ACalls Tryd.prog E fv [x.av] [] (AV.bool (p x))) {rows : List Ob} {r : AV} (h : (a0.length ≤ 4611686018427387904) ∧ (rows = [] ∧ r = (AV.int .i64 (idxS p a0)))) : txq_find_Message_a_at0 C fv a0 rows r := by
  unfold txq_find_Message_a_at0
  obtain ⟨hg1, h⟩ := h
  obtain ⟨h1, h2⟩ := h
  refine goes_eqR (h1.trans rfl) (h2.trans rfl) ((goes_ret (rows := []) (r := (AV.int .i64 (idxS p a0))) hB fn_txq_find_Message (rv := [.tmp 4]) (by kernel_rfl) (n := 4) (scr := [(10, .cf [] (AV.int .i64 (idxS p a0)))]) (keep := []) (by kernel_rfl) (allc (c_slices_IndexFunc_Message_a X fv a0 p hp hg1) (allc (show rowsFlat [] from trivial) alln))))
theorem txq_find_Message_a_calls (X : Ctx E) (fv : FuncId) (a0 : (List T_Message)) {rows : List Ob} {r : AV} (h : ∀ C, Base Tryd.prog E C → txq_find_Message_a_at0 C fv a0 rows r) : ACalls Tryd.prog E 56 [(AV.sl .p (a0.map T_Message.av)), (AV.fn fv [])] rows r :=
  acalls_of_goes X.env X.good fn_txq_find_Message (c := bodyOf Tryd.prog 56) (by kernel_rfl) (by kernel_rfl) (m := 6) (by kernel_rfl) h
theorem c_txq_find_Message_a (X : Ctx E) (fv : FuncId) (l : List T_Message) (p : T_Message → Bool) (hp : ∀ x : T_Message, ACalls Tryd.prog E fv [x.av] [] (AV.bool (p x))) (hl : l.length ≤ 4611686018427387904) :
    ACalls Tryd.prog E n_txq_find_Message [(AV.sl .p (l.map T_Message.av)), (AV.fn fv [])] [] (AV.int .i64 (idxS p l)) :=
  txq_find_Message_a_calls X fv l fun C hB => txq_find_Message_a_wp0 X hB fv l p hp ⟨hl, rfl, rfl⟩

/-! ### omnibus/txq.find[omnibus/api.Message] -/
def txq_find_Message_b_at0 (C : C0) (fv : FuncId) (n : Int) (a0 : (List T_Message)) (rows : List Ob) (r : AV) : Prop := Goes Tryd.prog C 56 [.code (bodyOf Tryd.prog 56)] ([(AV.sl .p (a0.map T_Message.av)), (AV.fn fv [(AV.pin [(AV.int .i64 n)] 0)])] ++ junks 6) [] rows r
theorem txq_find_Message_b_wp0 (X : Ctx E) (hB : Base Tryd.prog E C) (fv : FuncId) (n : Int) (a0 : (List T_Message)) (p : T_Message → Bool) (hp : ∀ x : T_Message, ACalls Tryd.prog E fv [x.av, (AV.pin [(AV.int .i64 n)] 0)] [] (AV.bool (p x))) {rows : List Ob} {r : AV} (h : (a0.length ≤ 4611686018427387904) ∧ (rows = [] ∧ r = (AV.int .i64 (idxS p a0)))) : txq_find_Message_b_at0 C fv n a0 rows r := by
  unfold txq_find_Message_b_at0
  obtain ⟨hg1, h⟩ := h
  obtain ⟨h1, h2⟩ := h
  refine goes_eqR (h1.trans rfl) (h2.trans rfl) ((goes_ret (rows := []) (r := (AV.int .i64 (idxS p a0))) hB fn_txq_find_Message (rv := [.tmp 4]) (by kernel_rfl) (n := 4) (scr := [(10, .cf [] (AV.int .i64 (idxS p a0)))]) (keep := []) (by kernel_rfl) (allc (c_slices_IndexFunc_Message_b X fv n a0 p hp hg1) (allc (show rowsFlat [] from trivial) alln))))
theorem txq_find_Message_b_calls (X : Ctx E) (fv : FuncId) (n : Int) (a0 : (List T_Message)) {rows : List Ob} {r : AV} (h : ∀ C, Base Tryd.prog E C → txq_find_Message_b_at0 C fv n a0 rows r) : ACalls Tryd.prog E 56 [(AV.sl .p (a0.map T_Message.av)), (AV.fn fv [(AV.pin [(AV.int .i64 n)] 0)])] rows r :=
  acalls_of_goes X.env X.good fn_txq_find_Message (c := bodyOf Tryd.prog 56) (by kernel_rfl) (by kernel_rfl) (m := 6) (by kernel_rfl) h
theorem c_txq_find_Message_b (X : Ctx E) (fv : FuncId) (n : Int) (l : List T_Message) (p : T_Message → Bool) (hp : ∀ x : T_Message, ACalls Tryd.prog E fv [x.av, (AV.pin [(AV.int .i64 n)] 0)] [] (AV.bool (p x))) (hl : l.length ≤ 4611686018427387904) :
    ACalls Tryd.prog E n_txq_find_Message [(AV.sl .p (l.map T_Message.av)), (AV.fn fv [(AV.pin [(AV.int .i64 n)] 0)])] [] (AV.int .i64 (idxS p l)) :=
  txq_find_Message_b_calls X fv n l fun C hB => txq_find_Message_b_wp0 X hB fv n l p hp ⟨hl, rfl, rfl⟩

/-! ### omnibus/txq.find[omnibus/api.Message] -/
def txq_find_Message_c_at0 (C : C0) (fv : FuncId) (m : T_Message) (a0 : (List T_Message)) (rows : List Ob) (r : AV) : Prop := Goes Tryd.prog C 56 [.code (bodyOf Tryd.prog 56)] ([(AV.sl .p (a0.map T_Message.av)), (AV.fn fv [(AV.pin [(AV.bool m.Id_Ext), (AV.int .i64 m.Id_N), (AV.int .i64 m.Sender), (AV.int .i64 m.Inc), (AV.int .i64 m.Seq), (AV.int .i64 m.Number), (AV.str m.Data)] 0)])] ++ junks 6) [] rows r
theorem txq_find_Message_c_wp0 (X : Ctx E) (hB : Base Tryd.prog E C) (fv : FuncId) (m : T_Message) (a0 : (List T_Message)) (p : T_Message → Bool) (hp : ∀ x : T_Message, ACalls Tryd.prog E fv [x.av, (AV.pin [(AV.bool m.Id_Ext), (AV.int .i64 m.Id_N), (AV.int .i64 m.Sender), (AV.int .i64 m.Inc), (AV.int .i64 m.Seq), (AV.int .i64 m.Number), (AV.str m.Data)] 0)] [] (AV.bool (p x))) {rows : List Ob} {r : AV} (h : (a0.length ≤ 4611686018427387904) ∧ (rows = [] ∧ r = (AV.int .i64 (idxS p a0)))) : txq_find_Message_c_at0 C fv m a0 rows r := by
  unfold txq_find_Message_c_at0
  obtain ⟨hg1, h⟩ := h
  obtain ⟨h1, h2⟩ := h
  refine goes_eqR (h1.trans rfl) (h2.trans rfl) ((goes_ret (rows := []) (r := (AV.int .i64 (idxS p a0))) hB fn_txq_find_Message (rv := [.tmp 4]) (by kernel_rfl) (n := 4) (scr := [(10, .cf [] (AV.int .i64 (idxS p a0)))]) (keep := []) (by kernel_rfl) (allc (c_slices_IndexFunc_Message_c X fv m a0 p hp hg1) (allc (show rowsFlat [] from trivial) alln))))
theorem txq_find_Message_c_calls (X : Ctx E) (fv : FuncId) (m : T_Message) (a0 : (List T_Message)) {rows : List Ob} {r : AV} (h : ∀ C, Base Tryd.prog E C → txq_find_Message_c_at0 C fv m a0 rows r) : ACalls Tryd.prog E 56 [(AV.sl .p (a0.map T_Message.av)), (AV.fn fv [(AV.pin [(AV.bool m.Id_Ext), (AV.int .i64 m.Id_N), (AV.int .i64 m.Sender), (AV.int .i64 m.Inc), (AV.int .i64 m.Seq), (AV.int .i64 m.Number), (AV.str m.Data)] 0)])] rows r :=
  acalls_of_goes X.env X.good fn_txq_find_Message (c := bodyOf Tryd.prog 56) (by kernel_rfl) (by kernel_rfl) (m := 6) (by kernel_rfl) h
theorem c_txq_find_Message_c (X : Ctx E) (fv : FuncId) (m : T_Message) (l : List T_Message) (p : T_Message → Bool) (hp : ∀ x : T_Message, ACalls Tryd.prog E fv [x.av, (AV.pin m.av.cells 0)] [] (AV.bool (p x))) (hl : l.length ≤ 4611686018427387904) :
    ACalls Tryd.prog E n_txq_find_Message [(AV.sl .p (l.map T_Message.av)), (AV.fn fv [(AV.pin m.av.cells 0)])] [] (AV.int .i64 (idxS p l)) :=
  txq_find_Message_c_calls X fv m l fun C hB => txq_find_Message_c_wp0 X hB fv m l p hp ⟨hl, rfl, rfl⟩
end Go.Abs
