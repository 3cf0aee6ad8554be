/- Walks, printed by program. -/
import Derived.Test.YteocckoglkbonaaDoorW1
set_option linter.unusedVariables false
set_option linter.unusedSimpArgs false
set_option maxRecDepth 100000
namespace Go.Abs
open Go.Proofs
variable {E : Env} {C : C0}
/-! ### omnibus/omnibuslaw04.Message -/
theorem fn_law04_Message : Tryd.prog.funcs[61]? = some Tryd.f61 := by kernel_rfl
def law04_Message_at0 (C : C0) (a0 : T_a6_int) (a1 : ByteArray) (rows : List Ob) (r : AV) : Prop := Goes Tryd.prog C 61 [.code (bodyOf Tryd.prog 61)] ([(AV.agg [(AV.int .i64 a0.c0), (AV.int .i64 a0.c1), (AV.int .i64 a0.c2), (AV.int .i64 a0.c3), (AV.int .i64 a0.c4), (AV.int .i64 a0.c5)]), (AV.str a1)] ++ junks 45) [] rows r
theorem law04_Message_wp0 (X : Ctx E) (hB : Base Tryd.prog E C) (a0 : T_a6_int) (a1 : ByteArray) {rows : List Ob} {r : AV} (h : (I64 a0.c0) ∧ ((1 : Int) ≤ 5) ∧ (I64 a0.c1) ∧ ((1 : Int) ≤ 3) ∧ (I64 (pickS a0.c0 5)) ∧ ((1 : Int) ≤ 7) ∧ (((pickS a0.c1 7) = 6 → ((1 : Int) ≤ 2) ∧ (I64 a0.c2) ∧ ((1 : Int) ≤ 16) ∧ (I64 a0.c3) ∧ ((1 : Int) ≤ 65535) ∧ ((-9223372036854775808) ≤ (1 + (pickS a0.c3 65535)) ∧ (1 + (pickS a0.c3 65535)) ≤ 9223372036854775807) ∧ (I64 a0.c4) ∧ ((-9223372036854775808) ≤ (1 + (pickS a0.c4 65535)) ∧ (1 + (pickS a0.c4 65535)) ≤ 9223372036854775807) ∧ (I64 a0.c5) ∧ ((-9223372036854775808) ≤ (1 + (pickS a0.c5 65535)) ∧ (1 + (pickS a0.c5 65535)) ≤ 9223372036854775807) ∧ ((0 : Int) ≤ 0 ∧ (0 : Int) ≤ (if 8 < (a1.size : Int) then 8 else (a1.size : Int)) ∧ (if 8 < (a1.size : Int) then 8 else (a1.size : Int)) ≤ (a1.size : Int)) ∧ (rows = [] ∧ r = (AV.agg [(AV.bool (identS a0.c0 ((pickS a0.c1 2) == 0)).Ext), (AV.int .i64 (identS a0.c0 ((pickS a0.c1 2) == 0)).N), (AV.int .i64 (pickS a0.c2 16)), (AV.int .i64 (1 + (pickS a0.c3 65535))), (AV.int .i64 (1 + (pickS a0.c4 65535))), (AV.int .i64 (1 + (pickS a0.c5 65535))), (AV.str (a1.extract (0 : Int).toNat ((if 8 < (a1.size : Int) then 8 else (a1.size : Int)) : Int).toNat))]))) ∧ (¬ ((pickS a0.c1 7) = 6) → (I64 a0.c2) ∧ ((1 : Int) ≤ 16) ∧ (I64 a0.c3) ∧ ((1 : Int) ≤ 65535) ∧ ((-9223372036854775808) ≤ (1 + (pickS a0.c3 65535)) ∧ (1 + (pickS a0.c3 65535)) ≤ 9223372036854775807) ∧ (I64 a0.c4) ∧ ((-9223372036854775808) ≤ (1 + (pickS a0.c4 65535)) ∧ (1 + (pickS a0.c4 65535)) ≤ 9223372036854775807) ∧ (I64 a0.c5) ∧ ((-9223372036854775808) ≤ (1 + (pickS a0.c5 65535)) ∧ (1 + (pickS a0.c5 65535)) ≤ 9223372036854775807) ∧ ((0 : Int) ≤ 0 ∧ (0 : Int) ≤ (if 8 < (a1.size : Int) then 8 else (a1.size : Int)) ∧ (if 8 < (a1.size : Int) then 8 else (a1.size : Int)) ≤ (a1.size : Int)) ∧ (rows = [] ∧ r = (AV.agg [(AV.bool (identS (pickS a0.c0 5) ((pickS a0.c1 3) == 0)).Ext), (AV.int .i64 (identS (pickS a0.c0 5) ((pickS a0.c1 3) == 0)).N), (AV.int .i64 (pickS a0.c2 16)), (AV.int .i64 (1 + (pickS a0.c3 65535))), (AV.int .i64 (1 + (pickS a0.c4 65535))), (AV.int .i64 (1 + (pickS a0.c5 65535))), (AV.str (a1.extract (0 : Int).toNat ((if 8 < (a1.size : Int) then 8 else (a1.size : Int)) : Int).toNat))]))))) : law04_Message_at0 C a0 a1 rows r := by
  unfold law04_Message_at0
  obtain ⟨hg1, h⟩ := h
  obtain ⟨hg2, h⟩ := h
  obtain ⟨hg3, h⟩ := h
  obtain ⟨hg4, h⟩ := h
  obtain ⟨hg5, h⟩ := h
  obtain ⟨hg6, h⟩ := h
  rcases Classical.em ((pickS a0.c1 7) = 6) with hc7 | hc7
  · have h := h.1 hc7
    obtain ⟨hg8, h⟩ := h
    obtain ⟨hg9, h⟩ := h
    obtain ⟨hg10, h⟩ := h
    obtain ⟨hg11, h⟩ := h
    obtain ⟨hg12, h⟩ := h
    obtain ⟨hg13, h⟩ := h
    obtain ⟨hg14, h⟩ := h
    obtain ⟨hg15, h⟩ := h
    obtain ⟨hg16, h⟩ := h
    obtain ⟨hg17, h⟩ := h
    obtain ⟨hg18, h⟩ := h
    obtain ⟨h1, h2⟩ := h
    refine goes_eqR (h1.trans rfl) (h2.trans rfl) ((goes_ret (rows := []) (r := (AV.agg [(AV.bool (identS a0.c0 ((pickS a0.c1 2) == 0)).Ext), (AV.int .i64 (identS a0.c0 ((pickS a0.c1 2) == 0)).N), (AV.int .i64 (pickS a0.c2 16)), (AV.int .i64 (1 + (pickS a0.c3 65535))), (AV.int .i64 (1 + (pickS a0.c4 65535))), (AV.int .i64 (1 + (pickS a0.c5 65535))), (AV.str (a1.extract (0 : Int).toNat ((if 8 < (a1.size : Int) then 8 else (a1.size : Int)) : Int).toNat))])) hB fn_law04_Message (rv := [.cell 4 35]) (by kernel_rfl) (n := 11) (scr := [(13, .cf [] (AV.int .i64 (pickS a0.c0 5))), (22, .cf [] (AV.int .i64 (pickS a0.c1 3))), (28, .cf [] (AV.agg [(AV.bool (identS (pickS a0.c0 5) ((pickS a0.c1 3) == 0)).Ext), (AV.int .i64 (identS (pickS a0.c0 5) ((pickS a0.c1 3) == 0)).N)])), (43, .cf [] (AV.int .i64 (pickS a0.c1 7))), (48, .b true), (62, .cf [] (AV.int .i64 (pickS a0.c1 2))), (68, .cf [] (AV.agg [(AV.bool (identS a0.c0 ((pickS a0.c1 2) == 0)).Ext), (AV.int .i64 (identS a0.c0 ((pickS a0.c1 2) == 0)).N)])), (83, .cf [] (AV.int .i64 (pickS a0.c2 16))), (92, .cf [] (AV.int .i64 (pickS a0.c3 65535))), (96, .v (AV.int .i64 (1 + (pickS a0.c3 65535)))), (104, .cf [] (AV.int .i64 (pickS a0.c4 65535))), (108, .v (AV.int .i64 (1 + (pickS a0.c4 65535)))), (116, .cf [] (AV.int .i64 (pickS a0.c5 65535))), (120, .v (AV.int .i64 (1 + (pickS a0.c5 65535))))]) (keep := []) (by kernel_rfl) (allc hg18 (allc (wrap_i64 hg17) (allc (c_law04_pick X a0.c5 65535 hg16 hg12) (allc (show rowsFlat [] from trivial) (allc (show (0 : Int) ≤ 5 ∧ (5 : Int) < ((6 : Nat) : Int) from by decide) (allc (wrap_i64 hg15) (allc (c_law04_pick X a0.c4 65535 hg14 hg12) (allc (show rowsFlat [] from trivial) (allc (show (0 : Int) ≤ 4 ∧ (4 : Int) < ((6 : Nat) : Int) from by decide) (allc (wrap_i64 hg13) (allc (c_law04_pick X a0.c3 65535 hg11 hg12) (allc (show rowsFlat [] from trivial) (allc (show (0 : Int) ≤ 3 ∧ (3 : Int) < ((6 : Nat) : Int) from by decide) (allc (c_law04_pick X a0.c2 16 hg9 hg10) (allc (show rowsFlat [] from trivial) (allc (show (0 : Int) ≤ 2 ∧ (2 : Int) < ((6 : Nat) : Int) from by decide) (allc (c_law02_Ident X a0.c0 ((pickS a0.c1 2) == 0) hg1) (allc (show rowsFlat [] from trivial) (allc (c_law04_pick X a0.c1 2 hg3 hg8) (allc (show rowsFlat [] from trivial) (allc (show (0 : Int) ≤ 1 ∧ (1 : Int) < ((6 : Nat) : Int) from by decide) (allc (show (0 : Int) ≤ 0 ∧ (0 : Int) < ((6 : Nat) : Int) from by decide) (allc (ieqT hc7) (allc (c_law04_pick X a0.c1 7 hg3 hg6) (allc (show rowsFlat [] from trivial) (allc (show (0 : Int) ≤ 1 ∧ (1 : Int) < ((6 : Nat) : Int) from by decide) (allc (c_law02_Ident X (pickS a0.c0 5) ((pickS a0.c1 3) == 0) hg5) (allc (show rowsFlat [] from trivial) (allc (c_law04_pick X a0.c1 3 hg3 hg4) (allc (show rowsFlat [] from trivial) (allc (show (0 : Int) ≤ 1 ∧ (1 : Int) < ((6 : Nat) : Int) from by decide) (allc (c_law04_pick X a0.c0 5 hg1 hg2) (allc (show rowsFlat [] from trivial) (allc (show (0 : Int) ≤ 0 ∧ (0 : Int) < ((6 : Nat) : Int) from by decide) alln))))))))))))))))))))))))))))))))))))
  · have h := h.2 hc7
    obtain ⟨hg19, h⟩ := h
    obtain ⟨hg20, h⟩ := h
    obtain ⟨hg21, h⟩ := h
    obtain ⟨hg22, h⟩ := h
    obtain ⟨hg23, h⟩ := h
    obtain ⟨hg24, h⟩ := h
    obtain ⟨hg25, h⟩ := h
    obtain ⟨hg26, h⟩ := h
    obtain ⟨hg27, h⟩ := h
    obtain ⟨hg28, h⟩ := h
    obtain ⟨h1, h2⟩ := h
    refine goes_eqR (h1.trans rfl) (h2.trans rfl) ((goes_ret (rows := []) (r := (AV.agg [(AV.bool (identS (pickS a0.c0 5) ((pickS a0.c1 3) == 0)).Ext), (AV.int .i64 (identS (pickS a0.c0 5) ((pickS a0.c1 3) == 0)).N), (AV.int .i64 (pickS a0.c2 16)), (AV.int .i64 (1 + (pickS a0.c3 65535))), (AV.int .i64 (1 + (pickS a0.c4 65535))), (AV.int .i64 (1 + (pickS a0.c5 65535))), (AV.str (a1.extract (0 : Int).toNat ((if 8 < (a1.size : Int) then 8 else (a1.size : Int)) : Int).toNat))])) hB fn_law04_Message (rv := [.cell 4 35]) (by kernel_rfl) (n := 11) (scr := [(13, .cf [] (AV.int .i64 (pickS a0.c0 5))), (22, .cf [] (AV.int .i64 (pickS a0.c1 3))), (28, .cf [] (AV.agg [(AV.bool (identS (pickS a0.c0 5) ((pickS a0.c1 3) == 0)).Ext), (AV.int .i64 (identS (pickS a0.c0 5) ((pickS a0.c1 3) == 0)).N)])), (43, .cf [] (AV.int .i64 (pickS a0.c1 7))), (48, .b false), (59, .cf [] (AV.int .i64 (pickS a0.c2 16))), (68, .cf [] (AV.int .i64 (pickS a0.c3 65535))), (72, .v (AV.int .i64 (1 + (pickS a0.c3 65535)))), (80, .cf [] (AV.int .i64 (pickS a0.c4 65535))), (84, .v (AV.int .i64 (1 + (pickS a0.c4 65535)))), (92, .cf [] (AV.int .i64 (pickS a0.c5 65535))), (96, .v (AV.int .i64 (1 + (pickS a0.c5 65535))))]) (keep := []) (by kernel_rfl) (allc hg28 (allc (wrap_i64 hg27) (allc (c_law04_pick X a0.c5 65535 hg26 hg22) (allc (show rowsFlat [] from trivial) (allc (show (0 : Int) ≤ 5 ∧ (5 : Int) < ((6 : Nat) : Int) from by decide) (allc (wrap_i64 hg25) (allc (c_law04_pick X a0.c4 65535 hg24 hg22) (allc (show rowsFlat [] from trivial) (allc (show (0 : Int) ≤ 4 ∧ (4 : Int) < ((6 : Nat) : Int) from by decide) (allc (wrap_i64 hg23) (allc (c_law04_pick X a0.c3 65535 hg21 hg22) (allc (show rowsFlat [] from trivial) (allc (show (0 : Int) ≤ 3 ∧ (3 : Int) < ((6 : Nat) : Int) from by decide) (allc (c_law04_pick X a0.c2 16 hg19 hg20) (allc (show rowsFlat [] from trivial) (allc (show (0 : Int) ≤ 2 ∧ (2 : Int) < ((6 : Nat) : Int) from by decide) (allc (ieqF hc7) (allc (c_law04_pick X a0.c1 7 hg3 hg6) (allc (show rowsFlat [] from trivial) (allc (show (0 : Int) ≤ 1 ∧ (1 : Int) < ((6 : Nat) : Int) from by decide) (allc (c_law02_Ident X (pickS a0.c0 5) ((pickS a0.c1 3) == 0) hg5) (allc (show rowsFlat [] from trivial) (allc (c_law04_pick X a0.c1 3 hg3 hg4) (allc (show rowsFlat [] from trivial) (allc (show (0 : Int) ≤ 1 ∧ (1 : Int) < ((6 : Nat) : Int) from by decide) (allc (c_law04_pick X a0.c0 5 hg1 hg2) (allc (show rowsFlat [] from trivial) (allc (show (0 : Int) ≤ 0 ∧ (0 : Int) < ((6 : Nat) : Int) from by decide) alln))))))))))))))))))))))))))))))
theorem law04_Message_calls (X : Ctx E) (a0 : T_a6_int) (a1 : ByteArray) {rows : List Ob} {r : AV} (h : ∀ C, Base Tryd.prog E C → law04_Message_at0 C a0 a1 rows r) : ACalls Tryd.prog E 61 [(AV.agg [(AV.int .i64 a0.c0), (AV.int .i64 a0.c1), (AV.int .i64 a0.c2), (AV.int .i64 a0.c3), (AV.int .i64 a0.c4), (AV.int .i64 a0.c5)]), (AV.str a1)] rows r :=
  acalls_of_goes X.env X.good fn_law04_Message (c := bodyOf Tryd.prog 61) (by kernel_rfl) (by kernel_rfl) (m := 45) (by kernel_rfl) h
theorem c_law04_Message (X : Ctx E) (a : T_a6_int) (d : ByteArray) (ha : I6 a) : ACalls Tryd.prog E n_law04_Message [a.av, (AV.str d)] [] (messageS a d).av :=
  law04_Message_calls X a d fun C hB => law04_Message_wp0 X hB a d (by
    obtain ⟨h0, h1, h2, h3, h4, h5⟩ := ha
    have r3 := pickS_range h3 (n := 65535) (by omega)
    have r4 := pickS_range h4 (n := 65535) (by omega)
    have r5 := pickS_range h5 (n := 65535) (by omega)
    have hs : (0 : Int) ≤ 0 ∧ (0 : Int) ≤ (if 8 < (d.size : Int) then 8 else (d.size : Int)) ∧ (if 8 < (d.size : Int) then 8 else (d.size : Int)) ≤ (d.size : Int) := by split <;> omega
    refine ⟨h0, by omega, h1, by omega, pickS_I64 h0 (by omega) (by omega), by omega, fun h => ⟨by omega, h2, by omega, h3, by omega, by omega, h4, by omega, h5, by omega, hs, rfl, ?_⟩, fun h => ⟨h2, by omega, h3, by omega, by omega, h4, by omega, h5, by omega, hs, rfl, ?_⟩⟩
    · simp only [messageS, messageId, h, if_true, T_Message.av]
    · simp only [messageS, messageId, h, if_false, T_Message.av])
end Go.Abs
