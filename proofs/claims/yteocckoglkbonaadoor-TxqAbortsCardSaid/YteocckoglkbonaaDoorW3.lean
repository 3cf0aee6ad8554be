/- Walks, printed by program. -/
import Derived.Test.YteocckoglkbonaaDoorW2
set_option linter.unusedVariables false
set_option linter.unusedSimpArgs false
set_option maxRecDepth 100000
namespace Go.Abs
open Go.Proofs
variable {E : Env} {C : C0}
/-! ### omnibus/txq.Right -/
theorem fn_txq_Right : Tryd.prog.funcs[52]? = some Tryd.f52 := by kernel_rfl
def txq_Right_at0 (C : C0) (a0 : T_Queue) (rows : List Ob) (r : AV) : Prop := Goes Tryd.prog C 52 [.code (bodyOf Tryd.prog 52)] ([(AV.agg [(AV.int .i64 a0.Limit), (AV.sl .p (a0.Msgs.map T_Message.av))])] ++ junks 55) [] rows r
def txq_Right_at1 (C : C0) (v0 : (List T_Message)) (v1 : Int) (v2 : Int) (v3 : T_Queue) (v4 : (List Int)) (rows : List Ob) (r : AV) : Prop := Goes Tryd.prog C 52 (ctl 14 [.code (bodyOf Tryd.prog 52)] [false]) (([AV.junk, (AV.ptr 0 0), AV.junk, (AV.own 1), AV.junk, AV.junk, AV.junk, AV.junk, AV.junk, AV.junk, AV.junk, AV.junk, AV.junk, AV.junk, AV.junk, AV.junk, AV.junk, AV.junk, AV.junk, AV.junk, (AV.sl .p (v0.map T_Message.av)), (AV.int .i64 v1), (AV.int .i64 v2)] ++ junks 33)) [(Ob.box 26 [(AV.int .i64 v3.Limit), (AV.sl .p (v3.Msgs.map T_Message.av))]), (Ob.mp v4)] rows r
theorem txq_Right_wp0 (X : Ctx E) (hB : Base Tryd.prog E C) (a0 : T_Queue) {rows : List Ob} {r : AV} (h : (((mayS a0.Limit) = true → (((a0.Msgs.length : Int) > a0.Limit → (rows = [] ∧ r = (AV.bool false))) ∧ (¬ ((a0.Msgs.length : Int) > a0.Limit) → (txq_Right_at1 C a0.Msgs (a0.Msgs.length : Int) 0 a0 [] rows r)))) ∧ (¬ ((mayS a0.Limit) = true) → (rows = [] ∧ r = (AV.bool false))))) : txq_Right_at0 C a0 rows r := by
  unfold txq_Right_at0
  rcases Classical.em ((mayS a0.Limit) = true) with hc1 | hc1
  · have h := h.1 hc1
    rcases Classical.em ((a0.Msgs.length : Int) > a0.Limit) with hc2 | hc2
    · have h := h.1 hc2
      obtain ⟨h1, h2⟩ := h
      refine goes_eqR (h1.trans rfl) (h2.trans rfl) ((goes_ret (rows := []) (r := (AV.bool false)) hB fn_txq_Right (rv := [.tmp 2]) (by kernel_rfl) (n := 8) (scr := [(13, .cf [] (AV.bool (mayS a0.Limit))), (21, .b false), (24, .b false), (27, .b false), (29, .v (AV.int .i64 (a0.Msgs.length : Int))), (30, .b false), (33, .b false), (36, .b false), (40, .b false), (42, .b true)]) (keep := []) (by kernel_rfl) (allc (decide_eq_true hc2) (allc (congrArg not hc1) (allc (congrArg not hc1) (allc (congrArg not hc1) (allc (congrArg not hc1) (allc (len_raw (show (a0.Msgs.map T_Message.av) = (a0.Msgs.map T_Message.av) from rfl)) (allc (congrArg not hc1) (allc (congrArg not hc1) (allc (congrArg not hc1) (allc (c_txq_may X a0.Limit) (allc (show rowsFlat [] from trivial) alln)))))))))))))
    · have h := h.2 hc2
      refine goes_cut hB (n := 14) (scr := [(13, .cf [] (AV.bool (mayS a0.Limit))), (21, .b false), (24, .b false), (27, .b false), (29, .v (AV.int .i64 (a0.Msgs.length : Int))), (30, .b false), (33, .b false), (36, .b false), (40, .b false), (42, .b false), (57, .v (AV.int .i64 (a0.Msgs.length : Int)))]) (live := [1, 3, 20, 21, 22]) (keep := [0, 1]) (todo' := (ctl 14 [.code (bodyOf Tryd.prog 52)] [false])) (ts' := ([AV.junk, (AV.ptr 0 0), AV.junk, (AV.own 1), AV.junk, AV.junk, AV.junk, AV.junk, AV.junk, AV.junk, AV.junk, AV.junk, AV.junk, AV.junk, AV.junk, AV.junk, AV.junk, AV.junk, AV.junk, AV.junk, (AV.sl .p (a0.Msgs.map T_Message.av)), (AV.int .i64 (a0.Msgs.length : Int)), (AV.int .i64 0)] ++ junks 33)) (h' := [(Ob.box 26 [(AV.int .i64 a0.Limit), (AV.sl .p (a0.Msgs.map T_Message.av))]), (Ob.mp [])]) (by kernel_rfl) (allc (len_raw (show (a0.Msgs.map T_Message.av) = (a0.Msgs.map T_Message.av) from rfl)) (allc (decide_eq_false hc2) (allc (congrArg not hc1) (allc (congrArg not hc1) (allc (congrArg not hc1) (allc (congrArg not hc1) (allc (len_raw (show (a0.Msgs.map T_Message.av) = (a0.Msgs.map T_Message.av) from rfl)) (allc (congrArg not hc1) (allc (congrArg not hc1) (allc (congrArg not hc1) (allc (c_txq_may X a0.Limit) (allc (show rowsFlat [] from trivial) alln)))))))))))) (goes_eqS rfl rfl h)
  · have h := h.2 hc1
    obtain ⟨h1, h2⟩ := h
    refine goes_eqR (h1.trans rfl) (h2.trans rfl) ((goes_ret (rows := []) (r := (AV.bool false)) hB fn_txq_Right (rv := [.tmp 2]) (by kernel_rfl) (n := 8) (scr := [(13, .cf [] (AV.bool (mayS a0.Limit))), (21, .b true), (24, .b true), (27, .b true), (30, .b true), (33, .b true), (36, .b true), (40, .b true)]) (keep := []) (by kernel_rfl) (allc (congrArg not (bF hc1)) (allc (congrArg not (bF hc1)) (allc (congrArg not (bF hc1)) (allc (congrArg not (bF hc1)) (allc (congrArg not (bF hc1)) (allc (congrArg not (bF hc1)) (allc (congrArg not (bF hc1)) (allc (c_txq_may X a0.Limit) (allc (show rowsFlat [] from trivial) alln)))))))))))
theorem txq_Right_wp1 (X : Ctx E) (hB : Base Tryd.prog E C) (v0 : (List T_Message)) (v1 : Int) (v2 : Int) (v3 : T_Queue) (v4 : (List Int)) {rows : List Ob} {r : AV} (h : ((v2 < v1 → ∃ y4 : T_Message, 0 ≤ (v2 : Int) ∧ v0[v2.toNat]? = some y4 ∧ (((msgRight y4) = true → ((v2 > 0 → ((-9223372036854775808) ≤ (v2 - 1) ∧ (v2 - 1) ≤ 9223372036854775807) ∧ ∃ y10 : T_Message, 0 ≤ ((v2 - 1) : Int) ∧ v3.Msgs[(v2 - 1).toNat]? = some y10 ∧ (((msgLess y10 y4) = true → (v4.length < 9223372036854775807) ∧ ((-9223372036854775808) ≤ (v2 + 1) ∧ (v2 + 1) ≤ 9223372036854775807) ∧ (txq_Right_at1 C v0 v1 (v2 + 1) v3 (addK y4.Number v4) rows r)) ∧ (¬ ((msgLess y10 y4) = true) → (rows = [] ∧ r = (AV.bool false))))) ∧ (¬ (v2 > 0) → (v4.length < 9223372036854775807) ∧ ((-9223372036854775808) ≤ (v2 + 1) ∧ (v2 + 1) ≤ 9223372036854775807) ∧ (txq_Right_at1 C v0 v1 (v2 + 1) v3 (addK y4.Number v4) rows r)))) ∧ (¬ ((msgRight y4) = true) → (rows = [] ∧ r = (AV.bool false))))) ∧ (¬ (v2 < v1) → (rows = [] ∧ r = (AV.bool ((v4.length : Int) == (v3.Msgs.length : Int))))))) : txq_Right_at1 C v0 v1 v2 v3 v4 rows r := by
  unfold txq_Right_at1
  rcases Classical.em (v2 < v1) with hc3 | hc3
  · have h := h.1 hc3
    obtain ⟨y4, hg5, he6, h⟩ := h
    rcases Classical.em ((msgRight y4) = true) with hc7 | hc7
    · have h := h.1 hc7
      rcases Classical.em (v2 > 0) with hc8 | hc8
      · have h := h.1 hc8
        obtain ⟨hg9, h⟩ := h
        obtain ⟨y10, hg11, he12, h⟩ := h
        rcases Classical.em ((msgLess y10 y4) = true) with hc13 | hc13
        · have h := h.1 hc13
          obtain ⟨hg14, h⟩ := h
          obtain ⟨hg15, h⟩ := h
          refine goes_cut hB (n := 18) (scr := [(3, .b true), (8, .e (AV.agg [(AV.bool y4.Id_Ext), (AV.int .i64 y4.Id_N), (AV.int .i64 y4.Sender), (AV.int .i64 y4.Inc), (AV.int .i64 y4.Seq), (AV.int .i64 y4.Number), (AV.str y4.Data)])), (26, .cf [] (AV.bool (msgRight y4))), (34, .b false), (37, .b false), (40, .b false), (43, .b true), (46, .b true), (49, .b true), (52, .b true), (54, .v (AV.int .i64 (v2 - 1))), (55, .b true), (56, .e (AV.agg [(AV.bool y10.Id_Ext), (AV.int .i64 y10.Id_N), (AV.int .i64 y10.Sender), (AV.int .i64 y10.Inc), (AV.int .i64 y10.Seq), (AV.int .i64 y10.Number), (AV.str y10.Data)])), (58, .b true), (61, .b true), (64, .b true), (65, .cf [] (AV.bool (msgLess y10 y4))), (67, .b true), (70, .b false), (71, .b true), (74, .b false), (76, .b false), (94, .v (AV.int .i64 (v2 + 1)))]) (live := [1, 3, 20, 21, 22]) (keep := [0, 1]) (todo' := (ctl 14 [.code (bodyOf Tryd.prog 52)] [false])) (ts' := ([AV.junk, (AV.ptr 0 0), AV.junk, (AV.own 1), AV.junk, AV.junk, AV.junk, AV.junk, AV.junk, AV.junk, AV.junk, AV.junk, AV.junk, AV.junk, AV.junk, AV.junk, AV.junk, AV.junk, AV.junk, AV.junk, (AV.sl .p (v0.map T_Message.av)), (AV.int .i64 v1), (AV.int .i64 (v2 + 1))] ++ junks 33)) (h' := [(Ob.box 26 [(AV.int .i64 v3.Limit), (AV.sl .p (v3.Msgs.map T_Message.av))]), (Ob.mp (addK y4.Number v4))]) (by kernel_rfl) (allc (wrap_i64 hg15) (allc hg14 (allc (congrArg not hc13) (allc (congrArg not hc7) (allc (decide_eq_true hc8) (allc (congrArg not hc7) (allc (decide_eq_true hc8) (allc (c_msg_Less X y10 y4) (allc (show rowsFlat [] from trivial) (allc (decide_eq_true hc8) (allc (decide_eq_true hc8) (allc (decide_eq_true hc8) (allc (And.intro hg11 (get_raw (show (v3.Msgs.map T_Message.av) = (v3.Msgs.map T_Message.av) from rfl) he12)) (allc (decide_eq_true hc8) (allc (wrap_i64 hg9) (allc (decide_eq_true hc8) (allc (decide_eq_true hc8) (allc (decide_eq_true hc8) (allc (decide_eq_true hc8) (allc (congrArg not hc7) (allc (congrArg not hc7) (allc (congrArg not hc7) (allc (c_msg_Right X y4) (allc (show rowsFlat [] from trivial) (allc (And.intro hg5 (get_raw (show (v0.map T_Message.av) = (v0.map T_Message.av) from rfl) he6)) (allc (decide_eq_true hc3) alln)))))))))))))))))))))))))) (goes_eqS rfl rfl h)
        · have h := h.2 hc13
          obtain ⟨h1, h2⟩ := h
          refine goes_eqR (h1.trans rfl) (h2.trans rfl) ((goes_ret (rows := []) (r := (AV.bool false)) hB fn_txq_Right (rv := [.tmp 2]) (by kernel_rfl) (n := 15) (scr := [(3, .b true), (8, .e (AV.agg [(AV.bool y4.Id_Ext), (AV.int .i64 y4.Id_N), (AV.int .i64 y4.Sender), (AV.int .i64 y4.Inc), (AV.int .i64 y4.Seq), (AV.int .i64 y4.Number), (AV.str y4.Data)])), (26, .cf [] (AV.bool (msgRight y4))), (34, .b false), (37, .b false), (40, .b false), (43, .b true), (46, .b true), (49, .b true), (52, .b true), (54, .v (AV.int .i64 (v2 - 1))), (55, .b true), (56, .e (AV.agg [(AV.bool y10.Id_Ext), (AV.int .i64 y10.Id_N), (AV.int .i64 y10.Sender), (AV.int .i64 y10.Inc), (AV.int .i64 y10.Seq), (AV.int .i64 y10.Number), (AV.str y10.Data)])), (58, .b true), (61, .b true), (64, .b true), (65, .cf [] (AV.bool (msgLess y10 y4))), (67, .b true), (70, .b false), (71, .b true), (74, .b false), (76, .b true)]) (keep := []) (by kernel_rfl) (allc (congrArg not (bF hc13)) (allc (congrArg not hc7) (allc (decide_eq_true hc8) (allc (congrArg not hc7) (allc (decide_eq_true hc8) (allc (c_msg_Less X y10 y4) (allc (show rowsFlat [] from trivial) (allc (decide_eq_true hc8) (allc (decide_eq_true hc8) (allc (decide_eq_true hc8) (allc (And.intro hg11 (get_raw (show (v3.Msgs.map T_Message.av) = (v3.Msgs.map T_Message.av) from rfl) he12)) (allc (decide_eq_true hc8) (allc (wrap_i64 hg9) (allc (decide_eq_true hc8) (allc (decide_eq_true hc8) (allc (decide_eq_true hc8) (allc (decide_eq_true hc8) (allc (congrArg not hc7) (allc (congrArg not hc7) (allc (congrArg not hc7) (allc (c_msg_Right X y4) (allc (show rowsFlat [] from trivial) (allc (And.intro hg5 (get_raw (show (v0.map T_Message.av) = (v0.map T_Message.av) from rfl) he6)) (allc (decide_eq_true hc3) alln))))))))))))))))))))))))))
      · have h := h.2 hc8
        obtain ⟨hg16, h⟩ := h
        obtain ⟨hg17, h⟩ := h
        refine goes_cut hB (n := 18) (scr := [(3, .b true), (8, .e (AV.agg [(AV.bool y4.Id_Ext), (AV.int .i64 y4.Id_N), (AV.int .i64 y4.Sender), (AV.int .i64 y4.Inc), (AV.int .i64 y4.Seq), (AV.int .i64 y4.Number), (AV.str y4.Data)])), (26, .cf [] (AV.bool (msgRight y4))), (34, .b false), (37, .b false), (40, .b false), (43, .b false), (46, .b false), (49, .b false), (52, .b false), (55, .b false), (58, .b false), (61, .b false), (64, .b false), (67, .b false), (70, .b false), (71, .b false), (74, .b false), (94, .v (AV.int .i64 (v2 + 1)))]) (live := [1, 3, 20, 21, 22]) (keep := [0, 1]) (todo' := (ctl 14 [.code (bodyOf Tryd.prog 52)] [false])) (ts' := ([AV.junk, (AV.ptr 0 0), AV.junk, (AV.own 1), AV.junk, AV.junk, AV.junk, AV.junk, AV.junk, AV.junk, AV.junk, AV.junk, AV.junk, AV.junk, AV.junk, AV.junk, AV.junk, AV.junk, AV.junk, AV.junk, (AV.sl .p (v0.map T_Message.av)), (AV.int .i64 v1), (AV.int .i64 (v2 + 1))] ++ junks 33)) (h' := [(Ob.box 26 [(AV.int .i64 v3.Limit), (AV.sl .p (v3.Msgs.map T_Message.av))]), (Ob.mp (addK y4.Number v4))]) (by kernel_rfl) (allc (wrap_i64 hg17) (allc hg16 (allc (congrArg not hc7) (allc (decide_eq_false hc8) (allc (congrArg not hc7) (allc (decide_eq_false hc8) (allc (decide_eq_false hc8) (allc (decide_eq_false hc8) (allc (decide_eq_false hc8) (allc (decide_eq_false hc8) (allc (decide_eq_false hc8) (allc (decide_eq_false hc8) (allc (decide_eq_false hc8) (allc (decide_eq_false hc8) (allc (congrArg not hc7) (allc (congrArg not hc7) (allc (congrArg not hc7) (allc (c_msg_Right X y4) (allc (show rowsFlat [] from trivial) (allc (And.intro hg5 (get_raw (show (v0.map T_Message.av) = (v0.map T_Message.av) from rfl) he6)) (allc (decide_eq_true hc3) alln))))))))))))))))))))) (goes_eqS rfl rfl h)
    · have h := h.2 hc7
      obtain ⟨h1, h2⟩ := h
      refine goes_eqR (h1.trans rfl) (h2.trans rfl) ((goes_ret (rows := []) (r := (AV.bool false)) hB fn_txq_Right (rv := [.tmp 2]) (by kernel_rfl) (n := 15) (scr := [(3, .b true), (8, .e (AV.agg [(AV.bool y4.Id_Ext), (AV.int .i64 y4.Id_N), (AV.int .i64 y4.Sender), (AV.int .i64 y4.Inc), (AV.int .i64 y4.Seq), (AV.int .i64 y4.Number), (AV.str y4.Data)])), (26, .cf [] (AV.bool (msgRight y4))), (34, .b true), (37, .b true), (40, .b true), (70, .b true), (74, .b true)]) (keep := []) (by kernel_rfl) (allc (congrArg not (bF hc7)) (allc (congrArg not (bF hc7)) (allc (congrArg not (bF hc7)) (allc (congrArg not (bF hc7)) (allc (congrArg not (bF hc7)) (allc (c_msg_Right X y4) (allc (show rowsFlat [] from trivial) (allc (And.intro hg5 (get_raw (show (v0.map T_Message.av) = (v0.map T_Message.av) from rfl) he6)) (allc (decide_eq_true hc3) alln)))))))))))
  · have h := h.2 hc3
    obtain ⟨h1, h2⟩ := h
    refine goes_eqR (h1.trans rfl) (h2.trans rfl) ((goes_ret (rows := []) (r := (AV.bool ((v4.length : Int) == (v3.Msgs.length : Int)))) hB fn_txq_Right (rv := [.tmp 2]) (by kernel_rfl) (n := 7) (scr := [(3, .b false), (18, .v (AV.int .i64 (v3.Msgs.length : Int)))]) (keep := []) (by kernel_rfl) (allc (len_raw (show (v3.Msgs.map T_Message.av) = (v3.Msgs.map T_Message.av) from rfl)) (allc (decide_eq_false hc3) alln))))
theorem txq_Right_calls (X : Ctx E) (a0 : T_Queue) {rows : List Ob} {r : AV} (h : ∀ C, Base Tryd.prog E C → txq_Right_at0 C a0 rows r) : ACalls Tryd.prog E 52 [(AV.agg [(AV.int .i64 a0.Limit), (AV.sl .p (a0.Msgs.map T_Message.av))])] rows r :=
  acalls_of_goes X.env X.good fn_txq_Right (c := bodyOf Tryd.prog 52) (by kernel_rfl) (by kernel_rfl) (m := 55) (by kernel_rfl) h
def QP (l : List T_Message) (i : Nat) : Prop := ∀ (j : Nat) (y : T_Message), j < i → l[j]? = some y → msgRight y = true ∧ (0 < j → ∀ x, l[j - 1]? = some x → msgLess x y = true)
theorem right_loop (X : Ctx E) (hB : Base Tryd.prog E C) (q : T_Queue) (hlim : 1 ≤ q.Limit ∧ q.Limit ≤ 32) (hlen : (q.Msgs.length : Int) ≤ q.Limit) :
    ∀ (k i : Nat), q.Msgs.length - i = k → i ≤ q.Msgs.length → QP q.Msgs i → txq_Right_at1 C q.Msgs (q.Msgs.length : Int) (i : Int) q (nums (q.Msgs.take i)) [] (AV.bool (@decide (QR q) (Classical.propDecidable _))) := by
  intro k
  induction k with
  | zero =>
    intro i h1 h2 h3
    have hi : i = q.Msgs.length := by omega
    refine txq_Right_wp1 X hB _ _ _ _ _ ⟨fun h => by omega, fun _ => ⟨rfl, ?_⟩⟩
    rw [hi, List.take_length]
    by_cases hn : (nums q.Msgs).length = q.Msgs.length
    · have hq : QR q := ⟨hlim, hlen, fun j y hy => h3 j y (by rw [hi]; exact (List.getElem?_eq_some_iff.1 hy).1) hy, hn⟩
      rw [pdecT hq]
      simp [hn]
    · rw [pdecF (fun (hq : QR q) => hn hq.2.2.2)]
      have : ((nums q.Msgs).length : Int) ≠ (q.Msgs.length : Int) := by omega
      simp [this]
  | succ k ih =>
    intro i h1 h2 h3
    have hi : i < q.Msgs.length := by omega
    have hnl : (nums (q.Msgs.take i)).length < 9223372036854775807 := by have := nums_length (q.Msgs.take i); simp at this; omega
    have hget : q.Msgs[(i : Int).toNat]? = some q.Msgs[i] := by simp [hi]
    have next : msgRight q.Msgs[i] = true → (0 < i → ∀ x, q.Msgs[i - 1]? = some x → msgLess x q.Msgs[i] = true) →
        txq_Right_at1 C q.Msgs (q.Msgs.length : Int) ((i : Int) + 1) q (addK q.Msgs[i].Number (nums (q.Msgs.take i))) [] (AV.bool (@decide (QR q) (Classical.propDecidable _))) := by
      intro hr hl
      have := ih (i + 1) (by omega) (by omega) (fun j y hj hy => by
        by_cases hji : j = i
        · subst hji
          rw [List.getElem?_eq_getElem hi] at hy
          cases hy
          exact ⟨hr, hl⟩
        · exact h3 j y (by omega) hy)
      rw [← List.take_append_getElem hi, nums_snoc] at this
      exact this
    have bad : ¬ (msgRight q.Msgs[i] = true ∧ (0 < i → ∀ x, q.Msgs[i - 1]? = some x → msgLess x q.Msgs[i] = true)) → (AV.bool (@decide (QR q) (Classical.propDecidable _))) = AV.bool false := by
      intro hn
      rw [pdecF (fun (hq : QR q) => hn (hq.2.2.1 i _ (by simp [hi])))]
    refine txq_Right_wp1 X hB _ _ _ _ _ ⟨fun h => ⟨q.Msgs[i], by omega, hget, fun hr => ⟨fun hpos => ⟨by omega, q.Msgs[i - 1], by omega, ?_, fun hl => ⟨hnl, by omega, ?_⟩, fun hl => ⟨rfl, ?_⟩⟩, fun hpos => ⟨hnl, by omega, ?_⟩⟩, fun hr => ⟨rfl, ?_⟩⟩, fun h => by omega⟩
    · rw [show ((i : Int) - 1).toNat = i - 1 by omega]; simp [show i - 1 < q.Msgs.length by omega]
    · exact next hr (fun _ x hx => by rw [List.getElem?_eq_getElem (show i - 1 < q.Msgs.length by omega)] at hx; cases hx; exact hl)
    · exact bad (fun hb => hl (hb.2 (by omega) _ (by simp [show i - 1 < q.Msgs.length by omega])))
    · exact next hr (fun h0 => by omega)
    · exact bad (fun hb => hr hb.1)
theorem c_txq_Right (X : Ctx E) (q : T_Queue) (hl : q.Msgs.length ≤ 4611686018427387904) : ACalls Tryd.prog E n_txq_Right [q.av] [] (AV.bool (@decide (QR q) (Classical.propDecidable _))) :=
  txq_Right_calls X q fun C hB => txq_Right_wp0 X hB q ⟨fun hm => ⟨fun h => ⟨rfl, by rw [pdecF (fun (hq : QR q) => by have := hq.2.1; omega)]⟩,
    fun h => right_loop X hB q (by simpa [mayS] using hm) (by omega) q.Msgs.length 0 (by omega) (by omega) (fun j y hj => by omega)⟩,
    fun hm => ⟨rfl, by rw [pdecF (fun (hq : QR q) => hm (by simpa [mayS] using hq.1))]⟩⟩

/-! ### omnibus/txq.New -/
theorem fn_txq_New : Tryd.prog.funcs[17]? = some Tryd.f17 := by kernel_rfl
def txq_New_at0 (C : C0) (a0 : Int) (rows : List Ob) (r : AV) : Prop := Goes Tryd.prog C 17 [.code (bodyOf Tryd.prog 17)] ([(AV.int .i64 a0)] ++ junks 9) [] rows r
theorem txq_New_wp0 (X : Ctx E) (hB : Base Tryd.prog E C) (a0 : Int) {rows : List Ob} {r : AV} (h : (((mayS a0) = true → (rows = [] ∧ r = (AV.tup [(AV.agg [(AV.int .i64 a0), (AV.sl .n [])]), (AV.int .i64 0)]))) ∧ (¬ ((mayS a0) = true) → (rows = [] ∧ r = (AV.tup [(AV.agg [(AV.int .i64 0), (AV.sl .n [])]), (AV.int .i64 1)]))))) : txq_New_at0 C a0 rows r := by
  unfold txq_New_at0
  rcases Classical.em ((mayS a0) = true) with hc1 | hc1
  · have h := h.1 hc1
    obtain ⟨h1, h2⟩ := h
    refine goes_eqR (h1.trans rfl) (h2.trans rfl) ((goes_ret (rows := []) (r := (AV.tup [(AV.agg [(AV.int .i64 a0), (AV.sl .n [])]), (AV.int .i64 0)])) hB fn_txq_New (rv := [.cell 2 26, .tmp 3]) (by kernel_rfl) (n := 9) (scr := [(10, .cf [] (AV.bool (mayS a0))), (15, .b false)]) (keep := []) (by kernel_rfl) (allc (congrArg not hc1) (allc (c_txq_may X a0) (allc (show rowsFlat [] from trivial) alln)))))
  · have h := h.2 hc1
    obtain ⟨h1, h2⟩ := h
    refine goes_eqR (h1.trans rfl) (h2.trans rfl) ((goes_ret (rows := []) (r := (AV.tup [(AV.agg [(AV.int .i64 0), (AV.sl .n [])]), (AV.int .i64 1)])) hB fn_txq_New (rv := [.cell 2 26, .tmp 3]) (by kernel_rfl) (n := 8) (scr := [(10, .cf [] (AV.bool (mayS a0))), (15, .b true)]) (keep := []) (by kernel_rfl) (allc (congrArg not (bF hc1)) (allc (c_txq_may X a0) (allc (show rowsFlat [] from trivial) alln)))))
theorem txq_New_calls (X : Ctx E) (a0 : Int) {rows : List Ob} {r : AV} (h : ∀ C, Base Tryd.prog E C → txq_New_at0 C a0 rows r) : ACalls Tryd.prog E 17 [(AV.int .i64 a0)] rows r :=
  acalls_of_goes X.env X.good fn_txq_New (c := bodyOf Tryd.prog 17) (by kernel_rfl) (by kernel_rfl) (m := 9) (by kernel_rfl) h
theorem c_txq_New (X : Ctx E) (a : Int) : ACalls Tryd.prog E n_txq_New [(AV.int .i64 a)] [] (AV.tup [AV.agg [AV.int .i64 (newQ a).1, AV.sl .n []], AV.int .i64 (newQ a).2]) :=
  txq_New_calls X a fun C hB => txq_New_wp0 X hB a ⟨fun h => ⟨rfl, by simp [newQ, h]⟩, fun h => ⟨rfl, by simp [newQ, h]⟩⟩

/-! ### omnibus/txq.First -/
theorem fn_txq_First : Tryd.prog.funcs[22]? = some Tryd.f22 := by kernel_rfl
def txq_First_at0 (C : C0) (a0 : T_Queue) (rows : List Ob) (r : AV) : Prop := Goes Tryd.prog C 22 [.code (bodyOf Tryd.prog 22)] ([(AV.agg [(AV.int .i64 a0.Limit), (AV.sl .p (a0.Msgs.map T_Message.av))])] ++ junks 17) [] rows r
theorem txq_First_wp0 (X : Ctx E) (hB : Base Tryd.prog E C) (a0 : T_Queue) {rows : List Ob} {r : AV} (h : (a0.Msgs.length ≤ 4611686018427387904) ∧ ((QR a0 → (((a0.Msgs.length : Int) = 0 → (rows = [] ∧ r = (AV.tup [(AV.agg [(AV.bool false), (AV.int .i64 0), (AV.int .i64 0), (AV.int .i64 0), (AV.int .i64 0), (AV.int .i64 0), (AV.str (⟨#[]⟩ : ByteArray))]), (AV.bool false)]))) ∧ (¬ ((a0.Msgs.length : Int) = 0) → ∃ y4 : T_Message, 0 ≤ (0 : Int) ∧ a0.Msgs[0]? = some y4 ∧ (rows = [] ∧ r = (AV.tup [(AV.agg [(AV.bool y4.Id_Ext), (AV.int .i64 y4.Id_N), (AV.int .i64 y4.Sender), (AV.int .i64 y4.Inc), (AV.int .i64 y4.Seq), (AV.int .i64 y4.Number), (AV.str y4.Data)]), (AV.bool true)]))))) ∧ (¬ (QR a0) → (rows = [] ∧ r = (AV.tup [(AV.agg [(AV.bool false), (AV.int .i64 0), (AV.int .i64 0), (AV.int .i64 0), (AV.int .i64 0), (AV.int .i64 0), (AV.str (⟨#[]⟩ : ByteArray))]), (AV.bool false)]))))) : txq_First_at0 C a0 rows r := by
  unfold txq_First_at0
  obtain ⟨hg1, h⟩ := h
  rcases Classical.em (QR a0) with hc2 | hc2
  · have h := h.1 hc2
    rcases Classical.em ((a0.Msgs.length : Int) = 0) with hc3 | hc3
    · have h := h.1 hc3
      obtain ⟨h1, h2⟩ := h
      refine goes_eqR (h1.trans rfl) (h2.trans rfl) ((goes_ret (rows := []) (r := (AV.tup [(AV.agg [(AV.bool false), (AV.int .i64 0), (AV.int .i64 0), (AV.int .i64 0), (AV.int .i64 0), (AV.int .i64 0), (AV.str (⟨#[]⟩ : ByteArray))]), (AV.bool false)])) hB fn_txq_First (rv := [.cell 2 35, .tmp 3]) (by kernel_rfl) (n := 8) (scr := [(13, .cf [] (AV.bool (@decide (QR a0) (Classical.propDecidable _)))), (21, .b false), (24, .b false), (27, .b false), (29, .v (AV.int .i64 (a0.Msgs.length : Int))), (30, .b false), (34, .b false), (36, .b true)]) (keep := []) (by kernel_rfl) (allc (ieqT hc3) (allc (congrArg not (pdecT hc2)) (allc (congrArg not (pdecT hc2)) (allc (len_raw (show (a0.Msgs.map T_Message.av) = (a0.Msgs.map T_Message.av) from rfl)) (allc (congrArg not (pdecT hc2)) (allc (congrArg not (pdecT hc2)) (allc (congrArg not (pdecT hc2)) (allc (c_txq_Right X a0 hg1) (allc (show rowsFlat [] from trivial) alln)))))))))))
    · have h := h.2 hc3
      obtain ⟨y4, hg5, he6, h⟩ := h
      obtain ⟨h1, h2⟩ := h
      refine goes_eqR (h1.trans rfl) (h2.trans rfl) ((goes_ret (rows := []) (r := (AV.tup [(AV.agg [(AV.bool y4.Id_Ext), (AV.int .i64 y4.Id_N), (AV.int .i64 y4.Sender), (AV.int .i64 y4.Inc), (AV.int .i64 y4.Seq), (AV.int .i64 y4.Number), (AV.str y4.Data)]), (AV.bool true)])) hB fn_txq_First (rv := [.cell 2 35, .tmp 3]) (by kernel_rfl) (n := 9) (scr := [(13, .cf [] (AV.bool (@decide (QR a0) (Classical.propDecidable _)))), (21, .b false), (24, .b false), (27, .b false), (29, .v (AV.int .i64 (a0.Msgs.length : Int))), (30, .b false), (34, .b false), (36, .b false), (44, .e (AV.agg [(AV.bool y4.Id_Ext), (AV.int .i64 y4.Id_N), (AV.int .i64 y4.Sender), (AV.int .i64 y4.Inc), (AV.int .i64 y4.Seq), (AV.int .i64 y4.Number), (AV.str y4.Data)]))]) (keep := []) (by kernel_rfl) (allc (And.intro hg5 (get_raw (show (a0.Msgs.map T_Message.av) = (a0.Msgs.map T_Message.av) from rfl) he6)) (allc (ieqF hc3) (allc (congrArg not (pdecT hc2)) (allc (congrArg not (pdecT hc2)) (allc (len_raw (show (a0.Msgs.map T_Message.av) = (a0.Msgs.map T_Message.av) from rfl)) (allc (congrArg not (pdecT hc2)) (allc (congrArg not (pdecT hc2)) (allc (congrArg not (pdecT hc2)) (allc (c_txq_Right X a0 hg1) (allc (show rowsFlat [] from trivial) alln))))))))))))
  · have h := h.2 hc2
    obtain ⟨h1, h2⟩ := h
    refine goes_eqR (h1.trans rfl) (h2.trans rfl) ((goes_ret (rows := []) (r := (AV.tup [(AV.agg [(AV.bool false), (AV.int .i64 0), (AV.int .i64 0), (AV.int .i64 0), (AV.int .i64 0), (AV.int .i64 0), (AV.str (⟨#[]⟩ : ByteArray))]), (AV.bool false)])) hB fn_txq_First (rv := [.cell 2 35, .tmp 3]) (by kernel_rfl) (n := 8) (scr := [(13, .cf [] (AV.bool (@decide (QR a0) (Classical.propDecidable _)))), (21, .b true), (24, .b true), (27, .b true), (30, .b true), (34, .b true)]) (keep := []) (by kernel_rfl) (allc (congrArg not (pdecF hc2)) (allc (congrArg not (pdecF hc2)) (allc (congrArg not (pdecF hc2)) (allc (congrArg not (pdecF hc2)) (allc (congrArg not (pdecF hc2)) (allc (c_txq_Right X a0 hg1) (allc (show rowsFlat [] from trivial) alln)))))))))
theorem txq_First_calls (X : Ctx E) (a0 : T_Queue) {rows : List Ob} {r : AV} (h : ∀ C, Base Tryd.prog E C → txq_First_at0 C a0 rows r) : ACalls Tryd.prog E 22 [(AV.agg [(AV.int .i64 a0.Limit), (AV.sl .p (a0.Msgs.map T_Message.av))])] rows r :=
  acalls_of_goes X.env X.good fn_txq_First (c := bodyOf Tryd.prog 22) (by kernel_rfl) (by kernel_rfl) (m := 17) (by kernel_rfl) h
def zeroMsg : T_Message := T_Message.mk false 0 0 0 0 0 ⟨#[]⟩
theorem c_txq_First_r (X : Ctx E) (q : T_Queue) (hq : @decide (QR q) (Classical.propDecidable _) = false) (hl : q.Msgs.length ≤ 4611686018427387904) : ACalls Tryd.prog E n_txq_First [q.av] [] (AV.tup [zeroMsg.av, AV.bool false]) :=
  txq_First_calls X q fun C hB => txq_First_wp0 X hB q ⟨hl, fun h => (by rw [pdecT h] at hq; cases hq), fun h => ⟨rfl, rfl⟩⟩
theorem c_txq_First_e (X : Ctx E) (q : T_Queue) (hq : ((q.Msgs.length : Int) == 0) = true) (hl : q.Msgs.length ≤ 4611686018427387904) : ACalls Tryd.prog E n_txq_First [q.av] [] (AV.tup [zeroMsg.av, AV.bool false]) :=
  txq_First_calls X q fun C hB => txq_First_wp0 X hB q ⟨hl, fun h => ⟨fun h => ⟨rfl, rfl⟩, fun h => absurd (by simpa using hq) h⟩, fun h => ⟨rfl, rfl⟩⟩
theorem c_txq_First (X : Ctx E) (q : T_Queue) (hq : @decide (QR q) (Classical.propDecidable _) = true) (y : T_Message) (hy : q.Msgs[0]? = some y) (hl : q.Msgs.length ≤ 4611686018427387904) : ACalls Tryd.prog E n_txq_First [q.av] [] (AV.tup [y.av, AV.bool true]) :=
  txq_First_calls X q fun C hB => txq_First_wp0 X hB q ⟨hl, fun h => ⟨fun h => by
    have := (List.getElem?_eq_some_iff.1 hy).1
    omega, fun h => ⟨y, by omega, hy, rfl, rfl⟩⟩, fun h => absurd (pd_true.1 hq) h⟩

/-! ### omnibus/txq.own -/
theorem fn_txq_own : Tryd.prog.funcs[55]? = some Tryd.f55 := by kernel_rfl
def txq_own_at0 (C : C0) (a0 : T_Queue) (rows : List Ob) (r : AV) : Prop := Goes Tryd.prog C 55 [.code (bodyOf Tryd.prog 55)] ([(AV.agg [(AV.int .i64 a0.Limit), (AV.sl .p (a0.Msgs.map T_Message.av))])] ++ junks 18) [] rows r
theorem txq_own_wp0 (X : Ctx E) (hB : Base Tryd.prog E C) (a0 : T_Queue) {rows : List Ob} {r : AV} (h : (((a0.Msgs.length : Int) > 0 → ((0 : Int) ≤ (a0.Msgs.length : Int)) ∧ (((a0.Msgs.length : Int) : Int).toNat * 64 ≤ 140737488355328 ∧ ((a0.Msgs.length : Int) : Int).toNat * 7 ≤ 16777216) ∧ (rows = [(Ob.row 35 7 ((a0.Msgs.take (List.replicate ((a0.Msgs.length : Int) : Int).toNat (T_Message.mk false 0 0 0 0 0 (⟨#[]⟩ : ByteArray))).length ++ (List.replicate ((a0.Msgs.length : Int) : Int).toNat (T_Message.mk false 0 0 0 0 0 (⟨#[]⟩ : ByteArray))).drop a0.Msgs.length).map T_Message.av))] ∧ r = (AV.agg [(AV.int .i64 a0.Limit), (AV.own 0)]))) ∧ (¬ ((a0.Msgs.length : Int) > 0) → (rows = [] ∧ r = (AV.agg [(AV.int .i64 a0.Limit), (AV.sl .p (a0.Msgs.map T_Message.av))]))))) : txq_own_at0 C a0 rows r := by
  unfold txq_own_at0
  rcases Classical.em ((a0.Msgs.length : Int) > 0) with hc1 | hc1
  · have h := h.1 hc1
    obtain ⟨hg2, h⟩ := h
    obtain ⟨hg3, h⟩ := h
    obtain ⟨h1, h2⟩ := h
    refine goes_eqR (h1.trans (by first | rfl | (simp only [List.map_append, List.map_cons, List.map_nil, List.map_set, List.map_take, List.map_drop, List.append_nil, List.nil_append, List.map_replicate, List.length_replicate, List.length_map]; done) | (simp only [List.map_append, List.map_cons, List.map_nil, List.map_set, List.map_take, List.map_drop, List.append_nil, List.nil_append, List.map_replicate, List.length_replicate, List.length_map]; rfl))) (h2.trans rfl) ((goes_ret (rows := [(Ob.row 35 7 ((a0.Msgs.map T_Message.av).take (List.replicate ((a0.Msgs.length : Int) : Int).toNat (AV.agg [(AV.bool false), (AV.int .i64 0), (AV.int .i64 0), (AV.int .i64 0), (AV.int .i64 0), (AV.int .i64 0), (AV.str (⟨#[]⟩ : ByteArray))])).length ++ (List.replicate ((a0.Msgs.length : Int) : Int).toNat (AV.agg [(AV.bool false), (AV.int .i64 0), (AV.int .i64 0), (AV.int .i64 0), (AV.int .i64 0), (AV.int .i64 0), (AV.str (⟨#[]⟩ : ByteArray))])).drop (a0.Msgs.map T_Message.av).length))]) (r := (AV.agg [(AV.int .i64 a0.Limit), (AV.own 0)])) hB fn_txq_own (rv := [.cell 2 26]) (by kernel_rfl) (n := 13) (scr := [(14, .v (AV.int .i64 (a0.Msgs.length : Int))), (18, .b true), (27, .v (AV.int .i64 (a0.Msgs.length : Int)))]) (keep := [2]) (by kernel_rfl) (allc (cells_raw (show (a0.Msgs.map T_Message.av) = (a0.Msgs.map T_Message.av) from rfl) cells_T_Message) (allc (show ((a0.Msgs.length : Int) : Int) = (a0.Msgs.length : Int) from rfl) (allc hg2 (allc hg3.1 (allc hg3.2 (allc (len_raw (show (a0.Msgs.map T_Message.av) = (a0.Msgs.map T_Message.av) from rfl)) (allc (decide_eq_true hc1) (allc (len_raw (show (a0.Msgs.map T_Message.av) = (a0.Msgs.map T_Message.av) from rfl)) alln))))))))))
  · have h := h.2 hc1
    obtain ⟨h1, h2⟩ := h
    refine goes_eqR (h1.trans rfl) (h2.trans rfl) ((goes_ret (rows := []) (r := (AV.agg [(AV.int .i64 a0.Limit), (AV.sl .p (a0.Msgs.map T_Message.av))])) hB fn_txq_own (rv := [.cell 2 26]) (by kernel_rfl) (n := 9) (scr := [(14, .v (AV.int .i64 (a0.Msgs.length : Int))), (18, .b false)]) (keep := []) (by kernel_rfl) (allc (decide_eq_false hc1) (allc (len_raw (show (a0.Msgs.map T_Message.av) = (a0.Msgs.map T_Message.av) from rfl)) alln))))
theorem txq_own_calls (X : Ctx E) (a0 : T_Queue) {rows : List Ob} {r : AV} (h : ∀ C, Base Tryd.prog E C → txq_own_at0 C a0 rows r) : ACalls Tryd.prog E 55 [(AV.agg [(AV.int .i64 a0.Limit), (AV.sl .p (a0.Msgs.map T_Message.av))])] rows r :=
  acalls_of_goes X.env X.good fn_txq_own (c := bodyOf Tryd.prog 55) (by kernel_rfl) (by kernel_rfl) (m := 18) (by kernel_rfl) h
theorem c_txq_own_p (X : Ctx E) (q : T_Queue) (h : decide ((q.Msgs.length : Int) > 0) = true) (hl : q.Msgs.length ≤ 2000000) : ACalls Tryd.prog E n_txq_own [q.av] [Ob.row t_Message 7 (q.Msgs.map T_Message.av)] (AV.agg [(AV.int .i64 q.Limit), (AV.own 0)]) :=
  txq_own_calls X q fun C hB => txq_own_wp0 X hB q ⟨fun h => ⟨by omega, by omega, by simp <;> rfl, rfl⟩, fun h2 => absurd (of_decide_eq_true h) h2⟩
theorem c_txq_own_e (X : Ctx E) (q : T_Queue) (h : decide ((q.Msgs.length : Int) > 0) = false) : ACalls Tryd.prog E n_txq_own [q.av] [] (AV.agg [(AV.int .i64 q.Limit), (AV.sl .p (q.Msgs.map T_Message.av))]) :=
  txq_own_calls X q fun C hB => txq_own_wp0 X hB q ⟨fun h2 => absurd h2 (of_decide_eq_false h), fun h2 => ⟨rfl, rfl⟩⟩

/-! ### omnibus/txq.own -/
def txq_own_n_at0 (C : C0) (lim : Int) (rows : List Ob) (r : AV) : Prop := Goes Tryd.prog C 55 [.code (bodyOf Tryd.prog 55)] ([(AV.agg [(AV.int .i64 lim), (AV.sl .n [])])] ++ junks 18) [] rows r
theorem txq_own_n_wp0 (X : Ctx E) (hB : Base Tryd.prog E C) (lim : Int) {rows : List Ob} {r : AV} (h : (rows = [] ∧ r = (AV.agg [(AV.int .i64 lim), (AV.sl .n [])]))) : txq_own_n_at0 C lim rows r := by
  unfold txq_own_n_at0
  obtain ⟨h1, h2⟩ := h
  refine goes_eqR (h1.trans rfl) (h2.trans rfl) ((goes_ret (rows := []) (r := (AV.agg [(AV.int .i64 lim), (AV.sl .n [])])) hB fn_txq_own (rv := [.cell 2 26]) (by kernel_rfl) (n := 9) (scr := []) (keep := []) (by kernel_rfl) alln))
theorem txq_own_n_calls (X : Ctx E) (lim : Int) {rows : List Ob} {r : AV} (h : ∀ C, Base Tryd.prog E C → txq_own_n_at0 C lim rows r) : ACalls Tryd.prog E 55 [(AV.agg [(AV.int .i64 lim), (AV.sl .n [])])] rows r :=
  acalls_of_goes X.env X.good fn_txq_own (c := bodyOf Tryd.prog 55) (by kernel_rfl) (by kernel_rfl) (m := 18) (by kernel_rfl) h
theorem c_txq_own_n (X : Ctx E) (lim : Int) : ACalls Tryd.prog E n_txq_own [(AV.agg [(AV.int .i64 lim), (AV.sl .n [])])] [] (AV.agg [(AV.int .i64 lim), (AV.sl .n [])]) :=
  txq_own_n_calls X lim fun C hB => txq_own_n_wp0 X hB lim ⟨rfl, rfl⟩
end Go.Abs
