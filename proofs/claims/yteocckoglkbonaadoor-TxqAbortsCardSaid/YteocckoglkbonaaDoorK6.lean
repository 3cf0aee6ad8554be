/- slices.Insert at messages: in the middle, no room. -/
import Derived.Test.YteocckoglkbonaaDoorK5
set_option linter.unusedVariables false
namespace Go.Abs
open Go.Proofs Go.RowKit Go.Lib Go.Shelf

set_option maxHeartbeats 4000000 in
set_option maxRecDepth 1000000 in
theorem insert_grow (g n c i vb vo vc : Nat) (cur : Array Value) (vcells : List Value) (w : World) (hg : w.heap[g]? = some (.cells cur 35 (0, 0))) (hcur : cur.size = c * 7) (hi : i < n) (hnc : n ≤ c) (hroom : c < n + 1) (hbig : n ≤ 1000000) (hvc : 1 ≤ vc)
    (hvl : vcells.length = 7) (hvs : ∀ j u, vcells[j]? = some u → w.cell? ⟨vb, vo + j, none⟩ = some u) (hvb : vb < w.heap.size) (h1 : ∀ u ∈ cur.toList.take (n * 7), u.oneCell' = true) (h1v : ∀ u ∈ vcells, u.oneCell' = true) :
    Calls Tryd.prog 60 #[.slice (some ⟨g, 0, none⟩) n c, .int .i64 i, .slice (some ⟨vb, vo, none⟩) 1 vc] w fun e w' => ∃ G row, n + 1 ≤ G ∧ G ≤ 9223372036854775807 ∧ e = .returned (.slice (some ⟨w.heap.size, 0, none⟩) (n + 1) G) ∧
      row.size = G * 7 ∧ row.toList.take ((n + 1) * 7) = (cur.toList.take (n * 7)).take (i * 7) ++ vcells ++ (cur.toList.take (n * 7)).drop (i * 7) ∧
      w'.os = w.os ∧ w'.tape = w.tape ∧ w'.output = w.output ∧ w'.heap.size = w.heap.size + 1 ∧ (∀ k, k < w.heap.size → w'.heap[k]? = w.heap[k]?) ∧ w'.heap[w.heap.size]? = some (.cells row 35 (0, 0)) := by
  have u24 : Tryd.prog.underlying 24 = some (.slice 35) := by kernel_rfl
  have u3 : Tryd.prog.underlying 3 = some (.int .i64) := by kernel_rfl
  have mixed : Tryd.prog.follows .mixedOrders = true := by kernel_rfl
  obtain ⟨i0, hi0, hz0, hb0, hzz⟩ : ∃ i0, Tryd.prog.info? 35 = some i0 ∧ i0.size = 7 ∧ i0.bytes = 64 ∧ i0.zero = some zm := by
    cases h : Tryd.prog.info? 35 with
    | none => have := size35; rw [h] at this; cases this
    | some i0 =>
      refine ⟨i0, rfl, ?_, ?_, ?_⟩
      · have := size35; rw [h] at this; simpa using this
      · have : (Tryd.prog.info? 35).map (·.bytes) = some 64 := by kernel_rfl
        rw [h] at this; simpa using this
      · have : (Tryd.prog.info? 35).bind (·.zero) = some zm := by kernel_rfl
        rw [h] at this; exact this
  have hgw : g < w.heap.size := (Array.getElem?_eq_some_iff.1 hg).1
  obtain ⟨olds, holds⟩ : ∃ olds, olds = cur.toList.take (i * 7) := ⟨_, rfl⟩
  have hol : olds.length = i * 7 := by rw [holds]; simp [hcur]; omega
  have hgc : ∀ j, w.cell? ⟨g, j, none⟩ = cur[j]? := fun j => by simp [World.cell?, hg]
  have hold : (Builtin.firstCells i0.size i (.slice (some ⟨g, 0, none⟩) i c)).run Tryd.prog w.drew = .ok olds.toArray w.drew := by
    rw [hz0]
    exact run_firstCells_some w.drew 7 i ⟨g, 0, none⟩ i c olds (by rw [hol]) (fun j v hj => by
      rw [Addr.add_lit, Nat.zero_add]
      rw [holds, List.getElem?_take] at hj
      split at hj
      · show w.cell? _ = _
        rw [hgc]; simpa using hj
      · cases hj)
  have hkk : (n : Int) + 1 - (i : Int) = ((n + 1 - i : Nat) : Int) := by omega
  obtain ⟨G, hG⟩ : ∃ G, G = grownCap w (n + 1) c 35 := ⟨_, rfl⟩
  have hGn : n + 1 ≤ G := by rw [hG]; exact grownCap_ge w _ _ _
  have hG63 : G ≤ 9223372036854775807 := by
    have := grownCap_le_maxLen w (n + 1) c 35 (by unfold maxLen; omega)
    rw [← hG] at this; unfold maxLen at this; omega
  obtain ⟨ROW, hROW⟩ : ∃ ROW : Array Value, ROW = olds.toArray ++ Builtin.zeroCells zm.cells (n + 1 - i) ++ Builtin.zeroCells zm.cells (G - (n + 1)) := ⟨_, rfl⟩
  have hRs : ROW.size = G * 7 := by rw [hROW]; simp [Builtin.zeroCells, zm, Value.cells, hol]; omega
  have hR0 : ROW.toList.take (i * 7) = olds := by rw [hROW]; simp [hol]
  have hrz : ∀ ty, (Builtin.append_ #[24, 3] ty #[.slice (some ⟨g, 0, none⟩) i c, .int .i64 ((n : Int) + 1 - (i : Int))]).run Tryd.prog w = .ok (.slice (some ⟨w.heap.size, 0, none⟩) (n + 1) G) (w.drew.alloc (.cells ROW 35)) := fun ty => by
    have h := Lib.run_append_grow_zeros w 24 3 ty 35 i0 zm .i64 .i64 u24 u3 hi0 hzz (some ⟨g, 0, none⟩) i c olds hold (n + 1 - i) (by omega) (by omega) (by omega) (by omega) (by rw [hb0]; omega)
      (by rw [hb0, show i + (n + 1 - i) = n + 1 by omega]; exact growslice_fits hroom (by omega))
    rw [show i + (n + 1 - i) = n + 1 by omega] at h
    rw [hkk, h, hROW, hG]
  -- the cells behind i
  obtain ⟨us, hus⟩ : ∃ us, us = (cur.toList.take (n * 7)).drop (i * 7) := ⟨_, rfl⟩
  have hul : us.length = (n - i) * 7 := by rw [hus]; simp [hcur]; omega
  obtain ⟨R1, hR1⟩ : ∃ R1, R1 = (ROW.toList.take (i * 7) ++ vcells ++ ROW.toList.drop (i * 7 + vcells.length)).toArray := ⟨_, rfl⟩
  have hR1s : R1.size = G * 7 := by rw [hR1]; simp [hRs, hvl]; omega
  obtain ⟨R2, hR2⟩ : ∃ R2, R2 = (R1.toList.take ((i + 1) * 7) ++ us ++ R1.toList.drop ((i + 1) * 7 + us.length)).toArray := ⟨_, rfl⟩
  have hR2s : R2.size = G * 7 := by rw [hR2]; simp [hR1s, hul]; omega
  have hR2t : R2.toList.take ((n + 1) * 7) = (cur.toList.take (n * 7)).take (i * 7) ++ vcells ++ (cur.toList.take (n * 7)).drop (i * 7) := by
    have e1 : R1.toList.take ((i + 1) * 7) = olds ++ vcells := by
      rw [hR1, hR0]
      show ((olds ++ vcells) ++ _).take _ = _
      rw [List.take_append_of_le_length (by simp [hol, hvl]; omega), List.take_of_length_le (by simp [hol, hvl]; omega)]
    rw [hR2, e1]
    show ((olds ++ vcells ++ us) ++ _).take _ = _
    rw [List.take_append_of_le_length (by simp [hol, hvl, hul]; omega), List.take_of_length_le (by simp [hol, hvl, hul]; omega), List.take_take, Nat.min_eq_left (by omega), ← holds, ← hus]
  have cpA : ∀ (W : World), W.heap = (w.drew.alloc (.cells ROW 35)).heap → ∀ ty dc, (Builtin.copy_ #[24, 24] ty #[.slice (some ⟨w.heap.size, i * 7, none⟩) (n + 1 - i) dc, .slice (some ⟨vb, vo, none⟩) 1 vc]).run Tryd.prog W = .ok (goInt 1) (W.setRow w.heap.size R1) := by
    intro W hW ty dc
    have hh : W.heap[w.heap.size]? = some (.cells ROW 35 (0, 0)) := by rw [hW]; show (w.heap.push _)[w.heap.size]? = _; simp
    have h := copy_row w.heap.size (i * 7) (n + 1 - i) dc 1 vc ⟨vb, vo, none⟩ ROW vcells hh (by rw [show Nat.min 1 (n + 1 - i) = 1 from Nat.min_eq_left (by omega)]; omega) (fun j u hj => by
      rw [Addr.add_lit]
      have := hvs j u hj
      simp only [World.cell?] at this ⊢
      rw [hW, show (w.drew.alloc (.cells ROW 35)).heap[vb]? = w.heap[vb]? from Below.heap_alloc w.drew _ vb hvb]
      exact this) (by rw [hRs, hvl]; omega) h1v ty
    rw [show Nat.min 1 (n + 1 - i) = 1 from Nat.min_eq_left (by omega), ← hR1] at h
    exact h
  have cpB : ∀ (W : World), W.heap = ((w.drew.alloc (.cells ROW 35)).setRow w.heap.size R1).heap → ∀ ty dc sc, (Builtin.copy_ #[24, 24] ty #[.slice (some ⟨w.heap.size, (i + 1) * 7, none⟩) (n + 1 - (i + 1)) dc, .slice (some ⟨g, i * 7, none⟩) (n - i) sc]).run Tryd.prog W = .ok (goInt ((n - i : Nat) : Int)) (W.setRow w.heap.size R2) := by
    intro W hW ty dc sc
    have hh0 : (w.drew.alloc (.cells ROW 35)).heap[w.heap.size]? = some (.cells ROW 35 (0, 0)) := by show (w.heap.push _)[w.heap.size]? = _; simp
    have hh : W.heap[w.heap.size]? = some (.cells R1 35 (0, 0)) := by rw [hW]; exact setRow_heap _ _ ROW R1 35 (0, 0) hh0
    have hgW : W.heap[g]? = w.heap[g]? := by
      rw [hW, setRow_other _ _ g _ (by omega)]
      exact Below.heap_alloc w.drew _ g hgw
    have hmin : Nat.min (n - i) (n + 1 - (i + 1)) = n - i := Nat.min_eq_left (by omega)
    have h := copy_row w.heap.size ((i + 1) * 7) (n + 1 - (i + 1)) dc (n - i) sc ⟨g, i * 7, none⟩ R1 us hh (by rw [hmin]; exact hul) (fun j u hj => by
      rw [Addr.add_lit]
      simp only [World.cell?]
      rw [hgW, hg]
      rw [hus, List.getElem?_drop, List.getElem?_take] at hj
      split at hj
      · simpa using hj
      · cases hj) (by rw [hR1s, hul]; omega) (fun u hu => h1 u (by rw [hus] at hu; exact List.mem_of_mem_drop hu)) ty
    rw [hmin, ← hR2] at h
    exact h
  have hA := cpA ((w.alloc (.cells ROW 35)).drew) rfl
  have hA' := cpA (w.drew.alloc (.cells ROW 35)) rfl
  have hB := cpB (((w.alloc (.cells ROW 35)).drew.setRow w.heap.size R1).drew) rfl
  have hB' := cpB ((w.drew.alloc (.cells ROW 35)).drew.setRow w.heap.size R1) rfl
  clear cpA cpB
  have hn0 : ¬ ((i : Int) = (n : Int)) := by omega
  have hr3 : (c : Int) < (n : Int) + 1 := by omega
  have hGi : ¬ (G = i) := by omega
  have hGim : ¬ (G = i + 1) := by omega
  have hci : ¬ (c = i) := by omega
  have hw1 : IntKind.i64.wrap ((i : Int) + 1) = (i : Int) + 1 := by rw [IntKind.wrap_i64]; omega
  have hb1 : (0 : Int) ≤ (i : Int) + 1 := by omega
  have hin : i ≤ n := by omega
  have htn : ((i : Int) + 1).toNat = i + 1 := by omega
  have hb3 : (i : Int) ≤ (n : Int) := by omega
  have z35 := size35
  have keep : Hid (∀ w' : World, w'.os = w.os → w'.tape = w.tape → w'.output = w.output → w'.heap = (((w.drew.alloc (.cells ROW 35)).setRow w.heap.size R1).setRow w.heap.size R2).heap → ∃ row : Array Value, row.size = G * 7 ∧ row.toList.take ((n + 1) * 7) = (cur.toList.take (n * 7)).take (i * 7) ++ vcells ++ (cur.toList.take (n * 7)).drop (i * 7) ∧
      w'.os = w.os ∧ w'.tape = w.tape ∧ w'.output = w.output ∧ w'.heap.size = w.heap.size + 1 ∧ (∀ k, k < w.heap.size → w'.heap[k]? = w.heap[k]?) ∧ w'.heap[w.heap.size]? = some (.cells row 35 (0, 0))) := by
    intro w' k1 k2 k3 k4
    have hh0 : (w.drew.alloc (.cells ROW 35)).heap[w.heap.size]? = some (.cells ROW 35 (0, 0)) := by show (w.heap.push _)[w.heap.size]? = _; simp
    refine ⟨R2, hR2s, hR2t, k1, k2, k3, ?_, fun k hk => ?_, ?_⟩
    · rw [k4]; simp [World.setRow]
    · rw [k4, setRow_other _ _ k _ (by omega), setRow_other _ _ k _ (by omega)]
      exact Below.heap_alloc w.drew _ k hk
    · rw [k4]; exact setRow_heap _ _ R1 R2 35 (0, 0) (setRow_heap _ _ ROW R1 35 (0, 0) hh0)
  have hGn' : Hid (n + 1 ≤ G ∧ G ≤ 9223372036854775807) := ⟨hGn, hG63⟩
  clear hkk hold hROW hG hRs hR0 hR1 hR2 hR1s hR2s hR2t hus hul holds hol hgc h1 hg hvs z35 hcur
  go_enter Tryd.func60, Tryd.ntmps60
  go_wp2_with (first
    | (at_builtin; refine Lib.wpList_append_run _ rfl _ _ _ _ rfl _ _ rfl rfl _ _ (hrz _) ?_)
    | (at_builtin; refine wp_copy_row _ rfl _ _ 24 24 rfl _ _ rfl rfl (hA _ _) ?_)
    | (at_builtin; refine wp_copy_row _ rfl _ _ 24 24 rfl _ _ rfl rfl (hA' _ _) ?_))
  go_region_law_o (refine step_copy_row rfl _ _ 24 24 rfl (.slice (some ⟨w.heap.size, (i + 1) * 7, none⟩) (n + 1 - (i + 1)) (G - (i + 1))) (.slice (some ⟨g, i * 7, none⟩) (n - i) (c - i)) (by simp [Act.eval, Act.put]) (by simp [Act.eval, Act.put]) (hB 3 (G - (i + 1)) (c - i)) ?_)
  go_wp2
  go_ret
  obtain ⟨row, hrow⟩ := keep.out (((w.alloc (.cells ROW 35)).drew.setRow w.heap.size R1).drew.setRow w.heap.size R2) rfl rfl rfl rfl
  exact ⟨G, row, hGn'.out.1, hGn'.out.2, rfl, hrow⟩
end Go.Abs
