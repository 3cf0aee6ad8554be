/- slices.Insert at messages: in the middle, there is room. -/
import Derived.Test.YteocckoglkbonaaDoorK6
import Derived.Laws.Externs
set_option linter.unusedVariables false
namespace Go.Abs
open Go.Proofs Go.RowKit Go.Lib Go.Shelf

/-- slices.overlaps of two blocks, the second of which is not frozen: false. -/
theorem overlaps_apart {P : Program} (w : World) (tS tR e : TypeId) (ht : P.underlying tS = some (.slice e)) (size : Nat) (hz : ∀ w, (Go.sizeOf e).run P w = .ok size w)
    (a b : Addr) (la ca lb cb : Nat) (hne : a.block ≠ b.block) (tA tB : TypeId) (kA kB : Nat)
    (hsa : w.shape? a.block = some (tA, kA)) (hsb : w.shape? b.block = some (tB, kB)) (hkA : kA ≠ 0) (hkB : kB ≠ 0)
    (hfb : w.frozen? b = false) (hfe : w.frozen? { block := b.block, off := kB } = false) :
    (Extern.SlicesOverlaps.overlaps #[tS, tS] #[tR] #[.slice (some a) la ca, .slice (some b) lb cb]).run P w = .ok (.bool false) w := by
  have hnb : (a.block != b.block) = true := by simpa using hne
  have hnb' : (a.block == b.block) = false := by simpa using hne
  change Sem.run P (α := Value) (do
    let some t := (#[tS, tS] : Array TypeId)[0]? | stuck "slices.overlaps: no parameter types"
    let .slice elem ← underlying t | stuck "slices.overlaps: slice type expected"
    let size ← sizeOf elem
    match (some a : Option Addr), (some b : Option Addr) with
    | some a, some b =>
      if la = 0 ∨ lb = 0 ∨ size = 0 then pure (Value.bool false)
      else if a.block != b.block && (← frozen a) && (← frozen b) then unsupported .addressObserved
      else do
        if a.block != b.block then do
          noView a; noView b
          if ← mayBeOne a b then return Value.bool ((← choose (.extern "sameAddr.stringBytes" 2)) == 1)
        pure (Value.bool (a.block == b.block && a.off < b.off + lb * size && b.off < a.off + la * size))
    | _, _ => pure (Value.bool false)) w = _
  by_cases h0 : la = 0 ∨ lb = 0 ∨ size = 0
  · simp [run_underlying ht, hz, h0]
  · cases kA with
    | zero => exact absurd rfl hkA
    | succ kA =>
      cases kB with
      | zero => exact absurd rfl hkB
      | succ kB =>
        cases hfa : w.frozen? a <;> cases hfc : w.frozen? { block := a.block, off := kA + 1 } <;>
          simp [run_underlying ht, hz, h0, hnb, hnb', frozen, noView, viewAt, mayBeOne, stringish, shape, Sem.run, hsa, hsb, hfa, hfb, hfc, hfe]

set_option maxHeartbeats 4000000 in
set_option maxRecDepth 1000000 in
theorem insert_shift (g n c i vb vo vc : Nat) (cur vcur : Array Value) (tA : TypeId) (vcells : List Value) (fzv : Nat × Nat) (w : World) (hg : w.heap[g]? = some (.cells cur 35 (0, 0))) (hcur : cur.size = c * 7) (hi : i < n) (hroom : n + 1 ≤ c) (hc63 : c ≤ 9223372036854775807) (hbig : n ≤ 1000000) (hvc : 1 ≤ vc)
    (hvl : vcells.length = 7) (hvs : ∀ j u, vcells[j]? = some u → w.cell? ⟨vb, vo + j, none⟩ = some u) (hvh : w.heap[vb]? = some (.cells vcur tA fzv)) (hvz : vcur.size ≠ 0) (hne : vb ≠ g) (h1 : ∀ u ∈ cur.toList.take (n * 7), u.oneCell' = true) (h1v : ∀ u ∈ vcells, u.oneCell' = true) :
    Calls Tryd.prog 60 #[.slice (some ⟨g, 0, none⟩) n c, .int .i64 i, .slice (some ⟨vb, vo, none⟩) 1 vc] w fun e w' => e = .returned (.slice (some ⟨g, 0, none⟩) (n + 1) c) ∧ ∃ row : Array Value,
      row.size = c * 7 ∧ row.toList.take ((n + 1) * 7) = (cur.toList.take (n * 7)).take (i * 7) ++ vcells ++ (cur.toList.take (n * 7)).drop (i * 7) ∧ w' = (w.drew.setRow g row) := by
  have u24 : Tryd.prog.underlying 24 = some (.slice 35) := by kernel_rfl
  have mixed : Tryd.prog.follows .mixedOrders = true := by kernel_rfl
  have z35 := size35
  have hsz35 : ∀ w : World, (Go.sizeOf 35).run Tryd.prog w = .ok 7 w := fun w => run_sizeOf (show sz Tryd.prog 35 = some 7 from size35)
  have hov : ∀ lb cb, (callFunc 98 #[.slice (some ⟨vb, vo, none⟩) 1 vc, .slice (some ⟨g, (i + 1) * 7, none⟩) lb cb]).run Tryd.prog w = .ok (.value (.bool false)) w := fun lb cb => by
    rw [run_callFunc_extern Tryd.func98 (by kernel_rfl) (by kernel_rfl) (by kernel_rfl) (e := Extern.SlicesOverlaps.overlaps #[24, 24] #[4]) (by kernel_rfl),
      overlaps_apart w 24 4 35 u24 7 hsz35 ⟨vb, vo, none⟩ ⟨g, (i + 1) * 7, none⟩ 1 vc lb cb hne tA 35 vcur.size cur.size (by simp [World.shape?, hvh]) (by simp [World.shape?, hg]) hvz (by omega) (by simp [World.frozen?, hg]) (by simp [World.frozen?, hg])]
    rfl
  obtain ⟨us, hus⟩ : ∃ us, us = (cur.toList.take (n * 7)).drop (i * 7) := ⟨_, rfl⟩
  have hul : us.length = (n - i) * 7 := by rw [hus]; simp [hcur]; omega
  obtain ⟨R1, hR1⟩ : ∃ R1, R1 = (cur.toList.take ((i + 1) * 7) ++ us ++ cur.toList.drop ((i + 1) * 7 + us.length)).toArray := ⟨_, rfl⟩
  have hR1s : R1.size = c * 7 := by rw [hR1]; simp [hcur, hul]; omega
  obtain ⟨R2, hR2⟩ : ∃ R2, R2 = (R1.toList.take (i * 7) ++ vcells ++ R1.toList.drop (i * 7 + vcells.length)).toArray := ⟨_, rfl⟩
  have hR2s : R2.size = c * 7 := by rw [hR2]; simp [hR1s, hvl]; omega
  have hR2t : R2.toList.take ((n + 1) * 7) = (cur.toList.take (n * 7)).take (i * 7) ++ vcells ++ (cur.toList.take (n * 7)).drop (i * 7) := by
    have e0 : (cur.toList.take ((i + 1) * 7)).length = (i + 1) * 7 := by simp [hcur]; omega
    have e1 : R1.toList.take (i * 7) = cur.toList.take (i * 7) := by
      rw [hR1]
      show (cur.toList.take ((i + 1) * 7) ++ us ++ _).take _ = _
      rw [List.append_assoc, List.take_append_of_le_length (by rw [e0]; omega), List.take_take, Nat.min_eq_left (by omega)]
    have e2 : R1.toList.drop (i * 7 + vcells.length) = us ++ cur.toList.drop ((i + 1) * 7 + us.length) := by
      rw [hR1, hvl]
      show (cur.toList.take ((i + 1) * 7) ++ us ++ _).drop _ = _
      rw [List.append_assoc, List.drop_append, List.drop_of_length_le (by rw [e0]; omega), e0, show i * 7 + 7 - (i + 1) * 7 = 0 by omega]
      rfl
    rw [hR2, e1, e2]
    show (cur.toList.take (i * 7) ++ vcells ++ (us ++ _)).take _ = _
    have e3 : (cur.toList.take (i * 7)).length = i * 7 := by simp [hcur]; omega
    rw [← List.append_assoc, List.take_append_of_le_length (by simp only [List.length_append, e3, hvl, hul]; omega), List.take_of_length_le (by simp only [List.length_append, e3, hvl, hul]; omega), List.take_take, Nat.min_eq_left (by omega), ← hus]
  have cpA : ∀ ty dc sc, (Builtin.copy_ #[24, 24] ty #[.slice (some ⟨g, (i + 1) * 7, none⟩) (n - i) dc, .slice (some ⟨g, i * 7, none⟩) (n + 1 - i) sc]).run Tryd.prog w.drew = .ok (goInt ((n - i : Nat) : Int)) (w.drew.setRow g R1) := by
    intro ty dc sc
    have hmin : Nat.min (n + 1 - i) (n - i) = n - i := Nat.min_eq_right (by omega)
    have h := copy_row (W := w.drew) g ((i + 1) * 7) (n - i) dc (n + 1 - i) sc ⟨g, i * 7, none⟩ cur us hg (by rw [hmin]; exact hul) (fun j u hj => by
      rw [Addr.add_lit]
      show w.cell? _ = _
      simp only [World.cell?]
      rw [hg]
      rw [hus, List.getElem?_drop, List.getElem?_take] at hj
      split at hj
      · simpa using hj
      · cases hj) (by rw [hcur, hul]; omega) (fun u hu => h1 u (by rw [hus] at hu; exact List.mem_of_mem_drop hu)) ty
    rw [hmin, ← hR1] at h
    exact h
  have hB : ∀ ty dc, (Builtin.copy_ #[24, 24] ty #[.slice (some ⟨g, i * 7, none⟩) (n + 1 - i) dc, .slice (some ⟨vb, vo, none⟩) 1 vc]).run Tryd.prog (w.drew.setRow g R1) = .ok (goInt 1) ((w.drew.setRow g R1).setRow g R2) := by
    intro ty dc
    have hmin : Nat.min 1 (n + 1 - i) = 1 := Nat.min_eq_left (by omega)
    have hgd : w.drew.heap[g]? = some (.cells cur 35 (0, 0)) := hg
    have h := copy_row (W := w.drew.setRow g R1) g (i * 7) (n + 1 - i) dc 1 vc ⟨vb, vo, none⟩ R1 vcells (setRow_heap _ _ cur R1 35 (0, 0) hgd) (by rw [hmin]; omega) (fun j u hj => by
      rw [Addr.add_lit]
      have := hvs j u hj
      simp only [World.cell?] at this ⊢
      rw [setRow_other _ _ vb _ hne]
      exact this) (by rw [hR1s, hvl]; omega) h1v ty
    rw [hmin, ← hR2] at h
    exact h
  have hrr : (w.drew.setRow g R1).setRow g R2 = w.drew.setRow g R2 := setRow_setRow _ _ _ _
  rw [hrr] at hB
  have hn0 : ¬ ((i : Int) = (n : Int)) := by omega
  have hr3 : ¬ ((c : Int) < (n : Int) + 1) := by omega
  have hci : ¬ (c = i) := by omega
  have hci1 : ¬ (c = i + 1) := by omega
  have hw1 : IntKind.i64.wrap ((i : Int) + 1) = (i : Int) + 1 := by rw [IntKind.wrap_i64]; omega
  have hb1 : (0 : Int) ≤ (i : Int) + 1 := by omega
  have hin : i ≤ n := by omega
  have htn : ((i : Int) + 1).toNat = i + 1 := by omega
  have hb3 : (i : Int) ≤ (n : Int) + 1 := by omega
  have fin : Hid (R2.size = c * 7 ∧ R2.toList.take ((n + 1) * 7) = (cur.toList.take (n * 7)).take (i * 7) ++ vcells ++ (cur.toList.take (n * 7)).drop (i * 7)) := ⟨hR2s, hR2t⟩
  clear hR1 hR2 hR1s hR2s hR2t hus hul h1 hg hvs hcur hrr hvh
  go_enter Tryd.func60, Tryd.ntmps60
  go_wp2_with (simp only [hov])
  go_region_law_o (refine step_copy_row rfl _ _ 24 24 rfl (.slice (some ⟨g, (i + 1) * 7, none⟩) (n - i) (c - (i + 1))) (.slice (some ⟨g, i * 7, none⟩) (n + 1 - i) (c - i)) (by simp [Act.eval, Act.put]) (by simp [Act.eval, Act.put]) (cpA 3 _ _) ?_)
  go_wp2_with (at_builtin; refine wp_copy_row _ rfl _ _ 24 24 rfl _ _ rfl rfl (hB _ _) ?_)
  go_ret
  exact ⟨rfl, R2, fin.out.1, fin.out.2, rfl⟩
end Go.Abs
