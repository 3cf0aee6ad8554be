/- slices.Insert at messages takes a row over. -/
import Derived.Test.YteocckoglkbonaaDoorK7
set_option linter.unusedVariables false
namespace Go.Abs
open Go.Proofs Go.RowKit Go.Lib Go.Shelf

theorem enters60 : Enters Tryd.prog 60 := ⟨Tryd.f60, bodyOf Tryd.prog 60, by kernel_rfl, by kernel_rfl, by kernel_rfl⟩

/-- The cells of one message in memory. -/
theorem one_msg {A : Nat → Prop} {w : World} {m : T_Message} {v : Value} (p : Rep A w (.sl .p [m.av]) v) :
    ∃ b o c vcells, v = .slice (some ⟨b, o, none⟩) 1 c ∧ 1 ≤ c ∧ A b ∧ vcells.length = 7 ∧ RepL A w m.av.cells vcells ∧ (∀ j u, vcells[j]? = some u → w.cell? ⟨b, o + j, none⟩ = some u) ∧ ∀ u ∈ vcells, u.oneCell' = true := by
  cases p with
  | sl a1 a2 a3 a4 a5 =>
    rename_i b o s n cap
    obtain ⟨h6, h7⟩ := a5.list
    obtain ⟨news, h8, h9, h10⟩ := h6.list
    have hs : m.av.cells.length = 7 := rfl
    have e1 : ([m.av] : List AV).flatMap AV.cells = m.av.cells := by simp
    rw [e1] at h8
    have hn : n = 1 := a1
    subst hn
    exact ⟨b, o, cap, news, rfl, a2, a4, by rw [← (repL_vrepL (h := fun _ => .unborn) (φ := fun _ => undef) h8).length, hs], h8, h9, h10⟩

theorem cells_at {w : World} {b o : Nat} {u : Value} (h : w.cell? ⟨b, o, none⟩ = some u) : ∃ cs T fz, w.heap[b]? = some (.cells cs T fz) := by
  simp only [World.cell?] at h
  split at h
  · rename_i cs T fz hb
    exact ⟨cs, T, fz, hb⟩
  · cases h

theorem k_slices_Insert_Message (l : List T_Message) (i : Int) (m : T_Message) (hi : 0 ≤ i ∧ i ≤ (l.length : Int)) (hl : l.length ≤ 1000000) :
    ICalls Tryd.prog n_slices_Insert_Message 35 7 (l.map T_Message.av) [AV.int .i64 i, AV.sl .p ([m].map T_Message.av)] ((insAt l i m).map T_Message.av) := by
  refine ⟨enters60, fun B A w v cells vs hown hrep h1 hB hA hvs => ?_⟩
  obtain ⟨v2, rfl, p2⟩ : ∃ v2, vs = [.int .i64 i, v2] ∧ Rep A w (.sl .p [m.av]) v2 := by
    cases hvs with
    | cons p q => cases q with
      | cons p' q' => cases q'; cases p; exact ⟨_, rfl, p'⟩
  obtain ⟨vb, vo, vc, vcells, rfl, hvc, hAb, hvl, hvr, hvs', hv1⟩ := one_msg p2
  obtain ⟨I, rfl⟩ : ∃ I : Nat, i = I := ⟨i.toNat, by omega⟩
  have hI : I ≤ l.length := by omega
  obtain ⟨hvb, hvne⟩ := hA vb hAb
  rw [callsIn_wide]
  have hins : insAt l (I : Int) m = l.take I ++ [m] ++ l.drop I := by simp [insAt]
  rw [hins]
  have hflat : ((l.take I ++ [m] ++ l.drop I).map T_Message.av).flatMap AV.cells = ((l.map T_Message.av).flatMap AV.cells).take (I * 7) ++ m.av.cells ++ ((l.map T_Message.av).flatMap AV.cells).drop (I * 7) := by
    rw [List.map_append, List.map_append, List.map_take, List.map_drop, List.flatMap_append, List.flatMap_append, flat_take _ _ (av_len l), flat_drop _ _ (av_len l)]
    simp
  have hrep' : RepL A w (((l.take I ++ [m] ++ l.drop I).map T_Message.av).flatMap AV.cells) (cells.take (I * 7) ++ vcells ++ cells.drop (I * 7)) := by
    rw [hflat]; exact ((RepL.take' _ hrep).append hvr).append (RepL.drop' _ hrep)
  have hone' : ∀ u ∈ cells.take (I * 7) ++ vcells ++ cells.drop (I * 7), u.oneCell' = true := fun u hu => by
    rcases List.mem_append.1 hu with hu | hu
    · rcases List.mem_append.1 hu with hu | hu
      · exact h1 u (List.mem_of_mem_take hu)
      · exact hv1 u hu
    · exact h1 u (List.mem_of_mem_drop hu)
  have hlen : ((l.take I ++ [m] ++ l.drop I).map T_Message.av).length = l.length + 1 := by simp; omega
  have hcl : cells.length = l.length * 7 := by have := hown.1; simpa using this
  have u24 : Tryd.prog.underlying 24 = some (.slice 35) := by kernel_rfl
  obtain ⟨i0, hi0, hz0, hb0, hzz⟩ : ∃ i0, Tryd.prog.info? 35 = some i0 ∧ i0.size = 7 ∧ i0.bytes = 64 ∧ i0.zero = some zm := by
    cases h : Tryd.prog.info? 35 with
    | none => have := size35; rw [h] at this; cases this
    | some i0 =>
      refine ⟨i0, rfl, ?_, ?_, ?_⟩
      · have := size35; rw [h] at this; simpa using this
      · have : (Tryd.prog.info? 35).map (·.bytes) = some 64 := by kernel_rfl
        rw [h] at this; simpa using this
      · have : (Tryd.prog.info? 35).bind (·.zero) = some zm := by kernel_rfl
        rw [h] at this; exact this
  have form : ∃ p cap, v = .slice p l.length cap ∧ l.length ≤ cap ∧ (p = none → l.length = 0 ∧ cap = 0) := by
    rcases hown.2 with ⟨e, hn⟩ | ⟨g, cap, cur, e, _, _, hnc, _⟩
    · have : l.length = 0 := by simpa using hn
      exact ⟨none, 0, by rw [e, this], by omega, fun _ => ⟨this, rfl⟩⟩
    · exact ⟨_, cap, by simpa using e, by simpa using hnc, fun h => by cases h⟩
  rcases Nat.lt_or_ge I l.length with hlt | hge
  · rcases hown.2 with ⟨_, hn⟩ | ⟨g, cap, cur, rfl, hBg, hg, hnc, hcm, hcs, htake⟩
    · have : l.length = 0 := by simpa using hn
      omega
    · rw [List.length_map] at hnc htake
      have hcap : cap ≤ 9223372036854775807 := by simpa [maxLen] using hcm
      have hgw : g < w.heap.size := (Array.getElem?_eq_some_iff.1 hg).1
      have hne : vb ≠ g := fun e => hvne (by rw [e]; rfl)
      simp only [List.length_map] at *
      rcases Nat.lt_or_ge cap (l.length + 1) with hroom | hroom
      · refine (insert_grow g l.length cap I vb vo vc cur vcells w hg hcs hlt hnc hroom hl hvc hvl hvs' hvb (by rw [htake]; exact h1) hv1).mono ?_
        rintro e w' ⟨G, row, c1, c2, rfl, c_law13_TxqSame, c4, c5, c6, c7, c8, c9, c_law16_LogPuts⟩
        rw [htake] at c4
        refine ⟨_, cells.take (I * 7) ++ vcells ++ cells.drop (I * 7), rfl, ⟨?_, .inr ⟨w.heap.size, G, row, by rw [hlen], hB, c_law16_LogPuts, by rw [hlen]; exact c1, by unfold maxLen; omega, c_law13_TxqSame, by rw [hlen]; exact c4⟩⟩, ?_, hone', ⟨c5, c6, c7, by omega, fun k hk _ => c9 k hk⟩, fun b hb => .inl ?_⟩
        · rw [hlen]; simp only [List.length_append, List.length_take, List.length_drop, hcl, hvl]; omega
        · exact hrep'.mono fun b hb => ⟨hb, c9 b (hA b hb).1⟩
        · simp [blk] at hb; omega
      · obtain ⟨vcur, tA, fz, hvh⟩ := cells_at (hvs' 0 (vcells[0]'(by omega)) (by simp [show 0 < vcells.length by omega]))
        have hvz : vcur.size ≠ 0 := fun e => by
          have := hvs' 0 (vcells[0]'(by omega)) (by simp [show 0 < vcells.length by omega])
          simp only [World.cell?, hvh] at this
          have h0 : vcur[vo + 0]? = none := by simp [e]
          rw [h0] at this; cases this
        refine (insert_shift g l.length cap I vb vo vc cur vcur tA vcells fz w hg hcs hlt hroom hcap hl hvc hvl hvs' hvh hvz hne (by rw [htake]; exact h1) hv1).mono ?_
        rintro e w' ⟨rfl, row, c1, c2, rfl⟩
        rw [htake] at c2
        have hgd : w.drew.heap[g]? = some (.cells cur 35 (0, 0)) := hg
        refine ⟨_, cells.take (I * 7) ++ vcells ++ cells.drop (I * 7), rfl, ⟨?_, .inr ⟨g, cap, row, by rw [hlen], hBg, setRow_heap w.drew g cur row 35 (0, 0) hgd, by rw [hlen]; exact hroom, hcm, c1, by rw [hlen]; exact c2⟩⟩, ?_, hone', ⟨rfl, rfl, rfl, by simp [World.setRow], fun k hk hk2 => ?_⟩, fun b hb => .inr ?_⟩
        · rw [hlen]; simp only [List.length_append, List.length_take, List.length_drop, hcl, hvl]; omega
        · refine hrep'.mono fun b hb => ⟨hb, ?_⟩
          exact setRow_other w.drew g b _ (fun e => (hA b hb).2 (by rw [e]; rfl))
        · exact setRow_other w.drew g k _ (fun e => hk2 (by rw [e]; rfl))
        · simpa [blk, Value.ownBlock] using hb
  · have hIe : I = l.length := by omega
    subst hIe
    obtain ⟨p, cap, hv, hnc, hp⟩ := form
    obtain ⟨v', w', g1, g2, g3, g4⟩ := append_base (P := Tryd.prog) hB (T := 24) (e := 35) 24 u24 hi0 hzz (n := 7) (by rfl) hz0 (by omega) (k := l.length) (by rw [List.length_map] at hown; exact hown)
      (x := .slice (some ⟨vb, vo, none⟩) 1 vc) (p := some ⟨vb, vo, none⟩) (m := 1) (c := vc) (news := vcells) rfl (fun h => by cases h) (by omega) (fun ad had j u hu => by cases had; rw [Addr.add_lit]; exact hvs' j u hu) hv1 (by rw [hb0]; omega) (by omega)
    refine (insert_end v' w w' l.length p cap hv hnc hp ⟨vb, vo, none⟩ vc hvc g1).mono ?_
    rintro e w2 ⟨rfl, rfl⟩
    have hap : cells.take (l.length * 7) ++ vcells ++ cells.drop (l.length * 7) = cells ++ vcells := by
      rw [List.take_of_length_le (by omega), List.drop_of_length_le (by omega), List.append_nil]
    rw [hap] at hrep' hone'
    refine ⟨v', cells ++ vcells, rfl, by rw [hlen]; exact g2, ?_, hone', g3, g4⟩
    exact hrep'.mono fun b hb => ⟨hb, g3.block b (hA b hb).1 (fun e => (hA b hb).2 e.symm)⟩

/-- All that was taken for granted. -/
theorem ctx : Ctx EnvT := ⟨envT_ok, good_tryd, k_ident_limit, k_slices_Insert_Message, k_slices_Delete_Message⟩
end Go.Abs
