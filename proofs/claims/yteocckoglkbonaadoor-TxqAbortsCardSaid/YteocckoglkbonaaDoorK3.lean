/- slices.Delete at messages takes a row over. -/
import Derived.Test.YteocckoglkbonaaDoorK2
set_option linter.unusedVariables false
namespace Go.Abs
open Go.Proofs Go.RowKit Go.Lib

set_option maxHeartbeats 4000000 in
set_option maxRecDepth 1000000 in
theorem delete_nil (w : World) : Calls Tryd.prog 102 #[.slice none 0 0, .int .i64 0, .int .i64 0] w fun e w' => e = .returned (.slice none 0 0) ∧ w' = w := by
  have u24 : Tryd.prog.underlying 24 = some (.slice 35) := by kernel_rfl
  go_enter Tryd.func102, Tryd.ntmps102
  go_wp2
  all_goals (go_ret; exact ⟨rfl, rfl⟩)
theorem enters102 : Enters Tryd.prog 102 := ⟨Tryd.f102, bodyOf Tryd.prog 102, by kernel_rfl, by kernel_rfl, by kernel_rfl⟩
theorem av_len (l : List T_Message) : ∀ y ∈ l.map T_Message.av, y.cells.length = 7 := by
  intro y hy; obtain ⟨m, _, rfl⟩ := List.mem_map.1 hy; rfl

theorem k_slices_Delete_Message (l : List T_Message) (i j : Int) (hij : 0 ≤ i ∧ i ≤ j ∧ j ≤ (l.length : Int)) (hl : l.length ≤ 1000000) :
    ICalls Tryd.prog n_slices_Delete_Message 35 7 (l.map T_Message.av) [AV.int .i64 i, AV.int .i64 j] ((delAt l i j).map T_Message.av) := by
  refine ⟨enters102, fun B A w v cells vs hown hrep h1 hB hA hvs => ?_⟩
  have hv2 : vs = [.int .i64 i, .int .i64 j] := by
    cases hvs with
    | cons p q => cases q with
      | cons p' q' => cases q'; cases p; cases p'; rfl
  subst hv2
  obtain ⟨I, rfl⟩ : ∃ I : Nat, i = I := ⟨i.toNat, by omega⟩
  obtain ⟨J, rfl⟩ : ∃ J : Nat, j = J := ⟨j.toNat, by omega⟩
  have hIJ : I ≤ J := by omega
  have hJ : J ≤ l.length := by omega
  rw [callsIn_wide]
  have hdel : delAt l (I : Int) (J : Int) = l.take I ++ l.drop J := by simp [delAt]
  rw [hdel]
  have hflat : ((l.take I ++ l.drop J).map T_Message.av).flatMap AV.cells = ((l.map T_Message.av).flatMap AV.cells).take (I * 7) ++ ((l.map T_Message.av).flatMap AV.cells).drop (J * 7) := by
    rw [List.map_append, List.map_take, List.map_drop, List.flatMap_append, flat_take _ _ (av_len l), flat_drop _ _ (av_len l)]
  have hrep' : RepL A w (((l.take I ++ l.drop J).map T_Message.av).flatMap AV.cells) (cells.take (I * 7) ++ cells.drop (J * 7)) := by
    rw [hflat]; exact (RepL.take' _ hrep).append (RepL.drop' _ hrep)
  have hone' : ∀ u ∈ cells.take (I * 7) ++ cells.drop (J * 7), u.oneCell' = true := fun u hu => by
    rcases List.mem_append.1 hu with hu | hu
    · exact h1 u (List.mem_of_mem_take hu)
    · exact h1 u (List.mem_of_mem_drop hu)
  have same : I = J → (l.take I ++ l.drop J) = l := by rintro rfl; exact List.take_append_drop _ _
  rcases hown.2 with ⟨rfl, hn⟩ | ⟨g, cap, cur, rfl, hBg, hg, hnc, hcm, hcs, htake⟩
  · have hl0 : l = [] := by simpa using hn
    subst hl0
    have hI : I = 0 := by simp at hJ; omega
    have hJ0 : J = 0 := by simpa using hJ
    subst hI hJ0
    refine (delete_nil w).mono ?_
    rintro e w' ⟨rfl, rfl⟩
    exact ⟨_, cells, rfl, hown, hrep, h1, ⟨rfl, rfl, rfl, Nat.le_refl _, fun _ _ _ => rfl⟩, fun b hb => by cases hb⟩
  · rw [List.length_map] at hnc htake hown
    have hcap : cap ≤ 9223372036854775807 := by simpa [maxLen] using hcm
    rcases Nat.lt_or_ge I J with hlt | hge
    · have hm := delete_main g l.length cap I J cur w hg hcs hnc hcap hlt hJ (by rw [htake]; exact h1)
      simp only [List.length_map]
      refine hm.mono ?_
      rintro e w' ⟨rfl, cur', c1, c2, rfl⟩
      rw [htake] at c2
      have hgd : w.drew.heap[g]? = some (.cells cur 35 (0, 0)) := hg
      have hlen : (l.take I ++ l.drop J).length = I + (l.length - J) := by simp; omega
      refine ⟨_, cells.take (I * 7) ++ cells.drop (J * 7), rfl, ⟨?_, .inr ⟨g, cap, cur', by rw [hlen], hBg, setRow_heap w.drew g cur cur' 35 (0, 0) hgd, by rw [hlen]; omega, hcm, c1, by rw [hlen]; exact c2⟩⟩, ?_, hone', ⟨rfl, rfl, rfl, by simp [World.setRow], fun k hk hne => ?_⟩, fun b hb => .inr ?_⟩
      · have := hown.1
        rw [hlen, List.length_append, List.length_take, List.length_drop, this]; omega
      · refine hrep'.mono fun b hb => ⟨hb, ?_⟩
        exact setRow_other w.drew g b _ (fun e => (hA b hb).2 (by rw [e]; rfl))
      · exact setRow_other w.drew g k _ (fun e => hne (by rw [e]; rfl))
      · simpa [blk, Value.ownBlock] using hb
    · have hIJe : I = J := by omega
      subst hIJe
      simp only [List.length_map]
      refine (delete_same (.int .i64 0) I l.length w ⟨g, 0, none⟩ cap hJ hnc).mono ?_
      rintro e w' ⟨rfl, rfl⟩
      rw [same rfl]
      exact ⟨_, cells, rfl, hown, hrep, h1, ⟨rfl, rfl, rfl, Nat.le_refl _, fun _ _ _ => rfl⟩, fun b hb => .inr (by simpa [blk, Value.ownBlock] using hb)⟩
end Go.Abs
