/- ident.limit: reads the variable. -/
import Derived.Test.YteocckoglkbonaaDoorWS
import Derived.Tactics
import Derived.Tactics2
import Derived.StillTactics
import Derived.Laws.Pointers
import Derived.RegionTactic
import Derived.LoopTactic
import Derived.ChangeAlike
import Derived.Shelf.RegionOpenPlain
import Derived.WalkKit
import Derived.Deep.LoopGhost
import Derived.Deep.RegionLaw
import Derived.Lib.Walk
import Derived.Lib.SliceRun
import Derived.Lib.AppendZeros
import Derived.Lib.AppendZerosOnto
import Derived.Lib.Overlaps
import Derived.Laws.NewBlocks
import Derived.Laws.Externs
set_option linter.unusedVariables false
namespace Go.Abs
open Go.Proofs Go.RowKit

theorem limit_wide (c : Value) (w : World) (h : w.cell? ⟨0, 1, none⟩ = some c) : Calls Tryd.prog 147 #[.bool true] w fun e w' => e = .returned c ∧ w' = w := by
  go_enter Tryd.func147, Tryd.ntmps147
  go_wp2
  go_ret
  exact ⟨rfl, rfl⟩
theorem limit_short (c : Value) (w : World) (h : w.cell? ⟨0, 0, none⟩ = some c) : Calls Tryd.prog 147 #[.bool false] w fun e w' => e = .returned c ∧ w' = w := by
  go_enter Tryd.func147, Tryd.ntmps147
  go_wp2
  go_ret
  exact ⟨rfl, rfl⟩

/-- What the program's variable holds. -/
def EnvT : Env := fun w => w.cell? ⟨0, 0, none⟩ = some (.int .i64 2047) ∧ w.cell? ⟨0, 1, none⟩ = some (.int .i64 536870911)
theorem envT_ok : EnvOK EnvT := by
  rintro w w' ⟨h0, h1⟩ hb
  have hlt : (0 : Nat) < w.heap.size := by
    cases hs : w.heap.size with
    | zero =>
      have : w.heap[0]? = none := by simp [hs]
      simp [World.cell?, this] at h0
    | succ n => omega
  have e : w'.heap[0]? = w.heap[0]? := hb.block 0 hlt
  refine ⟨?_, ?_⟩
  · rw [← h0]; simp [World.cell?, e]
  · rw [← h1]; simp [World.cell?, e]
theorem enters147 : Enters Tryd.prog 147 := ⟨Tryd.f147, bodyOf Tryd.prog 147, by kernel_rfl, by kernel_rfl, by kernel_rfl⟩
theorem k_ident_limit (e : Bool) : ACalls Tryd.prog EnvT n_ident_limit [AV.bool e] [] (AV.int .i64 (limitS e)) := by
  refine ⟨enters147, fun C vs hE hA hr => ?_⟩
  have hvs : vs = [.bool e] := by
    cases hr with
    | cons p q => cases q; cases p; rfl
  subst hvs
  rw [callsIn_wide]
  have fin : ∀ c : Int, Calls Tryd.prog 147 #[.bool e] C.w0 (fun e' w' => e' = .returned (.int .i64 c) ∧ w' = C.w0) → limitS e = c →
      Calls Tryd.prog 147 [Value.bool e].toArray C.w0 (ARes C [] (AV.int .i64 (limitS e))) := by
    intro c hc hl
    refine hc.mono ?_
    rintro e' w' ⟨rfl, rfl⟩
    refine ⟨_, fun _ => undef, rfl, ⟨Below.refl _ _, fun id => ?_, fun id id' b hl => ?_⟩, ?_⟩
    · show ORep C _ _ _ _ (([] : List Ob).getD id .unborn); simp [ORep]
    · have : (([] : List Ob).getD id .unborn).live = true := hl
      simp [Ob.live] at this
    · rw [hl]; exact .pure (.int _ _)
  cases e with
  | true => exact fin 536870911 (limit_wide _ _ hE.2) rfl
  | false => exact fin 2047 (limit_short _ _ hE.1) rfl
theorem good_tryd : Good Tryd.prog := ⟨Nat.le_of_ble_eq_true (by kernel_rfl), by kernel_rfl⟩
end Go.Abs
/- slices.Delete at messages. -/
set_option linter.unusedVariables false
namespace Go.Abs
open Go.Proofs Go.RowKit Go.Lib

theorem step_append_row {P : Program} {ops : Array Oper} {o : Oper} {a : Act} {w : World} {K : Act → World → Prop} {Q : Exit → Act → World → Prop} {E : Prop}
    (hg : o.guard = none) (s x : Operand) (t : TypeId) (hop : o.op = Op.call { callee := Callee.builtin Builtin.append, args := #[s, x], argTypes := #[t, t] })
    (e : TypeId) (i : TypeInfo) (size : Nat) (h1 : P.underlying t = some (.slice e)) (h2 : P.info? e = some i) (h4 : i.size = size)
    (b n cap : Nat) (cur : Array Value) (hb : w.heap[b]? = some (.cells cur e (0, 0))) (hs : a.eval s = .slice (some ⟨b, 0, none⟩) n cap)
    (ad : Addr) (m c : Nat) (news : List Value) (hx : a.eval x = .slice (some ad) m c) (hn : news.length = m * size) (hc : ∀ j u, news[j]? = some u → w.cell? (ad.add j) = some u) (h1c : ∀ u ∈ news, u.oneCell' = true)
    (hroom : n + m ≤ cap) (hfit : n * size + news.length ≤ cur.size) {w' : World} (hw' : w.setRow b (cur.toList.take (n * size) ++ news ++ cur.toList.drop (n * size + news.length)).toArray = w')
    (hK : K (a.put o.dst (.slice (some ⟨b, 0, none⟩) (n + m) cap)) w') :
    if Region.wanted o (yielded ops a.tmps) = true then Oper.wp P o a w K Q else E := by
  have hw : Region.wanted o (yielded ops a.tmps) = true := by simp [Region.wanted, hg]
  rw [if_pos hw]
  subst h4
  have hrun := run_append_room (P := P) w t o.type e i h1 h2 b n cap cur hb ad m c news hn hc h1c hroom hfit
  rw [hw'] at hrun
  unfold Oper.wp
  simp [execOp, hop, resolve, invoke, builtin, hs, hx, hrun, Result.andThen]
  exact hK

set_option maxHeartbeats 4000000 in
set_option maxRecDepth 1000000 in
theorem delete_same (v : Value) (i n : Nat) (w : World) (ad : Addr) (cap : Nat) (h1 : i ≤ n) (h2 : n ≤ cap) : Calls Tryd.prog 102 #[.slice (some ad) n cap, .int .i64 i, .int .i64 i] w fun e w' => e = .returned (.slice (some ad) n cap) ∧ w' = w := by
  have u24 : Tryd.prog.underlying 24 = some (.slice 35) := by kernel_rfl
  go_enter Tryd.func102, Tryd.ntmps102
  go_wp2
  all_goals (go_ret; exact ⟨rfl, rfl⟩)

def zm : Value := .agg #[.bool false, .int .i64 0, .int .i64 0, .int .i64 0, .int .i64 0, .int .i64 0, .string ⟨#[]⟩]
theorem zeroValue35 (w : World) : (zeroValue 35).run Tryd.prog w = .ok zm w := by
  have hi : ∃ i, Tryd.prog.info? 35 = some i ∧ i.zero = some zm := by
    cases h : Tryd.prog.info? 35 with
    | none => exact absurd h (by have : (Tryd.prog.info? 35).isSome = true := by kernel_rfl
                                 intro h; rw [h] at this; cases this)
    | some i =>
      refine ⟨i, rfl, ?_⟩
      have : (Tryd.prog.info? 35).bind (·.zero) = some zm := by kernel_rfl
      rw [h] at this; exact this
  obtain ⟨i, h1, h2⟩ := hi
  simp [zeroValue, typeInfo, h1, h2]
theorem size35 : (Tryd.prog.info? 35).map (·.size) = some 7 := by kernel_rfl

set_option maxHeartbeats 4000000 in
set_option maxRecDepth 1000000 in
theorem delete_main (g n cap i j : Nat) (cur : Array Value) (w : World) (hg : w.heap[g]? = some (.cells cur 35 (0, 0))) (hcur : cur.size = cap * 7) (hnc : n ≤ cap) (hcap : cap ≤ 9223372036854775807) (hij : i < j) (hj : j ≤ n)
    (h1 : ∀ u ∈ cur.toList.take (n * 7), u.oneCell' = true) :
    Calls Tryd.prog 102 #[.slice (some ⟨g, 0, none⟩) n cap, .int .i64 i, .int .i64 j] w fun e w' => e = .returned (.slice (some ⟨g, 0, none⟩) (i + (n - j)) cap) ∧
      ∃ cur', cur'.size = cap * 7 ∧ cur'.toList.take ((i + (n - j)) * 7) = (cur.toList.take (n * 7)).take (i * 7) ++ (cur.toList.take (n * 7)).drop (j * 7) ∧ w' = w.drew.setRow g cur' := by
  have u24 : Tryd.prog.underlying 24 = some (.slice 35) := by kernel_rfl
  have z35 := size35
  have mixed : Tryd.prog.follows .mixedOrders = true := by kernel_rfl
  obtain ⟨i0, hi0, hz0⟩ : ∃ i0, Tryd.prog.info? 35 = some i0 ∧ i0.size = 7 := by
    cases h : Tryd.prog.info? 35 with
    | none => rw [h] at z35; cases z35
    | some i0 => rw [h] at z35; exact ⟨i0, rfl, by simpa using z35⟩
  obtain ⟨news, hnews⟩ : ∃ news, news = (cur.toList.take (n * 7)).drop (j * 7) := ⟨_, rfl⟩
  have hnl : news.length = (n - j) * 7 := by rw [hnews]; simp [hcur]; omega
  obtain ⟨A, hA, hsrc⟩ : ∃ A : Addr, (if cap = j then some (⟨g, 0, none⟩ : Addr) else some ⟨g, j * 7, none⟩) = some A ∧ Hid (∀ t u, news[t]? = some u → w.drew.cell? (A.add t) = some u) := by
    by_cases h : cap = j
    · refine ⟨⟨g, 0, none⟩, by simp [h], fun t u hu => ?_⟩
      have h0 : news.length = 0 := by rw [hnl]; omega
      rw [List.length_eq_zero_iff.1 h0] at hu
      simp at hu
    · refine ⟨⟨g, j * 7, none⟩, by simp [h], fun t u hu => ?_⟩
      rw [Addr.add_lit]
      rw [hnews, List.getElem?_drop, List.getElem?_take] at hu
      split at hu
      · show (w.drew).cell? _ = _
        simp only [World.cell?]
        show (match w.heap[g]? with | some (Obj.cells cs _ _) => _ | _ => _) = _
        rw [hg]
        simpa using hu
      · cases hu
  obtain ⟨cur1, hcur1⟩ : ∃ cur1, cur1 = (List.take (i * 7) cur.toList ++ news ++ List.drop (i * 7 + news.length) cur.toList).toArray := ⟨_, rfl⟩
  have hc1s : cur1.size = cap * 7 := by rw [hcur1]; simp [hcur, hnl]; omega
  obtain ⟨W1, hW1⟩ : ∃ W1, W1 = w.drew.setRow g cur1 := ⟨_, rfl⟩
  have hgd : w.drew.heap[g]? = some (.cells cur 35 (0, 0)) := hg
  have hW1h : W1.heap[g]? = some (.cells cur1 35 (0, 0)) := by rw [hW1]; exact setRow_heap w.drew g cur cur1 35 (0, 0) hgd
  obtain ⟨zs, hzs⟩ : ∃ zs, zs = (Builtin.zeroCells zm.cells (n - (i + (n - j)))).toList := ⟨_, rfl⟩
  have hzl : zs.length = (n - (i + (n - j))) * 7 := by rw [hzs]; simp [Builtin.zeroCells, zm, Value.cells]
  have hz1 : ∀ u ∈ zs, u.oneCell' = true := by
    intro u hu
    rw [hzs] at hu
    simp only [Builtin.zeroCells, Array.toList_map, List.mem_map] at hu
    obtain ⟨t, _, rfl⟩ := hu
    have : t % zm.cells.size < 7 := Nat.mod_lt _ (by decide)
    have h7 : t % zm.cells.size = 0 ∨ t % zm.cells.size = 1 ∨ t % zm.cells.size = 2 ∨ t % zm.cells.size = 3 ∨ t % zm.cells.size = 4 ∨ t % zm.cells.size = 5 ∨ t % zm.cells.size = 6 := by omega
    rcases h7 with h | h | h | h | h | h | h <;> rw [h] <;> rfl
  obtain ⟨cur2, hcur2⟩ : ∃ cur2, cur2 = (List.take ((i + (n - j)) * 7) cur1.toList ++ zs ++ List.drop ((i + (n - j)) * 7 + zs.length) cur1.toList).toArray := ⟨_, rfl⟩
  have hst := run_storeCells_at Tryd.prog g ((i + (n - j)) * 7) 35 zs 0 cur1 W1 hW1h (by rw [hc1s, hzl]; omega) hz1
  simp only [Nat.add_zero] at hst
  rw [← hcur2] at hst
  have hcl : ∀ ty, (Builtin.clear_ #[24] ty #[.slice (some ⟨g, (i + (n - j)) * 7, none⟩) (n - (i + (n - j))) (cap - (i + (n - j)))]).run Tryd.prog W1 = .ok (.tuple #[]) (W1.setRow g cur2) := by
    intro ty
    obtain ⟨m, hm⟩ : ∃ m, n - (i + (n - j)) = m + 1 := ⟨n - (i + (n - j)) - 1, by omega⟩
    rw [hm] at hzs ⊢
    have hzs' := hzs
    simp only [zm] at hzs'
    simp [Builtin.clear_, run_underlying u24, zeroValue35, ← hzs', hst, Result.andThen]
    try rw [zm, ← hzs', hst]; rfl
  have hW : Hid (W1 = w.drew.setRow g cur1) := hW1
  have hC : Hid (cur1 = (List.take (i * 7) cur.toList ++ news ++ List.drop (i * 7 + news.length) cur.toList).toArray) := hcur1
  have hG : Hid (w.drew.heap[g]? = some (.cells cur 35 (0, 0))) := hgd
  have s1 : Hid (news.length = (n - j) * 7) := hnl
  have s2 : Hid (∀ u ∈ news, u.oneCell' = true) := by intro u hu; rw [hnews] at hu; exact h1 u (List.mem_of_mem_drop hu)
  have s3 : Hid (i * 7 + news.length ≤ cur.size) := by show i * 7 + news.length ≤ cur.size; rw [hnl, hcur]; omega
  have hR : Hid (w.drew.setRow g (cur.toList.take (i * 7) ++ news ++ cur.toList.drop (i * 7 + news.length)).toArray = W1) := by show _ = W1; rw [hW1, hcur1]
  have hic : i ≤ cap := by omega
  have hjc : j ≤ cap := by omega
  have fin : Hid (cur2.size = cap * 7 ∧ cur2.toList.take ((i + (n - j)) * 7) = (cur.toList.take (n * 7)).take (i * 7) ++ (cur.toList.take (n * 7)).drop (j * 7) ∧ W1.setRow g cur2 = w.drew.setRow g cur2) := by
    refine ⟨?_, ?_, ?_⟩
    · rw [hcur2]; simp [hc1s, hzl]; omega
    · rw [hcur2]
      simp only [List.toList_toArray]
      rw [List.append_assoc, List.take_append_of_le_length (by simp [hc1s]; omega), List.take_take, Nat.min_self, hcur1]
      simp only [List.toList_toArray]
      rw [← hnews, List.take_append_of_le_length (by simp [hnl, hcur]; omega), List.take_of_length_le (by simp [hnl, hcur]; omega), List.take_take, Nat.min_eq_left (by omega)]
    · rw [hW1, setRow_setRow]
  clear hW1 hcur1 hgd hW1h hg hnews hnl hc1s hst hzs hzl hz1 hcur2 h1 hcur z35
  go_enter Tryd.func102, Tryd.ntmps102
  go_wp2_with fail
  go_region_law_o (refine step_append_row rfl (.tmp 22) (.tmp 25) 24 rfl 35 i0 7 u24 hi0 hz0 g i cap cur hG.out (by simp [Act.eval, Act.put]) A (n - j) (cap - j) news (by simp [Act.eval, Act.put]) s1.out hsrc.out s2.out (by omega) s3.out hR.out ?_)
  go_wp2
  go_ret
  exact ⟨rfl, cur2, fin.out.1, fin.out.2.1, fin.out.2.2⟩
end Go.Abs
/- slices.Delete at messages takes a row over. -/
set_option linter.unusedVariables false
namespace Go.Abs
open Go.Proofs Go.RowKit Go.Lib

set_option maxHeartbeats 4000000 in
set_option maxRecDepth 1000000 in
theorem delete_nil (w : World) : Calls Tryd.prog 102 #[.slice none 0 0, .int .i64 0, .int .i64 0] w fun e w' => e = .returned (.slice none 0 0) ∧ w' = w := by
  have u24 : Tryd.prog.underlying 24 = some (.slice 35) := by kernel_rfl
  go_enter Tryd.func102, Tryd.ntmps102
  go_wp2
  all_goals (go_ret; exact ⟨rfl, rfl⟩)
theorem enters102 : Enters Tryd.prog 102 := ⟨Tryd.f102, bodyOf Tryd.prog 102, by kernel_rfl, by kernel_rfl, by kernel_rfl⟩
theorem av_len (l : List T_Message) : ∀ y ∈ l.map T_Message.av, y.cells.length = 7 := by
  intro y hy; obtain ⟨m, _, rfl⟩ := List.mem_map.1 hy; rfl

theorem k_slices_Delete_Message (l : List T_Message) (i j : Int) (hij : 0 ≤ i ∧ i ≤ j ∧ j ≤ (l.length : Int)) (hl : l.length ≤ 1000000) :
    ICalls Tryd.prog n_slices_Delete_Message 35 7 (l.map T_Message.av) [AV.int .i64 i, AV.int .i64 j] ((delAt l i j).map T_Message.av) := by
  refine ⟨enters102, fun B A w v cells vs hown hrep h1 hB hA hvs => ?_⟩
  have hv2 : vs = [.int .i64 i, .int .i64 j] := by
    cases hvs with
    | cons p q => cases q with
      | cons p' q' => cases q'; cases p; cases p'; rfl
  subst hv2
  obtain ⟨I, rfl⟩ : ∃ I : Nat, i = I := ⟨i.toNat, by omega⟩
  obtain ⟨J, rfl⟩ : ∃ J : Nat, j = J := ⟨j.toNat, by omega⟩
  have hIJ : I ≤ J := by omega
  have hJ : J ≤ l.length := by omega
  rw [callsIn_wide]
  have hdel : delAt l (I : Int) (J : Int) = l.take I ++ l.drop J := by simp [delAt]
  rw [hdel]
  have hflat : ((l.take I ++ l.drop J).map T_Message.av).flatMap AV.cells = ((l.map T_Message.av).flatMap AV.cells).take (I * 7) ++ ((l.map T_Message.av).flatMap AV.cells).drop (J * 7) := by
    rw [List.map_append, List.map_take, List.map_drop, List.flatMap_append, flat_take _ _ (av_len l), flat_drop _ _ (av_len l)]
  have hrep' : RepL A w (((l.take I ++ l.drop J).map T_Message.av).flatMap AV.cells) (cells.take (I * 7) ++ cells.drop (J * 7)) := by
    rw [hflat]; exact (RepL.take' _ hrep).append (RepL.drop' _ hrep)
  have hone' : ∀ u ∈ cells.take (I * 7) ++ cells.drop (J * 7), u.oneCell' = true := fun u hu => by
    rcases List.mem_append.1 hu with hu | hu
    · exact h1 u (List.mem_of_mem_take hu)
    · exact h1 u (List.mem_of_mem_drop hu)
  have same : I = J → (l.take I ++ l.drop J) = l := by rintro rfl; exact List.take_append_drop _ _
  rcases hown.2 with ⟨rfl, hn⟩ | ⟨g, cap, cur, rfl, hBg, hg, hnc, hcm, hcs, htake⟩
  · have hl0 : l = [] := by simpa using hn
    subst hl0
    have hI : I = 0 := by simp at hJ; omega
    have hJ0 : J = 0 := by simpa using hJ
    subst hI hJ0
    refine (delete_nil w).mono ?_
    rintro e w' ⟨rfl, rfl⟩
    exact ⟨_, cells, rfl, hown, hrep, h1, ⟨rfl, rfl, rfl, Nat.le_refl _, fun _ _ _ => rfl⟩, fun b hb => by cases hb⟩
  · rw [List.length_map] at hnc htake hown
    have hcap : cap ≤ 9223372036854775807 := by simpa [maxLen] using hcm
    rcases Nat.lt_or_ge I J with hlt | hge
    · have hm := delete_main g l.length cap I J cur w hg hcs hnc hcap hlt hJ (by rw [htake]; exact h1)
      simp only [List.length_map]
      refine hm.mono ?_
      rintro e w' ⟨rfl, cur', c1, c2, rfl⟩
      rw [htake] at c2
      have hgd : w.drew.heap[g]? = some (.cells cur 35 (0, 0)) := hg
      have hlen : (l.take I ++ l.drop J).length = I + (l.length - J) := by simp; omega
      refine ⟨_, cells.take (I * 7) ++ cells.drop (J * 7), rfl, ⟨?_, .inr ⟨g, cap, cur', by rw [hlen], hBg, setRow_heap w.drew g cur cur' 35 (0, 0) hgd, by rw [hlen]; omega, hcm, c1, by rw [hlen]; exact c2⟩⟩, ?_, hone', ⟨rfl, rfl, rfl, by simp [World.setRow], fun k hk hne => ?_⟩, fun b hb => .inr ?_⟩
      · have := hown.1
        rw [hlen, List.length_append, List.length_take, List.length_drop, this]; omega
      · refine hrep'.mono fun b hb => ⟨hb, ?_⟩
        exact setRow_other w.drew g b _ (fun e => (hA b hb).2 (by rw [e]; rfl))
      · exact setRow_other w.drew g k _ (fun e => hne (by rw [e]; rfl))
      · simpa [blk, Value.ownBlock] using hb
    · have hIJe : I = J := by omega
      subst hIJe
      simp only [List.length_map]
      refine (delete_same (.int .i64 0) I l.length w ⟨g, 0, none⟩ cap hJ hnc).mono ?_
      rintro e w' ⟨rfl, rfl⟩
      rw [same rfl]
      exact ⟨_, cells, rfl, hown, hrep, h1, ⟨rfl, rfl, rfl, Nat.le_refl _, fun _ _ _ => rfl⟩, fun b hb => .inr (by simpa [blk, Value.ownBlock] using hb)⟩
end Go.Abs
/- slices.Insert at messages. -/
set_option linter.unusedVariables false
namespace Go.Abs
open Go.Proofs Go.RowKit Go.Lib

/-- The machine's append onto a row of one's own. -/
theorem append_base {P : Program} {w : World} {base : Nat} (hbase : base ≤ w.heap.size) {T e : TypeId} (ty : TypeId) {inf : TypeInfo} {z : Value} {n : Nat} (hu : P.underlying T = some (.slice e)) (hi : P.info? e = some inf) (hz : inf.zero = some z) (hzs : z.cells.size = n) (hin : inf.size = n) (hn0 : 0 < n)
    {v : Value} {k : Nat} {xs : List Value} (hown : w.ownsRow base e n v k xs) {x : Value} {p : Option Addr} {m c : Nat} {news : List Value} (hx : x = .slice p m c) (hp : p = none → m = 0 ∧ c = 0 ∧ news = [])
    (hlen : news.length = m * n) (hcell : ∀ ad, p = some ad → ∀ j u, news[j]? = some u → w.cell? (ad.add j) = some u) (h1 : ∀ u ∈ news, u.oneCell' = true) (hb : (k + m) * inf.bytes ≤ 140737488355328) (hm : k + m ≤ 140737488355328) :
    ∃ v' w', (Builtin.append_ #[T, T] ty #[v, x]).run P w = .ok v' w' ∧ w'.ownsRow base e n v' (k + m) (xs ++ news) ∧ w.grownBy w' v.ownBlock ∧ ∀ b, blk v' = some b → w.heap.size ≤ b ∨ v.ownBlock = some b := by
  have same : ∀ b, blk v = some b → v.ownBlock = some b := by
    intro b hb
    rcases hown.2 with ⟨rfl, _⟩ | ⟨g, cap, cur, rfl, _⟩
    · simp [blk] at hb
    · exact blk_ownBlock hb
  cases p with
  | none =>
    obtain ⟨rfl, rfl, rfl⟩ := hp rfl
    refine ⟨v, w, ?_, by simpa using hown, ⟨rfl, rfl, rfl, Nat.le_refl _, fun _ _ _ => rfl⟩, fun b hb => .inr (same b hb)⟩
    rw [hx]
    exact run_append_owned_none (P := P) w base T ty e inf n hu hi v k xs hown
  | some ad =>
    obtain ⟨v', w', h2, h3, h4, h5⟩ := run_append_own (P := P) w base T ty e inf z n inf.bytes hu hi hz hin rfl hzs hn0 v k xs hown ad m c news hlen (hcell ad rfl) h1 (by unfold maxLen; omega) hb hbase
    refine ⟨v', w', by rw [hx]; exact h2, h3, h4, fun b hbk => ?_⟩
    subst hin
    rcases hown.2 with ⟨rfl, rfl⟩ | ⟨g, cap, cur, rfl, hbg, hg, hnc, hcm, hcs, htake⟩
    · by_cases hm0 : m = 0
      · have := h5.2 ⟨rfl, hm0⟩
        rw [this] at hbk; simp [blk] at hbk
      · have hr := run_append_nil (P := P) w T ty e inf z hu hi hz ad m c news hlen (hcell ad rfl) (by omega) (by omega) (by simp only [Nat.zero_add] at hb; omega)
        rw [h2] at hr
        injection hr with hr _
        rw [hr] at hbk
        simp [blk] at hbk
        exact .inl (Nat.le_of_eq hbk)
    · by_cases hroom : k + m ≤ cap
      · have hfit : k * inf.size + news.length ≤ cur.size := by rw [hlen, hcs, ← Nat.add_mul]; exact Nat.mul_le_mul_right _ hroom
        have hr := run_append_room (P := P) w T ty e inf hu hi g k cap cur hg ad m c news hlen (hcell ad rfl) h1 hroom hfit
        rw [h2] at hr
        injection hr with hr _
        rw [hr] at hbk
        exact .inr (by simpa [blk, Value.ownBlock] using hbk)
      · have holds : ∀ j u, xs[j]? = some u → w.cell? ((⟨g, 0, none⟩ : Addr).add j) = some u := hown.cells (g := g) rfl
        have hr := run_append_grow (P := P) w T ty e inf z hu hi hz ⟨g, 0, none⟩ k cap xs hown.1 holds ad m c news hlen (hcell ad rfl) (by omega) (by omega) (growslice_fits (by omega) hb)
        rw [h2] at hr
        injection hr with hr _
        rw [hr] at hbk
        simp [blk] at hbk
        exact .inl (Nat.le_of_eq hbk)


set_option maxHeartbeats 4000000 in
set_option maxRecDepth 1000000 in
/-- At the end: an append. -/
theorem insert_end {v : Value} (v' : Value) (w w' : World) (n : Nat) (p : Option Addr) (cap : Nat) (hv : v = .slice p n cap) (hnc : n ≤ cap) (hp : p = none → n = 0 ∧ cap = 0) (ad : Addr) (c : Nat) (hc1 : 1 ≤ c)
    (hrun : (Builtin.append_ #[24, 24] 24 #[v, .slice (some ad) 1 c]).run Tryd.prog w = .ok v' w') :
    Calls Tryd.prog 60 #[v, .int .i64 n, .slice (some ad) 1 c] w fun e w2 => e = .returned v' ∧ w2 = w' := by
  have u24 : Tryd.prog.underlying 24 = some (.slice 35) := by kernel_rfl
  have mixed : Tryd.prog.follows .mixedOrders = true := by kernel_rfl
  subst hv
  go_enter Tryd.func60, Tryd.ntmps60
  cases p with
  | none =>
    obtain ⟨h0, h0'⟩ := hp rfl
    subst h0 h0'
    go_wp2_with (at_builtin; refine Lib.wpList_append_run _ rfl _ _ _ _ rfl _ _ rfl rfl _ _ hrun ?_)
    go_ret
    exact ⟨rfl, rfl⟩
  | some a =>
    obtain ⟨ab, ao, asp⟩ := a
    go_wp2_with (at_builtin; refine Lib.wpList_append_run _ rfl _ _ _ _ rfl _ _ rfl rfl _ _ hrun ?_)
    all_goals (go_ret; exact ⟨rfl, rfl⟩)
end Go.Abs
/- slices.Insert at messages: in the middle. -/
set_option linter.unusedVariables false
namespace Go.Abs
open Go.Proofs Go.RowKit Go.Lib Go.Shelf

theorem copy_row {W : World} (g off dLen dCap sLen sCap : Nat) (ad : Addr) (cur : Array Value) (us : List Value) (hW : W.heap[g]? = some (.cells cur 35 (0, 0))) (hus : us.length = Nat.min sLen dLen * 7)
    (hsrc : ∀ j u, us[j]? = some u → W.cell? (ad.add j) = some u) (hfit : off + us.length ≤ cur.size) (h1 : ∀ u ∈ us, u.oneCell' = true) (ty : TypeId) :
    (Builtin.copy_ #[24, 24] ty #[.slice (some ⟨g, off, none⟩) dLen dCap, .slice (some ad) sLen sCap]).run Tryd.prog W =
      .ok (goInt (Nat.min sLen dLen)) (W.setRow g (cur.toList.take off ++ us ++ cur.toList.drop (off + us.length)).toArray) := by
  have u24 : Tryd.prog.underlying 24 = some (.slice 35) := by kernel_rfl
  have hsz : sz Tryd.prog 35 = some 7 := size35
  have hl := run_loadCells_list (P := Tryd.prog) W ad us hsrc
  rw [hus] at hl
  have hst := run_storeCells_at Tryd.prog g off 35 us 0 cur W hW (by simpa using hfit) h1
  simp only [Nat.add_zero] at hst
  simp [Builtin.copy_, run_underlying u24, Builtin.lenOf, Builtin.firstCells, run_sizeOf hsz, hl, hst, Result.andThen]
theorem step_copy_row {P : Program} {ops : Array Oper} {o : Oper} {a : Act} {w : World} {K : Act → World → Prop} {Q : Exit → Act → World → Prop} {E : Prop}
    (hg : o.guard = none) (d x : Operand) (dT sT : TypeId) (hop : o.op = Op.call { callee := Callee.builtin Builtin.copy, args := #[d, x], argTypes := #[dT, sT] })
    (v u : Value) (hd : a.eval d = v) (hx : a.eval x = u) {v' : Value} {w' : World} (hr : (Builtin.copy_ #[dT, sT] o.type #[v, u]).run P w = .ok v' w') (hK : K (a.put o.dst v') w') :
    if Region.wanted o (yielded ops a.tmps) = true then Oper.wp P o a w K Q else E := by
  have hw : Region.wanted o (yielded ops a.tmps) = true := by simp [Region.wanted, hg]
  rw [if_pos hw]
  unfold Oper.wp
  simp [execOp, hop, resolve, invoke, builtin, hd, hx, hr, Result.andThen]
  exact hK
theorem wp_copy_row {P : Program} (w : World) {ops : Array Oper} {rest : List Oper} {o : Oper} {a : Act} {Q : Exit → Act → World → Prop} (hgd : o.guard = none) (d s : Operand) (t t' : TypeId)
    (ho : o.op = .call { callee := .builtin .copy, args := #[d, s], argTypes := #[t, t'] }) (v u : Value) (hd : a.eval d = v) (hs : a.eval s = u) {v' : Value} {w' : World}
    (hr : (Builtin.copy_ #[t, t'] o.type #[v, u]).run P w = .ok v' w') (h : wpList P ops Q rest (a.put o.dst v') w') : wpList P ops Q (o :: rest) a w :=
  wpList_plain hgd fun _ hK => by
    unfold Oper.wp execOp
    simp only [ho, resolve, invoke, builtin, Sem.run_bind, Sem.run_pure, Result.andThen_ok, List.map_toArray, List.map_cons, List.map_nil, hd, hs, hr]
    exact hK _ _ h
end Go.Abs
/- slices.Insert at messages: in the middle, no room. -/
set_option linter.unusedVariables false
namespace Go.Abs
open Go.Proofs Go.RowKit Go.Lib Go.Shelf

set_option maxHeartbeats 4000000 in
set_option maxRecDepth 1000000 in
theorem insert_grow (g n c i vb vo vc : Nat) (cur : Array Value) (vcells : List Value) (w : World) (hg : w.heap[g]? = some (.cells cur 35 (0, 0))) (hcur : cur.size = c * 7) (hi : i < n) (hnc : n ≤ c) (hroom : c < n + 1) (hbig : n ≤ 1000000) (hvc : 1 ≤ vc)
    (hvl : vcells.length = 7) (hvs : ∀ j u, vcells[j]? = some u → w.cell? ⟨vb, vo + j, none⟩ = some u) (hvb : vb < w.heap.size) (h1 : ∀ u ∈ cur.toList.take (n * 7), u.oneCell' = true) (h1v : ∀ u ∈ vcells, u.oneCell' = true) :
    Calls Tryd.prog 60 #[.slice (some ⟨g, 0, none⟩) n c, .int .i64 i, .slice (some ⟨vb, vo, none⟩) 1 vc] w fun e w' => ∃ G row, n + 1 ≤ G ∧ G ≤ 9223372036854775807 ∧ e = .returned (.slice (some ⟨w.heap.size, 0, none⟩) (n + 1) G) ∧
      row.size = G * 7 ∧ row.toList.take ((n + 1) * 7) = (cur.toList.take (n * 7)).take (i * 7) ++ vcells ++ (cur.toList.take (n * 7)).drop (i * 7) ∧
      w'.os = w.os ∧ w'.tape = w.tape ∧ w'.output = w.output ∧ w'.heap.size = w.heap.size + 1 ∧ (∀ k, k < w.heap.size → w'.heap[k]? = w.heap[k]?) ∧ w'.heap[w.heap.size]? = some (.cells row 35 (0, 0)) := by
  have u24 : Tryd.prog.underlying 24 = some (.slice 35) := by kernel_rfl
  have u3 : Tryd.prog.underlying 3 = some (.int .i64) := by kernel_rfl
  have mixed : Tryd.prog.follows .mixedOrders = true := by kernel_rfl
  obtain ⟨i0, hi0, hz0, hb0, hzz⟩ : ∃ i0, Tryd.prog.info? 35 = some i0 ∧ i0.size = 7 ∧ i0.bytes = 64 ∧ i0.zero = some zm := by
    cases h : Tryd.prog.info? 35 with
    | none => have := size35; rw [h] at this; cases this
    | some i0 =>
      refine ⟨i0, rfl, ?_, ?_, ?_⟩
      · have := size35; rw [h] at this; simpa using this
      · have : (Tryd.prog.info? 35).map (·.bytes) = some 64 := by kernel_rfl
        rw [h] at this; simpa using this
      · have : (Tryd.prog.info? 35).bind (·.zero) = some zm := by kernel_rfl
        rw [h] at this; exact this
  have hgw : g < w.heap.size := (Array.getElem?_eq_some_iff.1 hg).1
  obtain ⟨olds, holds⟩ : ∃ olds, olds = cur.toList.take (i * 7) := ⟨_, rfl⟩
  have hol : olds.length = i * 7 := by rw [holds]; simp [hcur]; omega
  have hgc : ∀ j, w.cell? ⟨g, j, none⟩ = cur[j]? := fun j => by simp [World.cell?, hg]
  have hold : (Builtin.firstCells i0.size i (.slice (some ⟨g, 0, none⟩) i c)).run Tryd.prog w.drew = .ok olds.toArray w.drew := by
    rw [hz0]
    exact run_firstCells_some w.drew 7 i ⟨g, 0, none⟩ i c olds (by rw [hol]) (fun j v hj => by
      rw [Addr.add_lit, Nat.zero_add]
      rw [holds, List.getElem?_take] at hj
      split at hj
      · show w.cell? _ = _
        rw [hgc]; simpa using hj
      · cases hj)
  have hkk : (n : Int) + 1 - (i : Int) = ((n + 1 - i : Nat) : Int) := by omega
  obtain ⟨G, hG⟩ : ∃ G, G = grownCap w (n + 1) c 35 := ⟨_, rfl⟩
  have hGn : n + 1 ≤ G := by rw [hG]; exact grownCap_ge w _ _ _
  have hG63 : G ≤ 9223372036854775807 := by
    have := grownCap_le_maxLen w (n + 1) c 35 (by unfold maxLen; omega)
    rw [← hG] at this; unfold maxLen at this; omega
  obtain ⟨ROW, hROW⟩ : ∃ ROW : Array Value, ROW = olds.toArray ++ Builtin.zeroCells zm.cells (n + 1 - i) ++ Builtin.zeroCells zm.cells (G - (n + 1)) := ⟨_, rfl⟩
  have hRs : ROW.size = G * 7 := by rw [hROW]; simp [Builtin.zeroCells, zm, Value.cells, hol]; omega
  have hR0 : ROW.toList.take (i * 7) = olds := by rw [hROW]; simp [hol]
  have hrz : ∀ ty, (Builtin.append_ #[24, 3] ty #[.slice (some ⟨g, 0, none⟩) i c, .int .i64 ((n : Int) + 1 - (i : Int))]).run Tryd.prog w = .ok (.slice (some ⟨w.heap.size, 0, none⟩) (n + 1) G) (w.drew.alloc (.cells ROW 35)) := fun ty => by
    have h := Lib.run_append_grow_zeros w 24 3 ty 35 i0 zm .i64 .i64 u24 u3 hi0 hzz (some ⟨g, 0, none⟩) i c olds hold (n + 1 - i) (by omega) (by omega) (by omega) (by omega) (by rw [hb0]; omega)
      (by rw [hb0, show i + (n + 1 - i) = n + 1 by omega]; exact growslice_fits hroom (by omega))
    rw [show i + (n + 1 - i) = n + 1 by omega] at h
    rw [hkk, h, hROW, hG]
  -- the cells behind i
  obtain ⟨us, hus⟩ : ∃ us, us = (cur.toList.take (n * 7)).drop (i * 7) := ⟨_, rfl⟩
  have hul : us.length = (n - i) * 7 := by rw [hus]; simp [hcur]; omega
  obtain ⟨R1, hR1⟩ : ∃ R1, R1 = (ROW.toList.take (i * 7) ++ vcells ++ ROW.toList.drop (i * 7 + vcells.length)).toArray := ⟨_, rfl⟩
  have hR1s : R1.size = G * 7 := by rw [hR1]; simp [hRs, hvl]; omega
  obtain ⟨R2, hR2⟩ : ∃ R2, R2 = (R1.toList.take ((i + 1) * 7) ++ us ++ R1.toList.drop ((i + 1) * 7 + us.length)).toArray := ⟨_, rfl⟩
  have hR2s : R2.size = G * 7 := by rw [hR2]; simp [hR1s, hul]; omega
  have hR2t : R2.toList.take ((n + 1) * 7) = (cur.toList.take (n * 7)).take (i * 7) ++ vcells ++ (cur.toList.take (n * 7)).drop (i * 7) := by
    have e1 : R1.toList.take ((i + 1) * 7) = olds ++ vcells := by
      rw [hR1, hR0]
      show ((olds ++ vcells) ++ _).take _ = _
      rw [List.take_append_of_le_length (by simp [hol, hvl]; omega), List.take_of_length_le (by simp [hol, hvl]; omega)]
    rw [hR2, e1]
    show ((olds ++ vcells ++ us) ++ _).take _ = _
    rw [List.take_append_of_le_length (by simp [hol, hvl, hul]; omega), List.take_of_length_le (by simp [hol, hvl, hul]; omega), List.take_take, Nat.min_eq_left (by omega), ← holds, ← hus]
  have cpA : ∀ (W : World), W.heap = (w.drew.alloc (.cells ROW 35)).heap → ∀ ty dc, (Builtin.copy_ #[24, 24] ty #[.slice (some ⟨w.heap.size, i * 7, none⟩) (n + 1 - i) dc, .slice (some ⟨vb, vo, none⟩) 1 vc]).run Tryd.prog W = .ok (goInt 1) (W.setRow w.heap.size R1) := by
    intro W hW ty dc
    have hh : W.heap[w.heap.size]? = some (.cells ROW 35 (0, 0)) := by rw [hW]; show (w.heap.push _)[w.heap.size]? = _; simp
    have h := copy_row w.heap.size (i * 7) (n + 1 - i) dc 1 vc ⟨vb, vo, none⟩ ROW vcells hh (by rw [show Nat.min 1 (n + 1 - i) = 1 from Nat.min_eq_left (by omega)]; omega) (fun j u hj => by
      rw [Addr.add_lit]
      have := hvs j u hj
      simp only [World.cell?] at this ⊢
      rw [hW, show (w.drew.alloc (.cells ROW 35)).heap[vb]? = w.heap[vb]? from Below.heap_alloc w.drew _ vb hvb]
      exact this) (by rw [hRs, hvl]; omega) h1v ty
    rw [show Nat.min 1 (n + 1 - i) = 1 from Nat.min_eq_left (by omega), ← hR1] at h
    exact h
  have cpB : ∀ (W : World), W.heap = ((w.drew.alloc (.cells ROW 35)).setRow w.heap.size R1).heap → ∀ ty dc sc, (Builtin.copy_ #[24, 24] ty #[.slice (some ⟨w.heap.size, (i + 1) * 7, none⟩) (n + 1 - (i + 1)) dc, .slice (some ⟨g, i * 7, none⟩) (n - i) sc]).run Tryd.prog W = .ok (goInt ((n - i : Nat) : Int)) (W.setRow w.heap.size R2) := by
    intro W hW ty dc sc
    have hh0 : (w.drew.alloc (.cells ROW 35)).heap[w.heap.size]? = some (.cells ROW 35 (0, 0)) := by show (w.heap.push _)[w.heap.size]? = _; simp
    have hh : W.heap[w.heap.size]? = some (.cells R1 35 (0, 0)) := by rw [hW]; exact setRow_heap _ _ ROW R1 35 (0, 0) hh0
    have hgW : W.heap[g]? = w.heap[g]? := by
      rw [hW, setRow_other _ _ g _ (by omega)]
      exact Below.heap_alloc w.drew _ g hgw
    have hmin : Nat.min (n - i) (n + 1 - (i + 1)) = n - i := Nat.min_eq_left (by omega)
    have h := copy_row w.heap.size ((i + 1) * 7) (n + 1 - (i + 1)) dc (n - i) sc ⟨g, i * 7, none⟩ R1 us hh (by rw [hmin]; exact hul) (fun j u hj => by
      rw [Addr.add_lit]
      simp only [World.cell?]
      rw [hgW, hg]
      rw [hus, List.getElem?_drop, List.getElem?_take] at hj
      split at hj
      · simpa using hj
      · cases hj) (by rw [hR1s, hul]; omega) (fun u hu => h1 u (by rw [hus] at hu; exact List.mem_of_mem_drop hu)) ty
    rw [hmin, ← hR2] at h
    exact h
  have hA := cpA ((w.alloc (.cells ROW 35)).drew) rfl
  have hA' := cpA (w.drew.alloc (.cells ROW 35)) rfl
  have hB := cpB (((w.alloc (.cells ROW 35)).drew.setRow w.heap.size R1).drew) rfl
  have hB' := cpB ((w.drew.alloc (.cells ROW 35)).drew.setRow w.heap.size R1) rfl
  clear cpA cpB
  have hn0 : ¬ ((i : Int) = (n : Int)) := by omega
  have hr3 : (c : Int) < (n : Int) + 1 := by omega
  have hGi : ¬ (G = i) := by omega
  have hGim : ¬ (G = i + 1) := by omega
  have hci : ¬ (c = i) := by omega
  have hw1 : IntKind.i64.wrap ((i : Int) + 1) = (i : Int) + 1 := by rw [IntKind.wrap_i64]; omega
  have hb1 : (0 : Int) ≤ (i : Int) + 1 := by omega
  have hin : i ≤ n := by omega
  have htn : ((i : Int) + 1).toNat = i + 1 := by omega
  have hb3 : (i : Int) ≤ (n : Int) := by omega
  have z35 := size35
  have keep : Hid (∀ w' : World, w'.os = w.os → w'.tape = w.tape → w'.output = w.output → w'.heap = (((w.drew.alloc (.cells ROW 35)).setRow w.heap.size R1).setRow w.heap.size R2).heap → ∃ row : Array Value, row.size = G * 7 ∧ row.toList.take ((n + 1) * 7) = (cur.toList.take (n * 7)).take (i * 7) ++ vcells ++ (cur.toList.take (n * 7)).drop (i * 7) ∧
      w'.os = w.os ∧ w'.tape = w.tape ∧ w'.output = w.output ∧ w'.heap.size = w.heap.size + 1 ∧ (∀ k, k < w.heap.size → w'.heap[k]? = w.heap[k]?) ∧ w'.heap[w.heap.size]? = some (.cells row 35 (0, 0))) := by
    intro w' k1 k2 k3 k4
    have hh0 : (w.drew.alloc (.cells ROW 35)).heap[w.heap.size]? = some (.cells ROW 35 (0, 0)) := by show (w.heap.push _)[w.heap.size]? = _; simp
    refine ⟨R2, hR2s, hR2t, k1, k2, k3, ?_, fun k hk => ?_, ?_⟩
    · rw [k4]; simp [World.setRow]
    · rw [k4, setRow_other _ _ k _ (by omega), setRow_other _ _ k _ (by omega)]
      exact Below.heap_alloc w.drew _ k hk
    · rw [k4]; exact setRow_heap _ _ R1 R2 35 (0, 0) (setRow_heap _ _ ROW R1 35 (0, 0) hh0)
  have hGn' : Hid (n + 1 ≤ G ∧ G ≤ 9223372036854775807) := ⟨hGn, hG63⟩
  clear hkk hold hROW hG hRs hR0 hR1 hR2 hR1s hR2s hR2t hus hul holds hol hgc h1 hg hvs z35 hcur
  go_enter Tryd.func60, Tryd.ntmps60
  go_wp2_with (first
    | (at_builtin; refine Lib.wpList_append_run _ rfl _ _ _ _ rfl _ _ rfl rfl _ _ (hrz _) ?_)
    | (at_builtin; refine wp_copy_row _ rfl _ _ 24 24 rfl _ _ rfl rfl (hA _ _) ?_)
    | (at_builtin; refine wp_copy_row _ rfl _ _ 24 24 rfl _ _ rfl rfl (hA' _ _) ?_))
  go_region_law_o (refine step_copy_row rfl _ _ 24 24 rfl (.slice (some ⟨w.heap.size, (i + 1) * 7, none⟩) (n + 1 - (i + 1)) (G - (i + 1))) (.slice (some ⟨g, i * 7, none⟩) (n - i) (c - i)) (by simp [Act.eval, Act.put]) (by simp [Act.eval, Act.put]) (hB 3 (G - (i + 1)) (c - i)) ?_)
  go_wp2
  go_ret
  obtain ⟨row, hrow⟩ := keep.out (((w.alloc (.cells ROW 35)).drew.setRow w.heap.size R1).drew.setRow w.heap.size R2) rfl rfl rfl rfl
  exact ⟨G, row, hGn'.out.1, hGn'.out.2, rfl, hrow⟩
end Go.Abs
/- slices.Insert at messages: in the middle, there is room. -/
set_option linter.unusedVariables false
namespace Go.Abs
open Go.Proofs Go.RowKit Go.Lib Go.Shelf

/-- slices.overlaps of two blocks, the second of which is not frozen: false. -/
theorem overlaps_apart {P : Program} (w : World) (tS tR e : TypeId) (ht : P.underlying tS = some (.slice e)) (size : Nat) (hz : ∀ w, (Go.sizeOf e).run P w = .ok size w)
    (a b : Addr) (la ca lb cb : Nat) (hne : a.block ≠ b.block) (tA tB : TypeId) (kA kB : Nat)
    (hsa : w.shape? a.block = some (tA, kA)) (hsb : w.shape? b.block = some (tB, kB)) (hkA : kA ≠ 0) (hkB : kB ≠ 0)
    (hfb : w.frozen? b = false) (hfe : w.frozen? { block := b.block, off := kB } = false) :
    (Extern.SlicesOverlaps.overlaps #[tS, tS] #[tR] #[.slice (some a) la ca, .slice (some b) lb cb]).run P w = .ok (.bool false) w := by
  have hnb : (a.block != b.block) = true := by simpa using hne
  have hnb' : (a.block == b.block) = false := by simpa using hne
  change Sem.run P (α := Value) (do
    let some t := (#[tS, tS] : Array TypeId)[0]? | stuck "slices.overlaps: no parameter types"
    let .slice elem ← underlying t | stuck "slices.overlaps: slice type expected"
    let size ← sizeOf elem
    match (some a : Option Addr), (some b : Option Addr) with
    | some a, some b =>
      if la = 0 ∨ lb = 0 ∨ size = 0 then pure (Value.bool false)
      else if a.block != b.block && (← frozen a) && (← frozen b) then unsupported .addressObserved
      else do
        if a.block != b.block then do
          noView a; noView b
          if ← mayBeOne a b then return Value.bool ((← choose (.extern "sameAddr.stringBytes" 2)) == 1)
        pure (Value.bool (a.block == b.block && a.off < b.off + lb * size && b.off < a.off + la * size))
    | _, _ => pure (Value.bool false)) w = _
  by_cases h0 : la = 0 ∨ lb = 0 ∨ size = 0
  · simp [run_underlying ht, hz, h0]
  · cases kA with
    | zero => exact absurd rfl hkA
    | succ kA =>
      cases kB with
      | zero => exact absurd rfl hkB
      | succ kB =>
        cases hfa : w.frozen? a <;> cases hfc : w.frozen? { block := a.block, off := kA + 1 } <;>
          simp [run_underlying ht, hz, h0, hnb, hnb', frozen, noView, viewAt, mayBeOne, stringish, shape, Sem.run, hsa, hsb, hfa, hfb, hfc, hfe]

set_option maxHeartbeats 4000000 in
set_option maxRecDepth 1000000 in
theorem insert_shift (g n c i vb vo vc : Nat) (cur vcur : Array Value) (tA : TypeId) (vcells : List Value) (fzv : Nat × Nat) (w : World) (hg : w.heap[g]? = some (.cells cur 35 (0, 0))) (hcur : cur.size = c * 7) (hi : i < n) (hroom : n + 1 ≤ c) (hc63 : c ≤ 9223372036854775807) (hbig : n ≤ 1000000) (hvc : 1 ≤ vc)
    (hvl : vcells.length = 7) (hvs : ∀ j u, vcells[j]? = some u → w.cell? ⟨vb, vo + j, none⟩ = some u) (hvh : w.heap[vb]? = some (.cells vcur tA fzv)) (hvz : vcur.size ≠ 0) (hne : vb ≠ g) (h1 : ∀ u ∈ cur.toList.take (n * 7), u.oneCell' = true) (h1v : ∀ u ∈ vcells, u.oneCell' = true) :
    Calls Tryd.prog 60 #[.slice (some ⟨g, 0, none⟩) n c, .int .i64 i, .slice (some ⟨vb, vo, none⟩) 1 vc] w fun e w' => e = .returned (.slice (some ⟨g, 0, none⟩) (n + 1) c) ∧ ∃ row : Array Value,
      row.size = c * 7 ∧ row.toList.take ((n + 1) * 7) = (cur.toList.take (n * 7)).take (i * 7) ++ vcells ++ (cur.toList.take (n * 7)).drop (i * 7) ∧ w' = (w.drew.setRow g row) := by
  have u24 : Tryd.prog.underlying 24 = some (.slice 35) := by kernel_rfl
  have mixed : Tryd.prog.follows .mixedOrders = true := by kernel_rfl
  have z35 := size35
  have hsz35 : ∀ w : World, (Go.sizeOf 35).run Tryd.prog w = .ok 7 w := fun w => run_sizeOf (show sz Tryd.prog 35 = some 7 from size35)
  have hov : ∀ lb cb, (callFunc 98 #[.slice (some ⟨vb, vo, none⟩) 1 vc, .slice (some ⟨g, (i + 1) * 7, none⟩) lb cb]).run Tryd.prog w = .ok (.value (.bool false)) w := fun lb cb => by
    rw [run_callFunc_extern Tryd.func98 (by kernel_rfl) (by kernel_rfl) (by kernel_rfl) (e := Extern.SlicesOverlaps.overlaps #[24, 24] #[4]) (by kernel_rfl),
      overlaps_apart w 24 4 35 u24 7 hsz35 ⟨vb, vo, none⟩ ⟨g, (i + 1) * 7, none⟩ 1 vc lb cb hne tA 35 vcur.size cur.size (by simp [World.shape?, hvh]) (by simp [World.shape?, hg]) hvz (by omega) (by simp [World.frozen?, hg]) (by simp [World.frozen?, hg])]
    rfl
  obtain ⟨us, hus⟩ : ∃ us, us = (cur.toList.take (n * 7)).drop (i * 7) := ⟨_, rfl⟩
  have hul : us.length = (n - i) * 7 := by rw [hus]; simp [hcur]; omega
  obtain ⟨R1, hR1⟩ : ∃ R1, R1 = (cur.toList.take ((i + 1) * 7) ++ us ++ cur.toList.drop ((i + 1) * 7 + us.length)).toArray := ⟨_, rfl⟩
  have hR1s : R1.size = c * 7 := by rw [hR1]; simp [hcur, hul]; omega
  obtain ⟨R2, hR2⟩ : ∃ R2, R2 = (R1.toList.take (i * 7) ++ vcells ++ R1.toList.drop (i * 7 + vcells.length)).toArray := ⟨_, rfl⟩
  have hR2s : R2.size = c * 7 := by rw [hR2]; simp [hR1s, hvl]; omega
  have hR2t : R2.toList.take ((n + 1) * 7) = (cur.toList.take (n * 7)).take (i * 7) ++ vcells ++ (cur.toList.take (n * 7)).drop (i * 7) := by
    have e0 : (cur.toList.take ((i + 1) * 7)).length = (i + 1) * 7 := by simp [hcur]; omega
    have e1 : R1.toList.take (i * 7) = cur.toList.take (i * 7) := by
      rw [hR1]
      show (cur.toList.take ((i + 1) * 7) ++ us ++ _).take _ = _
      rw [List.append_assoc, List.take_append_of_le_length (by rw [e0]; omega), List.take_take, Nat.min_eq_left (by omega)]
    have e2 : R1.toList.drop (i * 7 + vcells.length) = us ++ cur.toList.drop ((i + 1) * 7 + us.length) := by
      rw [hR1, hvl]
      show (cur.toList.take ((i + 1) * 7) ++ us ++ _).drop _ = _
      rw [List.append_assoc, List.drop_append, List.drop_of_length_le (by rw [e0]; omega), e0, show i * 7 + 7 - (i + 1) * 7 = 0 by omega]
      rfl
    rw [hR2, e1, e2]
    show (cur.toList.take (i * 7) ++ vcells ++ (us ++ _)).take _ = _
    have e3 : (cur.toList.take (i * 7)).length = i * 7 := by simp [hcur]; omega
    rw [← List.append_assoc, List.take_append_of_le_length (by simp only [List.length_append, e3, hvl, hul]; omega), List.take_of_length_le (by simp only [List.length_append, e3, hvl, hul]; omega), List.take_take, Nat.min_eq_left (by omega), ← hus]
  have cpA : ∀ ty dc sc, (Builtin.copy_ #[24, 24] ty #[.slice (some ⟨g, (i + 1) * 7, none⟩) (n - i) dc, .slice (some ⟨g, i * 7, none⟩) (n + 1 - i) sc]).run Tryd.prog w.drew = .ok (goInt ((n - i : Nat) : Int)) (w.drew.setRow g R1) := by
    intro ty dc sc
    have hmin : Nat.min (n + 1 - i) (n - i) = n - i := Nat.min_eq_right (by omega)
    have h := copy_row (W := w.drew) g ((i + 1) * 7) (n - i) dc (n + 1 - i) sc ⟨g, i * 7, none⟩ cur us hg (by rw [hmin]; exact hul) (fun j u hj => by
      rw [Addr.add_lit]
      show w.cell? _ = _
      simp only [World.cell?]
      rw [hg]
      rw [hus, List.getElem?_drop, List.getElem?_take] at hj
      split at hj
      · simpa using hj
      · cases hj) (by rw [hcur, hul]; omega) (fun u hu => h1 u (by rw [hus] at hu; exact List.mem_of_mem_drop hu)) ty
    rw [hmin, ← hR1] at h
    exact h
  have hB : ∀ ty dc, (Builtin.copy_ #[24, 24] ty #[.slice (some ⟨g, i * 7, none⟩) (n + 1 - i) dc, .slice (some ⟨vb, vo, none⟩) 1 vc]).run Tryd.prog (w.drew.setRow g R1) = .ok (goInt 1) ((w.drew.setRow g R1).setRow g R2) := by
    intro ty dc
    have hmin : Nat.min 1 (n + 1 - i) = 1 := Nat.min_eq_left (by omega)
    have hgd : w.drew.heap[g]? = some (.cells cur 35 (0, 0)) := hg
    have h := copy_row (W := w.drew.setRow g R1) g (i * 7) (n + 1 - i) dc 1 vc ⟨vb, vo, none⟩ R1 vcells (setRow_heap _ _ cur R1 35 (0, 0) hgd) (by rw [hmin]; omega) (fun j u hj => by
      rw [Addr.add_lit]
      have := hvs j u hj
      simp only [World.cell?] at this ⊢
      rw [setRow_other _ _ vb _ hne]
      exact this) (by rw [hR1s, hvl]; omega) h1v ty
    rw [hmin, ← hR2] at h
    exact h
  have hrr : (w.drew.setRow g R1).setRow g R2 = w.drew.setRow g R2 := setRow_setRow _ _ _ _
  rw [hrr] at hB
  have hn0 : ¬ ((i : Int) = (n : Int)) := by omega
  have hr3 : ¬ ((c : Int) < (n : Int) + 1) := by omega
  have hci : ¬ (c = i) := by omega
  have hci1 : ¬ (c = i + 1) := by omega
  have hw1 : IntKind.i64.wrap ((i : Int) + 1) = (i : Int) + 1 := by rw [IntKind.wrap_i64]; omega
  have hb1 : (0 : Int) ≤ (i : Int) + 1 := by omega
  have hin : i ≤ n := by omega
  have htn : ((i : Int) + 1).toNat = i + 1 := by omega
  have hb3 : (i : Int) ≤ (n : Int) + 1 := by omega
  have fin : Hid (R2.size = c * 7 ∧ R2.toList.take ((n + 1) * 7) = (cur.toList.take (n * 7)).take (i * 7) ++ vcells ++ (cur.toList.take (n * 7)).drop (i * 7)) := ⟨hR2s, hR2t⟩
  clear hR1 hR2 hR1s hR2s hR2t hus hul h1 hg hvs hcur hrr hvh
  go_enter Tryd.func60, Tryd.ntmps60
  go_wp2_with (simp only [hov])
  go_region_law_o (refine step_copy_row rfl _ _ 24 24 rfl (.slice (some ⟨g, (i + 1) * 7, none⟩) (n - i) (c - (i + 1))) (.slice (some ⟨g, i * 7, none⟩) (n + 1 - i) (c - i)) (by simp [Act.eval, Act.put]) (by simp [Act.eval, Act.put]) (cpA 3 _ _) ?_)
  go_wp2_with (at_builtin; refine wp_copy_row _ rfl _ _ 24 24 rfl _ _ rfl rfl (hB _ _) ?_)
  go_ret
  exact ⟨rfl, R2, fin.out.1, fin.out.2, rfl⟩
end Go.Abs
/- slices.Insert at messages takes a row over. -/
set_option linter.unusedVariables false
namespace Go.Abs
open Go.Proofs Go.RowKit Go.Lib Go.Shelf

theorem enters60 : Enters Tryd.prog 60 := ⟨Tryd.f60, bodyOf Tryd.prog 60, by kernel_rfl, by kernel_rfl, by kernel_rfl⟩

/-- The cells of one message in memory. -/
theorem one_msg {A : Nat → Prop} {w : World} {m : T_Message} {v : Value} (p : Rep A w (.sl .p [m.av]) v) :
    ∃ b o c vcells, v = .slice (some ⟨b, o, none⟩) 1 c ∧ 1 ≤ c ∧ A b ∧ vcells.length = 7 ∧ RepL A w m.av.cells vcells ∧ (∀ j u, vcells[j]? = some u → w.cell? ⟨b, o + j, none⟩ = some u) ∧ ∀ u ∈ vcells, u.oneCell' = true := by
  cases p with
  | sl a1 a2 a3 a4 a5 =>
    rename_i b o s n cap
    obtain ⟨h6, h7⟩ := a5.list
    obtain ⟨news, h8, h9, h10⟩ := h6.list
    have hs : m.av.cells.length = 7 := rfl
    have e1 : ([m.av] : List AV).flatMap AV.cells = m.av.cells := by simp
    rw [e1] at h8
    have hn : n = 1 := a1
    subst hn
    exact ⟨b, o, cap, news, rfl, a2, a4, by rw [← (repL_vrepL (h := fun _ => .unborn) (φ := fun _ => undef) h8).length, hs], h8, h9, h10⟩

theorem cells_at {w : World} {b o : Nat} {u : Value} (h : w.cell? ⟨b, o, none⟩ = some u) : ∃ cs T fz, w.heap[b]? = some (.cells cs T fz) := by
  simp only [World.cell?] at h
  split at h
  · rename_i cs T fz hb
    exact ⟨cs, T, fz, hb⟩
  · cases h

theorem k_slices_Insert_Message (l : List T_Message) (i : Int) (m : T_Message) (hi : 0 ≤ i ∧ i ≤ (l.length : Int)) (hl : l.length ≤ 1000000) :
    ICalls Tryd.prog n_slices_Insert_Message 35 7 (l.map T_Message.av) [AV.int .i64 i, AV.sl .p ([m].map T_Message.av)] ((insAt l i m).map T_Message.av) := by
  refine ⟨enters60, fun B A w v cells vs hown hrep h1 hB hA hvs => ?_⟩
  obtain ⟨v2, rfl, p2⟩ : ∃ v2, vs = [.int .i64 i, v2] ∧ Rep A w (.sl .p [m.av]) v2 := by
    cases hvs with
    | cons p q => cases q with
      | cons p' q' => cases q'; cases p; exact ⟨_, rfl, p'⟩
  obtain ⟨vb, vo, vc, vcells, rfl, hvc, hAb, hvl, hvr, hvs', hv1⟩ := one_msg p2
  obtain ⟨I, rfl⟩ : ∃ I : Nat, i = I := ⟨i.toNat, by omega⟩
  have hI : I ≤ l.length := by omega
  obtain ⟨hvb, hvne⟩ := hA vb hAb
  rw [callsIn_wide]
  have hins : insAt l (I : Int) m = l.take I ++ [m] ++ l.drop I := by simp [insAt]
  rw [hins]
  have hflat : ((l.take I ++ [m] ++ l.drop I).map T_Message.av).flatMap AV.cells = ((l.map T_Message.av).flatMap AV.cells).take (I * 7) ++ m.av.cells ++ ((l.map T_Message.av).flatMap AV.cells).drop (I * 7) := by
    rw [List.map_append, List.map_append, List.map_take, List.map_drop, List.flatMap_append, List.flatMap_append, flat_take _ _ (av_len l), flat_drop _ _ (av_len l)]
    simp
  have hrep' : RepL A w (((l.take I ++ [m] ++ l.drop I).map T_Message.av).flatMap AV.cells) (cells.take (I * 7) ++ vcells ++ cells.drop (I * 7)) := by
    rw [hflat]; exact ((RepL.take' _ hrep).append hvr).append (RepL.drop' _ hrep)
  have hone' : ∀ u ∈ cells.take (I * 7) ++ vcells ++ cells.drop (I * 7), u.oneCell' = true := fun u hu => by
    rcases List.mem_append.1 hu with hu | hu
    · rcases List.mem_append.1 hu with hu | hu
      · exact h1 u (List.mem_of_mem_take hu)
      · exact hv1 u hu
    · exact h1 u (List.mem_of_mem_drop hu)
  have hlen : ((l.take I ++ [m] ++ l.drop I).map T_Message.av).length = l.length + 1 := by simp; omega
  have hcl : cells.length = l.length * 7 := by have := hown.1; simpa using this
  have u24 : Tryd.prog.underlying 24 = some (.slice 35) := by kernel_rfl
  obtain ⟨i0, hi0, hz0, hb0, hzz⟩ : ∃ i0, Tryd.prog.info? 35 = some i0 ∧ i0.size = 7 ∧ i0.bytes = 64 ∧ i0.zero = some zm := by
    cases h : Tryd.prog.info? 35 with
    | none => have := size35; rw [h] at this; cases this
    | some i0 =>
      refine ⟨i0, rfl, ?_, ?_, ?_⟩
      · have := size35; rw [h] at this; simpa using this
      · have : (Tryd.prog.info? 35).map (·.bytes) = some 64 := by kernel_rfl
        rw [h] at this; simpa using this
      · have : (Tryd.prog.info? 35).bind (·.zero) = some zm := by kernel_rfl
        rw [h] at this; exact this
  have form : ∃ p cap, v = .slice p l.length cap ∧ l.length ≤ cap ∧ (p = none → l.length = 0 ∧ cap = 0) := by
    rcases hown.2 with ⟨e, hn⟩ | ⟨g, cap, cur, e, _, _, hnc, _⟩
    · have : l.length = 0 := by simpa using hn
      exact ⟨none, 0, by rw [e, this], by omega, fun _ => ⟨this, rfl⟩⟩
    · exact ⟨_, cap, by simpa using e, by simpa using hnc, fun h => by cases h⟩
  rcases Nat.lt_or_ge I l.length with hlt | hge
  · rcases hown.2 with ⟨_, hn⟩ | ⟨g, cap, cur, rfl, hBg, hg, hnc, hcm, hcs, htake⟩
    · have : l.length = 0 := by simpa using hn
      omega
    · rw [List.length_map] at hnc htake
      have hcap : cap ≤ 9223372036854775807 := by simpa [maxLen] using hcm
      have hgw : g < w.heap.size := (Array.getElem?_eq_some_iff.1 hg).1
      have hne : vb ≠ g := fun e => hvne (by rw [e]; rfl)
      simp only [List.length_map] at *
      rcases Nat.lt_or_ge cap (l.length + 1) with hroom | hroom
      · refine (insert_grow g l.length cap I vb vo vc cur vcells w hg hcs hlt hnc hroom hl hvc hvl hvs' hvb (by rw [htake]; exact h1) hv1).mono ?_
        rintro e w' ⟨G, row, c1, c2, rfl, c_law13_TxqSame, c4, c5, c6, c7, c8, c9, c_law16_LogPuts⟩
        rw [htake] at c4
        refine ⟨_, cells.take (I * 7) ++ vcells ++ cells.drop (I * 7), rfl, ⟨?_, .inr ⟨w.heap.size, G, row, by rw [hlen], hB, c_law16_LogPuts, by rw [hlen]; exact c1, by unfold maxLen; omega, c_law13_TxqSame, by rw [hlen]; exact c4⟩⟩, ?_, hone', ⟨c5, c6, c7, by omega, fun k hk _ => c9 k hk⟩, fun b hb => .inl ?_⟩
        · rw [hlen]; simp only [List.length_append, List.length_take, List.length_drop, hcl, hvl]; omega
        · exact hrep'.mono fun b hb => ⟨hb, c9 b (hA b hb).1⟩
        · simp [blk] at hb; omega
      · obtain ⟨vcur, tA, fz, hvh⟩ := cells_at (hvs' 0 (vcells[0]'(by omega)) (by simp [show 0 < vcells.length by omega]))
        have hvz : vcur.size ≠ 0 := fun e => by
          have := hvs' 0 (vcells[0]'(by omega)) (by simp [show 0 < vcells.length by omega])
          simp only [World.cell?, hvh] at this
          have h0 : vcur[vo + 0]? = none := by simp [e]
          rw [h0] at this; cases this
        refine (insert_shift g l.length cap I vb vo vc cur vcur tA vcells fz w hg hcs hlt hroom hcap hl hvc hvl hvs' hvh hvz hne (by rw [htake]; exact h1) hv1).mono ?_
        rintro e w' ⟨rfl, row, c1, c2, rfl⟩
        rw [htake] at c2
        have hgd : w.drew.heap[g]? = some (.cells cur 35 (0, 0)) := hg
        refine ⟨_, cells.take (I * 7) ++ vcells ++ cells.drop (I * 7), rfl, ⟨?_, .inr ⟨g, cap, row, by rw [hlen], hBg, setRow_heap w.drew g cur row 35 (0, 0) hgd, by rw [hlen]; exact hroom, hcm, c1, by rw [hlen]; exact c2⟩⟩, ?_, hone', ⟨rfl, rfl, rfl, by simp [World.setRow], fun k hk hk2 => ?_⟩, fun b hb => .inr ?_⟩
        · rw [hlen]; simp only [List.length_append, List.length_take, List.length_drop, hcl, hvl]; omega
        · refine hrep'.mono fun b hb => ⟨hb, ?_⟩
          exact setRow_other w.drew g b _ (fun e => (hA b hb).2 (by rw [e]; rfl))
        · exact setRow_other w.drew g k _ (fun e => hk2 (by rw [e]; rfl))
        · simpa [blk, Value.ownBlock] using hb
  · have hIe : I = l.length := by omega
    subst hIe
    obtain ⟨p, cap, hv, hnc, hp⟩ := form
    obtain ⟨v', w', g1, g2, g3, g4⟩ := append_base (P := Tryd.prog) hB (T := 24) (e := 35) 24 u24 hi0 hzz (n := 7) (by rfl) hz0 (by omega) (k := l.length) (by rw [List.length_map] at hown; exact hown)
      (x := .slice (some ⟨vb, vo, none⟩) 1 vc) (p := some ⟨vb, vo, none⟩) (m := 1) (c := vc) (news := vcells) rfl (fun h => by cases h) (by omega) (fun ad had j u hu => by cases had; rw [Addr.add_lit]; exact hvs' j u hu) hv1 (by rw [hb0]; omega) (by omega)
    refine (insert_end v' w w' l.length p cap hv hnc hp ⟨vb, vo, none⟩ vc hvc g1).mono ?_
    rintro e w2 ⟨rfl, rfl⟩
    have hap : cells.take (l.length * 7) ++ vcells ++ cells.drop (l.length * 7) = cells ++ vcells := by
      rw [List.take_of_length_le (by omega), List.drop_of_length_le (by omega), List.append_nil]
    rw [hap] at hrep' hone'
    refine ⟨v', cells ++ vcells, rfl, by rw [hlen]; exact g2, ?_, hone', g3, g4⟩
    exact hrep'.mono fun b hb => ⟨hb, g3.block b (hA b hb).1 (fun e => (hA b hb).2 e.symm)⟩

/-- All that was taken for granted. -/
theorem ctx : Ctx EnvT := ⟨envT_ok, good_tryd, k_ident_limit, k_slices_Insert_Message, k_slices_Delete_Message⟩
end Go.Abs
