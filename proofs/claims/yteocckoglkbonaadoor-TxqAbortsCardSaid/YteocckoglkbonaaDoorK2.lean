/- slices.Delete at messages. -/
import Derived.Test.YteocckoglkbonaaDoorK1
import Derived.Shelf.RegionOpenPlain
import Derived.WalkKit
import Derived.Deep.LoopGhost
import Derived.Deep.RegionLaw
import Derived.Lib.Walk
import Derived.Lib.SliceRun
set_option linter.unusedVariables false
namespace Go.Abs
open Go.Proofs Go.RowKit Go.Lib

theorem step_append_row {P : Program} {ops : Array Oper} {o : Oper} {a : Act} {w : World} {K : Act → World → Prop} {Q : Exit → Act → World → Prop} {E : Prop}
    (hg : o.guard = none) (s x : Operand) (t : TypeId) (hop : o.op = Op.call { callee := Callee.builtin Builtin.append, args := #[s, x], argTypes := #[t, t] })
    (e : TypeId) (i : TypeInfo) (size : Nat) (h1 : P.underlying t = some (.slice e)) (h2 : P.info? e = some i) (h4 : i.size = size)
    (b n cap : Nat) (cur : Array Value) (hb : w.heap[b]? = some (.cells cur e (0, 0))) (hs : a.eval s = .slice (some ⟨b, 0, none⟩) n cap)
    (ad : Addr) (m c : Nat) (news : List Value) (hx : a.eval x = .slice (some ad) m c) (hn : news.length = m * size) (hc : ∀ j u, news[j]? = some u → w.cell? (ad.add j) = some u) (h1c : ∀ u ∈ news, u.oneCell' = true)
    (hroom : n + m ≤ cap) (hfit : n * size + news.length ≤ cur.size) {w' : World} (hw' : w.setRow b (cur.toList.take (n * size) ++ news ++ cur.toList.drop (n * size + news.length)).toArray = w')
    (hK : K (a.put o.dst (.slice (some ⟨b, 0, none⟩) (n + m) cap)) w') :
    if Region.wanted o (yielded ops a.tmps) = true then Oper.wp P o a w K Q else E := by
  have hw : Region.wanted o (yielded ops a.tmps) = true := by simp [Region.wanted, hg]
  rw [if_pos hw]
  subst h4
  have hrun := run_append_room (P := P) w t o.type e i h1 h2 b n cap cur hb ad m c news hn hc h1c hroom hfit
  rw [hw'] at hrun
  unfold Oper.wp
  simp [execOp, hop, resolve, invoke, builtin, hs, hx, hrun, Result.andThen]
  exact hK

set_option maxHeartbeats 4000000 in
set_option maxRecDepth 1000000 in
theorem delete_same (v : Value) (i n : Nat) (w : World) (ad : Addr) (cap : Nat) (h1 : i ≤ n) (h2 : n ≤ cap) : Calls Tryd.prog 102 #[.slice (some ad) n cap, .int .i64 i, .int .i64 i] w fun e w' => e = .returned (.slice (some ad) n cap) ∧ w' = w := by
  have u24 : Tryd.prog.underlying 24 = some (.slice 35) := by kernel_rfl
  go_enter Tryd.func102, Tryd.ntmps102
  go_wp2
  all_goals (go_ret; exact ⟨rfl, rfl⟩)

def zm : Value := .agg #[.bool false, .int .i64 0, .int .i64 0, .int .i64 0, .int .i64 0, .int .i64 0, .string ⟨#[]⟩]
theorem zeroValue35 (w : World) : (zeroValue 35).run Tryd.prog w = .ok zm w := by
  have hi : ∃ i, Tryd.prog.info? 35 = some i ∧ i.zero = some zm := by
    cases h : Tryd.prog.info? 35 with
    | none => exact absurd h (by have : (Tryd.prog.info? 35).isSome = true := by kernel_rfl
                                 intro h; rw [h] at this; cases this)
    | some i =>
      refine ⟨i, rfl, ?_⟩
      have : (Tryd.prog.info? 35).bind (·.zero) = some zm := by kernel_rfl
      rw [h] at this; exact this
  obtain ⟨i, h1, h2⟩ := hi
  simp [zeroValue, typeInfo, h1, h2]
theorem size35 : (Tryd.prog.info? 35).map (·.size) = some 7 := by kernel_rfl

set_option maxHeartbeats 4000000 in
set_option maxRecDepth 1000000 in
theorem delete_main (g n cap i j : Nat) (cur : Array Value) (w : World) (hg : w.heap[g]? = some (.cells cur 35 (0, 0))) (hcur : cur.size = cap * 7) (hnc : n ≤ cap) (hcap : cap ≤ 9223372036854775807) (hij : i < j) (hj : j ≤ n)
    (h1 : ∀ u ∈ cur.toList.take (n * 7), u.oneCell' = true) :
    Calls Tryd.prog 102 #[.slice (some ⟨g, 0, none⟩) n cap, .int .i64 i, .int .i64 j] w fun e w' => e = .returned (.slice (some ⟨g, 0, none⟩) (i + (n - j)) cap) ∧
      ∃ cur', cur'.size = cap * 7 ∧ cur'.toList.take ((i + (n - j)) * 7) = (cur.toList.take (n * 7)).take (i * 7) ++ (cur.toList.take (n * 7)).drop (j * 7) ∧ w' = w.drew.setRow g cur' := by
  have u24 : Tryd.prog.underlying 24 = some (.slice 35) := by kernel_rfl
  have z35 := size35
  have mixed : Tryd.prog.follows .mixedOrders = true := by kernel_rfl
  obtain ⟨i0, hi0, hz0⟩ : ∃ i0, Tryd.prog.info? 35 = some i0 ∧ i0.size = 7 := by
    cases h : Tryd.prog.info? 35 with
    | none => rw [h] at z35; cases z35
    | some i0 => rw [h] at z35; exact ⟨i0, rfl, by simpa using z35⟩
  obtain ⟨news, hnews⟩ : ∃ news, news = (cur.toList.take (n * 7)).drop (j * 7) := ⟨_, rfl⟩
  have hnl : news.length = (n - j) * 7 := by rw [hnews]; simp [hcur]; omega
  obtain ⟨A, hA, hsrc⟩ : ∃ A : Addr, (if cap = j then some (⟨g, 0, none⟩ : Addr) else some ⟨g, j * 7, none⟩) = some A ∧ Hid (∀ t u, news[t]? = some u → w.drew.cell? (A.add t) = some u) := by
    by_cases h : cap = j
    · refine ⟨⟨g, 0, none⟩, by simp [h], fun t u hu => ?_⟩
      have h0 : news.length = 0 := by rw [hnl]; omega
      rw [List.length_eq_zero_iff.1 h0] at hu
      simp at hu
    · refine ⟨⟨g, j * 7, none⟩, by simp [h], fun t u hu => ?_⟩
      rw [Addr.add_lit]
      rw [hnews, List.getElem?_drop, List.getElem?_take] at hu
      split at hu
      · show (w.drew).cell? _ = _
        simp only [World.cell?]
        show (match w.heap[g]? with | some (Obj.cells cs _ _) => _ | _ => _) = _
        rw [hg]
        simpa using hu
      · cases hu
  obtain ⟨cur1, hcur1⟩ : ∃ cur1, cur1 = (List.take (i * 7) cur.toList ++ news ++ List.drop (i * 7 + news.length) cur.toList).toArray := ⟨_, rfl⟩
  have hc1s : cur1.size = cap * 7 := by rw [hcur1]; simp [hcur, hnl]; omega
  obtain ⟨W1, hW1⟩ : ∃ W1, W1 = w.drew.setRow g cur1 := ⟨_, rfl⟩
  have hgd : w.drew.heap[g]? = some (.cells cur 35 (0, 0)) := hg
  have hW1h : W1.heap[g]? = some (.cells cur1 35 (0, 0)) := by rw [hW1]; exact setRow_heap w.drew g cur cur1 35 (0, 0) hgd
  obtain ⟨zs, hzs⟩ : ∃ zs, zs = (Builtin.zeroCells zm.cells (n - (i + (n - j)))).toList := ⟨_, rfl⟩
  have hzl : zs.length = (n - (i + (n - j))) * 7 := by rw [hzs]; simp [Builtin.zeroCells, zm, Value.cells]
  have hz1 : ∀ u ∈ zs, u.oneCell' = true := by
    intro u hu
    rw [hzs] at hu
    simp only [Builtin.zeroCells, Array.toList_map, List.mem_map] at hu
    obtain ⟨t, _, rfl⟩ := hu
    have : t % zm.cells.size < 7 := Nat.mod_lt _ (by decide)
    have h7 : t % zm.cells.size = 0 ∨ t % zm.cells.size = 1 ∨ t % zm.cells.size = 2 ∨ t % zm.cells.size = 3 ∨ t % zm.cells.size = 4 ∨ t % zm.cells.size = 5 ∨ t % zm.cells.size = 6 := by omega
    rcases h7 with h | h | h | h | h | h | h <;> rw [h] <;> rfl
  obtain ⟨cur2, hcur2⟩ : ∃ cur2, cur2 = (List.take ((i + (n - j)) * 7) cur1.toList ++ zs ++ List.drop ((i + (n - j)) * 7 + zs.length) cur1.toList).toArray := ⟨_, rfl⟩
  have hst := run_storeCells_at Tryd.prog g ((i + (n - j)) * 7) 35 zs 0 cur1 W1 hW1h (by rw [hc1s, hzl]; omega) hz1
  simp only [Nat.add_zero] at hst
  rw [← hcur2] at hst
  have hcl : ∀ ty, (Builtin.clear_ #[24] ty #[.slice (some ⟨g, (i + (n - j)) * 7, none⟩) (n - (i + (n - j))) (cap - (i + (n - j)))]).run Tryd.prog W1 = .ok (.tuple #[]) (W1.setRow g cur2) := by
    intro ty
    obtain ⟨m, hm⟩ : ∃ m, n - (i + (n - j)) = m + 1 := ⟨n - (i + (n - j)) - 1, by omega⟩
    rw [hm] at hzs ⊢
    have hzs' := hzs
    simp only [zm] at hzs'
    simp [Builtin.clear_, run_underlying u24, zeroValue35, ← hzs', hst, Result.andThen]
    try rw [zm, ← hzs', hst]; rfl
  have hW : Hid (W1 = w.drew.setRow g cur1) := hW1
  have hC : Hid (cur1 = (List.take (i * 7) cur.toList ++ news ++ List.drop (i * 7 + news.length) cur.toList).toArray) := hcur1
  have hG : Hid (w.drew.heap[g]? = some (.cells cur 35 (0, 0))) := hgd
  have s1 : Hid (news.length = (n - j) * 7) := hnl
  have s2 : Hid (∀ u ∈ news, u.oneCell' = true) := by intro u hu; rw [hnews] at hu; exact h1 u (List.mem_of_mem_drop hu)
  have s3 : Hid (i * 7 + news.length ≤ cur.size) := by show i * 7 + news.length ≤ cur.size; rw [hnl, hcur]; omega
  have hR : Hid (w.drew.setRow g (cur.toList.take (i * 7) ++ news ++ cur.toList.drop (i * 7 + news.length)).toArray = W1) := by show _ = W1; rw [hW1, hcur1]
  have hic : i ≤ cap := by omega
  have hjc : j ≤ cap := by omega
  have fin : Hid (cur2.size = cap * 7 ∧ cur2.toList.take ((i + (n - j)) * 7) = (cur.toList.take (n * 7)).take (i * 7) ++ (cur.toList.take (n * 7)).drop (j * 7) ∧ W1.setRow g cur2 = w.drew.setRow g cur2) := by
    refine ⟨?_, ?_, ?_⟩
    · rw [hcur2]; simp [hc1s, hzl]; omega
    · rw [hcur2]
      simp only [List.toList_toArray]
      rw [List.append_assoc, List.take_append_of_le_length (by simp [hc1s]; omega), List.take_take, Nat.min_self, hcur1]
      simp only [List.toList_toArray]
      rw [← hnews, List.take_append_of_le_length (by simp [hnl, hcur]; omega), List.take_of_length_le (by simp [hnl, hcur]; omega), List.take_take, Nat.min_eq_left (by omega)]
    · rw [hW1, setRow_setRow]
  clear hW1 hcur1 hgd hW1h hg hnews hnl hc1s hst hzs hzl hz1 hcur2 h1 hcur z35
  go_enter Tryd.func102, Tryd.ntmps102
  go_wp2_with fail
  go_region_law_o (refine step_append_row rfl (.tmp 22) (.tmp 25) 24 rfl 35 i0 7 u24 hi0 hz0 g i cap cur hG.out (by simp [Act.eval, Act.put]) A (n - j) (cap - j) news (by simp [Act.eval, Act.put]) s1.out hsrc.out s2.out (by omega) s3.out hR.out ?_)
  go_wp2
  go_ret
  exact ⟨rfl, cur2, fin.out.1, fin.out.2.1, fin.out.2.2⟩
end Go.Abs
