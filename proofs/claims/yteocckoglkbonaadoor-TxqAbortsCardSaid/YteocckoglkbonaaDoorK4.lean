/- slices.Insert at messages. -/
import Derived.Test.YteocckoglkbonaaDoorK3
import Derived.Lib.AppendZeros
import Derived.Lib.AppendZerosOnto
import Derived.Lib.Overlaps
set_option linter.unusedVariables false
namespace Go.Abs
open Go.Proofs Go.RowKit Go.Lib

/-- The machine's append onto a row of one's own. -/
theorem append_base {P : Program} {w : World} {base : Nat} (hbase : base ≤ w.heap.size) {T e : TypeId} (ty : TypeId) {inf : TypeInfo} {z : Value} {n : Nat} (hu : P.underlying T = some (.slice e)) (hi : P.info? e = some inf) (hz : inf.zero = some z) (hzs : z.cells.size = n) (hin : inf.size = n) (hn0 : 0 < n)
    {v : Value} {k : Nat} {xs : List Value} (hown : w.ownsRow base e n v k xs) {x : Value} {p : Option Addr} {m c : Nat} {news : List Value} (hx : x = .slice p m c) (hp : p = none → m = 0 ∧ c = 0 ∧ news = [])
    (hlen : news.length = m * n) (hcell : ∀ ad, p = some ad → ∀ j u, news[j]? = some u → w.cell? (ad.add j) = some u) (h1 : ∀ u ∈ news, u.oneCell' = true) (hb : (k + m) * inf.bytes ≤ 140737488355328) (hm : k + m ≤ 140737488355328) :
    ∃ v' w', (Builtin.append_ #[T, T] ty #[v, x]).run P w = .ok v' w' ∧ w'.ownsRow base e n v' (k + m) (xs ++ news) ∧ w.grownBy w' v.ownBlock ∧ ∀ b, blk v' = some b → w.heap.size ≤ b ∨ v.ownBlock = some b := by
  have same : ∀ b, blk v = some b → v.ownBlock = some b := by
    intro b hb
    rcases hown.2 with ⟨rfl, _⟩ | ⟨g, cap, cur, rfl, _⟩
    · simp [blk] at hb
    · exact blk_ownBlock hb
  cases p with
  | none =>
    obtain ⟨rfl, rfl, rfl⟩ := hp rfl
    refine ⟨v, w, ?_, by simpa using hown, ⟨rfl, rfl, rfl, Nat.le_refl _, fun _ _ _ => rfl⟩, fun b hb => .inr (same b hb)⟩
    rw [hx]
    exact run_append_owned_none (P := P) w base T ty e inf n hu hi v k xs hown
  | some ad =>
    obtain ⟨v', w', h2, h3, h4, h5⟩ := run_append_own (P := P) w base T ty e inf z n inf.bytes hu hi hz hin rfl hzs hn0 v k xs hown ad m c news hlen (hcell ad rfl) h1 (by unfold maxLen; omega) hb hbase
    refine ⟨v', w', by rw [hx]; exact h2, h3, h4, fun b hbk => ?_⟩
    subst hin
    rcases hown.2 with ⟨rfl, rfl⟩ | ⟨g, cap, cur, rfl, hbg, hg, hnc, hcm, hcs, htake⟩
    · by_cases hm0 : m = 0
      · have := h5.2 ⟨rfl, hm0⟩
        rw [this] at hbk; simp [blk] at hbk
      · have hr := run_append_nil (P := P) w T ty e inf z hu hi hz ad m c news hlen (hcell ad rfl) (by omega) (by omega) (by simp only [Nat.zero_add] at hb; omega)
        rw [h2] at hr
        injection hr with hr _
        rw [hr] at hbk
        simp [blk] at hbk
        exact .inl (Nat.le_of_eq hbk)
    · by_cases hroom : k + m ≤ cap
      · have hfit : k * inf.size + news.length ≤ cur.size := by rw [hlen, hcs, ← Nat.add_mul]; exact Nat.mul_le_mul_right _ hroom
        have hr := run_append_room (P := P) w T ty e inf hu hi g k cap cur hg ad m c news hlen (hcell ad rfl) h1 hroom hfit
        rw [h2] at hr
        injection hr with hr _
        rw [hr] at hbk
        exact .inr (by simpa [blk, Value.ownBlock] using hbk)
      · have holds : ∀ j u, xs[j]? = some u → w.cell? ((⟨g, 0, none⟩ : Addr).add j) = some u := hown.cells (g := g) rfl
        have hr := run_append_grow (P := P) w T ty e inf z hu hi hz ⟨g, 0, none⟩ k cap xs hown.1 holds ad m c news hlen (hcell ad rfl) (by omega) (by omega) (growslice_fits (by omega) hb)
        rw [h2] at hr
        injection hr with hr _
        rw [hr] at hbk
        simp [blk] at hbk
        exact .inl (Nat.le_of_eq hbk)


set_option maxHeartbeats 4000000 in
set_option maxRecDepth 1000000 in
/-- At the end: an append. -/
theorem insert_end {v : Value} (v' : Value) (w w' : World) (n : Nat) (p : Option Addr) (cap : Nat) (hv : v = .slice p n cap) (hnc : n ≤ cap) (hp : p = none → n = 0 ∧ cap = 0) (ad : Addr) (c : Nat) (hc1 : 1 ≤ c)
    (hrun : (Builtin.append_ #[24, 24] 24 #[v, .slice (some ad) 1 c]).run Tryd.prog w = .ok v' w') :
    Calls Tryd.prog 60 #[v, .int .i64 n, .slice (some ad) 1 c] w fun e w2 => e = .returned v' ∧ w2 = w' := by
  have u24 : Tryd.prog.underlying 24 = some (.slice 35) := by kernel_rfl
  have mixed : Tryd.prog.follows .mixedOrders = true := by kernel_rfl
  subst hv
  go_enter Tryd.func60, Tryd.ntmps60
  cases p with
  | none =>
    obtain ⟨h0, h0'⟩ := hp rfl
    subst h0 h0'
    go_wp2_with (at_builtin; refine Lib.wpList_append_run _ rfl _ _ _ _ rfl _ _ rfl rfl _ _ hrun ?_)
    go_ret
    exact ⟨rfl, rfl⟩
  | some a =>
    obtain ⟨ab, ao, asp⟩ := a
    go_wp2_with (at_builtin; refine Lib.wpList_append_run _ rfl _ _ _ _ rfl _ _ rfl rfl _ _ hrun ?_)
    all_goals (go_ret; exact ⟨rfl, rfl⟩)
end Go.Abs
