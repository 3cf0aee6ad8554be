/- How the machine's world goes on beside the abstract heap. -/
import Derived.Test.YteocckoglkbonaaDoorE3
set_option linter.unusedVariables false
set_option linter.unusedSimpArgs false
namespace Go.Abs
open Go.RowKit

section
variable {C : C0} {h h' : SH} {φ φ' : Nat → Value} {w w' : World}

theorem ORep.block {v : Value} {o : Ob} (p : ORep C h φ w v o) (hl : o.live = true) {b : Nat} (hb : blk v = some b) : b < w.heap.size ∧ C.w0.heap.size ≤ b := by
  cases o <;> simp [Ob.live] at hl
  · obtain ⟨b', vs, rfl, h1, h2, _⟩ := p
    simp [blk] at hb
    subst hb
    exact ⟨(Array.getElem?_eq_some_iff.1 h2).1, h1⟩
  · obtain ⟨cells, h1, _⟩ := p
    rcases h1.2 with ⟨rfl, _⟩ | ⟨g, cap, cur, rfl, hb', hg, _⟩
    · simp [blk] at hb
    · simp [blk] at hb
      subst hb
      exact ⟨(Array.getElem?_eq_some_iff.1 hg).1, hb'⟩
  · obtain ⟨b', es, clk, rfl, h1, h2, _⟩ := p
    simp [blk] at hb
    subst hb
    exact ⟨(Array.getElem?_eq_some_iff.1 h2).1, h1⟩

theorem ownsRow_same {base : Nat} {e : TypeId} {size : Nat} {v : Value} {n : Nat} {xs : List Value} (p : w.ownsRow base e size v n xs)
    (hb : ∀ b, blk v = some b → w'.heap[b]? = w.heap[b]?) : w'.ownsRow base e size v n xs := by
  refine ⟨p.1, ?_⟩
  rcases p.2 with hn | ⟨g, cap, cur, rfl, h1, h2, rest⟩
  · exact .inl hn
  · exact .inr ⟨g, cap, cur, rfl, h1, by rw [hb g rfl]; exact h2, rest⟩

theorem ORep.mono (k : KeepB (okB C h φ w) (okB C h' φ' w') w w') (kh : KeepH h h' φ φ') {v : Value} {o : Ob}
    (hb : o.live = true → ∀ b, blk v = some b → w'.heap[b]? = w.heap[b]?) (p : ORep C h φ w v o) : ORep C h' φ' w' v o := by
  cases o with
  | unborn => trivial
  | dead => trivial
  | box T cs =>
    obtain ⟨b, vs, rfl, h1, h2, h3, h4⟩ := p
    exact ⟨b, vs, rfl, h1, by rw [hb rfl b rfl]; exact h2, h3.mono k kh, h4⟩
  | row T s xs =>
    obtain ⟨cells, h1, h2, h3⟩ := p
    exact ⟨cells, ownsRow_same h1 (hb rfl), h2.mono k, h3⟩
  | fro xs => exact Rep.mono k p
  | fbox cs =>
    obtain ⟨b, rfl, h1, h2⟩ := p
    exact ⟨b, rfl, (k b h1).1, h2.mono k h1⟩
  | mp ks =>
    obtain ⟨b, es, clk, rfl, h1, h2, h3, h4⟩ := p
    exact ⟨b, es, clk, rfl, h1, by rw [hb rfl b rfl]; exact h2, h3, h4⟩

/-- The general step. -/
theorem Rel.step (hr : Rel C h φ w) (hb : Below C.w0.heap.size C.w0 w') (hsz : w.heap.size ≤ w'.heap.size) (kh : KeepH h h' φ φ')
    (hblk : ∀ b, okB C h φ w b → w'.heap[b]? = w.heap[b]?)
    (hlive : ∀ id, (h' id).live = true → h id ≠ .unborn → (h id).live = true)
    (hnew : ∀ id, (h' id).live = true → h id = .unborn → ∀ b, blk (φ' id) = some b → w.heap.size ≤ b ∨ ∃ k, (h k).live = true ∧ (h' k).live = false ∧ blk (φ k) = some b)
    (hinj : ∀ id id' b, (h' id).live = true → (h' id').live = true → h id = .unborn → h id' = .unborn → blk (φ' id) = some b → blk (φ' id') = some b → id = id')
    (hobj : KeepB (okB C h φ w) (okB C h' φ' w') w w' → ∀ id, (h' id = h id ∧ (h id ≠ .unborn → (h id).live = true → ∀ b, blk (φ id) = some b → w'.heap[b]? = w.heap[b]?)) ∨ ORep C h' φ' w' (φ' id) (h' id)) :
    Rel C h' φ' w' ∧ KeepB (okB C h φ w) (okB C h' φ' w') w w' := by
  have hK : KeepB (okB C h φ w) (okB C h' φ' w') w w' := by
    intro b hb'
    refine ⟨⟨Nat.lt_of_lt_of_le hb'.1 hsz, hb'.2.1, fun id hl he => ?_⟩, hblk b hb'⟩
    by_cases hu : h id = .unborn
    · rcases hnew id hl hu b he with h1 | ⟨k, h1, _, h2⟩
      · have := hb'.1
        omega
      · exact hb'.2.2 k h1 h2
    · rw [kh.val id hu] at he
      exact hb'.2.2 id (hlive id hl hu) he
  refine ⟨⟨hb, fun id => ?_, fun id id' b hl hl' he he' => ?_⟩, hK⟩
  · rcases hobj hK id with ⟨h1, h2⟩ | h1
    · by_cases hu : h id = .unborn
      · rw [h1, hu]; trivial
      · rw [h1, kh.val id hu]
        exact (hr.obj id).mono hK kh (h2 hu)
    · exact h1
  · by_cases hu : h id = .unborn <;> by_cases hu' : h id' = .unborn
    · exact hinj id id' b hl hl' hu hu' he he'
    · rw [kh.val id' hu'] at he'
      have h2 := ((hr.obj id').block (hlive id' hl' hu') he').1
      rcases hnew id hl hu b he with h1 | ⟨k, h1, h3, h4⟩
      · omega
      · rw [hr.inj id' k b (hlive id' hl' hu') h1 he' h4, h3] at hl'
        cases hl'
    · rw [kh.val id hu] at he
      have h2 := ((hr.obj id).block (hlive id hl hu) he).1
      rcases hnew id' hl' hu' b he' with h1 | ⟨k, h1, h3, h4⟩
      · omega
      · rw [hr.inj id k b (hlive id hl hu) h1 he h4, h3] at hl
        cases hl
    · rw [kh.val id hu] at he
      rw [kh.val id' hu'] at he'
      exact hr.inj id id' b (hlive id hl hu) (hlive id' hl' hu') he he'

/-- A draw. -/
theorem Rel.drew (hr : Rel C h φ w) : Rel C h φ w.drew ∧ KeepB (okB C h φ w) (okB C h φ w.drew) w w.drew :=
  hr.step hr.below.drew (Nat.le_refl _) (.refl _ _) (fun _ _ => rfl) (fun _ hl _ => hl)
    (fun id hl hu => by rw [hu] at hl; simp [Ob.live] at hl) (fun id _ _ hl _ hu => by rw [hu] at hl; simp [Ob.live] at hl) (fun _ id => .inl ⟨rfl, fun _ _ _ _ => rfl⟩)

def upd1 (h : SH) (id : Nat) (o : Ob) : SH := fun k => if k = id then o else h k
def upd1v (φ : Nat → Value) (id : Nat) (v : Value) : Nat → Value := fun k => if k = id then v else φ k

theorem KeepH.new {id : Nat} (hu : h id = .unborn) (o : Ob) (ho : o ≠ .unborn) (v : Value) : KeepH h (upd1 h id o) φ (upd1v φ id v) := by
  have hne : ∀ k, h k ≠ .unborn → k ≠ id := fun k hk e => hk (e ▸ hu)
  exact ⟨fun k hk => by simp [upd1, hne k hk, hk], fun k hk => by simp [upd1v, hne k hk], fun k hk hd => by simpa [upd1, hne k hk] using hd,
    fun k T s xs hk hx => ⟨T, xs, by simpa [upd1, hne k hk] using hx⟩⟩

theorem heap_alloc_lt (w : World) (o : Obj) (k : Nat) (hk : k < w.heap.size) : (w.alloc o).heap[k]? = w.heap[k]? := Below.heap_alloc w o k hk

/-- A new object in a new block. -/
theorem Rel.alloc (hr : Rel C h φ w) {id : Nat} (hu : h id = .unborn) {o : Ob} (ho : o ≠ .unborn) {v : Value} {x : Obj}
    (hb : ∀ b, blk v = some b → b = w.heap.size)
    (hobj : KeepB (okB C h φ w) (okB C (upd1 h id o) (upd1v φ id v) (w.alloc x)) w (w.alloc x) → ORep C (upd1 h id o) (upd1v φ id v) (w.alloc x) v o) :
    Rel C (upd1 h id o) (upd1v φ id v) (w.alloc x) ∧ KeepB (okB C h φ w) (okB C (upd1 h id o) (upd1v φ id v) (w.alloc x)) w (w.alloc x) := by
  have hle : C.w0.heap.size ≤ w.heap.size := hr.below.size
  refine hr.step (hr.below.alloc hle x) (by simp) (.new hu o ho v) (fun b hb' => heap_alloc_lt w x b hb'.1) ?_ ?_ ?_ ?_
  · intro k hl hk
    have hne : k ≠ id := fun e => hk (e ▸ hu)
    simpa [upd1, hne] using hl
  · intro k hl hk b hb'
    by_cases hne : k = id
    · subst hne
      simp [upd1v] at hb'
      exact .inl (Nat.le_of_eq (hb b hb').symm)
    · simp [upd1, hne, hk, Ob.live] at hl
  · intro k k' b hl hl' hk hk' _ _
    by_cases hne : k = id
    · by_cases hne' : k' = id
      · rw [hne, hne']
      · simp [upd1, hne', hk', Ob.live] at hl'
    · simp [upd1, hne, hk, Ob.live] at hl
  · intro hK k
    by_cases hne : k = id
    · right
      subst hne
      simpa [upd1, upd1v] using hobj hK
    · left
      refine ⟨by simp [upd1, hne], fun hk hl b hb' => heap_alloc_lt w x b ((hr.obj k).block hl hb').1⟩

/-- A change of one own object that may be written, in its own block. -/
theorem Rel.change (hr : Rel C h φ w) {id : Nat} (hl : (h id).live = true) {o : Ob} (kh : KeepH h (upd1 h id o) φ φ)
    (hb : Below C.w0.heap.size C.w0 w') (hsz : w.heap.size ≤ w'.heap.size)
    (hblk : ∀ b, blk (φ id) ≠ some b → b < w.heap.size → w'.heap[b]? = w.heap[b]?)
    (hobj : KeepB (okB C h φ w) (okB C (upd1 h id o) φ w') w w' → ORep C (upd1 h id o) φ w' (φ id) o) :
    Rel C (upd1 h id o) φ w' ∧ KeepB (okB C h φ w) (okB C (upd1 h id o) φ w') w w' := by
  refine hr.step hb hsz kh (fun b hb' => hblk b (hb'.2.2 id hl) hb'.1) ?_ ?_ ?_ ?_
  · intro k hk _
    by_cases hne : k = id
    · rw [hne]; exact hl
    · simpa [upd1, hne] using hk
  · intro k hk hu b hb'
    have hne : k ≠ id := fun e => by rw [e] at hu; rw [hu] at hl; simp [Ob.live] at hl
    simp [upd1, hne, hu, Ob.live] at hk
  · intro k k' b hk hk' hu _ _ _
    have hne : k ≠ id := fun e => by rw [e] at hu; rw [hu] at hl; simp [Ob.live] at hl
    simp [upd1, hne, hu, Ob.live] at hk
  · intro hK k
    by_cases hne : k = id
    · right
      subst hne
      simpa [upd1] using hobj hK
    · left
      refine ⟨by simp [upd1, hne], fun hu hlk b hb' => hblk b (fun e => hne (hr.inj k id b hlk hl hb' e)) ((hr.obj k).block hlk hb').1⟩

theorem KeepH.chg {id : Nat} (hu : h id ≠ .unborn) {o : Ob} (ho : o ≠ .unborn) (hd : o ≠ .dead → h id ≠ .dead) (hrow : ∀ T s xs, o = .row T s xs → ∃ T' xs', h id = .row T' s xs') :
    KeepH h (upd1 h id o) φ φ := by
  refine ⟨fun k hk => ?_, fun _ _ => rfl, fun k hk hd' => ?_, fun k T s xs hk hx => ?_⟩
  · by_cases hne : k = id <;> simp [upd1, hne, ho, hk]
  · by_cases hne : k = id
    · subst hne; simp [upd1] at hd'; exact hd hd'
    · simpa [upd1, hne] using hd'
  · by_cases hne : k = id
    · subst hne; simp [upd1] at hx; exact hrow T s xs hx
    · exact ⟨T, xs, by simpa [upd1, hne] using hx⟩

/-- A row that is never written again. -/
theorem Rel.freezeRow (hr : Rel C h φ w) {id : Nat} {T : TypeId} {s : Nat} {xs : List AV} (hx : h id = .row T s xs) :
    Rel C (upd1 h id (.fro xs)) φ w ∧ KeepB (okB C h φ w) (okB C (upd1 h id (.fro xs)) φ w) w w ∧ KeepH h (upd1 h id (.fro xs)) φ φ := by
  have kh : KeepH h (upd1 h id (.fro xs)) φ φ := .chg (by simp [hx]) (by simp) (by simp [hx]) (by simp)
  have := hr.change (by simp [hx, Ob.live]) kh hr.below (Nat.le_refl _) (fun _ _ _ => rfl) (fun hK => by
    have ho := hr.obj id
    rw [hx] at ho
    obtain ⟨cells, h1, h2, h3, h4, h5⟩ := ho
    show Rep _ w (.sl .p xs) (φ id)
    rcases h1.2 with ⟨hv, hn⟩ | ⟨g, cap, cur, hv, hb, hg, hc1, hc2, hc3, ht⟩
    · rw [hv]
      have : xs = [] := by simpa using hn
      subst this
      exact .nil .p
    · rw [hv]
      cases xs with
      | nil => exact .sl0 hc2
      | cons y ys =>
        have hlt : g < w.heap.size := (Array.getElem?_eq_some_iff.1 hg).1
        have hok : okB C (upd1 h id (.fro (y :: ys))) φ w g := by
          refine ⟨hlt, .inr hb, fun k hk he => ?_⟩
          by_cases hne : k = id
          · subst hne; simp [upd1, Ob.live] at hk
          · simp [upd1, hne] at hk
            exact hne (hr.inj k id g hk (by simp [hx, Ob.live]) he (by simp [hv, blk]))
        refine .sl rfl hc1 hc2 hok (s := s) (RepRow.ofAt (RepAt.ofList (h2.mono hK) (fun i u hu => ?_) h5) h3)
        have := h1.cells (g := g) (by simp [hv, Value.ownBlock]) i u hu
        have ha : (⟨g, 0, none⟩ : Addr).add i = ⟨g, i, none⟩ := by unfold Addr.add; split <;> simp_all
        rw [ha] at this
        simpa using this)
  exact ⟨this.1, this.2, kh⟩

/-- A variable that is never written again. -/
theorem Rel.freezeBox (hr : Rel C h φ w) {id : Nat} {T : TypeId} {cs cs' : List AV} (hx : h id = .box T cs)
    (hv : ∀ vs, VRepL h φ (okB C h φ w) w cs vs → RepL (okB C h φ w) w cs' vs) :
    Rel C (upd1 h id (.fbox cs')) φ w ∧ KeepB (okB C h φ w) (okB C (upd1 h id (.fbox cs')) φ w) w w ∧ KeepH h (upd1 h id (.fbox cs')) φ φ := by
  have kh : KeepH h (upd1 h id (.fbox cs')) φ φ := .chg (by simp [hx]) (by simp) (by simp [hx]) (by simp)
  have := hr.change (by simp [hx, Ob.live]) kh hr.below (Nat.le_refl _) (fun _ _ _ => rfl) (fun hK => by
    have ho := hr.obj id
    rw [hx] at ho
    obtain ⟨b, vs, hp, h1, h2, h3, h5⟩ := ho
    have hlt : b < w.heap.size := (Array.getElem?_eq_some_iff.1 h2).1
    refine ⟨b, hp, ⟨hlt, .inr h1, fun k hk he => ?_⟩, RepAt.ofList ((hv vs h3).mono hK) (fun i u hu => ?_) h5⟩
    · by_cases hne : k = id
      · subst hne; simp [upd1, Ob.live] at hk
      · simp [upd1, hne] at hk
        exact hne (hr.inj k id b hk (by simp [hx, Ob.live]) he (by simp [hp, blk]))
    · simp [World.cell?, h2]
      simpa using hu)
  exact ⟨this.1, this.2, kh⟩
end

end Go.Abs
