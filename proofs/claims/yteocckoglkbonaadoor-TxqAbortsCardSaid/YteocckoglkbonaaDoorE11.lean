/- Function values, appends, stores. -/
import Derived.Test.YteocckoglkbonaaDoorE10
set_option linter.unusedVariables false
set_option linter.unusedSimpArgs false
set_option linter.unusedSectionVars false
namespace Go.Abs
open Go.RowKit

theorem ownBlock_blk' {v : Value} {b : Nat} (h : v.ownBlock = some b) : blk v = some b := by
  cases v <;> simp [Value.ownBlock] at h
  case slice a n c => cases a <;> simp at h; simp [blk, h]
theorem blk_ownBlock {p : Option Addr} {n c b : Nat} (h : blk (.slice p n c) = some b) : (Value.slice p n c).ownBlock = some b := by
  cases p <;> simp [blk] at h; simp [Value.ownBlock, h]

/-- The row that is gone. -/
def deadU : Option Nat → List (Nat × Ob)
  | some id => [(id, .dead)]
  | none => []

section pures
variable {h : SH} {φ : Nat → Value} {A : Nat → Prop} {w : World}
theorem pc_rep {x : AV} {v : Value} (hx : x.pc = true) (p : VRep h φ A w x v) : Rep A w x v := by
  cases p <;> first | assumption | (simp [AV.pc] at hx; done)
theorem pures_rep {xs : List AV} {vs : List Value} (hx : pures xs = true) (p : VRepL h φ A w xs vs) : RepL A w xs vs := by
  induction xs generalizing vs with
  | nil => cases p; exact .nil
  | cons x xs ih =>
    cases p with
    | cons a t =>
      simp [pures] at hx
      exact .cons (pc_rep hx.1 a) (ih hx.2 t)
end pures

section ops
variable {P : Program} {E : Env} {C : C0} {h : SH} {φ : Nat → Value} {w : World} {a : Act} {o : Oper} {rd : Operand → AV} {look : Nat → Ob}
variable (hr : Rel C h φ w) (hρ : ∀ x, VRep h φ (okB C h φ w) w (rd x) (a.eval x)) (hl : Sees look h)

theorem Sees.inv (hl : Sees look h) : FrzInv look h := fun id hu => .inl ((hl id).resolve_left hu).symm

theorem capt_ok : ∀ {xs ys us}, captA look xs = some (ys, us) → (∀ p ∈ us, frzOf look p.1 = some p.2) ∧
    ∀ {h' : SH} {vs : List Value}, Rel C h' φ w → FrzInv look h' → (∀ p ∈ us, h' p.1 = p.2) → VRepL h' φ (okB C h' φ w) w xs vs → RepL (okB C h' φ w) w ys vs
  | [], ys, us, he => by
    simp [captA] at he
    obtain ⟨rfl, rfl⟩ := he
    exact ⟨fun p hp => by simp at hp, fun _ _ _ hv => by cases hv; exact .nil⟩
  | x :: xs, ys, us, he => by
    simp only [captA] at he
    split at he
    · cases he
    · rename_i ys0 us0 e0
      obtain ⟨i1, i2⟩ := capt_ok e0
      split at he
      · rename_i id
        split at he
        · rename_i T cs e1
          split at he
          · rename_i cs' e2
            split at he
            · rename_i e3
              simp at he
              obtain ⟨rfl, rfl⟩ := he
              have hf : frzOf look id = some (.fbox cs') := by simp [frzOf, e1, e2, e3]
              refine ⟨fun p hp => ?_, fun {h' vs} hr' hi' hu hv => ?_⟩
              · rcases List.mem_cons.1 hp with rfl | hp
                · exact hf
                · exact i1 p hp
              · cases hv with
                | cons p q =>
                  refine .cons ?_ (i2 hr' hi' (fun p hp => hu p (by simp [hp])) q)
                  have hid : h' id = .fbox cs' := hu (id, .fbox cs') (by simp)
                  obtain ⟨b, hb, rfl, _⟩ := p.inv_ptr
                  have ho := hr'.obj id
                  rw [hid] at ho
                  obtain ⟨b', h1, h2, h3⟩ := ho
                  rw [hb] at h1
                  injection h1 with h1; injection h1 with h1; injection h1 with h1
                  subst h1
                  simpa using Rep.pin (off := 0) h2 h3
            · cases he
          · cases he
        · rename_i cs e1
          simp at he
          obtain ⟨rfl, rfl⟩ := he
          refine ⟨i1, fun {h' vs} hr' hi' hu hv => ?_⟩
          cases hv with
          | cons p q =>
            refine .cons ?_ (i2 hr' hi' hu q)
            have hid : h' id = .fbox cs := by
              rcases hi' id (by simp [e1]) with h1 | h1
              · rw [h1, e1]
              · simp [frzOf, e1] at h1
            obtain ⟨b, hb, rfl, _⟩ := p.inv_ptr
            have ho := hr'.obj id
            rw [hid] at ho
            obtain ⟨b', h1, h2, h3⟩ := ho
            rw [hb] at h1
            injection h1 with h1; injection h1 with h1; injection h1 with h1
            subst h1
            simpa using Rep.pin (off := 0) h2 h3
        · cases he
      · split at he
        · rename_i e1
          split at he
          · rename_i y e2
            simp at he
            obtain ⟨rfl, rfl⟩ := he
            refine ⟨i1, fun {h' vs} hr' hi' hu hv => ?_⟩
            cases hv with
            | cons p q => exact .cons (view_rep e2 ⟨fun _ hb => hb, by rw [e1]; simp, by rw [e1]; simp⟩ p) (i2 hr' hi' hu q)
          · cases he
        · cases he

include hr hρ hl

omit hr hl in
theorem evalL_rep : ∀ (xs : List Operand), VRepL h φ (okB C h φ w) w (evalL rd xs) (xs.map a.eval)
  | [] => .nil
  | x :: r => .cons (hρ x) (evalL_rep r)

theorem sound_makeFunc {f : FuncId} {caps : Array Operand} (hop : o.op = .makeFunc (.func f) #[] caps) {ys : List AV} {us : List (Nat × Ob)} (he : captA look (evalL rd caps.toList) = some (ys, us)) :
    OpOK P C h φ w a o (updS h us) (.fn f ys) := by
  obtain ⟨i1, i2⟩ := capt_ok (C := C) (φ := φ) (w := w) he
  obtain ⟨r1, r2, r3, r4, r5, r6⟩ := Rel.frz us i1 hr hl.inv
  intro F n next Q hF hn
  have hrun : (execOp a.eval o).run P w = .ok (.value (.func (.func f) #[] (caps.toList.map a.eval).toArray)) w := by
    simp [execOp, hop, Instr.makeFunc]
    apply Array.ext'; simp
  rw [hrun]
  exact hn _ φ w r1 r2 r3 (.pure (.fn (i2 r1 r4 r5 ((evalL_rep hρ caps.toList).mono r2 r3))))

/-! ### append -/

/-- What is appended, in memory. -/
theorem elems_mem {x : Operand} {ys : List AV} (he : elemsA look (rd x) = some ys) {n : Nat} (hn : ∀ y ∈ ys, y.cells.length = n) :
    ∃ p m c news, a.eval x = .slice p m c ∧ m = ys.length ∧ (p = none → m = 0 ∧ c = 0 ∧ news = []) ∧ RepL (okB C h φ w) w (ys.flatMap AV.cells) news ∧ (∀ u ∈ news, u.oneCell' = true) ∧ news.length = m * n ∧
      (∀ ad, p = some ad → ∀ j u, news[j]? = some u → w.cell? (ad.add j) = some u) := by
  have hx := hρ x
  have flat : ∀ (l : List AV), (∀ y ∈ l, y.cells.length = n) → (l.flatMap AV.cells).length = l.length * n := by
    intro l
    induction l with
    | nil => intro _; simp
    | cons y l ih => intro hy; simp only [List.flatMap_cons, List.length_append, List.length_cons, hy y (by simp), ih (fun z hz => hy z (by simp [hz])), Nat.add_mul]; omega
  have main : ∀ v, Rep (okB C h φ w) w (.sl .p ys) v → ∃ p m c news, v = .slice p m c ∧ m = ys.length ∧ (p = none → m = 0 ∧ c = 0 ∧ news = []) ∧ RepL (okB C h φ w) w (ys.flatMap AV.cells) news ∧ (∀ u ∈ news, u.oneCell' = true) ∧ news.length = m * n ∧
      (∀ ad, p = some ad → ∀ j u, news[j]? = some u → w.cell? (ad.add j) = some u) := by
    intro v hv
    obtain ⟨p, c, e, _, _, ⟨_, hnone⟩, h2⟩ := VRep.inv_sl (h := h) (φ := φ) (.pure hv)
    by_cases hne : ys = []
    · subst hne
      exact ⟨p, 0, c, [], e, rfl, fun h => ⟨rfl, hnone h, rfl⟩, by simpa using RepL.nil, by simp, by simp, fun _ _ j u hu => by simp at hu⟩
    · obtain ⟨b, q, s, rfl, h4, h5⟩ := h2 hne
      obtain ⟨h6, h7⟩ := h5.list
      obtain ⟨news, h8, h9, h10⟩ := h6.list
      refine ⟨_, _, c, news, e, rfl, fun h => (by cases h), h8, h10, by rw [← h8.length, flat ys hn], fun ad had j u hu => ?_⟩
      cases had
      rw [add_at]; exact h9 j u hu
  unfold elemsA at he
  split at he
  · rename_i fl xs e1
    rw [e1] at hx
    simp at he; subst he
    have hp := hx.plain
    generalize a.eval x = v at hp ⊢
    cases hp with | pure p => exact main v p
  · rename_i id e1
    rw [e1] at hx
    split at he
    · rename_i T s xs e2
      have hid := hl.get e2 (by simp)
      simp at he; subst he
      have hv := hx.inv_own.2 (by simp [hid])
      have ho := hr.obj id
      rw [hid] at ho
      obtain ⟨cells, h1, h2, h3, h4, h5⟩ := ho
      rw [hv]
      rcases h1.2 with ⟨h6, h7⟩ | ⟨g, cap, cur, h6, _⟩
      · have : xs = [] := List.eq_nil_of_length_eq_zero h7
        subst this
        exact ⟨none, 0, 0, [], h6, rfl, fun _ => ⟨rfl, rfl, rfl⟩, by simpa using RepL.nil, by simp, by simp, fun _ _ j u hu => by simp at hu⟩
      · refine ⟨_, _, cap, cells, h6, rfl, fun h => (by cases h), h2, h5, by rw [← h2.length, flat xs hn], fun ad had j u hu => ?_⟩
        cases had
        exact h1.cells (g := g) (by simp [h6, Value.ownBlock]) j u hu
    · rename_i xs e2
      have hid := hl.get e2 (by simp)
      simp at he; subst he
      have hv := hx.inv_own.2 (by simp [hid])
      have ho := hr.obj id
      rw [hid] at ho
      rw [hv]
      exact main _ ho
    · cases he
  · cases he

/-- The machine's append onto a row of one's own. -/
theorem run_append_any {T e : TypeId} (ty : TypeId) {inf : TypeInfo} {z : Value} {n : Nat} (hu : P.underlying T = some (.slice e)) (hi : P.info? e = some inf) (hz : inf.zero = some z) (hzs : z.cells.size = n) (hin : inf.size = n) (hn0 : 0 < n)
    {v : Value} {k : Nat} {xs : List Value} (hown : w.ownsRow C.w0.heap.size e n v k xs) {x : Value} {p : Option Addr} {m c : Nat} {news : List Value} (hx : x = .slice p m c) (hp : p = none → m = 0 ∧ c = 0 ∧ news = [])
    (hlen : news.length = m * n) (hcell : ∀ ad, p = some ad → ∀ j u, news[j]? = some u → w.cell? (ad.add j) = some u) (h1 : ∀ u ∈ news, u.oneCell' = true) (hb : (k + m) * inf.bytes ≤ 140737488355328) (hm : k + m ≤ 140737488355328) :
    ∃ v' w', (Builtin.append_ #[T, T] ty #[v, x]).run P w = .ok v' w' ∧ w'.ownsRow C.w0.heap.size e n v' (k + m) (xs ++ news) ∧ w.grownBy w' v.ownBlock ∧ ∀ b, blk v' = some b → w.heap.size ≤ b ∨ v.ownBlock = some b := by
  have same : ∀ b, blk v = some b → v.ownBlock = some b := by
    intro b hb
    rcases hown.2 with ⟨rfl, _⟩ | ⟨g, cap, cur, rfl, _⟩
    · simp [blk] at hb
    · exact blk_ownBlock hb
  cases p with
  | none =>
    obtain ⟨rfl, rfl, rfl⟩ := hp rfl
    refine ⟨v, w, ?_, by simpa using hown, ⟨rfl, rfl, rfl, Nat.le_refl _, fun _ _ _ => rfl⟩, fun b hb => .inr (same b hb)⟩
    rw [hx]
    exact run_append_owned_none (P := P) w C.w0.heap.size T ty e inf n hu hi v k xs hown
  | some ad =>
    obtain ⟨v', w', h2, h3, h4, h5⟩ := run_append_own (P := P) w C.w0.heap.size T ty e inf z n inf.bytes hu hi hz hin rfl hzs hn0 v k xs hown ad m c news hlen (hcell ad rfl) h1 (by unfold maxLen; omega) hb hr.below.size
    refine ⟨v', w', by rw [hx]; exact h2, h3, h4, fun b hbk => ?_⟩
    subst hin
    rcases hown.2 with ⟨rfl, rfl⟩ | ⟨g, cap, cur, rfl, hbg, hg, hnc, hcm, hcs, htake⟩
    · by_cases hm0 : m = 0
      · have := h5.2 ⟨rfl, hm0⟩
        rw [this] at hbk; simp [blk] at hbk
      · have hr := run_append_nil (P := P) w T ty e inf z hu hi hz ad m c news hlen (hcell ad rfl) (by omega) (by omega) (by simp only [Nat.zero_add] at hb; omega)
        rw [h2] at hr
        injection hr with hr _
        rw [hr] at hbk
        simp [blk] at hbk
        exact .inl (Nat.le_of_eq hbk)
    · by_cases hroom : k + m ≤ cap
      · have hfit : k * inf.size + news.length ≤ cur.size := by rw [hlen, hcs, ← Nat.add_mul]; exact Nat.mul_le_mul_right _ hroom
        have hr := run_append_room (P := P) w T ty e inf hu hi g k cap cur hg ad m c news hlen (hcell ad rfl) h1 hroom hfit
        rw [h2] at hr
        injection hr with hr _
        rw [hr] at hbk
        exact .inr (by simpa [blk, Value.ownBlock] using hbk)
      · have holds : ∀ j u, xs[j]? = some u → w.cell? ((⟨g, 0, none⟩ : Addr).add j) = some u := hown.cells (g := g) rfl
        have hr := run_append_grow (P := P) w T ty e inf z hu hi hz ⟨g, 0, none⟩ k cap xs hown.1 holds ad m c news hlen (hcell ad rfl) (by omega) (by omega) (growslice_fits (by omega) hb)
        rw [h2] at hr
        injection hr with hr _
        rw [hr] at hbk
        simp [blk] at hbk
        exact .inl (Nat.le_of_eq hbk)

/-- A row that grew in place of another one. -/
theorem Rel.regrow {T : TypeId} {s : Nat} {fresh : Nat} (hf : h fresh = .unborn) {old : Option Nat} {xs : List AV} (hold : ∀ id, old = some id → ∃ ys, h id = .row T s ys)
    {v v' : Value} {w' : World} (hv : (∃ id, old = some id ∧ v = φ id) ∨ (old = none ∧ v.ownBlock = none)) {cells : List Value}
    (hg : w.grownBy w' v.ownBlock) (hown : w'.ownsRow C.w0.heap.size T s v' xs.length cells) (hnew : ∀ b, blk v' = some b → w.heap.size ≤ b ∨ v.ownBlock = some b)
    (hc : RepL (okB C h φ w) w (xs.flatMap AV.cells) cells) (hs : ∀ x ∈ xs, x.cells.length = s) (h0 : 0 < s) (h1 : ∀ u ∈ cells, u.oneCell' = true) :
    let h' := newS (updS h (deadU old)) fresh [.row T s xs]
    Rel C h' (upd1v φ fresh v') w' ∧ KeepB (okB C h φ w) (okB C h' (upd1v φ fresh v') w') w w' ∧ KeepH h h' φ (upd1v φ fresh v') ∧ h' fresh = .row T s xs := by
  intro h'
  have hne : ∀ id, old = some id → id ≠ fresh := fun id hid e => by
    obtain ⟨ys, hy⟩ := hold id hid
    rw [e, hf] at hy; cases hy
  have hh' : ∀ k, h' k = if k = fresh then .row T s xs else if old = some k then .dead else h k := by
    intro k
    cases old with
    | none => simp [h', newS, updS, upd1, deadU]
    | some id =>
      simp only [h', newS, updS, upd1, deadU]
      split
      · rfl
      · split
        · rename_i e; simp [e]
        · rename_i e; rw [if_neg]; intro e2; simp at e2; exact e e2.symm
  have kh : KeepH h h' φ (upd1v φ fresh v') := by
    have hnf : ∀ k, h k ≠ .unborn → k ≠ fresh := fun k hk e => hk (e ▸ hf)
    refine ⟨fun k hk => ?_, fun k hk => by simp [upd1v, hnf k hk], fun k hk hd => ?_, fun k T' s' xs' hk hx => ?_⟩
    · rw [hh', if_neg (hnf k hk)]; split <;> simp [hk]
    · rw [hh', if_neg (hnf k hk)] at hd
      split at hd
      · exact absurd rfl hd
      · exact hd
    · rw [hh', if_neg (hnf k hk)] at hx
      split at hx
      · cases hx
      · exact ⟨_, _, hx⟩
  have hblkv : ∀ id, old = some id → ∀ b, v.ownBlock = some b → blk (φ id) = some b := by
    intro id hid b hb
    rcases hv with ⟨id', h2, h3⟩ | ⟨h2, _⟩
    · rw [hid] at h2; cases h2; rw [← h3]; exact ownBlock_blk' hb
    · rw [hid] at h2; cases h2
  obtain ⟨r1, r2⟩ := hr.step (h' := h') (φ' := upd1v φ fresh v') (w' := w')
    (hr.below.trans ⟨hg.os, hg.tape, hg.output, hg.size, fun b hb => hg.block b (Nat.lt_of_lt_of_le hb hr.below.size) (fun e => by
      rcases hv with ⟨id, h2, h3⟩ | ⟨_, h3⟩
      · obtain ⟨ys, hy⟩ := hold id h2
        have := (hr.obj id).block (b := b) (by simp [hy, Ob.live]) (hblkv id h2 b e.symm)
        omega
      · rw [h3] at e; cases e)⟩)
    hg.size kh
    (fun b hb => hg.block b hb.1 (fun e => by
      rcases hv with ⟨id, h2, h3⟩ | ⟨_, h3⟩
      · obtain ⟨ys, hy⟩ := hold id h2
        exact hb.2.2 id (by simp [hy, Ob.live]) (hblkv id h2 b e.symm)
      · rw [h3] at e; cases e))
    (fun k hk hu => by
      have hkf : k ≠ fresh := fun e => hu (e ▸ hf)
      rw [hh', if_neg hkf] at hk
      split at hk
      · simp [Ob.live] at hk
      · exact hk)
    (fun k hk hu b hb => by
      by_cases e : k = fresh
      · subst e
        simp [upd1v] at hb
        rcases hnew b hb with h2 | h2
        · exact .inl h2
        · rcases hv with ⟨id, h3, h4⟩ | ⟨_, h4⟩
          · obtain ⟨ys, hy⟩ := hold id h3
            refine .inr ⟨id, by simp [hy, Ob.live], ?_, hblkv id h3 b h2⟩
            rw [hh', if_neg (hne id h3), if_pos h3]; rfl
          · rw [h4] at h2; cases h2
      · rw [hh', if_neg e] at hk
        split at hk
        · simp [Ob.live] at hk
        · simp [hu, Ob.live] at hk)
    (fun k k' b hk hk' hu hu' _ _ => by
      have : ∀ q, (h' q).live = true → h q = .unborn → q = fresh := by
        intro q hq hqu
        by_cases e : q = fresh
        · exact e
        · rw [hh', if_neg e] at hq
          split at hq
          · simp [Ob.live] at hq
          · simp [hqu, Ob.live] at hq
      rw [this k hk hu, this k' hk' hu'])
    (fun hK k => by
      by_cases e : k = fresh
      · right
        subst e
        rw [hh', if_pos rfl]
        refine ⟨cells, by simpa [upd1v] using hown, hc.mono hK, hs, h0, h1⟩
      · by_cases e2 : old = some k
        · right; rw [hh', if_neg e, if_pos e2]; trivial
        · left
          refine ⟨by rw [hh', if_neg e, if_neg e2], fun hu hlk b hb => hg.block b ((hr.obj k).block hlk hb).1 (fun eb => ?_)⟩
          rcases hv with ⟨id, h3, h4⟩ | ⟨_, h4⟩
          · obtain ⟨ys, hy⟩ := hold id h3
            have := hr.inj k id b hlk (by simp [hy, Ob.live]) hb (hblkv id h3 b eb.symm)
            exact e2 (by rw [this]; exact h3)
          · rw [h4] at eb; cases eb)
  exact ⟨r1, r2, kh, by rw [hh', if_pos rfl]⟩

theorem zero_len {v : Value} {n : Nat} (h1 : (ofValue v).cells.length = n) : v.cells.size = n := by
  obtain ⟨us, h2, h3⟩ := zero_cells (C := C) (h := h) (φ := φ) (w := w) v
  rw [h2, ← h1, h3.length]; simp

theorem sound_append {c : Call} {T : TypeId} {s x : Operand} (hop : o.op = .call c) (hc : c.callee = .builtin .append) (hargs : c.args.toList = [s, x]) (hts : c.argTypes.toList = [T, T]) {fresh : Nat} (hf : h fresh = .unborn)
    {eff : Eff} (he : appendA P look T (rd s) (rd x) fresh = some eff) (hob : All eff.obl) : OpOK P C h φ w a o (newS (updS h eff.upd) fresh eff.new) eff.val := by
  have hs := hρ s
  unfold appendA at he
  split at he
  · rename_i e ys hT hys
    have hu : P.underlying T = some (.slice e) := by unfold elemA at hT; split at hT <;> simp_all
    split at he
    · rename_i n z inf hsz hz hinf
      split at he
      · rename_i hcond
        simp at hcond
        obtain ⟨zv, inf', h1, h2, h3, rfl⟩ := zeroA_run (w := w) hz
        rw [hinf] at h1; cases h1
        have hzs := zero_len hr hρ hl hcond.1
        have hin : inf.size = n := by unfold sz at hsz; simp [hinf] at hsz; exact hsz
        have finish : ∀ (v : Value) (k : Nat) (old : Option Nat) (xs : List AV) (cells : List Value), a.eval s = v → w.ownsRow C.w0.heap.size e n v k cells → k = xs.length →
            (∀ id, old = some id → ∃ ys, h id = .row e n ys) → ((∃ id, old = some id ∧ v = φ id) ∨ (old = none ∧ v.ownBlock = none)) →
            RepL (okB C h φ w) w (xs.flatMap AV.cells) cells → (∀ y ∈ xs, y.cells.length = n) → (∀ u ∈ cells, u.oneCell' = true) →
            (∀ y ∈ ys, y.cells.length = n) → (xs.length + ys.length) * inf.bytes ≤ 140737488355328 → xs.length + ys.length ≤ 140737488355328 →
            OpOK P C h φ w a o (newS (updS h (deadU old)) fresh [.row e n (xs ++ ys)]) (.own fresh) := by
          intro v k old xs cells hv hown hk hold hvold hcells hxs hc1 hyn hb hm
          obtain ⟨p, m, cp, news, hx, hm2, hp, hnews, hn1, hlen, hcell⟩ := elems_mem hr hρ hl hys hyn
          obtain ⟨v', w', g1, g2, g3, g4⟩ := run_append_any hr hρ hl o.type hu hinf h2 hzs hin (by omega) hown hx hp hlen hcell hn1 (by rw [hk, hm2]; exact hb) (by rw [hk, hm2]; exact hm)
          obtain ⟨r1, r2, r3, r4⟩ := Rel.regrow hr hρ hl hf hold hvold g3 (xs := xs ++ ys) (by rw [List.length_append, ← hk, ← hm2]; exact g2) g4 (by rw [List.flatMap_append]; exact hcells.append hnews)
            (fun y hy => by rcases List.mem_append.1 hy with h | h; exact hxs y h; exact hyn y h) (by omega) (fun u hu => by rcases List.mem_append.1 hu with h | h; exact hc1 u h; exact hn1 u h)
          intro F q next Q hF hn
          obtain ⟨cs, hres⟩ := resolve_builtin (P := P) (a := a) (w := w) hc o.type
          have hrun : (execOp a.eval o).run P w = .ok (.value v') w' := by
            simp only [execOp, hop, Sem.run_bind, hres, Result.andThen_ok, invoke, builtin, toList_two hargs, toList_two hts, List.map_toArray, List.map_cons, List.map_nil, hv, g1]
            rfl
          rw [hrun]
          have hone : v'.oneCell' = true := by rcases g2.2 with ⟨h9, _⟩ | ⟨_, _, _, h9, _⟩ <;> rw [h9] <;> rfl
          refine hn v' _ w' r1 r2 r3 (.own (by rw [r4]; simp) hone (fun _ => by simp [upd1v]))
        split at he
        · rename_i e1
          rw [e1] at hs
          simp at he; subst he
          obtain ⟨p, c', e2, _, _, ⟨e3, _⟩, _⟩ := hs.inv_sl
          have hv := e3 rfl rfl
          exact finish _ 0 none [] [] hv (World.ownsRow_nil w _ e n) rfl (fun _ h => by cases h) (.inr ⟨rfl, rfl⟩) .nil (by simp) (by simp) hob.1 (by simpa using hob.2.1) (by simpa using hob.2.2.1)
        · rename_i id e1
          rw [e1] at hs
          split at he
          · rename_i e' n' xs e2
            have hid := hl.get e2 (by simp)
            split at he
            · rename_i hee
              obtain ⟨rfl, rfl⟩ := by simpa using hee
              simp at he; subst he
              have hv := hs.inv_own.2 (by simp [hid])
              have ho := hr.obj id
              rw [hid] at ho
              obtain ⟨cells, g1, g2, g3, g4, g5⟩ := ho
              exact finish _ xs.length (some id) xs cells hv g1 rfl (fun k hk => by cases hk; exact ⟨xs, hid⟩) (.inl ⟨id, rfl, rfl⟩) g2 g3 g5 hob.1 hob.2.1 hob.2.2.1
            · cases he
          · cases he
        · cases he
      · cases he
    · cases he
  · cases he
end ops

end Go.Abs
