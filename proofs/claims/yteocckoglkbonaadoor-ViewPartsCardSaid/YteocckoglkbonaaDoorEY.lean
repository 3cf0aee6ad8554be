/- What is let be: rows and variables that are not written again; function values; calls' arguments. -/
import Derived.Test.YteocckoglkbonaaDoorEX
import Derived.MapKept
import Derived.RangeFuncRecord
set_option linter.unusedVariables false
set_option linter.unusedSimpArgs false
set_option linter.unusedSectionVars false
namespace Go.Abs
open Go.RowKit

section view
variable {h : SH} {φ : Nat → Value} {A A' : Nat → Prop} {w : World} {look : Nat → Ob}

/-- What is asked of the own objects that a value refers to. -/
structure ViewOK (look : Nat → Ob) (h : SH) (φ : Nat → Value) (A A' : Nat → Prop) (w : World) (ids : List Nat) : Prop where
  sub : ∀ b, A b → A' b
  row : ∀ id ∈ ids, ∀ xs, ((∃ T s, look id = .row T s xs) ∨ look id = .fro xs) → h id ≠ .dead ∧ Rep A' w (.sl .p xs) (φ id)
  box : ∀ id ∈ ids, ∀ cs, look id = .fbox cs → ∃ b, φ id = .pointer (some ⟨b, 0, none⟩) ∧ A' b ∧ RepAt A' w cs b 0

theorem ViewOK.mono {ids ids' : List Nat} (k : ViewOK look h φ A A' w ids) (hs : ∀ id ∈ ids', id ∈ ids) : ViewOK look h φ A A' w ids' :=
  ⟨k.sub, fun id hi => k.row id (hs id hi), fun id hi => k.box id (hs id hi)⟩

theorem Rep.plain {fl : Fl} {xs : List AV} {v : Value} (p : Rep A w (.sl fl xs) v) : Rep A w (.sl .p xs) v := by
  cases p with
  | nil fl => exact .nil .p
  | sl0 hc => exact .sl0 hc
  | sl a1 a2 a3 a4 a5 => exact .sl a1 a2 a3 a4 a5
  | tight e q => exact q

mutual
theorem view_rep : ∀ {x y v}, x.view look = some y → ViewOK look h φ A A' w x.refs → VRep h φ A w x v → Rep A' w y v
  | .own id, y, v, he, k, p => by
    have hv := p.inv_own
    simp only [AV.view] at he
    split at he
    · rename_i T s xs e
      simp at he; subst he
      obtain ⟨h1, h2⟩ := k.row id (by simp [AV.refs]) xs (.inl ⟨_, _, e⟩)
      rw [hv.2 h1]; exact h2
    · rename_i xs e
      simp at he; subst he
      obtain ⟨h1, h2⟩ := k.row id (by simp [AV.refs]) xs (.inr e)
      rw [hv.2 h1]; exact h2
    · cases he
  | .agg cs, y, v, he, k, p => by
    obtain ⟨vs, rfl, hv⟩ := p.inv_agg
    simp only [AV.view] at he
    split at he
    · rename_i l e
      simp at he; subst he
      exact .agg (view_repL e (k.mono (by simp [AV.refs])) hv)
    · cases he
  | .tup cs, y, v, he, k, p => by
    obtain ⟨vs, rfl, hv⟩ := p.inv_tup
    simp only [AV.view] at he
    split at he
    · rename_i l e
      simp at he; subst he
      exact .tup (view_repL e (k.mono (by simp [AV.refs])) hv)
    · cases he
  | .sl fl xs, y, v, he, k, p => by
    simp only [AV.view] at he
    simp at he; subst he
    have p := p.plain
    cases p with | pure p => exact p.mono fun b hb => ⟨k.sub b hb, rfl⟩
  | .ptr id off, y, v, he, k, p => by
    obtain ⟨b, hb, rfl, hu⟩ := p.inv_ptr
    simp only [AV.view] at he
    split at he
    · rename_i cs e
      simp at he; subst he
      obtain ⟨b', h1, h2, h3⟩ := k.box id (by simp [AV.refs]) cs e
      rw [hb] at h1
      injection h1 with h1; injection h1 with h1; injection h1 with h1
      subst h1
      simpa using Rep.pin (off := off) h2 h3
    · cases he
  | .ptrE _ _ _, y, v, he, k, p => by simp [AV.view] at he
  | .junk, y, v, he, k, p => by simp [AV.view] at he
  | .bool b, y, v, he, k, p => by simp [AV.view] at he; subst he; rw [p.inv_bool]; exact .bool b
  | .int q n, y, v, he, k, p => by simp [AV.view] at he; subst he; rw [p.inv_int]; exact .int q n
  | .str s, y, v, he, k, p => by simp [AV.view] at he; subst he; rw [p.inv_str]; exact .str s
  | .fn f cap, y, v, he, k, p => by
    simp [AV.view] at he; subst he
    cases p with | pure p => exact p.mono fun b hb => ⟨k.sub b hb, rfl⟩
  | .pin cs off, y, v, he, k, p => by
    simp [AV.view] at he; subst he
    cases p with | pure p => exact p.mono fun b hb => ⟨k.sub b hb, rfl⟩
  | .nilp, y, v, he, k, p => by
    simp [AV.view] at he; subst he
    cases p with | pure p => exact p.mono fun b hb => ⟨k.sub b hb, rfl⟩
theorem view_repL : ∀ {xs ys vs}, AV.viewL look xs = some ys → ViewOK look h φ A A' w (AV.refsL xs) → VRepL h φ A w xs vs → RepL A' w ys vs
  | [], ys, vs, he, k, p => by simp [AV.viewL] at he; subst he; cases p; exact .nil
  | x :: xs, ys, vs, he, k, p => by
    simp only [AV.viewL] at he
    split at he
    · rename_i y e1
      split at he
      · rename_i l e2
        simp at he; subst he
        cases p with
        | cons p1 p2 => exact .cons (view_rep e1 (k.mono (by simp [AV.refsL]; intro id hi; exact .inl hi)) p1) (view_repL e2 (k.mono (by simp [AV.refsL]; intro id hi; exact .inr hi)) p2)
      · cases he
    · cases he
end
mutual
theorem viewK_rep : ∀ {x y v}, x.viewK look = some y → ViewOK look h φ A A' w x.refs → VRep h φ A w x v → Rep A' w y v
  | .sl fl xs, y, v, he, k, p => by
    simp only [AV.viewK] at he
    simp at he; subst he
    cases p with | pure p => exact p.mono fun b hb => ⟨k.sub b hb, rfl⟩
  | .agg cs, y, v, he, k, p => by
    obtain ⟨vs, rfl, hv⟩ := p.inv_agg
    simp only [AV.viewK] at he
    split at he
    · rename_i l e
      simp at he; subst he
      exact .agg (viewK_repL e (k.mono (by simp [AV.refs])) hv)
    · cases he
  | .own id, y, v, he, k, p => by simp only [AV.viewK] at he; exact view_rep he k p
  | .tup cs, y, v, he, k, p => by simp only [AV.viewK] at he; exact view_rep he k p
  | .ptr id off, y, v, he, k, p => by simp only [AV.viewK] at he; exact view_rep he k p
  | .ptrE id i off, y, v, he, k, p => by simp only [AV.viewK] at he; exact view_rep he k p
  | .junk, y, v, he, k, p => by simp [AV.viewK] at he
  | .bool b, y, v, he, k, p => by simp only [AV.viewK] at he; exact view_rep (by simp only [AV.view]; exact he) k p
  | .int q n, y, v, he, k, p => by simp only [AV.viewK] at he; exact view_rep (by simp only [AV.view]; exact he) k p
  | .str s, y, v, he, k, p => by simp only [AV.viewK] at he; exact view_rep (by simp only [AV.view]; exact he) k p
  | .fn f cap, y, v, he, k, p => by simp only [AV.viewK] at he; exact view_rep (by simp only [AV.view]; exact he) k p
  | .pin cs off, y, v, he, k, p => by simp only [AV.viewK] at he; exact view_rep (by simp only [AV.view]; exact he) k p
  | .nilp, y, v, he, k, p => by simp only [AV.viewK] at he; exact view_rep (by simp only [AV.view]; exact he) k p
theorem viewK_repL : ∀ {xs ys vs}, AV.viewKL look xs = some ys → ViewOK look h φ A A' w (AV.refsL xs) → VRepL h φ A w xs vs → RepL A' w ys vs
  | [], ys, vs, he, k, p => by simp [AV.viewKL] at he; subst he; cases p; exact .nil
  | x :: xs, ys, vs, he, k, p => by
    simp only [AV.viewKL] at he
    split at he
    · rename_i y e1
      split at he
      · rename_i l e2
        simp at he; subst he
        cases p with
        | cons p1 p2 => exact .cons (viewK_rep e1 (k.mono (by simp [AV.refsL]; intro id hi; exact .inl hi)) p1) (viewK_repL e2 (k.mono (by simp [AV.refsL]; intro id hi; exact .inr hi)) p2)
      · cases he
    · cases he
end
end view

/-- What an own object is when it is not written again. -/
def frzOf (look : Nat → Ob) (id : Nat) : Option Ob :=
  match look id with
  | .row _ _ xs => some (.fro xs)
  | .box _ cs => if AV.refsL cs = [] then (match AV.viewL look cs with | some cs' => some (.fbox cs') | none => none) else none
  | _ => none

section frz
variable {C : C0} {φ : Nat → Value} {w : World} {look : Nat → Ob}

/-- Each object that is seen is as it was, or is not written again. -/
def FrzInv (look : Nat → Ob) (h : SH) : Prop := ∀ id, look id ≠ .unborn → h id = look id ∨ frzOf look id = some (h id)

theorem upd1_self (h : SH) (id : Nat) : upd1 h id (h id) = h := by funext k; simp [upd1]; intro e; rw [e]

theorem Rel.frz1 {h : SH} (hr : Rel C h φ w) (hi : FrzInv look h) {id : Nat} {o : Ob} (ho : frzOf look id = some o) :
    Rel C (upd1 h id o) φ w ∧ KeepB (okB C h φ w) (okB C (upd1 h id o) φ w) w w ∧ KeepH h (upd1 h id o) φ φ ∧ FrzInv look (upd1 h id o) := by
  have hu : look id ≠ .unborn := by intro e; simp [frzOf, e] at ho
  have hinv : FrzInv look (upd1 h id o) := by
    intro k hk
    by_cases e : k = id
    · subst e; right; simpa [upd1] using ho
    · have := hi k hk; simpa [upd1, e] using this
  rcases hi id hu with h1 | h1
  · cases hL : look id with
    | row T s xs =>
      simp [frzOf, hL] at ho; subst ho
      obtain ⟨a1, a2, a3⟩ := hr.freezeRow (h1.trans hL)
      exact ⟨a1, a2, a3, hinv⟩
    | box T cs =>
      simp only [frzOf, hL] at ho
      split at ho
      · rename_i hrefs
        split at ho
        · rename_i cs' hv
          simp at ho; subst ho
          obtain ⟨a1, a2, a3⟩ := hr.freezeBox (cs' := cs') (h1.trans hL) (fun vs hvs => view_repL hv ⟨fun _ hb => hb, by rw [hrefs]; simp, by rw [hrefs]; simp⟩ hvs)
          exact ⟨a1, a2, a3, hinv⟩
        · cases ho
      · cases ho
    | _ => simp [frzOf, hL] at ho
  · rw [ho] at h1
    have e : o = h id := by simpa using h1
    subst e
    rw [upd1_self] at hinv ⊢
    exact ⟨hr, keepB_refl _ _, .refl _ _, hinv⟩

theorem KeepB.trans {A A' A'' : Nat → Prop} {w w' w'' : World} (k : KeepB A A' w w') (k' : KeepB A' A'' w' w'') : KeepB A A'' w w'' :=
  fun b hb => ⟨(k' b (k b hb).1).1, (k' b (k b hb).1).2.trans (k b hb).2⟩

theorem Rel.frz : ∀ (us : List (Nat × Ob)) {h : SH}, (∀ p ∈ us, frzOf look p.1 = some p.2) → Rel C h φ w → FrzInv look h →
    Rel C (updS h us) φ w ∧ KeepB (okB C h φ w) (okB C (updS h us) φ w) w w ∧ KeepH h (updS h us) φ φ ∧ FrzInv look (updS h us) ∧ (∀ p ∈ us, updS h us p.1 = p.2) ∧ (∀ id, (∀ p ∈ us, p.1 ≠ id) → updS h us id = h id)
  | [], h, _, hr, hi => ⟨hr, keepB_refl _ _, .refl _ _, hi, fun p hp => (by simp at hp), fun _ _ => rfl⟩
  | (id, o) :: us, h, hus, hr, hi => by
    have ho := hus (id, o) (by simp)
    obtain ⟨a1, a2, a3, a4⟩ := hr.frz1 hi ho
    obtain ⟨b1, b2, b3, b4, b5, b6⟩ := Rel.frz us (fun p hp => hus p (by simp [hp])) a1 a4
    refine ⟨b1, a2.trans b2, a3.trans b3, b4, fun p hp => ?_, fun k hk => ?_⟩
    · rcases List.mem_cons.1 hp with rfl | hp
      · by_cases e : ∃ q ∈ us, q.1 = id
        · obtain ⟨q, hq, rfl⟩ := e
          have h1 := b5 q hq
          have h2 := hus q (by simp [hq])
          rw [ho] at h2
          simp at h2
          exact h1.trans h2.symm
        · rw [updS, b6 id (fun q hq he => e ⟨q, hq, he⟩)]
          simp [upd1]
      · exact b5 p hp
    · rw [updS, b6 k (fun p hp => hk p (by simp [hp]))]
      have := hk (id, o) (by simp)
      simp [upd1]
      intro e; exact absurd e.symm this

theorem freeze_ok (ids : List Nat) : ∀ p ∈ freeze look ids, frzOf look p.1 = some p.2 := by
  induction ids with
  | nil => intro p hp; simp [freeze] at hp
  | cons id ids ih =>
    intro p hp
    unfold freeze at hp
    split at hp
    · rename_i T s xs e
      rcases List.mem_cons.1 hp with rfl | hp
      · simp [frzOf, e]
      · exact ih p hp
    · exact ih p hp
theorem freeze_mem {ids : List Nat} {id : Nat} {T : TypeId} {s : Nat} {xs : List AV} (hi : id ∈ ids) (he : look id = .row T s xs) : (id, .fro xs) ∈ freeze look ids := by
  induction ids with
  | nil => simp at hi
  | cons k ids ih =>
    unfold freeze
    rcases List.mem_cons.1 hi with rfl | hi
    · simp [he]
    · split
      · exact List.mem_cons_of_mem _ (ih hi)
      · exact ih hi
theorem freeze_row {ids : List Nat} {p : Nat × Ob} (hp : p ∈ freeze look ids) : p.1 ∈ ids ∧ ∃ T s xs, look p.1 = .row T s xs := by
  induction ids with
  | nil => simp [freeze] at hp
  | cons k ids ih =>
    unfold freeze at hp
    split at hp
    · rename_i T s xs e
      rcases List.mem_cons.1 hp with rfl | hp
      · exact ⟨by simp, _, _, _, e⟩
      · exact ⟨List.mem_cons_of_mem _ (ih hp).1, (ih hp).2⟩
    · exact ⟨List.mem_cons_of_mem _ (ih hp).1, (ih hp).2⟩
end frz

end Go.Abs
/- Function values, appends, stores. -/
set_option linter.unusedVariables false
set_option linter.unusedSimpArgs false
set_option linter.unusedSectionVars false
namespace Go.Abs
open Go.RowKit

theorem ownBlock_blk' {v : Value} {b : Nat} (h : v.ownBlock = some b) : blk v = some b := by
  cases v <;> simp [Value.ownBlock] at h
  case slice a n c => cases a <;> simp at h; simp [blk, h]
theorem blk_ownBlock {p : Option Addr} {n c b : Nat} (h : blk (.slice p n c) = some b) : (Value.slice p n c).ownBlock = some b := by
  cases p <;> simp [blk] at h; simp [Value.ownBlock, h]

/-- The row that is gone. -/
def deadU : Option Nat → List (Nat × Ob)
  | some id => [(id, .dead)]
  | none => []

section pures
variable {h : SH} {φ : Nat → Value} {A : Nat → Prop} {w : World}
theorem pc_rep {x : AV} {v : Value} (hx : x.pc = true) (p : VRep h φ A w x v) : Rep A w x v := by
  cases p <;> first | assumption | (simp [AV.pc] at hx; done)
theorem pures_rep {xs : List AV} {vs : List Value} (hx : pures xs = true) (p : VRepL h φ A w xs vs) : RepL A w xs vs := by
  induction xs generalizing vs with
  | nil => cases p; exact .nil
  | cons x xs ih =>
    cases p with
    | cons a t =>
      simp [pures] at hx
      exact .cons (pc_rep hx.1 a) (ih hx.2 t)
end pures

section ops
variable {P : Program} {E : Env} {C : C0} {h : SH} {φ : Nat → Value} {w : World} {a : Act} {o : Oper} {rd : Operand → AV} {look : Nat → Ob}
variable (hr : Rel C h φ w) (hρ : ∀ x, VRep h φ (okB C h φ w) w (rd x) (a.eval x)) (hl : Sees look h)

theorem Sees.inv (hl : Sees look h) : FrzInv look h := fun id hu => .inl ((hl id).resolve_left hu).symm

theorem capt_ok : ∀ {xs ys us}, captA look xs = some (ys, us) → (∀ p ∈ us, frzOf look p.1 = some p.2) ∧
    ∀ {h' : SH} {vs : List Value}, Rel C h' φ w → FrzInv look h' → (∀ p ∈ us, h' p.1 = p.2) → VRepL h' φ (okB C h' φ w) w xs vs → RepL (okB C h' φ w) w ys vs
  | [], ys, us, he => by
    simp [captA] at he
    obtain ⟨rfl, rfl⟩ := he
    exact ⟨fun p hp => by simp at hp, fun _ _ _ hv => by cases hv; exact .nil⟩
  | x :: xs, ys, us, he => by
    simp only [captA] at he
    split at he
    · cases he
    · rename_i ys0 us0 e0
      obtain ⟨i1, i2⟩ := capt_ok e0
      split at he
      · rename_i id
        split at he
        · rename_i T cs e1
          split at he
          · rename_i cs' e2
            split at he
            · rename_i e3
              simp at he
              obtain ⟨rfl, rfl⟩ := he
              have hf : frzOf look id = some (.fbox cs') := by simp [frzOf, e1, e2, e3]
              refine ⟨fun p hp => ?_, fun {h' vs} hr' hi' hu hv => ?_⟩
              · rcases List.mem_cons.1 hp with rfl | hp
                · exact hf
                · exact i1 p hp
              · cases hv with
                | cons p q =>
                  refine .cons ?_ (i2 hr' hi' (fun p hp => hu p (by simp [hp])) q)
                  have hid : h' id = .fbox cs' := hu (id, .fbox cs') (by simp)
                  obtain ⟨b, hb, rfl, _⟩ := p.inv_ptr
                  have ho := hr'.obj id
                  rw [hid] at ho
                  obtain ⟨b', h1, h2, h3⟩ := ho
                  rw [hb] at h1
                  injection h1 with h1; injection h1 with h1; injection h1 with h1
                  subst h1
                  simpa using Rep.pin (off := 0) h2 h3
            · cases he
          · cases he
        · rename_i cs e1
          simp at he
          obtain ⟨rfl, rfl⟩ := he
          refine ⟨i1, fun {h' vs} hr' hi' hu hv => ?_⟩
          cases hv with
          | cons p q =>
            refine .cons ?_ (i2 hr' hi' hu q)
            have hid : h' id = .fbox cs := by
              rcases hi' id (by simp [e1]) with h1 | h1
              · rw [h1, e1]
              · simp [frzOf, e1] at h1
            obtain ⟨b, hb, rfl, _⟩ := p.inv_ptr
            have ho := hr'.obj id
            rw [hid] at ho
            obtain ⟨b', h1, h2, h3⟩ := ho
            rw [hb] at h1
            injection h1 with h1; injection h1 with h1; injection h1 with h1
            subst h1
            simpa using Rep.pin (off := 0) h2 h3
        · cases he
      · split at he
        · rename_i e1
          split at he
          · rename_i y e2
            simp at he
            obtain ⟨rfl, rfl⟩ := he
            refine ⟨i1, fun {h' vs} hr' hi' hu hv => ?_⟩
            cases hv with
            | cons p q => exact .cons (view_rep e2 ⟨fun _ hb => hb, by rw [e1]; simp, by rw [e1]; simp⟩ p) (i2 hr' hi' hu q)
          · cases he
        · cases he

include hr hρ hl

omit hr hl in
theorem evalL_rep : ∀ (xs : List Operand), VRepL h φ (okB C h φ w) w (evalL rd xs) (xs.map a.eval)
  | [] => .nil
  | x :: r => .cons (hρ x) (evalL_rep r)

theorem sound_makeFunc {f : FuncId} {caps : Array Operand} (hop : o.op = .makeFunc (.func f) #[] caps) {ys : List AV} {us : List (Nat × Ob)} (he : captA look (evalL rd caps.toList) = some (ys, us)) :
    OpOK P C h φ w a o (updS h us) (.fn f ys) := by
  obtain ⟨i1, i2⟩ := capt_ok (C := C) (φ := φ) (w := w) he
  obtain ⟨r1, r2, r3, r4, r5, r6⟩ := Rel.frz us i1 hr hl.inv
  intro F n next Q hF hn
  have hrun : (execOp a.eval o).run P w = .ok (.value (.func (.func f) #[] (caps.toList.map a.eval).toArray)) w := by
    simp [execOp, hop, Instr.makeFunc]
    apply Array.ext'; simp
  rw [hrun]
  exact hn _ φ w r1 r2 r3 (.pure (.fn (i2 r1 r4 r5 ((evalL_rep hρ caps.toList).mono r2 r3))))

/-! ### append -/

/-- What is appended, in memory. -/
theorem elems_mem {x : Operand} {ys : List AV} (he : elemsA look (rd x) = some ys) {n : Nat} (hn : ∀ y ∈ ys, y.cells.length = n) :
    ∃ p m c news, a.eval x = .slice p m c ∧ m = ys.length ∧ (p = none → m = 0 ∧ c = 0 ∧ news = []) ∧ RepL (okB C h φ w) w (ys.flatMap AV.cells) news ∧ (∀ u ∈ news, u.oneCell' = true) ∧ news.length = m * n ∧
      (∀ ad, p = some ad → ∀ j u, news[j]? = some u → w.cell? (ad.add j) = some u) := by
  have hx := hρ x
  have flat : ∀ (l : List AV), (∀ y ∈ l, y.cells.length = n) → (l.flatMap AV.cells).length = l.length * n := by
    intro l
    induction l with
    | nil => intro _; simp
    | cons y l ih => intro hy; simp only [List.flatMap_cons, List.length_append, List.length_cons, hy y (by simp), ih (fun z hz => hy z (by simp [hz])), Nat.add_mul]; omega
  have main : ∀ v, Rep (okB C h φ w) w (.sl .p ys) v → ∃ p m c news, v = .slice p m c ∧ m = ys.length ∧ (p = none → m = 0 ∧ c = 0 ∧ news = []) ∧ RepL (okB C h φ w) w (ys.flatMap AV.cells) news ∧ (∀ u ∈ news, u.oneCell' = true) ∧ news.length = m * n ∧
      (∀ ad, p = some ad → ∀ j u, news[j]? = some u → w.cell? (ad.add j) = some u) := by
    intro v hv
    obtain ⟨p, c, e, _, _, ⟨_, hnone⟩, h2⟩ := VRep.inv_sl (h := h) (φ := φ) (.pure hv)
    by_cases hne : ys = []
    · subst hne
      exact ⟨p, 0, c, [], e, rfl, fun h => ⟨rfl, hnone h, rfl⟩, by simpa using RepL.nil, by simp, by simp, fun _ _ j u hu => by simp at hu⟩
    · obtain ⟨b, q, s, rfl, h4, h5⟩ := h2 hne
      obtain ⟨h6, h7⟩ := h5.list
      obtain ⟨news, h8, h9, h10⟩ := h6.list
      refine ⟨_, _, c, news, e, rfl, fun h => (by cases h), h8, h10, by rw [← h8.length, flat ys hn], fun ad had j u hu => ?_⟩
      cases had
      rw [add_at]; exact h9 j u hu
  unfold elemsA at he
  split at he
  · rename_i fl xs e1
    rw [e1] at hx
    simp at he; subst he
    have hp := hx.plain
    generalize a.eval x = v at hp ⊢
    cases hp with | pure p => exact main v p
  · rename_i id e1
    rw [e1] at hx
    split at he
    · rename_i T s xs e2
      have hid := hl.get e2 (by simp)
      simp at he; subst he
      have hv := hx.inv_own.2 (by simp [hid])
      have ho := hr.obj id
      rw [hid] at ho
      obtain ⟨cells, h1, h2, h3, h4, h5⟩ := ho
      rw [hv]
      rcases h1.2 with ⟨h6, h7⟩ | ⟨g, cap, cur, h6, _⟩
      · have : xs = [] := List.eq_nil_of_length_eq_zero h7
        subst this
        exact ⟨none, 0, 0, [], h6, rfl, fun _ => ⟨rfl, rfl, rfl⟩, by simpa using RepL.nil, by simp, by simp, fun _ _ j u hu => by simp at hu⟩
      · refine ⟨_, _, cap, cells, h6, rfl, fun h => (by cases h), h2, h5, by rw [← h2.length, flat xs hn], fun ad had j u hu => ?_⟩
        cases had
        exact h1.cells (g := g) (by simp [h6, Value.ownBlock]) j u hu
    · rename_i xs e2
      have hid := hl.get e2 (by simp)
      simp at he; subst he
      have hv := hx.inv_own.2 (by simp [hid])
      have ho := hr.obj id
      rw [hid] at ho
      rw [hv]
      exact main _ ho
    · cases he
  · cases he

/-- The machine's append onto a row of one's own. -/
theorem run_append_any {T e : TypeId} (ty : TypeId) {inf : TypeInfo} {z : Value} {n : Nat} (hu : P.underlying T = some (.slice e)) (hi : P.info? e = some inf) (hz : inf.zero = some z) (hzs : z.cells.size = n) (hin : inf.size = n) (hn0 : 0 < n)
    {v : Value} {k : Nat} {xs : List Value} (hown : w.ownsRow C.w0.heap.size e n v k xs) {x : Value} {p : Option Addr} {m c : Nat} {news : List Value} (hx : x = .slice p m c) (hp : p = none → m = 0 ∧ c = 0 ∧ news = [])
    (hlen : news.length = m * n) (hcell : ∀ ad, p = some ad → ∀ j u, news[j]? = some u → w.cell? (ad.add j) = some u) (h1 : ∀ u ∈ news, u.oneCell' = true) (hb : (k + m) * inf.bytes ≤ 140737488355328) (hm : k + m ≤ 140737488355328) :
    ∃ v' w', (Builtin.append_ #[T, T] ty #[v, x]).run P w = .ok v' w' ∧ w'.ownsRow C.w0.heap.size e n v' (k + m) (xs ++ news) ∧ w.grownBy w' v.ownBlock ∧ ∀ b, blk v' = some b → w.heap.size ≤ b ∨ v.ownBlock = some b := by
  have same : ∀ b, blk v = some b → v.ownBlock = some b := by
    intro b hb
    rcases hown.2 with ⟨rfl, _⟩ | ⟨g, cap, cur, rfl, _⟩
    · simp [blk] at hb
    · exact blk_ownBlock hb
  cases p with
  | none =>
    obtain ⟨rfl, rfl, rfl⟩ := hp rfl
    refine ⟨v, w, ?_, by simpa using hown, ⟨rfl, rfl, rfl, Nat.le_refl _, fun _ _ _ => rfl⟩, fun b hb => .inr (same b hb)⟩
    rw [hx]
    exact run_append_owned_none (P := P) w C.w0.heap.size T ty e inf n hu hi v k xs hown
  | some ad =>
    obtain ⟨v', w', h2, h3, h4, h5⟩ := run_append_own (P := P) w C.w0.heap.size T ty e inf z n inf.bytes hu hi hz hin rfl hzs hn0 v k xs hown ad m c news hlen (hcell ad rfl) h1 (by unfold maxLen; omega) hb hr.below.size
    refine ⟨v', w', by rw [hx]; exact h2, h3, h4, fun b hbk => ?_⟩
    subst hin
    rcases hown.2 with ⟨rfl, rfl⟩ | ⟨g, cap, cur, rfl, hbg, hg, hnc, hcm, hcs, htake⟩
    · by_cases hm0 : m = 0
      · have := h5.2 ⟨rfl, hm0⟩
        rw [this] at hbk; simp [blk] at hbk
      · have hr := run_append_nil (P := P) w T ty e inf z hu hi hz ad m c news hlen (hcell ad rfl) (by omega) (by omega) (by simp only [Nat.zero_add] at hb; omega)
        rw [h2] at hr
        injection hr with hr _
        rw [hr] at hbk
        simp [blk] at hbk
        exact .inl (Nat.le_of_eq hbk)
    · by_cases hroom : k + m ≤ cap
      · have hfit : k * inf.size + news.length ≤ cur.size := by rw [hlen, hcs, ← Nat.add_mul]; exact Nat.mul_le_mul_right _ hroom
        have hr := run_append_room (P := P) w T ty e inf hu hi g k cap cur hg ad m c news hlen (hcell ad rfl) h1 hroom hfit
        rw [h2] at hr
        injection hr with hr _
        rw [hr] at hbk
        exact .inr (by simpa [blk, Value.ownBlock] using hbk)
      · have holds : ∀ j u, xs[j]? = some u → w.cell? ((⟨g, 0, none⟩ : Addr).add j) = some u := hown.cells (g := g) rfl
        have hr := run_append_grow (P := P) w T ty e inf z hu hi hz ⟨g, 0, none⟩ k cap xs hown.1 holds ad m c news hlen (hcell ad rfl) (by omega) (by omega) (growslice_fits (by omega) hb)
        rw [h2] at hr
        injection hr with hr _
        rw [hr] at hbk
        simp [blk] at hbk
        exact .inl (Nat.le_of_eq hbk)

/-- A row that grew in place of another one. -/
theorem Rel.regrow {T : TypeId} {s : Nat} {fresh : Nat} (hf : h fresh = .unborn) {old : Option Nat} {xs : List AV} (hold : ∀ id, old = some id → ∃ ys, h id = .row T s ys)
    {v v' : Value} {w' : World} (hv : (∃ id, old = some id ∧ v = φ id) ∨ (old = none ∧ v.ownBlock = none)) {cells : List Value}
    (hg : w.grownBy w' v.ownBlock) (hown : w'.ownsRow C.w0.heap.size T s v' xs.length cells) (hnew : ∀ b, blk v' = some b → w.heap.size ≤ b ∨ v.ownBlock = some b)
    (hc : RepL (okB C h φ w) w (xs.flatMap AV.cells) cells) (hs : ∀ x ∈ xs, x.cells.length = s) (h0 : 0 < s) (h1 : ∀ u ∈ cells, u.oneCell' = true) :
    let h' := newS (updS h (deadU old)) fresh [.row T s xs]
    Rel C h' (upd1v φ fresh v') w' ∧ KeepB (okB C h φ w) (okB C h' (upd1v φ fresh v') w') w w' ∧ KeepH h h' φ (upd1v φ fresh v') ∧ h' fresh = .row T s xs := by
  intro h'
  have hne : ∀ id, old = some id → id ≠ fresh := fun id hid e => by
    obtain ⟨ys, hy⟩ := hold id hid
    rw [e, hf] at hy; cases hy
  have hh' : ∀ k, h' k = if k = fresh then .row T s xs else if old = some k then .dead else h k := by
    intro k
    cases old with
    | none => simp [h', newS, updS, upd1, deadU]
    | some id =>
      simp only [h', newS, updS, upd1, deadU]
      split
      · rfl
      · split
        · rename_i e; simp [e]
        · rename_i e; rw [if_neg]; intro e2; simp at e2; exact e e2.symm
  have kh : KeepH h h' φ (upd1v φ fresh v') := by
    have hnf : ∀ k, h k ≠ .unborn → k ≠ fresh := fun k hk e => hk (e ▸ hf)
    refine ⟨fun k hk => ?_, fun k hk => by simp [upd1v, hnf k hk], fun k hk hd => ?_, fun k T' s' xs' hk hx => ?_⟩
    · rw [hh', if_neg (hnf k hk)]; split <;> simp [hk]
    · rw [hh', if_neg (hnf k hk)] at hd
      split at hd
      · exact absurd rfl hd
      · exact hd
    · rw [hh', if_neg (hnf k hk)] at hx
      split at hx
      · cases hx
      · exact ⟨_, _, hx⟩
  have hblkv : ∀ id, old = some id → ∀ b, v.ownBlock = some b → blk (φ id) = some b := by
    intro id hid b hb
    rcases hv with ⟨id', h2, h3⟩ | ⟨h2, _⟩
    · rw [hid] at h2; cases h2; rw [← h3]; exact ownBlock_blk' hb
    · rw [hid] at h2; cases h2
  obtain ⟨r1, r2⟩ := hr.step (h' := h') (φ' := upd1v φ fresh v') (w' := w')
    (hr.below.trans ⟨hg.os, hg.tape, hg.output, hg.size, fun b hb => hg.block b (Nat.lt_of_lt_of_le hb hr.below.size) (fun e => by
      rcases hv with ⟨id, h2, h3⟩ | ⟨_, h3⟩
      · obtain ⟨ys, hy⟩ := hold id h2
        have := (hr.obj id).block (b := b) (by simp [hy, Ob.live]) (hblkv id h2 b e.symm)
        omega
      · rw [h3] at e; cases e)⟩)
    hg.size kh
    (fun b hb => hg.block b hb.1 (fun e => by
      rcases hv with ⟨id, h2, h3⟩ | ⟨_, h3⟩
      · obtain ⟨ys, hy⟩ := hold id h2
        exact hb.2.2 id (by simp [hy, Ob.live]) (hblkv id h2 b e.symm)
      · rw [h3] at e; cases e))
    (fun k hk hu => by
      have hkf : k ≠ fresh := fun e => hu (e ▸ hf)
      rw [hh', if_neg hkf] at hk
      split at hk
      · simp [Ob.live] at hk
      · exact hk)
    (fun k hk hu b hb => by
      by_cases e : k = fresh
      · subst e
        simp [upd1v] at hb
        rcases hnew b hb with h2 | h2
        · exact .inl h2
        · rcases hv with ⟨id, h3, h4⟩ | ⟨_, h4⟩
          · obtain ⟨ys, hy⟩ := hold id h3
            refine .inr ⟨id, by simp [hy, Ob.live], ?_, hblkv id h3 b h2⟩
            rw [hh', if_neg (hne id h3), if_pos h3]; rfl
          · rw [h4] at h2; cases h2
      · rw [hh', if_neg e] at hk
        split at hk
        · simp [Ob.live] at hk
        · simp [hu, Ob.live] at hk)
    (fun k k' b hk hk' hu hu' _ _ => by
      have : ∀ q, (h' q).live = true → h q = .unborn → q = fresh := by
        intro q hq hqu
        by_cases e : q = fresh
        · exact e
        · rw [hh', if_neg e] at hq
          split at hq
          · simp [Ob.live] at hq
          · simp [hqu, Ob.live] at hq
      rw [this k hk hu, this k' hk' hu'])
    (fun hK k => by
      by_cases e : k = fresh
      · right
        subst e
        rw [hh', if_pos rfl]
        refine ⟨cells, by simpa [upd1v] using hown, hc.mono hK, hs, h0, h1⟩
      · by_cases e2 : old = some k
        · right; rw [hh', if_neg e, if_pos e2]; trivial
        · left
          refine ⟨by rw [hh', if_neg e, if_neg e2], fun hu hlk b hb => hg.block b ((hr.obj k).block hlk hb).1 (fun eb => ?_)⟩
          rcases hv with ⟨id, h3, h4⟩ | ⟨_, h4⟩
          · obtain ⟨ys, hy⟩ := hold id h3
            have := hr.inj k id b hlk (by simp [hy, Ob.live]) hb (hblkv id h3 b eb.symm)
            exact e2 (by rw [this]; exact h3)
          · rw [h4] at eb; cases eb)
  exact ⟨r1, r2, kh, by rw [hh', if_pos rfl]⟩

theorem zero_len {v : Value} {n : Nat} (h1 : (ofValue v).cells.length = n) : v.cells.size = n := by
  obtain ⟨us, h2, h3⟩ := zero_cells (C := C) (h := h) (φ := φ) (w := w) v
  rw [h2, ← h1, h3.length]; simp

/-- A frozen slice as an object. -/
theorem Rel.born {id : Nat} (hu : h id = .unborn) {xs : List AV} {v : Value} (hv : Rep (okB C h φ w) w (.sl .p xs) v) :
    Rel C (upd1 h id (.fro xs)) (upd1v φ id v) w ∧ KeepB (okB C h φ w) (okB C (upd1 h id (.fro xs)) (upd1v φ id v) w) w w ∧ KeepH h (upd1 h id (.fro xs)) φ (upd1v φ id v) := by
  have kh : KeepH h (upd1 h id (.fro xs)) φ (upd1v φ id v) := .new hu _ (by simp) v
  have hh : ∀ k, upd1 h id (.fro xs) k = if k = id then .fro xs else h k := fun k => rfl
  obtain ⟨r1, r2⟩ := hr.step (h' := upd1 h id (.fro xs)) (φ' := upd1v φ id v) (w' := w) hr.below (Nat.le_refl _) kh (fun _ _ => rfl)
    (fun k hk hn => by rw [hh] at hk; split at hk
                       · simp [Ob.live] at hk
                       · exact hk)
    (fun k hk hn => by rw [hh] at hk; split at hk
                       · simp [Ob.live] at hk
                       · rw [hn] at hk; simp [Ob.live] at hk)
    (fun k k' b hk hk' hn hn' _ _ => by rw [hh] at hk; split at hk
                                        · simp [Ob.live] at hk
                                        · rw [hn] at hk; simp [Ob.live] at hk)
    (fun hK k => by
      by_cases e : k = id
      · subst e
        right
        rw [hh, if_pos rfl]
        show Rep _ w (.sl .p xs) (upd1v φ k v k)
        simp only [upd1v, if_pos]
        exact hv.mono hK
      · left
        exact ⟨by rw [hh, if_neg e], fun _ _ _ _ => rfl⟩)
  exact ⟨r1, r2, kh⟩

/-- The machine's append onto a slice without room behind it. -/
theorem run_append_tight {T e : TypeId} (ty : TypeId) {inf : TypeInfo} {z : Value} {n : Nat} (hu : P.underlying T = some (.slice e)) (hi : P.info? e = some inf) (hz : inf.zero = some z) (hzs : z.cells.size = n) (hin : inf.size = n) (hn0 : 0 < n)
    {ad0 : Option Addr} {k : Nat} {olds : List Value} (hk0 : ad0 = none → k = 0) (hol : olds.length = k * n) (hoc : ∀ ad, ad0 = some ad → ∀ j u, olds[j]? = some u → w.cell? (ad.add j) = some u) {x : Value} {p : Option Addr} {m c : Nat} {news : List Value} (hx : x = .slice p m c) (hp : p = none → m = 0 ∧ c = 0 ∧ news = [])
    (hlen : news.length = m * n) (hcell : ∀ ad, p = some ad → ∀ j u, news[j]? = some u → w.cell? (ad.add j) = some u) (h1 : ∀ u ∈ news, u.oneCell' = true) (hb : (k + m) * inf.bytes ≤ 140737488355328) (hm : k + m ≤ 140737488355328) :
    (m = 0 ∧ (Builtin.append_ #[T, T] ty #[.slice ad0 k k, x]).run P w = .ok (.slice ad0 k k) w) ∨
    (0 < m ∧ ∃ v' w', (Builtin.append_ #[T, T] ty #[.slice ad0 k k, x]).run P w = .ok v' w' ∧ w'.ownsRow C.w0.heap.size e n v' (k + m) (olds ++ news) ∧ w.grownBy w' none ∧ ∀ b, blk v' = some b → w.heap.size ≤ b) := by
  subst hin
  rcases Nat.eq_zero_or_pos m with h0 | h0
  · left
    subst h0
    have hnil : news = [] := List.eq_nil_of_length_eq_zero (by rw [hlen]; simp)
    refine ⟨rfl, ?_⟩
    rw [hx]
    cases ad0 with
    | none =>
      have := hk0 rfl
      subst this
      cases p with
      | none => obtain ⟨_, rfl, _⟩ := hp rfl; simp [Builtin.append_, run_underlying hu, sizeOf, typeInfo, hi, Builtin.lenOf, Builtin.firstCells, loadCells, loadCellsFrom]
      | some q => simp [Builtin.append_, run_underlying hu, sizeOf, typeInfo, hi, Builtin.lenOf, Builtin.firstCells, loadCells, loadCellsFrom]
    | some a0 =>
      cases p with
      | none => obtain ⟨_, rfl, _⟩ := hp rfl; simp [Builtin.append_, run_underlying hu, sizeOf, typeInfo, hi, Builtin.lenOf, Builtin.firstCells, loadCells, loadCellsFrom, storeCells]
      | some q => simp [Builtin.append_, run_underlying hu, sizeOf, typeInfo, hi, Builtin.lenOf, Builtin.firstCells, loadCells, loadCellsFrom, storeCells]
  · right
    refine ⟨h0, ?_⟩
    have hbase := hr.below.size
    have hl2 : (olds ++ news).length = (k + m) * inf.size := by rw [List.length_append, hol, hlen, Nat.add_mul]
    have grown : ∀ (old : Nat), old < k + m →
        (w.drew.alloc (.cells (olds.toArray ++ news.toArray ++ Builtin.zeroCells z.cells (grownCap w (k + m) old e - (k + m))) e)).ownsRow C.w0.heap.size e inf.size
          (.slice (some ⟨w.heap.size, 0, none⟩) (k + m) (grownCap w (k + m) old e)) (k + m) (olds ++ news) ∧
        w.grownBy (w.drew.alloc (.cells (olds.toArray ++ news.toArray ++ Builtin.zeroCells z.cells (grownCap w (k + m) old e - (k + m))) e)) none := by
      intro old ho
      have hge := grownCap_ge w (k + m) old e
      have hcm : grownCap w (k + m) old e ≤ maxLen := grownCap_le_maxLen w (k + m) old e (by unfold maxLen; omega)
      refine ⟨⟨hl2, .inr ⟨w.heap.size, _, _, rfl, hbase, heap_alloc_new w.drew _, hge, hcm, ?_, ?_⟩⟩, ⟨rfl, rfl, rfl, by simp, fun k hk _ => heap_alloc_old w.drew _ k hk⟩⟩
      · simp only [Array.size_append, List.size_toArray, size_zeroCells, hzs, hol, hlen, ← Nat.add_mul]
        congr 1
        omega
      · simp only [Array.toList_append, List.append_assoc]
        rw [← List.append_assoc, ← hl2]
        exact List.take_left
    obtain ⟨q, rfl⟩ : ∃ q, p = some q := by
      cases p with
      | none => have := (hp rfl).1; omega
      | some q => exact ⟨q, rfl⟩
    rw [hx]
    cases ad0 with
    | none =>
      have := hk0 rfl
      subst this
      have ho : olds = [] := List.eq_nil_of_length_eq_zero (by rw [hol]; simp)
      subst ho
      have hrun := run_append_nil (P := P) w T ty e inf z hu hi hz q m c news hlen (hcell q rfl) h0 (by omega) (by simp only [Nat.zero_add] at hb; omega)
      have hg := grown 0 (by omega)
      simp only [Nat.zero_add, List.nil_append, Array.empty_append] at hg ⊢
      exact ⟨_, _, hrun, hg.1, hg.2, fun b hbk => by simp [blk] at hbk; exact Nat.le_of_eq hbk⟩
    | some a0 =>
      have hrun := run_append_grow (P := P) w T ty e inf z hu hi hz a0 k k olds hol (hoc a0 rfl) q m c news hlen (hcell q rfl) (by omega) (by omega) (growslice_fits (by omega) hb)
      have hg := grown k (by omega)
      exact ⟨_, _, hrun, hg.1, hg.2, fun b hbk => by simp [blk] at hbk; exact Nat.le_of_eq hbk⟩

theorem sound_append {c : Call} {T : TypeId} {s x : Operand} (hop : o.op = .call c) (hc : c.callee = .builtin .append) (hargs : c.args.toList = [s, x]) (hts : c.argTypes.toList = [T, T]) {fresh : Nat} (hf : h fresh = .unborn)
    {eff : Eff} (he : appendA P look T (rd s) (rd x) fresh = some eff) (hob : All eff.obl) : OpOK P C h φ w a o (newS (updS h eff.upd) fresh eff.new) eff.val := by
  have hs := hρ s
  unfold appendA at he
  split at he
  · rename_i e ys hT hys
    have hu : P.underlying T = some (.slice e) := by unfold elemA at hT; split at hT <;> simp_all
    split at he
    · rename_i n z inf hsz hz hinf
      split at he
      · rename_i hcond
        simp at hcond
        obtain ⟨zv, inf', h1, h2, h3, rfl⟩ := zeroA_run (w := w) hz
        rw [hinf] at h1; cases h1
        have hzs := zero_len hr hρ hl hcond.1
        have hin : inf.size = n := by unfold sz at hsz; simp [hinf] at hsz; exact hsz
        have finish : ∀ (v : Value) (k : Nat) (old : Option Nat) (xs : List AV) (cells : List Value), a.eval s = v → w.ownsRow C.w0.heap.size e n v k cells → k = xs.length →
            (∀ id, old = some id → ∃ ys, h id = .row e n ys) → ((∃ id, old = some id ∧ v = φ id) ∨ (old = none ∧ v.ownBlock = none)) →
            RepL (okB C h φ w) w (xs.flatMap AV.cells) cells → (∀ y ∈ xs, y.cells.length = n) → (∀ u ∈ cells, u.oneCell' = true) →
            (∀ y ∈ ys, y.cells.length = n) → (xs.length + ys.length) * inf.bytes ≤ 140737488355328 → xs.length + ys.length ≤ 140737488355328 →
            OpOK P C h φ w a o (newS (updS h (deadU old)) fresh [.row e n (xs ++ ys)]) (.own fresh) := by
          intro v k old xs cells hv hown hk hold hvold hcells hxs hc1 hyn hb hm
          obtain ⟨p, m, cp, news, hx, hm2, hp, hnews, hn1, hlen, hcell⟩ := elems_mem hr hρ hl hys hyn
          obtain ⟨v', w', g1, g2, g3, g4⟩ := run_append_any hr hρ hl o.type hu hinf h2 hzs hin (by omega) hown hx hp hlen hcell hn1 (by rw [hk, hm2]; exact hb) (by rw [hk, hm2]; exact hm)
          obtain ⟨r1, r2, r3, r4⟩ := Rel.regrow hr hρ hl hf hold hvold g3 (xs := xs ++ ys) (by rw [List.length_append, ← hk, ← hm2]; exact g2) g4 (by rw [List.flatMap_append]; exact hcells.append hnews)
            (fun y hy => by rcases List.mem_append.1 hy with h | h; exact hxs y h; exact hyn y h) (by omega) (fun u hu => by rcases List.mem_append.1 hu with h | h; exact hc1 u h; exact hn1 u h)
          intro F q next Q hF hn
          obtain ⟨cs, hres⟩ := resolve_builtin (P := P) (a := a) (w := w) hc o.type
          have hrun : (execOp a.eval o).run P w = .ok (.value v') w' := by
            simp only [execOp, hop, Sem.run_bind, hres, Result.andThen_ok, invoke, builtin, toList_two hargs, toList_two hts, List.map_toArray, List.map_cons, List.map_nil, hv, g1]
            rfl
          rw [hrun]
          have hone : v'.oneCell' = true := by rcases g2.2 with ⟨h9, _⟩ | ⟨_, _, _, h9, _⟩ <;> rw [h9] <;> rfl
          refine hn v' _ w' r1 r2 r3 (.own (by rw [r4]; simp) hone (fun _ => by simp [upd1v]))
        split at he
        · rename_i e1
          rw [e1] at hs
          simp at he; subst he
          obtain ⟨p, c', e2, _, _, ⟨e3, _⟩, _⟩ := hs.inv_sl
          have hv := e3 rfl rfl
          exact finish _ 0 none [] [] hv (World.ownsRow_nil w _ e n) rfl (fun _ h => by cases h) (.inr ⟨rfl, rfl⟩) .nil (by simp) (by simp) hob.1 (by simpa using hob.2.1) (by simpa using hob.2.2.1)
        · rename_i id e1
          rw [e1] at hs
          split at he
          · rename_i e' n' xs e2
            have hid := hl.get e2 (by simp)
            split at he
            · rename_i hee
              obtain ⟨rfl, rfl⟩ := by simpa using hee
              simp at he; subst he
              have hv := hs.inv_own.2 (by simp [hid])
              have ho := hr.obj id
              rw [hid] at ho
              obtain ⟨cells, g1, g2, g3, g4, g5⟩ := ho
              exact finish _ xs.length (some id) xs cells hv g1 rfl (fun k hk => by cases hk; exact ⟨xs, hid⟩) (.inl ⟨id, rfl, rfl⟩) g2 g3 g5 hob.1 hob.2.1 hob.2.2.1
            · cases he
          · cases he
        · rename_i xs e1
          simp at he; subst he
          obtain ⟨hxn, hyn, hb, hm, _⟩ := hob
          have hst : VRep h φ (okB C h φ w) w (.sl .t xs) (a.eval s) := by rw [← e1]; exact hs
          obtain ⟨ad0, hv, hrep⟩ := hst.inv_t
          obtain ⟨p0, m0, c0, olds, hv0, hm0, hp0, holds, ho1, hol, hoc⟩ := elems_mem hr hρ hl (x := s) (ys := xs) (by rw [e1]; rfl) hxn
          rw [hv] at hv0
          injection hv0 with i1 i2 i3
          subst i1
          obtain ⟨p, m, cp, news, hx, hm2, hp, hnews, hn1, hlen, hcell⟩ := elems_mem hr hρ hl hys hyn
          have hk0 : ad0 = none → xs.length = 0 := fun e => by have := (hp0 e).1; omega
          have hn0 : 0 < n := by omega
          intro F q next Q hF hn
          obtain ⟨cs, hres⟩ := resolve_builtin (P := P) (a := a) (w := w) hc o.type
          rcases run_append_tight hr hρ hl o.type hu hinf h2 hzs hin hn0 hk0 (by rw [hol, ← i2]) hoc hx hp hlen hcell hn1 (by rw [hm2]; exact hb) (by rw [hm2]; exact hm) with ⟨z0, g1⟩ | ⟨z0, v', w', g1, g2, g3, g4⟩
          · have hy0 : ys = [] := List.eq_nil_of_length_eq_zero (by omega)
            subst hy0
            obtain ⟨r1, r2, r3⟩ := Rel.born hr hρ hl hf (xs := xs ++ []) (v := a.eval s) (by rw [List.append_nil]; exact hrep)
            have hrun : (execOp a.eval o).run P w = .ok (.value (a.eval s)) w := by
              simp only [execOp, hop, Sem.run_bind, hres, Result.andThen_ok, invoke, builtin, toList_two hargs, toList_two hts, List.map_toArray, List.map_cons, List.map_nil]
              rw [hv, g1]
              rfl
            rw [hrun]
            have hone : (a.eval s).oneCell' = true := by rw [hv]; rfl
            refine hn _ _ w r1 r2 r3 (.own (by simp [newS, updS, upd1]) hone (fun _ => by simp [upd1v]))
          · obtain ⟨r1, r2, r3, r4⟩ := Rel.regrow hr hρ hl hf (old := none) (T := e) (s := n) (xs := xs ++ ys) (fun id e => by cases e) (v := .slice none 0 0) (.inr ⟨rfl, rfl⟩) g3 (by rw [List.length_append, ← hm2]; exact g2) (fun b hbk => .inl (g4 b hbk)) (by rw [List.flatMap_append]; exact holds.append hnews)
              (fun y hy => by rcases List.mem_append.1 hy with h | h; exact hxn y h; exact hyn y h) hn0 (fun u hu => by rcases List.mem_append.1 hu with h | h; exact ho1 u h; exact hn1 u h)
            obtain ⟨t1, t2, t3⟩ := r1.freezeRow r4
            have hh : upd1 (newS (updS h (deadU none)) fresh [Ob.row e n (xs ++ ys)]) fresh (.fro (xs ++ ys)) = newS (updS h []) fresh [.fro (xs ++ ys)] := by
              funext k
              simp only [newS, updS, upd1, deadU]
              split <;> rfl
            rw [hh] at t1 t2 t3
            have hrun : (execOp a.eval o).run P w = .ok (.value v') w' := by
              simp only [execOp, hop, Sem.run_bind, hres, Result.andThen_ok, invoke, builtin, toList_two hargs, toList_two hts, List.map_toArray, List.map_cons, List.map_nil]
              rw [hv, g1]
              rfl
            rw [hrun]
            have hone : v'.oneCell' = true := by rcases g2.2 with ⟨h9, _⟩ | ⟨_, _, _, h9, _⟩ <;> rw [h9] <;> rfl
            exact hn v' _ w' t1 (r2.trans t2) (r3.trans t3) (.own (by simp [newS, updS, upd1]) hone (fun _ => by simp [upd1v]))
        · cases he
      · cases he
    · cases he
  · cases he
end ops

end Go.Abs
/- Stores; slices out of their parts. -/
set_option linter.unusedVariables false
set_option linter.unusedSimpArgs false
set_option linter.unusedSectionVars false
namespace Go.Abs
open Go.RowKit

theorem spl_length {cs ds : List AV} {off : Nat} (h : off + ds.length ≤ cs.length) : (spl cs off ds).length = cs.length := by unfold spl; simp; omega

theorem pc_cells {x : AV} (h : x.pc = true) : x.cells = [x] := by cases x <;> first | rfl | (simp [AV.pc] at h; done)

theorem setElem_cells {y : AV} {off : Nat} {ds : List AV} (h : off + ds.length ≤ y.cells.length) (h0 : ds.length ≠ 0) (hp : pures ds = true) : (setElem y off ds).cells = spl y.cells off ds := by
  rcases cells_one_or (x := y) with ⟨cs, rfl⟩ | h1
  · rfl
  · rw [h1] at h ⊢
    simp at h
    match ds, h0, h, hp with
    | [d], _, h, hp =>
      simp at h
      subst h
      simp [pures] at hp
      have : setElem y 0 [d] = d := by
        cases y with
        | agg cs =>
          have h2 : cs = [AV.agg cs] := h1
          have := congrArg (SizeOf.sizeOf : List AV → Nat) h2
          simp at this
          omega
        | _ => rfl
      rw [this, pc_cells hp]
      rfl
    | [], h0, _, _ => exact absurd rfl h0
    | _ :: _ :: _, _, h, _ => simp at h; omega

theorem flatMap_set {y : AV} {s : Nat} {ds : List AV} {off : Nat} (hp : pures ds = true) (h0 : ds.length ≠ 0) : ∀ (xs : List AV) (i : Nat), xs[i]? = some y → (∀ x ∈ xs, x.cells.length = s) → off + ds.length ≤ s →
    (xs.set i (setElem y off ds)).flatMap AV.cells = spl (xs.flatMap AV.cells) (i * s + off) ds ∧ (∀ x ∈ xs.set i (setElem y off ds), x.cells.length = s) := by
  intro xs
  induction xs with
  | nil => intro i hi; simp at hi
  | cons z xs ih =>
    intro i hi hs ho
    have hz := hs z (by simp)
    cases i with
    | zero =>
      simp at hi; subst hi
      have hc := setElem_cells (y := z) (off := off) (ds := ds) (by omega) h0 hp
      constructor
      · simp only [List.set_cons_zero, List.flatMap_cons, hc, Nat.zero_mul, Nat.zero_add]
        unfold spl
        rw [List.take_append_of_le_length (by omega), List.drop_append_of_le_length (by omega)]
        simp
      · intro x hx
        simp at hx
        rcases hx with rfl | hx
        · rw [hc, spl_length (by omega), hz]
        · exact hs x (by simp [hx])
    | succ i =>
      simp at hi
      obtain ⟨h1, h2⟩ := ih i hi (fun x hx => hs x (by simp [hx])) ho
      constructor
      · simp only [List.set_cons_succ, List.flatMap_cons, h1]
        unfold spl
        have e : (i + 1) * s + off = z.cells.length + (i * s + off) := by rw [hz, Nat.add_mul]; omega
        rw [e, List.take_length_add_append, Nat.add_assoc z.cells.length, List.drop_length_add_append]
        simp
      · intro x hx
        simp at hx
        rcases hx with rfl | hx
        · exact hz
        · exact h2 x hx

theorem take_splice (A us : List Value) (p N : Nat) (h : p + us.length ≤ N) (hN : N ≤ A.length) :
    (A.take p ++ us ++ A.drop (p + us.length)).take N = (A.take N).take p ++ (us ++ (A.take N).drop (p + us.length)) := by
  rw [List.append_assoc, List.take_append, List.length_take, List.take_append, List.take_take, List.take_take, List.drop_take]
  rw [show min p A.length = p by omega, show min N p = p by omega, show min p N = p by omega, List.take_of_length_le (l := us) (by omega)]
  congr 3
  omega

section ops
variable {P : Program} {E : Env} {C : C0} {h : SH} {φ : Nat → Value} {w : World} {a : Act} {o : Oper} {rd : Operand → AV} {look : Nat → Ob}
variable (hr : Rel C h φ w) (hρ : ∀ x, VRep h φ (okB C h φ w) w (rd x) (a.eval x)) (hl : Sees look h)
include hr hρ hl

theorem run_storeVar_at {T : TypeId} {n : Nat} (hs : sz P T = some n) {v : Value} {vs : List Value} (hv : v.cells = vs.toArray) (hn : vs.length = n) (h1 : ∀ u ∈ vs, u.oneCell' = true) {b off : Nat} {cur : Array Value} {T0 : TypeId}
    (hg : w.heap[b]? = some (.cells cur T0 (0, 0))) (hle : off + n ≤ cur.size) :
    (storeVar T ⟨b, off, none⟩ v).run P w = .ok () (w.setRow b (cur.toList.take off ++ vs ++ cur.toList.drop (off + vs.length)).toArray) := by
  have := run_storeCells_at P b off T0 vs 0 cur w hg (by simp; omega) h1
  simp only [Nat.add_zero] at this
  unfold storeVar
  simp only [Sem.run_bind, run_sizeOf hs, Result.andThen_ok, hv, Sem.run_ite, List.size_toArray]
  rw [if_neg (by simp [hn])]
  simpa using this

theorem sound_store {T : TypeId} {x y : Operand} (hop : o.op = .store T x y) {fresh : Nat} {ans : Option Ans} {eff : Eff} (he : storeA P look T (rd x) (rd y) ans = some eff) (hob : All eff.obl) :
    OpOK P C h φ w a o (newS (updS h eff.upd) fresh eff.new) eff.val := by
  have hx := hρ x
  have hy := hρ y
  unfold storeA at he
  split at he
  · cases he
  · rename_i n hs
    split at he
    · rename_i hc
      simp at hc
      obtain ⟨vs, hv, hvs, hv1⟩ := vrep_cells hy hc.2
      have hvl : vs.length = n := by rw [← hvs.length]; exact hc.1
      split at he
      · rename_i id off e1
        rw [e1] at hx
        split at he
        · rename_i T0 cs e2
          have hid := hl.get e2 (by simp)
          split at he
          · rename_i hle
            simp at he; subst he
            obtain ⟨b, hb, hxv, _⟩ := hx.inv_ptr
            have ho := hr.obj id
            rw [hid] at ho
            obtain ⟨b', cvs, g1, g2, g3, g4, g5⟩ := ho
            rw [hb] at g1
            injection g1 with g1; injection g1 with g1; injection g1 with g1
            subst g1
            have hcl := g4.length
            have hrun := run_storeVar_at (P := P) hr hρ hl (off := off) hs hv hvl hv1 g3 (by simp; omega)
            have kh : KeepH h (upd1 h id (.box T0 (spl cs off (rd y).cells))) φ φ := .chg (by simp [hid]) (by simp) (by simp [hid]) (by simp)
            obtain ⟨r1, r2⟩ := hr.change (id := id) (o := .box T0 (spl cs off (rd y).cells)) (w' := w.setRow b (cvs.take off ++ vs ++ cvs.drop (off + vs.length)).toArray) (by simp [hid, Ob.live]) kh
              (hr.below.trans ⟨rfl, rfl, rfl, by simp [World.setRow], fun k hk => setRow_other w b k _ (by intro e; omega)⟩) (by simp [World.setRow])
              (fun k hk _ => setRow_other w b k _ (fun e => hk (by rw [hb, e]; rfl)))
              (fun hK => ⟨b, _, hb, g2, setRow_heap w b _ _ T0 _ g3, by simpa using (g4.spl hvs off).mono hK kh, fun u hu => by
                rcases List.mem_append.1 hu with hu | hu
                · rcases List.mem_append.1 hu with hu | hu
                  · exact g5 u (List.mem_of_mem_take hu)
                  · exact hv1 u hu
                · exact g5 u (List.mem_of_mem_drop hu)⟩)
            intro F q next Q hF hn
            have : (execOp a.eval o).run P w = .ok .skip (w.setRow b (cvs.take off ++ vs ++ cvs.drop (off + vs.length)).toArray) := by
              simp only [execOp, hop, Instr.storeAt, hxv, Instr.sureAddr, Sem.run_bind, Sem.run_pure, Result.andThen_ok, hrun]
            rw [this]
            exact hn undef φ _ r1 r2 kh (.junk _)
          · cases he
        · cases he
      · rename_i id i off e1
        rw [e1] at hx
        split at he
        · rename_i T0 s xs z e2
          have hid := hl.get e2 (by simp)
          split at he
          · rename_i v' hvw
            split at he
            · rename_i hcnd
              simp at hcnd
              obtain ⟨⟨⟨c1, c2⟩, c3⟩, c4⟩ := hcnd
              simp at he; subst he
              have hz : xs[i]? = some z := hob.1
              have hnot : id ∉ (rd y).refs := hob.2.1
              -- what is stored is not written again
              obtain ⟨r1, r2, r3, r4, r5, r6⟩ := Rel.frz (freeze look (rd y).refs) (freeze_ok _) hr hl.inv
              have hview : Rep (okB C (updS h (freeze look (rd y).refs)) φ w) w v' (a.eval y) := by
                refine view_rep hvw ⟨fun _ hb => hb, fun k hk xs' hx' => ?_, fun k hk cs' hx' => ?_⟩ (hy.mono r2 r3)
                · rcases hx' with ⟨T', s', hx'⟩ | hx'
                  · have := r5 _ (freeze_mem hk hx')
                    simp at this
                    have ho := r1.obj k
                    rw [this] at ho
                    exact ⟨by rw [this]; simp, ho⟩
                  · have : updS h (freeze look (rd y).refs) k = .fro xs' := by
                      rcases r4 k (by rw [hx']; simp) with h9 | h9
                      · rw [h9, hx']
                      · simp [frzOf, hx'] at h9
                    have ho := r1.obj k
                    rw [this] at ho
                    exact ⟨by rw [this]; simp, ho⟩
                · have : updS h (freeze look (rd y).refs) k = .fbox cs' := by
                    rcases r4 k (by rw [hx']; simp) with h9 | h9
                    · rw [h9, hx']
                    · simp [frzOf, hx'] at h9
                  have ho := r1.obj k
                  rw [this] at ho
                  exact ho
              have hid1 : updS h (freeze look (rd y).refs) id = .row T0 s xs := by
                rw [r6 id (fun p hp e => hnot (e ▸ (freeze_row hp).1)), hid]
              have hupd : updS h (freeze look (rd y).refs ++ [(id, .row T0 s (xs.set i (setElem z off v'.cells)))]) = upd1 (updS h (freeze look (rd y).refs)) id (.row T0 s (xs.set i (setElem z off v'.cells))) := by
                have : ∀ (us : List (Nat × Ob)) (h : SH) (p : Nat × Ob), updS h (us ++ [p]) = upd1 (updS h us) p.1 p.2 := by
                  intro us
                  induction us with
                  | nil => intro h p; rfl
                  | cons q us ih => intro h p; exact ih (upd1 h q.1 q.2) p
                exact this _ _ _
              simp only [newS]
              rw [hupd]
              generalize updS h (freeze look (rd y).refs) = h1 at r1 r2 r3 r4 r5 r6 hview hid1
              -- the value's cells
              have hvc : ∃ us, (a.eval y).cells = us.toArray ∧ RepL (okB C h1 φ w) w v'.cells us ∧ (∀ u ∈ us, u.oneCell' = true) ∧ us.length = n := by
                obtain ⟨us, k1, k2, k3⟩ := vrep_cells (h := h1) (φ := φ) (.pure hview) (by
                  have : ∀ l : List AV, pures l = true → known l = true := by
                    intro l
                    induction l with
                    | nil => intro _; rfl
                    | cons x l ih =>
                      intro hp
                      simp [pures] at hp
                      have hx1 : x.one = true := by
                        have := hp.1
                        cases x <;> first | rfl | (simp [AV.pc] at this; done)
                      simp [known, hx1, ih hp.2]
                  exact this _ c4)
                exact ⟨us, k1, pures_rep c4 k2, k3, by rw [← k2.length]; exact c2⟩
              obtain ⟨us, k1, k2, k3, k4⟩ := hvc
              -- the row
              have ho := r1.obj id
              rw [hid1] at ho
              obtain ⟨cells, m1, m2, m3, m4, m5⟩ := ho
              have hlt : i < xs.length := (List.getElem?_eq_some_iff.1 hz).1
              have hzs : z.cells.length = s := m3 z (List.mem_of_getElem? hz)
              obtain ⟨b, nn, cc, q1, q2⟩ := hx.inv_ptrE hid
              rcases m1.2 with ⟨m6, _⟩ | ⟨g, cap, cur, m6, m7, m8, m9, m10, m11, m12⟩
              · rw [m6] at q1; cases q1
              · rw [m6] at q1
                injection q1 with q1 _ _; injection q1 with q1; injection q1 with q1
                subst q1
                obtain ⟨f1, f2⟩ := flatMap_set (y := z) (s := s) (ds := v'.cells) (off := off) c4 (by omega) xs i hz m3 (by omega)
                have hroom : i * s + off + n ≤ xs.length * s := by
                  have : (i + 1) * s ≤ xs.length * s := Nat.mul_le_mul_right s hlt
                  rw [Nat.add_mul] at this
                  omega
                have hcapr : xs.length * s ≤ cap * s := Nat.mul_le_mul_right s m9
                have hrun := run_storeVar_at (P := P) (T := T) r1 (fun q => (hρ q).mono r2 r3) (look := fun _ => .unborn) (fun _ => .inl rfl) (off := i * s + off) hs k1 k4 k3 m8 (by omega)
                have kh : KeepH h1 (upd1 h1 id (.row T0 s (xs.set i (setElem z off v'.cells)))) φ φ := .chg (by simp [hid1]) (by simp) (by simp [hid1]) (fun T' s' xs' e => by cases e; exact ⟨_, _, hid1⟩)
                obtain ⟨t1, t2⟩ := r1.change (id := id) (o := .row T0 s (xs.set i (setElem z off v'.cells))) (w' := w.setRow g (cur.toList.take (i * s + off) ++ us ++ cur.toList.drop (i * s + off + us.length)).toArray) (by simp [hid1, Ob.live]) kh
                  (r1.below.trans ⟨rfl, rfl, rfl, by simp [World.setRow], fun k hk => setRow_other w g k _ (by intro e; omega)⟩) (by simp [World.setRow])
                  (fun k hk _ => setRow_other w g k _ (fun e => hk (by rw [m6, e]; rfl)))
                  (fun hK => by
                    refine ⟨cells.take (i * s + off) ++ (us ++ cells.drop (i * s + off + us.length)), ?_, ?_, f2, m4, fun u hu => ?_⟩
                    · refine ⟨?_, .inr ⟨g, cap, _, by rw [m6]; simp, m7, setRow_heap w g cur _ T0 _ m8, by simpa using m9, m10, ?_, ?_⟩⟩
                      · have := m1.1
                        simp only [List.length_append, List.length_take, List.length_drop, List.length_set]
                        omega
                      · simp only [List.size_toArray, List.length_append, List.length_take, List.length_drop, Array.length_toList]
                        omega
                      · have := take_splice cur.toList us (i * s + off) (xs.length * s) (by omega) (by simp; omega)
                        rw [m12] at this
                        simpa using this
                    · rw [f1]
                      exact (m2.mono hK).spl (k2.mono hK) _
                    · rcases List.mem_append.1 hu with hu | hu
                      · exact m5 u (List.mem_of_mem_take hu)
                      · rcases List.mem_append.1 hu with hu | hu
                        · exact k3 u hu
                        · exact m5 u (List.mem_of_mem_drop hu))
                intro F q next Q hF hn
                have : (execOp a.eval o).run P w = .ok .skip (w.setRow g (cur.toList.take (i * s + off) ++ us ++ cur.toList.drop (i * s + off + us.length)).toArray) := by
                  simp only [execOp, hop, Instr.storeAt, q2, Instr.sureAddr, Sem.run_bind, Sem.run_pure, Result.andThen_ok, hrun]
                rw [this]
                exact hn undef φ _ t1 (r2.trans t2) (r3.trans kh) (.junk _)
            · cases he
          · cases he
        · cases he
      · cases he
    · cases he
end ops

end Go.Abs
/- Slices out of their parts; calls. -/
set_option linter.unusedVariables false
set_option linter.unusedSimpArgs false
set_option linter.unusedSectionVars false
namespace Go.Abs
open Go.RowKit

def vrepl (us : List Value) : Nat → List Value
  | 0 => []
  | n + 1 => us ++ vrepl us n

theorem vrepl_range (us : List Value) (hn : us.length ≠ 0) : ∀ len, (List.range (len * us.length)).map (fun i => us.toArray[i % us.toArray.size]!) = vrepl us len := by
  intro len
  induction len with
  | zero => simp [vrepl]
  | succ len ih =>
    rw [show (len + 1) * us.length = us.length + len * us.length by rw [Nat.add_mul]; omega, List.range_add, List.map_append, List.map_map, vrepl, ← ih]
    congr 1
    · apply List.ext_getElem?
      intro i
      by_cases hi : i < us.length
      · simp [hi, Nat.mod_eq_of_lt hi]
      · simp [hi, List.getElem?_eq_none (Nat.le_of_not_lt hi)]
    · apply List.map_congr_left
      intro i _
      simp

theorem groups_spec {s : Nat} {ag : Bool} (hag : ag = true ∨ s = 1) : ∀ (len : Nat) (cs xs : List AV), groups s ag len cs = some xs → pures cs = true → xs.flatMap AV.cells = cs ∧ (∀ x ∈ xs, x.cells.length = s) ∧ xs.length = len := by
  intro len
  induction len with
  | zero =>
    intro cs xs h hp
    simp [groups] at h
    obtain ⟨h1, rfl⟩ := h
    simp [h1]
  | succ len ih =>
    intro cs xs h hp
    have pd : ∀ (l : List AV) (k : Nat), pures l = true → pures (l.drop k) = true := by
      intro l
      induction l with
      | nil => intro k _; simp [pures]
      | cons x l ih2 =>
        intro k hpl
        cases k with
        | zero => exact hpl
        | succ k => simp [pures] at hpl; exact ih2 k hpl.2
    unfold groups at h
    split at h
    · split at h
      · rename_i hle
        split at h
        · rename_i r hr
          simp at h; subst h
          obtain ⟨h1, h2, h3⟩ := ih _ _ hr (pd cs s hp)
          refine ⟨by simp [cells_agg, h1], fun x hx => ?_, by simp [h3]⟩
          rcases List.mem_cons.1 hx with rfl | hx
          · simp [cells_agg]; omega
          · exact h2 x hx
        · cases h
      · cases h
    · rename_i hagf
      have hs : s = 1 := by rcases hag with h1 | h1 <;> simp_all
      subst hs
      split at h
      · rename_i c r
        split at h
        · rename_i r' hr
          simp at h; subst h
          simp [pures] at hp
          obtain ⟨h1, h2, h3⟩ := ih _ _ hr hp.2
          refine ⟨by simp [pc_cells hp.1, h1], fun x hx => ?_, by simp [h3]⟩
          rcases List.mem_cons.1 hx with rfl | hx
          · simp [pc_cells hp.1]
          · exact h2 x hx
        · cases h
      · cases h

section ops
variable {P : Program} {E : Env} {C : C0} {h : SH} {φ : Nat → Value} {w : World} {a : Act} {o : Oper} {rd : Operand → AV} {look : Nat → Ob}

/-- What is let be may be seen whole. -/
theorem viewOK_frz {h1 : SH} (hr1 : Rel C h1 φ w) (hi : FrzInv look h1) {ids : List Nat} (hf : ∀ id ∈ ids, ∀ T s xs, look id = .row T s xs → h1 id = .fro xs) :
    ViewOK look h1 φ (okB C h1 φ w) (okB C h1 φ w) w ids := by
  refine ⟨fun _ hb => hb, fun k hk xs' hx' => ?_, fun k hk cs' hx' => ?_⟩
  · rcases hx' with ⟨T', s', hx'⟩ | hx'
    · have := hf k hk T' s' xs' hx'
      have ho := hr1.obj k
      rw [this] at ho
      exact ⟨by rw [this]; simp, ho⟩
    · have : h1 k = .fro xs' := by
        rcases hi k (by rw [hx']; simp) with h9 | h9
        · rw [h9, hx']
        · simp [frzOf, hx'] at h9
      have ho := hr1.obj k
      rw [this] at ho
      exact ⟨by rw [this]; simp, ho⟩
  · have : h1 k = .fbox cs' := by
      rcases hi k (by rw [hx']; simp) with h9 | h9
      · rw [h9, hx']
      · simp [frzOf, hx'] at h9
    have ho := hr1.obj k
    rw [this] at ho
    exact ho

theorem viewP_rep {h1 : SH} {A : Nat → Prop} : ∀ {ps qs : List (Nat × AV)} {vs : List (Nat × Value)}, viewP look ps = some qs → ViewOK look h1 φ A A w (refsP ps) → PRep h1 φ A w ps vs → PRep h1 φ A w qs vs
  | [], qs, vs, he, k, p => by simp [viewP] at he; subst he; exact p
  | (i, x) :: ps, qs, vs, he, k, p => by
    simp only [viewP] at he
    split at he
    · rename_i y ys e1 e2
      simp at he; subst he
      cases p with
      | cons p1 p2 =>
        exact .cons (.pure (view_rep e1 (k.mono (by simp [refsP]; intro id hi; exact .inl hi)) p1)) (viewP_rep e2 (k.mono (by simp [refsP]; intro id hi; exact .inr hi)) p2)
    · cases he

theorem PRep.mono' {h' : SH} {φ' : Nat → Value} {A A' : Nat → Prop} {w' : World} (k : KeepB A A' w w') (kh : KeepH h h' φ φ') : ∀ {ps vs}, PRep h φ A w ps vs → PRep h' φ' A' w' ps vs
  | _, _, .nil => .nil
  | _, _, .cons p q => .cons (p.mono k kh) (PRep.mono' k kh q)

theorem repl_rep {A : Nat → Prop} {cs : List AV} {us : List Value} (p : VRepL h φ A w cs us) : ∀ n, VRepL h φ A w (repl cs n) (vrepl us n)
  | 0 => .nil
  | n + 1 => p.append (repl_rep p n)

variable (hr : Rel C h φ w) (hρ : ∀ x, VRep h φ (okB C h φ w) w (rd x) (a.eval x)) (hl : Sees look h)
include hr hρ hl

theorem build_core {T : TypeId} {len : Nat} {parts : Array (Nat × Operand)} (hop : o.op = .buildSlice T len parts) {fresh : Nat} (hf : h fresh = .unborn) {eff : Eff}
    (he : buildSliceA P look T len (evals rd parts.toList) fresh = some eff) : ∃ e s xs vs', eff.obl = [] ∧ eff.new = [.row e s xs] ∧ eff.val = .own fresh ∧ Rel C (updS h eff.upd) φ w ∧ KeepB (okB C h φ w) (okB C (updS h eff.upd) φ w) w w ∧ KeepH h (updS h eff.upd) φ φ ∧ updS h eff.upd fresh = .unborn ∧
      (execOp a.eval o).run P w = .ok (.value (.slice (some ⟨w.heap.size, 0, none⟩) len len)) (w.alloc (.cells vs'.toArray e)) ∧ (w.alloc (.cells vs'.toArray e)).ownsRow C.w0.heap.size e s (.slice (some ⟨w.heap.size, 0, none⟩) len len) len vs' ∧ xs.length = len ∧
      RepL (okB C (updS h eff.upd) φ w) w (xs.flatMap AV.cells) vs' ∧ (∀ x ∈ xs, x.cells.length = s) ∧ 0 < s ∧ (∀ u ∈ vs', u.oneCell' = true) := by
  unfold buildSliceA at he
  split at he
  · cases he
  · rename_i e hT
    have hu : P.underlying T = some (.slice e) := by unfold elemA at hT; split at hT <;> simp_all
    split at he
    · rename_i s ag z ps hs hag hz hps
      split at he
      · rename_i hcond
        simp at hcond
        obtain ⟨⟨⟨c1, c2⟩, c3⟩, c4⟩ := hcond
        split at he
        · rename_i cs hcs
          split at he
          · rename_i hpu
            split at he
            · rename_i xs hgr
              simp at he; subst he
              obtain ⟨zv, inf, h1, h2, h3, rfl⟩ := zeroA_run (w := w) hz
              obtain ⟨r1, r2, r3, r4, r5, r6⟩ := Rel.frz (freeze look (refsP (evals rd parts.toList))) (freeze_ok _) hr hl.inv
              have hvok := viewOK_frz r1 r4 (ids := refsP (evals rd parts.toList)) (fun id hid T' s' xs' hx => r5 _ (freeze_mem hid hx))
              have hprep := viewP_rep hps hvok ((prep_evals hρ parts.toList).mono' r2 r3)
              have hf1 : updS h (freeze look (refsP (evals rd parts.toList))) fresh = .unborn := by
                rw [r6 fresh (fun p hp e => by
                  obtain ⟨_, T', s', xs', hx⟩ := freeze_row hp
                  have := hl.get hx (by simp)
                  rw [e, hf] at this; cases this), hf]
              show ∃ e s xs vs', _ ∧ _ ∧ _ ∧ Rel C (updS h (freeze look (refsP (evals rd parts.toList)))) φ w ∧ KeepB _ (okB C (updS h (freeze look (refsP (evals rd parts.toList)))) φ w) w w ∧ KeepH h (updS h (freeze look (refsP (evals rd parts.toList)))) φ φ ∧ updS h (freeze look (refsP (evals rd parts.toList))) fresh = .unborn ∧ _ ∧ _ ∧ _ ∧ RepL (okB C (updS h (freeze look (refsP (evals rd parts.toList)))) φ w) w _ vs' ∧ _ ∧ _ ∧ _
              generalize updS h (freeze look (refsP (evals rd parts.toList))) = g1 at r1 r2 r3 r4 r5 r6 hvok hprep hf1 ⊢
              obtain ⟨us, k1, k2⟩ := zero_cells (C := C) (h := g1) (φ := φ) (w := w) zv
              have hus : us.length = s := by rw [← c1, k2.length]
              obtain ⟨vs', k3, k4, k5⟩ := fill_spec (fun i => some (i * s, s)) ps _ (repl (ofValue zv).cells len) cs (vrepl us len) hcs (repl_rep k2 len) hprep
              have hpure := pures_rep hpu k4
              obtain ⟨q1, q2, q3⟩ := groups_spec (by rcases c4 with h | h <;> simp [h]) len cs xs hgr hpu
              have hvl : vs'.length = len * s := by
                rw [← k4.length, ← q1]
                have flat : ∀ (l : List AV), (∀ y ∈ l, y.cells.length = s) → (l.flatMap AV.cells).length = l.length * s := by
                  intro l
                  induction l with
                  | nil => intro _; simp
                  | cons y l ih => intro hy; simp only [List.flatMap_cons, List.length_append, List.length_cons, hy y (by simp), ih (fun z hz => hy z (by simp [hz])), Nat.add_mul]; omega
                rw [flat xs q2, q3]
              have hone : ∀ u ∈ vs', u.oneCell' = true := k4.ones (by
                have : ∀ l : List AV, pures l = true → known l = true := by
                  intro l
                  induction l with
                  | nil => intro _; rfl
                  | cons x l ih =>
                    intro hp
                    simp [pures] at hp
                    have hx1 : x.one = true := by
                      have := hp.1
                      cases x <;> first | rfl | (simp [AV.pc] at this; done)
                    simp [known, hx1, ih hp.2]
                exact this _ hpu)
              have hrun : (execOp a.eval o).run P w = .ok (.value (.slice (some ⟨w.heap.size, 0, none⟩) len len)) (w.alloc (.cells vs'.toArray e)) := by
                have hinit : ((Array.range (len * s)).map fun x => (if len * s = 0 then (#[] : Array Value) else zv.cells)[x % (if len * s = 0 then (#[] : Array Value) else zv.cells).size]!) = (vrepl us len).toArray := by
                  apply Array.ext'
                  by_cases h0 : len * s = 0
                  · have : len = 0 := by rcases Nat.mul_eq_zero.1 h0 with h | h; exact h; exact absurd h c2
                    subst this
                    simp [vrepl]
                  · simp only [if_neg h0, k1]
                    rw [← vrepl_range us (by omega) len, hus]
                    simp
                have hpv : (parts.map fun p => (p.1, a.eval p.2)).toList = (parts.toList.map fun p => (p.1, a.eval p.2)) := by simp
                simp only [execOp, hop, Instr.buildSlice, Sem.run_bind, run_underlying hu, Result.andThen_ok, run_sizeOf hs]
                rw [Sem.run_ite, if_neg (by omega)]
                by_cases h0 : len * s = 0
                · simp only [if_pos h0] at hinit ⊢
                  simp only [Sem.run_bind, Sem.run_pure, Result.andThen_ok, hinit, hpv, k3]
                  simp [newRow]
                · simp only [if_neg h0] at hinit ⊢
                  simp only [Sem.run_bind, Sem.run_pure, Result.andThen_ok, h3, hinit, hpv, k3]
                  simp [newRow]
              have hown := World.ownsRow_lit (w := w) (base := C.w0.heap.size) (e := e) (size := s) vs'.toArray len r1.below.size (by unfold maxLen; have := Nat.le_mul_of_pos_right len (Nat.pos_of_ne_zero c2); omega) (by simpa using hvl)
              exact ⟨e, s, xs, vs', rfl, rfl, rfl, r1, r2, r3, hf1, hrun, by simpa using hown, q3, by rw [q1]; exact hpure, q2, Nat.pos_of_ne_zero c2, hone⟩
            · cases he
          · cases he
        · cases he
      · cases he
    · cases he
theorem sound_buildSlice {T : TypeId} {len : Nat} {parts : Array (Nat × Operand)} (hop : o.op = .buildSlice T len parts) {fresh : Nat} (hf : h fresh = .unborn) {eff : Eff}
    (he : buildSliceA P look T len (evals rd parts.toList) fresh = some eff) : OpOK P C h φ w a o (newS (updS h eff.upd) fresh eff.new) eff.val := by
  obtain ⟨e, s, xs, vs', k0, k1, k2, r1, r2, r3, hf1, hrun, hown, q3, q1, q2, c2, hone⟩ := build_core hr hρ hl hop hf he
  rw [k1, k2]
  simp only [newS]
  generalize updS h eff.upd = g1 at r1 r2 r3 hf1 q1
  obtain ⟨t1, t2⟩ := r1.alloc hf1 (o := .row e s xs) (v := .slice (some ⟨w.heap.size, 0, none⟩) len len) (x := .cells vs'.toArray e) (by simp) (by simp [blk]) (fun hK =>
    ⟨vs', by rw [q3]; exact hown, q1.mono hK, q2, c2, hone⟩)
  have kh : KeepH g1 (upd1 g1 fresh (.row e s xs)) φ (upd1v φ fresh (.slice (some ⟨w.heap.size, 0, none⟩) len len)) := .new hf1 _ (by simp) _
  intro F q next Q hF hn
  rw [hrun]
  exact hn _ _ _ t1 (r2.trans t2) (r3.trans kh) (.own (by simp [upd1]) rfl (fun _ => by simp [upd1v]))
end ops

end Go.Abs
/- Calls. -/
set_option linter.unusedVariables false
set_option linter.unusedSimpArgs false
set_option linter.unusedSectionVars false
namespace Go.Abs
open Go.RowKit

section flat
variable {A A' : Nat → Prop} {w : World}
mutual
theorem Rep.flat : ∀ {x v}, Rep A w x v → x.hasSl = false → Rep A' w x v
  | _, _, .bool b, _ => .bool b
  | _, _, .int k n, _ => .int k n
  | _, _, .str s, _ => .str s
  | _, _, .agg h, hf => .agg (RepL.flat h (by simpa [AV.hasSl] using hf))
  | _, _, .tup h, hf => .tup (RepL.flat h (by simpa [AV.hasSl] using hf))
  | _, _, .fn h, hf => by simp [AV.hasSl] at hf
  | _, _, .nilp, _ => .nilp
  | _, _, .pin ha h, hf => by simp [AV.hasSl] at hf
  | _, _, .nil fl, hf => by simp [AV.hasSl] at hf
  | _, _, .sl0 h, hf => by simp [AV.hasSl] at hf
  | _, _, .tight e h, hf => by simp [AV.hasSl] at hf
  | _, _, .sl h1 h2 h3 ha h, hf => by simp [AV.hasSl] at hf
theorem RepL.flat : ∀ {xs vs}, RepL A w xs vs → AV.hasSlL xs = false → RepL A' w xs vs
  | _, _, .nil, _ => .nil
  | _, _, .cons h t, hf => .cons (Rep.flat h (by simp [AV.hasSlL] at hf; exact hf.1)) (RepL.flat t (by simp [AV.hasSlL] at hf; exact hf.2))
end
mutual
theorem Rep.shift {n : Nat} : ∀ {x v}, Rep A w x v → x.shift n = x
  | _, _, .bool b => rfl
  | _, _, .int k n => rfl
  | _, _, .str s => rfl
  | _, _, .agg h => by simp [AV.shift, RepL.shift h]
  | _, _, .tup h => by simp [AV.shift, RepL.shift h]
  | _, _, .fn h => rfl
  | _, _, .nilp => rfl
  | _, _, .pin ha h => rfl
  | _, _, .nil fl => rfl
  | _, _, .sl0 h => rfl
  | _, _, .tight e h => rfl
  | _, _, .sl h1 h2 h3 ha h => rfl
theorem RepL.shift {n : Nat} : ∀ {xs vs}, RepL A w xs vs → AV.shiftL n xs = xs
  | _, _, .nil => rfl
  | _, _, .cons h t => by simp [AV.shiftL, Rep.shift h, RepL.shift t]
end

/-- One's own row as a slice. -/
theorem rep_of_owns {base : Nat} {T : TypeId} {s : Nat} {v : Value} {xs : List AV} {cells : List Value} (h1 : w.ownsRow base T s v xs.length cells) (h2 : RepL A w (xs.flatMap AV.cells) cells)
    (h3 : ∀ x ∈ xs, x.cells.length = s) (h5 : ∀ u ∈ cells, u.oneCell' = true) (hA : ∀ b, blk v = some b → A b) : Rep A w (.sl .p xs) v := by
  rcases h1.2 with ⟨hv, hn⟩ | ⟨g, cap, cur, hv, hb, hg, hc1, hc2, hc3, ht⟩
  · rw [hv]
    have : xs = [] := List.eq_nil_of_length_eq_zero hn
    subst this
    exact .nil .p
  · rw [hv]
    cases xs with
    | nil => exact .sl0 hc2
    | cons y ys =>
      refine .sl rfl hc1 hc2 (hA g (by simp [hv, blk])) (s := s) (RepRow.ofAt (RepAt.ofList h2 (fun i u hu => ?_) h5) h3)
      have := h1.cells (g := g) (by simp [hv, Value.ownBlock]) i u hu
      rw [add_at] at this
      simpa using this
end flat

theorem rowsOnly_get {rows : List Ob} (h : rowsOnly rows = true) (k : Nat) (hk : k < rows.length) : ∃ T s xs, rows.getD k .unborn = .row T s xs := by
  induction rows generalizing k with
  | nil => simp at hk
  | cons o rows ih =>
    cases o <;> simp [rowsOnly] at h
    cases k with
    | zero => exact ⟨_, _, _, rfl⟩
    | succ k => simpa using ih h k (by simpa using hk)
theorem rowsFlat_get {rows : List Ob} (h : rowsFlat rows) (k : Nat) {T : TypeId} {s : Nat} {xs : List AV} (hk : rows.getD k .unborn = .row T s xs) : ∀ x ∈ xs, x.hasSl = false := by
  induction rows generalizing k with
  | nil => simp at hk
  | cons o rows ih =>
    cases o with
    | row T' s' xs' =>
      cases k with
      | zero => simp at hk; obtain ⟨_, _, rfl⟩ := hk; exact h.1
      | succ k => exact ih h.2 k (by simpa using hk)
    | _ => simp [rowsFlat] at h
theorem hasSl_cells {x : AV} (h : x.hasSl = false) : ∀ y ∈ x.cells, y.hasSl = false := by
  have key : ∀ cs : List AV, AV.hasSlL cs = false → ∀ y ∈ cs, y.hasSl = false := by
    intro cs
    induction cs with
    | nil => intro _ y hy; simp at hy
    | cons c cs ih =>
      intro hf y hy
      simp [AV.hasSlL] at hf
      rcases List.mem_cons.1 hy with rfl | hy
      · exact hf.1
      · exact ih hf.2 y hy
  rcases cells_one_or (x := x) with ⟨cs, rfl⟩ | h1
  · exact key cs (by simpa [AV.hasSl] using h)
  · rw [h1]; intro y hy; simp at hy; rw [hy]; exact h
theorem hasSlL_of {cs : List AV} (h : ∀ y ∈ cs, y.hasSl = false) : AV.hasSlL cs = false := by
  induction cs with
  | nil => rfl
  | cons c cs ih => simp [AV.hasSlL, h c (by simp), ih (fun y hy => h y (by simp [hy]))]

/-- The heap behind new rows. -/
theorem newS_get : ∀ (rows : List Ob) (h : SH) (fresh k : Nat), newS h fresh rows k = if fresh ≤ k ∧ k < fresh + rows.length then rows.getD (k - fresh) .unborn else h k := by
  intro rows
  induction rows with
  | nil => intro h fresh k; simp [newS]; intro h1 h2; omega
  | cons o rows ih =>
    intro h fresh k
    simp only [newS, ih, List.length_cons]
    by_cases h1 : k = fresh
    · subst h1
      rw [if_neg (by omega), if_pos (by omega)]
      simp [upd1]
    · by_cases h2 : fresh ≤ k ∧ k < fresh + (rows.length + 1)
      · rw [if_pos (by omega), if_pos h2, show k - fresh = (k - (fresh + 1)) + 1 by omega]
        simp
      · rw [if_neg (by omega), if_neg h2]
        simp [upd1, h1]

section ops
variable {P : Program} {E : Env} {C : C0} {h : SH} {φ : Nat → Value} {w : World} {a : Act} {o : Oper} {rd : Operand → AV} {look : Nat → Ob}

def φnew (φ φr : Nat → Value) (fresh n : Nat) : Nat → Value := fun k => if fresh ≤ k ∧ k < fresh + n then φr (k - fresh) else φ k

/-- What a call hands back is taken over. -/
theorem Rel.take (hr : Rel C h φ w) {A : Nat → Prop} {rows : List Ob} {fresh : Nat} (hro : rowsOnly rows = true) (hf : ∀ k, k < rows.length → h (fresh + k) = .unborn) {r : AV} (hres : r.resOK = true)
    {v : Value} {φr : Nat → Value} {w' : World} (hR : Rel ⟨A, w⟩ (toSH rows) φr w') (hV : VRep (toSH rows) φr (okB ⟨A, w⟩ (toSH rows) φr w') w' r v)
    (hsub : (∀ b, A b → okB C h φ w b) ∨ (r.hasSl = false ∧ rowsFlat rows)) :
    let h' := newS h fresh rows
    let φ' := φnew φ φr fresh rows.length
    Rel C h' φ' w' ∧ KeepB (okB C h φ w) (okB C h' φ' w') w w' ∧ KeepH h h' φ φ' ∧ VRep h' φ' (okB C h' φ' w') w' (r.shift fresh) v := by
  intro h' φ'
  have hb : Below w.heap.size w w' := hR.below
  have hin : ∀ k, fresh ≤ k ∧ k < fresh + rows.length → h k = .unborn := fun k hk => by
    have := hf (k - fresh) (by omega)
    rwa [show fresh + (k - fresh) = k by omega] at this
  have hh : ∀ k, h' k = if fresh ≤ k ∧ k < fresh + rows.length then rows.getD (k - fresh) .unborn else h k := fun k => newS_get rows h fresh k
  have hlive : ∀ k, fresh ≤ k ∧ k < fresh + rows.length → (toSH rows (k - fresh)).live = true := fun k hk => by
    obtain ⟨T, s, xs, hx⟩ := rowsOnly_get hro (k - fresh) (by omega)
    show (rows.getD (k - fresh) .unborn).live = true
    rw [hx]; rfl
  have kh : KeepH h h' φ φ' := by
    have hnf : ∀ k, h k ≠ .unborn → ¬ (fresh ≤ k ∧ k < fresh + rows.length) := fun k hk e => hk (hin k e)
    exact ⟨fun k hk => by rw [hh, if_neg (hnf k hk)]; exact hk, fun k hk => by simp only [φ', φnew, if_neg (hnf k hk)], fun k hk hd => by rwa [hh, if_neg (hnf k hk)] at hd,
      fun k T s xs hk hx => ⟨T, xs, by rwa [hh, if_neg (hnf k hk)] at hx⟩⟩
  have hokr : (∀ b, A b → okB C h φ w b) → ∀ b, okB ⟨A, w⟩ (toSH rows) φr w' b → okB C h' φ' w' b := by
    intro hs b hbb
    refine ⟨hbb.1, ?_, fun k hk he => ?_⟩
    · rcases hbb.2.1 with h1 | h1
      · exact (hs b h1).2.1
      · exact .inr (Nat.le_trans hr.below.size h1)
    · rw [hh] at hk
      by_cases e : fresh ≤ k ∧ k < fresh + rows.length
      · rw [if_pos e] at hk
        simp only [φ', φnew, if_pos e] at he
        exact hbb.2.2 (k - fresh) hk he
      · rw [if_neg e] at hk
        simp only [φ', φnew, if_neg e] at he
        rcases hbb.2.1 with h1 | h1
        · exact (hs b h1).2.2 k hk he
        · have := ((hr.obj k).block hk he).1
          exact absurd h1 (by simpa using Nat.not_le.2 this)
  obtain ⟨r1, r2⟩ := hr.step (h' := h') (φ' := φ') (w' := w') (hr.below.trans (hb.mono hr.below.size)) hb.size kh
    (fun b hbb => hb.block b hbb.1)
    (fun k hk hu => by
      have : ¬ (fresh ≤ k ∧ k < fresh + rows.length) := fun e => hu (hin k e)
      rwa [hh, if_neg this] at hk)
    (fun k hk hu b hbb => by
      by_cases e : fresh ≤ k ∧ k < fresh + rows.length
      · simp only [φ', φnew, if_pos e] at hbb
        exact .inl ((hR.obj (k - fresh)).block (hlive k e) hbb).2
      · rw [hh, if_neg e, hu] at hk
        simp [Ob.live] at hk)
    (fun k k' b hk hk' hu hu' hbb hbb' => by
      have hfr : ∀ q, (h' q).live = true → h q = .unborn → fresh ≤ q ∧ q < fresh + rows.length := by
        intro q hq hqu
        by_cases e : fresh ≤ q ∧ q < fresh + rows.length
        · exact e
        · rw [hh, if_neg e, hqu] at hq; simp [Ob.live] at hq
      have e1 := hfr k hk hu
      have e2 := hfr k' hk' hu'
      simp only [φ', φnew, if_pos e1] at hbb
      simp only [φ', φnew, if_pos e2] at hbb'
      have := hR.inj _ _ b (hlive k e1) (hlive k' e2) hbb hbb'
      omega)
    (fun hK k => by
      by_cases e : fresh ≤ k ∧ k < fresh + rows.length
      · right
        have ho := hR.obj (k - fresh)
        obtain ⟨T, s, xs, hx⟩ := rowsOnly_get hro (k - fresh) (by omega)
        rw [hh, if_pos e, hx]
        simp only [φ', φnew, if_pos e]
        simp only [toSH, hx] at ho
        obtain ⟨cells, g1, g2, g3, g4, g5⟩ := ho
        refine ⟨cells, ?_, ?_, g3, g4, g5⟩
        · refine ⟨g1.1, ?_⟩
          rcases g1.2 with g | ⟨q, cap, cur, q1, q2, rest⟩
          · exact .inl g
          · exact .inr ⟨q, cap, cur, q1, Nat.le_trans hr.below.size q2, rest⟩
        · rcases hsub with hs | ⟨_, hs⟩
          · exact g2.mono (fun b hbb => ⟨hokr hs b hbb, rfl⟩)
          · refine g2.flat (hasSlL_of fun y hy => ?_)
            obtain ⟨x, hx1, hx2⟩ := List.mem_flatMap.1 hy
            exact hasSl_cells (rowsFlat_get hs (k - fresh) hx x hx1) y hx2
      · left
        refine ⟨by rw [hh, if_neg e], fun hu hlk b hbb => hb.block b ((hr.obj k).block hlk hbb).1⟩)
  refine ⟨r1, r2, kh, ?_⟩
  have pureCase : ∀ {x : AV} {u : Value}, (r.hasSl = false → x.hasSl = false) → Rep (okB ⟨A, w⟩ (toSH rows) φr w') w' x u → VRep h' φ' (okB C h' φ' w') w' (x.shift fresh) u := by
    intro x u hxf hp
    rw [hp.shift]
    rcases hsub with hs | ⟨hs, _⟩
    · exact .pure (hp.mono (fun b hbb => ⟨hokr hs b hbb, rfl⟩))
    · exact .pure (hp.flat (hxf hs))
  -- the result, part by part
  have key : ∀ (n : Nat), (∀ (x : AV) (u : Value), SizeOf.sizeOf x < n → x.resOK = true → (r.hasSl = false → x.hasSl = false) → VRep (toSH rows) φr (okB ⟨A, w⟩ (toSH rows) φr w') w' x u → VRep h' φ' (okB C h' φ' w') w' (x.shift fresh) u) ∧
      (∀ (xs : List AV) (us : List Value), SizeOf.sizeOf xs < n → AV.resOKL xs = true → (r.hasSl = false → AV.hasSlL xs = false) → VRepL (toSH rows) φr (okB ⟨A, w⟩ (toSH rows) φr w') w' xs us → VRepL h' φ' (okB C h' φ' w') w' (AV.shiftL fresh xs) us) := by
    intro n
    induction n with
    | zero => exact ⟨fun x u h => by omega, fun x u h => by omega⟩
    | succ n ih =>
      constructor
      · intro x u hsz hok hsl hp
        cases hp with
        | pure p => exact pureCase hsl p
        | agg q => simp at hsz; exact .agg (ih.2 _ _ (by omega) (by simpa [AV.resOK] using hok) (by simpa [AV.hasSl] using hsl) q)
        | tup q => simp at hsz; exact .tup (ih.2 _ _ (by omega) (by simpa [AV.resOK] using hok) (by simpa [AV.hasSl] using hsl) q)
        | ptr _ _ => simp [AV.resOK] at hok
        | ptrE _ _ _ => simp [AV.resOK] at hok
        | junk _ => simp [AV.resOK] at hok
        | yld _ _ => simp [AV.resOK] at hok
        | own hu h1 hv =>
          rename_i id
          have hid : id < rows.length := by
            rcases Nat.lt_or_ge id rows.length with h | h
            · exact h
            · exfalso; apply hu; simp [toSH, List.getElem?_eq_none h]
          have e : fresh ≤ id + fresh ∧ id + fresh < fresh + rows.length := by omega
          obtain ⟨T, s, xs, hx⟩ := rowsOnly_get hro id hid
          refine .own (by rw [hh, if_pos e, show id + fresh - fresh = id by omega, hx]; simp) h1 (fun _ => ?_)
          simp only [φ', φnew, if_pos e, show id + fresh - fresh = id by omega]
          exact hv (by show rows.getD id .unborn ≠ .dead; rw [hx]; simp)
      · intro xs us hsz hok hsl hp
        cases hp with
        | nil => exact .nil
        | cons p q =>
          simp at hsz
          simp [AV.resOKL] at hok
          have hsl' : r.hasSl = false → _ := fun hr => by simpa [AV.hasSlL] using hsl hr
          exact .cons (ih.1 _ _ (by omega) hok.1 (fun hr => (hsl' hr).1) p) (ih.2 _ _ (by omega) hok.2 (fun hr => (hsl' hr).2) q)
  exact (key (SizeOf.sizeOf r + 1)).1 r v (by omega) hres (fun h => h) hV

theorem run_callFunc {f : FuncId} (hE : Enters P f) (args : Array Value) : (callFunc f args).run P w = .ok (.enter f args) w := by
  obtain ⟨fn, c, h1, h2, h3⟩ := hE
  unfold callFunc
  simp only [Sem.run_bind, run_program, Result.andThen_ok, h1]
  rw [Sem.run_ite, if_neg (by simp [h2])]
  rw [Sem.run_ite, if_neg (by simp [h3])]
  rfl

variable (hr : Rel C h φ w) (hρ : ∀ x, VRep h φ (okB C h φ w) w (rd x) (a.eval x)) (hl : Sees look h)
include hr hρ hl

theorem sound_call (hEO : EnvOK E) (hEw : E C.w0) (hC : ∀ b, C.A0 b → b < C.w0.heap.size) {c : Call} {g : Operand} (hop : o.op = .call c) (hc : c.callee = .value g) {f : FuncId} {caps : List AV} (hg : rd g = .fn f caps)
    {fresh : Nat} {ans : Option Ans} {eff : Eff} (he : callA P E look f (evalL rd c.args.toList ++ caps) fresh ans = some eff) (hf : ∀ k, k < eff.new.length → h (fresh + k) = .unborn) (hob : All eff.obl) :
    OpOK P C h φ w a o (newS (updS h eff.upd) fresh eff.new) eff.val := by
  have hgv := hρ g
  rw [hg] at hgv
  obtain ⟨vcaps, hgv, hcaps⟩ := hgv.inv_fn
  have hEw' : E w := hEO _ _ hEw hr.below
  have hargs : VRepL h φ (okB C h φ w) w (evalL rd c.args.toList ++ caps) (c.args.toList.map a.eval ++ vcaps) := (evalL_rep hρ c.args.toList).append hcaps.v
  have hrun : Enters P f → (execOp a.eval o).run P w = .ok (.enter f (c.args.toList.map a.eval ++ vcaps).toArray) w := by
    intro hent
    have : c.args.map a.eval ++ vcaps.toArray = (c.args.toList.map a.eval ++ vcaps).toArray := by apply Array.ext'; simp
    simp only [execOp, hop, resolve, hc, Deferred.ofValue, hgv, Sem.run_bind, Sem.run_pure, Result.andThen_ok, invoke, Array.empty_append, this, run_callFunc hent]
  unfold callA at he
  split at he
  · rename_i as rows r hv
    split at he
    · rename_i hcond
      simp at hcond
      simp at he; subst he
      obtain ⟨hent, hcall⟩ := hob.1
      obtain ⟨r1, r2, r3, r4, r5, r6⟩ := Rel.frz (freeze look (AV.refsL (evalL rd c.args.toList ++ caps))) (freeze_ok _) hr hl.inv
      have hvok := viewOK_frz r1 r4 (ids := AV.refsL (evalL rd c.args.toList ++ caps)) (fun id hid T' s' xs' hx => r5 _ (freeze_mem hid hx))
      have hrep := viewK_repL hv hvok (hargs.mono r2 r3)
      intro F n next Q hF hn
      rw [hrun hent]
      have hcl := hcall ⟨okB C (updS h (freeze look (AV.refsL (evalL rd c.args.toList ++ caps)))) φ w, w⟩ _ hEw' (fun b hb => hb.1) hrep
      refine ⟨fun hd => (by rw [hF.depth] at hd; cases hd), (hF.calls (n - 1) hcl).mono fun e w' hres => ?_⟩
      obtain ⟨v, φr, rfl, hR, hV⟩ := hres
      have hf1 : ∀ k, k < rows.length → updS h (freeze look (AV.refsL (evalL rd c.args.toList ++ caps))) (fresh + k) = .unborn := by
        intro k hk
        rw [r6 (fresh + k) (fun p hp e => by
          obtain ⟨_, T', s', xs', hx⟩ := freeze_row hp
          have := hl.get hx (by simp)
          rw [e, hf k hk] at this; cases this)]
        exact hf k hk
      obtain ⟨t1, t2, t3, t4⟩ := r1.take hcond.1 hf1 hcond.2 hR hV (.inl fun b hb => hb)
      exact hn v _ w' t1 (r2.trans t2) (r3.trans t3) t4
    · cases he
  · rename_i as rows r hv
    split at he
    · rename_i hcond
      simp at hcond
      simp at he; subst he
      obtain ⟨hent, hcall⟩ := hob.1
      have hvok : ViewOK look h φ (okB C h φ w) (fun b => b < w.heap.size) w (AV.refsL (evalL rd c.args.toList ++ caps)) := by
        refine ⟨fun b hb => hb.1, fun k hk xs' hx' => ?_, fun k hk cs' hx' => ?_⟩
        · rcases hx' with ⟨T', s', hx'⟩ | hx'
          · have hid := hl.get hx' (by simp)
            have ho := hr.obj k
            rw [hid] at ho
            have hbl := fun b => (hr.obj k).block (b := b) (by simp [hid, Ob.live])
            obtain ⟨cells, g1, g2, g3, g4, g5⟩ := ho
            exact ⟨by rw [hid]; simp, rep_of_owns g1 (g2.mono fun b hb => ⟨hb.1, rfl⟩) g3 g5 (fun b hb => (hbl b hb).1)⟩
          · have hid := hl.get hx' (by simp)
            have ho := hr.obj k
            rw [hid] at ho
            exact ⟨by rw [hid]; simp, Rep.mono (fun b hb => ⟨hb.1, rfl⟩) ho⟩
        · have hid := hl.get hx' (by simp)
          have ho := hr.obj k
          rw [hid] at ho
          obtain ⟨b, g1, g2, g3⟩ := ho
          exact ⟨b, g1, g2.1, RepAt.mono (fun b hb => ⟨hb.1, rfl⟩) g2 g3⟩
      have hrep := viewK_repL hv hvok hargs
      intro F n next Q hF hn
      rw [hrun hent]
      have hcl := hcall ⟨fun b => b < w.heap.size, w⟩ _ hEw' (fun b hb => hb) hrep
      refine ⟨fun hd => (by rw [hF.depth] at hd; cases hd), (hF.calls (n - 1) hcl).mono fun e w' hres => ?_⟩
      obtain ⟨v, φr, rfl, hR, hV⟩ := hres
      obtain ⟨t1, t2, t3, t4⟩ := hr.take hcond.1.1 hf hcond.1.2 hR hV (.inr ⟨hcond.2, hob.2.1⟩)
      exact hn v _ w' t1 t2 t3 t4
    · cases he
  · cases he
end ops

end Go.Abs
/- Further operations: maps of numbers, rows made, rows copied into, calls that take a row over. -/
set_option linter.unusedVariables false
set_option linter.unusedSimpArgs false
set_option linter.unusedSectionVars false
namespace Go.Abs
open Go.RowKit Go.MapKept

section ops
variable {P : Program} {E : Env} {C : C0} {h : SH} {φ : Nat → Value} {w : World} {a : Act} {o : Oper} {rd : Operand → AV} {look : Nat → Ob}

theorem mapA_inv {T : TypeId} (h : mapA P T = true) : ∃ k e, P.underlying T = some (.map k e) ∧ P.underlying k = some (.int .i64) ∧ zeroA P e = some (.agg []) := by
  unfold mapA at h
  split at h
  · rename_i k e h1
    split at h
    · rename_i fs h2 h3 h4
      exact ⟨k, e, h1, h2, h4⟩
    · cases h
  · cases h

theorem memI_mem (n : Int) : ∀ ks : List Int, memI n ks = true ↔ n ∈ ks
  | [] => by simp [memI]
  | k :: r => by
    simp only [memI, Bool.or_eq_true, beq_iff_eq, memI_mem n r, List.mem_cons]
    exact ⟨fun h => h.elim (fun h => .inl h.symm) .inr, fun h => h.elim (fun h => .inl h.symm) .inr⟩

theorem memN_mem (n : Nat) : ∀ l : List Nat, memN n l = true ↔ n ∈ l
  | [] => by simp [memN]
  | k :: r => by
    simp only [memN, Bool.or_eq_true, Nat.beq_eq, memN_mem n r, List.mem_cons]
    exact ⟨fun h => h.elim (fun h => .inl h.symm) .inr, fun h => h.elim (fun h => .inl h.symm) .inr⟩

/-- What is found of a number in a map's entries. -/
theorem find_int {kt : TypeId} (hk : P.underlying kt = some (.int .i64)) {es : Array MapEntry} {ks : List Int} (h1 : es.toList.map (fun e => e.key) = ks.map (Value.int .i64)) (h2 : ∀ e ∈ es.toList, e.val = .agg #[]) (n : Int) :
    (memI n ks = false ∧ (Instr.findKey kt (.int .i64 n) es.toList).run P w = .ok none w) ∨
    (memI n ks = true ∧ ∃ j e, (Instr.findKey kt (.int .i64 n) es.toList).run P w = .ok (some (j, .agg #[])) w ∧ es.toList[j]? = some e ∧ e.key = .int .i64 n) := by
  have hkeys : ∀ x ∈ es.toList, IsKey (.int .i64) x.key := by
    intro x hx
    have : x.key ∈ ks.map (Value.int .i64) := by rw [← h1]; exact List.mem_map.2 ⟨x, hx, rfl⟩
    obtain ⟨m, _, e⟩ := List.mem_map.1 this
    rw [← e]; simp [IsKey]
  rcases findNow_spec (d := .int .i64) (k := .int .i64 n) (by simp [IsKey]) es.toList 0 hkeys with ⟨g1, g2⟩ | ⟨j, e, g1, g2, g3⟩
  · refine .inl ⟨?_, run_findKey hk g1⟩
    cases hb : memI n ks with
    | false => rfl
    | true =>
      have hn := (memI_mem n ks).1 hb
      have : Value.int .i64 n ∈ es.toList.map (fun e => e.key) := by rw [h1]; exact List.mem_map.2 ⟨n, hn, rfl⟩
      obtain ⟨x, hx, e⟩ := List.mem_map.1 this
      exact absurd e (g2 x hx)
  · refine .inr ⟨?_, j, e, ?_, g2, g3⟩
    · have hx : e ∈ es.toList := List.mem_of_getElem? g2
      have : e.key ∈ ks.map (Value.int .i64) := by rw [← h1]; exact List.mem_map.2 ⟨e, hx, rfl⟩
      obtain ⟨m, hm, e2⟩ := List.mem_map.1 this
      rw [g3] at e2
      injection e2 with _ e2
      exact (memI_mem n ks).2 (e2 ▸ hm)
    · have := run_findKey (w := w) hk g1
      rw [h2 e (List.mem_of_getElem? g2)] at this
      simpa using this

variable (hr : Rel C h φ w) (hρ : ∀ x, VRep h φ (okB C h φ w) w (rd x) (a.eval x)) (hl : Sees look h)
include hr hρ hl

theorem sound_makeMap {T : TypeId} (hop : o.op = .makeMap T none) {fresh : Nat} (hf : h fresh = .unborn) (hm : mapA P T = true) : OpOK P C h φ w a o (newS (updS h []) fresh [.mp []]) (.own fresh) := by
  have hkh : KeepH h (upd1 h fresh (.mp [])) φ (upd1v φ fresh (.map (some w.heap.size))) := .new hf _ (by simp) _
  obtain ⟨r1, r2⟩ := hr.alloc hf (o := .mp []) (v := .map (some w.heap.size)) (x := .map #[] 0) (by simp) (by simp [blk]) (fun hK =>
    ⟨w.heap.size, #[], 0, rfl, hr.below.size, by show (w.heap.push _)[w.heap.size]? = _; simp, rfl, by simp⟩)
  intro F m next Q hF hn
  have hrun : (execOp a.eval o).run P w = .ok (.value (.map (some w.heap.size))) (w.alloc (.map #[] 0)) := by
    simp [execOp, hop, Instr.makeMap, newObj]
    rfl
  rw [hrun]
  exact hn _ _ _ r1 r2 hkh (.own (by simp [newS, updS, upd1]) rfl (fun _ => by simp [upd1v]))

theorem map_own {m : Operand} {id : Nat} {ks : List Int} (e1 : rd m = .own id) (e4 : look id = .mp ks) :
    ∃ b es clk, h id = .mp ks ∧ φ id = .map (some b) ∧ a.eval m = .map (some b) ∧ C.w0.heap.size ≤ b ∧ w.heap[b]? = some (.map es clk) ∧ es.toList.map (fun e => e.key) = ks.map (Value.int .i64) ∧ ∀ e ∈ es.toList, e.val = .agg #[] := by
  have hid := hl.get e4 (by simp)
  have hx := hρ m
  rw [e1] at hx
  have ho := hr.obj id
  rw [hid] at ho
  obtain ⟨b, es, clk, g1, g2, g3, g4, g5⟩ := ho
  exact ⟨b, es, clk, hid, g1, by rw [hx.inv_own.2 (by simp [hid]), g1], g2, g3, g4, g5⟩

theorem sound_mapUpdate {T : TypeId} {m k v : Operand} (hop : o.op = .mapUpdate T m k v) {id : Nat} {n : Int} {ks : List Int} (e1 : rd m = .own id) (e2 : rd k = .int .i64 n) (e3 : rd v = .agg []) (e4 : look id = .mp ks) (hm : mapA P T = true) {fresh : Nat}
    (hb : ks.length < 9223372036854775807) : OpOK P C h φ w a o (newS (updS h [(id, .mp (addK n ks))]) fresh []) .junk := by
  obtain ⟨b, es, clk, hid, hφ, hmv, g2, g3, g4, g5⟩ := map_own hr hρ hl e1 e4
  obtain ⟨kt, et, hu, huk, _⟩ := mapA_inv hm
  have hk := hρ k; rw [e2] at hk
  have hkv := hk.inv_int
  have hv := hρ v; rw [e3] at hv
  obtain ⟨vs, hvv, hvs⟩ := hv.inv_agg
  have hvs0 : vs = [] := by cases hvs; rfl
  subst hvs0
  -- the map behind the update
  have main : ∃ es' clk', (Instr.mapUpdate T (a.eval m) (a.eval k) (a.eval v)).run P w = .ok () { w with heap := w.heap.setIfInBounds b (.map es' clk') } ∧
      es'.toList.map (fun e => e.key) = (addK n ks).map (Value.int .i64) ∧ ∀ e ∈ es'.toList, e.val = .agg #[] := by
    rw [hmv, hkv, hvv]
    rcases find_int (P := P) (w := w) huk g4 g5 n with ⟨f1, f2⟩ | ⟨f1, j, e, f2, f3, f4⟩
    · refine ⟨es.push { key := .int .i64 n, val := .agg #[], born := clk }, clk + 1, ?_, ?_, ?_⟩
      · simp only [Instr.mapUpdate, Sem.run_bind, run_underlying hu, Result.andThen_ok, MapKept.run_getObj_map g3, run_checkKey huk (k := .int .i64 n) (by simp [IsKey]) false 9999, f2, run_setObj_map _ g3]
      · simp [addK, f1, g4]
      · intro x hx
        simp at hx
        rcases hx with hx | rfl
        · exact g5 x (by simpa using hx)
        · rfl
    · have hkey : ((es[j]?).map (·.key)).getD (.int .i64 n) = .int .i64 n := by
        have : es[j]? = some e := by simpa using f3
        simp [this, f4]
      refine ⟨es.modify j fun e => { e with key := .int .i64 n, val := .agg #[] }, clk, ?_, ?_, ?_⟩
      · simp only [Instr.mapUpdate, Sem.run_bind, run_underlying hu, Result.andThen_ok, MapKept.run_getObj_map g3, run_checkKey huk (k := .int .i64 n) (by simp [IsKey]) false 9999, f2, hkey]
        have hsb : Instr.sameBits 10000 (.int .i64 n) (.int .i64 n) = true := by simp [Instr.sameBits]
        simp [Instr.keyThatStays, hsb, run_setObj_map _ g3]
      · rw [show addK n ks = ks by simp [addK, f1], ← g4]
        apply List.ext_getElem?
        intro i
        simp only [List.getElem?_map, Array.toList_modify]
        by_cases hij : i = j
        · subst hij
          simp [List.getElem?_modify, f3, f4]
        · simp [List.getElem?_modify, show ¬ j = i by omega]
      · intro x hx
        rw [Array.toList_modify] at hx
        obtain ⟨i, hi⟩ := List.getElem?_of_mem hx
        by_cases hij : i = j
        · subst hij
          simp [List.getElem?_modify, f3] at hi
          rw [← hi]
        · simp [List.getElem?_modify, show ¬ j = i by omega] at hi
          exact g5 x (by simpa using Array.mem_of_getElem? hi)
  obtain ⟨es', clk', hrun, k1, k2⟩ := main
  have hlt : b < w.heap.size := (Array.getElem?_eq_some_iff.1 g3).1
  have kh : KeepH h (upd1 h id (.mp (addK n ks))) φ φ := .chg (by simp [hid]) (by simp) (by simp [hid]) (by simp)
  obtain ⟨r1, r2⟩ := hr.change (id := id) (o := .mp (addK n ks)) (w' := { w with heap := w.heap.setIfInBounds b (.map es' clk') }) (by simp [hid, Ob.live]) kh
    (hr.below.trans ⟨rfl, rfl, rfl, by simp, fun q hq => by simp [show b ≠ q by omega]⟩) (by simp)
    (fun q hq _ => by
      have : b ≠ q := fun e => hq (by rw [hφ, e]; rfl)
      simp [this])
    (fun hK => ⟨b, es', clk', hφ, g2, by simp [hlt], k1, k2⟩)
  intro F q next Q hF hn
  have : (execOp a.eval o).run P w = .ok .skip { w with heap := w.heap.setIfInBounds b (.map es' clk') } := by
    simp only [execOp, hop, Sem.run_bind, hrun, Result.andThen_ok, Sem.run_pure]
  rw [this]
  exact hn undef φ _ r1 r2 kh (.junk _)

theorem sound_lookup {T : TypeId} {m k : Operand} (hop : o.op = .lookup T m k true) {id : Nat} {n : Int} {ks : List Int} (e1 : rd m = .own id) (e2 : rd k = .int .i64 n) (e4 : look id = .mp ks) (hm : mapA P T = true) :
    OpOK P C h φ w a o h (.tup [.agg [], .bool (memI n ks)]) := by
  obtain ⟨b, es, clk, hid, hφ, hmv, g2, g3, g4, g5⟩ := map_own hr hρ hl e1 e4
  obtain ⟨kt, et, hu, huk, hz⟩ := mapA_inv hm
  have hk := hρ k; rw [e2] at hk
  have hkv := hk.inv_int
  obtain ⟨zv, i, h1, h2, h3, h4⟩ := zeroA_run (w := w) hz
  have hzv : zv = .agg #[] := by
    cases zv <;> simp [ofValue, ofCell] at h4
    case agg cs => simpa using h4
    all_goals (split at h4 <;> simp at h4)
  subst hzv
  refine .same hr (v := .tuple #[.agg #[], .bool (memI n ks)]) ?_ (.tup (.cons (.pure (.agg .nil)) (.cons (.pure (.bool _)) .nil)))
  simp only [execOp, hop, hmv, hkv, Instr.lookup, Sem.run_bind, run_underlying hu, Result.andThen_ok, MapKept.run_getObj_map g3, Sem.run_pure, run_checkKey huk (k := .int .i64 n) (by simp [IsKey]) _ 9999]
  rcases find_int (P := P) (w := w) huk g4 g5 n with ⟨f1, f2⟩ | ⟨f1, j, e, f2, f3, f4⟩
  · simp [f2, f1, h3, Result.andThen]
  · simp [f2, f1, Result.andThen]

omit hr hρ hl in
theorem pures_known : ∀ l : List AV, pures l = true → known l = true
  | [], _ => rfl
  | x :: l, h => by
    simp only [pures, Bool.and_eq_true] at h
    simp only [known, Bool.and_eq_true]
    refine ⟨?_, pures_known l h.2⟩
    cases x <;> first | rfl | (simp [AV.pc] at h; done)
omit hr hρ hl in
theorem flat_replicate (z : AV) : ∀ n, (List.replicate n z).flatMap AV.cells = repl z.cells n
  | 0 => rfl
  | n + 1 => by rw [List.replicate_succ, List.flatMap_cons, flat_replicate z n]; rfl

theorem sound_makeSlice {T : TypeId} {x y : Operand} (hop : o.op = .makeSlice T x y) {fresh : Nat} {eff : Eff} (he : makeSliceA P T (rd x) (rd y) fresh = some eff) (hf : ∀ k, k < eff.new.length → h (fresh + k) = .unborn) (hob : All eff.obl) :
    OpOK P C h φ w a o (newS (updS h eff.upd) fresh eff.new) eff.val := by
  have hx := hρ x
  have hy := hρ y
  unfold makeSliceA at he
  split at he
  · rename_i e n m hT e1 e2
    have hu : P.underlying T = some (.slice e) := by unfold elemA at hT; split at hT <;> simp_all
    rw [e1] at hx; rw [e2] at hy
    split at he
    · rename_i s z inf hsz hz hinf
      split at he
      · rename_i hc
        simp only [Bool.and_eq_true, decide_eq_true_eq] at hc
        obtain ⟨⟨c1, c2⟩, c3⟩ := hc
        simp at he; subst he
        obtain ⟨o1, o2, o3, o4, _⟩ := hob
        have hfr : h fresh = .unborn := by simpa using hf 0 (by simp)
        obtain ⟨zv, i, h1, h2, h3, h4⟩ := zeroA_run (w := w) hz
        rw [hinf] at h1
        injection h1 with h1
        subst h1
        have hin : inf.size = s := by unfold sz at hsz; simp [hinf] at hsz; exact hsz
        obtain ⟨us, u1, u2⟩ := zero_cells (h := h) (φ := φ) (C := C) (w := w) zv
        rw [← h4] at u2
        have hul : us.length = s := by rw [← u2.length]; simpa using c1
        have hu1 : ∀ u ∈ us, u.oneCell' = true := u2.ones (pures_known _ c3)
        subst o1
        obtain ⟨N, rfl⟩ : ∃ N : Nat, n = N := ⟨n.toNat, by omega⟩
        simp only [Int.toNat_natCast] at o3 o4 ⊢
        have hs0 : 0 < s := by simpa [Nat.pos_iff_ne_zero] using c2
        have hN : N ≤ 16777216 := Nat.le_trans (Nat.le_mul_of_pos_right N hs0) o4
        obtain ⟨w', g1, g2, g3⟩ := run_makeSlice_full (P := P) w C.w0.heap.size T e inf zv s hu hinf h2 hin .i64 .i64 N o4 (by rw [Nat.mul_comm]; omega) (by unfold maxLen; omega) hr.below.size
        have hcells : (madeCells zv.cells (N * s)).toList = vrepl us N := by
          unfold madeCells
          rw [u1]
          have := vrepl_range us (by omega) N
          rw [hul] at this
          simpa using this
        have hrl : ∀ k, RepL (okB C h φ w) w (repl z.cells k) (vrepl us k) := by
          intro k
          have hz1 : RepL (okB C h φ w) w z.cells us := pures_rep c3 u2
          induction k with
          | zero => exact .nil
          | succ k ih => exact hz1.append ih
        have hvone : ∀ k, ∀ u ∈ vrepl us k, u.oneCell' = true := by
          intro k
          induction k with
          | zero => intro u hu; simp [vrepl] at hu
          | succ k ih => intro u hu; rcases List.mem_append.1 hu with hu | hu; exact hu1 u hu; exact ih u hu
        obtain ⟨r1, r2, r3, r4⟩ := Rel.regrow hr hρ hl (T := e) (s := s) hfr (old := none) (xs := List.replicate N z) (fun _ h => by cases h) (v := .slice none 0 0) (v' := .slice (some ⟨w.heap.size, 0, none⟩) N N) (.inr ⟨rfl, rfl⟩)
          (cells := vrepl us N) g3 (by rw [List.length_replicate, ← hcells]; exact g2) (fun b hb => by simp [blk] at hb; exact .inl (by omega)) (by rw [flat_replicate]; exact hrl N)
          (fun q hq => by rw [List.eq_of_mem_replicate hq]; simpa using c1) hs0 (hvone N)
        intro F q next Q hF hn
        have hrun : (execOp a.eval o).run P w = .ok (.value (.slice (some ⟨w.heap.size, 0, none⟩) N N)) w' := by
          simp [execOp, hop, hx.inv_int, hy.inv_int, g1, Result.andThen]
        rw [hrun]
        exact hn _ _ w' r1 r2 r3 (.own (by simp [newS, updS, upd1]) rfl (fun _ => by simp [upd1v]))
      · cases he
    · cases he
  · cases he

omit hr hρ hl in
theorem RepL.take' {A : Nat → Prop} : ∀ {xs : List AV} {vs : List Value} (n : Nat), RepL A w xs vs → RepL A w (xs.take n) (vs.take n)
  | _, _, 0, _ => by simpa using RepL.nil
  | _, _, n + 1, .nil => by simpa using RepL.nil
  | _, _, n + 1, .cons p q => by simpa using RepL.cons p (RepL.take' n q)
omit hr hρ hl in
theorem RepL.drop' {A : Nat → Prop} : ∀ {xs : List AV} {vs : List Value} (n : Nat), RepL A w xs vs → RepL A w (xs.drop n) (vs.drop n)
  | _, _, 0, p => by simpa using p
  | _, _, n + 1, .nil => by simpa using RepL.nil
  | _, _, n + 1, .cons p q => by simpa using RepL.drop' n q
omit hr hρ hl in
theorem flat_take {n : Nat} : ∀ (l : List AV) (k : Nat), (∀ y ∈ l, y.cells.length = n) → (l.take k).flatMap AV.cells = (l.flatMap AV.cells).take (k * n)
  | [], k, _ => by simp
  | y :: l, 0, _ => by simp
  | y :: l, k + 1, h => by
    rw [List.take_succ_cons, List.flatMap_cons, List.flatMap_cons, flat_take l k (fun z hz => h z (by simp [hz])), Nat.add_mul, Nat.one_mul, Nat.add_comm, List.take_append, h y (by simp),
      List.take_of_length_le (l := y.cells) (by rw [h y (by simp)]; omega), Nat.add_sub_cancel_left]
omit hr hρ hl in
theorem flat_drop {n : Nat} : ∀ (l : List AV) (k : Nat), (∀ y ∈ l, y.cells.length = n) → (l.drop k).flatMap AV.cells = (l.flatMap AV.cells).drop (k * n)
  | [], k, _ => by simp
  | y :: l, 0, _ => by simp
  | y :: l, k + 1, h => by
    rw [List.drop_succ_cons, List.flatMap_cons, flat_drop l k (fun z hz => h z (by simp [hz])), Nat.add_mul, Nat.one_mul, Nat.add_comm, List.drop_append, h y (by simp),
      List.drop_of_length_le (l := y.cells) (by rw [h y (by simp)]; omega), Nat.add_sub_cancel_left, List.nil_append]

theorem sound_copy {c : Call} {T : TypeId} {d x : Operand} (hop : o.op = .call c) (hc : c.callee = .builtin .copy) (hargs : c.args.toList = [d, x]) (hts : c.argTypes.toList = [T, T]) {fresh : Nat} {eff : Eff}
    (he : copyA P look T (rd d) (rd x) = some eff) (hob : All eff.obl) : OpOK P C h φ w a o (newS (updS h eff.upd) fresh eff.new) eff.val := by
  have hd := hρ d
  unfold copyA at he
  split at he
  · rename_i e id hT e1
    have hu : P.underlying T = some (.slice e) := by unfold elemA at hT; split at hT <;> simp_all
    rw [e1] at hd
    split at he
    · rename_i e' n xs ys e2 hys
      split at he
      · rename_i hcnd
        simp only [Bool.and_eq_true, decide_eq_true_eq] at hcnd
        obtain ⟨hee, hsz⟩ := hcnd
        have hee := hee.symm
        subst hee
        injection he with he
        subst he
        have hyn := hob.1
        have hid := hl.get e2 (by simp)
        have hv := hd.inv_own.2 (by simp [hid])
        have ho := hr.obj id
        rw [hid] at ho
        obtain ⟨cells, g1, g2, g3, g4, g5⟩ := ho
        obtain ⟨p, m, cp, news, hx, hm, hp, hnews, hn1, hlen, hcell⟩ := elems_mem hr hρ hl hys hyn
        subst hm
        have hln : (ys.take xs.length).length = Nat.min ys.length xs.length := by rw [List.length_take]; exact Nat.min_comm _ _
        -- the cells that are copied
        obtain ⟨us, hus⟩ : ∃ us, us = news.take (Nat.min ys.length xs.length * n) := ⟨_, rfl⟩
        have husl : us.length = Nat.min ys.length xs.length * n := by
          rw [hus, List.length_take, hlen]
          exact Nat.min_eq_left (Nat.mul_le_mul_right _ (Nat.min_le_left _ _))
        have hus' : us = news.take (xs.length * n) := by
          rw [hus]
          rcases Nat.le_total ys.length xs.length with hle | hle
          · rw [show Nat.min ys.length xs.length = ys.length from Nat.min_eq_left hle, List.take_of_length_le (by omega), List.take_of_length_le (by rw [hlen]; exact Nat.mul_le_mul_right _ hle)]
          · rw [show Nat.min ys.length xs.length = xs.length from Nat.min_eq_right hle]
        have hload : (Builtin.firstCells n (Nat.min ys.length xs.length) (.slice p ys.length cp)).run P w = .ok us.toArray w := by
          cases p with
          | none =>
            obtain ⟨q1, _, q3⟩ := hp rfl
            rw [hus, q3]; simp [Builtin.firstCells]
          | some ad =>
            unfold Builtin.firstCells
            rw [← husl]
            exact run_loadCells_list w ad us (fun j u hj => by
              rw [hus, List.getElem?_take] at hj
              split at hj
              · exact hcell ad rfl j u hj
              · cases hj)
        have hflat : (ys.take xs.length ++ xs.drop ys.length).flatMap AV.cells = (ys.flatMap AV.cells).take (xs.length * n) ++ (xs.flatMap AV.cells).drop (ys.length * n) := by
          rw [List.flatMap_append, flat_take ys _ hyn, flat_drop xs _ g3]
        have hcl : cells.length = xs.length * n := g1.1
        have hdrop : cells.drop us.length = cells.drop (ys.length * n) := by
          rw [husl]
          rcases Nat.le_total ys.length xs.length with hle | hle
          · rw [show Nat.min ys.length xs.length = ys.length from Nat.min_eq_left hle]
          · rw [show Nat.min ys.length xs.length = xs.length from Nat.min_eq_right hle, List.drop_of_length_le (by omega), List.drop_of_length_le (by rw [hcl]; exact Nat.mul_le_mul_right _ hle)]
        have hrep : RepL (okB C h φ w) w ((ys.take xs.length ++ xs.drop ys.length).flatMap AV.cells) (us ++ cells.drop us.length) := by
          rw [hflat, hdrop, hus']
          exact (RepL.take' _ hnews).append (RepL.drop' _ g2)
        have hone : ∀ u ∈ us ++ cells.drop us.length, u.oneCell' = true := fun u hu => by
          rcases List.mem_append.1 hu with hu | hu
          · rw [hus] at hu; exact hn1 u (List.mem_of_mem_take hu)
          · exact g5 u (List.mem_of_mem_drop hu)
        have hxs' : (ys.take xs.length ++ xs.drop ys.length).length = xs.length := by rw [List.length_append, List.length_take, List.length_drop]; omega
        have hlens : ∀ y ∈ ys.take xs.length ++ xs.drop ys.length, y.cells.length = n := fun y hy => by
          rcases List.mem_append.1 hy with hy | hy
          · exact hyn y (List.mem_of_mem_take hy)
          · exact g3 y (List.mem_of_mem_drop hy)
        obtain ⟨cs, hres⟩ := resolve_builtin (P := P) (a := a) (w := w) hc o.type
        rcases g1.2 with ⟨q1, q2⟩ | ⟨gb, cap, cur, q1, q2, q3, q4, q5, q6, q7⟩
        · -- no row at all
          have hx0 : xs = [] := List.eq_nil_of_length_eq_zero q2
          subst hx0
          have hus0 : us = [] := by rw [hus']; simp
          have hrun : (execOp a.eval o).run P w = .ok (.value (goInt 0)) w := by
            simp only [execOp, hop, Sem.run_bind, hres, Result.andThen_ok, invoke, builtin, toList_two hargs, toList_two hts, List.map_toArray, List.map_cons, List.map_nil, hv, q1, hx]
            have h0 : Nat.min ys.length 0 = 0 := Nat.min_zero _
            simp only [List.length_nil, h0] at hload
            simp [Builtin.copy_, run_underlying hu, Builtin.lenOf, h0, run_sizeOf hsz, hload, Result.andThen]
          have hsame : newS (updS h [(id, .row e n (ys.take 0 ++ []))]) fresh [] = h := by
            funext q
            by_cases hq : q = id
            · subst hq; simp [newS, updS, upd1, hid]
            · simp [newS, updS, upd1, hq]
          intro F q next Q hF hn
          rw [hrun]
          have : (newS (updS h [(id, .row e n (ys.take ([] : List AV).length ++ ([] : List AV).drop ys.length))]) fresh []) = h := by simpa using hsame
          simp only at hn
          rw [this] at hn
          exact hn _ φ w hr (keepB_refl _ _) (.refl _ _) (by simpa [goInt] using (VRep.pure (Rep.int _ _)))
        · have hst := run_storeCells_at P gb 0 e us 0 cur w q3 (by rw [q6, husl]; simp; exact Nat.mul_le_mul_right _ (Nat.le_trans (Nat.min_le_right _ _) q4)) (fun u hu => hone u (List.mem_append_left _ hu))
          simp only [Nat.add_zero, List.take_zero, List.nil_append, Nat.zero_add] at hst
          obtain ⟨cur', hcur'⟩ : ∃ cur', cur' = (us ++ cur.toList.drop us.length).toArray := ⟨_, rfl⟩
          have hst' : (storeCells ⟨gb, 0, none⟩ us).run P w = .ok () (w.setRow gb cur') := by rw [hcur']; exact hst
          have hrun : (execOp a.eval o).run P w = .ok (.value (.int .i64 ((ys.take xs.length).length : Int))) (w.setRow gb cur') := by
            simp only [execOp, hop, Sem.run_bind, hres, Result.andThen_ok, invoke, builtin, toList_two hargs, toList_two hts, List.map_toArray, List.map_cons, List.map_nil, hv, q1, hx]
            simp [Builtin.copy_, run_underlying hu, Builtin.lenOf, run_sizeOf hsz, hload, hst', Result.andThen, goInt, hln]
          have husn : us.length ≤ xs.length * n := by rw [husl]; exact Nat.mul_le_mul_right _ (Nat.min_le_right _ _)
          have hcapn : xs.length * n ≤ cap * n := Nat.mul_le_mul_right _ q4
          have kh : KeepH h (upd1 h id (.row e n (ys.take xs.length ++ xs.drop ys.length))) φ φ := .chg (by simp [hid]) (by simp) (by simp [hid]) (fun T' s' xs' hx' => by cases hx'; exact ⟨_, _, hid⟩)
          have hbφ : blk (φ id) = some gb := by rw [q1]; rfl
          obtain ⟨r1, r2⟩ := hr.change (id := id) (o := .row e n (ys.take xs.length ++ xs.drop ys.length)) (w' := w.setRow gb cur') (by simp [hid, Ob.live]) kh
            (hr.below.trans ⟨rfl, rfl, rfl, by simp [World.setRow], fun k hk => setRow_other w gb k _ (by intro e; omega)⟩) (by simp [World.setRow])
            (fun k hk _ => setRow_other w gb k _ (fun e => hk (by rw [hbφ, e])))
            (fun hK => ⟨us ++ cells.drop us.length, ⟨by rw [List.length_append, List.length_drop, hxs', hcl]; omega, .inr ⟨gb, cap, cur', by rw [q1, hxs'], q2, setRow_heap w gb cur _ e _ q3, by rw [hxs']; exact q4, q5, by
                rw [hcur']; simp [q6]; omega, by
                rw [hcur', hxs', ← q7]
                simp only [List.toList_toArray]
                rw [List.take_append, List.take_of_length_le husn, List.drop_take]⟩⟩, hrep.mono hK, hlens, g4, hone⟩)
          intro F q next Q hF hn
          rw [hrun]
          exact hn _ φ _ r1 r2 kh (.pure (.int _ _))
      · cases he
    · cases he
  · cases he
omit hr hρ hl in
theorem updS_snoc : ∀ (us : List (Nat × Ob)) (h : SH) (p : Nat × Ob), updS h (us ++ [p]) = upd1 (updS h us) p.1 p.2
  | [], h, p => rfl
  | q :: us, h, p => updS_snoc us (upd1 h q.1 q.2) p

theorem sound_callI {c : Call} {g : Operand} (hop : o.op = .call c) (hc : c.callee = .value g) {f : FuncId} {caps : List AV} (hg : rd g = .fn f caps)
    {fresh : Nat} {T : TypeId} {s : Nat} {ys : List AV} {eff : Eff} (he : callIA P look f (evalL rd c.args.toList ++ caps) fresh T s ys = some eff) (hf : ∀ k, k < eff.new.length → h (fresh + k) = .unborn) (hob : All eff.obl) :
    OpOK P C h φ w a o (newS (updS h eff.upd) fresh eff.new) eff.val := by
  have hgv := hρ g
  rw [hg] at hgv
  obtain ⟨vcaps, hgv, hcaps⟩ := hgv.inv_fn
  have hargs : VRepL h φ (okB C h φ w) w (evalL rd c.args.toList ++ caps) (c.args.toList.map a.eval ++ vcaps) := (evalL_rep hρ c.args.toList).append hcaps.v
  have hrun : Enters P f → (execOp a.eval o).run P w = .ok (.enter f (c.args.toList.map a.eval ++ vcaps).toArray) w := by
    intro hent
    have : c.args.map a.eval ++ vcaps.toArray = (c.args.toList.map a.eval ++ vcaps).toArray := by apply Array.ext'; simp
    simp only [execOp, hop, resolve, hc, Deferred.ofValue, hgv, Sem.run_bind, Sem.run_pure, Result.andThen_ok, invoke, Array.empty_append, this, run_callFunc hent]
  -- the call, whatever row is taken over
  have go : ∀ (rest as : List AV) (v0 : Value) (vs0 : List Value) (old : Option Nat) (xs : List AV), c.args.toList.map a.eval ++ vcaps = v0 :: vs0 → AV.viewKL look rest = some as →
      VRepL h φ (okB C h φ w) w rest vs0 → h fresh = .unborn → (∀ id, old = some id → id ∉ AV.refsL rest ∧ h id = .row T s xs ∧ v0 = φ id) → (old = none → xs = [] ∧ v0 = .slice none 0 0) →
      ICalls P f T s xs as ys → (∀ y ∈ ys, y.cells.length = s) → 0 < s →
      OpOK P C h φ w a o (newS (updS h (freeze look (AV.refsL rest) ++ deadU old)) fresh [.row T s ys]) (.own fresh) := by
    intro rest as v0 vs0 old xs hvs hview hrest hfr hold hnone hcall hys hs0
    obtain ⟨r1, r2, r3, r4, r5, r6⟩ := Rel.frz (freeze look (AV.refsL rest)) (freeze_ok _) hr hl.inv
    have hvok := viewOK_frz r1 r4 (ids := AV.refsL rest) (fun id hid T' s' xs' hx => r5 _ (freeze_mem hid hx))
    have hrep := viewK_repL hview hvok (hrest.mono r2 r3)
    have hne : ∀ id, id ∉ AV.refsL rest → ∀ p ∈ freeze look (AV.refsL rest), p.1 ≠ id := fun id hid p hp e => hid (e ▸ (freeze_row hp).1)
    have hf1 : updS h (freeze look (AV.refsL rest)) fresh = .unborn := by
      rw [r6 fresh (fun p hp e => by
        obtain ⟨_, T', s', xs', hx⟩ := freeze_row hp
        have := hl.get hx (by simp)
        rw [e, hfr] at this; cases this)]
      exact hfr
    have hold1 : ∀ id, old = some id → updS h (freeze look (AV.refsL rest)) id = .row T s xs := fun id hid => by
      obtain ⟨q1, q2, _⟩ := hold id hid
      rw [r6 id (hne id q1), q2]
    have hupd : updS h (freeze look (AV.refsL rest) ++ deadU old) = updS (updS h (freeze look (AV.refsL rest))) (deadU old) := by
      cases old with
      | none => simp [deadU, updS]
      | some id => simp only [deadU]; rw [updS_snoc]; rfl
    rw [hupd]
    generalize updS h (freeze look (AV.refsL rest)) = h1 at r1 r2 r3 r4 r5 r6 hvok hrep hf1 hold1
    -- the row
    have hrow : ∃ cells, w.ownsRow C.w0.heap.size T s v0 xs.length cells ∧ RepL (okB C h1 φ w) w (xs.flatMap AV.cells) cells ∧ (∀ u ∈ cells, u.oneCell' = true) ∧ ∀ b, okB C h1 φ w b → v0.ownBlock ≠ some b := by
      cases old with
      | none =>
        obtain ⟨rfl, rfl⟩ := hnone rfl
        exact ⟨[], World.ownsRow_nil w _ T s, .nil, by simp, fun b _ e => by cases e⟩
      | some id =>
        have ho := r1.obj id
        rw [hold1 id rfl] at ho
        obtain ⟨cells, g1, g2, g3, g4, g5⟩ := ho
        obtain ⟨_, _, rfl⟩ := hold id rfl
        exact ⟨cells, g1, g2, g5, fun b hb e => hb.2.2 id (by simp [hold1 id rfl, Ob.live]) (ownBlock_blk' e)⟩
    obtain ⟨cells, g1, g2, g3, g4⟩ := hrow
    intro F n next Q hF hn
    rw [hrun hcall.1]
    have hcl := hcall.2 C.w0.heap.size (okB C h1 φ w) w v0 cells vs0 g1 g2 g3 hr.below.size (fun b hb => ⟨hb.1, g4 b hb⟩) hrep
    rw [← hvs] at hcl
    refine ⟨fun hd => (by rw [hF.depth] at hd; cases hd), (hF.calls (n - 1) hcl).mono fun e w' hres => ?_⟩
    obtain ⟨v', cells', rfl, k1, k2, k3, k4, k5⟩ := hres
    have k2' : RepL (okB C h1 φ w) w (ys.flatMap AV.cells) cells' := k2.mono fun b hb => ⟨hb, (k4.block b hb.1 (fun e => g4 b hb e.symm)).symm⟩
    obtain ⟨t1, t2, t3, t4⟩ := Rel.regrow (rd := fun _ => .junk) (a := a) (look := h1) r1 (fun _ => .junk _) (fun id => .inr rfl) (T := T) (s := s) hf1 (old := old) (xs := ys) (fun id hid => ⟨xs, hold1 id hid⟩)
      (v := v0) (v' := v') (by
        cases old with
        | none => exact .inr ⟨rfl, by rw [(hnone rfl).2]; rfl⟩
        | some id => exact .inl ⟨id, rfl, (hold id rfl).2.2⟩) (cells := cells') k4 k1 k5 k2' hys hs0 k3
    have hone : v'.oneCell' = true := by rcases k1.2 with ⟨h9, _⟩ | ⟨_, _, _, h9, _⟩ <;> rw [h9] <;> rfl
    exact hn v' _ w' t1 (r2.trans t2) (r3.trans t3) (.own (by rw [t4]; simp) hone (fun _ => by simp [upd1v]))
  unfold callIA at he
  split at he
  · rename_i x rest hlist
    rw [hlist] at hargs
    split at he
    · rename_i as hview
      generalize hvs : c.args.toList.map a.eval ++ vcaps = vs at hargs
      cases hargs with
      | cons p q =>
        rename_i v0 vs0
        split at he
        · rename_i id
          split at he
          · rename_i T' s' xs e2
            have hid := hl.get e2 (by simp)
            split at he
            · rename_i hcnd
              simp only [Bool.and_eq_true, decide_eq_true_eq, Bool.not_eq_true'] at hcnd
              obtain ⟨⟨rfl, rfl⟩, hnot⟩ := hcnd
              simp at he; subst he
              have hnot' : id ∉ AV.refsL rest := fun hm => by rw [(memN_mem id _).2 hm] at hnot; cases hnot
              exact go rest as v0 vs0 (some id) xs hvs hview q (by simpa using hf 0 (by simp)) (fun k hk => by cases hk; exact ⟨hnot', hid, p.inv_own.2 (by simp [hid])⟩) (fun h => by cases h) hob.1 hob.2.1 hob.2.2.1
            · cases he
          · cases he
        · simp at he; subst he
          obtain ⟨pp, c', e2, _, _, ⟨e3, _⟩, _⟩ := p.inv_sl
          have := go rest as v0 vs0 none [] hvs hview q (by simpa using hf 0 (by simp)) (fun k hk => by cases hk) (fun _ => ⟨rfl, e3 rfl rfl⟩) hob.1 hob.2.1 hob.2.2.1
          simpa [deadU] using this
        · cases he
    · cases he
  · cases he
end ops

end Go.Abs
/- A call of yield. -/
set_option linter.unusedVariables false
set_option linter.unusedSimpArgs false
set_option linter.unusedSectionVars false
namespace Go.Abs
open Go.RowKit

theorem applyU_get : ∀ (us : List (Nat × Ob)) (h : Heap), updOK h.length us = true → getO (applyU h us) = updS (getO h) us ∧ (applyU h us).length = h.length := by
  intro us
  induction us with
  | nil => intro h _; exact ⟨rfl, rfl⟩
  | cons p us ih =>
    obtain ⟨id, o⟩ := p
    intro h hu
    simp only [updOK, Bool.and_eq_true, Nat.blt_eq] at hu
    have h1 := ih (h.set id o) (by simpa using hu.2)
    refine ⟨?_, by simpa [applyU] using h1.2⟩
    simp only [applyU, updS]
    rw [h1.1]
    congr 1
    funext k
    simp only [getO, upd1, List.getD_eq_getElem?_getD, List.getElem?_set]
    by_cases e : id = k
    · subst e; simp [hu.1]
    · simp [e, Ne.symm e]
theorem append_get (h : Heap) (new : List Ob) : getO (h ++ new) = newS (getO h) h.length new := by
  funext k
  rw [newS_get]
  simp only [getO, List.getD_eq_getElem?_getD]
  by_cases e : h.length ≤ k ∧ k < h.length + new.length
  · rw [if_pos e, List.getElem?_append_right e.1]
  · rw [if_neg e]
    rcases Nat.lt_or_ge k h.length with h1 | h1
    · rw [List.getElem?_append_left h1]
    · rw [List.getElem?_append_right h1, List.getElem?_eq_none (by omega), List.getElem?_eq_none (by omega)]
theorem getO_fresh (h : Heap) (k : Nat) : getO h (h.length + k) = .unborn := by
  simp [getO]


theorem getO_range {look h : Nat → Ob} {n : Nat} (h1 : ∀ k, k < n → look k = h k) (h2 : ∀ k, n ≤ k → h k = .unborn) : getO ((List.range n).map look) = h := by
  funext k
  simp only [getO, List.getD_eq_getElem?_getD]
  rcases Nat.lt_or_ge k n with hk | hk
  · simp [hk, h1 k hk]
  · rw [List.getElem?_eq_none (by simpa using hk), h2 k hk]; rfl

theorem VRep.inv_yld {h : SH} {φ : Nat → Value} {A : Nat → Prop} {w : World} {id : Nat} {foot : List Nat} {v : Value} (p : VRep h φ A w (.yld id foot) v) : ∃ l tm, φ id = .func (.yield l) #[] tm ∧ v = .func (.yield l) #[] #[] := by
  cases p with
  | pure p => cases p
  | yld h1 h2 => exact ⟨_, _, h2, rfl⟩

section ops
variable {P : Program} {E : Env} {C : C0} {h : SH} {φ : Nat → Value} {w : World} {a : Act} {o : Oper} {rd : Operand → AV} {look : Nat → Ob}
variable (hr : Rel C h φ w) (hρ : ∀ x, VRep h φ (okB C h φ w) w (rd x) (a.eval x)) (hl : Sees look h)
include hr hρ hl

theorem sound_yield (hB : Base P E C) {c : Call} {g : Operand} (hop : o.op = .call c) (hc : c.callee = .value g) {id : Nat} {foot : List Nat} (hg : rd g = .yld id foot)
    {fresh : Nat} {ans : Option Ans} {eff : Eff} (he : yieldA P E look id (evalL rd c.args.toList) fresh ans = some eff) (hx : (∀ k, k < fresh → look k = h k) ∧ ∀ k, fresh ≤ k → h k = .unborn) (hob : All eff.obl) :
    OpOK P C h φ w a o (newS (updS h eff.upd) fresh eff.new) eff.val := by
  have hgv := hρ g
  rw [hg] at hgv
  obtain ⟨l, tm, hφ, hgv⟩ := hgv.inv_yld
  unfold yieldA at he
  split at he
  · rename_i _ _ ts f ps asg bdy st upd new e2
    split at he
    · rename_i hu
      simp at he; subst he
      have hH := getO_range hx.1 hx.2
      have hid : h id = .lp ts f ps asg bdy .ready := hl.get e2 (by simp)
      obtain ⟨q1, q2⟩ := hob.1 ts f ps asg bdy (by rw [hH]; exact hid)
      rw [hH] at q2
      have ho := hr.obj id
      rw [hid] at ho
      obtain ⟨b, tm', d, g1, g2, g3, g4⟩ := ho
      rw [hφ] at g1
      injection g1 with g1 _ g1'
      injection g1 with g1
      subst g1 g1'
      have hargs : VRepL h φ (okB C h φ w) w (evalL rd c.args.toList) (c.args.toList.map a.eval) := evalL_rep hρ c.args.toList
      have hsz : (c.args.toList.map a.eval).length = ps.length := by rw [q1, hargs.length]
      intro F n next Q hF hn
      have hrun : (execOp a.eval o).run P w = .ok (.round l f ((ps.toArray.zip (c.args.toList.map a.eval).toArray).foldl (fun t (p, x) => t.setIfInBounds p x) tm) asg bdy) w := by
        have hy := run_yield (P := P) (args := (c.args.toList.map a.eval).toArray) g3 (by simp [LSt.loop]; simpa using hsz)
        have hm : c.args.map a.eval = (c.args.toList.map a.eval).toArray := by apply Array.ext'; simp
        simp only [execOp, hop, resolve, hc, Deferred.ofValue, hgv, Sem.run_bind, Sem.run_pure, Result.andThen_ok, invoke, Array.empty_append, hm]
        simpa [LSt.loop] using hy
      rw [hrun]
      have hfen : ∀ (m : Machine), m.fenced P (F.inRound l) := fun m => Wide.fenced (F := F.inRound l) ⟨hF.fn, hF.depth, hF.alive⟩ P m
      have hround := q2 C hB φ w hr l tm hφ _ hargs F (n - 1) (hF.fn f) hfen
      refine ⟨fun hd => (by rw [hF.depth] at hd; cases hd), hround.mono ?_⟩
      rintro e w' ⟨rfl, φ', t1, t2, t3⟩
      have hH2 : getO (applyU ((List.range fresh).map look) upd ++ new) = newS (updS h upd) fresh new := by
        obtain ⟨m1, m2⟩ := applyU_get upd ((List.range fresh).map look) (by simpa using hu)
        rw [append_get, m1, m2, hH]
        simp
      rw [hH2] at t1 t2 t3
      exact hn _ φ' w' t1 t2 t3 (.pure (.bool _))
    · cases he
  · cases he
end ops
end Go.Abs
/- Slices without room behind them. -/
set_option linter.unusedVariables false
set_option linter.unusedSimpArgs false
set_option linter.unusedSectionVars false
namespace Go.Abs
open Go.RowKit

section ops
variable {P : Program} {E : Env} {C : C0} {h : SH} {φ : Nat → Value} {w : World} {a : Act} {o : Oper} {rd : Operand → AV} {look : Nat → Ob}
variable (hr : Rel C h φ w) (hρ : ∀ x, VRep h φ (okB C h φ w) w (rd x) (a.eval x)) (hl : Sees look h)
include hr hρ hl

theorem sound_buildTight {T : TypeId} {len : Nat} {parts : Array (Nat × Operand)} (hop : o.op = .buildSlice T len parts) {fresh : Nat} (hf : h fresh = .unborn) {eff : Eff}
    (he : buildTightA P look T len (evals rd parts.toList) fresh = some eff) : OpOK P C h φ w a o (newS (updS h eff.upd) fresh eff.new) eff.val := by
  unfold buildTightA at he
  split at he
  · rename_i val0 upd T0 s0 xs0 obl0 e0
    simp at he; subst he
    obtain ⟨e, s, xs, vs', k0, k1, k2, r1, r2, r3, hf1, hrun, hown, q3, q1, q2, c2, hone⟩ := build_core hr hρ hl hop hf e0
    simp only [List.cons.injEq, Ob.row.injEq, and_true] at k1
    obtain ⟨rfl, rfl, rfl⟩ := k1
    simp only [newS] at *
    generalize updS h upd = g1 at r1 r2 r3 hf1 q1
    have hrep : ∀ (hK : KeepB (okB C g1 φ w) (okB C (upd1 g1 fresh (.fro xs0)) (upd1v φ fresh (.slice (some ⟨w.heap.size, 0, none⟩) len len)) (w.alloc (.cells vs'.toArray T0))) w (w.alloc (.cells vs'.toArray T0))),
        Rep (okB C (upd1 g1 fresh (.fro xs0)) (upd1v φ fresh (.slice (some ⟨w.heap.size, 0, none⟩) len len)) (w.alloc (.cells vs'.toArray T0))) (w.alloc (.cells vs'.toArray T0)) (.sl .p xs0) (.slice (some ⟨w.heap.size, 0, none⟩) len len) := fun hK =>
      rep_of_owns (by rw [q3]; exact hown) (q1.mono hK) q2 hone (fun b hb => by
        simp [blk] at hb; subst hb
        refine ⟨by simp, .inr r1.below.size, fun k hk he => ?_⟩
        by_cases ek : k = fresh
        · subst ek; simp [upd1, Ob.live] at hk
        · have hk1 : (g1 k).live = true := by simpa [upd1, ek] using hk
          have he1 : blk (φ k) = some w.heap.size := by simpa [upd1v, ek] using he
          have := ((r1.obj k).block hk1 he1).1
          omega)
    obtain ⟨t1, t2⟩ := r1.alloc hf1 (o := .fro xs0) (v := .slice (some ⟨w.heap.size, 0, none⟩) len len) (x := .cells vs'.toArray T0) (by simp) (by simp [blk]) (fun hK => hrep hK)
    have kh : KeepH g1 (upd1 g1 fresh (.fro xs0)) φ (upd1v φ fresh (.slice (some ⟨w.heap.size, 0, none⟩) len len)) := .new hf1 _ (by simp) _
    intro F q next Q hF hn
    rw [hrun]
    exact hn _ _ _ t1 (r2.trans t2) (r3.trans kh) (.pure (.tight q3.symm (hrep t2)))
  · cases he

theorem sound_slice0 {T : TypeId} {x g m : Operand} (hop : o.op = .slice T x none (some g) (some m)) {eff : Eff} {fresh : Nat} (he : slice0A P look T (rd x) (rd g) (rd m) = some eff) :
    OpOK P C h φ w a o (newS (updS h eff.upd) fresh eff.new) eff.val := by
  have hx := hρ x
  have hg := hρ g
  have hm := hρ m
  unfold slice0A at he
  split at he
  · rename_i e gn mn hT eg em
    have hu : P.underlying T = some (.slice e) := by unfold elemA at hT; split at hT <;> simp_all
    rw [eg] at hg
    rw [em] at hm
    have vg := hg.inv_int
    have vm := hm.inv_int
    split at he
    · rename_i n hs
      split at he
      · rename_i hz
        obtain ⟨rfl, rfl⟩ := hz
        have fin : ∀ (ad : Option Addr) (len cap : Nat), a.eval x = .slice ad len cap → OpOK P C h φ w a o h (.sl .t []) := by
          intro ad len cap hv
          have hrun : (execOp a.eval o).run P w = .ok (.value (.slice ad 0 0)) w := by
            simp [execOp, hop, Instr.sliceAt, run_underlying hu, Instr.slice, hv, vg, vm, Instr.sliceBounds, Instr.sliceBound, asIntOf, run_sizeOf hs]
          refine .same hr hrun (.pure ?_)
          cases ad with
          | none => exact .nil .t
          | some q => exact .tight rfl (.sl0 (Nat.zero_le _))
        split at he
        · rename_i fl xs e1
          rw [e1] at hx
          simp [effV] at he; subst he
          obtain ⟨ad, cap, e2, _⟩ := hx.inv_sl
          exact fin _ _ _ e2
        · rename_i id e1
          rw [e1] at hx
          split at he
          · rename_i xs e2
            have hid := hl.get e2 (by simp)
            simp [effV] at he; subst he
            have hv := hx.inv_own.2 (by simp [hid])
            have ho := hr.obj id
            rw [hid] at ho
            obtain ⟨ad, cap, e3, _⟩ := VRep.inv_sl (h := h) (φ := φ) (.pure ho)
            exact fin _ _ _ (hv.trans e3)
          · cases he
        · cases he
      · cases he
    · cases he
  · cases he
end ops
end Go.Abs
