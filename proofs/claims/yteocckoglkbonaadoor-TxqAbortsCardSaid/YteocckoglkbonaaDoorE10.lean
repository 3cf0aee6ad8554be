/- What is let be: rows and variables that are not written again; function values; calls' arguments. -/
import Derived.Test.YteocckoglkbonaaDoorE9
set_option linter.unusedVariables false
set_option linter.unusedSimpArgs false
set_option linter.unusedSectionVars false
namespace Go.Abs
open Go.RowKit

section view
variable {h : SH} {φ : Nat → Value} {A A' : Nat → Prop} {w : World} {look : Nat → Ob}

/-- What is asked of the own objects that a value refers to. -/
structure ViewOK (look : Nat → Ob) (h : SH) (φ : Nat → Value) (A A' : Nat → Prop) (w : World) (ids : List Nat) : Prop where
  sub : ∀ b, A b → A' b
  row : ∀ id ∈ ids, ∀ xs, ((∃ T s, look id = .row T s xs) ∨ look id = .fro xs) → h id ≠ .dead ∧ Rep A' w (.sl .p xs) (φ id)
  box : ∀ id ∈ ids, ∀ cs, look id = .fbox cs → ∃ b, φ id = .pointer (some ⟨b, 0, none⟩) ∧ A' b ∧ RepAt A' w cs b 0

theorem ViewOK.mono {ids ids' : List Nat} (k : ViewOK look h φ A A' w ids) (hs : ∀ id ∈ ids', id ∈ ids) : ViewOK look h φ A A' w ids' :=
  ⟨k.sub, fun id hi => k.row id (hs id hi), fun id hi => k.box id (hs id hi)⟩

theorem Rep.plain {fl : Fl} {xs : List AV} {v : Value} (p : Rep A w (.sl fl xs) v) : Rep A w (.sl .p xs) v := by
  cases p with
  | nil fl => exact .nil .p
  | sl0 hc => exact .sl0 hc
  | sl a1 a2 a3 a4 a5 => exact .sl a1 a2 a3 a4 a5

mutual
theorem view_rep : ∀ {x y v}, x.view look = some y → ViewOK look h φ A A' w x.refs → VRep h φ A w x v → Rep A' w y v
  | .own id, y, v, he, k, p => by
    have hv := p.inv_own
    simp only [AV.view] at he
    split at he
    · rename_i T s xs e
      simp at he; subst he
      obtain ⟨h1, h2⟩ := k.row id (by simp [AV.refs]) xs (.inl ⟨_, _, e⟩)
      rw [hv.2 h1]; exact h2
    · rename_i xs e
      simp at he; subst he
      obtain ⟨h1, h2⟩ := k.row id (by simp [AV.refs]) xs (.inr e)
      rw [hv.2 h1]; exact h2
    · cases he
  | .agg cs, y, v, he, k, p => by
    obtain ⟨vs, rfl, hv⟩ := p.inv_agg
    simp only [AV.view] at he
    split at he
    · rename_i l e
      simp at he; subst he
      exact .agg (view_repL e (k.mono (by simp [AV.refs])) hv)
    · cases he
  | .tup cs, y, v, he, k, p => by
    obtain ⟨vs, rfl, hv⟩ := p.inv_tup
    simp only [AV.view] at he
    split at he
    · rename_i l e
      simp at he; subst he
      exact .tup (view_repL e (k.mono (by simp [AV.refs])) hv)
    · cases he
  | .sl fl xs, y, v, he, k, p => by
    simp only [AV.view] at he
    simp at he; subst he
    have p := p.plain
    cases p with | pure p => exact p.mono fun b hb => ⟨k.sub b hb, rfl⟩
  | .ptr id off, y, v, he, k, p => by
    obtain ⟨b, hb, rfl, hu⟩ := p.inv_ptr
    simp only [AV.view] at he
    split at he
    · rename_i cs e
      simp at he; subst he
      obtain ⟨b', h1, h2, h3⟩ := k.box id (by simp [AV.refs]) cs e
      rw [hb] at h1
      injection h1 with h1; injection h1 with h1; injection h1 with h1
      subst h1
      simpa using Rep.pin (off := off) h2 h3
    · cases he
  | .ptrE _ _ _, y, v, he, k, p => by simp [AV.view] at he
  | .junk, y, v, he, k, p => by simp [AV.view] at he
  | .bool b, y, v, he, k, p => by simp [AV.view] at he; subst he; rw [p.inv_bool]; exact .bool b
  | .int q n, y, v, he, k, p => by simp [AV.view] at he; subst he; rw [p.inv_int]; exact .int q n
  | .str s, y, v, he, k, p => by simp [AV.view] at he; subst he; rw [p.inv_str]; exact .str s
  | .fn f cap, y, v, he, k, p => by
    simp [AV.view] at he; subst he
    cases p with | pure p => exact p.mono fun b hb => ⟨k.sub b hb, rfl⟩
  | .pin cs off, y, v, he, k, p => by
    simp [AV.view] at he; subst he
    cases p with | pure p => exact p.mono fun b hb => ⟨k.sub b hb, rfl⟩
  | .nilp, y, v, he, k, p => by
    simp [AV.view] at he; subst he
    cases p with | pure p => exact p.mono fun b hb => ⟨k.sub b hb, rfl⟩
theorem view_repL : ∀ {xs ys vs}, AV.viewL look xs = some ys → ViewOK look h φ A A' w (AV.refsL xs) → VRepL h φ A w xs vs → RepL A' w ys vs
  | [], ys, vs, he, k, p => by simp [AV.viewL] at he; subst he; cases p; exact .nil
  | x :: xs, ys, vs, he, k, p => by
    simp only [AV.viewL] at he
    split at he
    · rename_i y e1
      split at he
      · rename_i l e2
        simp at he; subst he
        cases p with
        | cons p1 p2 => exact .cons (view_rep e1 (k.mono (by simp [AV.refsL]; intro id hi; exact .inl hi)) p1) (view_repL e2 (k.mono (by simp [AV.refsL]; intro id hi; exact .inr hi)) p2)
      · cases he
    · cases he
end
mutual
theorem viewK_rep : ∀ {x y v}, x.viewK look = some y → ViewOK look h φ A A' w x.refs → VRep h φ A w x v → Rep A' w y v
  | .sl fl xs, y, v, he, k, p => by
    simp only [AV.viewK] at he
    simp at he; subst he
    cases p with | pure p => exact p.mono fun b hb => ⟨k.sub b hb, rfl⟩
  | .agg cs, y, v, he, k, p => by
    obtain ⟨vs, rfl, hv⟩ := p.inv_agg
    simp only [AV.viewK] at he
    split at he
    · rename_i l e
      simp at he; subst he
      exact .agg (viewK_repL e (k.mono (by simp [AV.refs])) hv)
    · cases he
  | .own id, y, v, he, k, p => by simp only [AV.viewK] at he; exact view_rep he k p
  | .tup cs, y, v, he, k, p => by simp only [AV.viewK] at he; exact view_rep he k p
  | .ptr id off, y, v, he, k, p => by simp only [AV.viewK] at he; exact view_rep he k p
  | .ptrE id i off, y, v, he, k, p => by simp only [AV.viewK] at he; exact view_rep he k p
  | .junk, y, v, he, k, p => by simp [AV.viewK] at he
  | .bool b, y, v, he, k, p => by simp only [AV.viewK] at he; exact view_rep (by simp only [AV.view]; exact he) k p
  | .int q n, y, v, he, k, p => by simp only [AV.viewK] at he; exact view_rep (by simp only [AV.view]; exact he) k p
  | .str s, y, v, he, k, p => by simp only [AV.viewK] at he; exact view_rep (by simp only [AV.view]; exact he) k p
  | .fn f cap, y, v, he, k, p => by simp only [AV.viewK] at he; exact view_rep (by simp only [AV.view]; exact he) k p
  | .pin cs off, y, v, he, k, p => by simp only [AV.viewK] at he; exact view_rep (by simp only [AV.view]; exact he) k p
  | .nilp, y, v, he, k, p => by simp only [AV.viewK] at he; exact view_rep (by simp only [AV.view]; exact he) k p
theorem viewK_repL : ∀ {xs ys vs}, AV.viewKL look xs = some ys → ViewOK look h φ A A' w (AV.refsL xs) → VRepL h φ A w xs vs → RepL A' w ys vs
  | [], ys, vs, he, k, p => by simp [AV.viewKL] at he; subst he; cases p; exact .nil
  | x :: xs, ys, vs, he, k, p => by
    simp only [AV.viewKL] at he
    split at he
    · rename_i y e1
      split at he
      · rename_i l e2
        simp at he; subst he
        cases p with
        | cons p1 p2 => exact .cons (viewK_rep e1 (k.mono (by simp [AV.refsL]; intro id hi; exact .inl hi)) p1) (viewK_repL e2 (k.mono (by simp [AV.refsL]; intro id hi; exact .inr hi)) p2)
      · cases he
    · cases he
end
end view

/-- What an own object is when it is not written again. -/
def frzOf (look : Nat → Ob) (id : Nat) : Option Ob :=
  match look id with
  | .row _ _ xs => some (.fro xs)
  | .box _ cs => if AV.refsL cs = [] then (match AV.viewL look cs with | some cs' => some (.fbox cs') | none => none) else none
  | _ => none

section frz
variable {C : C0} {φ : Nat → Value} {w : World} {look : Nat → Ob}

/-- Each object that is seen is as it was, or is not written again. -/
def FrzInv (look : Nat → Ob) (h : SH) : Prop := ∀ id, look id ≠ .unborn → h id = look id ∨ frzOf look id = some (h id)

theorem upd1_self (h : SH) (id : Nat) : upd1 h id (h id) = h := by funext k; simp [upd1]; intro e; rw [e]

theorem Rel.frz1 {h : SH} (hr : Rel C h φ w) (hi : FrzInv look h) {id : Nat} {o : Ob} (ho : frzOf look id = some o) :
    Rel C (upd1 h id o) φ w ∧ KeepB (okB C h φ w) (okB C (upd1 h id o) φ w) w w ∧ KeepH h (upd1 h id o) φ φ ∧ FrzInv look (upd1 h id o) := by
  have hu : look id ≠ .unborn := by intro e; simp [frzOf, e] at ho
  have hinv : FrzInv look (upd1 h id o) := by
    intro k hk
    by_cases e : k = id
    · subst e; right; simpa [upd1] using ho
    · have := hi k hk; simpa [upd1, e] using this
  rcases hi id hu with h1 | h1
  · cases hL : look id with
    | row T s xs =>
      simp [frzOf, hL] at ho; subst ho
      obtain ⟨a1, a2, a3⟩ := hr.freezeRow (h1.trans hL)
      exact ⟨a1, a2, a3, hinv⟩
    | box T cs =>
      simp only [frzOf, hL] at ho
      split at ho
      · rename_i hrefs
        split at ho
        · rename_i cs' hv
          simp at ho; subst ho
          obtain ⟨a1, a2, a3⟩ := hr.freezeBox (cs' := cs') (h1.trans hL) (fun vs hvs => view_repL hv ⟨fun _ hb => hb, by rw [hrefs]; simp, by rw [hrefs]; simp⟩ hvs)
          exact ⟨a1, a2, a3, hinv⟩
        · cases ho
      · cases ho
    | _ => simp [frzOf, hL] at ho
  · rw [ho] at h1
    have e : o = h id := by simpa using h1
    subst e
    rw [upd1_self] at hinv ⊢
    exact ⟨hr, keepB_refl _ _, .refl _ _, hinv⟩

theorem KeepB.trans {A A' A'' : Nat → Prop} {w w' w'' : World} (k : KeepB A A' w w') (k' : KeepB A' A'' w' w'') : KeepB A A'' w w'' :=
  fun b hb => ⟨(k' b (k b hb).1).1, (k' b (k b hb).1).2.trans (k b hb).2⟩

theorem Rel.frz : ∀ (us : List (Nat × Ob)) {h : SH}, (∀ p ∈ us, frzOf look p.1 = some p.2) → Rel C h φ w → FrzInv look h →
    Rel C (updS h us) φ w ∧ KeepB (okB C h φ w) (okB C (updS h us) φ w) w w ∧ KeepH h (updS h us) φ φ ∧ FrzInv look (updS h us) ∧ (∀ p ∈ us, updS h us p.1 = p.2) ∧ (∀ id, (∀ p ∈ us, p.1 ≠ id) → updS h us id = h id)
  | [], h, _, hr, hi => ⟨hr, keepB_refl _ _, .refl _ _, hi, fun p hp => (by simp at hp), fun _ _ => rfl⟩
  | (id, o) :: us, h, hus, hr, hi => by
    have ho := hus (id, o) (by simp)
    obtain ⟨a1, a2, a3, a4⟩ := hr.frz1 hi ho
    obtain ⟨b1, b2, b3, b4, b5, b6⟩ := Rel.frz us (fun p hp => hus p (by simp [hp])) a1 a4
    refine ⟨b1, a2.trans b2, a3.trans b3, b4, fun p hp => ?_, fun k hk => ?_⟩
    · rcases List.mem_cons.1 hp with rfl | hp
      · by_cases e : ∃ q ∈ us, q.1 = id
        · obtain ⟨q, hq, rfl⟩ := e
          have h1 := b5 q hq
          have h2 := hus q (by simp [hq])
          rw [ho] at h2
          simp at h2
          exact h1.trans h2.symm
        · rw [updS, b6 id (fun q hq he => e ⟨q, hq, he⟩)]
          simp [upd1]
      · exact b5 p hp
    · rw [updS, b6 k (fun p hp => hk p (by simp [hp]))]
      have := hk (id, o) (by simp)
      simp [upd1]
      intro e; exact absurd e.symm this

theorem freeze_ok (ids : List Nat) : ∀ p ∈ freeze look ids, frzOf look p.1 = some p.2 := by
  induction ids with
  | nil => intro p hp; simp [freeze] at hp
  | cons id ids ih =>
    intro p hp
    unfold freeze at hp
    split at hp
    · rename_i T s xs e
      rcases List.mem_cons.1 hp with rfl | hp
      · simp [frzOf, e]
      · exact ih p hp
    · exact ih p hp
theorem freeze_mem {ids : List Nat} {id : Nat} {T : TypeId} {s : Nat} {xs : List AV} (hi : id ∈ ids) (he : look id = .row T s xs) : (id, .fro xs) ∈ freeze look ids := by
  induction ids with
  | nil => simp at hi
  | cons k ids ih =>
    unfold freeze
    rcases List.mem_cons.1 hi with rfl | hi
    · simp [he]
    · split
      · exact List.mem_cons_of_mem _ (ih hi)
      · exact ih hi
theorem freeze_row {ids : List Nat} {p : Nat × Ob} (hp : p ∈ freeze look ids) : p.1 ∈ ids ∧ ∃ T s xs, look p.1 = .row T s xs := by
  induction ids with
  | nil => simp [freeze] at hp
  | cons k ids ih =>
    unfold freeze at hp
    split at hp
    · rename_i T s xs e
      rcases List.mem_cons.1 hp with rfl | hp
      · exact ⟨by simp, _, _, _, e⟩
      · exact ⟨List.mem_cons_of_mem _ (ih hp).1, (ih hp).2⟩
    · exact ⟨List.mem_cons_of_mem _ (ih hp).1, (ih hp).2⟩
end frz

end Go.Abs
