/- Lists in order. -/
import Derived.Test.YteocckoglkbonaaDoorL1
set_option linter.unusedVariables false
namespace Go.Abs
open Go.Proofs

/-- In order, all of them such as may be. -/
structure Srt (l : List T_Message) : Prop where
  right : ∀ m ∈ l, msgRight m = true
  ord : l.Pairwise Lt

theorem srt_of_QP {l : List T_Message} (h : ∀ (j : Nat) (y : T_Message), l[j]? = some y → msgRight y = true ∧ (0 < j → ∀ x, l[j - 1]? = some x → msgLess x y = true)) : Srt l := by
  induction l with
  | nil => exact ⟨by simp, .nil⟩
  | cons a l ih =>
    have hr : ∀ m ∈ a :: l, msgRight m = true := by
      intro m hm
      obtain ⟨j, hj⟩ := List.getElem?_of_mem hm
      exact (h j m hj).1
    have h2 := ih (fun j y hy => ⟨(h (j + 1) y (by simpa using hy)).1, fun hj x hx => (h (j + 1) y (by simpa using hy)).2 (by omega) x (by rw [show j + 1 - 1 = (j - 1) + 1 by omega]; simpa using hx)⟩)
    refine ⟨hr, List.pairwise_cons.2 ⟨fun b hb => ?_, h2.ord⟩⟩
    cases l with
    | nil => simp at hb
    | cons c l =>
      have h3 : Lt a c := (msgLess_iff (hr a (by simp)) (hr c (by simp))).1 ((h 1 c (by simp)).2 (by omega) a (by simp))
      rcases List.mem_cons.1 hb with rfl | hb
      · exact h3
      · exact h3.trans ((List.pairwise_cons.1 h2.ord).1 b hb)
theorem Srt.QP {l : List T_Message} (h : Srt l) : ∀ (j : Nat) (y : T_Message), l[j]? = some y → msgRight y = true ∧ (0 < j → ∀ x, l[j - 1]? = some x → msgLess x y = true) := by
  intro j y hy
  refine ⟨h.right y (List.mem_of_getElem? hy), fun hj x hx => ?_⟩
  refine (msgLess_iff (h.right x (List.mem_of_getElem? hx)) (h.right y (List.mem_of_getElem? hy))).2 ?_
  obtain ⟨h1, rfl⟩ := List.getElem?_eq_some_iff.1 hy
  obtain ⟨h2, rfl⟩ := List.getElem?_eq_some_iff.1 hx
  exact List.pairwise_iff_getElem.1 h.ord (j - 1) j h2 h1 (by omega)

/-- In order, and the same things: the same. -/
theorem srt_unique : ∀ {l l' : List T_Message}, l.Pairwise Lt → l'.Pairwise Lt → l.Perm l' → l = l'
  | [], l', _, _, p => by have := p.length_eq; cases l' with | nil => rfl | cons a b => simp at this
  | a :: l, [], _, _, p => by have := p.length_eq; simp at this
  | a :: l, b :: l', h, h', p => by
    obtain ⟨h1, h2⟩ := List.pairwise_cons.1 h
    obtain ⟨h1', h2'⟩ := List.pairwise_cons.1 h'
    have e : a = b := by
      have ha : a ∈ b :: l' := p.subset (by simp)
      have hb : b ∈ a :: l := p.symm.subset (by simp)
      rcases List.mem_cons.1 ha with e | ha
      · exact e
      · rcases List.mem_cons.1 hb with e | hb
        · exact e.symm
        · exact absurd (h1 b hb) (Lt.asymm (h1' a ha))
    subst e
    rw [srt_unique h2 h2' (List.Perm.cons_inv p)]

theorem idxS_split {α : Type} (p : α → Bool) : ∀ (l : List α), (idxS p l < 0 ∧ ∀ x ∈ l, p x = false) ∨ ∃ (a : List α) (x : α) (b : List α), l = a ++ x :: b ∧ idxS p l = a.length ∧ p x = true ∧ ∀ y ∈ a, p y = false
  | [] => .inl ⟨by rw [idxS_nil]; omega, by simp⟩
  | x :: l => by
    cases hx : p x with
    | true => exact .inr ⟨[], x, l, rfl, by simp [idxS, List.findIdx?_cons, hx], hx, by simp⟩
    | false =>
      rcases idxS_split p l with ⟨h1, h2⟩ | ⟨a, y, b, rfl, h2, h3, h4⟩
      · refine .inl ⟨?_, fun y hy => ?_⟩
        · unfold idxS at *
          rw [List.findIdx?_cons, hx]
          cases hf : l.findIdx? p with
          | none => simp
          | some i => rw [hf] at h1; simp at h1; omega
        · rcases List.mem_cons.1 hy with rfl | hy
          · exact hx
          · exact h2 y hy
      · refine .inr ⟨x :: a, y, b, rfl, ?_, h3, fun z hz => ?_⟩
        · unfold idxS at *
          rw [List.findIdx?_cons, hx]
          cases hf : (a ++ y :: b).findIdx? p with
          | none => rw [hf] at h2; simp at h2; try omega
          | some i => rw [hf] at h2; simp at h2 ⊢; omega
        · rcases List.mem_cons.1 hz with rfl | hz
          · exact hx
          · exact h4 z hz

theorem insAt_split (a b : List T_Message) (m : T_Message) : insAt (a ++ b) (a.length : Int) m = a ++ m :: b := by simp [insAt]

/-- Where a message is put. -/
theorem putIn_split {l : List T_Message} {m : T_Message} (h : Srt l) (hm : msgRight m = true) (hn : ∀ x ∈ l, x.Number ≠ m.Number) :
    ∃ a b, l = a ++ b ∧ putIn l m = a ++ m :: b ∧ (∀ x ∈ a, Lt x m) ∧ ∀ x ∈ b, Lt m x := by
  have hlt : ∀ x ∈ l, msgLess m x = false → Lt x m := by
    intro x hx hf
    rcases Lt.total (hn x hx) with h1 | h1
    · exact h1
    · rw [(msgLess_iff hm (h.right x hx)).2 h1] at hf; cases hf
  rcases idxS_split (fun x => msgLess m x) l with ⟨h1, h2⟩ | ⟨a, x, b, e, h2, h3, h4⟩
  · refine ⟨l, [], by simp, ?_, fun x hx => hlt x hx (h2 x hx), by simp⟩
    unfold putIn
    rw [if_pos h1]
    have := insAt_split l [] m
    simpa using this
  · refine ⟨a, x :: b, e, ?_, fun y hy => hlt y (by rw [e]; simp [hy]) (h4 y hy), fun y hy => ?_⟩
    · unfold putIn
      rw [if_neg (by omega), h2]
      subst e
      exact insAt_split a (x :: b) m
    · have hx : Lt m x := (msgLess_iff hm (h.right x (by rw [e]; simp))).1 h3
      rcases List.mem_cons.1 hy with rfl | hy
      · exact hx
      · refine hx.trans ?_
        have ho := h.ord
        rw [e] at ho
        exact (List.pairwise_cons.1 (List.pairwise_append.1 ho).2.1).1 y hy
theorem putIn_perm {l : List T_Message} {m : T_Message} (h : Srt l) (hm : msgRight m = true) (hn : ∀ x ∈ l, x.Number ≠ m.Number) : (putIn l m).Perm (m :: l) := by
  obtain ⟨a, b, rfl, e, _, _⟩ := putIn_split h hm hn
  rw [e]; exact List.perm_middle
theorem putIn_srt {l : List T_Message} {m : T_Message} (h : Srt l) (hm : msgRight m = true) (hn : ∀ x ∈ l, x.Number ≠ m.Number) : Srt (putIn l m) := by
  obtain ⟨a, b, rfl, e, h1, h2⟩ := putIn_split h hm hn
  rw [e]
  refine ⟨fun x hx => ?_, ?_⟩
  · rcases List.mem_append.1 hx with hx | hx
    · exact h.right x (by simp [hx])
    · rcases List.mem_cons.1 hx with rfl | hx
      · exact hm
      · exact h.right x (by simp [hx])
  · obtain ⟨o1, o2, o3⟩ := List.pairwise_append.1 h.ord
    refine List.pairwise_append.2 ⟨o1, List.pairwise_cons.2 ⟨h2, o2⟩, fun x hx y hy => ?_⟩
    rcases List.mem_cons.1 hy with rfl | hy
    · exact h1 x hx
    · exact o3 x hx y hy

theorem memI_iff (n : Int) : ∀ l : List Int, memI n l = true ↔ n ∈ l
  | [] => by simp [memI]
  | k :: l => by
    simp only [memI, Bool.or_eq_true, beq_iff_eq, memI_iff n l, List.mem_cons]
    constructor
    · rintro (h | h)
      · exact .inl h.symm
      · exact .inr h
    · rintro (h | h)
      · exact .inl h.symm
      · exact .inr h
theorem mem_addK (n k : Int) (l : List Int) : k ∈ addK n l ↔ k = n ∨ k ∈ l := by
  unfold addK
  split
  · rename_i h
    have := (memI_iff n l).1 h
    constructor
    · exact .inr
    · rintro (rfl | h)
      · exact this
      · exact h
  · simp [or_comm]
theorem nums_full : ∀ (l : List T_Message) (ks : List Int), (l.map (·.Number)).Nodup → (∀ x ∈ l, x.Number ∉ ks) → (l.foldl (fun ks m => addK m.Number ks) ks).length = ks.length + l.length
  | [], ks, _, _ => by simp
  | m :: l, ks, h, hk => by
    simp only [List.map_cons, List.nodup_cons, List.mem_map, not_exists, not_and] at h
    have hm : memI m.Number ks = false := by
      cases hb : memI m.Number ks with
      | false => rfl
      | true => exact absurd ((memI_iff _ _).1 hb) (hk m (by simp))
    have ha : (addK m.Number ks).length = ks.length + 1 := by simp [addK, hm]
    rw [List.foldl_cons, nums_full l _ h.2 (fun x hx hxk => ?_), ha, List.length_cons]
    · omega
    · rcases (mem_addK _ _ _).1 hxk with e | hxk
      · exact h.1 x hx e
      · exact hk x (by simp [hx]) hxk

/-- A queue of messages in order, of different numbers, not too many. -/
theorem QR_of {q : T_Queue} (hl : 1 ≤ q.Limit ∧ q.Limit ≤ 32) (hn : (q.Msgs.length : Int) ≤ q.Limit) (hs : Srt q.Msgs) (hd : (q.Msgs.map (·.Number)).Nodup) : QR q :=
  ⟨hl, hn, hs.QP, by have := nums_full q.Msgs [] hd (by simp); simpa [nums] using this⟩
theorem idxS_none' {n : Int} {l : List T_Message} (h : ∀ x ∈ l, x.Number ≠ n) : idxS (fun x => decide (x.Number = n)) l = -1 :=
  idxS_none fun j y hy => by simpa using h y (List.mem_of_getElem? hy)
theorem putIn_length {l : List T_Message} {m : T_Message} (h : Srt l) (hm : msgRight m = true) (hn : ∀ x ∈ l, x.Number ≠ m.Number) : (putIn l m).length = l.length + 1 := by
  have := (putIn_perm h hm hn).length_eq; simpa using this
/-- What is put is found, and taken out again. -/
theorem abort_put {l : List T_Message} {m : T_Message} (h : Srt l) (hm : msgRight m = true) (hn : ∀ x ∈ l, x.Number ≠ m.Number) :
    ¬ idxS (fun x => decide (x.Number = m.Number)) (putIn l m) < 0 ∧ (putIn l m)[(idxS (fun x => decide (x.Number = m.Number)) (putIn l m)).toNat]? = some m ∧
    delAt (putIn l m) (idxS (fun x => decide (x.Number = m.Number)) (putIn l m)) (idxS (fun x => decide (x.Number = m.Number)) (putIn l m) + 1) = l := by
  obtain ⟨a, b, rfl, e, _, _⟩ := putIn_split h hm hn
  have ei : idxS (fun x => decide (x.Number = m.Number)) (putIn (a ++ b) m) = a.length := by
    rw [e]
    refine idxS_some (i := a.length) (by simp) (by simp) (fun j hj y hy => ?_)
    rw [List.getElem?_append_left hj] at hy
    simpa using hn y (by simp [List.mem_of_getElem? hy])
  rw [ei, e]
  refine ⟨by omega, by simp, ?_⟩
  unfold delAt
  have e1 : (a ++ m :: b).take (a.length : Int).toNat = a := by simp
  have e2 : (a ++ m :: b).drop ((a.length : Int) + 1).toNat = b := by
    rw [show ((a.length : Int) + 1).toNat = a.length + 1 by omega, List.drop_append]
    simp
  rw [e1, e2]
end Go.Abs
