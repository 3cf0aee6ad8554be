/- What the reference's queue computes: plain. -/
import Derived.Test.YteocckoglkbonaaDoorL2
import Derived.Test.YteocckoglkbonaaDoorS5
set_option linter.unusedVariables false
set_option linter.unusedSimpArgs false
set_option maxRecDepth 100000
namespace Go.Abs
open Go.Proofs

def less4 (a b : T_Message) : Bool := if (Msg.id a).beq (Msg.id b) = true then (if a.Sender = b.Sender then decide (a.Number < b.Number) else decide (a.Sender < b.Sender)) else idLess (Msg.id a) (Msg.id b)
def pos4 (m : T_Message) (out : List T_Message) : Nat → Nat
  | 0 => 0
  | n + 1 => match out[n]? with
    | some y => if less4 m y = true then pos4 m out n else n + 1
    | none => n + 1
def ins4 (out : List T_Message) (m : T_Message) : List T_Message := out.take (pos4 m out out.length) ++ m :: out.drop (pos4 m out out.length)
def sortStep (out : List T_Message) (m : T_Message) : List T_Message := if idRight (Msg.id m) = true then ins4 out m else out
def sort4 (l : List T_Message) : List T_Message := l.foldl sortStep []
def QR13 (q : T_Queue) : Prop := (1 ≤ q.Limit ∧ q.Limit ≤ 32) ∧ (q.Msgs.length : Int) ≤ q.Limit ∧
  ∀ (j : Nat) (y : T_Message), q.Msgs[j]? = some y → msgRight y = true ∧ (0 < j → ∀ x, q.Msgs[j - 1]? = some x → less4 x y = true) ∧ ∀ k x, k < j → q.Msgs[k]? = some x → x.Number ≠ y.Number
def at13 (q : T_Queue) (n : Int) : Int := idxS (fun x => decide (x.Number = n)) q.Msgs
noncomputable def putR (q : T_Queue) (m : T_Message) : T_Queue × Int :=
  if @decide (QR13 q) (Classical.propDecidable _) = true then
    (if msgRight m = true then
      (if at13 q m.Number ≥ 0 then (q, 42) else if (q.Msgs.length : Int) ≥ q.Limit then (q, 40) else (T_Queue.mk q.Limit (sort4 (q.Msgs ++ [m])), 0))
    else (q, 1))
  else (q, 1)
noncomputable def queueStep (raw : List T_a6_int) (q : T_Queue) (i : Nat) : T_Queue := match raw[i]? with | some y => (putR q (numberedS y ((i : Int) + 1))).1 | none => q
noncomputable def queueN (a : Int) (raw : List T_a6_int) (n : Nat) : T_Queue := (List.range n).foldl (queueStep raw) (T_Queue.mk (newQ (1 + pickS a 32)).1 [])
noncomputable def queueS (a : Int) (raw : List T_a6_int) : T_Queue := queueN a raw (min raw.length 12)

theorem less4_iff {a b : T_Message} (ha : idRight (Msg.id a) = true) (hb : idRight (Msg.id b) = true) : less4 a b = true ↔ Lt a b := by
  unfold less4 Lt
  by_cases h : Msg.id a = Msg.id b
  · have hk : key a = key b := by unfold key; rw [h]
    rw [if_pos (T_Ident.beqT h)]
    by_cases hs : a.Sender = b.Sender
    · rw [if_pos hs, decide_eq_true_eq]; exact ⟨fun h => .inr ⟨hk, .inr ⟨hs, h⟩⟩, fun h => by rcases h with h | ⟨_, h | h⟩ <;> omega⟩
    · rw [if_neg hs, decide_eq_true_eq]; exact ⟨fun h => .inr ⟨hk, .inl h⟩, fun h => by rcases h with h | ⟨_, h | h⟩ <;> omega⟩
  · have hk : key a ≠ key b := fun e => h (key_inj ha hb e)
    rw [if_neg (by rw [T_Ident.beqF h]; simp), idLess_iff ha hb]
    show key a < key b ↔ _
    omega
theorem less4_right {a b : T_Message} (ha : msgRight a = true) (hb : msgRight b = true) : less4 a b = true ↔ Lt a b := less4_iff (right_id ha) (right_id hb)

theorem pos4_spec (m : T_Message) (out : List T_Message) : ∀ n, n ≤ out.length → pos4 m out n ≤ n ∧ (∀ j y, pos4 m out n ≤ j → j < n → out[j]? = some y → less4 m y = true) ∧ (0 < pos4 m out n → ∀ y, out[pos4 m out n - 1]? = some y → less4 m y = false) := by
  intro n
  induction n with
  | zero => intro _; simp [pos4]
  | succ n ih =>
    intro h
    have hn : out[n]? = some (out[n]'(by omega)) := List.getElem?_eq_getElem (by omega)
    obtain ⟨h1, h2, h3⟩ := ih (by omega)
    simp only [pos4, hn]
    split
    · rename_i hl
      refine ⟨by omega, fun j y hj hjn hy => ?_, h3⟩
      by_cases e : j = n
      · subst e; rw [hn] at hy; cases hy; exact hl
      · exact h2 j y hj (by omega) hy
    · rename_i hl
      refine ⟨Nat.le_refl _, fun j y hj hjn => by omega, fun _ y hy => ?_⟩
      rw [Nat.add_sub_cancel, hn] at hy; cases hy
      exact bF hl

/-- Where a message is put. -/
theorem ins4_split {l : List T_Message} {m : T_Message} (h : Srt l) (hm : msgRight m = true) (hn : ∀ x ∈ l, x.Number ≠ m.Number) :
    ∃ a b, l = a ++ b ∧ ins4 l m = a ++ m :: b ∧ (∀ x ∈ a, Lt x m) ∧ ∀ x ∈ b, Lt m x := by
  obtain ⟨h1, h2, h3⟩ := pos4_spec m l l.length (Nat.le_refl _)
  refine ⟨l.take (pos4 m l l.length), l.drop (pos4 m l l.length), (List.take_append_drop _ _).symm, rfl, fun x hx => ?_, fun x hx => ?_⟩
  · obtain ⟨i, hi⟩ := List.getElem?_of_mem hx
    have hil : i < pos4 m l l.length := by
      have := (List.getElem?_eq_some_iff.1 hi).1
      simp at this; omega
    rw [List.getElem?_take_of_lt hil] at hi
    have hp : 0 < pos4 m l l.length := by omega
    have hk : l[pos4 m l l.length - 1]? = some (l[pos4 m l l.length - 1]'(by omega)) := List.getElem?_eq_getElem (by omega)
    have hf := h3 hp _ hk
    have hmem : l[pos4 m l l.length - 1]'(by omega) ∈ l := List.getElem_mem _
    have hlt : Lt (l[pos4 m l l.length - 1]'(by omega)) m := by
      rcases Lt.total (hn _ hmem) with h4 | h4
      · exact h4
      · rw [(less4_right hm (h.right _ hmem)).2 h4] at hf; cases hf
    by_cases e : i = pos4 m l l.length - 1
    · subst e; rw [hk] at hi; cases hi; exact hlt
    · have hi' := List.getElem?_eq_some_iff.1 hi
      obtain ⟨hi1, hi2⟩ := hi'
      have := List.pairwise_iff_getElem.1 h.ord i (pos4 m l l.length - 1) hi1 (by omega) (by omega)
      rw [hi2] at this
      exact this.trans hlt
  · obtain ⟨i, hi⟩ := List.getElem?_of_mem hx
    rw [List.getElem?_drop] at hi
    have hlt : pos4 m l l.length + i < l.length := (List.getElem?_eq_some_iff.1 hi).1
    exact (less4_right hm (h.right x (List.mem_of_getElem? hi))).1 (h2 _ x (by omega) hlt hi)
theorem ins4_perm {l : List T_Message} {m : T_Message} : (ins4 l m).Perm (m :: l) := by
  unfold ins4
  refine List.perm_middle.trans ?_
  rw [List.take_append_drop]
theorem srt_mid {a b : List T_Message} {m : T_Message} (h : Srt (a ++ b)) (hm : msgRight m = true) (h1 : ∀ x ∈ a, Lt x m) (h2 : ∀ x ∈ b, Lt m x) : Srt (a ++ m :: b) := by
  refine ⟨fun x hx => ?_, ?_⟩
  · rcases List.mem_append.1 hx with hx | hx
    · exact h.right x (by simp [hx])
    · rcases List.mem_cons.1 hx with rfl | hx
      · exact hm
      · exact h.right x (by simp [hx])
  · obtain ⟨o1, o2, o3⟩ := List.pairwise_append.1 h.ord
    refine List.pairwise_append.2 ⟨o1, List.pairwise_cons.2 ⟨h2, o2⟩, fun x hx y hy => ?_⟩
    rcases List.mem_cons.1 hy with rfl | hy
    · exact h1 x hx
    · exact o3 x hx y hy
theorem ins4_srt {l : List T_Message} {m : T_Message} (h : Srt l) (hm : msgRight m = true) (hn : ∀ x ∈ l, x.Number ≠ m.Number) : Srt (ins4 l m) := by
  obtain ⟨a, b, rfl, e, h1, h2⟩ := ins4_split h hm hn
  rw [e]; exact srt_mid h hm h1 h2

theorem sort4_snoc (l : List T_Message) (m : T_Message) : sort4 (l ++ [m]) = sortStep (sort4 l) m := by simp [sort4]
theorem sort4_spec (l : List T_Message) : ∀ n, n ≤ l.length → (∀ m ∈ l, msgRight m = true) → (l.map (·.Number)).Nodup → Srt (sort4 (l.take n)) ∧ (sort4 (l.take n)).Perm (l.take n) := by
  intro n
  induction n with
  | zero => intro _ _ _; simp [sort4]; exact ⟨by simp, .nil⟩
  | succ n ih =>
    intro h hr hd
    obtain ⟨h1, h2⟩ := ih (by omega) hr hd
    have hn : n < l.length := by omega
    rw [← List.take_append_getElem hn, sort4_snoc]
    have hm := hr l[n] (by simp)
    unfold sortStep
    rw [if_pos (right_id hm)]
    have hne : ∀ x ∈ sort4 (l.take n), x.Number ≠ l[n].Number := by
      intro x hx e
      have hx' := h2.mem_iff.1 hx
      obtain ⟨i, hi⟩ := List.getElem?_of_mem hx'
      have hin : i < n := by have := (List.getElem?_eq_some_iff.1 hi).1; simp at this; omega
      rw [List.getElem?_take_of_lt hin] at hi
      obtain ⟨hi1, hi2⟩ := List.getElem?_eq_some_iff.1 hi
      have := List.pairwise_iff_getElem.1 hd i n (by simpa using hi1) (by simpa using hn) hin
      apply this
      simp [hi2, e]
    refine ⟨ins4_srt h1 hm hne, ins4_perm.trans ?_⟩
    refine ((List.perm_cons _).2 h2).trans ?_
    exact (List.perm_append_singleton _ _).symm
theorem sort4_whole {l : List T_Message} (hr : ∀ m ∈ l, msgRight m = true) (hd : (l.map (·.Number)).Nodup) : Srt (sort4 l) ∧ (sort4 l).Perm l := by
  have := sort4_spec l l.length (Nat.le_refl _) hr hd
  rwa [List.take_length] at this

theorem QR13_of {q : T_Queue} (hl : 1 ≤ q.Limit ∧ q.Limit ≤ 32) (hn : (q.Msgs.length : Int) ≤ q.Limit) (hs : Srt q.Msgs) (hd : (q.Msgs.map (·.Number)).Nodup) : QR13 q := by
  refine ⟨hl, hn, fun j y hy => ⟨hs.right y (List.mem_of_getElem? hy), fun hj x hx => ?_, fun k x hk hx e => ?_⟩⟩
  · obtain ⟨hy1, hy2⟩ := List.getElem?_eq_some_iff.1 hy
    obtain ⟨hx1, hx2⟩ := List.getElem?_eq_some_iff.1 hx
    have := List.pairwise_iff_getElem.1 hs.ord (j - 1) j hx1 hy1 (by omega)
    rw [hx2, hy2] at this
    exact (less4_right (hs.right x (List.mem_of_getElem? hx)) (hs.right y (List.mem_of_getElem? hy))).2 this
  · obtain ⟨hy1, hy2⟩ := List.getElem?_eq_some_iff.1 hy
    obtain ⟨hx1, hx2⟩ := List.getElem?_eq_some_iff.1 hx
    have := List.pairwise_iff_getElem.1 hd k j (by simpa using hx1) (by simpa using hy1) hk
    apply this
    simp [hx2, hy2, e]

/-- A queue that was filled by messages 1 .. i. -/
structure QI (i : Nat) (q : T_Queue) : Prop where
  lim : 1 ≤ q.Limit ∧ q.Limit ≤ 32
  len : (q.Msgs.length : Int) ≤ q.Limit
  leni : q.Msgs.length ≤ i
  srt : Srt q.Msgs
  nums : ∀ x ∈ q.Msgs, x.Number ≤ i
  nodup : (q.Msgs.map (·.Number)).Nodup
theorem QI.zero (a : Int) (ha : I64 a) : QI 0 (T_Queue.mk (newQ (1 + pickS a 32)).1 []) := by
  have := pickS_range ha (n := 32) (by omega)
  have h : mayS (1 + pickS a 32) = true := by simp [mayS]; omega
  refine ⟨?_, ?_, by simp, ⟨by simp, .nil⟩, by simp, by simp⟩
  · show 1 ≤ (newQ (1 + pickS a 32)).1 ∧ (newQ (1 + pickS a 32)).1 ≤ 32
    simp only [newQ, h, if_true]; omega
  · show ((([] : List T_Message).length : Nat) : Int) ≤ (newQ (1 + pickS a 32)).1
    simp only [newQ, h, if_true]; simp; omega
theorem QI.step {i : Nat} {q : T_Queue} (h : QI i q) {y : T_a6_int} (hy : I6 y) (hi : i < 12) : QI (i + 1) (putR q (numberedS y ((i : Int) + 1))).1 := by
  have hm := numbered_right hy (k := (i : Int) + 1) (by omega)
  have hnum : (numberedS y ((i : Int) + 1)).Number = (i : Int) + 1 := rfl
  have hq : QR13 q := QR13_of h.lim h.len h.srt h.nodup
  have hno : ∀ x ∈ q.Msgs, x.Number ≠ (numberedS y ((i : Int) + 1)).Number := fun x hx => by rw [hnum]; have := h.nums x hx; omega
  have hat : at13 q (numberedS y ((i : Int) + 1)).Number = -1 := by unfold at13; exact idxS_none' hno
  have same : QI (i + 1) q := ⟨h.lim, h.len, by have := h.leni; omega, h.srt, fun x hx => by have := h.nums x hx; omega, h.nodup⟩
  unfold putR
  rw [if_pos (pdecT hq), if_pos hm, hat, if_neg (by omega)]
  split
  · exact same
  · rename_i hlt
    have hd : ((q.Msgs ++ [numberedS y ((i : Int) + 1)]).map (·.Number)).Nodup := by
      rw [List.map_append, List.map_cons, List.map_nil, List.nodup_append]
      refine ⟨h.nodup, by simp, fun a ha b hb e => ?_⟩
      obtain ⟨x, hx, rfl⟩ := List.mem_map.1 ha
      simp at hb
      exact hno x hx (by rw [e, hb])
    obtain ⟨s1, s2⟩ := sort4_whole (l := q.Msgs ++ [numberedS y ((i : Int) + 1)]) (fun x hx => by
      rcases List.mem_append.1 hx with hx | hx
      · exact h.srt.right x hx
      · simp at hx; rw [hx]; exact hm) hd
    have hl := s2.length_eq
    simp at hl
    refine ⟨h.lim, ?_, ?_, s1, fun x hx => ?_, ?_⟩
    · show ((sort4 _).length : Int) ≤ q.Limit
      rw [hl]; omega
    · show (sort4 _).length ≤ i + 1
      rw [hl]; have := h.leni; omega
    · rcases List.mem_append.1 (s2.mem_iff.1 hx) with hx | hx
      · have := h.nums x hx; omega
      · simp at hx; rw [hx, hnum]; omega
    · exact (s2.map _).nodup_iff.2 hd
theorem queueN_snoc (a : Int) (raw : List T_a6_int) (n : Nat) : queueN a raw (n + 1) = queueStep raw (queueN a raw n) n := by simp [queueN, List.range_succ]
theorem queueN_qi {a : Int} {raw : List T_a6_int} (ha : I64 a) (hr : ∀ y ∈ raw, I6 y) : ∀ n, n ≤ raw.length → n ≤ 12 → QI n (queueN a raw n) := by
  intro n
  induction n with
  | zero => intro _ _; exact QI.zero a ha
  | succ n ih =>
    intro h1 h2
    have h := ih (by omega) (by omega)
    rw [queueN_snoc]
    unfold queueStep
    rw [List.getElem?_eq_getElem (show n < raw.length by omega)]
    exact h.step (hr _ (by simp)) (by omega)
theorem queueS_qi {a : Int} {raw : List T_a6_int} (ha : I64 a) (hr : ∀ y ∈ raw, I6 y) : QI (min raw.length 12) (queueS a raw) := queueN_qi ha hr _ (Nat.min_le_left _ _) (Nat.min_le_right _ _)
theorem QI.qr {i : Nat} {q : T_Queue} (h : QI i q) : QR q := QR_of h.lim h.len h.srt h.nodup

/-- What is left without a number. -/
theorem del_filter {l : List T_Message} {k : Int} (hd : (l.map (·.Number)).Nodup) (h : ¬ idxS (fun x => decide (x.Number = k)) l < 0) {y : T_Message} (hy : l[(idxS (fun x => decide (x.Number = k)) l).toNat]? = some y) :
    delAt l (idxS (fun x => decide (x.Number = k)) l) (idxS (fun x => decide (x.Number = k)) l + 1) = l.filter (fun x => decide (x.Number ≠ k)) ∧ (∀ x ∈ l, x.Number = k → x = y) ∧ (l.filter (fun x => decide (x.Number = k))).length = 1 := by
  rcases idxS_split (fun x => decide (x.Number = k)) l with ⟨h1, _⟩ | ⟨a, x, b, rfl, h2, h3, h4⟩
  · exact absurd h1 h
  · rw [h2] at hy ⊢
    have hk : x.Number = k := of_decide_eq_true h3
    have hy' : y = x := by simpa using hy.symm
    subst hy'
    have ha : ∀ z ∈ a, z.Number ≠ k := fun z hz => of_decide_eq_false (h4 z hz)
    rw [List.map_append, List.map_cons] at hd
    obtain ⟨_, d2, _⟩ := List.nodup_append.1 hd
    have hb : ∀ z ∈ b, z.Number ≠ k := fun z hz e => (List.nodup_cons.1 d2).1 (by rw [hk]; exact List.mem_map.2 ⟨z, hz, e⟩)
    have fa : a.filter (fun x => decide (x.Number ≠ k)) = a := List.filter_eq_self.2 fun z hz => by simpa using ha z hz
    have fb : b.filter (fun x => decide (x.Number ≠ k)) = b := List.filter_eq_self.2 fun z hz => by simpa using hb z hz
    have ga : a.filter (fun x => decide (x.Number = k)) = [] := List.filter_eq_nil_iff.2 fun z hz => by simpa using ha z hz
    have gb : b.filter (fun x => decide (x.Number = k)) = [] := List.filter_eq_nil_iff.2 fun z hz => by simpa using hb z hz
    refine ⟨?_, fun z hz e => ?_, ?_⟩
    · rw [List.filter_append, List.filter_cons, fa, fb, if_neg (by simp [hk])]
      simp only [delAt]
      rw [show ((a.length : Int)).toNat = a.length by omega, show ((a.length : Int) + 1).toNat = a.length + 1 by omega]
      simp
    · rcases List.mem_append.1 hz with hz | hz
      · exact absurd e (ha z hz)
      · rcases List.mem_cons.1 hz with rfl | hz
        · rfl
        · exact absurd e (hb z hz)
    · rw [List.filter_append, List.filter_cons, ga, gb, if_pos (by simpa using hk)]; rfl
theorem none_filter {l : List T_Message} {k : Int} (h : idxS (fun x => decide (x.Number = k)) l < 0) : l.filter (fun x => decide (x.Number ≠ k)) = l ∧ (∀ x ∈ l, x.Number ≠ k) ∧ (l.filter (fun x => decide (x.Number = k))).length = 0 := by
  rcases idxS_split (fun x => decide (x.Number = k)) l with ⟨_, h2⟩ | ⟨a, x, b, rfl, h2, _⟩
  · have hn : ∀ x ∈ l, x.Number ≠ k := fun x hx => of_decide_eq_false (h2 x hx)
    refine ⟨List.filter_eq_self.2 fun z hz => by simpa using hn z hz, hn, ?_⟩
    rw [List.filter_eq_nil_iff.2 fun z hz => by simpa using hn z hz]; rfl
  · omega
end Go.Abs
