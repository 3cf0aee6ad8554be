/- What the laws of views rest on: plain. -/
import Derived.Test.YteocckoglkbonaaDoorSB
set_option linter.unusedVariables false
set_option linter.unusedSimpArgs false
set_option maxRecDepth 100000
namespace Go.Abs
def twos : List Int := [2, 2, 2, 2, 2]
theorem twos_ok {x : Int} (h : 0 ≤ x) : okInc twos x = decide (x < 5) := by
  unfold okInc twos
  by_cases h5 : x < 5
  · have : x = 0 ∨ x = 1 ∨ x = 2 ∨ x = 3 ∨ x = 4 := by omega
    rcases this with rfl | rfl | rfl | rfl | rfl <;> decide
  · have e : decide (x < (([2, 2, 2, 2, 2] : List Int).length : Int)) = decide (x < 5) := rfl
    rw [e, decide_eq_false h5]; rfl
theorem twos_get {x : Int} (h : 0 ≤ x) (h5 : x < 5) : twos.getD x.toNat 0 = 2 := by
  have : x = 0 ∨ x = 1 ∨ x = 2 ∨ x = 3 ∨ x = 4 := by omega
  rcases this with rfl | rfl | rfl | rfl | rfl <;> rfl
theorem twos_inc (t ep v x : Int) : incS (membersS t ep v twos) x = if (hasS v x && decide (x < 5)) = true then (2, true) else (0, false) := by
  rw [incS_members]
  by_cases hx : hasS v x = true
  · have hn := node_iff.1 (hasS_node hx)
    rw [twos_ok hn.1]
    by_cases h5 : x < 5
    · rw [if_pos (by simp [hx, h5]), if_pos (by simp [hx, h5]), twos_get hn.1 h5]
    · simp [hx, h5]
  · simp [hx]
/-- Where nothing goes in and nothing has changed, there is no next entry. -/
theorem next_none {v t ep : Int} {incs : List Int} {p : List T_Message} (h : freshS [membersS 1 1 v incs] (membersS 1 2 v incs) [] p = []) : nextS [membersS 1 1 v incs] 1 2 v incs p = (zeroE, false) := by
  unfold nextS
  split
  · simp [membersS_term, membersS_epoch, members_alike, h]
  · rfl
theorem fresh_none {l : List T_Entry} {e : T_Entry} : ∀ {p : List T_Message} {met : List Int}, (∀ m ∈ p, ∀ met, goesIn l e met m = false) → freshS l e met p = [] := by
  intro p
  induction p with
  | nil => intro met _; rfl
  | cons m p ih =>
    intro met h
    rw [freshS, h m (by simp) met]
    exact ih (fun m' hm' => h m' (by simp [hm']))
def badM (v : Int) (m : T_Message) : T_Message := if hasS v m.Sender = true ∧ m.Inc = 2 then T_Message.mk m.Id_Ext m.Id_N m.Sender 3 m.Seq m.Number m.Data else m
def oddM (m : T_Message) : T_Message := T_Message.mk m.Id_Ext m.Id_N m.Sender 2 m.Seq 0 m.Data
theorem bad_none {l : List T_Entry} {v t ep : Int} (m : T_Message) (met : List Int) : goesIn l (membersS t ep v twos) met (badM v m) = false := by
  by_cases hc : hasS v m.Sender = true ∧ m.Inc = 2
  · have e : badM v m = T_Message.mk m.Id_Ext m.Id_N m.Sender 3 m.Seq m.Number m.Data := if_pos hc
    rw [e]; unfold goesIn; rw [twos_inc]; split <;> simp
  · have e : badM v m = m := if_neg hc
    rw [e]; unfold goesIn; rw [twos_inc]; split
    · rename_i h
      simp only [Bool.and_eq_true] at h
      have h2 : ¬ (2 : Int) = m.Inc := fun e => hc ⟨h.1, e.symm⟩
      simp [h2]
    · simp
theorem odd_none {l : List T_Entry} {e : T_Entry} (m : T_Message) (met : List Int) : goesIn l e met (oddM m) = false := by
  have : msgRight (oddM m) = false := by simp [msgRight, oddM, smallS]
  simp [goesIn, this]
theorem members_small (t ep v : Int) (incs : List Int) : SmallE (membersS t ep v incs) := ⟨by have := membersS_incs t ep v incs; omega, by rw [membersS_msgs]; simp⟩
theorem small_one {e : T_Entry} (h : SmallE e) : Small [e] := ⟨by simp, fun x hx => by simp at hx; subst hx; exact h⟩
theorem pendS_length (raw : List T_a6_int) : (pendS raw).length ≤ 8 := by simp [pendS]; omega
theorem nodup_len : ∀ (n : Nat) (l : List Int), l.Nodup → (∀ x ∈ l, 0 ≤ x ∧ x < (n : Int)) → l.length ≤ n := by
  intro n
  induction n with
  | zero =>
    intro l _ h
    cases l with
    | nil => simp
    | cons x l => have := h x (by simp); omega
  | succ n ih =>
    intro l hd h
    by_cases hm : (n : Int) ∈ l
    · have h1 := List.length_erase_of_mem hm
      have h2 := ih (l.erase (n : Int)) (hd.erase _) (fun x hx => by
        have h3 := (List.Nodup.mem_erase_iff hd).1 hx
        have := h x h3.2
        omega)
      omega
    · have := ih l hd (fun x hx => by
        have := h x hx
        have h3 : x ≠ (n : Int) := fun e => hm (e ▸ hx)
        omega)
      omega
theorem log_small {l : List T_Entry} (h : logRight l = true) : Small l ∧ msgCount l ≤ 100000 := by
  rw [logRight_iff] at h
  have one : ∀ e : T_Entry, entRight e = true → e.Incs.length ≤ 16 ∧ e.Msgs.length ≤ 16 := by
    intro e he
    simp only [entRight, Bool.and_eq_true] at he
    have hh := he.1
    simp only [headB, Bool.and_eq_true, decide_eq_true_eq] at hh
    have hc : (e.Incs.length : Int) = countS e.Members := hh.1.2
    have hl := listS_length e.Members
    unfold countS at hc
    refine ⟨by omega, ?_⟩
    -- senders are distinct nodes
    have key : ∀ (r seen : List T_Message), mrB e seen r = true → (seen.map (·.Sender)).Nodup → (∀ m ∈ seen, nodeS m.Sender = true) → (((seen ++ r).map (·.Sender)).Nodup ∧ ∀ m ∈ seen ++ r, nodeS m.Sender = true) := by
      intro r
      induction r with
      | nil => intro seen _ h1 h2; simpa using ⟨h1, h2⟩
      | cons m r ih =>
        intro seen hm h1 h2
        simp only [mrB, Bool.and_eq_true, Bool.not_eq_true'] at hm
        have hr := right_sender hm.1.1.1.1
        have := ih (seen ++ [m]) hm.2 (by
          rw [List.map_append, List.nodup_append]
          refine ⟨h1, by simp, fun a ha b hb e => ?_⟩
          obtain ⟨x, hx, rfl⟩ := List.mem_map.1 ha
          simp at hb; subst hb
          have := List.any_eq_false.1 hm.1.1.2 x hx
          simp at this; exact this e) (fun x hx => by rcases List.mem_append.1 hx with h | h; exact h2 x h; simp at h; subst h; exact hr)
        simpa using this
    have hk := key e.Msgs [] he.2 (by simp) (by simp)
    simp only [List.nil_append] at hk
    have := nodup_len 16 _ hk.1 (fun x hx => by
      obtain ⟨m, hm, rfl⟩ := List.mem_map.1 hx
      have := node_iff.1 (hk.2 m hm)
      omega)
    simpa using this
  have hall : ∀ e ∈ l, entRight e = true := fun e he => by
    obtain ⟨j, hj⟩ := List.getElem?_of_mem he
    exact (h.2 j e hj).1
  refine ⟨⟨by omega, fun e he => by have := one e (hall e he); exact ⟨by omega, by omega⟩⟩, ?_⟩
  have cnt : ∀ (q : List T_Entry), (∀ e ∈ q, e.Msgs.length ≤ 16) → msgCount q ≤ 16 * q.length := by
    intro q
    induction q with
    | nil => intro _; simp [msgCount, flatM]
    | cons e q ih =>
      intro hq
      have h1 := ih (fun x hx => hq x (by simp [hx]))
      have h2 := hq e (by simp)
      have e1 : msgCount (e :: q) = e.Msgs.length + msgCount q := by simp [msgCount, flatM]
      rw [e1, List.length_cons]; omega
  have := cnt l (fun e he => (one e (hall e he)).2)
  omega
theorem twos_members (t ep v : Int) : (membersS t ep v twos).Members = v % 32 := by
  refine vec_ext (members_range _ _ _ _) (by omega) (fun x => ?_)
  rw [members_has, hasS_mod32]
  by_cases hx : hasS v x = true
  · rw [twos_ok (node_iff.1 (hasS_node hx)).1]
  · simp [hx]
theorem next_stale {l : List T_Entry} {last : T_Entry} (hl : l.getLast? = some last) {t ep v : Int} {incs : List Int} {p : List T_Message} (h : last.Term > t ∨ last.Epoch ≥ ep) : nextS l t ep v incs p = (zeroE, false) := by
  unfold nextS
  split
  · rw [hl]; simp only; rw [if_pos h]
  · rfl
theorem next_term {l : List T_Entry} {last : T_Entry} (hr : logRight l = true) (h3 : l.length < 300) (hl : l.getLast? = some last) {t ep v : Int} {incs : List Int} {p : List T_Message} (ht : smallS t = true) (he : smallS ep = true) (h1 : last.Term < t) (h2 : last.Epoch < ep) :
    nextS l t ep v incs p = (membersS t ep v incs, true) := by
  unfold nextS
  rw [if_pos ⟨hr, h3, ht, he⟩, hl]
  simp only
  rw [if_neg (by omega), if_pos (.inl h1)]
theorem some_right {l : List T_Entry} (h : logRight l = true) : someS l = l := by rw [someS, if_pos h]
theorem seenL_ge (n k : Int) : ∀ (ms : List T_Message) (s : Int), s ≤ seenL n k s ms := by
  intro ms
  induction ms with
  | nil => intro s; exact Int.le_refl _
  | cons m ms ih =>
    intro s
    have := ih (if m.Sender = n ∧ m.Inc = k then (if m.Seq > s then m.Seq else s) else s)
    have h2 : s ≤ (if m.Sender = n ∧ m.Inc = k then (if m.Seq > s then m.Seq else s) else s) := by split <;> (try split) <;> omega
    exact Int.le_trans h2 this
theorem seenL_append (n k s : Int) (a b : List T_Message) : seenL n k s (a ++ b) = seenL n k (seenL n k s a) b := by simp [seenL, List.foldl_append]
theorem viewsL_nonneg : ∀ (l : List T_Entry) (p : Option T_Entry), 0 ≤ viewsL p l := by
  intro l
  induction l with
  | nil => intro p; exact Int.le_refl _
  | cons e l ih => intro p; have := ih (some e); simp only [viewsL]; split <;> omega
theorem viewsL_take : ∀ (l : List T_Entry) (p : Option T_Entry) (n : Nat), viewsL p (l.take n) ≤ viewsL p l := by
  intro l
  induction l with
  | nil => intro p n; simp
  | cons e l ih =>
    intro p n
    cases n with
    | zero => exact viewsL_nonneg _ _
    | succ n => have := ih (some e) n; simp only [List.take_succ_cons, viewsL]; omega
theorem msgs_whole {l : List T_Entry} (h : logRight l = true) : msgsS l 0 (l.length : Int) = flatM l := by
  unfold msgsS; rw [some_right h]; simp
theorem small_nil : Small [] := ⟨by simp, by simp⟩
theorem small_cl {l : List T_Entry} (h : (l.length ≤ 1000000 ∧ ∀ e ∈ l, e.Incs.length ≤ 1000000 ∧ e.Msgs.length ≤ 1000000)) : Small l := h
end Go.Abs
