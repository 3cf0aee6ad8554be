/- Members, and raw logs: plain facts. -/
import Derived.Test.YteocckoglkbonaaDoorSA
set_option linter.unusedVariables false
set_option linter.unusedSimpArgs false
set_option maxRecDepth 100000
namespace Go.Abs

/-! ### Vectors -/
theorem hasS_node {v x : Int} (h : hasS v x = true) : nodeS x = true := by simp only [hasS, Bool.and_eq_true] at h; exact h.1
theorem node_iff {x : Int} : nodeS x = true ↔ 0 ≤ x ∧ x < 16 := by simp [nodeS]
theorem hasS_zero (x : Int) : hasS 0 x = false := by simp [hasS, bitS]
theorem hasS_mod (v x : Int) : hasS (v % 65536) x = hasS v x := by
  unfold hasS
  by_cases h : nodeS x = true
  · have := node_iff.1 h
    rw [bit_mod this.1 this.2]
  · simp [h]
theorem vec_ext {a b : Int} (ha : 0 ≤ a ∧ a < 65536) (hb : 0 ≤ b ∧ b < 65536) (h : ∀ x, hasS a x = hasS b x) : a = b := by
  have h2 : a.toNat = b.toNat := by
    refine Nat.eq_of_testBit_eq (fun i => ?_)
    by_cases hi : i < 16
    · have := h (i : Int)
      have hn : nodeS (i : Int) = true := node_iff.2 (by omega)
      simp only [hasS, hn, Bool.true_and] at this
      rw [bit_nat hi, bit_nat hi, Int.emod_eq_of_lt ha.1 ha.2, Int.emod_eq_of_lt hb.1 hb.2] at this
      exact this
    · rw [Nat.testBit_lt_two_pow, Nat.testBit_lt_two_pow]
      · have : 2 ^ 16 ≤ 2 ^ i := Nat.pow_le_pow_right (by decide) (by omega)
        omega
      · have : 2 ^ 16 ≤ 2 ^ i := Nat.pow_le_pow_right (by decide) (by omega)
        omega
  omega
theorem hasS_mod32 (v x : Int) : hasS (v % 32) x = (hasS v x && decide (x < 5)) := by
  by_cases h : nodeS x = true
  · have hx := node_iff.1 h
    obtain ⟨k, rfl⟩ : ∃ k : Nat, x = (k : Int) := ⟨x.toNat, by omega⟩
    have hk : k < 16 := by omega
    simp only [hasS, h, Bool.true_and]
    rw [bit_nat hk, bit_nat hk]
    have e : ((v % 32) % 65536).toNat = ((v % 65536).toNat) % 2 ^ 5 := by omega
    rw [e, Nat.testBit_mod_two_pow, Bool.and_comm]
    congr 1
    apply decide_eq_decide.2; omega
  · simp [hasS, h]
theorem listS_eq_filter (v : Int) : listS v = ((List.range 16).map (fun i : Nat => (i : Int))).filter (fun x => hasS v x) := by
  unfold listS listN
  refine List.filter_congr (fun x hx => ?_)
  obtain ⟨i, h1, rfl⟩ := List.mem_map.1 hx
  simp at h1
  simp [hasS, nodeS]; intro; omega
theorem listS_filter {a v : Int} {q : Int → Bool} (h : ∀ x, hasS a x = (hasS v x && q x)) : listS a = (listS v).filter q := by
  rw [listS_eq_filter, listS_eq_filter, List.filter_filter]
  exact List.filter_congr (fun x _ => by rw [h, Bool.and_comm])
theorem listS_nodup (v : Int) : (listS v).Nodup := by
  unfold listS listN
  refine List.Pairwise.filter _ ?_
  refine List.Pairwise.map _ ?_ List.nodup_range
  intro a b h e; exact h (by omega)

/-! ### Members -/
def okInc (incs : List Int) (n : Int) : Bool := decide (n < (incs.length : Int)) && smallS (incs.getD n.toNat 0)
theorem memStep_eq (incs : List Int) (e : T_Entry) (n : Int) : memStep incs e n = if okInc incs n = true then ⟨e.Term, e.Epoch, withS e.Members n, e.Incs ++ [incs.getD n.toNat 0], e.Msgs⟩ else e := by
  unfold memStep okInc
  simp only [Bool.and_eq_true, decide_eq_true_eq]
theorem memFold_spec (incs : List Int) : ∀ (l : List Int) (e : T_Entry), (∀ x ∈ l, nodeS x = true) → (0 ≤ e.Members ∧ e.Members < 65536) →
    (∀ x, hasS (l.foldl (memStep incs) e).Members x = (hasS e.Members x || (l.contains x && okInc incs x))) ∧ (l.foldl (memStep incs) e).Incs = e.Incs ++ (l.filter (okInc incs)).map (fun x => incs.getD x.toNat 0) ∧
    (0 ≤ (l.foldl (memStep incs) e).Members ∧ (l.foldl (memStep incs) e).Members < 65536) := by
  intro l
  induction l with
  | nil => intro e _ h; simp [h]
  | cons n l ih =>
    intro e hl hm
    have hn := hl n (by simp)
    simp only [List.foldl_cons]
    rw [memStep_eq]
    by_cases ho : okInc incs n = true
    · rw [if_pos ho]
      obtain ⟨h1, h2, h3⟩ := ih ⟨e.Term, e.Epoch, withS e.Members n, e.Incs ++ [incs.getD n.toNat 0], e.Msgs⟩ (fun x hx => hl x (by simp [hx])) (withS_range _ _)
      refine ⟨fun x => ?_, ?_, h3⟩
      · rw [h1, hasS_with _ _ _ hn]
        by_cases hx : x = n
        · subst hx; simp [ho]
        · simp [hx]
      · rw [h2]; simp [ho]
    · rw [if_neg ho]
      obtain ⟨h1, h2, h3⟩ := ih e (fun x hx => hl x (by simp [hx])) hm
      refine ⟨fun x => ?_, ?_, h3⟩
      · rw [h1]
        by_cases hx : x = n
        · subst hx; simp [ho]
        · simp [hx]
      · rw [h2]; simp [ho]
theorem listS_node {v x : Int} (h : x ∈ listS v) : nodeS x = true := hasS_node (mem_listS.1 h)
theorem members_has (t ep v : Int) (incs : List Int) (x : Int) : hasS (membersS t ep v incs).Members x = (hasS v x && okInc incs x) := by
  obtain ⟨h1, _, _⟩ := memFold_spec incs (listS v) ⟨t, ep, 0, [], []⟩ (fun x hx => listS_node hx) (by simp)
  have := h1 x
  simp only [hasS_zero, Bool.false_or] at this
  unfold membersS
  rw [this]
  congr 1
  rw [Bool.eq_iff_iff, List.contains_iff_mem]
  exact mem_listS
theorem members_range (t ep v : Int) (incs : List Int) : 0 ≤ (membersS t ep v incs).Members ∧ (membersS t ep v incs).Members < 65536 := (memFold_spec incs (listS v) ⟨t, ep, 0, [], []⟩ (fun x hx => listS_node hx) (by simp)).2.2
theorem members_list (t ep v : Int) (incs : List Int) : listS (membersS t ep v incs).Members = (listS v).filter (okInc incs) := listS_filter (members_has t ep v incs)
theorem members_incs (t ep v : Int) (incs : List Int) : (membersS t ep v incs).Incs = ((listS v).filter (okInc incs)).map (fun x => incs.getD x.toNat 0) := by
  exact (memFold_spec incs (listS v) ⟨t, ep, 0, [], []⟩ (fun x hx => listS_node hx) (by simp)).2.1.trans (by simp)
theorem members_alike (t ep t2 ep2 v : Int) (incs : List Int) : alikeS (membersS t ep v incs) (membersS t2 ep2 v incs) = true := by
  have h1 : (membersS t ep v incs).Members = (membersS t2 ep2 v incs).Members := vec_ext (members_range _ _ _ _) (members_range _ _ _ _) (fun x => by rw [members_has, members_has])
  have h2 : (membersS t ep v incs).Incs = (membersS t2 ep2 v incs).Incs := by rw [members_incs, members_incs]
  simp [alikeS, h1, h2]
/-- Who is a member, and started how often. -/
theorem incS_map {e : T_Entry} {f : Int → Int} (h : e.Incs = (listS e.Members).map f) (x : Int) : incS e x = if hasS e.Members x = true then (f x, true) else (0, false) := by
  have hl : (listS e.Members).length = e.Incs.length := by rw [h]; simp
  rcases idxS_split (fun y => decide (y = x)) (listS e.Members) with ⟨h1, h2⟩ | ⟨a, y, b, h1, h2, h3, _⟩
  · have hn : ¬ hasS e.Members x = true := fun hm => by have := h2 x (mem_listS.2 hm); simp at this
    rw [incS, if_neg (by omega), if_neg hn]
  · have hy : y = x := by simpa using h3
    subst hy
    have hm : hasS e.Members y = true := mem_listS.1 (by rw [h1]; simp)
    rw [incS, if_pos ⟨hl, by omega⟩, if_pos hm, h2, h, h1]
    simp [List.getD_eq_getElem?_getD]
theorem incS_members (t ep v : Int) (incs : List Int) (x : Int) : incS (membersS t ep v incs) x = if (hasS v x && okInc incs x) = true then (incs.getD x.toNat 0, true) else (0, false) := by
  rw [incS_map (f := fun x => incs.getD x.toNat 0) (by rw [members_incs, members_list]), members_has]

/-! ### Raw entries -/
theorem pick_small {y n : Int} (h0 : 0 ≤ y) (h1 : y < n) : pickS y n = y := by
  unfold pickS
  rw [if_neg (by omega), Int.tmod_eq_emod_of_nonneg h0, Int.emod_eq_of_lt h0 h1]
theorem incAt_small {incs : List Int} (h : ∀ x ∈ incs, I64 x) (i : Nat) : smallS (incAt incs i) = true := by
  unfold incAt
  split
  · rename_i hg
    have hm : i % incs.length < incs.length := Nat.mod_lt _ hg
    have := pickS_range (c := incs[i % incs.length]) (n := 65535) (h _ (by simp)) (by omega)
    have e : incs.getD (i % incs.length) 0 = incs[i % incs.length] := by simp [List.getD_eq_getElem?_getD, hm]
    rw [e]
    exact decide_eq_true (by omega)
  · decide
theorem message_right {y : T_a6_int} (h : I6 y) (d : ByteArray) {s c : Int} (hs : nodeS s = true) (hc : smallS c = true) :
    msgRight (T_Message.mk (messageS y d).Id_Ext (messageS y d).Id_N s c (messageS y d).Seq (messageS y d).Number (messageS y d).Data) = true := by
  have h1 := messageId_right h
  have p4 := pickS_range (c := y.c4) (n := 65535) h.2.2.2.2.1 (by omega)
  have p5 := pickS_range (c := y.c5) (n := 65535) h.2.2.2.2.2 (by omega)
  have hn := node_iff.1 hs
  have hd : ((messageS y d).Data.size : Int) ≤ 8 := by
    simp only [messageS, ByteArray.size_extract]
    split <;> omega
  simp only [msgRight, Bool.and_eq_true, decide_eq_true_eq]
  refine ⟨⟨⟨⟨⟨⟨h1, hn.1⟩, hn.2⟩, hc⟩, decide_eq_true ?_⟩, decide_eq_true ?_⟩, hd⟩
  · simp only [messageS]; omega
  · simp only [messageS]; omega
theorem sort4_one {m : T_Message} (h : idRight (Msg.id m) = true) : sort4 [m] = [m] := by
  simp [sort4, sortStep, h, ins4, pos4]
/-- A raw entry of at most one message may be. -/
theorem entry_right {term epoch m : Int} {incs : List Int} {raw : List T_a6_int} (ht : smallS term = true) (he : smallS epoch = true) (hm : 0 ≤ m ∧ m < 65536) (hi : ∀ x ∈ incs, I64 x) (hr : ∀ y ∈ raw, I6 y) (hl : raw.length ≤ 1) :
    entRight ⟨term, epoch, m, incsE incs (listS m), sort4 (rawMsgs raw (listS m) incs)⟩ = true := by
  have hh : headB ⟨term, epoch, m, incsE incs (listS m), sort4 (rawMsgs raw (listS m) incs)⟩ = true := by
    simp only [headB, ht, he, Bool.true_and, Bool.and_eq_true, decide_eq_true_eq]
    refine ⟨⟨⟨hm.1, hm.2⟩, by rw [incsE_length]; rfl⟩, List.all_eq_true.2 fun x hx => ?_⟩
    obtain ⟨i, _, rfl⟩ := List.mem_map.1 hx
    exact incAt_small hi i
  rw [entRight, hh, Bool.true_and]
  have hlen := rawMsgs_length raw (listS m) incs
  match hq : rawMsgs raw (listS m) incs with
  | [] => rfl
  | [x] =>
    obtain ⟨y, rfl⟩ : ∃ y, raw = [y] := by
      match raw, hl with
      | [y], _ => exact ⟨y, rfl⟩
      | [], _ => simp [rawMsgs] at hq
    obtain ⟨s, l', hls⟩ : ∃ s l', listS m = s :: l' := by
      match hls : listS m with
      | s :: l' => exact ⟨s, l', rfl⟩
      | [] => rw [hls] at hq; simp [rawMsgs] at hq
    have hie : incsE incs (listS m) = incAt incs 0 :: (incsE incs (listS m)).tail := by
      have := incsE_get (incs := incs) (l := listS m) (i := 0) (by rw [hls]; simp)
      match hh : incsE incs (listS m), this with
      | a :: r, h => simp at h; simp [h]
    have hx : x = entMsg y s (incAt incs 0) := by
      unfold rawMsgs at hq
      rw [hie, hls] at hq
      simp at hq
      exact hq.symm
    have hsn : nodeS s = true := listS_node (v := m) (by rw [hls]; simp)
    have hc := incAt_small hi 0
    have hxr : msgRight x = true := by rw [hx]; exact message_right (hr y (by simp)) _ hsn hc
    rw [sort4_one (right_id hxr)]
    have hinc : incS ⟨term, epoch, m, incsE incs (listS m), [x]⟩ x.Sender = (x.Inc, true) := by
      have hxs : x.Sender = s := by rw [hx]; rfl
      have hxi : x.Inc = incAt incs 0 := by rw [hx]; rfl
      have hidx : idxS (fun z => decide (z = s)) (listS m) = 0 := by
        have := idxS_some (p := fun z => decide (z = s)) (l := listS m) (i := 0) (by rw [hls]; simp) (by simp [hls]) (fun j hj => by omega)
        simpa using this
      rw [hxs, hxi, incS, if_pos ⟨by rw [incsE_length], by simp only [hidx]; omega⟩]
      simp only [hidx]
      rw [hie]; rfl
    simp [mrB, hxr, hinc, ifSome]
  | a :: b :: r => rw [hq] at hlen; simp at hlen; omega

theorem lterm_bounds {raw : List T_a3_int} (h : ∀ y ∈ raw, I3 y) : ∀ i, 1 ≤ lterm raw i ∧ lterm raw i ≤ 1 + i ∧ lterm raw i ≤ lterm raw (i + 1) := by
  have step : ∀ i : Nat, lterm raw i ≤ lterm raw (i + 1) ∧ lterm raw (i + 1) ≤ lterm raw i + 1 := by
    intro i
    simp only [lterm]
    split
    · rename_i y hy
      have := pickS_range (c := y.c0) (n := 3) (h y (List.mem_of_getElem? hy)).1 (by omega)
      rw [Int.tdiv_eq_ediv_of_nonneg this.1]; omega
    · omega
  intro i
  induction i with
  | zero => have := step 0; have e : lterm raw 0 = 1 := rfl; omega
  | succ i ih => have := step (i + 1); have := step i; omega
theorem entAt_right {raw : List T_a3_int} {msgs : List T_a6_int} (h : ∀ y ∈ raw, I3 y) (hm : ∀ y ∈ msgs, I6 y) {i : Nat} (hi : i < raw.length) (h12 : i < 12) :
    entRight (entAt raw msgs i) = true ∧ (entAt raw msgs i).Term = lterm raw (i + 1) ∧ (2 * (i : Int) + 1 ≤ (entAt raw msgs i).Epoch ∧ (entAt raw msgs i).Epoch ≤ 2 * (i : Int) + 2) := by
  have hy := h raw[i] (by simp)
  have p1 := pickS_range (c := (raw[i]).c1) (n := 16) hy.2.1 (by omega)
  have p2 := pickS_range (c := (raw[i]).c2) (n := 3) hy.2.2 (by omega)
  have p3 := pickS_range (c := (raw[i]).c2) (n := 2) hy.2.2 (by omega)
  have hb := lterm_bounds h (i + 1)
  have he : entAt raw msgs i = entRaw (lterm raw (i + 1)) raw[i] msgs i := by simp only [entAt, List.getElem?_eq_getElem hi]
  rw [he]
  refine ⟨?_, rfl, by simp only [entRaw]; omega⟩
  have hmem : pickS (pickS (raw[i]).c1 16) 65536 = pickS (raw[i]).c1 16 := pick_small p1.1 (by omega)
  simp only [entRaw, entryS]
  rw [hmem]
  refine entry_right (decide_eq_true (by omega)) (decide_eq_true (by omega)) (by omega) (fun x hx => ?_) (fun y hy' => hm y (List.mem_of_mem_take (List.mem_of_mem_drop hy'))) (by simp; omega)
  simp at hx; subst hx; constructor <;> omega
theorem lgB_iff : ∀ (l : List T_Entry) (p : Option T_Entry), lgB p l = true ↔ (∀ (j : Nat) (y : T_Entry), l[j]? = some y → entRight y = true ∧ ifSome (if j = 0 then p else l[j - 1]?) (fun x => nextB x y) = true) := by
  intro l
  induction l with
  | nil => intro p; simp [lgB]
  | cons e l ih =>
    intro p
    simp only [lgB, Bool.and_eq_true, ih]
    constructor
    · rintro ⟨⟨h1, h2⟩, h3⟩ j y hy
      cases j with
      | zero => simp at hy; subst hy; exact ⟨h1, h2⟩
      | succ j =>
        simp at hy
        obtain ⟨g1, g2⟩ := h3 j y hy
        refine ⟨g1, ?_⟩
        rw [if_neg (by omega)]
        cases j with
        | zero => simpa using g2
        | succ j => simpa using g2
    · intro h
      refine ⟨by simpa using h 0 e rfl, fun j y hy => ?_⟩
      obtain ⟨g1, g2⟩ := h (j + 1) y (by simpa using hy)
      refine ⟨g1, ?_⟩
      rw [if_neg (by omega)] at g2
      cases j with
      | zero => simpa using g2
      | succ j => simpa using g2
theorem logRight_iff {l : List T_Entry} : logRight l = true ↔ l.length ≤ 300 ∧ ∀ (j : Nat) (y : T_Entry), l[j]? = some y → entRight y = true ∧ (0 < j → ∀ x, l[j - 1]? = some x → x.Term ≤ y.Term ∧ x.Epoch < y.Epoch) := by
  simp only [logRight, Bool.and_eq_true, decide_eq_true_eq, lgB_iff]
  refine and_congr Iff.rfl ⟨fun h j y hy => ?_, fun h j y hy => ?_⟩
  · obtain ⟨g1, g2⟩ := h j y hy
    refine ⟨g1, fun hj x hx => ?_⟩
    rw [if_neg (by omega), hx] at g2
    simpa [ifSome, nextB] using g2
  · obtain ⟨g1, g2⟩ := h j y hy
    refine ⟨g1, ?_⟩
    by_cases hj : j = 0
    · rw [if_pos hj]; rfl
    · rw [if_neg hj]
      have hl := (List.getElem?_eq_some_iff.1 hy).1
      have hx := List.getElem?_eq_getElem (l := l) (i := j - 1) (by omega)
      rw [hx]
      have := g2 (by omega) _ hx
      simp [ifSome, nextB]; omega
theorem logRight_take {l : List T_Entry} (h : logRight l = true) (n : Nat) : logRight (l.take n) = true := by
  rw [logRight_iff] at *
  refine ⟨by simp; omega, fun j y hy => ?_⟩
  rw [List.getElem?_take] at hy
  split at hy
  · rename_i hj
    obtain ⟨g1, g2⟩ := h.2 j y hy
    refine ⟨g1, fun hj0 x hx => g2 hj0 x ?_⟩
    rw [List.getElem?_take, if_pos (by omega)] at hx; exact hx
  · cases hy
theorem logN_get {raw : List T_a3_int} {msgs : List T_a6_int} {n j : Nat} (h : j < n) : (logN raw msgs n)[j]? = some (entAt raw msgs j) := by simp [logN, h]
theorem logS_length (raw : List T_a3_int) (msgs : List T_a6_int) : (logS raw msgs).length = min raw.length 12 := by simp [logS, logN]
theorem logS_right {raw : List T_a3_int} {msgs : List T_a6_int} (h : ∀ y ∈ raw, I3 y) (hm : ∀ y ∈ msgs, I6 y) : logRight (logS raw msgs) = true := by
  have hl := logS_length raw msgs
  rw [logRight_iff]
  refine ⟨by omega, fun j y hy => ?_⟩
  have hj : j < min raw.length 12 := by have := (List.getElem?_eq_some_iff.1 hy).1; omega
  have e : ∀ k, k < min raw.length 12 → (logS raw msgs)[k]? = some (entAt raw msgs k) := fun k hk => logN_get hk
  rw [e j hj] at hy; cases hy
  obtain ⟨g1, g2, g3⟩ := entAt_right (msgs := msgs) h hm (i := j) (by omega) (by omega)
  refine ⟨g1, fun hj0 x hx => ?_⟩
  rw [e (j - 1) (by omega)] at hx; cases hx
  obtain ⟨_, k2, k3⟩ := entAt_right (msgs := msgs) h hm (i := j - 1) (by omega) (by omega)
  have hb := (lterm_bounds h (j - 1 + 1)).2.2
  rw [show j - 1 + 1 = j by omega] at hb k2
  rw [g2, k2]
  exact ⟨hb, by omega⟩
end Go.Abs
