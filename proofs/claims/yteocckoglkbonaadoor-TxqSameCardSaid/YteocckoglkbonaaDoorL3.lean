/- TxqSame: true. -/
import Derived.Test.YteocckoglkbonaaDoorW6
import Derived.Test.YteocckoglkbonaaDoorL2
set_option linter.unusedVariables false
set_option maxRecDepth 100000
namespace Go.Abs
open Go.Proofs
variable {E : Env} {C : C0}

theorem identS_right {n : Int} (h : I64 n) (e : Bool) : idRight (identS n e) = true := by
  have := pickS_range h (n := if e = true then 536870912 else 2048) (by split <;> omega)
  simp only [idRight, identS, withinS, limitS, decide_eq_true_eq]
  cases e <;> simp at this ⊢ <;> omega
theorem messageId_right {y : T37_6_int} (h : I6 y) : idRight (messageId y) = true := by
  unfold messageId
  split
  · exact identS_right h.1 _
  · exact identS_right (pickS_I64 h.1 (by omega) (by omega)) _
theorem numbered_right {y : T37_6_int} (h : I6 y) {k : Int} (hk : 1 ≤ k ∧ k ≤ 65535) : msgRight (numberedS y k) = true := by
  have hi := messageId_right h
  obtain ⟨h0, h1, h2, h3, h4, h5⟩ := h
  have r2 := pickS_range h2 (n := 16) (by omega)
  have r3 := pickS_range h3 (n := 65535) (by omega)
  have r4 := pickS_range h4 (n := 65535) (by omega)
  have hd : decide ((((numberedS y k).Data.size : Nat) : Int) ≤ 8) = true := by
    show decide (((letterD.extract (0 : Int).toNat ((if 8 < (letterD.size : Int) then 8 else (letterD.size : Int)) : Int).toNat).size : Int) ≤ 8) = true
    decide
  have hid : Msg.id (numberedS y k) = messageId y := rfl
  simp only [msgRight, hid, hi, hd, smallS, Bool.and_eq_true, decide_eq_true_eq, Bool.and_true, Bool.true_and]
  show (((0 ≤ pickS y.c2 16 ∧ pickS y.c2 16 < 16) ∧ (1 ≤ 1 + pickS y.c3 65535 ∧ 1 + pickS y.c3 65535 ≤ 65535)) ∧ (1 ≤ 1 + pickS y.c4 65535 ∧ 1 + pickS y.c4 65535 ≤ 65535)) ∧ (1 ≤ k ∧ k ≤ 65535)
  omega

/-- The message of a place. -/
def nb (raw : List T37_6_int) (t : Nat) : T35_Message := match raw[t]? with | some y => numberedS y ((t : Int) + 1) | none => msgA
theorem nb_get {raw : List T37_6_int} {t : Nat} {y : T37_6_int} (h : raw[t]? = some y) : nb raw t = numberedS y ((t : Int) + 1) := by simp [nb, h]
theorem nb_number {raw : List T37_6_int} {t : Nat} (h : t < raw.length) : (nb raw t).Number = (t : Int) + 1 := by
  rw [nb_get (List.getElem?_eq_getElem h)]; rfl

/-- The messages of i places, in order. -/
structure Inv (raw : List T37_6_int) (n : Nat) (f : Nat → Nat) (i : Nat) (q : T26_Queue) : Prop where
  lim : q.Limit = 12
  srt : Srt q.Msgs
  perm : q.Msgs.Perm ((List.range i).map fun t => nb raw (f t))

section
variable {raw : List T37_6_int} {n : Nat} {f : Nat → Nat} {i : Nat} {q : T26_Queue}
theorem Inv.len (h : Inv raw n f i q) : q.Msgs.length = i := by have := h.perm.length_eq; simpa using this
theorem Inv.numbers (h : Inv raw n f i q) (hn : n ≤ raw.length) (hf : ∀ t, t < i → f t < n) : ∀ x ∈ q.Msgs, ∃ t, t < i ∧ x.Number = (f t : Int) + 1 := by
  intro x hx
  obtain ⟨t, ht, rfl⟩ := List.mem_map.1 (h.perm.subset hx)
  have ht := List.mem_range.1 ht
  exact ⟨t, ht, nb_number (by have := hf t ht; omega)⟩
theorem Inv.nodup (h : Inv raw n f i q) (hn : n ≤ raw.length) (hf : ∀ t, t < i → f t < n) (hinj : ∀ t u, t < i → u < i → f t = f u → t = u) : (q.Msgs.map (·.Number)).Nodup := by
  refine (List.Perm.nodup_iff (h.perm.map (·.Number))).2 ?_
  rw [List.map_map]
  refine List.pairwise_map.2 ?_
  refine List.Pairwise.imp_of_mem ?_ (List.nodup_range (n := i))
  intro t u ht hu htu he
  have ht := List.mem_range.1 ht
  have hu := List.mem_range.1 hu
  simp only [Function.comp] at he
  rw [nb_number (by have := hf t ht; omega), nb_number (by have := hf u hu; omega)] at he
  exact htu (hinj t u ht hu (by omega))
theorem Inv.qr (h : Inv raw n f i q) (hn : n ≤ raw.length) (hi : i ≤ 12) (hf : ∀ t, t < i → f t < n) (hinj : ∀ t u, t < i → u < i → f t = f u → t = u) : QR q :=
  QR_of (by rw [h.lim]; omega) (by rw [h.lim, h.len]; omega) h.srt (h.nodup hn hf hinj)
theorem Inv.next (h : Inv raw n f i q) (hn : n ≤ raw.length) (hf : ∀ t, t < i + 1 → f t < n) (hinj : ∀ t u, t < i + 1 → u < i + 1 → f t = f u → t = u) {m : T35_Message} (hm : m = nb raw (f i)) (hr : msgRight m = true) :
    (∀ x ∈ q.Msgs, x.Number ≠ m.Number) ∧ Inv raw n f (i + 1) (T26_Queue.mk q.Limit (putIn q.Msgs m)) := by
  have hne : ∀ x ∈ q.Msgs, x.Number ≠ m.Number := by
    intro x hx he
    obtain ⟨t, ht, e⟩ := h.numbers hn (fun t ht => hf t (by omega)) x hx
    rw [hm, nb_number (by have := hf i (by omega); omega), e] at he
    have := hinj t i (by omega) (by omega) (by omega)
    omega
  refine ⟨hne, h.lim, putIn_srt h.srt hr hne, ?_⟩
  refine (putIn_perm h.srt hr hne).trans ?_
  rw [List.range_succ, List.map_append]
  refine ((h.perm.cons m).trans ?_)
  rw [hm]
  exact (List.perm_append_comm (l₁ := [nb raw (f i)]) (l₂ := (List.range i).map fun t => nb raw (f t)))
end

theorem tmod_nat (a b : Nat) : Int.tmod (a : Int) (b : Int) = ((a % b : Nat) : Int) := by
  rw [Int.tmod_eq_emod_of_nonneg (by omega)]; omega
theorem rot_perm (n k : Nat) (h : k ≤ n) (h0 : 0 < n) : ((List.range n).map fun t => (t + k) % n).Perm (List.range n) := by
  have e1 : List.range n = List.range' 0 (n - k) ++ List.range' (n - k) k := by
    have := List.range'_append_1 (s := 0) (m := n - k) (n := k)
    rw [List.range_eq_range', show n = n - k + k by omega]
    simpa using this.symm
  have e2 : List.range n = List.range' 0 k ++ List.range' k (n - k) := by
    have := List.range'_append_1 (s := 0) (m := k) (n := n - k)
    rw [List.range_eq_range']
    simpa [show k + (n - k) = n by omega] using this.symm
  have m1 : (List.range' 0 (n - k)).map (fun t => (t + k) % n) = List.range' k (n - k) := by
    apply List.ext_getElem
    · simp
    · intro j h1 h2
      simp at h1 ⊢
      rw [Nat.mod_eq_of_lt (by omega)]; omega
  have m2 : (List.range' (n - k) k).map (fun t => (t + k) % n) = List.range' 0 k := by
    apply List.ext_getElem
    · simp
    · intro j h1 h2
      simp at h1 ⊢
      rw [show n - k + j + k = j + n by omega, Nat.add_mod_right, Nat.mod_eq_of_lt (by omega)]
  rw [e1, List.map_append, m1, m2, ← e1, e2]
  exact List.perm_append_comm

section
variable {raw : List T37_6_int} {at_ : Int} {n k : Nat}
theorem rot_lt (h0 : 0 < n) : ∀ t, (t + k) % n < n := fun t => Nat.mod_lt _ h0
theorem rot_inj (hk : k ≤ n) : ∀ t u, t < n → u < n → (t + k) % n = (u + k) % n → t = u := by
  intro t u ht hu h
  have e : ∀ t, t < n → (t + k) % n = if t + k < n then t + k else t + k - n := by
    intro t ht
    split
    · exact Nat.mod_eq_of_lt (by omega)
    · rw [Nat.mod_eq_sub_mod (by omega)]
      by_cases h9 : t + k - n < n
      · exact Nat.mod_eq_of_lt h9
      · have : t + k - n = n := by omega
        omega
  rw [e t ht, e u hu] at h
  split at h <;> split at h <;> omega

theorem same_end (X : Ctx E) (hB : Base Tryd.prog E C) (ha : I64 at_) (hn : n ≤ raw.length) (hn10 : n ≤ 10) (hn1 : 1 ≤ n) (hk : k ≤ n) {a b : T26_Queue}
    (ia : Inv raw n (fun t => t) n a) (ib : Inv raw n (fun t => (t + k) % n) n b) : a = b := by
  obtain ⟨la, ma⟩ := a
  obtain ⟨lb, mb⟩ := b
  have h1 := ia.lim; have h2 := ib.lim
  simp only at h1 h2
  subst h1 h2
  congr 1
  refine srt_unique ia.srt.ord ib.srt.ord (ia.perm.trans (List.Perm.trans ?_ ib.perm.symm))
  have := (rot_perm n k hk (by omega)).map (fun t => nb raw t)
  rw [List.map_map] at this
  exact this.symm

theorem txq_loop (X : Ctx E) (hB : Base Tryd.prog E C) (hraw : ∀ y ∈ raw, I6 y) (ha : I64 at_) (hn : n ≤ raw.length) (hn10 : n ≤ 10) (hn1 : 1 ≤ n) (hk : k ≤ n) :
    ∀ (d i : Nat), n - i = d → 1 ≤ i → i ≤ n → ∀ (a b : T26_Queue), Inv raw n (fun t => t) i a → Inv raw n (fun t => (t + k) % n) i b →
      f3_at2 C raw at_ true (n : Int) (newQ 12).2 (newQ 12).2 (k : Int) (i : Int) a b [] (AV.bool true) := by
  intro d
  induction d with
  | zero =>
    intro i h1 h2 h3 a b ia ib
    have hi : i = n := by omega
    subst hi
    have hab : a = b := same_end X hB ha hn hn10 hn1 hk ia ib
    have qa : QR a := ia.qr hn (by omega) (fun t ht => ht) (fun t u _ _ h => h)
    have hlen := ia.len
    have h6 : I6 (T37_6_int.mk at_ at_ at_ at_ at_ at_) := ⟨ha, ha, ha, ha, ha, ha⟩
    have hm := numbered_right h6 (k := 99) (by omega)
    have hne : ∀ x ∈ a.Msgs, x.Number ≠ (numberedS (T37_6_int.mk at_ at_ at_ at_ at_ at_) 99).Number := by
      intro x hx he
      obtain ⟨t, ht, e⟩ := ia.numbers hn (fun t ht => ht) x hx
      rw [e] at he
      have : (numberedS (T37_6_int.mk at_ at_ at_ at_ at_ at_) 99).Number = 99 := rfl
      omega
    obtain ⟨p1, p2, p3⟩ := abort_put ia.srt hm hne
    have hpl := putIn_length ia.srt hm hne
    have hq2 : QR (T26_Queue.mk a.Limit (putIn a.Msgs (numberedS (T37_6_int.mk at_ at_ at_ at_ at_ at_) 99))) := by
      refine QR_of (by rw [ia.lim]; omega) ?_ (putIn_srt ia.srt hm hne) ?_
      · show ((putIn a.Msgs _).length : Int) ≤ a.Limit
        rw [hpl, ia.lim]; omega
      · refine (List.Perm.nodup_iff ((putIn_perm ia.srt hm hne).map (·.Number))).2 ?_
        refine List.nodup_cons.2 ⟨fun hx => ?_, ia.nodup hn (fun t ht => ht) (fun t u _ _ h => h)⟩
        obtain ⟨x, hx, e⟩ := List.mem_map.1 hx
        exact hne x hx e
    have hidx := idxS_none' hne
    have hpos : 0 < a.Msgs.length := by omega
    have hidx0 : idxS (fun _ : T35_Message => true) a.Msgs = 0 := idxS_some (i := 0) hpos rfl (fun j hj => by omega)
    have h0 : a.Msgs[0]? = some a.Msgs[0] := List.getElem?_eq_getElem hpos
    refine f3_wp2 X hB _ _ _ _ _ _ _ _ _ _ ⟨fun h => by omega, fun _ => ⟨h6, qa, hm, by rw [hidx]; omega, by rw [hlen, ia.lim]; omega, by omega, by omega, hq2, p1, _, Int.not_lt.1 p1, p2, by omega, by omega, _, by omega, h0, by omega, by rw [hidx0]; omega, a.Msgs[0], by rw [hidx0]; omega, ?_, rfl, rfl, rfl, hab, rfl, ?_, ?_, ?_, rfl, ?_⟩⟩
    · rw [hidx0]; exact h0
    · show (delAt _ _ _).length ≤ _
      exact Nat.le_trans (Nat.le_of_eq (congrArg List.length p3)) (by omega)
    · show T26_Queue.mk a.Limit (delAt _ _ _) = a
      exact (congrArg (T26_Queue.mk a.Limit) p3).trans rfl
    · simp; omega
    · rw [T35_Message.beqT rfl]
  | succ d ih =>
    intro i h1 h2 h3 a b ia ib
    have hin : i < n := by omega
    have hj := rot_lt (k := k) (show 0 < n by omega) i
    have hget : raw[(i : Int).toNat]? = some raw[i] := by simp [show i < raw.length by omega]
    have hgj : raw[(i + k) % n]? = some (raw[(i + k) % n]'(by omega)) := List.getElem?_eq_getElem (by omega)
    have ri := hraw raw[i] (by simp)
    have rj := hraw (raw[(i + k) % n]'(by omega)) (by simp)
    have et : Int.tmod ((i : Int) + (k : Int)) (n : Int) = (((i + k) % n : Nat) : Int) := by rw [← tmod_nat]; congr 1
    have mi := numbered_right ri (k := (i : Int) + 1) (by omega)
    have mj := numbered_right rj (k := (((i + k) % n : Nat) : Int) + 1) (by omega)
    obtain ⟨na, ia'⟩ := ia.next hn (fun t ht => by omega) (fun t u _ _ h => h) (m := numberedS raw[i] ((i : Int) + 1)) (nb_get (List.getElem?_eq_getElem (by omega))).symm mi
    obtain ⟨nb', ib'⟩ := ib.next hn (fun t ht => rot_lt (by omega) t) (fun t u ht hu h => rot_inj hk t u (by omega) (by omega) h) (m := numberedS (raw[(i + k) % n]'(by omega)) ((((i + k) % n : Nat) : Int) + 1)) (nb_get hgj).symm mj
    have qa : QR a := ia.qr hn (by omega) (fun t ht => by omega) (fun t u _ _ h => h)
    have qb : QR b := ib.qr hn (by omega) (fun t ht => rot_lt (by omega) t) (fun t u ht hu h => rot_inj hk t u (by omega) (by omega) h)
    have la := ia.len; have lb := ib.len
    have xa := idxS_none' na
    have xb := idxS_none' nb'
    refine f3_wp2 X hB _ _ _ _ _ _ _ _ _ _ ⟨fun h => ⟨by omega, by omega, raw[i], by omega, hget, by omega, ri, qa, mi, by rw [xa]; omega, by rw [la, ia.lim]; omega, by omega, by omega, ?_⟩, fun h => by omega⟩
    rw [et]
    refine ⟨_, by omega, (by rw [Int.toNat_natCast]; exact hgj), by omega, rj, qb, mj, by rw [xb]; omega, by rw [lb, ib.lim]; omega, by omega, by omega, ?_⟩
    exact ih (i + 1) (by omega) (by omega) (by omega) _ _ ia' ib'

theorem srt_nil : Srt [] := ⟨by simp, .nil⟩
theorem txq_zero (X : Ctx E) (hB : Base Tryd.prog E C) (ha : I64 at_) :
    f3_at1 C raw at_ true 0 (newQ 12).2 (newQ 12).2 k 0 (newQ 12).1 (newQ 12).1 [] (AV.bool true) := by
  have h6 : I6 (T37_6_int.mk at_ at_ at_ at_ at_ at_) := ⟨ha, ha, ha, ha, ha, ha⟩
  have hm := numbered_right h6 (k := 99) (by omega)
  have hl : (1 : Int) ≤ (newQ 12).1 ∧ (newQ 12).1 ≤ 32 := by decide
  obtain ⟨p1, p2, p3⟩ := abort_put srt_nil hm (by simp)
  have e : putIn [] (numberedS (T37_6_int.mk at_ at_ at_ at_ at_ at_) 99) = [numberedS (T37_6_int.mk at_ at_ at_ at_ at_ at_) 99] := rfl
  rw [e] at p1 p2 p3
  have hq : QR (T26_Queue.mk (newQ 12).1 [numberedS (T37_6_int.mk at_ at_ at_ at_ at_ at_) 99]) :=
    QR_of hl (show (1 : Int) ≤ 12 by decide) ⟨by simpa using hm, by simp⟩ (by simp)
  refine f3_wp1 X hB _ _ _ _ _ _ _ _ _ _ ⟨fun h => by omega, fun _ => ⟨h6, hl, hm, hq, p1, _, Int.not_lt.1 p1, p2, by simp, QR_nil hl, by simp, by rw [idxS_nil]; omega, by simp, rfl, rfl, rfl, by simp, rfl, rfl, ?_, ?_, by simp, rfl, ?_⟩⟩
  · show (delAt _ _ _).length ≤ _
    exact Nat.le_trans (Nat.le_of_eq (congrArg List.length p3)) (by simp)
  · exact congrArg (T26_Queue.mk _) p3
  · rw [T35_Message.beqT rfl]
theorem inv_one {f : Nat → Nat} {m : T35_Message} (hm : m = nb raw (f 0)) (hr : msgRight m = true) : Inv raw n f 1 (T26_Queue.mk (newQ 12).1 [m]) :=
  ⟨rfl, ⟨by simpa using hr, by simp⟩, by simp [hm]⟩

theorem c3 (X : Ctx E) (raw : List T37_6_int) (at_ : Int) (hraw : ∀ y ∈ raw, I6 y) (ha : I64 at_) : ACalls Tryd.prog E 3 [(AV.sl .p (raw.map T37_6_int.av)), (AV.int .i64 at_)] [] (AV.bool true) := by
  refine f3_calls X raw at_ fun C hB => ?_
  obtain ⟨n, hn, hn1, hn2⟩ : ∃ n : Nat, (if 10 < (raw.length : Int) then 10 else (raw.length : Int)) = (n : Int) ∧ n ≤ raw.length ∧ n ≤ 10 := by
    by_cases h : 10 < (raw.length : Int)
    · exact ⟨10, by rw [if_pos h]; rfl, by omega, by omega⟩
    · exact ⟨raw.length, by rw [if_neg h], by omega, by omega⟩
  refine f3_wp0 X hB raw at_ ?_
  rw [hn]
  have hp := pickS_range ha (n := (n : Int) + 1) (by omega)
  obtain ⟨k, hk⟩ : ∃ k : Nat, pickS at_ ((n : Int) + 1) = (k : Int) := ⟨(pickS at_ ((n : Int) + 1)).toNat, by omega⟩
  refine ⟨by omega, ha, by omega, ?_⟩
  rw [hk] at hp ⊢
  rcases Nat.eq_zero_or_pos n with h0 | h0
  · subst h0
    exact txq_zero (k := k) X hB ha
  · have hj := rot_lt (k := k) h0 0
    have hget : raw[(0 : Int).toNat]? = some raw[0] := by simp [show 0 < raw.length by omega]
    have hgj : raw[(0 + k) % n]? = some (raw[(0 + k) % n]'(by omega)) := List.getElem?_eq_getElem (by omega)
    have ri := hraw raw[0] (by simp)
    have rj := hraw (raw[(0 + k) % n]'(by omega)) (by simp)
    have et : Int.tmod ((0 : Int) + (k : Int)) (n : Int) = (((0 + k) % n : Nat) : Int) := by rw [← tmod_nat]; congr 1
    have mi := numbered_right ri (k := (0 : Int) + 1) (by omega)
    have mj := numbered_right rj (k := (((0 + k) % n : Nat) : Int) + 1) (by omega)
    have hl : (1 : Int) ≤ (newQ 12).1 ∧ (newQ 12).1 ≤ 32 := by decide
    refine f3_wp1 X hB _ _ _ _ _ _ _ _ _ _ ⟨fun h => ⟨by omega, by omega, raw[0], by omega, hget, by omega, ri, hl, mi, ?_⟩, fun h => by omega⟩
    rw [et]
    refine ⟨_, by omega, (by rw [Int.toNat_natCast]; exact hgj), by omega, rj, hl, mj, ?_⟩
    exact txq_loop X hB hraw ha hn1 hn2 h0 (by omega) (n - 1) 1 rfl (by omega) h0 _ _ (inv_one (nb_get (List.getElem?_eq_getElem (by omega))).symm mi) (inv_one (nb_get hgj).symm mj)
end
end Go.Abs
