/- Regions that draw their order. -/
import Derived.Test.YteocckoglkbonaaDoorE16
set_option linter.unusedVariables false
set_option linter.unusedSimpArgs false
set_option linter.unusedSectionVars false
namespace Go.Abs
open Go.RowKit

/-! ### Writes that are replayed -/
section rep
variable {L V : Type} (W : Ev → (L → V) → L → V)

def rep (D : Nat → Bool) : Nat → List Ev → (L → V) → L → V
  | _, [], f => f
  | i, e :: r, f => rep D (i + 1) r (if D i then W e f else f)

variable {wr : Ev → L → Prop} (hno : ∀ e f l, ¬ wr e l → W e f l = f l) (hyes : ∀ e f f' l, wr e l → W e f l = W e f' l)
include hno hyes

theorem rep_same {D D' : Nat → Bool} {l : L} : ∀ (es : List Ev) (i : Nat) (f f' : L → V), (∀ k e, es[k]? = some e → wr e l → D (i + k) = D' (i + k)) → f l = f' l → rep W D i es f l = rep W D' i es f' l := by
  intro es
  induction es with
  | nil => intro i f f' _ h; exact h
  | cons e es ih =>
    intro i f f' hD hf
    simp only [rep]
    refine ih (i + 1) _ _ (fun k e' he hw => ?_) ?_
    · have := hD (k + 1) e' (by simpa using he) hw
      rwa [show i + (k + 1) = i + 1 + k by omega] at this
    · by_cases hw : wr e l
      · have := hD 0 e rfl hw
        simp only [Nat.add_zero] at this
        rw [this]
        cases D' i
        · simpa using hf
        · simpa using hyes e f f' l hw
      · have h1 : (if D i = true then W e f else f) l = f l := by split; exact hno e f l hw; rfl
        have h2 : (if D' i = true then W e f' else f') l = f' l := by split; exact hno e f' l hw; rfl
        rw [h1, h2, hf]

omit hno hyes in
theorem rep_none : ∀ (es : List Ev) (i : Nat) (f : L → V), rep W (fun _ => false) i es f = f := by
  intro es
  induction es with
  | nil => intro i f; rfl
  | cons e es ih => intro i f; simp [rep, ih]

theorem rep_write {D : Nat → Bool} {l : L} {e : Ev} (hw : wr e l) (g : L → V) : ∀ (es : List Ev) (k i : Nat) (f : L → V), es[k]? = some e → D (i + k) = true →
    (∀ k' e', k < k' → es[k']? = some e' → wr e' l → D (i + k') = false) → rep W D i es f l = W e g l := by
  intro es
  induction es with
  | nil => intro k i f he; simp at he
  | cons e0 es ih =>
    intro k i f he hD hl
    cases k with
    | zero =>
      simp at he; subst he
      simp only [Nat.add_zero] at hD
      simp only [rep, hD, if_true]
      have := rep_same W hno hyes (D := D) (D' := fun _ => false) (l := l) es (i + 1) (W e0 f) (W e0 f) (fun k e' he' hw' => by
        have := hl (k + 1) e' (by omega) (by simpa using he') hw'
        rwa [show i + (k + 1) = i + 1 + k by omega] at this) rfl
      rw [this, rep_none]
      exact hyes e0 f g l hw
    | succ k =>
      simp only [rep]
      refine ih k (i + 1) _ (by simpa using he) (by rwa [show i + 1 + k = i + (k + 1) by omega]) (fun k' e' hk he' hw' => ?_)
      have := hl (k' + 1) e' (by omega) (by simpa using he') hw'
      rwa [show i + (k' + 1) = i + 1 + k' by omega] at this

omit hno hyes in
theorem rep_shift : ∀ (es : List Ev) (i j : Nat) (f : L → V), rep W (fun _ => true) i es f = rep W (fun _ => true) j es f := by
  intro es
  induction es with
  | nil => intro i j f; rfl
  | cons e es ih => intro i j f; simp only [rep]; exact ih _ _ _
omit hno hyes in
theorem rep_prefix : ∀ (es : List Ev) (k i : Nat) (f : L → V), rep W (fun j => decide (j < i + k)) i es f = rep W (fun _ => true) i (es.take k) f := by
  intro es
  induction es with
  | nil => intro k i f; simp [rep]
  | cons e es ih =>
    intro k i f
    cases k with
    | zero =>
      simp only [List.take_zero, rep]
      have : ∀ (l : List Ev) (j : Nat) (g : L → V), i ≤ j → rep W (fun j => decide (j < i + 0)) j l g = g := by
        intro l
        induction l with
        | nil => intro j g _; rfl
        | cons e l ih2 =>
          intro j g hj
          simp only [rep]
          rw [if_neg (by simp; omega), ih2 (j + 1) g (by omega)]
      rw [if_neg (by simp), this es (i + 1) f (by omega)]
    | succ k =>
      simp only [List.take_succ_cons, rep]
      rw [if_pos (by simp), if_pos trivial, ← ih k (i + 1)]
      congr 1
      funext j
      congr 1
      simp only [eq_iff_iff]
      omega
end rep

/-! The two kinds of writes. -/
def WT (n : Nat) (e : Ev) (f : Nat → AV) : Nat → AV := putF n f e.dst e.val
def WI (e : Ev) (f : SH) : SH := updS f e.wI

theorem WT_no (n : Nat) (e : Ev) (f : Nat → AV) (t : Nat) (h : ¬ (e.dst = some t ∧ t < n)) : WT n e f t = f t := by simp [WT, putF, h]
theorem WT_yes (n : Nat) (e : Ev) (f f' : Nat → AV) (t : Nat) (h : e.dst = some t ∧ t < n) : WT n e f t = WT n e f' t := by simp [WT, putF, h]
theorem updS_no : ∀ (us : List (Nat × Ob)) (h : SH) (id : Nat), id ∉ ids us → updS h us id = h id := by
  intro us
  induction us with
  | nil => intro h id _; rfl
  | cons p us ih =>
    obtain ⟨k, o⟩ := p
    intro h id hn
    simp [ids] at hn
    simp only [updS]
    rw [ih _ _ (by simpa [ids] using hn.2)]
    simp [upd1, hn.1]
theorem updS_yes : ∀ (us : List (Nat × Ob)) (h h' : SH) (id : Nat), id ∈ ids us → updS h us id = updS h' us id := by
  intro us
  induction us with
  | nil => intro h h' id hi; simp [ids] at hi
  | cons p us ih =>
    obtain ⟨k, o⟩ := p
    intro h h' id hi
    simp only [updS]
    by_cases h1 : id ∈ ids us
    · exact ih _ _ id h1
    · rw [updS_no _ _ _ h1, updS_no _ _ _ h1]
      have : id = k := by
        simp [ids] at hi h1
        rcases hi with hi | ⟨o', hi⟩
        · exact hi
        · exact absurd hi (h1 o')
      simp [upd1, this]
theorem WI_no (e : Ev) (f : SH) (id : Nat) (h : ¬ id ∈ ids e.wI) : WI e f id = f id := updS_no _ _ _ h
theorem WI_yes (e : Ev) (f f' : SH) (id : Nat) (h : id ∈ ids e.wI) : WI e f id = WI e f' id := updS_yes _ _ _ _ h
theorem updS_append : ∀ (us vs : List (Nat × Ob)) (h : SH), updS h (us ++ vs) = updS (updS h us) vs := by
  intro us
  induction us with
  | nil => intro vs h; rfl
  | cons p us ih => obtain ⟨k, o⟩ := p; intro vs h; exact ih vs _
theorem updS_news : ∀ (os : List Ob) (h : SH) (n : Nat), updS h (news n os) = newS h n os := by
  intro os
  induction os with
  | nil => intro h n; rfl
  | cons o os ih => intro h n; exact ih _ _
theorem news_ids : ∀ (os : List Ob) (n k : Nat), k < os.length → n + k ∈ ids (news n os) := by
  intro os
  induction os with
  | nil => intro n k h; simp at h
  | cons o os ih =>
    intro n k h
    cases k with
    | zero => simp [ids, news]
    | succ k =>
      have := ih (n + 1) k (by simpa using h)
      simp only [ids, news, List.map_cons, List.mem_cons]
      right
      rw [show n + (k + 1) = n + 1 + k by omega]
      exact this

/-! ### What goes ahead -/
theorem memN_iff (n : Nat) : ∀ l : List Nat, memN n l = true ↔ n ∈ l := by
  intro l
  induction l with
  | nil => simp [memN]
  | cons k l ih =>
    simp only [memN, Bool.or_eq_true, ih, List.mem_cons, Nat.beq_eq]
    constructor
    · rintro (h | h)
      · exact .inl h.symm
      · exact .inr h
    · rintro (h | h)
      · exact .inl h.symm
      · exact .inr h
theorem meets_iff (a b : List Nat) : meets a b = true ↔ ∃ x, x ∈ a ∧ x ∈ b := by
  unfold meets
  rw [List.any_eq_true]
  simp only [memN_iff]

theorem foldl_bits (acc : List Nat) (i : Nat) : ∀ (l : List Edge) (s : Nat), (l.foldl (fun s e => s ||| 2 ^ e.on ||| acc.getD e.on 0) s).testBit i = true ↔
    s.testBit i = true ∨ ∃ e ∈ l, e.on = i ∨ (acc.getD e.on 0).testBit i = true := by
  intro l
  induction l with
  | nil => intro s; simp
  | cons e l ih =>
    intro s
    simp only [List.foldl_cons, ih, Nat.testBit_or, Nat.testBit_two_pow, Bool.or_eq_true, decide_eq_true_eq, List.mem_cons]
    constructor
    · rintro (((h | h) | h) | ⟨e', h1, h2⟩)
      · exact .inl h
      · exact .inr ⟨e, .inl rfl, .inl h⟩
      · exact .inr ⟨e, .inl rfl, .inr h⟩
      · exact .inr ⟨e', .inr h1, h2⟩
    · rintro (h | ⟨e', rfl | h1, h2⟩)
      · exact .inl (.inl (.inl h))
      · rcases h2 with h2 | h2
        · exact .inl (.inl (.inr h2))
        · exact .inl (.inr h2)
      · exact .inr ⟨e', h1, h2⟩

/-- What 'befs' tells. -/
theorem befs_spec : ∀ (r : List Oper) (acc bs : List Nat), befs r acc = some bs → bs.length = acc.length + r.length ∧ (∀ j, j < acc.length → bs[j]? = acc[j]?) ∧
    ∀ k o, r[k]? = some o → (∀ e ∈ o.after.toList, Region.binds .any e = true → e.on < acc.length + k) ∧
      ∀ i, (bs.getD (acc.length + k) 0).testBit i = true → ∃ e ∈ o.after.toList, Region.binds .any e = true ∧ (e.on = i ∨ (bs.getD e.on 0).testBit i = true) := by
  intro r
  induction r with
  | nil => intro acc bs h; simp [befs] at h; subst h; exact ⟨by simp, fun _ _ => rfl, fun k o h => by simp at h⟩
  | cons o r ih =>
    intro acc bs h
    simp only [befs] at h
    split at h
    · rename_i hc
      obtain ⟨h1, h2, h3⟩ := ih _ bs h
      simp only [List.length_append, List.length_cons, List.length_nil] at h1 h2 h3
      have hedge : ∀ e ∈ o.after.toList, Region.binds .any e = true → e.on < acc.length := by
        intro e he hb
        have := List.all_eq_true.1 hc e he
        simp [hb] at this
        exact this
      have hacc : ∀ j, j < acc.length → bs[j]? = acc[j]? := fun j hj => by rw [h2 j (by omega), List.getElem?_append_left hj]
      refine ⟨by simp only [List.length_cons]; omega, hacc, fun k o' hk => ?_⟩
      cases k with
      | zero =>
        simp at hk; subst hk
        refine ⟨by simpa using hedge, fun i hi => ?_⟩
        have hb : bs.getD (acc.length + 0) 0 = (o.after.toList.filter (Region.binds .any)).foldl (fun s e => s ||| 2 ^ e.on ||| acc.getD e.on 0) 0 := by
          simp only [Nat.add_zero, List.getD_eq_getElem?_getD]
          rw [h2 acc.length (by omega)]
          simp
        rw [hb, foldl_bits] at hi
        rcases hi with hi | ⟨e, he, hi⟩
        · simp at hi
        · rw [List.mem_filter] at he
          refine ⟨e, he.1, he.2, ?_⟩
          rcases hi with hi | hi
          · exact .inl hi
          · right
            simp only [List.getD_eq_getElem?_getD] at hi ⊢
            rw [hacc e.on (hedge e he.1 he.2)]
            exact hi
      | succ k =>
        have := h3 k o' (by simpa using hk)
        refine ⟨fun e he hb => by have := this.1 e he hb; omega, fun i hi => this.2 i (by rwa [show acc.length + 1 + k = acc.length + (k + 1) by omega])⟩
    · cases h

theorem orderedFrom_spec {bs : List Nat} {all : List Ev} {j : Nat} {ej : Ev} : ∀ (r : List Ev) (i : Nat), orderedFrom bs all j ej i r = true → ∀ k e, r[k]? = some e → i + k < j → conflict e ej = true → (bs.getD j 0).testBit (i + k) = true := by
  intro r
  induction r with
  | nil => intro i _ k e he; simp at he
  | cons e0 r ih =>
    intro i h k e he hlt hc
    simp only [orderedFrom, Bool.and_eq_true, Bool.or_eq_true, Nat.ble_eq] at h
    cases k with
    | zero =>
      simp at he; subst he
      rcases h.1 with (h1 | h1) | h1
      · omega
      · simpa using h1
      · rw [hc] at h1; simp at h1
    | succ k =>
      have := ih (i + 1) h.2 k e (by simpa using he) (by omega) hc
      rwa [show i + (k + 1) = i + 1 + k by omega]
theorem orderedAll_spec {bs : List Nat} {all : List Ev} : ∀ (r : List Ev) (j : Nat), orderedAll bs all j r = true → ∀ k ej, r[k]? = some ej → orderedFrom bs all (j + k) ej 0 all = true := by
  intro r
  induction r with
  | nil => intro j _ k e he; simp at he
  | cons e0 r ih =>
    intro j h k ej he
    simp only [orderedAll, Bool.and_eq_true] at h
    cases k with
    | zero => simp at he; subst he; exact h.1
    | succ k =>
      have := ih (j + 1) h.2 k ej (by simpa using he)
      rwa [show j + (k + 1) = j + 1 + k by omega]

/-- Sets of operations that hold what goes ahead of each. -/
def Closed (ops : List Oper) (D : Nat → Bool) : Prop := ∀ j o, ops[j]? = some o → D j = true → ∀ e ∈ o.after.toList, Region.binds .any e = true → D e.on = true

theorem closed_bits {ops : List Oper} {bs : List Nat} (hb : befs ops [] = some bs) {D : Nat → Bool} (hD : Closed ops D) : ∀ (j i : Nat), j < ops.length → (∀ e ∈ ((ops[j]?).map (·.after.toList)).getD [], Region.binds .any e = true → D e.on = true) → (bs.getD j 0).testBit i = true → D i = true := by
  intro j
  induction j using Nat.strongRecOn with
  | _ j ih =>
    intro i hj hr hi
    obtain ⟨h1, _, h3⟩ := befs_spec ops [] bs hb
    have ho : ops[j]? = some ops[j] := List.getElem?_eq_getElem hj
    obtain ⟨h4, h5⟩ := h3 j ops[j] ho
    simp only [List.length_nil, Nat.zero_add] at h4 h5
    obtain ⟨e, he, hbi, hor⟩ := h5 i hi
    have hDe : D e.on = true := hr e (by simpa [ho] using he) hbi
    rcases hor with h | h
    · rw [← h]; exact hDe
    · have hlt := h4 e he hbi
      have ho2 : ops[e.on]? = some ops[e.on] := List.getElem?_eq_getElem (by omega)
      exact ih e.on hlt i (by omega) (fun e' he' hb' => hD e.on ops[e.on] ho2 hDe e' (by simpa [ho2] using he') hb') h

end Go.Abs
