/- What abstract values stand for: how that is kept, taken apart and put together. -/
import Derived.Test.YteocckoglkbonaaDoorE2
set_option linter.unusedVariables false
set_option linter.unusedSimpArgs false
namespace Go.Abs
open Go.RowKit

section mono
variable {A A' : Nat → Prop} {w w' : World}

/-- Blocks of A are blocks of A', and have not changed. -/
def KeepB (A A' : Nat → Prop) (w w' : World) : Prop := ∀ b, A b → A' b ∧ w'.heap[b]? = w.heap[b]?

theorem KeepB.cell (k : KeepB A A' w w') {b o : Nat} (h : A b) : w'.cell? ⟨b, o, none⟩ = w.cell? ⟨b, o, none⟩ := by
  have := (k b h).2
  simp [World.cell?, this]

mutual
theorem Rep.mono (k : KeepB A A' w w') : ∀ {x v}, Rep A w x v → Rep A' w' x v
  | _, _, .bool b => .bool b
  | _, _, .int k n => .int k n
  | _, _, .str s => .str s
  | _, _, .agg h => .agg (RepL.mono k h)
  | _, _, .tup h => .tup (RepL.mono k h)
  | _, _, .fn h => .fn (RepL.mono k h)
  | _, _, .nilp => .nilp
  | _, _, .pin ha h => .pin (k _ ha).1 (RepAt.mono k ha h)
  | _, _, .nil fl => .nil fl
  | _, _, .sl0 h => .sl0 h
  | _, _, .sl h1 h2 h3 ha h => .sl h1 h2 h3 (k _ ha).1 (RepRow.mono k ha h)
theorem RepL.mono (k : KeepB A A' w w') : ∀ {xs vs}, RepL A w xs vs → RepL A' w' xs vs
  | _, _, .nil => .nil
  | _, _, .cons h t => .cons (Rep.mono k h) (RepL.mono k t)
theorem RepAt.mono (k : KeepB A A' w w') : ∀ {xs b o}, A b → RepAt A w xs b o → RepAt A' w' xs b o
  | _, _, _, _, .nil b o => .nil b o
  | _, _, _, ha, .cons hc h1 h t => .cons ((k.cell ha).trans hc) h1 (Rep.mono k h) (RepAt.mono k ha t)
theorem RepRow.mono (k : KeepB A A' w w') : ∀ {s xs b o}, A b → RepRow A w s xs b o → RepRow A' w' s xs b o
  | _, _, _, _, _, .nil s b o => .nil s b o
  | _, _, _, _, ha, .agg h t => .agg (RepAt.mono k ha h) (RepRow.mono k ha t)
  | _, _, _, _, ha, .one hx hc h1 h t => .one hx ((k.cell ha).trans hc) h1 (Rep.mono k h) (RepRow.mono k ha t)
end

/-- How the heap of own objects may go on without turning what is known of values. -/
structure KeepH (h h' : SH) (φ φ' : Nat → Value) : Prop where
  born : ∀ id, h id ≠ .unborn → h' id ≠ .unborn
  val : ∀ id, h id ≠ .unborn → φ' id = φ id
  alive : ∀ id, h id ≠ .unborn → h' id ≠ .dead → h id ≠ .dead
  row : ∀ id T s xs, h id ≠ .unborn → h' id = .row T s xs → ∃ T' xs', h id = .row T' s xs'

theorem KeepH.refl (h : SH) (φ : Nat → Value) : KeepH h h φ φ := ⟨fun _ h => h, fun _ _ => rfl, fun _ _ h => h, fun _ T _ xs _ h => ⟨T, xs, h⟩⟩
theorem KeepH.trans {h h' h'' : SH} {φ φ' φ'' : Nat → Value} (a : KeepH h h' φ φ') (b : KeepH h' h'' φ' φ'') : KeepH h h'' φ φ'' :=
  ⟨fun id hu => b.born id (a.born id hu), fun id hu => (b.val id (a.born id hu)).trans (a.val id hu), fun id hu hd => a.alive id hu (b.alive id (a.born id hu) hd),
   fun id T s xs hu hr => let ⟨_, _, h1⟩ := b.row id T s xs (a.born id hu) hr; a.row id _ s _ hu h1⟩

variable {h h' : SH} {φ φ' : Nat → Value}
mutual
theorem VRep.mono (k : KeepB A A' w w') (kh : KeepH h h' φ φ') : ∀ {x v}, VRep h φ A w x v → VRep h' φ' A' w' x v
  | _, _, .pure p => .pure (p.mono k)
  | _, _, .agg p => .agg (VRepL.mono k kh p)
  | _, _, .tup p => .tup (VRepL.mono k kh p)
  | _, _, .ptr hu hp => .ptr (kh.born _ hu) ((kh.val _ hu).trans hp)
  | _, _, .ptrE hu h1 hp => .ptrE (kh.born _ hu) h1 (fun T s xs hr => by
      obtain ⟨T', xs', h1⟩ := kh.row _ T s xs hu hr
      rw [kh.val _ hu]
      exact hp T' s xs' h1)
  | _, _, .own hu h1 hp => .own (kh.born _ hu) h1 (fun hd => by rw [kh.val _ hu]; exact hp (kh.alive _ hu hd))
  | _, _, .junk v => .junk v
theorem VRepL.mono (k : KeepB A A' w w') (kh : KeepH h h' φ φ') : ∀ {xs vs}, VRepL h φ A w xs vs → VRepL h' φ' A' w' xs vs
  | _, _, .nil => .nil
  | _, _, .cons p q => .cons (VRep.mono k kh p) (VRepL.mono k kh q)
end
end mono

section lists
variable {A : Nat → Prop} {w : World} {h : SH} {φ : Nat → Value}

theorem RepL.length {xs vs} (p : RepL A w xs vs) : xs.length = vs.length := by
  induction xs generalizing vs with
  | nil => cases p; rfl
  | cons x xs ih => cases p with | cons _ t => simp [ih t]
theorem VRepL.length {xs vs} (p : VRepL h φ A w xs vs) : xs.length = vs.length := by
  induction xs generalizing vs with
  | nil => cases p; rfl
  | cons x xs ih => cases p with | cons _ t => simp [ih t]
theorem RepL.v {xs vs} (p : RepL A w xs vs) : VRepL h φ A w xs vs := by
  induction xs generalizing vs with
  | nil => cases p; exact .nil
  | cons x xs ih => cases p with | cons a t => exact .cons (.pure a) (ih t)
theorem RepL.get {xs vs} (p : RepL A w xs vs) (i : Nat) {x : AV} (hx : xs[i]? = some x) : ∃ v, vs[i]? = some v ∧ Rep A w x v := by
  induction xs generalizing vs i with
  | nil => simp at hx
  | cons y xs ih =>
    cases p with
    | cons a t =>
      cases i with
      | zero => simp at hx; exact ⟨_, rfl, hx ▸ a⟩
      | succ i => simp at hx ⊢; exact ih t i hx
theorem VRepL.get {xs vs} (p : VRepL h φ A w xs vs) (i : Nat) {x : AV} (hx : xs[i]? = some x) : ∃ v, vs[i]? = some v ∧ VRep h φ A w x v := by
  induction xs generalizing vs i with
  | nil => simp at hx
  | cons y xs ih =>
    cases p with
    | cons a t =>
      cases i with
      | zero => simp at hx; exact ⟨_, rfl, hx ▸ a⟩
      | succ i => simp at hx ⊢; exact ih t i hx
theorem RepL.append {xs vs ys us} (p : RepL A w xs vs) (q : RepL A w ys us) : RepL A w (xs ++ ys) (vs ++ us) := by
  induction xs generalizing vs with
  | nil => cases p; exact q
  | cons x xs ih => cases p with | cons a t => exact .cons a (ih t)
theorem VRepL.append {xs vs ys us} (p : VRepL h φ A w xs vs) (q : VRepL h φ A w ys us) : VRepL h φ A w (xs ++ ys) (vs ++ us) := by
  induction xs generalizing vs with
  | nil => cases p; exact q
  | cons x xs ih => cases p with | cons a t => exact .cons a (ih t)
theorem RepL.take {xs vs} (p : RepL A w xs vs) (n : Nat) : RepL A w (xs.take n) (vs.take n) := by
  induction xs generalizing vs n with
  | nil => cases p; simp; exact .nil
  | cons x xs ih =>
    cases p with
    | cons a t =>
      cases n with
      | zero => simp; exact .nil
      | succ n => simp; exact .cons a (ih t n)
theorem RepL.drop {xs vs} (p : RepL A w xs vs) (n : Nat) : RepL A w (xs.drop n) (vs.drop n) := by
  induction xs generalizing vs n with
  | nil => cases p; simp; exact .nil
  | cons x xs ih =>
    cases p with
    | cons a t =>
      cases n with
      | zero => simp; exact .cons a t
      | succ n => simp; exact ih t n
theorem VRepL.take {xs vs} (p : VRepL h φ A w xs vs) (n : Nat) : VRepL h φ A w (xs.take n) (vs.take n) := by
  induction xs generalizing vs n with
  | nil => cases p; simp; exact .nil
  | cons x xs ih =>
    cases p with
    | cons a t =>
      cases n with
      | zero => simp; exact .nil
      | succ n => simp; exact .cons a (ih t n)
theorem VRepL.drop {xs vs} (p : VRepL h φ A w xs vs) (n : Nat) : VRepL h φ A w (xs.drop n) (vs.drop n) := by
  induction xs generalizing vs n with
  | nil => cases p; simp; exact .nil
  | cons x xs ih =>
    cases p with
    | cons a t =>
      cases n with
      | zero => simp; exact .cons a t
      | succ n => simp; exact ih t n
theorem VRepL.spl {cs vs ds us} (p : VRepL h φ A w cs vs) (q : VRepL h φ A w ds us) (off : Nat) : VRepL h φ A w (spl cs off ds) (vs.take off ++ (us ++ vs.drop (off + us.length))) := by
  unfold Go.Abs.spl
  rw [q.length]
  exact (p.take off).append (q.append (p.drop _))
theorem RepL.spl {cs vs ds us} (p : RepL A w cs vs) (q : RepL A w ds us) (off : Nat) : RepL A w (spl cs off ds) (vs.take off ++ (us ++ vs.drop (off + us.length))) := by
  unfold Go.Abs.spl
  rw [q.length]
  exact (p.take off).append (q.append (p.drop _))
theorem RepL.split {xs ys us} (p : RepL A w (xs ++ ys) us) : RepL A w xs (us.take xs.length) ∧ RepL A w ys (us.drop xs.length) := by
  induction xs generalizing us with
  | nil => simpa using ⟨.nil, p⟩
  | cons x xs ih =>
    cases p with
    | cons a t => obtain ⟨h1, h2⟩ := ih t; simp; exact ⟨.cons a h1, h2⟩

/-- Cells one behind the other, as a list of values. -/
theorem RepAt.get {cs b o} (p : RepAt A w cs b o) (i : Nat) {x : AV} (hx : cs[i]? = some x) : ∃ v, w.cell? ⟨b, o + i, none⟩ = some v ∧ Rep A w x v := by
  induction cs generalizing o i with
  | nil => simp at hx
  | cons y cs ih =>
    cases p with
    | cons hc h1 a t =>
      cases i with
      | zero => simp at hx; exact ⟨_, hc, hx ▸ a⟩
      | succ i =>
        simp at hx
        obtain ⟨v, h1, h2⟩ := ih t i hx
        exact ⟨v, by rw [← h1]; congr 2; omega, h2⟩
theorem RepAt.list {cs b o} (p : RepAt A w cs b o) : ∃ vs, RepL A w cs vs ∧ (∀ i v, vs[i]? = some v → w.cell? ⟨b, o + i, none⟩ = some v) ∧ ∀ v ∈ vs, v.oneCell' = true := by
  induction cs generalizing o with
  | nil => exact ⟨[], .nil, fun i v hv => by simp at hv, fun v hv => by simp at hv⟩
  | cons y cs ih =>
    cases p with
    | cons hc h1 a t =>
      obtain ⟨vs, h2, h3, h4⟩ := ih t
      refine ⟨_ :: vs, .cons a h2, fun i v hv => ?_, fun v hv => ?_⟩
      · cases i with
        | zero => simp at hv; subst hv; exact hc
        | succ i => simp at hv; rw [← h3 i v hv]; congr 2; omega
      · rcases List.mem_cons.1 hv with rfl | hv
        · exact h1
        · exact h4 v hv
theorem RepAt.ofList {cs vs b o} (p : RepL A w cs vs) (hc : ∀ i v, vs[i]? = some v → w.cell? ⟨b, o + i, none⟩ = some v) (h1 : ∀ v ∈ vs, v.oneCell' = true) : RepAt A w cs b o := by
  induction cs generalizing vs o with
  | nil => exact .nil b o
  | cons y cs ih =>
    cases p with
    | cons a t =>
      refine .cons (hc 0 _ (by simp)) (h1 _ (by simp)) a (ih t (fun i v hv => ?_) fun v hv => h1 v (by simp [hv]))
      have := hc (i + 1) v (by simpa using hv)
      rw [← this]; congr 2; omega
/-- A row of elements is a list of elements' cells. -/
theorem cells_agg (cs : List AV) : AV.cells (.agg cs) = cs := rfl
theorem RepRow.list {s xs b o} (p : RepRow A w s xs b o) : RepAt A w (xs.flatMap AV.cells) b o ∧ ∀ x ∈ xs, x.cells.length = s := by
  induction xs generalizing o with
  | nil => exact ⟨.nil b o, fun x hx => by simp at hx⟩
  | cons y xs ih =>
    cases p with
    | agg a t =>
      obtain ⟨h1, h2⟩ := ih t
      rename_i cs
      refine ⟨?_, fun x hx => ?_⟩
      · obtain ⟨vs, hv, hc, hv1⟩ := a.list
        obtain ⟨us, hu, hd, hu1⟩ := h1.list
        refine RepAt.ofList (vs := vs ++ us) (by simpa [cells_agg] using hv.append hu) (fun i v hi => ?_) (fun v hv' => by rcases List.mem_append.1 hv' with h | h; exact hv1 v h; exact hu1 v h)
        have hl := hv.length
        rcases Nat.lt_or_ge i vs.length with hlt | hge
        · rw [List.getElem?_append_left hlt] at hi; exact hc i v hi
        · rw [List.getElem?_append_right hge] at hi
          rw [← hd _ v hi]; congr 2; omega
      · rcases List.mem_cons.1 hx with rfl | hx
        · rfl
        · exact h2 x hx
    | one hx hc h0 a t =>
      obtain ⟨h1, h2⟩ := ih t
      refine ⟨?_, fun x hx' => ?_⟩
      · simp only [List.flatMap_cons, hx, List.singleton_append]
        exact .cons hc h0 a h1
      · rcases List.mem_cons.1 hx' with rfl | hx'
        · simp [hx]
        · exact h2 x hx'
theorem cells_one_or {x : AV} : (∃ cs, x = .agg cs) ∨ x.cells = [x] := by cases x <;> simp [AV.cells]
theorem RepRow.ofAt {s xs b o} (p : RepAt A w (xs.flatMap AV.cells) b o) (hs : ∀ x ∈ xs, x.cells.length = s) : RepRow A w s xs b o := by
  induction xs generalizing o with
  | nil => exact .nil s b o
  | cons y xs ih =>
    have hy := hs y (by simp)
    obtain ⟨vs, hv, hc, hv1⟩ := p.list
    simp only [List.flatMap_cons] at hv
    obtain ⟨h1, h2⟩ := hv.split
    have t : RepAt A w (xs.flatMap AV.cells) b (o + y.cells.length) := RepAt.ofList h2 (fun i v hi => by
      rw [List.getElem?_drop] at hi
      rw [← hc _ v hi]; congr 2; omega) (fun v hv => hv1 v (List.mem_of_mem_drop hv))
    have a : RepAt A w y.cells b o := RepAt.ofList h1 (fun i v hi => by
      rw [List.getElem?_take] at hi
      split at hi
      · exact hc i v hi
      · simp at hi) (fun v hv => hv1 v (List.mem_of_mem_take hv))
    rcases cells_one_or (x := y) with ⟨cs, rfl⟩ | h
    · subst hy
      exact .agg a (ih t fun x hx => hs x (by simp [hx]))
    · rw [h] at a t hy
      simp at hy
      subst hy
      cases a with
      | cons hc' h0 a' _ => exact .one h hc' h0 a' (ih t fun x hx => hs x (by simp [hx]))
theorem RepRow.get {s xs b o} (p : RepRow A w s xs b o) (i : Nat) {x : AV} (hx : xs[i]? = some x) : RepAt A w x.cells b (o + i * s) ∧ x.cells.length = s := by
  induction xs generalizing o i with
  | nil => simp at hx
  | cons y xs ih =>
    cases p with
    | agg a t =>
      cases i with
      | zero => simp at hx; subst hx; exact ⟨by simpa [cells_agg] using a, rfl⟩
      | succ i =>
        simp at hx
        obtain ⟨h1, h2⟩ := ih t i hx
        refine ⟨?_, h2⟩
        have : ∀ n : Nat, o + (i + 1) * n = o + n + i * n := fun n => by rw [Nat.add_mul]; omega
        rw [this]; exact h1
    | one hy hc h0 a t =>
      cases i with
      | zero => simp at hx; subst hx; rw [hy]; exact ⟨.cons (by simpa using hc) h0 a (.nil _ _), rfl⟩
      | succ i =>
        simp at hx
        obtain ⟨h1, h2⟩ := ih t i hx
        refine ⟨?_, h2⟩
        have : o + (i + 1) * 1 = o + 1 + i * 1 := by omega
        rw [this]; exact h1

/-- One cell's value. -/
theorem Rep.one {x v} (p : Rep A w x v) (hx : x.one = true) : v.oneCell' = true := by
  cases p <;> first | rfl | (simp [AV.one] at hx; done)
theorem VRep.one {x v} (p : VRep h φ A w x v) (hx : x.one = true) : v.oneCell' = true := by
  cases p <;> first | rfl | assumption | (simp [AV.one] at hx; done) | exact Rep.one (by assumption) hx
theorem VRepL.ones {xs vs} (p : VRepL h φ A w xs vs) (hx : known xs = true) : ∀ v ∈ vs, v.oneCell' = true := by
  induction xs generalizing vs with
  | nil => cases p; intro v hv; simp at hv
  | cons x xs ih =>
    cases p with
    | cons a t =>
      simp [known] at hx
      intro v hv
      rcases List.mem_cons.1 hv with rfl | hv
      · exact a.one hx.1
      · exact ih t hx.2 v hv
end lists

end Go.Abs
