/- Code: what the machine does is what the abstract machine does. -/
import Derived.Test.YteocckoglkbonaaDoorE18
set_option linter.unusedVariables false
set_option linter.unusedSimpArgs false
set_option linter.unusedSectionVars false
namespace Go.Abs
open Go.RowKit

section run
variable {P : Program} {E : Env} {C : C0}

theorem runDraw_obl {ops : List Oper} {s s' : St} (he : runDraw P E ops s = some s') (h : All s'.obl) : All s.obl := by
  unfold runDraw at he
  split at he
  · rename_i es s1 bs hD hbs
    split at he
    · simp at he; subst he
      exact (runD_spec s.tmps.length ops s es s1 rfl hD).2.2.1 h
    · cases he
  · cases he

theorem arun_obl : ∀ (n : Nat) (todo : List Item) (s : St) (todo' : List Item) (s' : St), arun P E n todo s = some (todo', s') → All s'.obl → All s.obl := by
  intro n
  induction n with
  | zero => intro todo s todo' s' he h; simp [arun] at he; rw [he.2]; exact h
  | succ n ih =>
    intro todo s todo' s' he h
    unfold arun at he
    split at he
    · exact ih _ _ _ _ he h
    · exact ih _ _ _ _ he h
    · exact ih _ _ _ _ he h
    · exact ih _ _ _ _ he h
    · exact ih _ _ _ _ he h
    · exact ih _ _ _ _ he h
    · exact ih _ _ _ _ he h
    · split at he
      · exact ih _ _ _ _ he h
      · cases he
    · split at he
      · split at he
        · exact (ih _ _ _ _ he h).2
        · have h2 := ih _ _ _ _ he h
          exact h2
      · cases he
    · split at he
      · rename_i s1 h1
        have h2 := ih _ _ _ _ he h
        split at h1
        · exact runDraw_obl h1 h2
        · exact runOps_obl h1 h2
      · cases he
    · cases he

theorem steps_of_in {F : Fence} {m m' : Machine} (h : StepsIn (Machine.fenced P F) P m m') : Steps P m m' := h.steps

/-- A region, whichever. -/
theorem region_steps (hB : Base P E C) {ops : Array Oper} {d : Bool} {id : Nat} {s s' : St} (he : (if d then runDraw P E ops.toList s else runOps P E ops.toList ops.toList s) = some s') (hob : All s'.obl)
    {φ : Nat → Value} {a : Act} {w : World} (hs : SRel C s φ a w) (b : Frame) (cs : List Frame) (k : List Item) :
    ∃ φ' a' w', SRel C s' φ' a' w' ∧ a'.defers = a.defers ∧ Steps P (lone (b.atR a (.code (.region id ops d) :: k)) cs w) (lone (b.atR a' k) cs w') := by
  have hF : ∃ F : Fence, Wide F ∧ b.roundOf = F.round := by
    cases hb : b.roundOf with
    | none => exact ⟨Fence.wide, wide_wide, rfl⟩
    | some l => exact ⟨Fence.wide.inRound l, wide_round l, rfl⟩
  obtain ⟨F, hW, hro⟩ := hF
  have hwp : (Code.region id ops d).wpIn F 0 P (fun e a' w' => e = .normal ∧ a'.defers = a.defers ∧ ∃ φ', SRel C s' φ' a' w') a w := by
    cases d with
    | true => exact draw_sound hB hW 0 hs (by simpa using he) hob (fun φ' a' w' h1 h2 => ⟨rfl, h2, φ', h1⟩)
    | false => exact region_sound hB hW 0 hs (by simpa using he) hob (fun φ' a' w' h1 h2 => ⟨rfl, h2, φ', h1⟩)
  obtain ⟨e, a', w', ⟨rfl, h2, φ', h3⟩, harr⟩ := hwp b k cs hro (hW.fn _) (fun d hd => by rw [hW.depth] at hd; cases hd)
  exact ⟨φ', a', w', h3, h2, steps_of_in harr⟩

theorem arun_sound (hB : Base P E C) : ∀ (n : Nat) (todo : List Item) (s : St) (todo' : List Item) (s' : St), arun P E n todo s = some (todo', s') → All s'.obl →
    ∀ (φ : Nat → Value) (a : Act) (w : World), SRel C s φ a w → ∀ (b : Frame) (cs : List Frame), ∃ φ' a' w', SRel C s' φ' a' w' ∧ a'.defers = a.defers ∧
      Steps P (lone (b.atR a todo) cs w) (lone (b.atR a' todo') cs w') := by
  intro n
  induction n with
  | zero =>
    intro todo s todo' s' he hob φ a w hs b cs
    simp [arun] at he
    obtain ⟨rfl, rfl⟩ := he
    exact ⟨φ, a, w, hs, rfl, .refl _ _⟩
  | succ n ih =>
    intro todo s todo' s' he hob φ a w hs b cs
    have one : ∀ {todo1 : List Item}, step P (lone (b.atR a todo) cs w) = .next (lone (b.atR a todo1) cs w) → arun P E n todo1 s = some (todo', s') →
        ∃ φ' a' w', SRel C s' φ' a' w' ∧ a'.defers = a.defers ∧ Steps P (lone (b.atR a todo) cs w) (lone (b.atR a' todo') cs w') := by
      intro todo1 h1 h2
      obtain ⟨φ', a', w', g1, g2, g3⟩ := ih todo1 s todo' s' h2 hob φ a w hs b cs
      exact ⟨φ', a', w', g1, g2, .head h1 g3⟩
    unfold arun at he
    split at he
    · exact one stepR_skip he
    · exact one stepR_label he
    · exact one stepR_inBlock he
    · exact one stepR_seq he
    · exact one stepR_block he
    · exact one stepR_loop he
    · exact one stepR_inLoop he
    · split at he
      · rename_i k' hk
        exact one (stepR_exit hk) he
      · cases he
    · rename_i c x y k
      split at he
      · rename_i t ht
        have hev := FRel.eval (tfR := fun t => s.tmps.getD t .junk) hs (fun _ => .inr rfl) c
        rw [ht] at hev
        have hc := hev.inv_bool
        split at he
        · rename_i d scr hask
          obtain ⟨hd, _⟩ : t = d ∧ _ := by
            have := arun_obl _ _ _ _ _ he hob
            exact this
          subst hd
          have hs' : SRel C { s with cnt := s.cnt + 1, scr := scr, obl := (t = t) :: s.obl } φ a w := hs
          obtain ⟨φ', a', w', g1, g2, g3⟩ := ih _ _ todo' s' he hob φ a w hs' b cs
          exact ⟨φ', a', w', g1, g2, .head (stepR_cond hc) g3⟩
        · rename_i _ scr _ hask
          have hs' : SRel C { s with cnt := s.cnt + 1, scr := scr } φ a w := hs
          obtain ⟨φ', a', w', g1, g2, g3⟩ := ih _ _ todo' s' he hob φ a w hs' b cs
          exact ⟨φ', a', w', g1, g2, .head (stepR_cond hc) g3⟩
      · cases he
    · split at he
      · rename_i s1 h1
        obtain ⟨φ1, a1, w1, g1, g2, g3⟩ := region_steps hB h1 (arun_obl _ _ _ _ _ he hob) hs b cs _
        obtain ⟨φ', a', w', g4, g5, g6⟩ := ih _ _ todo' s' he hob φ1 a1 w1 g1 b cs
        exact ⟨φ', a', w', g4, g5.trans g2, g3.trans g6⟩
      · cases he
    · cases he
end run

/-! ### A state seen anew -/
section canon
variable {P : Program} {C : C0} {h : SH} {φ : Nat → Value} {w : World} {keep : List Nat}

theorem idx_some {id k : Nat} : ∀ {l : List Nat}, idx id l = some k → l[k]? = some id := by
  intro l
  induction l generalizing k with
  | nil => intro h; simp [idx] at h
  | cons x l ih =>
    intro h
    simp only [idx] at h
    split at h
    · rename_i hx
      simp at h; subst h
      simp at hx
      simp [hx]
    · split at h
      · rename_i n hn
        simp at h; subst h
        simpa using ih hn
      · cases h
theorem idx_none {id : Nat} : ∀ {l : List Nat}, idx id l = none → id ∉ l := by
  intro l
  induction l with
  | nil => intro _ h; simp at h
  | cons x l ih =>
    intro h
    simp only [idx] at h
    split at h
    · cases h
    · rename_i hx
      split at h
      · cases h
      · rename_i hn
        simp at hx
        simp only [List.mem_cons, not_or]
        exact ⟨fun e => hx e.symm, ih hn⟩
theorem nodupN_get {l : List Nat} (h : nodupN l = true) : ∀ {i j id : Nat}, l[i]? = some id → l[j]? = some id → i = j := by
  induction l with
  | nil => intro i j id h1; simp at h1
  | cons x l ih =>
    simp only [nodupN, Bool.and_eq_true, Bool.not_eq_true'] at h
    have hx : x ∉ l := fun hm => by rw [(memN_iff x l).2 hm] at h; exact absurd h.1 (by simp)
    intro i j id h1 h2
    cases i with
    | zero =>
      cases j with
      | zero => rfl
      | succ j => simp at h1 h2; subst h1; exact absurd (List.mem_of_getElem? h2) hx
    | succ i =>
      cases j with
      | zero => simp at h1 h2; subst h2; exact absurd (List.mem_of_getElem? h1) hx
      | succ j => simp at h1 h2; rw [ih h.2 h1 h2]

/-- The values of the objects that are kept. -/
def φkeep (φ : Nat → Value) (keep : List Nat) : Nat → Value := fun k => match keep[k]? with | some id => φ id | none => undef

variable {hs : List Ob}
theorem renH_get {look : Nat → Ob} : ∀ {l : List Nat} {os : List Ob}, renH look keep l = some os → os.length = l.length ∧ ∀ (k id : Nat), l[k]? = some id → ∃ o, os[k]? = some o ∧ (look id).ren look keep = some o := by
  intro l
  induction l with
  | nil => intro os h; simp [renH] at h; subst h; exact ⟨rfl, fun k id h => by simp at h⟩
  | cons x l ih =>
    intro os h
    simp only [renH] at h
    split at h
    · rename_i o os' h1 h2
      simp at h; subst h
      obtain ⟨h3, h4⟩ := ih h2
      refine ⟨by simp [h3], fun k id hk => ?_⟩
      cases k with
      | zero => simp at hk; subst hk; exact ⟨o, rfl, h1⟩
      | succ k => simp at hk ⊢; exact h4 k id hk
    · cases h

/-- What is kept, as a heap. -/
structure Kept (h : SH) (keep : List Nat) (h' : SH) : Prop where
  nodup : nodupN keep = true
  get : ∀ (k id : Nat), keep[k]? = some id → (h id).ren h keep = some (h' k)
  out : ∀ (k : Nat), keep[k]? = none → h' k = .unborn

theorem ren_live {o o' : Ob} {look : Nat → Ob} (h : o.ren look keep = some o') : o'.live = o.live := by
  cases o <;> simp only [Ob.ren] at h
  case box T cs =>
    split at h
    · simp at h; subst h; rfl
    · cases h
  all_goals (simp at h; subst h; rfl)

variable (hr : Rel C h φ w) {h' : SH} (hk : Kept h keep h')
include hr hk

theorem okB_keep {b : Nat} (hb : okB C h φ w b) : okB C h' (φkeep φ keep) w b := by
  refine ⟨hb.1, hb.2.1, fun k hl he => ?_⟩
  cases hkk : keep[k]? with
  | none => rw [hk.out k hkk] at hl; simp [Ob.live] at hl
  | some id =>
    have h1 := hk.get k id hkk
    rw [ren_live h1] at hl
    simp only [φkeep, hkk] at he
    exact hb.2.2 id hl he

/-- An object that is not kept is not written again. -/
theorem okB_gone {id : Nat} (hl : (h id).live = true) (hn : id ∉ keep) {b : Nat} (hb : blk (φ id) = some b) : okB C h' (φkeep φ keep) w b := by
  obtain ⟨h1, h2⟩ := (hr.obj id).block hl hb
  refine ⟨h1, .inr h2, fun k hlk he => ?_⟩
  cases hkk : keep[k]? with
  | none => rw [hk.out k hkk] at hlk; simp [Ob.live] at hlk
  | some id' =>
    have h3 := hk.get k id' hkk
    rw [ren_live h3] at hlk
    simp only [φkeep, hkk] at he
    have := hr.inj id' id b hlk hl he hb
    exact hn (this ▸ List.mem_of_getElem? hkk)

theorem view_gone {x y : AV} {v : Value} (hx : (∃ id, x = .own id ∧ id ∉ keep) ∨ ∃ id off, x = .ptr id off) (he : x.view h = some y) (p : VRep h φ (okB C h φ w) w x v) : Rep (okB C h' (φkeep φ keep) w) w y v := by
  refine view_rep (look := h) (A := okB C h φ w) he ⟨fun b hb => okB_keep hr hk hb, fun id hid xs hxs => ?_, fun id hid cs hcs => ?_⟩ p
  · rcases hxs with ⟨T, s, hxs⟩ | hxs
    · have hn : id ∉ keep := by
        rcases hx with ⟨id', rfl, hn⟩ | ⟨id', off, rfl⟩
        · simp [AV.refs] at hid; rw [hid]; exact hn
        · simp only [AV.view] at he
          simp [AV.refs] at hid
          rw [← hid, hxs] at he
          cases he
      have ho := hr.obj id
      rw [hxs] at ho
      obtain ⟨cells, g1, g2, g3, g4, g5⟩ := ho
      exact ⟨by rw [hxs]; simp, rep_of_owns g1 (g2.mono fun b hb => ⟨okB_keep hr hk hb, rfl⟩) g3 g5 (fun b hb => okB_gone hr hk (by simp [hxs, Ob.live]) hn hb)⟩
    · have ho := hr.obj id
      rw [hxs] at ho
      exact ⟨by rw [hxs]; simp, Rep.mono (fun b hb => ⟨okB_keep hr hk hb, rfl⟩) ho⟩
  · have ho := hr.obj id
    rw [hcs] at ho
    obtain ⟨b, g1, g2, g3⟩ := ho
    exact ⟨b, g1, okB_keep hr hk g2, g3.mono (fun b hb => ⟨okB_keep hr hk hb, rfl⟩) g2⟩

theorem kept_ob {k id : Nat} (hkk : keep[k]? = some id) (hu : h id ≠ .unborn) : h' k ≠ .unborn ∧ (h' k ≠ .dead → h id ≠ .dead) ∧ (∀ T s xs, h' k = .row T s xs → h id = .row T s xs) := by
  have h1 := hk.get k id hkk
  cases ho : h id with
  | box T cs =>
    rw [ho] at h1
    simp only [Ob.ren] at h1
    split at h1
    · simp at h1; rw [← h1]; simp
    · cases h1
  | _ =>
    rw [ho] at h1
    simp only [Ob.ren, Option.some.injEq] at h1
    rw [← h1]
    simp_all

mutual
theorem ren_rep : ∀ {x y : AV} {v : Value}, x.ren h keep = some y → VRep h φ (okB C h φ w) w x v → VRep h' (φkeep φ keep) (okB C h' (φkeep φ keep) w) w y v
  | .own id, y, v, he, p => by
    simp only [AV.ren] at he
    split at he
    · rename_i k hi
      simp at he; subst he
      have hkk := idx_some hi
      cases p with
      | pure p => cases p
      | own hu h1 hv =>
        obtain ⟨g1, g2, _⟩ := kept_ob hr hk hkk hu
        exact .own g1 h1 (fun hd => by simp only [φkeep, hkk]; exact hv (g2 hd))
    · rename_i hi
      exact .pure (view_gone hr hk (.inl ⟨id, rfl, idx_none hi⟩) he p)
  | .ptr id off, y, v, he, p => by
    simp only [AV.ren] at he
    split at he
    · rename_i k hi
      simp at he; subst he
      have hkk := idx_some hi
      obtain ⟨b, hb, rfl, hu⟩ := p.inv_ptr
      obtain ⟨g1, _, _⟩ := kept_ob hr hk hkk hu
      exact .ptr g1 (by simp only [φkeep, hkk]; exact hb)
    · exact .pure (view_gone hr hk (.inr ⟨id, off, rfl⟩) he p)
  | .ptrE id i off, y, v, he, p => by
    simp only [AV.ren] at he
    split at he
    · rename_i k hi
      simp at he; subst he
      have hkk := idx_some hi
      cases p with
      | pure p => cases p
      | ptrE hu h1 hv =>
        obtain ⟨g1, _, g3⟩ := kept_ob hr hk hkk hu
        refine .ptrE g1 h1 (fun T s xs hx => ?_)
        simp only [φkeep, hkk]
        exact hv T s xs (g3 T s xs hx)
    · cases he
  | .agg cs, y, v, he, p => by
    obtain ⟨vs, rfl, hv⟩ := p.inv_agg
    simp only [AV.ren] at he
    split at he
    · rename_i l e
      simp at he; subst he
      exact .agg (ren_repL e hv)
    · cases he
  | .tup cs, y, v, he, p => by
    obtain ⟨vs, rfl, hv⟩ := p.inv_tup
    simp only [AV.ren] at he
    split at he
    · rename_i l e
      simp at he; subst he
      exact .tup (ren_repL e hv)
    · cases he
  | .junk, y, v, he, p => by simp [AV.ren] at he; subst he; exact .junk _
  | .bool b, y, v, he, p => by simp [AV.ren] at he; subst he; rw [p.inv_bool]; exact .pure (.bool b)
  | .int q n, y, v, he, p => by simp [AV.ren] at he; subst he; rw [p.inv_int]; exact .pure (.int q n)
  | .str s, y, v, he, p => by simp [AV.ren] at he; subst he; rw [p.inv_str]; exact .pure (.str s)
  | .sl fl xs, y, v, he, p => by
    simp [AV.ren] at he; subst he
    cases p with | pure p => exact .pure (p.mono fun b hb => ⟨okB_keep hr hk hb, rfl⟩)
  | .fn f cap, y, v, he, p => by
    simp [AV.ren] at he; subst he
    cases p with | pure p => exact .pure (p.mono fun b hb => ⟨okB_keep hr hk hb, rfl⟩)
  | .pin cs off, y, v, he, p => by
    simp [AV.ren] at he; subst he
    cases p with | pure p => exact .pure (p.mono fun b hb => ⟨okB_keep hr hk hb, rfl⟩)
  | .nilp, y, v, he, p => by
    simp [AV.ren] at he; subst he
    cases p with | pure p => exact .pure (p.mono fun b hb => ⟨okB_keep hr hk hb, rfl⟩)
theorem ren_repL : ∀ {xs ys : List AV} {vs : List Value}, AV.renL h keep xs = some ys → VRepL h φ (okB C h φ w) w xs vs → VRepL h' (φkeep φ keep) (okB C h' (φkeep φ keep) w) w ys vs
  | [], ys, vs, he, p => by simp [AV.renL] at he; subst he; cases p; exact .nil
  | x :: xs, ys, vs, he, p => by
    simp only [AV.renL] at he
    split at he
    · rename_i y e1
      split at he
      · rename_i l e2
        simp at he; subst he
        cases p with
        | cons p1 p2 => exact .cons (ren_rep e1 p1) (ren_repL e2 p2)
      · cases he
    · cases he
end

/-- What is kept is as it was. -/
theorem keep_rel : Rel C h' (φkeep φ keep) w := by
  refine ⟨hr.below, fun k => ?_, fun k k' b hl hl' hb hb' => ?_⟩
  · cases hkk : keep[k]? with
    | none => rw [hk.out k hkk]; trivial
    | some id =>
      have h1 := hk.get k id hkk
      have ho := hr.obj id
      have hφ : φkeep φ keep k = φ id := by simp only [φkeep, hkk]
      rw [hφ]
      cases hob : h id with
      | box T cs =>
        rw [hob] at h1 ho
        simp only [Ob.ren] at h1
        split at h1
        · rename_i l hl
          simp at h1; rw [← h1]
          obtain ⟨b, vs, g1, g2, g3, g4, g5⟩ := ho
          exact ⟨b, vs, g1, g2, g3, ren_repL hr hk hl g4, g5⟩
        · cases h1
      | row T s xs =>
        rw [hob] at h1 ho
        simp only [Ob.ren, Option.some.injEq] at h1
        rw [← h1]
        obtain ⟨cells, g1, g2, g3⟩ := ho
        exact ⟨cells, g1, g2.mono (fun b hb => ⟨okB_keep hr hk hb, rfl⟩), g3⟩
      | fro xs =>
        rw [hob] at h1 ho
        simp only [Ob.ren, Option.some.injEq] at h1
        rw [← h1]
        exact Rep.mono (fun b hb => ⟨okB_keep hr hk hb, rfl⟩) ho
      | fbox cs =>
        rw [hob] at h1 ho
        simp only [Ob.ren, Option.some.injEq] at h1
        rw [← h1]
        obtain ⟨b, g1, g2, g3⟩ := ho
        exact ⟨b, g1, okB_keep hr hk g2, g3.mono (fun b hb => ⟨okB_keep hr hk hb, rfl⟩) g2⟩
      | mp ks =>
        rw [hob] at h1 ho
        simp only [Ob.ren, Option.some.injEq] at h1
        rw [← h1]
        exact ho
      | dead =>
        rw [hob] at h1
        simp only [Ob.ren, Option.some.injEq] at h1
        rw [← h1]; trivial
      | unborn =>
        rw [hob] at h1
        simp only [Ob.ren, Option.some.injEq] at h1
        rw [← h1]; trivial
  · cases hkk : keep[k]? with
    | none => rw [hk.out k hkk] at hl; simp [Ob.live] at hl
    | some id =>
      cases hkk' : keep[k']? with
      | none => rw [hk.out k' hkk'] at hl'; simp [Ob.live] at hl'
      | some id' =>
        rw [ren_live (hk.get k id hkk)] at hl
        rw [ren_live (hk.get k' id' hkk')] at hl'
        simp only [φkeep, hkk] at hb
        simp only [φkeep, hkk'] at hb'
        have := hr.inj id id' b hl hl' hb hb'
        subst this
        exact nodupN_get hk.nodup hkk hkk'
end canon

end Go.Abs
