/- Results without flags; nil slices taken as own rows. -/
import Derived.Test.YteocckoglkbonaaDoorE21
set_option linter.unusedVariables false
set_option linter.unusedSimpArgs false
set_option linter.unusedSectionVars false
namespace Go.Abs
open Go.RowKit

mutual
def AV.plainR : AV → AV
  | .sl _ xs => .sl .p xs
  | .agg cs => .agg (AV.plainRL cs)
  | .tup cs => .tup (AV.plainRL cs)
  | x => x
def AV.plainRL : List AV → List AV
  | [] => []
  | x :: xs => x.plainR :: AV.plainRL xs
end
mutual
theorem plainR_rep {A : Nat → Prop} {w : World} : ∀ {x v}, Rep A w x v → Rep A w x.plainR v
  | .sl fl xs, v, p => p.plain
  | .agg cs, v, p => by cases p with | agg p => exact .agg (plainRL_rep p)
  | .tup cs, v, p => by cases p with | tup p => exact .tup (plainRL_rep p)
  | .bool _, v, p => p
  | .int _ _, v, p => p
  | .str _, v, p => p
  | .fn _ _, v, p => p
  | .pin _ _, v, p => p
  | .nilp, v, p => p
  | .ptr _ _, v, p => p
  | .ptrE _ _ _, v, p => p
  | .own _, v, p => p
  | .junk, v, p => p
theorem plainRL_rep {A : Nat → Prop} {w : World} : ∀ {xs vs}, RepL A w xs vs → RepL A w (AV.plainRL xs) vs
  | [], _, .nil => .nil
  | x :: xs, _, .cons p q => .cons (plainR_rep p) (plainRL_rep q)
end
mutual
theorem plainR_vrep {h : SH} {φ : Nat → Value} {A : Nat → Prop} {w : World} : ∀ {x v}, VRep h φ A w x v → VRep h φ A w x.plainR v
  | _, _, .pure p => .pure (plainR_rep p)
  | _, _, .agg p => by rw [AV.plainR]; exact .agg (plainRL_vrep p)
  | _, _, .tup p => by rw [AV.plainR]; exact .tup (plainRL_vrep p)
  | _, _, .ptr a b => .ptr a b
  | _, _, .ptrE a b c => .ptrE a b c
  | _, _, .own a b c => .own a b c
  | _, _, .junk v => .junk v
theorem plainRL_vrep {h : SH} {φ : Nat → Value} {A : Nat → Prop} {w : World} : ∀ {xs vs}, VRepL h φ A w xs vs → VRepL h φ A w (AV.plainRL xs) vs
  | _, _, .nil => .nil
  | _, _, .cons p q => .cons (plainR_vrep p) (plainRL_vrep q)
end

section
variable {P : Program} {E : Env} {C : C0} {f : FuncId}
theorem goes_plain {todo : List Item} {ts : List AV} {h : Heap} {rows : List Ob} {r : AV} (hg : Goes P C f todo ts h rows r) : Goes P C f todo ts h rows r.plainR := by
  intro φ a w hs hd b cs hf hk hro
  obtain ⟨v, w', fr, ⟨v', φ', h1, h2, h3⟩, h4⟩ := hg φ a w hs hd b cs hf hk hro
  exact ⟨v, w', fr, ⟨v', φ', h1, h2, plainR_vrep h3⟩, h4⟩

theorem acalls_eq2 {vals vals' : List AV} {rows : List Ob} {r : AV} (h : vals = vals') (hc : ACalls P E f vals' rows r) : ACalls P E f vals rows r := h ▸ hc
theorem icalls_eq2 {T : TypeId} {s : Nat} {row row' vals vals' ys : List AV} (h1 : row = row') (h2 : vals = vals') (hc : ICalls P f T s row' vals' ys) : ICalls P f T s row vals ys := h1 ▸ h2 ▸ hc

/-! ### A nil slice as an own row -/

theorem Rel.adopt {h : SH} {φ : Nat → Value} {w : World} (hr : Rel C h φ w) {T : TypeId} {s : Nat} (h0 : 0 < s) {fresh : Nat} (hf : h fresh = .unborn) :
    let h' := newS h fresh [.row T s []]
    Rel C h' (upd1v φ fresh (.slice none 0 0)) w ∧ KeepB (okB C h φ w) (okB C h' (upd1v φ fresh (.slice none 0 0)) w) w w ∧ KeepH h h' φ (upd1v φ fresh (.slice none 0 0)) ∧ h' fresh = .row T s [] := by
  intro h'
  exact Rel.regrow (rd := fun _ => .junk) (a := { tmps := #[], defers := [] }) (look := h) hr (fun _ => .junk _) (fun _ => .inr rfl) (T := T) (s := s) hf (old := none) (xs := []) (fun id e => by cases e)
    (v := .slice none 0 0) (v' := .slice none 0 0) (.inr ⟨rfl, rfl⟩) (cells := []) ⟨rfl, rfl, rfl, Nat.le_refl _, fun _ _ _ => rfl⟩ (World.ownsRow_nil w _ T s) (fun b e => by cases e) .nil (by simp) h0 (by simp)

theorem Rel.rebox {h : SH} {φ : Nat → Value} {w : World} (hr : Rel C h φ w) {id : Nat} {T : TypeId} {cs cs' : List AV} (hx : h id = .box T cs)
    (hv : ∀ vs, VRepL h φ (okB C h φ w) w cs vs → VRepL h φ (okB C h φ w) w cs' vs) :
    let h' := upd1 h id (.box T cs')
    Rel C h' φ w ∧ KeepB (okB C h φ w) (okB C h' φ w) w w ∧ KeepH h h' φ φ := by
  intro h'
  have hh : ∀ k, h' k = if k = id then .box T cs' else h k := fun k => rfl
  have hl : ∀ k, (h' k).live = (h k).live := fun k => by
    rw [hh]; split
    · rename_i e; subst e; rw [hx]; rfl
    · rfl
  have kh : KeepH h h' φ φ := by
    refine ⟨fun k hk => ?_, fun _ _ => rfl, fun k hk hd => ?_, fun k T' s' xs' hk he => ?_⟩
    · rw [hh]; split <;> simp [hk]
    · rw [hh] at hd; split at hd
      · rename_i e; subst e; rw [hx]; simp
      · exact hd
    · rw [hh] at he; split at he
      · cases he
      · exact ⟨_, _, he⟩
  obtain ⟨r1, r2⟩ := hr.step (h' := h') (φ' := φ) (w' := w) hr.below (Nat.le_refl _) kh (fun _ _ => rfl) (fun k hk _ => by rw [hl] at hk; exact hk)
    (fun k hk hu => by rw [hl, hu] at hk; simp [Ob.live] at hk) (fun k k' b hk _ hu => by rw [hl, hu] at hk; simp [Ob.live] at hk)
    (fun hK k => by
      by_cases e : k = id
      · subst e
        right
        have ho := hr.obj k
        rw [hx] at ho
        obtain ⟨b, vs, g1, g2, g3, g4, g5⟩ := ho
        rw [hh, if_pos rfl]
        exact ⟨b, vs, g1, g2, g3, (hv vs g4).mono hK kh, g5⟩
      · left
        exact ⟨by rw [hh, if_neg e], fun _ _ _ _ => rfl⟩)
  exact ⟨r1, r2, kh⟩

/-- A nil slice in a temporary (none, t) or in a box's cell (some id, i). -/
def adopt1 (T : TypeId) (s : Nat) (ts : List AV) (h : Heap) : Option Nat → Nat → Option (List AV × Heap)
  | none, t => match ts.getD t .junk with
    | .sl .n [] => if s = 0 then none else some (ts.set t (.own h.length), h ++ [.row T s []])
    | _ => none
  | some id, i => match getO h id with
    | .box T0 cs => (match cs[i]? with
      | some (.sl .n []) => if s = 0 then none else some (ts, h.set id (.box T0 (cs.set i (.own h.length))) ++ [.row T s []])
      | _ => none)
    | _ => none
def adoptL : List (TypeId × Nat × Option Nat × Nat) → List AV → Heap → Option (List AV × Heap)
  | [], ts, h => some (ts, h)
  | (T, s, o, i) :: r, ts, h => match adopt1 T s ts h o i with
    | some (ts', h') => adoptL r ts' h'
    | none => none

theorem vrepL_set {h : SH} {φ : Nat → Value} {A : Nat → Prop} {w : World} {x : AV} : ∀ {cs : List AV} {vs : List Value} (i : Nat), VRepL h φ A w cs vs → (∀ v, vs[i]? = some v → VRep h φ A w x v) → VRepL h φ A w (cs.set i x) vs
  | _, _, _, .nil, _ => by simp; exact .nil
  | _, _, 0, .cons p q, hx => .cons (hx _ rfl) q
  | _, _, i + 1, .cons p q, hx => .cons p (vrepL_set i q (fun v hv => hx v (by simpa using hv)))

theorem nil_value {h : SH} {φ : Nat → Value} {A : Nat → Prop} {w : World} {v : Value} (p : VRep h φ A w (.sl .n []) v) : v = .slice none 0 0 := by
  obtain ⟨_, _, _, _, _, ⟨h1, _⟩, _⟩ := p.inv_sl
  exact h1 rfl rfl

theorem srel_adopt1 {T : TypeId} {s : Nat} {ts ts' : List AV} {h h' : Heap} {cnt cnt' : Nat} {scr scr' : Script} {ob ob' : List Prop} {o : Option Nat} {i : Nat} (e : adopt1 T s ts h o i = some (ts', h'))
    {φ : Nat → Value} {a : Act} {w : World} (hs : SRel C ⟨ts, h, cnt, scr, ob⟩ φ a w) : SRel C ⟨ts', h', cnt', scr', ob'⟩ (upd1v φ h.length (.slice none 0 0)) a w := by
  have hu : getO h h.length = .unborn := by simp [getO]
  cases o with
  | none =>
    simp only [adopt1] at e
    split at e
    · rename_i hn
      split at e
      · cases e
      · rename_i h0
        simp at e; obtain ⟨rfl, rfl⟩ := e
        obtain ⟨r1, r2, r3, r4⟩ := Rel.adopt hs.rel (T := T) (s := s) (by omega) hu
        rw [← append_get] at r1 r2 r3 r4
        refine ⟨r1, by simpa using hs.size, fun t ht => ?_, fun t ht => ?_⟩
        · have ht' : t < ts.length := by simpa using ht
          have hv : VRep _ _ _ _ (ts.getD t .junk) (a.tmps.getD t undef) := hs.tmp t ht'
          show VRep _ _ _ _ ((ts.set i (.own h.length)).getD t .junk) _
          rw [List.getD_eq_getElem?_getD, List.getElem?_set]
          by_cases ei : i = t
          · subst ei
            rw [if_pos rfl, if_pos ht']
            rw [hn] at hv
            have := nil_value hv
            rw [this]
            exact .own (by show getO _ _ ≠ _; rw [r4]; simp) rfl (fun _ => by simp [upd1v])
          · rw [if_neg ei, ← List.getD_eq_getElem?_getD]
            exact hv.mono r2 r3
        · have : (ts.set i (.own h.length)).length ≤ t := ht
          show (ts.set i (.own h.length)).getD t .junk = .junk
          rw [List.getD_eq_getElem?_getD, List.getElem?_eq_none this]; rfl
    · cases e
  | some id =>
    simp only [adopt1] at e
    split at e
    · rename_i T0 cs hb
      split at e
      · rename_i hn
        split at e
        · cases e
        · rename_i h0
          simp at e; obtain ⟨rfl, rfl⟩ := e
          obtain ⟨r1, r2, r3, r4⟩ := Rel.adopt hs.rel (T := T) (s := s) (by omega) hu
          have hid : id < h.length := by
            rcases Nat.lt_or_ge id h.length with hl | hl
            · exact hl
            · have : getO h id = .unborn := by simp [getO, List.getElem?_eq_none hl]
              rw [this] at hb; cases hb
          have hb1 : newS (getO h) h.length [.row T s []] id = .box T0 cs := by
            rw [← append_get]
            rw [← hb]
            simp only [getO, List.getD_eq_getElem?_getD]
            rw [List.getElem?_append_left hid]
          obtain ⟨q1, q2, q3⟩ := Rel.rebox r1 (cs' := cs.set i (.own h.length)) hb1 (fun vs hvs => by
            refine vrepL_set i hvs (fun v hv => ?_)
            obtain ⟨v', g1, g2⟩ := hvs.get i hn
            rw [hv] at g1; cases g1
            have := nil_value g2
            subst this
            exact .own (by rw [r4]; simp) rfl (fun _ => by simp [upd1v]))
          have hh : getO (h.set id (.box T0 (cs.set i (.own h.length))) ++ [.row T s []]) = upd1 (newS (getO h) h.length [.row T s []]) id (.box T0 (cs.set i (.own h.length))) := by
            funext k
            rw [← append_get]
            simp only [getO, upd1, List.getD_eq_getElem?_getD]
            by_cases ek : k = id
            · subst ek
              rw [if_pos rfl, List.getElem?_append_left (by simpa using hid)]
              simp [hid]
            · rw [if_neg ek]
              rcases Nat.lt_or_ge k h.length with hl | hl
              · rw [List.getElem?_append_left (by simpa using hl), List.getElem?_append_left hl, List.getElem?_set_ne (fun e => ek e.symm)]
              · rw [List.getElem?_append_right (by simpa using hl), List.getElem?_append_right hl]; simp
          rw [← hh] at q1 q2 q3
          exact ⟨q1, hs.size, fun t ht => (VRep.mono r2 r3 (hs.tmp t ht)).mono q2 q3, hs.out⟩
      · cases e
    · cases e

theorem goes_adopt {l : List (TypeId × Nat × Option Nat × Nat)} {todo : List Item} {rows : List Ob} {r : AV} : ∀ {ts ts' : List AV} {h h' : Heap}, adoptL l ts h = some (ts', h') → Goes P C f todo ts' h' rows r → Goes P C f todo ts h rows r := by
  induction l with
  | nil => intro ts ts' h h' e hg; simp [adoptL] at e; obtain ⟨rfl, rfl⟩ := e; exact hg
  | cons p l ih =>
    obtain ⟨T, s, o, i⟩ := p
    intro ts ts' h h' e hg
    simp only [adoptL] at e
    split at e
    · rename_i ts1 h1 e1
      intro φ a w hs hd b cs hf hk hro
      exact ih e hg _ a w (srel_adopt1 e1 hs) hd b cs hf hk hro
    · cases e

/-! ### Rows that are not written again from here on -/
def freezeL : List Nat → Heap → Option Heap
  | [], h => some h
  | id :: r, h => match getO h id with
    | .row _ _ xs => freezeL r (h.set id (.fro xs))
    | _ => none
theorem getO_set {h : Heap} {id : Nat} (hid : id < h.length) (o : Ob) : getO (h.set id o) = upd1 (getO h) id o := by
  funext k
  simp only [getO, upd1, List.getD_eq_getElem?_getD, List.getElem?_set]
  by_cases ek : k = id
  · subst ek; simp [hid]
  · rw [if_neg ek, if_neg (fun e => ek e.symm)]
theorem goes_freeze {l : List Nat} {todo : List Item} {rows : List Ob} {r : AV} {ts : List AV} : ∀ {h h' : Heap}, freezeL l h = some h' → Goes P C f todo ts h' rows r → Goes P C f todo ts h rows r := by
  induction l with
  | nil => intro h h' e hg; simp [freezeL] at e; subst e; exact hg
  | cons id l ih =>
    intro h h' e hg
    simp only [freezeL] at e
    split at e
    · rename_i T s xs hx
      have hid : id < h.length := by
        rcases Nat.lt_or_ge id h.length with hl | hl
        · exact hl
        · have : getO h id = .unborn := by simp [getO, List.getElem?_eq_none hl]
          rw [this] at hx; cases hx
      intro φ a w hs hd b cs hf hk hro
      obtain ⟨r1, r2, r3⟩ := Rel.freezeRow hs.rel hx
      have hs' : SRel C ⟨ts, h.set id (.fro xs), 0, [], []⟩ φ a w := by
        unfold SRel
        rw [getO_set hid]
        exact ⟨r1, hs.size, fun t ht => VRep.mono r2 r3 (hs.tmp t ht), hs.out⟩
      exact ih e hg φ a w hs' hd b cs hf hk hro
    · cases e
end
end Go.Abs
