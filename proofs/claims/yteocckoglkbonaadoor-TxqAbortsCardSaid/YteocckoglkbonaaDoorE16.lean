/- Regions, in the order of the text. -/
import Derived.Test.YteocckoglkbonaaDoorE15
set_option linter.unusedVariables false
set_option linter.unusedSimpArgs false
set_option linter.unusedSectionVars false
namespace Go.Abs
open Go.RowKit

/-- The machine's frame and world are as the abstract state says. -/
structure FRel (C : C0) (n : Nat) (tf : Nat → AV) (h : SH) (φ : Nat → Value) (a : Act) (w : World) : Prop where
  rel : Rel C h φ w
  size : a.tmps.size = n
  tmp : ∀ t, t < n → VRep h φ (okB C h φ w) w (tf t) (a.tmps.getD t undef)
  out : ∀ t, n ≤ t → tf t = .junk

def putF (n : Nat) (tf : Nat → AV) (d : Option Nat) (x : AV) : Nat → AV := fun t => if d = some t ∧ t < n then x else tf t

section core
variable {P : Program} {E : Env} {C : C0} {h : SH} {φ : Nat → Value} {w : World} {a : Act} {o : Oper} {n : Nat} {tf tfR : Nat → AV} {lookR : Nat → Ob}

theorem FRel.eval (hs : FRel C n tf h φ a w) (hT : ∀ t, tfR t = .junk ∨ tfR t = tf t) (x : Operand) : VRep h φ (okB C h φ w) w (rdF tfR x) (a.eval x) := by
  cases x with
  | tmp t =>
    show VRep h φ (okB C h φ w) w (tfR t) (a.tmps.getD t undef)
    rcases hT t with e | e
    · rw [e]; exact .junk _
    · rw [e]
      rcases Nat.lt_or_ge t n with hlt | hge
      · exact hs.tmp t hlt
      · rw [hs.out t hge]; exact .junk _
  | const v => exact vrep_ofValue v _ _ _ _
  | func f => exact .pure (.fn (vs := []) .nil)
  | global g => exact .junk _

theorem FRel.put {h' : SH} {φ' : Nat → Value} {w' : World} (hs : FRel C n tf h φ a w) (r1 : Rel C h' φ' w') (k1 : KeepB (okB C h φ w) (okB C h' φ' w') w w') (k2 : KeepH h h' φ φ')
    {x : AV} {v : Value} (hx : VRep h' φ' (okB C h' φ' w') w' x v) (d : Option Tmp) : FRel C n (putF n tf d x) h' φ' (a.put d v) w' := by
  refine ⟨r1, ?_, fun t ht => ?_, fun t ht => ?_⟩
  · cases d <;> simp [Act.put, hs.size]
  · have h0 := (hs.tmp t ht).mono k1 k2
    cases d with
    | none => simpa [putF, Act.put] using h0
    | some d =>
      by_cases e : d = t
      · subst e
        have : d < a.tmps.size := by rw [hs.size]; exact ht
        simp only [putF, ht, and_self, if_true, Act.put]
        rw [Array.getD_eq_getD_getElem?, Array.getElem?_setIfInBounds_self_of_lt this]
        exact hx
      · simp only [putF, Option.some.injEq, e, false_and, if_false, Act.put]
        rw [Array.getD_eq_getD_getElem?, Array.getElem?_setIfInBounds_ne e, ← Array.getD_eq_getD_getElem?]
        exact h0
  · simp only [putF]
    rw [if_neg (by omega)]
    exact hs.out t ht

/-- How the machine takes an operation of a region. -/
def TakesIn (F : Fence) (q : Nat) (P : Program) (opsA : Array Oper) (o : Oper) (next : Act → World → Prop) (Q : Exit → Act → World → Prop) (a : Act) (w : World) : Prop :=
  if Region.wanted o (yielded opsA a.tmps) then o.wpIn F q P a w next Q else (∀ f, o.about P w a.eval = some f → F.fn f) ∧ next (a.put o.dst undef) w

theorem wanted_sound (hs : FRel C n tf h φ a w) (hT : ∀ t, tfR t = .junk ∨ tfR t = tf t) {opsA : Array Oper} {g : Option Ans} {b : Bool} {ob : List Prop}
    (he : wantedA opsA.toList tfR o.guard g = some (b, ob)) (hob : All ob) : Region.wanted o (yielded opsA a.tmps) = b := by
  unfold wantedA at he
  unfold Region.wanted
  split at he
  · rename_i e; simp at he; rw [e]; simp [he.1]
  · rename_i j want e
    rw [e]
    split at he
    · cases he
    · rename_i oj hoj
      split at he
      · cases he
      · rename_i t ht
        split at he
        · rename_i b0 hb0
          have hv : a.tmps[t]? = some (.bool b0) := by
            rcases hT t with e1 | e1
            · rw [hb0] at e1; cases e1
            · have e2 : tf t = .bool b0 := by rw [← e1, hb0]
              have htn : t < n := by
                rcases Nat.lt_or_ge t n with hlt | hge
                · exact hlt
                · rw [hs.out t hge] at e2; cases e2
              have := hs.tmp t htn
              rw [e2] at this
              have := this.inv_bool
              have hlt : t < a.tmps.size := by rw [hs.size]; exact htn
              rw [Array.getD_eq_getD_getElem?, Array.getElem?_eq_getElem hlt] at this
              rw [Array.getElem?_eq_getElem hlt]
              simpa using this
          have hy : yielded opsA a.tmps j = some b0 := by
            have : opsA[j]? = some oj := by simpa using hoj
            simp [yielded, this, ht, hv]
          simp only [hy]
          split at he
          · rename_i d
            simp at he
            obtain ⟨rfl, rfl⟩ := he
            have : b0 = d := hob.1
            subst this
            cases b0 <;> cases want <;> rfl
          · simp at he
            obtain ⟨rfl, rfl⟩ := he
            cases b0 <;> cases want <;> rfl
        · rename_i us hus
          simp at he
          obtain ⟨rfl, rfl⟩ := he
          have hv : ∀ b0, a.tmps[t]? ≠ some (.bool b0) := by
            intro b0 hb
            rcases hT t with e1 | e1
            · rw [hus] at e1; cases e1
            · have e2 : tf t = .tup us := by rw [← e1, hus]
              have htn : t < n := by
                rcases Nat.lt_or_ge t n with hlt | hge
                · exact hlt
                · rw [hs.out t hge] at e2; cases e2
              have := hs.tmp t htn
              rw [e2] at this
              obtain ⟨vs, h1, _⟩ := this.inv_tup
              rw [Array.getD_eq_getD_getElem?, hb] at h1
              cases h1
          have hj : opsA[j]? = some oj := by simpa using hoj
          have hy : yielded opsA a.tmps j = none := by
            simp only [yielded, hj, Option.bind_some, ht]
            try split
            all_goals first | rfl | (rename_i b0 hb; exact absurd hb (hv b0))
          simp [hy]
        · cases he

theorem core_sound (hB : Base P E C) (hs : FRel C n tf h φ a w) (hT : ∀ t, tfR t = .junk ∨ tfR t = tf t) (hl : Sees lookR h) {opsA : Array Oper} {fresh cnt : Nat} {scr : Script} {r : WR}
    (he : coreA P E opsA.toList o tfR lookR fresh cnt scr = some r) (hf : ∀ k, k < r.new.length → h (fresh + k) = .unborn) (hob : All r.obl)
    {F : Fence} (hF : Wide F) (q : Nat) {next : Act → World → Prop} {Q : Exit → Act → World → Prop}
    (hn : ∀ φ' a' w', FRel C n (putF n tf o.dst r.val) (newS (updS h r.upd) fresh r.new) φ' a' w' → a'.defers = a.defers → next a' w') : TakesIn F q P opsA o next Q a w := by
  have hAll : ∀ {l l' : List Prop}, All (l ++ l') → All l ∧ All l' := by
    intro l
    induction l with
    | nil => intro l' h; exact ⟨trivial, h⟩
    | cons p l ih => intro l' h; exact ⟨⟨h.1, (ih h.2).1⟩, (ih h.2).2⟩
  have hput : ∀ (v : Value), (a.put o.dst v).defers = a.defers := by intro v; cases o.dst <;> rfl
  have hρ := hs.eval hT
  unfold coreA at he
  split at he
  rename_i g scr1 _
  split at he
  · cases he
  · rename_i ob hw
    simp at he; subst he
    have hwv := wanted_sound hs hT hw hob
    unfold TakesIn
    rw [hwv, if_neg (by simp)]
    exact ⟨fun f _ => hF.fn f, hn φ _ w (hs.put hs.rel (keepB_refl _ _) (.refl _ _) (x := .tup []) (v := undef) (.tup .nil) o.dst) (hput _)⟩
  · rename_i ob hw
    split at he
    rename_i an scr2 _
    split at he
    · cases he
    · rename_i eff hex
      have fin : ∀ (x : AV) (obl' : List Prop), All eff.obl → All ob → (∀ h' φ' w' v, VRep h' φ' (okB C h' φ' w') w' eff.val v → VRep h' φ' (okB C h' φ' w') w' x v) →
          (∀ k, k < eff.new.length → h (fresh + k) = .unborn) →
          (∀ φ' a' w', FRel C n (putF n tf o.dst x) (newS (updS h eff.upd) fresh eff.new) φ' a' w' → a'.defers = a.defers → next a' w') → TakesIn F q P opsA o next Q a w := by
        intro x obl' h1 h2 h3 h4 h5
        have hwv := wanted_sound hs hT hw h2
        unfold TakesIn
        rw [hwv, if_pos rfl]
        refine ⟨fun f _ => hF.fn f, ?_⟩
        rw [exec_semAt hex]
        exact exec_sound hB hs.rel hρ hl hex h4 h1 F q next Q hF (fun v φ' w' g1 g2 g3 g4 => h5 φ' _ w' (hs.put g1 g2 g3 (h3 _ _ _ _ g4) o.dst) (hput v))
      split at he
      · rename_i x scr3 _
        simp at he; subst he
        obtain ⟨e1, e2⟩ := hob
        obtain ⟨e3, e4⟩ := hAll e2
        exact fin x [] e3 e4 (fun _ _ _ _ hv => by rw [← e1]; exact hv) hf hn
      · simp at he; subst he
        obtain ⟨e3, e4⟩ := hAll hob
        exact fin .junk [] e3 e4 (fun _ _ _ _ _ => .junk _) hf hn
      · simp at he; subst he
        obtain ⟨e3, e4⟩ := hAll hob
        exact fin eff.val [] e3 e4 (fun _ _ _ _ hv => hv) hf hn

/-- The machine's frame and world are as a state says. -/
def SRel (C : C0) (s : St) (φ : Nat → Value) (a : Act) (w : World) : Prop := FRel C s.tmps.length (fun t => s.tmps.getD t .junk) (getO s.heap) φ a w

theorem putT_get (ts : List AV) (d : Option Nat) (x : AV) : (fun t => (putT ts d x).getD t .junk) = putF ts.length (fun t => ts.getD t .junk) d x := by
  funext t
  cases d with
  | none => simp [putT, putF]
  | some d =>
    simp only [putT, putF, Option.some.injEq, List.getD_eq_getElem?_getD, List.getElem?_set]
    by_cases e : d = t
    · subst e
      by_cases h : d < ts.length <;> simp [h]
    · simp [e]
theorem putT_length (ts : List AV) (d : Option Nat) (x : AV) : (putT ts d x).length = ts.length := by cases d <;> simp [putT]

theorem applyU_get : ∀ (us : List (Nat × Ob)) (h : Heap), updOK h.length us = true → getO (applyU h us) = updS (getO h) us ∧ (applyU h us).length = h.length := by
  intro us
  induction us with
  | nil => intro h _; exact ⟨rfl, rfl⟩
  | cons p us ih =>
    obtain ⟨id, o⟩ := p
    intro h hu
    simp only [updOK, Bool.and_eq_true, Nat.blt_eq] at hu
    have h1 := ih (h.set id o) (by simpa using hu.2)
    refine ⟨?_, by simpa [applyU] using h1.2⟩
    simp only [applyU, updS]
    rw [h1.1]
    congr 1
    funext k
    simp only [getO, upd1, List.getD_eq_getElem?_getD, List.getElem?_set]
    by_cases e : id = k
    · subst e; simp [hu.1]
    · simp [e, Ne.symm e]
theorem append_get (h : Heap) (new : List Ob) : getO (h ++ new) = newS (getO h) h.length new := by
  funext k
  rw [newS_get]
  simp only [getO, List.getD_eq_getElem?_getD]
  by_cases e : h.length ≤ k ∧ k < h.length + new.length
  · rw [if_pos e, List.getElem?_append_right e.1]
  · rw [if_neg e]
    rcases Nat.lt_or_ge k h.length with h1 | h1
    · rw [List.getElem?_append_left h1]
    · rw [List.getElem?_append_right h1, List.getElem?_eq_none (by omega), List.getElem?_eq_none (by omega)]
theorem getO_fresh (h : Heap) (k : Nat) : getO h (h.length + k) = .unborn := by
  simp [getO]

theorem applyW_rel {s : St} {d : Option Tmp} {r : WR} {φ : Nat → Value} {a : Act} {w : World} (hu : updOK s.heap.length r.upd = true)
    (h : FRel C s.tmps.length (putF s.tmps.length (fun t => s.tmps.getD t .junk) d r.val) (newS (updS (getO s.heap) r.upd) s.heap.length r.new) φ a w) : SRel C (applyW s d r) φ a w := by
  unfold SRel applyW
  simp only [putT_length]
  rw [putT_get, append_get, (applyU_get r.upd s.heap hu).1, (applyU_get r.upd s.heap hu).2]
  exact h

theorem All_append {l l' : List Prop} : All (l ++ l') ↔ All l ∧ All l' := by
  induction l with
  | nil => simp [All]
  | cons p l ih => simp [All, ih, and_assoc]

theorem stepA_obl {ops : List Oper} {s s' : St} (he : stepA P E ops o s = some s') (h : All s'.obl) : All s.obl := by
  unfold stepA at he
  split at he
  · cases he
  · split at he
    · simp at he; subst he; exact (All_append.1 h).2
    · cases he
theorem runOps_obl {ops : List Oper} : ∀ {r : List Oper} {s s' : St}, runOps P E ops r s = some s' → All s'.obl → All s.obl
  | [], s, s', he, h => by simp [runOps] at he; subst he; exact h
  | o :: r, s, s', he, h => by
    simp only [runOps] at he
    split at he
    · cases he
    · rename_i s1 h1
      exact stepA_obl h1 (runOps_obl he h)

theorem stepA_sound (hB : Base P E C) {opsA : Array Oper} {s s' : St} {φ : Nat → Value} {a : Act} {w : World} (hs : SRel C s φ a w) (he : stepA P E opsA.toList o s = some s') (hob : All s'.obl)
    {F : Fence} (hF : Wide F) (q : Nat) {next : Act → World → Prop} {Q : Exit → Act → World → Prop} (hn : ∀ φ' a' w', SRel C s' φ' a' w' → a'.defers = a.defers → next a' w') : TakesIn F q P opsA o next Q a w := by
  unfold stepA at he
  split at he
  · cases he
  · rename_i r hr
    split at he
    · rename_i hu
      simp at he; subst he
      exact core_sound hB hs (fun _ => .inr rfl) (fun _ => .inr rfl) hr (fun k _ => getO_fresh _ k) (All_append.1 hob).1 hF q (fun φ' a' w' h1 h2 => hn φ' a' w' (applyW_rel hu h1) h2)
    · cases he

theorem runOps_sound (hB : Base P E C) {opsA : Array Oper} {F : Fence} (hF : Wide F) (q : Nat) {Q : Exit → Act → World → Prop} :
    ∀ (r : List Oper) (i : Nat), opsA.toList.drop i = r → ∀ {s s' : St} {φ : Nat → Value} {a : Act} {w : World}, SRel C s φ a w → runOps P E opsA.toList r s = some s' → All s'.obl →
      (∀ φ' a' w', SRel C s' φ' a' w' → a'.defers = a.defers → Q .normal a' w') → wpOpsIn F q P opsA Q (List.range' i r.length) a w := by
  intro r
  induction r with
  | nil =>
    intro i hi s s' φ a w hs he hob hn
    simp [runOps] at he; subst he
    simp only [List.length_nil, List.range'_zero, wpOpsIn]
    exact hn φ a w hs rfl
  | cons o r ih =>
    intro i hi s s' φ a w hs he hob hn
    simp only [runOps] at he
    split at he
    · cases he
    · rename_i s1 h1
      have hoi : opsA[i]? = some o := by
        have : opsA.toList[i]? = some o := by
          have := congrArg (·[0]?) hi
          simpa using this
        simpa using this
      have ht := stepA_sound hB hs h1 (runOps_obl he hob) hF q (next := wpOpsIn F q P opsA Q (List.range' (i + 1) r.length)) (Q := Q) (fun φ' a' w' h2 h3 =>
        ih (i + 1) (by rw [← List.drop_drop, hi]; rfl) h2 he hob (fun φ2 a2 w2 h4 h5 => hn φ2 a2 w2 h4 (h5.trans h3)))
      simp only [List.length_cons, List.range'_succ, wpOpsIn, hoi]
      exact ht

/-- A region in the order of its text. -/
theorem region_sound (hB : Base P E C) {opsA : Array Oper} {id : Nat} {F : Fence} (hF : Wide F) (q : Nat) {Q : Exit → Act → World → Prop} {s s' : St} {φ : Nat → Value} {a : Act} {w : World}
    (hs : SRel C s φ a w) (he : runOps P E opsA.toList opsA.toList s = some s') (hob : All s'.obl) (hn : ∀ φ' a' w', SRel C s' φ' a' w' → a'.defers = a.defers → Q .normal a' w') :
    (Code.region id opsA false).wpIn F q P Q a w := by
  refine wpIn_region ?_
  have := runOps_sound hB hF q (Q := Q) opsA.toList 0 (by simp) hs he hob hn
  rwa [List.range_eq_range', ← Array.length_toList]
end core

end Go.Abs
