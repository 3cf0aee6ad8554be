/- One operation, whichever. -/
import Derived.Test.YteocckoglkbonaaDoorEY
import Derived.RangeFuncRecord
set_option linter.unusedVariables false
set_option linter.unusedSimpArgs false
set_option linter.unusedSectionVars false
namespace Go.Abs
open Go.RowKit

section ops
variable {P : Program} {E : Env} {C : C0} {h : SH} {φ : Nat → Value} {w : World} {a : Act} {o : Oper} {rd : Operand → AV} {look : Nat → Ob}

theorem exec_sound (hB : Base P E C) (hr : Rel C h φ w) (hρ : ∀ x, VRep h φ (okB C h φ w) w (rd x) (a.eval x)) (hl : Sees look h) {fresh : Nat} {ans : Option Ans} {eff : Eff}
    (he : exec P E o rd look fresh ans = some eff) (hf : ∀ k, k < eff.new.length → h (fresh + k) = .unborn) (hx : isYield o rd = true → (∀ k, k < fresh → look k = h k) ∧ ∀ k, fresh ≤ k → h k = .unborn) (hob : All eff.obl) :
    OpOK P C h φ w a o (newS (updS h eff.upd) fresh eff.new) eff.val := by
  have same : ∀ {eff : Eff}, OpOK P C h φ w a o h eff.val ∧ eff.upd = [] ∧ eff.new = [] → OpOK P C h φ w a o (newS (updS h eff.upd) fresh eff.new) eff.val := by
    rintro ⟨val, upd, new, obl⟩ ⟨h1, h2, h3⟩
    simp only at h2 h3
    subst h2 h3
    exact h1
  have sameV : ∀ {x : AV}, OpOK P C h φ w a o h x → effV x = some eff → OpOK P C h φ w a o (newS (updS h eff.upd) fresh eff.new) eff.val := by
    intro x hx e
    simp [effV] at e; subst e
    exact hx
  unfold exec at he
  split at he
  · rename_i x hop
    exact sameV (sound_move hr hρ hl (.inl hop)) he
  · rename_i x hop
    exact sameV (sound_move hr hρ hl (.inr hop)) he
  · rename_i c x y hop
    split at he
    · rename_i t e1
      split at he
      · rename_i d
        simp [effIf] at he; subst he
        exact sound_pick hr hρ hl hop e1 hob.1
      · simp [effV] at he; subst he
        exact sound_pick hr hρ hl hop e1 rfl
    · cases he
  · rename_i T hop
    split at he
    · rename_i z hz
      have hu : h fresh = .unborn := by
        unfold allocA at he
        split at he
        · split at he
          · simp at he; subst he; simpa using hf 0 (by simp)
          · cases he
        · cases he
      exact sound_alloc hr hop hu hz he
    · cases he
  · rename_i T x hop
    have hu : h fresh = .unborn := by
      unfold allocA at he
      split at he
      · split at he
        · simp at he; subst he; simpa using hf 0 (by simp)
        · cases he
      · cases he
    exact sound_box hr hρ hl hop hu he
  · rename_i T parts hop
    exact same (sound_build hr hρ hl hop he)
  · rename_i T len parts hop
    split at he
    · have hu : h fresh = .unborn := by
        have he' := he
        unfold buildTightA at he'
        split at he'
        · simp at he'; subst he'; simpa using hf 0 (by simp)
        · cases he'
      exact sound_buildTight hr hρ hl hop hu he
    · have hu : h fresh = .unborn := by
        have he' := he
        unfold buildSliceA at he'
        split at he'
        · cases he'
        · split at he'
          · split at he'
            · split at he'
              · split at he'
                · split at he'
                  · simp at he'; subst he'; simpa using hf 0 (by simp)
                  · cases he'
                · cases he'
              · cases he'
            · cases he'
          · cases he'
      exact sound_buildSlice hr hρ hl hop hu he
  · rename_i T x hop
    exact same (sound_load hr hρ hl hop he hob)
  · rename_i T x y hop
    exact sound_store hr hρ hl hop he hob
  · rename_i x hop
    split at he
    · rename_i id off e1
      exact sameV (by rw [← e1]; exact sound_nilCheck hr hρ hl hop (.inl ⟨_, _, e1⟩)) he
    · rename_i cs off e1
      exact sameV (by rw [← e1]; exact sound_nilCheck hr hρ hl hop (.inr ⟨_, _, e1⟩)) he
    · cases he
  · rename_i op T x y yT hop
    exact same (sound_bin hr hρ hl hB.good hop he hob)
  · rename_i op T x hop
    exact same (sound_un hr hρ hl hop he)
  · rename_i S D x hop
    exact same (sound_conv hr hρ hl hop he)
  · rename_i T x lo hi hop
    exact sound_slice hr hρ hl hop he hob
  · rename_i T x g m hop
    exact sound_slice0 hr hρ hl hop he
  · rename_i T x f hop
    exact same (sound_fieldAddr hr hρ hl hop he)
  · rename_i T x f hop
    split at he
    · rename_i off ft cs hf1 e1
      split at he
      · rename_i y hp
        exact sameV (sound_field hr hρ hl hop hf1 e1 hp) he
      · cases he
    · cases he
  · rename_i T x i hop
    exact same (sound_indexAddr hr hρ hl hop he hob)
  · rename_i x i hop
    split at he
    · rename_i vs e1
      split at he
      · rename_i y e2
        exact sameV (sound_extract hr hρ hl hop e1 e2) he
      · cases he
    · cases he
  · rename_i T hop
    split at he
    · rename_i hm
      simp at he; subst he
      exact sound_makeMap hr hρ hl hop (by simpa using hf 0 (by simp)) hm
    · cases he
  · rename_i T m k v hop
    split at he
    · rename_i id n e1 e2 e3
      split at he
      · rename_i ks e4
        split at he
        · rename_i hm
          simp at he; subst he
          exact sound_mapUpdate hr hρ hl hop e1 e2 e3 e4 hm hob.1
        · cases he
      · cases he
    · cases he
  · rename_i T m k hop
    split at he
    · rename_i id n e1 e2
      split at he
      · rename_i ks e4
        split at he
        · rename_i hm
          exact sameV (sound_lookup hr hρ hl hop e1 e2 e4 hm) he
        · cases he
      · cases he
    · cases he
  · rename_i T x y hop
    exact sound_makeSlice hr hρ hl hop he hf hob
  · rename_i f fst caps hop
    split at he
    · rename_i e0
      have e0 : fst = #[] := by cases fst; simp_all
      subst e0
      split at he
      · rename_i ys us e1
        simp at he; subst he
        exact sound_makeFunc hr hρ hl hop e1
      · cases he
    · cases he
  · rename_i c hop
    split at he
    · rename_i hc
      split at he
      · rename_i x T ha ht
        split at he
        · rename_i n hn
          exact sameV (sound_len hr hρ hl hop hc ha ht hn) he
        · cases he
      · cases he
    · rename_i hc
      split at he
      · rename_i d x T T' ha ht
        split at he
        · rename_i e1
          subst e1
          exact sound_copy hr hρ hl hop hc ha ht he hob
        · cases he
      · cases he
    · rename_i hc
      split at he
      · rename_i x y ha
        split at he
        · rename_i z hz
          exact sameV (sound_min hr hρ hl hop hc ha hz) he
        · cases he
      · cases he
    · rename_i hc
      split at he
      · rename_i x y ha
        split at he
        · rename_i z hz
          exact sameV (sound_max hr hρ hl hop hc ha hz) he
        · cases he
      · cases he
    · rename_i hc
      split at he
      · rename_i s x T T' ha ht
        split at he
        · rename_i e1
          subst e1
          have hu : h fresh = .unborn := by
            have he' := he
            unfold appendA at he'
            split at he'
            · split at he'
              · split at he'
                · split at he'
                  · simp at he'; subst he'; simpa using hf 0 (by simp)
                  · split at he'
                    · split at he'
                      · simp at he'; subst he'; simpa using hf 0 (by simp)
                      · cases he'
                    · cases he'
                  · simp at he'; subst he'; simpa using hf 0 (by simp)
                  · cases he'
                · cases he'
              · cases he'
            · cases he'
          exact sound_append hr hρ hl hop hc ha ht hu he hob
        · cases he
      · cases he
    · rename_i g hc
      split at he
      · rename_i f caps e1
        split at he
        · exact sound_callI hr hρ hl hop hc e1 he hf hob
        exact sound_call hr hρ hl hB.env hB.here hB.args hop hc e1 he hf hob
      · rename_i id foot e1
        exact sound_yield hr hρ hl hB hop hc e1 he (hx (by unfold isYield; rw [hop]; simp only [hc, e1])) hob
      · cases he
    · cases he
  · cases he

/-- An operation that 'exec' takes is no deferred call. -/
theorem exec_semAt {rdx : Operand → AV} {fresh : Nat} {ans : Option Ans} {eff : Eff} (he : exec P E o rdx look fresh ans = some eff) (r : Option Nat) (ρ : Operand → Value) : o.semAt r ρ = execOp ρ o := by
  unfold exec at he
  cases r with
  | none => simp [Oper.semAt]
  | some l =>
    unfold Oper.semAt
    split
    · rename_i h1 h2
      simp [h2] at he
    · rfl
end ops

end Go.Abs
/- Regions, in the order of the text. -/
set_option linter.unusedVariables false
set_option linter.unusedSimpArgs false
set_option linter.unusedSectionVars false
namespace Go.Abs
open Go.RowKit

structure Bs where
  h : SH
  φ : Nat → Value
  w : World
/-- What has become of what was there at a base. -/
structure Ext (C : C0) (X : Bs) (h : SH) (φ : Nat → Value) (w : World) : Prop where
  kb : KeepB (okB C X.h X.φ X.w) (okB C h φ w) X.w w
  kh : KeepH X.h h X.φ φ
theorem Ext.refl (C : C0) (h : SH) (φ : Nat → Value) (w : World) : Ext C ⟨h, φ, w⟩ h φ w := ⟨fun _ hb => ⟨hb, rfl⟩, .refl _ _⟩

/-- The machine's frame and world are as the abstract state says. -/
structure FRel (X : Bs) (C : C0) (n : Nat) (tf : Nat → AV) (h : SH) (φ : Nat → Value) (a : Act) (w : World) : Prop where
  rel : Rel C h φ w
  size : a.tmps.size = n
  tmp : ∀ t, t < n → VRep h φ (okB C h φ w) w (tf t) (a.tmps.getD t undef)
  out : ∀ t, n ≤ t → tf t = .junk
  ext : Ext C X h φ w

def putF (n : Nat) (tf : Nat → AV) (d : Option Nat) (x : AV) : Nat → AV := fun t => if d = some t ∧ t < n then x else tf t

section core
variable {P : Program} {E : Env} {X : Bs} {C : C0} {h : SH} {φ : Nat → Value} {w : World} {a : Act} {o : Oper} {n : Nat} {tf tfR : Nat → AV} {lookR : Nat → Ob}

theorem FRel.eval (hs : FRel X C n tf h φ a w) (hT : ∀ t, tfR t = .junk ∨ tfR t = tf t) (x : Operand) : VRep h φ (okB C h φ w) w (rdF tfR x) (a.eval x) := by
  cases x with
  | tmp t =>
    show VRep h φ (okB C h φ w) w (tfR t) (a.tmps.getD t undef)
    rcases hT t with e | e
    · rw [e]; exact .junk _
    · rw [e]
      rcases Nat.lt_or_ge t n with hlt | hge
      · exact hs.tmp t hlt
      · rw [hs.out t hge]; exact .junk _
  | const v => exact vrep_ofValue v _ _ _ _
  | func f => exact .pure (.fn (vs := []) .nil)
  | global g => exact .junk _

theorem FRel.put {h' : SH} {φ' : Nat → Value} {w' : World} (hs : FRel X C n tf h φ a w) (r1 : Rel C h' φ' w') (k1 : KeepB (okB C h φ w) (okB C h' φ' w') w w') (k2 : KeepH h h' φ φ')
    {x : AV} {v : Value} (hx : VRep h' φ' (okB C h' φ' w') w' x v) (d : Option Tmp) : FRel X C n (putF n tf d x) h' φ' (a.put d v) w' := by
  refine ⟨r1, ?_, fun t ht => ?_, fun t ht => ?_, ⟨hs.ext.kb.trans k1, hs.ext.kh.trans k2⟩⟩
  · cases d <;> simp [Act.put, hs.size]
  · have h0 := (hs.tmp t ht).mono k1 k2
    cases d with
    | none => simpa [putF, Act.put] using h0
    | some d =>
      by_cases e : d = t
      · subst e
        have : d < a.tmps.size := by rw [hs.size]; exact ht
        simp only [putF, ht, and_self, if_true, Act.put]
        rw [Array.getD_eq_getD_getElem?, Array.getElem?_setIfInBounds_self_of_lt this]
        exact hx
      · simp only [putF, Option.some.injEq, e, false_and, if_false, Act.put]
        rw [Array.getD_eq_getD_getElem?, Array.getElem?_setIfInBounds_ne e, ← Array.getD_eq_getD_getElem?]
        exact h0
  · simp only [putF]
    rw [if_neg (by omega)]
    exact hs.out t ht

/-- How the machine takes an operation of a region. -/
def TakesIn (F : Fence) (q : Nat) (P : Program) (opsA : Array Oper) (o : Oper) (next : Act → World → Prop) (Q : Exit → Act → World → Prop) (a : Act) (w : World) : Prop :=
  if Region.wanted o (yielded opsA a.tmps) then o.wpIn F q P a w next Q else (∀ f, o.about P w a.eval = some f → F.fn f) ∧ next (a.put o.dst undef) w

theorem wanted_sound (hs : FRel X C n tf h φ a w) (hT : ∀ t, tfR t = .junk ∨ tfR t = tf t) {opsA : Array Oper} {g : Option Ans} {b : Bool} {ob : List Prop}
    (he : wantedA opsA.toList tfR o.guard g = some (b, ob)) (hob : All ob) : Region.wanted o (yielded opsA a.tmps) = b := by
  unfold wantedA at he
  unfold Region.wanted
  split at he
  · rename_i e; simp at he; rw [e]; simp [he.1]
  · rename_i j want e
    rw [e]
    split at he
    · cases he
    · rename_i oj hoj
      split at he
      · cases he
      · rename_i t ht
        split at he
        · rename_i b0 hb0
          have hv : a.tmps[t]? = some (.bool b0) := by
            rcases hT t with e1 | e1
            · rw [hb0] at e1; cases e1
            · have e2 : tf t = .bool b0 := by rw [← e1, hb0]
              have htn : t < n := by
                rcases Nat.lt_or_ge t n with hlt | hge
                · exact hlt
                · rw [hs.out t hge] at e2; cases e2
              have := hs.tmp t htn
              rw [e2] at this
              have := this.inv_bool
              have hlt : t < a.tmps.size := by rw [hs.size]; exact htn
              rw [Array.getD_eq_getD_getElem?, Array.getElem?_eq_getElem hlt] at this
              rw [Array.getElem?_eq_getElem hlt]
              simpa using this
          have hy : yielded opsA a.tmps j = some b0 := by
            have : opsA[j]? = some oj := by simpa using hoj
            simp [yielded, this, ht, hv]
          simp only [hy]
          split at he
          · rename_i d
            simp at he
            obtain ⟨rfl, rfl⟩ := he
            have : b0 = d := hob.1
            subst this
            cases b0 <;> cases want <;> rfl
          · simp at he
            obtain ⟨rfl, rfl⟩ := he
            cases b0 <;> cases want <;> rfl
        · rename_i us hus
          simp at he
          obtain ⟨rfl, rfl⟩ := he
          have hv : ∀ b0, a.tmps[t]? ≠ some (.bool b0) := by
            intro b0 hb
            rcases hT t with e1 | e1
            · rw [hus] at e1; cases e1
            · have e2 : tf t = .tup us := by rw [← e1, hus]
              have htn : t < n := by
                rcases Nat.lt_or_ge t n with hlt | hge
                · exact hlt
                · rw [hs.out t hge] at e2; cases e2
              have := hs.tmp t htn
              rw [e2] at this
              obtain ⟨vs, h1, _⟩ := this.inv_tup
              rw [Array.getD_eq_getD_getElem?, hb] at h1
              cases h1
          have hj : opsA[j]? = some oj := by simpa using hoj
          have hy : yielded opsA a.tmps j = none := by
            simp only [yielded, hj, Option.bind_some, ht]
            try split
            all_goals first | rfl | (rename_i b0 hb; exact absurd hb (hv b0))
          simp [hy]
        · cases he

theorem core_sound (hB : Base P E C) (hs : FRel X C n tf h φ a w) (hT : ∀ t, tfR t = .junk ∨ tfR t = tf t) (hl : Sees lookR h) {opsA : Array Oper} {fresh cnt : Nat} {scr : Script} {r : WR}
    (he : coreA P E opsA.toList o tfR lookR fresh cnt scr = some r) (hf : ∀ k, k < r.new.length → h (fresh + k) = .unborn) (hx : isYield o (rdF tfR) = true → (∀ k, k < fresh → lookR k = h k) ∧ ∀ k, fresh ≤ k → h k = .unborn) (hob : All r.obl)
    {F : Fence} (hF : Wide F) (q : Nat) {next : Act → World → Prop} {Q : Exit → Act → World → Prop}
    (hn : ∀ φ' a' w', FRel X C n (putF n tf o.dst r.val) (newS (updS h r.upd) fresh r.new) φ' a' w' → a'.defers = a.defers → next a' w') : TakesIn F q P opsA o next Q a w := by
  have hAll : ∀ {l l' : List Prop}, All (l ++ l') → All l ∧ All l' := by
    intro l
    induction l with
    | nil => intro l' h; exact ⟨trivial, h⟩
    | cons p l ih => intro l' h; exact ⟨⟨h.1, (ih h.2).1⟩, (ih h.2).2⟩
  have hput : ∀ (v : Value), (a.put o.dst v).defers = a.defers := by intro v; cases o.dst <;> rfl
  have hρ := hs.eval hT
  unfold coreA at he
  split at he
  rename_i g scr1 _
  split at he
  · cases he
  · rename_i ob hw
    simp at he; subst he
    have hwv := wanted_sound hs hT hw hob
    unfold TakesIn
    rw [hwv, if_neg (by simp)]
    exact ⟨fun f _ => hF.fn f, hn φ _ w (hs.put hs.rel (keepB_refl _ _) (.refl _ _) (x := .tup []) (v := undef) (.tup .nil) o.dst) (hput _)⟩
  · rename_i ob hw
    split at he
    rename_i an scr2 _
    split at he
    · cases he
    · rename_i eff hex
      have fin : ∀ (x : AV) (obl' : List Prop), All eff.obl → All ob → (∀ h' φ' w' v, VRep h' φ' (okB C h' φ' w') w' eff.val v → VRep h' φ' (okB C h' φ' w') w' x v) →
          (∀ k, k < eff.new.length → h (fresh + k) = .unborn) →
          (∀ φ' a' w', FRel X C n (putF n tf o.dst x) (newS (updS h eff.upd) fresh eff.new) φ' a' w' → a'.defers = a.defers → next a' w') → TakesIn F q P opsA o next Q a w := by
        intro x obl' h1 h2 h3 h4 h5
        have hwv := wanted_sound hs hT hw h2
        unfold TakesIn
        rw [hwv, if_pos rfl]
        refine ⟨fun f _ => hF.fn f, ?_⟩
        rw [exec_semAt hex]
        exact exec_sound hB hs.rel hρ hl hex h4 hx h1 F q next Q hF (fun v φ' w' g1 g2 g3 g4 => h5 φ' _ w' (hs.put g1 g2 g3 (h3 _ _ _ _ g4) o.dst) (hput v))
      split at he
      · rename_i x scr3 _
        simp at he; subst he
        obtain ⟨e1, e2⟩ := hob
        obtain ⟨e3, e4⟩ := hAll e2
        exact fin x [] e3 e4 (fun _ _ _ _ hv => by rw [← e1]; exact hv) hf hn
      · simp at he; subst he
        obtain ⟨e3, e4⟩ := hAll hob
        exact fin .junk [] e3 e4 (fun _ _ _ _ _ => .junk _) hf hn
      · simp at he; subst he
        obtain ⟨e3, e4⟩ := hAll hob
        exact fin eff.val [] e3 e4 (fun _ _ _ _ hv => hv) hf hn

/-- The machine's frame and world are as a state says. -/
def SRel (X : Bs) (C : C0) (s : St) (φ : Nat → Value) (a : Act) (w : World) : Prop := FRel X C s.tmps.length (fun t => s.tmps.getD t .junk) (getO s.heap) φ a w

theorem putT_get (ts : List AV) (d : Option Nat) (x : AV) : (fun t => (putT ts d x).getD t .junk) = putF ts.length (fun t => ts.getD t .junk) d x := by
  funext t
  cases d with
  | none => simp [putT, putF]
  | some d =>
    simp only [putT, putF, Option.some.injEq, List.getD_eq_getElem?_getD, List.getElem?_set]
    by_cases e : d = t
    · subst e
      by_cases h : d < ts.length <;> simp [h]
    · simp [e]
theorem putT_length (ts : List AV) (d : Option Nat) (x : AV) : (putT ts d x).length = ts.length := by cases d <;> simp [putT]

theorem applyW_rel {s : St} {d : Option Tmp} {r : WR} {φ : Nat → Value} {a : Act} {w : World} (hu : updOK s.heap.length r.upd = true)
    (h : FRel X C s.tmps.length (putF s.tmps.length (fun t => s.tmps.getD t .junk) d r.val) (newS (updS (getO s.heap) r.upd) s.heap.length r.new) φ a w) : SRel X C (applyW s d r) φ a w := by
  unfold SRel applyW
  simp only [putT_length]
  rw [putT_get, append_get, (applyU_get r.upd s.heap hu).1, (applyU_get r.upd s.heap hu).2]
  exact h

theorem All_append {l l' : List Prop} : All (l ++ l') ↔ All l ∧ All l' := by
  induction l with
  | nil => simp [All]
  | cons p l ih => simp [All, ih, and_assoc]

theorem stepA_obl {ops : List Oper} {s s' : St} (he : stepA P E ops o s = some s') (h : All s'.obl) : All s.obl := by
  unfold stepA at he
  split at he
  · cases he
  · split at he
    · simp at he; subst he; exact (All_append.1 h).2
    · cases he
theorem runOps_obl {ops : List Oper} : ∀ {r : List Oper} {s s' : St}, runOps P E ops r s = some s' → All s'.obl → All s.obl
  | [], s, s', he, h => by simp [runOps] at he; subst he; exact h
  | o :: r, s, s', he, h => by
    simp only [runOps] at he
    split at he
    · cases he
    · rename_i s1 h1
      exact stepA_obl h1 (runOps_obl he h)

theorem stepA_sound (hB : Base P E C) {opsA : Array Oper} {s s' : St} {φ : Nat → Value} {a : Act} {w : World} (hs : SRel X C s φ a w) (he : stepA P E opsA.toList o s = some s') (hob : All s'.obl)
    {F : Fence} (hF : Wide F) (q : Nat) {next : Act → World → Prop} {Q : Exit → Act → World → Prop} (hn : ∀ φ' a' w', SRel X C s' φ' a' w' → a'.defers = a.defers → next a' w') : TakesIn F q P opsA o next Q a w := by
  unfold stepA at he
  split at he
  · cases he
  · rename_i r hr
    split at he
    · rename_i hu
      simp at he; subst he
      exact core_sound hB hs (fun _ => .inr rfl) (fun _ => .inr rfl) hr (fun k _ => getO_fresh _ k) (fun _ => ⟨fun _ _ => rfl, fun k hk => by simp [getO, List.getElem?_eq_none hk]⟩) (All_append.1 hob).1 hF q (fun φ' a' w' h1 h2 => hn φ' a' w' (applyW_rel hu h1) h2)
    · cases he

theorem runOps_sound (hB : Base P E C) {opsA : Array Oper} {F : Fence} (hF : Wide F) (q : Nat) {Q : Exit → Act → World → Prop} :
    ∀ (r : List Oper) (i : Nat), opsA.toList.drop i = r → ∀ {s s' : St} {φ : Nat → Value} {a : Act} {w : World}, SRel X C s φ a w → runOps P E opsA.toList r s = some s' → All s'.obl →
      (∀ φ' a' w', SRel X C s' φ' a' w' → a'.defers = a.defers → Q .normal a' w') → wpOpsIn F q P opsA Q (List.range' i r.length) a w := by
  intro r
  induction r with
  | nil =>
    intro i hi s s' φ a w hs he hob hn
    simp [runOps] at he; subst he
    simp only [List.length_nil, List.range'_zero, wpOpsIn]
    exact hn φ a w hs rfl
  | cons o r ih =>
    intro i hi s s' φ a w hs he hob hn
    simp only [runOps] at he
    split at he
    · cases he
    · rename_i s1 h1
      have hoi : opsA[i]? = some o := by
        have : opsA.toList[i]? = some o := by
          have := congrArg (·[0]?) hi
          simpa using this
        simpa using this
      have ht := stepA_sound hB hs h1 (runOps_obl he hob) hF q (next := wpOpsIn F q P opsA Q (List.range' (i + 1) r.length)) (Q := Q) (fun φ' a' w' h2 h3 =>
        ih (i + 1) (by rw [← List.drop_drop, hi]; rfl) h2 he hob (fun φ2 a2 w2 h4 h5 => hn φ2 a2 w2 h4 (h5.trans h3)))
      simp only [List.length_cons, List.range'_succ, wpOpsIn, hoi]
      exact ht

/-- A region in the order of its text. -/
theorem region_sound (hB : Base P E C) {opsA : Array Oper} {id : Nat} {F : Fence} (hF : Wide F) (q : Nat) {Q : Exit → Act → World → Prop} {s s' : St} {φ : Nat → Value} {a : Act} {w : World}
    (hs : SRel X C s φ a w) (he : runOps P E opsA.toList opsA.toList s = some s') (hob : All s'.obl) (hn : ∀ φ' a' w', SRel X C s' φ' a' w' → a'.defers = a.defers → Q .normal a' w') :
    (Code.region id opsA false).wpIn F q P Q a w := by
  refine wpIn_region ?_
  have := runOps_sound hB hF q (Q := Q) opsA.toList 0 (by simp) hs he hob hn
  rwa [List.range_eq_range', ← Array.length_toList]
end core

end Go.Abs
/- Regions that draw their order. -/
set_option linter.unusedVariables false
set_option linter.unusedSimpArgs false
set_option linter.unusedSectionVars false
namespace Go.Abs
open Go.RowKit

/-! ### Writes that are replayed -/
section rep
variable {L V : Type} (W : Ev → (L → V) → L → V)

def rep (D : Nat → Bool) : Nat → List Ev → (L → V) → L → V
  | _, [], f => f
  | i, e :: r, f => rep D (i + 1) r (if D i then W e f else f)

variable {wr : Ev → L → Prop} (hno : ∀ e f l, ¬ wr e l → W e f l = f l) (hyes : ∀ e f f' l, wr e l → W e f l = W e f' l)
include hno hyes

theorem rep_same {D D' : Nat → Bool} {l : L} : ∀ (es : List Ev) (i : Nat) (f f' : L → V), (∀ k e, es[k]? = some e → wr e l → D (i + k) = D' (i + k)) → f l = f' l → rep W D i es f l = rep W D' i es f' l := by
  intro es
  induction es with
  | nil => intro i f f' _ h; exact h
  | cons e es ih =>
    intro i f f' hD hf
    simp only [rep]
    refine ih (i + 1) _ _ (fun k e' he hw => ?_) ?_
    · have := hD (k + 1) e' (by simpa using he) hw
      rwa [show i + (k + 1) = i + 1 + k by omega] at this
    · by_cases hw : wr e l
      · have := hD 0 e rfl hw
        simp only [Nat.add_zero] at this
        rw [this]
        cases D' i
        · simpa using hf
        · simpa using hyes e f f' l hw
      · have h1 : (if D i = true then W e f else f) l = f l := by split; exact hno e f l hw; rfl
        have h2 : (if D' i = true then W e f' else f') l = f' l := by split; exact hno e f' l hw; rfl
        rw [h1, h2, hf]

omit hno hyes in
theorem rep_none : ∀ (es : List Ev) (i : Nat) (f : L → V), rep W (fun _ => false) i es f = f := by
  intro es
  induction es with
  | nil => intro i f; rfl
  | cons e es ih => intro i f; simp [rep, ih]

theorem rep_write {D : Nat → Bool} {l : L} {e : Ev} (hw : wr e l) (g : L → V) : ∀ (es : List Ev) (k i : Nat) (f : L → V), es[k]? = some e → D (i + k) = true →
    (∀ k' e', k < k' → es[k']? = some e' → wr e' l → D (i + k') = false) → rep W D i es f l = W e g l := by
  intro es
  induction es with
  | nil => intro k i f he; simp at he
  | cons e0 es ih =>
    intro k i f he hD hl
    cases k with
    | zero =>
      simp at he; subst he
      simp only [Nat.add_zero] at hD
      simp only [rep, hD, if_true]
      have := rep_same W hno hyes (D := D) (D' := fun _ => false) (l := l) es (i + 1) (W e0 f) (W e0 f) (fun k e' he' hw' => by
        have := hl (k + 1) e' (by omega) (by simpa using he') hw'
        rwa [show i + (k + 1) = i + 1 + k by omega] at this) rfl
      rw [this, rep_none]
      exact hyes e0 f g l hw
    | succ k =>
      simp only [rep]
      refine ih k (i + 1) _ (by simpa using he) (by rwa [show i + 1 + k = i + (k + 1) by omega]) (fun k' e' hk he' hw' => ?_)
      have := hl (k' + 1) e' (by omega) (by simpa using he') hw'
      rwa [show i + (k' + 1) = i + 1 + k' by omega] at this

omit hno hyes in
theorem rep_shift : ∀ (es : List Ev) (i j : Nat) (f : L → V), rep W (fun _ => true) i es f = rep W (fun _ => true) j es f := by
  intro es
  induction es with
  | nil => intro i j f; rfl
  | cons e es ih => intro i j f; simp only [rep]; exact ih _ _ _
omit hno hyes in
theorem rep_prefix : ∀ (es : List Ev) (k i : Nat) (f : L → V), rep W (fun j => decide (j < i + k)) i es f = rep W (fun _ => true) i (es.take k) f := by
  intro es
  induction es with
  | nil => intro k i f; simp [rep]
  | cons e es ih =>
    intro k i f
    cases k with
    | zero =>
      simp only [List.take_zero, rep]
      have : ∀ (l : List Ev) (j : Nat) (g : L → V), i ≤ j → rep W (fun j => decide (j < i + 0)) j l g = g := by
        intro l
        induction l with
        | nil => intro j g _; rfl
        | cons e l ih2 =>
          intro j g hj
          simp only [rep]
          rw [if_neg (by simp; omega), ih2 (j + 1) g (by omega)]
      rw [if_neg (by simp), this es (i + 1) f (by omega)]
    | succ k =>
      simp only [List.take_succ_cons, rep]
      rw [if_pos (by simp), if_pos trivial, ← ih k (i + 1)]
      congr 1
      funext j
      congr 1
      simp only [eq_iff_iff]
      omega
end rep

/-! The two kinds of writes. -/
def WT (n : Nat) (e : Ev) (f : Nat → AV) : Nat → AV := putF n f e.dst e.val
def WI (e : Ev) (f : SH) : SH := updS f e.wI

theorem WT_no (n : Nat) (e : Ev) (f : Nat → AV) (t : Nat) (h : ¬ (e.dst = some t ∧ t < n)) : WT n e f t = f t := by simp [WT, putF, h]
theorem WT_yes (n : Nat) (e : Ev) (f f' : Nat → AV) (t : Nat) (h : e.dst = some t ∧ t < n) : WT n e f t = WT n e f' t := by simp [WT, putF, h]
theorem updS_no : ∀ (us : List (Nat × Ob)) (h : SH) (id : Nat), id ∉ ids us → updS h us id = h id := by
  intro us
  induction us with
  | nil => intro h id _; rfl
  | cons p us ih =>
    obtain ⟨k, o⟩ := p
    intro h id hn
    simp [ids] at hn
    simp only [updS]
    rw [ih _ _ (by simpa [ids] using hn.2)]
    simp [upd1, hn.1]
theorem updS_yes : ∀ (us : List (Nat × Ob)) (h h' : SH) (id : Nat), id ∈ ids us → updS h us id = updS h' us id := by
  intro us
  induction us with
  | nil => intro h h' id hi; simp [ids] at hi
  | cons p us ih =>
    obtain ⟨k, o⟩ := p
    intro h h' id hi
    simp only [updS]
    by_cases h1 : id ∈ ids us
    · exact ih _ _ id h1
    · rw [updS_no _ _ _ h1, updS_no _ _ _ h1]
      have : id = k := by
        simp [ids] at hi h1
        rcases hi with hi | ⟨o', hi⟩
        · exact hi
        · exact absurd hi (h1 o')
      simp [upd1, this]
theorem WI_no (e : Ev) (f : SH) (id : Nat) (h : ¬ id ∈ ids e.wI) : WI e f id = f id := updS_no _ _ _ h
theorem WI_yes (e : Ev) (f f' : SH) (id : Nat) (h : id ∈ ids e.wI) : WI e f id = WI e f' id := updS_yes _ _ _ _ h
theorem updS_append : ∀ (us vs : List (Nat × Ob)) (h : SH), updS h (us ++ vs) = updS (updS h us) vs := by
  intro us
  induction us with
  | nil => intro vs h; rfl
  | cons p us ih => obtain ⟨k, o⟩ := p; intro vs h; exact ih vs _
theorem updS_news : ∀ (os : List Ob) (h : SH) (n : Nat), updS h (news n os) = newS h n os := by
  intro os
  induction os with
  | nil => intro h n; rfl
  | cons o os ih => intro h n; exact ih _ _
theorem news_ids : ∀ (os : List Ob) (n k : Nat), k < os.length → n + k ∈ ids (news n os) := by
  intro os
  induction os with
  | nil => intro n k h; simp at h
  | cons o os ih =>
    intro n k h
    cases k with
    | zero => simp [ids, news]
    | succ k =>
      have := ih (n + 1) k (by simpa using h)
      simp only [ids, news, List.map_cons, List.mem_cons]
      right
      rw [show n + (k + 1) = n + 1 + k by omega]
      exact this

/-! ### What goes ahead -/
theorem memN_iff (n : Nat) : ∀ l : List Nat, memN n l = true ↔ n ∈ l := by
  intro l
  induction l with
  | nil => simp [memN]
  | cons k l ih =>
    simp only [memN, Bool.or_eq_true, ih, List.mem_cons, Nat.beq_eq]
    constructor
    · rintro (h | h)
      · exact .inl h.symm
      · exact .inr h
    · rintro (h | h)
      · exact .inl h.symm
      · exact .inr h
theorem meets_iff (a b : List Nat) : meets a b = true ↔ ∃ x, x ∈ a ∧ x ∈ b := by
  unfold meets
  rw [List.any_eq_true]
  simp only [memN_iff]

theorem foldl_bits (acc : List Nat) (i : Nat) : ∀ (l : List Edge) (s : Nat), (l.foldl (fun s e => s ||| 2 ^ e.on ||| acc.getD e.on 0) s).testBit i = true ↔
    s.testBit i = true ∨ ∃ e ∈ l, e.on = i ∨ (acc.getD e.on 0).testBit i = true := by
  intro l
  induction l with
  | nil => intro s; simp
  | cons e l ih =>
    intro s
    simp only [List.foldl_cons, ih, Nat.testBit_or, Nat.testBit_two_pow, Bool.or_eq_true, decide_eq_true_eq, List.mem_cons]
    constructor
    · rintro (((h | h) | h) | ⟨e', h1, h2⟩)
      · exact .inl h
      · exact .inr ⟨e, .inl rfl, .inl h⟩
      · exact .inr ⟨e, .inl rfl, .inr h⟩
      · exact .inr ⟨e', .inr h1, h2⟩
    · rintro (h | ⟨e', rfl | h1, h2⟩)
      · exact .inl (.inl (.inl h))
      · rcases h2 with h2 | h2
        · exact .inl (.inl (.inr h2))
        · exact .inl (.inr h2)
      · exact .inr ⟨e', h1, h2⟩

/-- What 'befs' tells. -/
theorem befs_spec : ∀ (r : List Oper) (acc bs : List Nat), befs r acc = some bs → bs.length = acc.length + r.length ∧ (∀ j, j < acc.length → bs[j]? = acc[j]?) ∧
    ∀ k o, r[k]? = some o → (∀ e ∈ o.after.toList, Region.binds .any e = true → e.on < acc.length + k) ∧
      ∀ i, (bs.getD (acc.length + k) 0).testBit i = true → ∃ e ∈ o.after.toList, Region.binds .any e = true ∧ (e.on = i ∨ (bs.getD e.on 0).testBit i = true) := by
  intro r
  induction r with
  | nil => intro acc bs h; simp [befs] at h; subst h; exact ⟨by simp, fun _ _ => rfl, fun k o h => by simp at h⟩
  | cons o r ih =>
    intro acc bs h
    simp only [befs] at h
    split at h
    · rename_i hc
      obtain ⟨h1, h2, h3⟩ := ih _ bs h
      simp only [List.length_append, List.length_cons, List.length_nil] at h1 h2 h3
      have hedge : ∀ e ∈ o.after.toList, Region.binds .any e = true → e.on < acc.length := by
        intro e he hb
        have := List.all_eq_true.1 hc e he
        simp [hb] at this
        exact this
      have hacc : ∀ j, j < acc.length → bs[j]? = acc[j]? := fun j hj => by rw [h2 j (by omega), List.getElem?_append_left hj]
      refine ⟨by simp only [List.length_cons]; omega, hacc, fun k o' hk => ?_⟩
      cases k with
      | zero =>
        simp at hk; subst hk
        refine ⟨by simpa using hedge, fun i hi => ?_⟩
        have hb : bs.getD (acc.length + 0) 0 = (o.after.toList.filter (Region.binds .any)).foldl (fun s e => s ||| 2 ^ e.on ||| acc.getD e.on 0) 0 := by
          simp only [Nat.add_zero, List.getD_eq_getElem?_getD]
          rw [h2 acc.length (by omega)]
          simp
        rw [hb, foldl_bits] at hi
        rcases hi with hi | ⟨e, he, hi⟩
        · simp at hi
        · rw [List.mem_filter] at he
          refine ⟨e, he.1, he.2, ?_⟩
          rcases hi with hi | hi
          · exact .inl hi
          · right
            simp only [List.getD_eq_getElem?_getD] at hi ⊢
            rw [hacc e.on (hedge e he.1 he.2)]
            exact hi
      | succ k =>
        have := h3 k o' (by simpa using hk)
        refine ⟨fun e he hb => by have := this.1 e he hb; omega, fun i hi => this.2 i (by rwa [show acc.length + 1 + k = acc.length + (k + 1) by omega])⟩
    · cases h

theorem orderedFrom_spec {bs : List Nat} {all : List Ev} {j : Nat} {ej : Ev} : ∀ (r : List Ev) (i : Nat), orderedFrom bs all j ej i r = true → ∀ k e, r[k]? = some e → i + k < j → conflict e ej = true → (bs.getD j 0).testBit (i + k) = true := by
  intro r
  induction r with
  | nil => intro i _ k e he; simp at he
  | cons e0 r ih =>
    intro i h k e he hlt hc
    simp only [orderedFrom, Bool.and_eq_true, Bool.or_eq_true, Nat.ble_eq] at h
    cases k with
    | zero =>
      simp at he; subst he
      rcases h.1 with (h1 | h1) | h1
      · omega
      · simpa using h1
      · rw [hc] at h1; simp at h1
    | succ k =>
      have := ih (i + 1) h.2 k e (by simpa using he) (by omega) hc
      rwa [show i + (k + 1) = i + 1 + k by omega]
theorem orderedAll_spec {bs : List Nat} {all : List Ev} : ∀ (r : List Ev) (j : Nat), orderedAll bs all j r = true → ∀ k ej, r[k]? = some ej → orderedFrom bs all (j + k) ej 0 all = true := by
  intro r
  induction r with
  | nil => intro j _ k e he; simp at he
  | cons e0 r ih =>
    intro j h k ej he
    simp only [orderedAll, Bool.and_eq_true] at h
    cases k with
    | zero => simp at he; subst he; exact h.1
    | succ k =>
      have := ih (j + 1) h.2 k ej (by simpa using he)
      rwa [show j + (k + 1) = j + 1 + k by omega]

/-- Sets of operations that hold what goes ahead of each. -/
def Closed (ops : List Oper) (D : Nat → Bool) : Prop := ∀ j o, ops[j]? = some o → D j = true → ∀ e ∈ o.after.toList, Region.binds .any e = true → D e.on = true

theorem closed_bits {ops : List Oper} {bs : List Nat} (hb : befs ops [] = some bs) {D : Nat → Bool} (hD : Closed ops D) : ∀ (j i : Nat), j < ops.length → (∀ e ∈ ((ops[j]?).map (·.after.toList)).getD [], Region.binds .any e = true → D e.on = true) → (bs.getD j 0).testBit i = true → D i = true := by
  intro j
  induction j using Nat.strongRecOn with
  | _ j ih =>
    intro i hj hr hi
    obtain ⟨h1, _, h3⟩ := befs_spec ops [] bs hb
    have ho : ops[j]? = some ops[j] := List.getElem?_eq_getElem hj
    obtain ⟨h4, h5⟩ := h3 j ops[j] ho
    simp only [List.length_nil, Nat.zero_add] at h4 h5
    obtain ⟨e, he, hbi, hor⟩ := h5 i hi
    have hDe : D e.on = true := hr e (by simpa [ho] using he) hbi
    rcases hor with h | h
    · rw [← h]; exact hDe
    · have hlt := h4 e he hbi
      have ho2 : ops[e.on]? = some ops[e.on] := List.getElem?_eq_getElem (by omega)
      exact ih e.on hlt i (by omega) (fun e' he' hb' => hD e.on ops[e.on] ho2 hDe e' (by simpa [ho2] using he') hb') h

end Go.Abs
/- Regions that draw their order: whatever order is drawn, the end is that of the text's order. -/
set_option linter.unusedVariables false
set_option linter.unusedSimpArgs false
set_option linter.unusedSectionVars false
namespace Go.Abs
open Go.RowKit

section draw
variable {P : Program} {E : Env} {X : Bs} {C : C0}

def repT (n : Nat) (D : Nat → Bool) (es : List Ev) (f : Nat → AV) : Nat → AV := rep (WT n) D 0 es f
def repI (D : Nat → Bool) (es : List Ev) (f : SH) : SH := rep WI D 0 es f

/-- What 'runD' tells of each operation. -/
structure Told (P : Program) (E : Env) (ops : List Oper) (n L0 : Nat) (tf0 : Nat → AV) (h0 : SH) (es : List Ev) (k : Nat) (o : Oper) (e : Ev) (fin : List Prop) : Prop where
  some : ∃ (sk : St) (r : WR) (cnt : Nat) (scr : Script), (fun t => sk.tmps.getD t .junk) = rep (WT n) (fun _ => true) 0 (es.take k) tf0 ∧ getO sk.heap = rep WI (fun _ => true) 0 (es.take k) h0 ∧
    coreA P E ops o (restT e.rT (fun t => sk.tmps.getD t .junk)) (restI e.rI (getO sk.heap)) sk.heap.length cnt scr = some r ∧
    e.rI = readsI e.rT (fun t => sk.tmps.getD t .junk) ∧ e.dst = o.dst ∧ e.val = r.val ∧ e.wI = r.upd ++ news sk.heap.length r.new ∧ (All fin → All r.obl) ∧ e.y = isYield o (rdF (restT e.rT (fun t => sk.tmps.getD t .junk))) ∧ ((∀ k' e', k' < k → es[k']? = some e' → e'.wI = []) → sk.heap.length = L0)

theorem applyW_T (s : St) (d : Option Tmp) (r : WR) : (fun t => (applyW s d r).tmps.getD t .junk) = putF s.tmps.length (fun t => s.tmps.getD t .junk) d r.val := putT_get _ _ _
theorem applyW_H (s : St) (d : Option Tmp) (r : WR) (hu : updOK s.heap.length r.upd = true) : getO (applyW s d r).heap = updS (getO s.heap) (r.upd ++ news s.heap.length r.new) := by
  unfold applyW
  simp only
  rw [append_get, (applyU_get r.upd s.heap hu).1, (applyU_get r.upd s.heap hu).2, updS_append _ _ (getO s.heap), updS_news]

theorem runD_spec {ops : List Oper} (n : Nat) : ∀ (r : List Oper) (s : St) (es : List Ev) (s' : St), s.tmps.length = n → runD P E ops r s = some (es, s') →
    es.length = r.length ∧ s'.tmps.length = n ∧ (All s'.obl → All s.obl) ∧
    (fun t => s'.tmps.getD t .junk) = rep (WT n) (fun _ => true) 0 es (fun t => s.tmps.getD t .junk) ∧ getO s'.heap = rep WI (fun _ => true) 0 es (getO s.heap) ∧
    ∀ k o e, r[k]? = some o → es[k]? = some e → Told P E ops n s.heap.length (fun t => s.tmps.getD t .junk) (getO s.heap) es k o e s'.obl := by
  intro r
  induction r with
  | nil =>
    intro s es s' hn he
    simp [runD] at he
    obtain ⟨rfl, rfl⟩ := he
    exact ⟨rfl, hn, fun h => h, rfl, rfl, fun k o e hk => by simp at hk⟩
  | cons o r ih =>
    intro s es s' hn he
    simp only [runD] at he
    split at he
    · cases he
    · rename_i w hw
      split at he
      · rename_i hu
        split at he
        · cases he
        · rename_i es1 s1 h1
          simp only [Option.some.injEq, Prod.mk.injEq] at he
          obtain ⟨rfl, rfl⟩ := he
          have hlen : (applyW s o.dst w).tmps.length = n := by simp [applyW, putT_length, hn]
          obtain ⟨g1, g2, g3, g4, g5, g6⟩ := ih _ _ _ hlen h1
          have hT := applyW_T s o.dst w
          have hH := applyW_H s o.dst w hu
          have hT' : ∀ l : List Ev, rep (WT n) (fun _ => true) 0 (⟨readsT ops o, readsI (readsT ops o) (fun t => s.tmps.getD t .junk), o.dst, w.val, w.upd ++ news s.heap.length w.new, isYield o (rdF (restT (readsT ops o) (fun t => s.tmps.getD t .junk)))⟩ :: l) (fun t => s.tmps.getD t .junk) =
              rep (WT n) (fun _ => true) 0 l (fun t => (applyW s o.dst w).tmps.getD t .junk) := by
            intro l
            simp only [rep, if_true]
            rw [rep_shift _ l _ 0, hT, hn]
            rfl
          have hH' : ∀ l : List Ev, rep WI (fun _ => true) 0 (⟨readsT ops o, readsI (readsT ops o) (fun t => s.tmps.getD t .junk), o.dst, w.val, w.upd ++ news s.heap.length w.new, isYield o (rdF (restT (readsT ops o) (fun t => s.tmps.getD t .junk)))⟩ :: l) (getO s.heap) =
              rep WI (fun _ => true) 0 l (getO (applyW s o.dst w).heap) := by
            intro l
            simp only [rep, if_true]
            rw [rep_shift _ l _ 0, hH]
            rfl
          refine ⟨by simp [g1], g2, fun h => (All_append.1 (g3 h)).2, by rw [hT', g4], by rw [hH', g5], fun k o' e hk he => ?_⟩
          cases k with
          | zero =>
            simp only [List.getElem?_cons_zero, Option.some.injEq] at hk he
            subst hk he
            exact ⟨s, w, s.cnt, s.scr, by simp [rep], by simp [rep], hw, rfl, rfl, rfl, rfl, fun h => (All_append.1 (g3 h)).1, rfl, fun _ => rfl⟩
          | succ k =>
            simp only [List.getElem?_cons_succ] at hk he
            obtain ⟨sk, r0, cnt, scr, q1, q2, q3, q4, q5, q6, q7, q8, q9, q10⟩ := (g6 k o' e hk he).some
            refine ⟨sk, r0, cnt, scr, ?_, ?_, q3, q4, q5, q6, q7, q8, q9, fun hq => ?_⟩
            · rw [q1, List.take_succ_cons, hT']
            · rw [q2, List.take_succ_cons, hH']
            · rw [q10 (fun k' e' hk' he' => hq (k' + 1) e' (by omega) (by simpa using he'))]
              have h0 := hq 0 _ (by omega) rfl
              simp only [List.append_eq_nil_iff] at h0
              have hnew : w.new = [] := by
                cases hn' : w.new with
                | nil => rfl
                | cons x xs => rw [hn'] at h0; simp [news] at h0
              simp [applyW, hnew, (applyU_get w.upd s.heap hu).2]
      · cases he

theorem restT_congr {rs : List Nat} {f g : Nat → AV} (h : ∀ t ∈ rs, f t = g t) : restT rs f = restT rs g := by
  funext t
  unfold restT
  split
  · rename_i hm; exact h t ((memN_iff t rs).1 hm)
  · rfl
theorem restI_congr {rs : List Nat} {f g : SH} (h : ∀ t ∈ rs, f t = g t) : restI rs f = restI rs g := by
  funext t
  unfold restI
  split
  · rename_i hm; exact h t ((memN_iff t rs).1 hm)
  · rfl

theorem conflict_T {a b : Ev} {t : Nat} (h1 : a.dst = some t) (h2 : t ∈ b.rT ∨ b.dst = some t) : conflict a b = true ∧ conflict b a = true := by
  have m : t ∈ dstL a.dst := by simp [h1, dstL]
  rcases h2 with h2 | h2
  · have := (meets_iff (dstL a.dst) b.rT).2 ⟨t, m, h2⟩
    simp [conflict, this]
  · have m2 : t ∈ dstL b.dst := by simp [h2, dstL]
    have e1 := (meets_iff (dstL a.dst) (dstL b.dst)).2 ⟨t, m, m2⟩
    have e2 := (meets_iff (dstL b.dst) (dstL a.dst)).2 ⟨t, m2, m⟩
    simp [conflict, e1, e2]
theorem conflict_I {a b : Ev} {t : Nat} (h1 : t ∈ ids a.wI) (h2 : t ∈ b.rI ∨ t ∈ ids b.wI) : conflict a b = true ∧ conflict b a = true := by
  rcases h2 with h2 | h2
  · have := (meets_iff (ids a.wI) b.rI).2 ⟨t, h1, h2⟩
    simp [conflict, this]
  · have e1 := (meets_iff (ids a.wI) (ids b.wI)).2 ⟨t, h1, h2⟩
    have e2 := (meets_iff (ids b.wI) (ids a.wI)).2 ⟨t, h2, h1⟩
    simp [conflict, e1, e2]

theorem othersQuiet_spec {i : Nat} : ∀ (es : List Ev) (j : Nat), seesAll.othersQuiet i j es = true → ∀ k e, es[k]? = some e → j + k ≠ i → e.wI = [] := by
  intro es
  induction es with
  | nil => intro j _ k e he; simp at he
  | cons e0 es ih =>
    intro j h k e he hne
    simp only [seesAll.othersQuiet, Bool.and_eq_true, Bool.or_eq_true] at h
    cases k with
    | zero =>
      simp at he; subst he
      rcases h.1 with h1 | h1
      · exact absurd (Nat.eq_of_beq_eq_true h1) hne
      · simpa using h1
    | succ k => exact ih (j + 1) h.2 k e (by simpa using he) (by omega)
theorem seesAll_spec' {n : Nat} {all : List Ev} : ∀ (es : List Ev) (i : Nat), seesAll n all i es = true → ∀ k e, es[k]? = some e → e.y = true → (∀ t, t < n → t ∈ e.rI) ∧ ∀ k' e', k' ≠ i + k → all[k']? = some e' → e'.wI = [] := by
  intro es
  induction es with
  | nil => intro i _ k e he; simp at he
  | cons e0 es ih =>
    intro i h k e he hy
    simp only [seesAll, Bool.and_eq_true, Bool.or_eq_true] at h
    cases k with
    | zero =>
      simp at he; subst he
      rcases h.1 with h1 | h1
      · rw [hy] at h1; cases h1
      · refine ⟨fun t ht => (memN_iff _ _).1 (List.all_eq_true.1 h1.1 t (by simpa using ht)), fun k' e' hne he' => othersQuiet_spec all 0 h1.2 k' e' he' (by omega)⟩
    | succ k =>
      obtain ⟨h2, h3⟩ := ih (i + 1) h.2 k e (by simpa using he) hy
      exact ⟨h2, fun k' e' hne he' => h3 k' e' (by omega) he'⟩
theorem seesAll_spec {n : Nat} {es : List Ev} (h : seesAll n es 0 es = true) {i : Nat} {e : Ev} (he : es[i]? = some e) (hy : e.y = true) : (∀ t, t < n → t ∈ e.rI) ∧ ∀ k' e', k' ≠ i → es[k']? = some e' → e'.wI = [] := by
  obtain ⟨h1, h2⟩ := seesAll_spec' es 0 h i e he hy
  exact ⟨h1, fun k' e' hne he' => h2 k' e' (by omega) he'⟩
theorem rep_quiet {D : Nat → Bool} : ∀ (es : List Ev) (i : Nat) (f : SH), (∀ k e, es[k]? = some e → D (i + k) = true → e.wI = []) → rep WI D i es f = f := by
  intro es
  induction es with
  | nil => intro i f _; rfl
  | cons e es ih =>
    intro i f h
    simp only [rep]
    have h0 : (if D i = true then WI e f else f) = f := by
      split
      · rename_i hD
        have := h 0 e rfl hD
        unfold WI; rw [this]; rfl
      · rfl
    rw [h0]
    exact ih (i + 1) f (fun k e' he' hD => h (k + 1) e' (by simpa using he') (by rw [show i + (k + 1) = i + 1 + k by omega]; exact hD))

/-- One more operation. -/
theorem draw_step (hB : Base P E C) {opsA : Array Oper} {s s' : St} {es : List Ev} {bs : List Nat} (hD : runD P E opsA.toList opsA.toList s = some (es, s')) (hbs : befs opsA.toList [] = some bs)
    (hord : orderedAll bs es 0 es = true) (hsee : seesAll s.heap.length es 0 es = true) (hob : All s'.obl) {D : Nat → Bool} (hcl : Closed opsA.toList D) {i : Nat} {o : Oper} (hoi : opsA.toList[i]? = some o) (hDi : D i = false)
    (hready : ∀ e ∈ o.after.toList, Region.binds .any e = true → D e.on = true) {φ : Nat → Value} {a : Act} {w : World}
    (hs : FRel X C s.tmps.length (repT s.tmps.length D es (fun t => s.tmps.getD t .junk)) (repI D es (getO s.heap)) φ a w) {F : Fence} (hF : Wide F) (q : Nat) {next : Act → World → Prop} {Q : Exit → Act → World → Prop}
    (hn : ∀ φ' a' w', FRel X C s.tmps.length (repT s.tmps.length (fun j => D j || j == i) es (fun t => s.tmps.getD t .junk)) (repI (fun j => D j || j == i) es (getO s.heap)) φ' a' w' → a'.defers = a.defers → next a' w') :
    TakesIn F q P opsA o next Q a w := by
  obtain ⟨g1, g2, g3, g4, g5, g6⟩ := runD_spec s.tmps.length opsA.toList s es s' rfl hD
  have hilt : i < opsA.toList.length := (List.getElem?_eq_some_iff.1 hoi).1
  have hei : es[i]? = some es[i] := List.getElem?_eq_getElem (by omega)
  generalize hev : es[i] = e at hei
  obtain ⟨sk, r, cnt, scr, q1, q2, q3, q4, q5, q6, q7, q8, q9, q10⟩ := (g6 i o e hoi hei).some
  have ob := q8 hob
  -- conflicts are ordered
  have hbefore : ∀ k e', es[k]? = some e' → k < i → conflict e' e = true → D k = true := by
    intro k e' he' hk hc
    have h1 := orderedAll_spec es 0 hord i e hei
    simp only [Nat.zero_add] at h1
    have h2 := orderedFrom_spec es 0 h1 k e' he' (by omega) hc
    simp only [Nat.zero_add] at h2
    exact closed_bits hbs hcl i k hilt (by simpa [hoi] using hready) h2
  have hbehind : ∀ k e', es[k]? = some e' → i < k → conflict e e' = true → D k = false := by
    intro k e' he' hk hc
    cases hDk : D k with
    | false => rfl
    | true =>
      exfalso
      have hklt : k < opsA.toList.length := by have := (List.getElem?_eq_some_iff.1 he').1; omega
      have h1 := orderedAll_spec es 0 hord k e' he'
      simp only [Nat.zero_add] at h1
      have h2 := orderedFrom_spec es 0 h1 i e hei (by omega) hc
      simp only [Nat.zero_add] at h2
      have hok : opsA.toList[k]? = some opsA.toList[k] := List.getElem?_eq_getElem hklt
      have := closed_bits hbs hcl k i hklt (fun e2 h2 hb => hcl k _ hok hDk e2 (by simpa [hok] using h2) hb) h2
      rw [hDi] at this; cases this
  -- what it sees is what it saw in the text's order
  have seeT : ∀ t, (t ∈ e.rT ∨ e.dst = some t) → repT s.tmps.length D es (fun t => s.tmps.getD t .junk) t = (fun t => sk.tmps.getD t .junk) t := by
    intro t ht
    have e1 : (fun t => sk.tmps.getD t .junk) = rep (WT s.tmps.length) (fun j => decide (j < i)) 0 es (fun t => s.tmps.getD t .junk) := by
      rw [q1]
      have := rep_prefix (WT s.tmps.length) es i 0 (fun t => s.tmps.getD t .junk)
      simp only [Nat.zero_add] at this
      exact this.symm
    rw [e1]
    refine rep_same (WT s.tmps.length) (wr := fun e t => e.dst = some t ∧ t < s.tmps.length) (WT_no s.tmps.length) (WT_yes s.tmps.length) es 0 _ _ (fun k e' he' hw => ?_) rfl
    simp only [Nat.zero_add]
    rcases Nat.lt_trichotomy k i with h | h | h
    · rw [hbefore k e' he' h (conflict_T hw.1 ht).1]; simp [h]
    · subst h; simp [hDi]
    · rw [hbehind k e' he' h (conflict_T hw.1 ht).2]; simp; omega
  have seeI : ∀ t, (t ∈ e.rI ∨ t ∈ ids e.wI) → repI D es (getO s.heap) t = getO sk.heap t := by
    intro t ht
    have e1 : getO sk.heap = rep WI (fun j => decide (j < i)) 0 es (getO s.heap) := by
      rw [q2]
      have := rep_prefix WI es i 0 (getO s.heap)
      simp only [Nat.zero_add] at this
      exact this.symm
    rw [e1]
    refine rep_same WI (wr := fun e t => t ∈ ids e.wI) WI_no WI_yes es 0 _ _ (fun k e' he' hw => ?_) rfl
    simp only [Nat.zero_add]
    rcases Nat.lt_trichotomy k i with h | h | h
    · rw [hbefore k e' he' h (conflict_I hw ht).1]; simp [h]
    · subst h; simp [hDi]
    · rw [hbehind k e' he' h (conflict_I hw ht).2]; simp; omega
  have hcore : coreA P E opsA.toList o (restT e.rT (repT s.tmps.length D es (fun t => s.tmps.getD t .junk))) (restI e.rI (repI D es (getO s.heap))) sk.heap.length cnt scr = some r := by
    rw [restT_congr (fun t ht => seeT t (.inl ht)), restI_congr (fun t ht => seeI t (.inl ht))]
    exact q3
  refine core_sound hB hs (fun t => by unfold restT; split; exact .inr rfl; exact .inl rfl) (fun id => by unfold restI; split; exact .inr rfl; exact .inl rfl) hcore (fun k hk => ?_) (fun hy => ?_) ob hF q (fun φ' a' w' h1 h2 => hn φ' a' w' ?_ h2)
  · have hm : sk.heap.length + k ∈ ids e.wI := by
      rw [q7]
      simp only [ids, List.map_append, List.mem_append]
      exact .inr (news_ids _ _ _ hk)
    rw [seeI _ (.inr hm)]
    exact getO_fresh _ _
  · rw [restT_congr (fun t ht => seeT t (.inl ht)), ← q9] at hy
    obtain ⟨y1, y2⟩ := seesAll_spec hsee hei hy
    have hq : sk.heap.length = s.heap.length := q10 (fun k' e' hk' he' => y2 k' e' (by omega) he')
    have hI : repI D es (getO s.heap) = getO s.heap := by
      unfold repI
      rw [rep_quiet es 0 (getO s.heap) (fun k e' he' hD' => y2 k e' (fun ek => by subst ek; simp [hDi] at hD') he')]
    rw [hI, hq]
    exact ⟨fun k hk => by unfold restI; rw [if_pos ((memN_iff _ _).2 (y1 k hk))], fun k hk => by simp [getO, List.getElem?_eq_none hk]⟩
  · have hTe : putF s.tmps.length (repT s.tmps.length D es (fun t => s.tmps.getD t .junk)) o.dst r.val = repT s.tmps.length (fun j => D j || j == i) es (fun t => s.tmps.getD t .junk) := by
      funext t
      by_cases hw : e.dst = some t ∧ t < s.tmps.length
      · have h1 := rep_write (WT s.tmps.length) (wr := fun e t => e.dst = some t ∧ t < s.tmps.length) (WT_no s.tmps.length) (WT_yes s.tmps.length) (D := fun j => D j || j == i) hw (fun _ => .junk) es i 0 (fun t => s.tmps.getD t .junk) hei (by simp)
          (fun k' e' hk' he' hw' => by
            simp only [Nat.zero_add]
            rw [hbehind k' e' he' hk' (conflict_T hw.1 (.inr hw'.1)).1]
            simp; omega)
        unfold repT
        rw [h1]
        simp only [WT, putF]
        rw [if_pos hw, if_pos ⟨q5 ▸ hw.1, hw.2⟩, q6]
      · have h1 := rep_same (WT s.tmps.length) (wr := fun e t => e.dst = some t ∧ t < s.tmps.length) (WT_no s.tmps.length) (WT_yes s.tmps.length) (D := D) (D' := fun j => D j || j == i) (l := t) es 0 (fun t => s.tmps.getD t .junk) (fun t => s.tmps.getD t .junk)
          (fun k e' he' hw' => by
            simp only [Nat.zero_add]
            by_cases hk : k = i
            · subst hk
              rw [hei] at he'; cases he'
              exact absurd hw' hw
            · simp [hk]) rfl
        unfold repT at h1 ⊢
        rw [← h1]
        simp only [putF]
        rw [if_neg (by rw [← q5]; exact hw)]
    have hIe : newS (updS (repI D es (getO s.heap)) r.upd) sk.heap.length r.new = repI (fun j => D j || j == i) es (getO s.heap) := by
      rw [← updS_news, ← updS_append _ _ (repI D es (getO s.heap)), ← q7]
      funext t
      by_cases hw : t ∈ ids e.wI
      · have h1 := rep_write WI (wr := fun e t => t ∈ ids e.wI) WI_no WI_yes (D := fun j => D j || j == i) hw (repI D es (getO s.heap)) es i 0 (getO s.heap) hei (by simp)
          (fun k' e' hk' he' hw' => by
            simp only [Nat.zero_add]
            rw [hbehind k' e' he' hk' (conflict_I hw (.inr hw')).1]
            simp; omega)
        unfold repI at h1 ⊢
        rw [h1]
        rfl
      · have h1 := rep_same WI (wr := fun e t => t ∈ ids e.wI) WI_no WI_yes (D := D) (D' := fun j => D j || j == i) (l := t) es 0 (getO s.heap) (getO s.heap)
          (fun k e' he' hw' => by
            simp only [Nat.zero_add]
            by_cases hk : k = i
            · subst hk
              rw [hei] at he'; cases he'
              exact absurd hw' hw
            · simp [hk]) rfl
        unfold repI at h1 ⊢
        rw [← h1]
        exact updS_no _ _ _ hw
    rw [← hTe, ← hIe]
    exact h1

theorem count_set : ∀ (l : List Bool) (i : Nat), l[i]? = some false → (l.set i true).count false + 1 = l.count false := by
  intro l
  induction l with
  | nil => intro i h; simp at h
  | cons b l ih =>
    intro i h
    cases i with
    | zero => simp at h; subst h; simp
    | succ i =>
      simp at h
      have := ih i h
      simp only [List.set_cons_succ, List.count_cons]
      omega

/-- A region that draws its order. -/
theorem draw_sound (hB : Base P E C) {opsA : Array Oper} {id : Nat} {F : Fence} (hF : Wide F) (q : Nat) {Q : Exit → Act → World → Prop} {s s' : St} {φ : Nat → Value} {a : Act} {w : World}
    (hs : SRel X C s φ a w) (he : runDraw P E opsA.toList s = some s') (hob : All s'.obl) (hn : ∀ φ' a' w', SRel X C s' φ' a' w' → a'.defers = a.defers → Q .normal a' w') :
    (Code.region id opsA true).wpIn F q P Q a w := by
  unfold runDraw at he
  split at he
  · rename_i es s1 bs hD hbs
    split at he
    · rename_i hord
      rw [Bool.and_eq_true] at hord
      obtain ⟨hord, hsee⟩ := hord
      simp at he; subst he
      obtain ⟨g1, g2, g3, g4, g5, g6⟩ := runD_spec s.tmps.length opsA.toList s es s1 rfl hD
      obtain ⟨hb1, _, hb3⟩ := befs_spec opsA.toList [] bs hbs
      -- if nothing is ready all is done
      have hall : ∀ (listed : Array Bool), listed.size = opsA.size → Region.ready .any opsA listed = [] → ∀ i, i < opsA.size → listed.getD i false = true := by
        intro listed hsz hr i
        induction i using Nat.strongRecOn with
        | _ i ih =>
          intro hi
          cases hli : listed.getD i false with
          | true => rfl
          | false =>
            exfalso
            have hoi : opsA.toList[i]? = some opsA[i] := by simp [hi]
            obtain ⟨h4, _⟩ := hb3 i opsA[i] hoi
            simp only [List.length_nil, Nat.zero_add] at h4
            have hm : i ∈ Region.ready .any opsA listed := by
              unfold Region.ready
              rw [List.mem_filter]
              refine ⟨by simpa using hi, ?_⟩
              have hli' : listed.getD i true = false := by
                have hlt : i < listed.size := by omega
                rw [Array.getD_eq_getD_getElem?, Array.getElem?_eq_getElem hlt] at hli ⊢
                simpa using hli
              simp only [hli', Bool.not_false, Bool.true_and, Array.getElem?_eq_getElem hi, Option.map_some, Option.getD_some]
              rw [← Array.all_toList, List.all_eq_true]
              intro e he
              cases hbe : Region.binds .any e with
              | false => simp
              | true =>
                have hlt := h4 e he hbe
                have := ih e.on hlt (by omega)
                simp [this]
            rw [hr] at hm
            simp at hm
      have hfin : ∀ (listed : Array Bool) (φ : Nat → Value) (a' : Act) (w : World), (∀ i, i < opsA.size → listed.getD i false = true) →
          FRel X C s.tmps.length (repT s.tmps.length (fun j => listed.getD j false) es (fun t => s.tmps.getD t .junk)) (repI (fun j => listed.getD j false) es (getO s.heap)) φ a' w → SRel X C s1 φ a' w := by
        intro listed φ a' w hl hrel
        have e1 : repT s.tmps.length (fun j => listed.getD j false) es (fun t => s.tmps.getD t .junk) = (fun t => s1.tmps.getD t .junk) := by
          rw [g4]
          funext t
          refine rep_same (WT s.tmps.length) (wr := fun e t => e.dst = some t ∧ t < s.tmps.length) (WT_no s.tmps.length) (WT_yes s.tmps.length) es 0 _ _ (fun k e' he' hw => ?_) rfl
          have : k < es.length := (List.getElem?_eq_some_iff.1 he').1
          simp only [Nat.zero_add]
          exact hl k (by rw [g1] at this; simpa using this)
        have e2 : repI (fun j => listed.getD j false) es (getO s.heap) = getO s1.heap := by
          rw [g5]
          funext t
          refine rep_same WI (wr := fun e t => t ∈ ids e.wI) WI_no WI_yes es 0 _ _ (fun k e' he' hw => ?_) rfl
          have : k < es.length := (List.getElem?_eq_some_iff.1 he').1
          simp only [Nat.zero_add]
          exact hl k (by rw [g1] at this; simpa using this)
        unfold SRel
        rw [← e1, ← e2, g2]
        exact hrel
      have key : ∀ (fuel : Nat) (listed : Array Bool) (φ : Nat → Value) (a' : Act) (w : World), listed.size = opsA.size → listed.toList.count false ≤ fuel → Closed opsA.toList (fun j => listed.getD j false) →
          a'.defers = a.defers → FRel X C s.tmps.length (repT s.tmps.length (fun j => listed.getD j false) es (fun t => s.tmps.getD t .junk)) (repI (fun j => listed.getD j false) es (getO s.heap)) φ a' w →
          wpAnyIn F q P .any opsA Q fuel listed a' w := by
        intro fuel
        induction fuel with
        | zero =>
          intro listed φ a' w hsz hc hcl hd hrel
          have hl : ∀ i, i < opsA.size → listed.getD i false = true := by
            intro i hi
            have hlt : i < listed.size := by omega
            cases hli : listed.getD i false with
            | true => rfl
            | false =>
              have : false ∈ listed.toList := by
                rw [Array.getD_eq_getD_getElem?, Array.getElem?_eq_getElem hlt] at hli
                simp at hli
                rw [← hli]
                simp
              have := List.count_pos_iff.2 this
              omega
          refine ⟨?_, hn φ a' w (hfin listed φ a' w hl hrel) hd⟩
          unfold Region.ready
          rw [List.filter_eq_nil_iff]
          intro i hi
          simp at hi
          have h1 := hl i hi
          have hlt : i < listed.size := by omega
          have : listed.getD i true = true := by
            rw [Array.getD_eq_getD_getElem?, Array.getElem?_eq_getElem hlt] at h1 ⊢
            simpa using h1
          simp [this]
        | succ fuel ih =>
          intro listed φ a' w hsz hc hcl hd hrel
          refine ⟨fun hr => hn φ a' w (hfin listed φ a' w (hall listed hsz hr) hrel) hd, fun i hi => ?_⟩
          unfold Region.ready at hi
          rw [List.mem_filter] at hi
          obtain ⟨hi1, hi2⟩ := hi
          simp at hi1
          have hlt : i < listed.size := by omega
          simp only [Bool.and_eq_true, Bool.not_eq_true', Array.getElem?_eq_getElem hi1, Option.map_some, Option.getD_some] at hi2
          have hli : listed.getD i false = false := by
            have := hi2.1
            rw [Array.getD_eq_getD_getElem?, Array.getElem?_eq_getElem hlt] at this ⊢
            simpa using this
          have hoi : opsA.toList[i]? = some opsA[i] := by simp [hi1]
          have hready : ∀ e ∈ opsA[i].after.toList, Region.binds .any e = true → listed.getD e.on false = true := by
            intro e he hb
            have := hi2.2
            rw [← Array.all_toList, List.all_eq_true] at this
            have := this e he
            simpa [hb] using this
          have hDD : (fun j => listed.getD j false || j == i) = (fun j => (listed.setIfInBounds i true).getD j false) := by
            funext j
            simp only [Array.getD_eq_getD_getElem?, Array.getElem?_setIfInBounds]
            by_cases e : i = j
            · subst e; simp [hlt]
            · simp [e, Ne.symm e]
          have hstep := draw_step hB hD hbs hord hsee hob hcl hoi hli hready hrel hF q (next := wpAnyIn F q P .any opsA Q fuel (listed.setIfInBounds i true)) (Q := Q) (fun φ' a2 w2 h1 h2 => by
            refine ih _ φ' a2 w2 (by simpa using hsz) ?_ ?_ (h2.trans hd) (by rw [hDD] at h1; exact h1)
            · have hlf : listed.toList[i]? = some false := by
                rw [Array.getD_eq_getD_getElem?, Array.getElem?_eq_getElem hlt] at hli
                simp at hli
                simp [hlt, hli]
              have := count_set listed.toList i hlf
              rw [Array.toList_setIfInBounds]
              omega
            · rw [← hDD]
              intro j o hj hDj e he hb
              simp only [Bool.or_eq_true, beq_iff_eq] at hDj ⊢
              rcases hDj with hDj | rfl
              · exact .inl (hcl j o hj hDj e he hb)
              · rw [hoi] at hj; cases hj
                exact .inl (hready e he hb))
          unfold wpOpIn
          rw [Array.getElem?_eq_getElem hi1]
          exact hstep
      refine wpIn_region_any hB.good.mixed ?_
      refine key opsA.size (Array.replicate opsA.size false) φ a _ (by simp) (by simp) (fun j o hj hDj => by
        simp only [Array.getD_eq_getD_getElem?, Array.getElem?_replicate] at hDj
        split at hDj <;> simp at hDj) rfl ?_
      have e0 : (fun j => (Array.replicate opsA.size false).getD j false) = (fun _ => false) := by
        funext j
        simp only [Array.getD_eq_getD_getElem?, Array.getElem?_replicate]
        split <;> rfl
      rw [e0]
      unfold repT repI
      rw [rep_none, rep_none]
      obtain ⟨d1, d2⟩ := hs.rel.drew
      exact ⟨d1, hs.size, fun t ht => (hs.tmp t ht).mono d2 (.refl _ _), hs.out, ⟨hs.ext.kb.trans d2, hs.ext.kh⟩⟩
    · cases he
  · cases he
end draw

end Go.Abs
/- Code: what the machine does is what the abstract machine does. -/
set_option linter.unusedVariables false
set_option linter.unusedSimpArgs false
set_option linter.unusedSectionVars false
namespace Go.Abs
open Go.RowKit

section run
variable {P : Program} {E : Env} {X : Bs} {C : C0}

theorem runDraw_obl {ops : List Oper} {s s' : St} (he : runDraw P E ops s = some s') (h : All s'.obl) : All s.obl := by
  unfold runDraw at he
  split at he
  · rename_i es s1 bs hD hbs
    split at he
    · simp at he; subst he
      exact (runD_spec s.tmps.length ops s es s1 rfl hD).2.2.1 h
    · cases he
  · cases he

theorem arun_obl : ∀ (n : Nat) (todo : List Item) (s : St) (todo' : List Item) (s' : St), arun P E n todo s = some (todo', s') → All s'.obl → All s.obl := by
  intro n
  induction n with
  | zero => intro todo s todo' s' he h; simp [arun] at he; rw [he.2]; exact h
  | succ n ih =>
    intro todo s todo' s' he h
    unfold arun at he
    split at he
    · exact ih _ _ _ _ he h
    · exact ih _ _ _ _ he h
    · exact ih _ _ _ _ he h
    · exact ih _ _ _ _ he h
    · exact ih _ _ _ _ he h
    · exact ih _ _ _ _ he h
    · exact ih _ _ _ _ he h
    · split at he
      · exact ih _ _ _ _ he h
      · cases he
    · split at he
      · split at he
        · exact (ih _ _ _ _ he h).2
        · have h2 := ih _ _ _ _ he h
          exact h2
      · cases he
    · split at he
      · rename_i s1 h1
        have h2 := ih _ _ _ _ he h
        split at h1
        · exact runDraw_obl h1 h2
        · exact runOps_obl h1 h2
      · cases he
    · cases he

theorem steps_of_in {F : Fence} {m m' : Machine} (h : StepsIn (Machine.fenced P F) P m m') : Steps P m m' := h.steps

/-- A region, whichever. -/
theorem region_steps (hB : Base P E C) {ops : Array Oper} {d : Bool} {id : Nat} {s s' : St} (he : (if d then runDraw P E ops.toList s else runOps P E ops.toList ops.toList s) = some s') (hob : All s'.obl)
    {φ : Nat → Value} {a : Act} {w : World} (hs : SRel X C s φ a w) (b : Frame) (cs : List Frame) (k : List Item) :
    ∃ φ' a' w', SRel X C s' φ' a' w' ∧ a'.defers = a.defers ∧ Steps P (lone (b.atR a (.code (.region id ops d) :: k)) cs w) (lone (b.atR a' k) cs w') := by
  have hF : ∃ F : Fence, Wide F ∧ b.roundOf = F.round := by
    cases hb : b.roundOf with
    | none => exact ⟨Fence.wide, wide_wide, rfl⟩
    | some l => exact ⟨Fence.wide.inRound l, wide_round l, rfl⟩
  obtain ⟨F, hW, hro⟩ := hF
  have hwp : (Code.region id ops d).wpIn F 0 P (fun e a' w' => e = .normal ∧ a'.defers = a.defers ∧ ∃ φ', SRel X C s' φ' a' w') a w := by
    cases d with
    | true => exact draw_sound hB hW 0 hs (by simpa using he) hob (fun φ' a' w' h1 h2 => ⟨rfl, h2, φ', h1⟩)
    | false => exact region_sound hB hW 0 hs (by simpa using he) hob (fun φ' a' w' h1 h2 => ⟨rfl, h2, φ', h1⟩)
  obtain ⟨e, a', w', ⟨rfl, h2, φ', h3⟩, harr⟩ := hwp b k cs hro (hW.fn _) (fun d hd => by rw [hW.depth] at hd; cases hd)
  exact ⟨φ', a', w', h3, h2, steps_of_in harr⟩

theorem arun_sound (hB : Base P E C) : ∀ (n : Nat) (todo : List Item) (s : St) (todo' : List Item) (s' : St), arun P E n todo s = some (todo', s') → All s'.obl →
    ∀ (φ : Nat → Value) (a : Act) (w : World), SRel X C s φ a w → ∀ (b : Frame) (cs : List Frame), ∃ φ' a' w', SRel X C s' φ' a' w' ∧ a'.defers = a.defers ∧
      Steps P (lone (b.atR a todo) cs w) (lone (b.atR a' todo') cs w') := by
  intro n
  induction n with
  | zero =>
    intro todo s todo' s' he hob φ a w hs b cs
    simp [arun] at he
    obtain ⟨rfl, rfl⟩ := he
    exact ⟨φ, a, w, hs, rfl, .refl _ _⟩
  | succ n ih =>
    intro todo s todo' s' he hob φ a w hs b cs
    have one : ∀ {todo1 : List Item}, step P (lone (b.atR a todo) cs w) = .next (lone (b.atR a todo1) cs w) → arun P E n todo1 s = some (todo', s') →
        ∃ φ' a' w', SRel X C s' φ' a' w' ∧ a'.defers = a.defers ∧ Steps P (lone (b.atR a todo) cs w) (lone (b.atR a' todo') cs w') := by
      intro todo1 h1 h2
      obtain ⟨φ', a', w', g1, g2, g3⟩ := ih todo1 s todo' s' h2 hob φ a w hs b cs
      exact ⟨φ', a', w', g1, g2, .head h1 g3⟩
    unfold arun at he
    split at he
    · exact one stepR_skip he
    · exact one stepR_label he
    · exact one stepR_inBlock he
    · exact one stepR_seq he
    · exact one stepR_block he
    · exact one stepR_loop he
    · exact one stepR_inLoop he
    · split at he
      · rename_i k' hk
        exact one (stepR_exit hk) he
      · cases he
    · rename_i c x y k
      split at he
      · rename_i t ht
        have hev := FRel.eval (tfR := fun t => s.tmps.getD t .junk) hs (fun _ => .inr rfl) c
        rw [ht] at hev
        have hc := hev.inv_bool
        split at he
        · rename_i d scr hask
          obtain ⟨hd, _⟩ : t = d ∧ _ := by
            have := arun_obl _ _ _ _ _ he hob
            exact this
          subst hd
          have hs' : SRel X C { s with cnt := s.cnt + 1, scr := scr, obl := (t = t) :: s.obl } φ a w := hs
          obtain ⟨φ', a', w', g1, g2, g3⟩ := ih _ _ todo' s' he hob φ a w hs' b cs
          exact ⟨φ', a', w', g1, g2, .head (stepR_cond hc) g3⟩
        · rename_i _ scr _ hask
          have hs' : SRel X C { s with cnt := s.cnt + 1, scr := scr } φ a w := hs
          obtain ⟨φ', a', w', g1, g2, g3⟩ := ih _ _ todo' s' he hob φ a w hs' b cs
          exact ⟨φ', a', w', g1, g2, .head (stepR_cond hc) g3⟩
      · cases he
    · split at he
      · rename_i s1 h1
        obtain ⟨φ1, a1, w1, g1, g2, g3⟩ := region_steps hB h1 (arun_obl _ _ _ _ _ he hob) hs b cs _
        obtain ⟨φ', a', w', g4, g5, g6⟩ := ih _ _ todo' s' he hob φ1 a1 w1 g1 b cs
        exact ⟨φ', a', w', g4, g5.trans g2, g3.trans g6⟩
      · cases he
    · cases he
end run

/-! ### A state seen anew -/
section canon
variable {P : Program} {C : C0} {h : SH} {φ : Nat → Value} {w : World} {keep : List Nat}

theorem idx_some {id k : Nat} : ∀ {l : List Nat}, idx id l = some k → l[k]? = some id := by
  intro l
  induction l generalizing k with
  | nil => intro h; simp [idx] at h
  | cons x l ih =>
    intro h
    simp only [idx] at h
    split at h
    · rename_i hx
      simp at h; subst h
      simp at hx
      simp [hx]
    · split at h
      · rename_i n hn
        simp at h; subst h
        simpa using ih hn
      · cases h
theorem idx_none {id : Nat} : ∀ {l : List Nat}, idx id l = none → id ∉ l := by
  intro l
  induction l with
  | nil => intro _ h; simp at h
  | cons x l ih =>
    intro h
    simp only [idx] at h
    split at h
    · cases h
    · rename_i hx
      split at h
      · cases h
      · rename_i hn
        simp at hx
        simp only [List.mem_cons, not_or]
        exact ⟨fun e => hx e.symm, ih hn⟩
theorem nodupN_get {l : List Nat} (h : nodupN l = true) : ∀ {i j id : Nat}, l[i]? = some id → l[j]? = some id → i = j := by
  induction l with
  | nil => intro i j id h1; simp at h1
  | cons x l ih =>
    simp only [nodupN, Bool.and_eq_true, Bool.not_eq_true'] at h
    have hx : x ∉ l := fun hm => by rw [(memN_iff x l).2 hm] at h; exact absurd h.1 (by simp)
    intro i j id h1 h2
    cases i with
    | zero =>
      cases j with
      | zero => rfl
      | succ j => simp at h1 h2; subst h1; exact absurd (List.mem_of_getElem? h2) hx
    | succ i =>
      cases j with
      | zero => simp at h1 h2; subst h2; exact absurd (List.mem_of_getElem? h1) hx
      | succ j => simp at h1 h2; rw [ih h.2 h1 h2]

/-- The values of the objects that are kept. -/
def φkeep (φ : Nat → Value) (keep : List Nat) : Nat → Value := fun k => match keep[k]? with | some id => φ id | none => undef

variable {hs : List Ob}
theorem renH_get {look : Nat → Ob} : ∀ {l : List Nat} {os : List Ob}, renH look keep l = some os → os.length = l.length ∧ ∀ (k id : Nat), l[k]? = some id → ∃ o, os[k]? = some o ∧ (look id).ren look keep = some o := by
  intro l
  induction l with
  | nil => intro os h; simp [renH] at h; subst h; exact ⟨rfl, fun k id h => by simp at h⟩
  | cons x l ih =>
    intro os h
    simp only [renH] at h
    split at h
    · rename_i o os' h1 h2
      simp at h; subst h
      obtain ⟨h3, h4⟩ := ih h2
      refine ⟨by simp [h3], fun k id hk => ?_⟩
      cases k with
      | zero => simp at hk; subst hk; exact ⟨o, rfl, h1⟩
      | succ k => simp at hk ⊢; exact h4 k id hk
    · cases h

/-- What is kept, as a heap. -/
structure Kept (h : SH) (keep : List Nat) (h' : SH) : Prop where
  nodup : nodupN keep = true
  born : ∀ (k id : Nat), keep[k]? = some id → h id ≠ .unborn
  get : ∀ (k id : Nat), keep[k]? = some id → (h id).ren h keep = some (h' k)
  out : ∀ (k : Nat), keep[k]? = none → h' k = .unborn

theorem ren_live {o o' : Ob} {look : Nat → Ob} (h : o.ren look keep = some o') : o'.live = o.live := by
  cases o <;> simp only [Ob.ren] at h
  case box T cs =>
    split at h
    · simp at h; subst h; rfl
    · cases h
  case lp ts f ps asg bdy st =>
    split at h
    · simp at h; subst h; rfl
    · cases h
  all_goals (simp at h; subst h; rfl)

variable (hr : Rel C h φ w) {h' : SH} (hk : Kept h keep h')
include hr hk

theorem okB_keep {b : Nat} (hb : okB C h φ w b) : okB C h' (φkeep φ keep) w b := by
  refine ⟨hb.1, hb.2.1, fun k hl he => ?_⟩
  cases hkk : keep[k]? with
  | none => rw [hk.out k hkk] at hl; simp [Ob.live] at hl
  | some id =>
    have h1 := hk.get k id hkk
    rw [ren_live h1] at hl
    simp only [φkeep, hkk] at he
    exact hb.2.2 id hl he

/-- An object that is not kept is not written again. -/
theorem okB_gone {id : Nat} (hl : (h id).live = true) (hn : id ∉ keep) {b : Nat} (hb : blk (φ id) = some b) : okB C h' (φkeep φ keep) w b := by
  obtain ⟨h1, h2⟩ := (hr.obj id).block hl hb
  refine ⟨h1, .inr h2, fun k hlk he => ?_⟩
  cases hkk : keep[k]? with
  | none => rw [hk.out k hkk] at hlk; simp [Ob.live] at hlk
  | some id' =>
    have h3 := hk.get k id' hkk
    rw [ren_live h3] at hlk
    simp only [φkeep, hkk] at he
    have := hr.inj id' id b hlk hl he hb
    exact hn (this ▸ List.mem_of_getElem? hkk)

theorem view_gone {x y : AV} {v : Value} (hx : (∃ id, x = .own id ∧ id ∉ keep) ∨ ∃ id off, x = .ptr id off) (he : x.view h = some y) (p : VRep h φ (okB C h φ w) w x v) : Rep (okB C h' (φkeep φ keep) w) w y v := by
  refine view_rep (look := h) (A := okB C h φ w) he ⟨fun b hb => okB_keep hr hk hb, fun id hid xs hxs => ?_, fun id hid cs hcs => ?_⟩ p
  · rcases hxs with ⟨T, s, hxs⟩ | hxs
    · have hn : id ∉ keep := by
        rcases hx with ⟨id', rfl, hn⟩ | ⟨id', off, rfl⟩
        · simp [AV.refs] at hid; rw [hid]; exact hn
        · simp only [AV.view] at he
          simp [AV.refs] at hid
          rw [← hid, hxs] at he
          cases he
      have ho := hr.obj id
      rw [hxs] at ho
      obtain ⟨cells, g1, g2, g3, g4, g5⟩ := ho
      exact ⟨by rw [hxs]; simp, rep_of_owns g1 (g2.mono fun b hb => ⟨okB_keep hr hk hb, rfl⟩) g3 g5 (fun b hb => okB_gone hr hk (by simp [hxs, Ob.live]) hn hb)⟩
    · have ho := hr.obj id
      rw [hxs] at ho
      exact ⟨by rw [hxs]; simp, Rep.mono (fun b hb => ⟨okB_keep hr hk hb, rfl⟩) ho⟩
  · have ho := hr.obj id
    rw [hcs] at ho
    obtain ⟨b, g1, g2, g3⟩ := ho
    exact ⟨b, g1, okB_keep hr hk g2, g3.mono (fun b hb => ⟨okB_keep hr hk hb, rfl⟩) g2⟩

theorem kept_ob {k id : Nat} (hkk : keep[k]? = some id) (hu : h id ≠ .unborn) : h' k ≠ .unborn ∧ (h' k ≠ .dead → h id ≠ .dead) ∧ (∀ T s xs, h' k = .row T s xs → h id = .row T s xs) := by
  have h1 := hk.get k id hkk
  cases ho : h id with
  | box T cs =>
    rw [ho] at h1
    simp only [Ob.ren] at h1
    split at h1
    · simp at h1; rw [← h1]; simp
    · cases h1
  | lp ts f ps asg bdy st =>
    rw [ho] at h1
    simp only [Ob.ren] at h1
    split at h1
    · simp at h1; rw [← h1]; simp
    · cases h1
  | _ =>
    rw [ho] at h1
    simp only [Ob.ren, Option.some.injEq] at h1
    rw [← h1]
    simp_all

mutual
theorem ren_rep : ∀ {x y : AV} {v : Value}, x.ren h keep = some y → VRep h φ (okB C h φ w) w x v → VRep h' (φkeep φ keep) (okB C h' (φkeep φ keep) w) w y v
  | .own id, y, v, he, p => by
    simp only [AV.ren] at he
    split at he
    · rename_i k hi
      simp at he; subst he
      have hkk := idx_some hi
      cases p with
      | pure p => cases p
      | own hu h1 hv =>
        obtain ⟨g1, g2, _⟩ := kept_ob hr hk hkk hu
        exact .own g1 h1 (fun hd => by simp only [φkeep, hkk]; exact hv (g2 hd))
    · rename_i hi
      exact .pure (view_gone hr hk (.inl ⟨id, rfl, idx_none hi⟩) he p)
  | .ptr id off, y, v, he, p => by
    simp only [AV.ren] at he
    split at he
    · rename_i k hi
      simp at he; subst he
      have hkk := idx_some hi
      obtain ⟨b, hb, rfl, hu⟩ := p.inv_ptr
      obtain ⟨g1, _, _⟩ := kept_ob hr hk hkk hu
      exact .ptr g1 (by simp only [φkeep, hkk]; exact hb)
    · exact .pure (view_gone hr hk (.inr ⟨id, off, rfl⟩) he p)
  | .ptrE id i off, y, v, he, p => by
    simp only [AV.ren] at he
    split at he
    · rename_i k hi
      simp at he; subst he
      have hkk := idx_some hi
      cases p with
      | pure p => cases p
      | ptrE hu h1 hv =>
        obtain ⟨g1, _, g3⟩ := kept_ob hr hk hkk hu
        refine .ptrE g1 h1 (fun T s xs hx => ?_)
        simp only [φkeep, hkk]
        exact hv T s xs (g3 T s xs hx)
    · cases he
  | .agg cs, y, v, he, p => by
    obtain ⟨vs, rfl, hv⟩ := p.inv_agg
    simp only [AV.ren] at he
    split at he
    · rename_i l e
      simp at he; subst he
      exact .agg (ren_repL e hv)
    · cases he
  | .tup cs, y, v, he, p => by
    obtain ⟨vs, rfl, hv⟩ := p.inv_tup
    simp only [AV.ren] at he
    split at he
    · rename_i l e
      simp at he; subst he
      exact .tup (ren_repL e hv)
    · cases he
  | .yld id foot, y, v, he, p => by
    simp only [AV.ren] at he
    split at he
    · rename_i k hi
      simp at he; subst he
      have hkk := idx_some hi
      cases p with
      | pure p => cases p
      | yld hu hp =>
        refine .yld (fun j hj => ?_) (by simp only [φkeep, hkk]; exact hp)
        rcases List.mem_cons.1 hj with rfl | hj
        · exact (kept_ob hr hk hkk (hu id (by simp))).1
        · have hlt : j < keep.length := by simpa using hj
          have hj' : keep[j]? = some keep[j] := List.getElem?_eq_getElem hlt
          exact (kept_ob hr hk hj' (hk.born j _ hj')).1
    · cases he
  | .junk, y, v, he, p => by simp [AV.ren] at he; subst he; exact .junk _
  | .bool b, y, v, he, p => by simp [AV.ren] at he; subst he; rw [p.inv_bool]; exact .pure (.bool b)
  | .int q n, y, v, he, p => by simp [AV.ren] at he; subst he; rw [p.inv_int]; exact .pure (.int q n)
  | .str s, y, v, he, p => by simp [AV.ren] at he; subst he; rw [p.inv_str]; exact .pure (.str s)
  | .sl fl xs, y, v, he, p => by
    simp [AV.ren] at he; subst he
    cases p with | pure p => exact .pure (p.mono fun b hb => ⟨okB_keep hr hk hb, rfl⟩)
  | .fn f cap, y, v, he, p => by
    simp [AV.ren] at he; subst he
    cases p with | pure p => exact .pure (p.mono fun b hb => ⟨okB_keep hr hk hb, rfl⟩)
  | .pin cs off, y, v, he, p => by
    simp [AV.ren] at he; subst he
    cases p with | pure p => exact .pure (p.mono fun b hb => ⟨okB_keep hr hk hb, rfl⟩)
  | .nilp, y, v, he, p => by
    simp [AV.ren] at he; subst he
    cases p with | pure p => exact .pure (p.mono fun b hb => ⟨okB_keep hr hk hb, rfl⟩)
theorem ren_repL : ∀ {xs ys : List AV} {vs : List Value}, AV.renL h keep xs = some ys → VRepL h φ (okB C h φ w) w xs vs → VRepL h' (φkeep φ keep) (okB C h' (φkeep φ keep) w) w ys vs
  | [], ys, vs, he, p => by simp [AV.renL] at he; subst he; cases p; exact .nil
  | x :: xs, ys, vs, he, p => by
    simp only [AV.renL] at he
    split at he
    · rename_i y e1
      split at he
      · rename_i l e2
        simp at he; subst he
        cases p with
        | cons p1 p2 => exact .cons (ren_rep e1 p1) (ren_repL e2 p2)
      · cases he
    · cases he
end

/-- What is kept is as it was. -/
theorem keep_rel : Rel C h' (φkeep φ keep) w := by
  refine ⟨hr.below, fun k => ?_, fun k k' b hl hl' hb hb' => ?_⟩
  · cases hkk : keep[k]? with
    | none => rw [hk.out k hkk]; trivial
    | some id =>
      have h1 := hk.get k id hkk
      have ho := hr.obj id
      have hφ : φkeep φ keep k = φ id := by simp only [φkeep, hkk]
      rw [hφ]
      cases hob : h id with
      | box T cs =>
        rw [hob] at h1 ho
        simp only [Ob.ren] at h1
        split at h1
        · rename_i l hl
          simp at h1; rw [← h1]
          obtain ⟨b, vs, g1, g2, g3, g4, g5⟩ := ho
          exact ⟨b, vs, g1, g2, g3, ren_repL hr hk hl g4, g5⟩
        · cases h1
      | row T s xs =>
        rw [hob] at h1 ho
        simp only [Ob.ren, Option.some.injEq] at h1
        rw [← h1]
        obtain ⟨cells, g1, g2, g3⟩ := ho
        exact ⟨cells, g1, g2.mono (fun b hb => ⟨okB_keep hr hk hb, rfl⟩), g3⟩
      | fro xs =>
        rw [hob] at h1 ho
        simp only [Ob.ren, Option.some.injEq] at h1
        rw [← h1]
        exact Rep.mono (fun b hb => ⟨okB_keep hr hk hb, rfl⟩) ho
      | fbox cs =>
        rw [hob] at h1 ho
        simp only [Ob.ren, Option.some.injEq] at h1
        rw [← h1]
        obtain ⟨b, g1, g2, g3⟩ := ho
        exact ⟨b, g1, okB_keep hr hk g2, g3.mono (fun b hb => ⟨okB_keep hr hk hb, rfl⟩) g2⟩
      | mp ks =>
        rw [hob] at h1 ho
        simp only [Ob.ren, Option.some.injEq] at h1
        rw [← h1]
        exact ho
      | df =>
        rw [hob] at h1 ho
        simp only [Ob.ren, Option.some.injEq] at h1
        rw [← h1]
        exact ho
      | lp ts f ps asg bdy st =>
        rw [hob] at h1 ho
        simp only [Ob.ren] at h1
        split at h1
        · rename_i l hl
          simp at h1; rw [← h1]
          obtain ⟨b, tm, d, g1, g2, g3, g4⟩ := ho
          exact ⟨b, tm, d, g1, g2, g3, ren_repL hr hk hl g4⟩
        · cases h1
      | dead =>
        rw [hob] at h1
        simp only [Ob.ren, Option.some.injEq] at h1
        rw [← h1]; trivial
      | unborn =>
        rw [hob] at h1
        simp only [Ob.ren, Option.some.injEq] at h1
        rw [← h1]; trivial
  · cases hkk : keep[k]? with
    | none => rw [hk.out k hkk] at hl; simp [Ob.live] at hl
    | some id =>
      cases hkk' : keep[k']? with
      | none => rw [hk.out k' hkk'] at hl'; simp [Ob.live] at hl'
      | some id' =>
        rw [ren_live (hk.get k id hkk)] at hl
        rw [ren_live (hk.get k' id' hkk')] at hl'
        simp only [φkeep, hkk] at hb
        simp only [φkeep, hkk'] at hb'
        have := hr.inj id id' b hl hl' hb hb'
        subst this
        exact nodupN_get hk.nodup hkk hkk'
end canon

end Go.Abs
/- Functions: from a cut to a cut, and to the end. -/
set_option linter.unusedVariables false
set_option linter.unusedSimpArgs false
set_option linter.unusedSectionVars false
namespace Go.Abs
open Go.RowKit

/-- Deferred calls that are nothing but marks of loops over functions. -/
def Mk (h : SH) (φ : Nat → Value) (ds : List Deferred) : Prop :=
  (∀ d ∈ ds, ∃ id r, h id = .df ∧ φ id = .pointer (some ⟨r, 0, none⟩) ∧ d = { target := .collected r, args := #[] }) ∧ ds.Pairwise (· ≠ ·)

/-- From here on function f goes on to its end, and hands back that. -/
def Goes (P : Program) (C : C0) (f : FuncId) (todo : List Item) (ts : List AV) (h : Heap) (rows : List Ob) (r : AV) : Prop :=
  ∀ (X : Bs) (φ : Nat → Value) (a : Act) (w : World), SRel X C ⟨ts, h, 0, [], []⟩ φ a w → Mk (getO h) φ a.defers → ∀ (b : Frame) (cs : List Frame), b.fn = f → b.kind = .normal → b.roundOf = none →
    ∃ v w' fr, ARes C rows r (.returned v) w' ∧ Steps P (lone (b.atR a todo) cs w) (lone fr cs w') ∧ fr.fn = f ∧ fr.leaving P w' (.returned v)

section
variable {P : Program} {E : Env} {X : Bs} {C : C0} {f : FuncId}

theorem renT_get {look : Nat → Ob} {keep live : List Nat} : ∀ {l : List AV} {t0 : Nat} {l' : List AV}, renT look keep live t0 l = some l' → l'.length = l.length ∧
    ∀ t, t < l.length → l'.getD t .junk = .junk ∨ (l.getD t .junk).ren look keep = some (l'.getD t .junk) := by
  intro l
  induction l with
  | nil => intro t0 l' h; simp [renT] at h; subst h; exact ⟨rfl, fun t h => by simp at h⟩
  | cons x l ih =>
    intro t0 l' h
    simp only [renT] at h
    split at h
    · rename_i y ys h1 h2
      simp at h; subst h
      obtain ⟨h3, h4⟩ := ih h2
      refine ⟨by simp [h3], fun t ht => ?_⟩
      cases t with
      | zero =>
        simp only [List.getD_cons_zero]
        split at h1
        · exact .inr h1
        · simp at h1; exact .inl h1.symm
      | succ t => simp only [List.getD_cons_succ]; exact h4 t (by simpa using ht)
    · cases h

theorem Mk.nil (h : SH) (φ : Nat → Value) : Mk h φ [] := ⟨by simp, .nil⟩
theorem isDf_iff {o : Ob} : o.isDf = true ↔ o = .df := by cases o <;> simp [Ob.isDf]
theorem getO_lt {h : Heap} {id : Nat} {o : Ob} (e : getO h id = o) (hn : o ≠ .unborn) : id < h.length := by
  rcases Nat.lt_or_ge id h.length with hl | hl
  · exact hl
  · have : getO h id = .unborn := by simp [getO, List.getElem?_eq_none hl]
    rw [this] at e; exact absurd e.symm hn
theorem Mk.stay {h h' : Heap} {φ φ' : Nat → Value} {ds : List Deferred} (m : Mk (getO h) φ ds) (hd : dfStay h h' = true) (hv : ∀ id, getO h id ≠ .unborn → φ' id = φ id) : Mk (getO h') φ' ds := by
  refine ⟨fun d hd' => ?_, m.2⟩
  obtain ⟨id, r, h1, h2, h3⟩ := m.1 d hd'
  have hlt := getO_lt h1 (by simp)
  have := List.all_eq_true.1 hd id (by simpa using hlt)
  rw [h1] at this
  simp only [Ob.isDf, Bool.not_true, Bool.false_or] at this
  exact ⟨id, r, isDf_iff.1 this, by rw [hv id (by rw [h1]; simp)]; exact h2, h3⟩
theorem dfOK_stay {h h' : Heap} {keep : List Nat} (hd : dfOK h h' keep = true) : dfStay h h' = true := by
  unfold dfOK at hd
  unfold dfStay
  rw [List.all_eq_true] at hd ⊢
  intro i hi
  have := hd i hi
  simp only [Bool.or_eq_true, Bool.and_eq_true] at this ⊢
  exact this.imp id (·.1)
theorem Mk.kept {h h' h'' : Heap} {keep : List Nat} {φ φ' : Nat → Value} {ds : List Deferred} (m : Mk (getO h) φ ds) (hd : dfOK h h' keep = true) (hv : ∀ id, getO h id ≠ .unborn → φ' id = φ id) (hk : Kept (getO h') keep (getO h'')) :
    Mk (getO h'') (φkeep φ' keep) ds := by
  refine ⟨fun d hd' => ?_, m.2⟩
  obtain ⟨id, r, h1, h2, h3⟩ := m.1 d hd'
  have hlt := getO_lt h1 (by simp)
  have := List.all_eq_true.1 hd id (by simpa using hlt)
  rw [h1] at this
  simp only [Ob.isDf, Bool.not_true, Bool.false_or, Bool.and_eq_true] at this
  obtain ⟨e1, e2⟩ := this
  obtain ⟨k, hk1⟩ := List.getElem?_of_mem ((memN_iff _ _).1 e2)
  have hk2 := hk.get k id hk1
  rw [isDf_iff.1 e1] at hk2
  simp only [Ob.ren, Option.some.injEq] at hk2
  refine ⟨k, r, hk2.symm, ?_, h3⟩
  simp only [φkeep, hk1]
  rw [hv id (by rw [h1]; simp)]; exact h2

theorem bornAll_get {look : Nat → Ob} {keep : List Nat} (h : bornAll look keep = true) {k id : Nat} (hk : keep[k]? = some id) : look id ≠ .unborn := by
  have := List.all_eq_true.1 h id (List.mem_of_getElem? hk)
  intro e
  rw [e] at this; cases this

theorem renH_kept {h : Heap} {keep : List Nat} {h' : Heap} (hn : (nodupN keep && bornAll (getO h) keep) = true) (e : renH (getO h) keep keep = some h') : Kept (getO h) keep (getO h') := by
  obtain ⟨h1, h2⟩ := renH_get e
  rw [Bool.and_eq_true] at hn
  refine ⟨hn.1, fun k id hk => bornAll_get hn.2 hk, fun k id hk => ?_, fun k hk => ?_⟩
  · obtain ⟨o, h3, h4⟩ := h2 k id hk
    rw [h4]
    simp [getO, List.getD_eq_getElem?_getD, h3]
  · have : keep.length ≤ k := by simpa using hk
    simp only [getO]
    rw [List.getD_eq_getElem?_getD, List.getElem?_eq_none (by omega)]
    rfl

theorem canon_sound {live keep : List Nat} {ts ts' : List AV} {h h' : Heap} {cnt cnt' : Nat} {scr scr' : Script} {ob ob' : List Prop} (e : canonA live keep ts h = some (ts', h')) {φ : Nat → Value} {a : Act} {w : World} (hs : SRel X C ⟨ts, h, cnt, scr, ob⟩ φ a w) :
    SRel ⟨getO h', φkeep φ keep, w⟩ C ⟨ts', h', cnt', scr', ob'⟩ (φkeep φ keep) a w ∧ Kept (getO h) keep (getO h') := by
  unfold canonA at e
  split at e
  · rename_i hn
    split at e
    · rename_i x y h1 h2
      simp at e
      obtain ⟨rfl, rfl⟩ := e
      have hk := renH_kept hn h2
      obtain ⟨h3, h4⟩ := renT_get h1
      refine ⟨⟨keep_rel hs.rel hk, ?_, fun t ht => ?_, fun t ht => ?_, .refl _ _ _ _⟩, hk⟩
      · rw [h3]; exact hs.size
      · have ht' : t < ts.length := by simpa [h3] using ht
        rcases h4 t ht' with e | e
        · show VRep _ _ _ _ (x.getD t .junk) _
          rw [e]; exact .junk _
        · exact ren_rep hs.rel hk e (hs.tmp t ht')
      · have : x.length ≤ t := ht
        show x.getD t .junk = .junk
        rw [List.getD_eq_getElem?_getD, List.getElem?_eq_none this]
        rfl
    · cases e
  · cases e

theorem SRel.rebase {s : St} {φ : Nat → Value} {a : Act} {w : World} (hs : SRel X C s φ a w) : SRel ⟨getO s.heap, φ, w⟩ C s φ a w := ⟨hs.rel, hs.size, hs.tmp, hs.out, .refl _ _ _ _⟩

theorem goes_cut (hB : Base P E C) {n : Nat} {scr : Script} {live keep : List Nat} {todo todo' : List Item} {ts ts' : List AV} {h h' : Heap} {obl : List Prop} {rows : List Ob} {r : AV}
    (he : runCut P E n scr live keep todo ts h = some (todo', ts', h', obl)) (hob : All obl) (hg : Goes P C f todo' ts' h' rows r) : Goes P C f todo ts h rows r := by
  intro X φ a w hs hd b cs hf hk hro
  unfold runCut at he
  split at he
  · rename_i todo1 s1 h1
    split at he
    · rename_i hdf
      split at he
      · rename_i ts1 h1' hc
        simp at he
        obtain ⟨rfl, rfl, rfl, rfl⟩ := he
        have hs0 : SRel ⟨getO h, φ, w⟩ C ⟨ts, h, 0, scr, []⟩ φ a w := hs.rebase
        obtain ⟨φ', a', w', g1, g2, g3⟩ := arun_sound hB n todo _ _ _ h1 hob φ a w hs0 b cs
        have g4 : SRel ⟨getO h, φ, w⟩ C ⟨s1.tmps, s1.heap, 0, [], []⟩ φ' a' w' := g1
        obtain ⟨c1, c2⟩ := canon_sound (cnt' := 0) (scr' := []) (ob' := []) hc g4
        obtain ⟨v, w'', fr, k1, k2, k3, k4⟩ := hg _ _ a' w' c1 (by rw [g2]; exact hd.kept hdf g1.ext.kh.val c2) b cs hf hk hro
        exact ⟨v, w'', fr, k1, g3.trans k2, k3, k4⟩
      · cases he
    · cases he
  · cases he

def resAt (tmps : Array Value) : ResultVar → Sem Value
  | .tmp t => pure (tmps.getD t undef)
  | .cell a t => do loadVar t (← asAddr (tmps.getD a undef))

def valV : List Value → Value
  | [x] => x
  | xs => .tuple xs.toArray

theorem results_run {fn : Func} {tmps : Array Value} {w : World} {vs : List Value} (h : (fn.results.toList.mapM (resAt tmps)).run P w = .ok vs w) :
    (results fn tmps).run P w = .ok (valV vs) w := by
  have e : results fn tmps = (do let vs ← fn.results.mapM (resAt tmps); pure (if h : vs.size = 1 then vs[0] else .tuple vs)) := by
    unfold results
    have : (fun | .tmp t => pure (tmps.getD t undef) | .cell a t => do loadVar t (← asAddr (tmps.getD a undef)) : ResultVar → Sem Value) = resAt tmps := by
      funext x
      cases x <;> rfl
    rw [← this]
    rfl
  rw [e, Array.mapM_eq_mapM_toList]
  generalize List.mapM (resAt tmps) fn.results.toList = m at h ⊢
  simp only [Sem.run_bind, map_eq_pure_bind, h, Result.andThen, Sem.run_pure]
  rcases vs with _ | ⟨x, _ | ⟨y, l⟩⟩ <;> simp [valV]

theorem resA_sound {φ : Nat → Value} {a : Act} {w : World} {s : St} (hs : SRel X C s φ a w) : ∀ (rv : List ResultVar) (xs : List AV), resA P s.tmps s.heap rv = some xs →
    ∃ vs, (rv.mapM (resAt a.tmps)).run P w = .ok vs w ∧ VRepL (getO s.heap) φ (okB C (getO s.heap) φ w) w xs vs := by
  intro rv
  induction rv with
  | nil => intro xs h; simp [resA] at h; subst h; exact ⟨[], by simp, .nil⟩
  | cons x rv ih =>
    intro xs h
    have ht : ∀ t, VRep (getO s.heap) φ (okB C (getO s.heap) φ w) w (s.tmps.getD t .junk) (a.tmps.getD t undef) := by
      intro t
      rcases Nat.lt_or_ge t s.tmps.length with hlt | hge
      · exact hs.tmp t hlt
      · have := hs.out t hge
        rw [this]; exact .junk _
    cases x with
    | tmp t =>
      simp only [resA] at h
      split at h
      · rename_i xs' h1
        simp at h; subst h
        obtain ⟨vs, h2, h3⟩ := ih _ h1
        refine ⟨a.tmps.getD t undef :: vs, ?_, .cons (ht t) h3⟩
        rw [List.mapM_cons]
        simp only [resAt, Sem.run_bind, Sem.run_pure, Result.andThen, h2]
      · cases h
    | cell t T =>
      simp only [resA] at h
      split at h
      · rename_i y xs' h1 h1'
        simp at h; subst h
        obtain ⟨vs, h2, h3⟩ := ih _ h1'
        unfold cellA at h1
        split at h1
        · rename_i id off e1
          have hx := ht t
          rw [e1] at hx
          obtain ⟨b, hb, hv, hu⟩ := hx.inv_ptr
          have main : ∀ cs, ((∃ T, getO s.heap id = .box T cs) ∨ getO s.heap id = .fbox cs) → partOf P T cs off = some y → ∃ u, (loadVar T ⟨b, off, none⟩).run P w = .ok u w ∧ VRep (getO s.heap) φ (okB C (getO s.heap) φ w) w y u := by
            intro cs hbx hp
            obtain ⟨b', vs', g1, g2, g3⟩ := box_cells hs.rel (FRel.eval hs (fun t => .inr rfl)) (fun id => .inr rfl) hbx
            rw [hb] at g1
            injection g1 with g1; injection g1 with g1; injection g1 with g1
            subst g1
            have := run_loadVar_part hp g2 b 0 g3
            simpa using this
          have fin : ∃ u, (loadVar T ⟨b, off, none⟩).run P w = .ok u w ∧ VRep (getO s.heap) φ (okB C (getO s.heap) φ w) w y u := by
            split at h1
            · rename_i T0 cs e2
              exact main cs (.inl ⟨_, e2⟩) h1
            · rename_i cs e2
              exact main cs (.inr e2) h1
            · cases h1
          obtain ⟨u, g4, g5⟩ := fin
          refine ⟨u :: vs, ?_, .cons g5 h3⟩
          rw [List.mapM_cons]
          simp only [resAt, Sem.run_bind, Sem.run_pure, Result.andThen, h2, hv, asAddr, g4]
        · cases h1
      · cases h

theorem clearDf_get : ∀ (h : Heap) (id : Nat), getO (clearDf h) id = (getO h id).sansDf := by
  intro h
  induction h with
  | nil => intro id; rfl
  | cons o h ih =>
    intro id
    cases id with
    | zero => rfl
    | succ id => exact ih id

/-- The blocks of deferred calls are shut. -/
theorem rel_clear {h : Heap} {φ : Nat → Value} {w w' : World} (hr : Rel C (getO h) φ w) (hsz : w'.heap.size = w.heap.size) (ho : w'.os = w.os) (ht : w'.tape = w.tape) (hou : w'.output = w.output)
    (hb : ∀ b, (∀ id, getO h id = .df → blk (φ id) ≠ some b) → w'.heap[b]? = w.heap[b]?) :
    Rel C (getO (clearDf h)) φ w' ∧ KeepB (okB C (getO h) φ w) (okB C (getO (clearDf h)) φ w') w w' ∧ KeepH (getO h) (getO (clearDf h)) φ φ := by
  have hh : ∀ id, getO (clearDf h) id = (getO h id).sansDf := clearDf_get h
  have hne : ∀ id, getO h id ≠ .df → getO (clearDf h) id = getO h id := fun id hn => by
    rw [hh]; cases e : getO h id <;> first | rfl | exact absurd e hn
  have hdf : ∀ id, getO h id = .df → getO (clearDf h) id = .dead := fun id e => by rw [hh, e]; rfl
  have kh : KeepH (getO h) (getO (clearDf h)) φ φ := by
    refine ⟨fun id hu => ?_, fun _ _ => rfl, fun id hu hd => ?_, fun id T s xs hu he => ?_⟩
    · by_cases e : getO h id = .df
      · rw [hdf id e]; simp
      · rw [hne id e]; exact hu
    · by_cases e : getO h id = .df
      · rw [hdf id e] at hd; exact absurd rfl hd
      · rw [hne id e] at hd; exact hd
    · by_cases e : getO h id = .df
      · rw [hdf id e] at he; cases he
      · rw [hne id e] at he; exact ⟨_, _, he⟩
  have hlive : ∀ id, (getO (clearDf h) id).live = true → (getO h id).live = true ∧ getO h id ≠ .df := fun id hl => by
    by_cases e : getO h id = .df
    · rw [hdf id e] at hl; cases hl
    · rw [hne id e] at hl; exact ⟨hl, e⟩
  have hsame : ∀ id, (getO h id).live = true → getO h id ≠ .df → ∀ b, blk (φ id) = some b → w'.heap[b]? = w.heap[b]? := fun id hl hn b he => hb b (fun k hk e => by
    have := hr.inj id k b hl (by rw [hk]; rfl) he e
    subst this; exact hn hk)
  have hbel : Below C.w0.heap.size C.w0 w' := hr.below.trans ⟨ho, ht, hou, by omega, fun k hk => hb k (fun id hd he => by
    have := ((hr.obj id).block (by rw [hd]; rfl) he).2
    omega)⟩
  obtain ⟨r1, r2⟩ := hr.step (h' := getO (clearDf h)) (φ' := φ) (w' := w') hbel (by omega) kh
    (fun b hk => hb b (fun id hd he => hk.2.2 id (by rw [hd]; rfl) he)) (fun id hl _ => (hlive id hl).1)
    (fun id hl hu => by have := (hlive id hl).1; rw [hu] at this; cases this) (fun id id' b hl _ hu => by have := (hlive id hl).1; rw [hu] at this; cases this)
    (fun hK id => by
      by_cases e : getO h id = .df
      · right; rw [hdf id e]; trivial
      · left; exact ⟨hne id e, fun _ hl b he => hsame id hl e b he⟩)
  exact ⟨r1, r2, kh⟩

/-- A frame that returns goes by its marks. -/
theorem leave_marks {h : SH} {φ : Nat → Value} : ∀ (ds : List Deferred) (w : World) (fr : Frame) (cs : List Frame), fr.mode = .returning → fr.defers = ds → Mk h φ ds →
    (∀ d ∈ ds, ∀ r, d.target = .collected r → w.heap[r]? = some (.deferred (some []))) →
    ∃ w', Steps P (lone fr cs w) (lone { fr with defers := [] } cs w') ∧ w'.heap.size = w.heap.size ∧ w'.os = w.os ∧ w'.tape = w.tape ∧ w'.output = w.output ∧
      ∀ b, (∀ id, h id = .df → blk (φ id) ≠ some b) → w'.heap[b]? = w.heap[b]? := by
  intro ds
  induction ds with
  | nil => intro w fr cs hm hd _ _; exact ⟨w, by rw [← hd]; exact .refl _ _, rfl, rfl, rfl, rfl, fun _ _ => rfl⟩
  | cons d ds ih =>
    intro w fr cs hm hd hk hw
    obtain ⟨id, r, h1, h2, h3⟩ := hk.1 d (by simp)
    have ht : d.target = .collected r := by rw [h3]
    have hr := hw d (by simp) r ht
    have h4 := step_collected (P := P) (fr := fr) (cs := cs) (d := d) (r := r) (ds := ds) (by rw [hm]; simp) hd ht (run_takeDeferred hr)
    have hne : ∀ d' ∈ ds, ∀ r', d'.target = .collected r' → r' ≠ r := fun d' hd' r' ht' e => by
      obtain ⟨id', r2, _, _, h5⟩ := hk.1 d' (by simp [hd'])
      have : d' = d := by
        rw [h5] at ht'
        simp only at ht'
        injection ht' with ht'
        rw [h5, h3, ht', e]
      exact (List.pairwise_cons.1 hk.2).1 d' hd' this.symm
    obtain ⟨w', g1, g2, g3, g4, g5, g6⟩ := ih (w.putObj r (.deferred none)) { fr with defers := [] ++ ds } cs hm rfl ⟨fun d' hd' => hk.1 d' (by simp [hd']), (List.pairwise_cons.1 hk.2).2⟩
      (fun d' hd' r' ht' => by rw [World.putObj_heap_other (hne d' hd' r' ht')]; exact hw d' (by simp [hd']) r' ht')
    refine ⟨w', .head h4 g1, by rw [g2]; simp, g3, g4, g5, fun b hb => ?_⟩
    rw [g6 b hb]
    refine World.putObj_heap_other (fun e => hb id h1 ?_)
    rw [h2, e]; rfl

theorem goes_ret (hB : Base P E C) {fn : Func} (hfn : P.funcs[f]? = some fn) {rv : List ResultVar} (hrv : fn.results.toList = rv) {n : Nat} {scr : Script} {keep : List Nat} {todo : List Item} {ts : List AV} {h : Heap} {obl : List Prop} {rows : List Ob} {r : AV}
    (he : runRet P E rv n scr keep todo ts h = some (rows, r, obl)) (hob : All obl) : Goes P C f todo ts h rows r := by
  intro X φ a w hs hd b cs hf hk hro
  unfold runRet at he
  split at he
  · rename_i todo1 s1 h1
    split at he
    · rename_i hends
      rw [Bool.and_eq_true] at hends
      obtain ⟨hends, hstay⟩ := hends
      split at he
      · rename_i rows1 r1 hx
        simp at he
        obtain ⟨e1, e2, e3⟩ := he
        rw [← e1, ← e2]
        rw [← e3] at hob
        have hs0 : SRel ⟨getO h, φ, w⟩ C ⟨ts, h, 0, scr, []⟩ φ a w := hs.rebase
        obtain ⟨φ', a', w1, g1, g2, g3⟩ := arun_sound hB n todo _ _ _ h1 hob φ a w hs0 b cs
        have hmk : Mk (getO s1.heap) φ' a'.defers := by rw [g2]; exact hd.stay hstay g1.ext.kh.val
        -- the frame returns, and goes by its marks
        have hret : ∃ fr : Frame, step P (lone (b.atR a' todo1) cs w1) = .next (lone fr cs w1) ∧ fr.mode = .returning ∧ fr.defers = a'.defers ∧ fr.kind = .normal ∧ fr.fn = f ∧ fr.tmps = a'.tmps := by
          cases todo1 with
          | nil => exact ⟨_, stepR_end hro, rfl, rfl, hk, hf, rfl⟩
          | cons it rest =>
            have : it = .code .ret := by
              unfold endsR at hends
              split at hends
              · rename_i e; cases e
              · rename_i e; cases e; rfl
              · cases hends
            subst this
            exact ⟨_, stepR_ret hro, rfl, rfl, hk, hf, rfl⟩
        obtain ⟨fr, hst, hmode, hdef, hkind, hfn', htm⟩ := hret
        obtain ⟨w', m1, m2, m3, m4, m5, m6⟩ := leave_marks (P := P) a'.defers w1 fr cs hmode hdef hmk (fun d hd' r0 ht => by
          obtain ⟨id, r2, q1, q2, q3⟩ := hmk.1 d hd'
          have ho := g1.rel.obj id
          rw [q1] at ho
          obtain ⟨b0, o1, _, o3⟩ := ho
          rw [q2] at o1
          injection o1 with o1; injection o1 with o1; injection o1 with o1
          rw [q3] at ht
          injection ht with ht
          rw [← ht, o1]; exact o3)
        obtain ⟨c1, c2, c3⟩ := rel_clear g1.rel m2 m3 m4 m5 m6
        have g1' : SRel ⟨getO (clearDf s1.heap), φ', w'⟩ C ⟨s1.tmps, clearDf s1.heap, 0, [], []⟩ φ' a' w' := ⟨c1, g1.size, fun t ht => (g1.tmp t ht).mono c2 c3, g1.out, .refl _ _ _ _⟩
        unfold exportA at hx
        split at hx
        · rename_i hn
          split at hx
          · rename_i xs rows2 hres hren
            split at hx
            · rename_i r2 hr2
              simp at hx
              obtain ⟨rfl, rfl⟩ := hx
              have hkp := renH_kept hn hren
              subst hrv
              obtain ⟨vs, k1, k2⟩ := resA_sound (P := P) g1' _ xs hres
              have hrun := results_run k1
              have hv : VRep (getO (clearDf s1.heap)) φ' (okB C (getO (clearDf s1.heap)) φ' w') w' (resV xs) (valV vs) := by
                cases k2 with
                | nil => exact .tup .nil
                | cons p1 p2 =>
                  cases p2 with
                  | nil => exact p1
                  | cons p2 p3 => exact .tup (.cons p1 (.cons p2 p3))
              have hA : ARes C rows2 r2 (.returned (valV vs)) w' :=
                ⟨_, φkeep φ' keep, rfl, keep_rel g1'.rel hkp, ren_rep g1'.rel hkp hr2 hv⟩
              refine ⟨_, w', _, hA, Steps.trans g3 (.head hst m1), hfn', hmode, rfl, hkind, fn, by show P.funcs[fr.fn]? = _; rw [hfn']; exact hfn, ?_⟩
              show (results fn fr.tmps).run P w' = _
              rw [htm]; exact hrun
            · cases hx
          · cases hx
        · cases hx
      · cases he
    · cases he
  · cases he

theorem junks_get : ∀ (n t : Nat), (junks n).getD t .junk = .junk := by
  intro n
  induction n with
  | zero => intro t; simp [junks]
  | succ n ih => intro t; cases t with
    | zero => simp [junks]
    | succ t => simpa [junks] using ih t
theorem junks_length (n : Nat) : (junks n).length = n := by induction n <;> simp_all [junks]

theorem repL_vrepL {h : SH} {φ : Nat → Value} {A : Nat → Prop} {w : World} : ∀ {xs : List AV} {vs : List Value}, RepL A w xs vs → VRepL h φ A w xs vs
  | _, _, .nil => .nil
  | _, _, .cons p q => .cons (.pure p) (repL_vrepL q)

/-- A function, from its entry. -/
theorem acalls_of_goes (hE : EnvOK E) (hG : Good P) {fn : Func} {c : Code} (hfn : P.funcs[f]? = some fn) (hb : fn.body = some c) (hnm : (fn.name == "runtime.NumGoroutine") = false) {args : List AV} {rows : List Ob} {r : AV} {m : Nat}
    (hm : fn.ntmps - args.length = m) (h : ∀ C, Base P E C → Goes P C f [.code c] (args ++ junks m) [] rows r) : ACalls P E f args rows r := by
  refine ⟨⟨fn, c, hfn, hnm, hb⟩, fun C vs hw hA hr => ?_⟩
  rw [callsIn_wide]
  intro cs
  have hB : Base P E C := ⟨hG, hE, hw, hA⟩
  have hlen : args.length = vs.length := (repL_vrepL (h := fun _ => .unborn) (φ := fun _ => undef) hr).length
  let b : Frame := { (default : Frame) with fn := f, kind := .normal, roundOf := none }
  let a : Act := { tmps := vs.toArray ++ Array.replicate (fn.ntmps - vs.toArray.size) undef, defers := [] }
  have henter : Frame.enter P f vs.toArray .normal = b.atR a [.code c] := by
    simp [Frame.enter, Frame.atR, hfn, hb, b, a]
  have hu : ∀ id, getO [] id = Ob.unborn := fun id => rfl
  have hs : SRel ⟨getO [], fun _ => undef, C.w0⟩ C ⟨args ++ junks m, [], 0, [], []⟩ (fun _ => undef) a C.w0 := by
    refine ⟨⟨Below.refl _ _, fun id => ?_, fun id id' b hl => ?_⟩, ?_, fun t ht => ?_, fun t ht => ?_, .refl _ _ _ _⟩
    · show ORep C _ _ _ _ (getO [] id)
      rw [hu]; trivial
    · have : (getO [] id).live = true := hl
      rw [hu] at this; simp [Ob.live] at this
    · simp [a, junks_length, hlen, ← hm]
    · have hk : KeepB C.A0 (okB C (getO []) (fun _ => undef) C.w0) C.w0 C.w0 := fun b hb => ⟨⟨hA b hb, .inl hb, fun id hl => by rw [hu] at hl; simp [Ob.live] at hl⟩, rfl⟩
      show VRep (getO []) _ (okB C (getO []) _ C.w0) C.w0 ((args ++ junks m).getD t .junk) (a.tmps.getD t undef)
      rcases Nat.lt_or_ge t args.length with hlt | hge
      · have hq : VRepL (getO []) (fun _ => undef) (okB C (getO []) (fun _ => undef) C.w0) C.w0 args vs := repL_vrepL (RepL.mono hk hr)
        obtain ⟨v, h1, h2⟩ := hq.get t (x := args[t]) (by simp [hlt])
        have e1 : (args ++ junks m).getD t .junk = args[t] := by
          simp [List.getElem?_append, hlt]
        have e2 : a.tmps.getD t undef = v := by
          have hlt' : t < vs.length := by omega
          have h1' : vs[t] = v := by simpa [hlt'] using h1
          simp [a, Array.getD_eq_getD_getElem?, Array.getElem?_append, hlt', h1']
        rw [e1, e2]; exact h2
      · have e1 : (args ++ junks m).getD t .junk = .junk := by
          rw [List.getD_eq_getElem?_getD, List.getElem?_append_right hge, ← List.getD_eq_getElem?_getD]
          exact junks_get _ _
        rw [e1]; exact .junk _
    · show (args ++ junks m).getD t .junk = .junk
      rw [List.getD_eq_getElem?_getD, List.getElem?_eq_none ht]; rfl
  obtain ⟨v, w', fr, h1, h2, h3, h4⟩ := h C hB _ _ a C.w0 hs (Mk.nil _ _) b cs rfl rfl rfl
  rw [henter]
  exact ⟨.returned v, w', fr, h1, h2, h3, h4⟩

end
end Go.Abs
/- Small lemmas for the walks that a program prints. -/
set_option linter.unusedVariables false
set_option linter.unusedSimpArgs false
set_option linter.unusedSectionVars false
namespace Go.Abs
open Go.RowKit

def avl {α : Type} (f : α → AV) (l : List α) : AV := .sl .p (l.map f)
theorem cells_avl {α : Type} {f : α → AV} (l : List α) : (avl f l).cells.length = 1 := rfl
theorem cells_bool (b : Bool) : (AV.bool b).cells.length = 1 := rfl
theorem cells_str (b : ByteArray) : (AV.str b).cells.length = 1 := rfl
theorem cells_int_i64 (b : Int) : (AV.int .i64 b).cells.length = 1 := rfl
theorem cells_int_u8 (b : Int) : (AV.int .u8 b).cells.length = 1 := rfl
theorem flat_bool (b : Bool) : (AV.bool b).hasSl = false := rfl
theorem flat_str (b : ByteArray) : (AV.str b).hasSl = false := rfl
theorem flat_int_i64 (b : Int) : (AV.int .i64 b).hasSl = false := rfl
theorem flat_int_u8 (b : Int) : (AV.int .u8 b).hasSl = false := rfl

section
variable {α : Type} {f : α → AV} {raw : List AV} {l : List α} {l2 : List α} {raw2 : List AV}
theorem get_raw (hr : raw = l.map f) {k : Nat} {y : α} (e : l[k]? = some y) : raw[k]? = some (f y) := by subst hr; simp [e]
theorem len_raw (hr : raw = l.map f) : AV.int .i64 (raw.length : Int) = AV.int .i64 (l.length : Int) := by subst hr; simp
theorem lt_raw (hr : raw = l.map f) {i : Int} (h : 0 ≤ i ∧ i < (l.length : Int)) : 0 ≤ i ∧ i < (raw.length : Int) := by subst hr; simpa using h
theorem slice_raw (hr : raw = l.map f) {i j : Int} (h : 0 ≤ i ∧ i ≤ j ∧ j ≤ (l.length : Int)) : 0 ≤ i ∧ i ≤ j ∧ j ≤ (raw.length : Int) := by subst hr; simpa using h
theorem slice_rawN (hr : raw = l.map f) {i : Int} (h : 0 ≤ i ∧ i ≤ (l.length : Int) ∧ (l.length : Int) ≤ (l.length : Int)) : 0 ≤ i ∧ i ≤ (raw.length : Int) ∧ (raw.length : Int) ≤ (raw.length : Int) := by
  subst hr; simpa using h
theorem cells_raw (hr : raw = l.map f) {n : Nat} (h : ∀ x, (f x).cells.length = n) : ∀ y ∈ raw, y.cells.length = n := by
  subst hr; intro y hy; obtain ⟨x, _, rfl⟩ := List.mem_map.1 hy; exact h x
theorem flat_raw (hr : raw = l.map f) (h : ∀ x, (f x).hasSl = false) : ∀ y ∈ raw, y.hasSl = false := by
  subst hr; intro y hy; obtain ⟨x, _, rfl⟩ := List.mem_map.1 hy; exact h x
theorem le_raw1 (hr : raw = l.map f) {n : Nat} (h : l.length * n ≤ 140737488355328) : raw.length * n ≤ 140737488355328 := by subst hr; simpa using h
theorem le_raw2 (hr : raw = l.map f) (h : l.length ≤ 140737488355328) : raw.length ≤ 140737488355328 := by subst hr; simpa using h
theorem le_raw3 {g : α → AV} (hr : raw = l.map f) (hr2 : raw2 = l2.map g) {n : Nat} (h : (l.length + l2.length) * n ≤ 140737488355328) : (raw.length + raw2.length) * n ≤ 140737488355328 := by
  subst hr hr2; simpa using h
theorem le_raw4 {g : α → AV} (hr : raw = l.map f) (hr2 : raw2 = l2.map g) (h : l.length + l2.length ≤ 140737488355328) : raw.length + raw2.length ≤ 140737488355328 := by
  subst hr hr2; simpa using h
end

theorem wrap_i64 {t : Int} (h : (-9223372036854775808) ≤ t ∧ t ≤ 9223372036854775807) : AV.int .i64 (IntKind.wrap .i64 t) = AV.int .i64 t := by rw [IntKind.wrap_i64]; congr 1; omega
theorem wrap_u8 {t : Int} (h : 0 ≤ t ∧ t ≤ 255) : AV.int .u8 (IntKind.wrap .u8 t) = AV.int .u8 t := by rw [IntKind.wrap_u8]; congr 1; omega

theorem ieqT {a b : Int} (h : a = b) : (a == b) = true := by simp [h]
theorem ieqF {a b : Int} (h : ¬ a = b) : (a == b) = false := by simp [h]
theorem ineF {a b : Int} (h : a = b) : (a != b) = false := by simp [h]
theorem ineT {a b : Int} (h : ¬ a = b) : (a != b) = true := by simp [h]
theorem bF {b : Bool} (h : ¬ b = true) : b = false := by cases b <;> simp_all
theorem bbeqT {a b : Bool} (h : a = b) : (a == b) = true := by simp [h]
theorem bbeqF {a b : Bool} (h : ¬ a = b) : (a == b) = false := by simp [h]

theorem toList_loop (b : ByteArray) : ∀ (n i : Nat) (r : List UInt8), b.size - i = n → ByteArray.toList.loop b i r = r.reverse ++ b.data.toList.drop i := by
  intro n
  induction n with
  | zero =>
    intro i r h
    unfold ByteArray.toList.loop
    rw [if_neg (by omega), List.drop_eq_nil_of_le (by have e : b.size = b.data.size := rfl; simp only [Array.length_toList]; omega)]
    simp
  | succ n ih =>
    intro i r h
    unfold ByteArray.toList.loop
    rw [if_pos (by omega), ih _ _ (by omega)]
    have hi : i < b.data.toList.length := by have e : b.size = b.data.size := rfl; simp only [Array.length_toList]; omega
    rw [List.drop_eq_getElem_cons hi]
    have : b.get! i = b.data.toList[i] := by
      have hi' : i < b.data.size := by simpa using hi
      rw [ByteArray.get!, getElem!_pos b.data i hi']; simp
    simp [this]
theorem toList_data (b : ByteArray) : b.toList = b.data.toList := by
  unfold ByteArray.toList
  rw [toList_loop b _ 0 [] rfl]
  simp
theorem bytes_inj {a b : ByteArray} : a.toList = b.toList ↔ a = b := by
  rw [toList_data, toList_data]
  constructor
  · intro h
    exact ByteArray.ext (Array.ext' h)
  · intro h; rw [h]
theorem seqT {a b : ByteArray} (h : a = b) : (a.toList == b.toList) = true := by simp [h]
theorem seqF {a b : ByteArray} (h : ¬ a = b) : (a.toList == b.toList) = false := by
  cases hb : (a.toList == b.toList) with
  | false => rfl
  | true => exact absurd (bytes_inj.1 (beq_iff_eq.1 hb)) h

mutual
def AV.plain : AV → AV
  | .sl _ xs => .sl .p xs
  | .agg cs => .agg (AV.plainL cs)
  | x => x
def AV.plainL : List AV → List AV
  | [] => []
  | x :: xs => x.plain :: AV.plainL xs
end
mutual
theorem plain_rep {A : Nat → Prop} {w : World} : ∀ {x v}, Rep A w x v → Rep A w x.plain v
  | .sl fl xs, v, p => p.plain
  | .agg cs, v, p => by cases p with | agg p => exact .agg (plainL_rep p)
  | .bool _, v, p => p
  | .int _ _, v, p => p
  | .str _, v, p => p
  | .tup _, v, p => p
  | .fn _ _, v, p => p
  | .pin _ _, v, p => p
  | .nilp, v, p => p
  | .ptr _ _, v, p => p
  | .ptrE _ _ _, v, p => p
  | .own _, v, p => p
  | .junk, v, p => p
theorem plainL_rep {A : Nat → Prop} {w : World} : ∀ {xs vs}, RepL A w xs vs → RepL A w (AV.plainL xs) vs
  | [], _, .nil => .nil
  | x :: xs, _, .cons p q => .cons (plain_rep p) (plainL_rep q)
end
section
variable {P : Program} {E : Env} {C : C0} {f : FuncId}
theorem alln : All [] := trivial
theorem allc {p : Prop} {ps : List Prop} (h : p) (hs : All ps) : All (p :: ps) := ⟨h, hs⟩
theorem acalls_eq {as as' : List AV} {rows : List Ob} {r : AV} (h : as = as') (hc : ACalls P E f as' rows r) : ACalls P E f as rows r := h ▸ hc
theorem icalls_eq {T : TypeId} {s : Nat} {xs xs' as as' ys : List AV} (h1 : xs = xs') (h2 : as = as') (hc : ICalls P f T s xs' as' ys) : ICalls P f T s xs as ys := h1 ▸ h2 ▸ hc
theorem acalls_plain {xs : List AV} {rows : List Ob} {r : AV} (hc : ACalls P E f (AV.plainL xs) rows r) : ACalls P E f xs rows r :=
  ⟨hc.1, fun C vs hw hA hr => hc.2 C vs hw hA (plainL_rep hr)⟩
theorem goes_eqS {todo : List Item} {ts ts' : List AV} {h h' : Heap} {rows : List Ob} {r : AV} (e1 : ts = ts') (e2 : h = h') (hg : Goes P C f todo ts' h' rows r) : Goes P C f todo ts h rows r := e1 ▸ e2 ▸ hg
theorem goes_eqR {todo : List Item} {ts : List AV} {h : Heap} {rows rows' : List Ob} {r r' : AV} (e1 : rows = rows') (e2 : r = r') (hg : Goes P C f todo ts h rows' r') : Goes P C f todo ts h rows r := e1 ▸ e2 ▸ hg
end
end Go.Abs
/- Results without flags; nil slices taken as own rows. -/
set_option linter.unusedVariables false
set_option linter.unusedSimpArgs false
set_option linter.unusedSectionVars false
namespace Go.Abs
open Go.RowKit

mutual
def AV.plainR : AV → AV
  | .sl _ xs => .sl .p xs
  | .agg cs => .agg (AV.plainRL cs)
  | .tup cs => .tup (AV.plainRL cs)
  | x => x
def AV.plainRL : List AV → List AV
  | [] => []
  | x :: xs => x.plainR :: AV.plainRL xs
end
mutual
theorem plainR_rep {A : Nat → Prop} {w : World} : ∀ {x v}, Rep A w x v → Rep A w x.plainR v
  | .sl fl xs, v, p => p.plain
  | .agg cs, v, p => by cases p with | agg p => exact .agg (plainRL_rep p)
  | .tup cs, v, p => by cases p with | tup p => exact .tup (plainRL_rep p)
  | .bool _, v, p => p
  | .int _ _, v, p => p
  | .str _, v, p => p
  | .fn _ _, v, p => p
  | .pin _ _, v, p => p
  | .nilp, v, p => p
  | .ptr _ _, v, p => p
  | .ptrE _ _ _, v, p => p
  | .own _, v, p => p
  | .yld _ _, v, p => p
  | .junk, v, p => p
theorem plainRL_rep {A : Nat → Prop} {w : World} : ∀ {xs vs}, RepL A w xs vs → RepL A w (AV.plainRL xs) vs
  | [], _, .nil => .nil
  | x :: xs, _, .cons p q => .cons (plainR_rep p) (plainRL_rep q)
end
mutual
theorem plainR_vrep {h : SH} {φ : Nat → Value} {A : Nat → Prop} {w : World} : ∀ {x v}, VRep h φ A w x v → VRep h φ A w x.plainR v
  | _, _, .pure p => .pure (plainR_rep p)
  | _, _, .agg p => by rw [AV.plainR]; exact .agg (plainRL_vrep p)
  | _, _, .tup p => by rw [AV.plainR]; exact .tup (plainRL_vrep p)
  | _, _, .ptr a b => .ptr a b
  | _, _, .ptrE a b c => .ptrE a b c
  | _, _, .own a b c => .own a b c
  | _, _, .yld a b => .yld a b
  | _, _, .junk v => .junk v
theorem plainRL_vrep {h : SH} {φ : Nat → Value} {A : Nat → Prop} {w : World} : ∀ {xs vs}, VRepL h φ A w xs vs → VRepL h φ A w (AV.plainRL xs) vs
  | _, _, .nil => .nil
  | _, _, .cons p q => .cons (plainR_vrep p) (plainRL_vrep q)
end

section
variable {P : Program} {E : Env} {X : Bs} {C : C0} {f : FuncId}
theorem goes_plain {todo : List Item} {ts : List AV} {h : Heap} {rows : List Ob} {r : AV} (hg : Goes P C f todo ts h rows r) : Goes P C f todo ts h rows r.plainR := by
  intro X φ a w hs hd b cs hf hk hro
  obtain ⟨v, w', fr, ⟨v', φ', h1, h2, h3⟩, h4⟩ := hg X φ a w hs hd b cs hf hk hro
  exact ⟨v, w', fr, ⟨v', φ', h1, h2, plainR_vrep h3⟩, h4⟩

theorem acalls_eq2 {vals vals' : List AV} {rows : List Ob} {r : AV} (h : vals = vals') (hc : ACalls P E f vals' rows r) : ACalls P E f vals rows r := h ▸ hc
theorem icalls_eq2 {T : TypeId} {s : Nat} {row row' vals vals' ys : List AV} (h1 : row = row') (h2 : vals = vals') (hc : ICalls P f T s row' vals' ys) : ICalls P f T s row vals ys := h1 ▸ h2 ▸ hc

/-! ### A nil slice as an own row -/

theorem Rel.adopt {h : SH} {φ : Nat → Value} {w : World} (hr : Rel C h φ w) {T : TypeId} {s : Nat} (h0 : 0 < s) {fresh : Nat} (hf : h fresh = .unborn) :
    let h' := newS h fresh [.row T s []]
    Rel C h' (upd1v φ fresh (.slice none 0 0)) w ∧ KeepB (okB C h φ w) (okB C h' (upd1v φ fresh (.slice none 0 0)) w) w w ∧ KeepH h h' φ (upd1v φ fresh (.slice none 0 0)) ∧ h' fresh = .row T s [] := by
  intro h'
  exact Rel.regrow (rd := fun _ => .junk) (a := { tmps := #[], defers := [] }) (look := h) hr (fun _ => .junk _) (fun _ => .inr rfl) (T := T) (s := s) hf (old := none) (xs := []) (fun id e => by cases e)
    (v := .slice none 0 0) (v' := .slice none 0 0) (.inr ⟨rfl, rfl⟩) (cells := []) ⟨rfl, rfl, rfl, Nat.le_refl _, fun _ _ _ => rfl⟩ (World.ownsRow_nil w _ T s) (fun b e => by cases e) .nil (by simp) h0 (by simp)

theorem Rel.rebox {h : SH} {φ : Nat → Value} {w : World} (hr : Rel C h φ w) {id : Nat} {T : TypeId} {cs cs' : List AV} (hx : h id = .box T cs)
    (hv : ∀ vs, VRepL h φ (okB C h φ w) w cs vs → VRepL h φ (okB C h φ w) w cs' vs) :
    let h' := upd1 h id (.box T cs')
    Rel C h' φ w ∧ KeepB (okB C h φ w) (okB C h' φ w) w w ∧ KeepH h h' φ φ := by
  intro h'
  have hh : ∀ k, h' k = if k = id then .box T cs' else h k := fun k => rfl
  have hl : ∀ k, (h' k).live = (h k).live := fun k => by
    rw [hh]; split
    · rename_i e; subst e; rw [hx]; rfl
    · rfl
  have kh : KeepH h h' φ φ := by
    refine ⟨fun k hk => ?_, fun _ _ => rfl, fun k hk hd => ?_, fun k T' s' xs' hk he => ?_⟩
    · rw [hh]; split <;> simp [hk]
    · rw [hh] at hd; split at hd
      · rename_i e; subst e; rw [hx]; simp
      · exact hd
    · rw [hh] at he; split at he
      · cases he
      · exact ⟨_, _, he⟩
  obtain ⟨r1, r2⟩ := hr.step (h' := h') (φ' := φ) (w' := w) hr.below (Nat.le_refl _) kh (fun _ _ => rfl) (fun k hk _ => by rw [hl] at hk; exact hk)
    (fun k hk hu => by rw [hl, hu] at hk; simp [Ob.live] at hk) (fun k k' b hk _ hu => by rw [hl, hu] at hk; simp [Ob.live] at hk)
    (fun hK k => by
      by_cases e : k = id
      · subst e
        right
        have ho := hr.obj k
        rw [hx] at ho
        obtain ⟨b, vs, g1, g2, g3, g4, g5⟩ := ho
        rw [hh, if_pos rfl]
        exact ⟨b, vs, g1, g2, g3, (hv vs g4).mono hK kh, g5⟩
      · left
        exact ⟨by rw [hh, if_neg e], fun _ _ _ _ => rfl⟩)
  exact ⟨r1, r2, kh⟩

/-- A nil slice in a temporary (none, t) or in a box's cell (some id, i). -/
def adopt1 (T : TypeId) (s : Nat) (ts : List AV) (h : Heap) : Option Nat → Nat → Option (List AV × Heap)
  | none, t => match ts.getD t .junk with
    | .sl .n [] => if s = 0 then none else some (ts.set t (.own h.length), h ++ [.row T s []])
    | _ => none
  | some id, i => match getO h id with
    | .box T0 cs => (match cs[i]? with
      | some (.sl .n []) => if s = 0 then none else some (ts, h.set id (.box T0 (cs.set i (.own h.length))) ++ [.row T s []])
      | _ => none)
    | _ => none
def adoptL : List (TypeId × Nat × Option Nat × Nat) → List AV → Heap → Option (List AV × Heap)
  | [], ts, h => some (ts, h)
  | (T, s, o, i) :: r, ts, h => match adopt1 T s ts h o i with
    | some (ts', h') => adoptL r ts' h'
    | none => none

theorem vrepL_set {h : SH} {φ : Nat → Value} {A : Nat → Prop} {w : World} {x : AV} : ∀ {cs : List AV} {vs : List Value} (i : Nat), VRepL h φ A w cs vs → (∀ v, vs[i]? = some v → VRep h φ A w x v) → VRepL h φ A w (cs.set i x) vs
  | _, _, _, .nil, _ => by simp; exact .nil
  | _, _, 0, .cons p q, hx => .cons (hx _ rfl) q
  | _, _, i + 1, .cons p q, hx => .cons p (vrepL_set i q (fun v hv => hx v (by simpa using hv)))

theorem nil_value {h : SH} {φ : Nat → Value} {A : Nat → Prop} {w : World} {v : Value} (p : VRep h φ A w (.sl .n []) v) : v = .slice none 0 0 := by
  obtain ⟨_, _, _, _, _, ⟨h1, _⟩, _⟩ := p.inv_sl
  exact h1 rfl rfl

theorem srel_adopt1 {T : TypeId} {s : Nat} {ts ts' : List AV} {h h' : Heap} {cnt cnt' : Nat} {scr scr' : Script} {ob ob' : List Prop} {o : Option Nat} {i : Nat} (e : adopt1 T s ts h o i = some (ts', h'))
    {φ : Nat → Value} {a : Act} {w : World} (hs : SRel X C ⟨ts, h, cnt, scr, ob⟩ φ a w) : SRel X C ⟨ts', h', cnt', scr', ob'⟩ (upd1v φ h.length (.slice none 0 0)) a w := by
  have hu : getO h h.length = .unborn := by simp [getO]
  cases o with
  | none =>
    simp only [adopt1] at e
    split at e
    · rename_i hn
      split at e
      · cases e
      · rename_i h0
        simp at e; obtain ⟨rfl, rfl⟩ := e
        obtain ⟨r1, r2, r3, r4⟩ := Rel.adopt hs.rel (T := T) (s := s) (by omega) hu
        rw [← append_get] at r1 r2 r3 r4
        refine ⟨r1, by simpa using hs.size, fun t ht => ?_, fun t ht => ?_, ⟨hs.ext.kb.trans r2, hs.ext.kh.trans r3⟩⟩
        · have ht' : t < ts.length := by simpa using ht
          have hv : VRep _ _ _ _ (ts.getD t .junk) (a.tmps.getD t undef) := hs.tmp t ht'
          show VRep _ _ _ _ ((ts.set i (.own h.length)).getD t .junk) _
          rw [List.getD_eq_getElem?_getD, List.getElem?_set]
          by_cases ei : i = t
          · subst ei
            rw [if_pos rfl, if_pos ht']
            rw [hn] at hv
            have := nil_value hv
            rw [this]
            exact .own (by show getO _ _ ≠ _; rw [r4]; simp) rfl (fun _ => by simp [upd1v])
          · rw [if_neg ei, ← List.getD_eq_getElem?_getD]
            exact hv.mono r2 r3
        · have : (ts.set i (.own h.length)).length ≤ t := ht
          show (ts.set i (.own h.length)).getD t .junk = .junk
          rw [List.getD_eq_getElem?_getD, List.getElem?_eq_none this]; rfl
    · cases e
  | some id =>
    simp only [adopt1] at e
    split at e
    · rename_i T0 cs hb
      split at e
      · rename_i hn
        split at e
        · cases e
        · rename_i h0
          simp at e; obtain ⟨rfl, rfl⟩ := e
          obtain ⟨r1, r2, r3, r4⟩ := Rel.adopt hs.rel (T := T) (s := s) (by omega) hu
          have hid : id < h.length := by
            rcases Nat.lt_or_ge id h.length with hl | hl
            · exact hl
            · have : getO h id = .unborn := by simp [getO, List.getElem?_eq_none hl]
              rw [this] at hb; cases hb
          have hb1 : newS (getO h) h.length [.row T s []] id = .box T0 cs := by
            rw [← append_get]
            rw [← hb]
            simp only [getO, List.getD_eq_getElem?_getD]
            rw [List.getElem?_append_left hid]
          obtain ⟨q1, q2, q3⟩ := Rel.rebox r1 (cs' := cs.set i (.own h.length)) hb1 (fun vs hvs => by
            refine vrepL_set i hvs (fun v hv => ?_)
            obtain ⟨v', g1, g2⟩ := hvs.get i hn
            rw [hv] at g1; cases g1
            have := nil_value g2
            subst this
            exact .own (by rw [r4]; simp) rfl (fun _ => by simp [upd1v]))
          have hh : getO (h.set id (.box T0 (cs.set i (.own h.length))) ++ [.row T s []]) = upd1 (newS (getO h) h.length [.row T s []]) id (.box T0 (cs.set i (.own h.length))) := by
            funext k
            rw [← append_get]
            simp only [getO, upd1, List.getD_eq_getElem?_getD]
            by_cases ek : k = id
            · subst ek
              rw [if_pos rfl, List.getElem?_append_left (by simpa using hid)]
              simp [hid]
            · rw [if_neg ek]
              rcases Nat.lt_or_ge k h.length with hl | hl
              · rw [List.getElem?_append_left (by simpa using hl), List.getElem?_append_left hl, List.getElem?_set_ne (fun e => ek e.symm)]
              · rw [List.getElem?_append_right (by simpa using hl), List.getElem?_append_right hl]; simp
          rw [← hh] at q1 q2 q3
          exact ⟨q1, hs.size, fun t ht => (VRep.mono r2 r3 (hs.tmp t ht)).mono q2 q3, hs.out, ⟨(hs.ext.kb.trans r2).trans q2, (hs.ext.kh.trans r3).trans q3⟩⟩
      · cases e
    · cases e

theorem mk_adopt1 {T : TypeId} {s : Nat} {ts ts' : List AV} {h h' : Heap} {o : Option Nat} {i : Nat} (e : adopt1 T s ts h o i = some (ts', h')) {φ : Nat → Value} {ds : List Deferred} (m : Mk (getO h) φ ds) :
    Mk (getO h') (upd1v φ h.length (.slice none 0 0)) ds := by
  refine ⟨fun d hd => ?_, m.2⟩
  obtain ⟨id, r, h1, h2, h3⟩ := m.1 d hd
  have hlt := getO_lt h1 (by simp)
  refine ⟨id, r, ?_, by simp only [upd1v]; rw [if_neg (by omega)]; exact h2, h3⟩
  have hap : ∀ (g : Heap) (x : List Ob), id < g.length → getO (g ++ x) id = getO g id := fun g x hg => by simp [getO, List.getElem?_append_left hg]
  cases o with
  | none =>
    simp only [adopt1] at e
    split at e
    · split at e
      · cases e
      · simp at e; obtain ⟨_, rfl⟩ := e
        rw [hap _ _ hlt]; exact h1
    · cases e
  | some k =>
    simp only [adopt1] at e
    split at e
    · rename_i T0 cs hb
      split at e
      · split at e
        · cases e
        · simp at e; obtain ⟨_, rfl⟩ := e
          rw [hap _ _ (by simpa using hlt)]
          have hne : k ≠ id := fun ek => by rw [ek, h1] at hb; cases hb
          simp only [getO, List.getD_eq_getElem?_getD, List.getElem?_set_ne hne]
          rw [← List.getD_eq_getElem?_getD]; exact h1
      · cases e
    · cases e

theorem goes_adopt {l : List (TypeId × Nat × Option Nat × Nat)} {todo : List Item} {rows : List Ob} {r : AV} : ∀ {ts ts' : List AV} {h h' : Heap}, adoptL l ts h = some (ts', h') → Goes P C f todo ts' h' rows r → Goes P C f todo ts h rows r := by
  induction l with
  | nil => intro ts ts' h h' e hg; simp [adoptL] at e; obtain ⟨rfl, rfl⟩ := e; exact hg
  | cons p l ih =>
    obtain ⟨T, s, o, i⟩ := p
    intro ts ts' h h' e hg
    simp only [adoptL] at e
    split at e
    · rename_i ts1 h1 e1
      intro X φ a w hs hd b cs hf hk hro
      exact ih e hg _ _ a w (srel_adopt1 e1 hs) (mk_adopt1 e1 hd) b cs hf hk hro
    · cases e

/-! ### Rows that are not written again from here on -/
def freezeL : List Nat → Heap → Option Heap
  | [], h => some h
  | id :: r, h => match getO h id with
    | .row _ _ xs => freezeL r (h.set id (.fro xs))
    | _ => none
theorem getO_set {h : Heap} {id : Nat} (hid : id < h.length) (o : Ob) : getO (h.set id o) = upd1 (getO h) id o := by
  funext k
  simp only [getO, upd1, List.getD_eq_getElem?_getD, List.getElem?_set]
  by_cases ek : k = id
  · subst ek; simp [hid]
  · rw [if_neg ek, if_neg (fun e => ek e.symm)]
theorem goes_freeze {l : List Nat} {todo : List Item} {rows : List Ob} {r : AV} {ts : List AV} : ∀ {h h' : Heap}, freezeL l h = some h' → Goes P C f todo ts h' rows r → Goes P C f todo ts h rows r := by
  induction l with
  | nil => intro h h' e hg; simp [freezeL] at e; subst e; exact hg
  | cons id l ih =>
    intro h h' e hg
    simp only [freezeL] at e
    split at e
    · rename_i T s xs hx
      have hid : id < h.length := by
        rcases Nat.lt_or_ge id h.length with hl | hl
        · exact hl
        · have : getO h id = .unborn := by simp [getO, List.getElem?_eq_none hl]
          rw [this] at hx; cases hx
      intro X φ a w hs hd b cs hf hk hro
      obtain ⟨r1, r2, r3⟩ := Rel.freezeRow hs.rel hx
      have hs' : SRel X C ⟨ts, h.set id (.fro xs), 0, [], []⟩ φ a w := by
        unfold SRel
        rw [getO_set hid]
        exact ⟨r1, hs.size, fun t ht => VRep.mono r2 r3 (hs.tmp t ht), hs.out, ⟨hs.ext.kb.trans r2, hs.ext.kh.trans r3⟩⟩
      have hd' : Mk (getO (h.set id (.fro xs))) φ a.defers := by
        refine ⟨fun d hm => ?_, hd.2⟩
        obtain ⟨k, r, h1, h2, h3⟩ := hd.1 d hm
        refine ⟨k, r, ?_, h2, h3⟩
        rw [getO_set hid]
        have hne : k ≠ id := fun ek => by rw [ek, hx] at h1; cases h1
        simp only [upd1, if_neg hne]; exact h1
      exact ih e hg X φ a w hs' hd' b cs hf hk hro
    · cases e
end
end Go.Abs
/- Loops over functions: the iterator's body is walked in the caller's place; a round is one operation of it. -/
set_option linter.unusedVariables false
set_option linter.unusedSimpArgs false
set_option linter.unusedSectionVars false
namespace Go.Abs
open Go.RowKit

def putPs : List Tmp → List AV → List AV → List AV
  | p :: ps, x :: xs, ts => putPs ps xs (ts.set p x)
  | _, _, ts => ts
def putPv : List Tmp → List Value → Array Value → Array Value
  | p :: ps, x :: xs, ts => putPv ps xs (ts.setIfInBounds p x)
  | _, _, ts => ts
theorem putPv_eq : ∀ (ps : List Tmp) (vs : List Value) (tm : Array Value), (ps.toArray.zip vs.toArray).foldl (fun t (p, x) => t.setIfInBounds p x) tm = putPv ps vs tm := by
  intro ps vs tm
  have : ∀ (l : List Tmp) (vs : List Value) (tm : Array Value), (l.zip vs).foldl (fun t (p : Tmp × Value) => t.setIfInBounds p.1 p.2) tm = putPv l vs tm := by
    intro l
    induction l with
    | nil => intro vs tm; cases vs <;> rfl
    | cons p l ih =>
      intro vs tm
      cases vs with
      | nil => rfl
      | cons v vs => simp only [List.zip_cons_cons, List.foldl_cons, putPv]; exact ih vs _
  rw [← this ps vs tm]
  simp [← Array.foldl_toList]

def endSt : List Item → Option LSt
  | [] => some .ready
  | .code .ret :: _ => some (.done .ret)
  | .code (.exit j) :: k => (match exitTo j k with
    | none => some (.done (.exit j))
    | some _ => none)
  | _ => none

/-- A round, run. -/
def runRound (P : Program) (E : Env) (n1 n2 : Nat) (scr : Script) (id : Nat) (H : Heap) (args : List AV) : Option (LSt × Heap × List Prop) :=
  match getO H id with
  | .lp ts _ ps asg bdy .ready => if Nat.beq ps.length args.length then (match arun P E n1 [.code asg, .beginRound, .code bdy] ⟨putPs ps args ts, H, 0, scr, []⟩ with
    | some (.beginRound :: k1, s1) => (match getO s1.heap id with
      | .lp ts1 f1 ps1 a1 b1 .ready => (match arun P E n2 k1 { s1 with heap := s1.heap.set id (.lp ts1 f1 ps1 a1 b1 .busy) } with
        | some (k2, s2) => (match endSt k2, getO s2.heap id with
          | some st, .lp ts2 f2 ps2 a2 b2 .busy => some (st, s2.heap.set id (.lp ts2 f2 ps2 a2 b2 st), s2.obl)
          | _, _ => none)
        | none => none)
      | _ => none)
    | _ => none) else none
  | _ => none

theorem stepsIn_of {P : Program} {I : Machine → Prop} (hI : ∀ m, I m) {m m' : Machine} (h : Steps P m m') : StepsIn I P m m' := (StepsIn.of_steps h).mono (fun m _ => hI m)

section
variable {P : Program} {E : Env} {X : Bs} {C : C0} {f : FuncId}

theorem putP_rep {h : SH} {φ : Nat → Value} {A : Nat → Prop} {w : World} : ∀ {ps : List Tmp} {xs ts : List AV} {vs : List Value} {tm : Array Value}, VRepL h φ A w xs vs →
    ts.length = tm.size → (∀ t, t < ts.length → VRep h φ A w (ts.getD t .junk) (tm.getD t undef)) →
    (putPs ps xs ts).length = (putPv ps vs tm).size ∧ (putPs ps xs ts).length = ts.length ∧ ∀ t, t < ts.length → VRep h φ A w ((putPs ps xs ts).getD t .junk) ((putPv ps vs tm).getD t undef) := by
  intro ps
  induction ps with
  | nil => intro xs ts vs tm hx h1 h2; exact ⟨h1, rfl, h2⟩
  | cons p ps ih =>
    intro xs ts vs tm hx h1 h2
    cases hx with
    | nil => exact ⟨h1, rfl, h2⟩
    | cons a b =>
      simp only [putPs, putPv]
      rename_i x xs v vs
      obtain ⟨g1, g2, g3⟩ := ih (ts := ts.set p x) (tm := tm.setIfInBounds p v) b (by simpa using h1) (fun t ht => by
        have ht' : t < ts.length := by simpa using ht
        by_cases e : p = t
        · subst e
          have : p < tm.size := h1 ▸ ht'
          rw [List.getD_eq_getElem?_getD, List.getElem?_set, if_pos rfl, if_pos ht', Array.getD_eq_getD_getElem?, Array.getElem?_setIfInBounds_self_of_lt this]
          exact a
        · rw [List.getD_eq_getElem?_getD, List.getElem?_set_ne e, ← List.getD_eq_getElem?_getD, Array.getD_eq_getD_getElem?, Array.getElem?_setIfInBounds_ne e, ← Array.getD_eq_getD_getElem?]
          exact h2 t ht')
      exact ⟨g1, by simpa using g2, fun t ht => g3 t (by simpa using ht)⟩

/-- A loop's record turns. -/
theorem rel_lp {h : SH} {φ : Nat → Value} {w : World} (hr : Rel C h φ w) {id : Nat} {ts : List AV} {f : FuncId} {ps : List Tmp} {asg bdy : Code} {st : LSt} (hid : h id = .lp ts f ps asg bdy st)
    {l : Nat} {tm : Array Value} (hφ : φ id = .func (.yield l) #[] tm) (o : Obj) (ob : Ob) (hb : ob ≠ .unborn) (hrow : ∀ T s xs, ob ≠ .row T s xs) (hlive : ob.live = true → ob.live = true)
    (hob : KeepB (okB C h φ w) (okB C (upd1 h id ob) φ (w.putObj l o)) w (w.putObj l o) → KeepH h (upd1 h id ob) φ φ → (w.putObj l o).heap[l]? = some o → ORep C (upd1 h id ob) φ (w.putObj l o) (φ id) ob) :
    Rel C (upd1 h id ob) φ (w.putObj l o) ∧ KeepB (okB C h φ w) (okB C (upd1 h id ob) φ (w.putObj l o)) w (w.putObj l o) ∧ KeepH h (upd1 h id ob) φ φ := by
  have ho := hr.obj id
  have hl0 : (h id).live = true := by rw [hid]; rfl
  have hbk : blk (φ id) = some l := by rw [hφ]; rfl
  obtain ⟨hlt, hbase⟩ := ho.block hl0 hbk
  have hh : ∀ k, upd1 h id ob k = if k = id then ob else h k := fun k => rfl
  have kh : KeepH h (upd1 h id ob) φ φ := by
    refine ⟨fun k hk => ?_, fun _ _ => rfl, fun k hk hd => ?_, fun k T s xs hk he => ?_⟩
    · rw [hh]; split
      · exact hb
      · exact hk
    · rw [hh] at hd; split at hd
      · rename_i e; subst e; rw [hid]; simp
      · exact hd
    · rw [hh] at he; split at he
      · exact absurd he (hrow T s xs)
      · exact ⟨_, _, he⟩
  have hoth : ∀ b, b ≠ l → (w.putObj l o).heap[b]? = w.heap[b]? := fun b hb => World.putObj_heap_other hb
  obtain ⟨r1, r2⟩ := hr.step (h' := upd1 h id ob) (φ' := φ) (w' := w.putObj l o)
    (hr.below.trans ⟨rfl, rfl, rfl, by simp, fun k hk => hoth k (by omega)⟩) (by simp) kh
    (fun b hk => hoth b (fun e => hk.2.2 id hl0 (by rw [hbk, e])))
    (fun k hk hu => by rw [hh] at hk; split at hk
                       · rename_i e; subst e; exact hl0
                       · exact hk)
    (fun k hk hu => by rw [hh] at hk; split at hk
                       · rename_i e; subst e; rw [hid] at hu; cases hu
                       · rw [hu] at hk; cases hk)
    (fun k k' b hk _ hu => by rw [hh] at hk; split at hk
                              · rename_i e; subst e; rw [hid] at hu; cases hu
                              · rw [hu] at hk; cases hk)
    (fun hK k => by
      by_cases e : k = id
      · subst e
        right
        rw [hh, if_pos rfl]
        exact hob hK kh (World.putObj_heap_same hlt)
      · left
        refine ⟨by rw [hh, if_neg e], fun _ hl b he => hoth b (fun eb => e ?_)⟩
        exact hr.inj k id b hl hl0 he (by rw [hbk, eb]))
  exact ⟨r1, r2, kh⟩

theorem round_ok {n1 n2 : Nat} {scr : Script} {id : Nat} {H : Heap} {args : List AV} {st : LSt} {upd : List (Nat × Ob)} {new : List Ob} {obl : List Prop}
    (he : runRound P E n1 n2 scr id H args = some (st, applyU H upd ++ new, obl)) (hob : All obl) : RoundOK P E id H args st upd new := by
  intro ts f ps asg bdy hid
  unfold runRound at he
  rw [hid] at he
  simp only at he
  split at he
  · rename_i hlen
    refine ⟨Nat.eq_of_beq_eq_true hlen, fun C hB φ w hr l tm hφ vs hvs F q hFf hfen => ?_⟩
    split at he
    · rename_i k1 s1 h1
      split at he
      · rename_i ts1 f1 ps1 a1 b1 e1
        split at he
        · rename_i k2 s2 h2
          split at he
          · rename_i st' ts2 f2 ps2 a2 b2 e2 e3
            simp only [Option.some.injEq, Prod.mk.injEq] at he
            obtain ⟨rfl, eH, rfl⟩ := he
            refine ⟨hFf, fun c cs hroom => ?_⟩
            rw [putPv_eq]
            have ho := hr.obj id
            rw [hid] at ho
            obtain ⟨l0, tm0, d0, g1, g2, g3, g4⟩ := ho
            rw [hφ] at g1
            injection g1 with g1 _ g1'
            injection g1 with g1
            subst g1 g1'
            obtain ⟨t1, t2, t3⟩ := putP_rep (ps := ps) (ts := ts) (tm := tm) hvs (by rw [g4.length]; simp) (fun t ht => by
              obtain ⟨v, m1, m2⟩ := g4.get t (x := ts[t]) (by simp [ht])
              have hv : tm.getD t undef = v := by
                rw [Array.getD_eq_getD_getElem?]
                have : tm[t]? = some v := by simpa using m1
                rw [this]; rfl
              rw [hv]
              simpa [ht] using m2)
            let b : Frame := { (default : Frame) with fn := f, kind := .normal, roundOf := some l }
            let a0 : Act := { tmps := putPv ps vs tm, defers := [] }
            have hb0 : Frame.round l f (putPv ps vs tm) asg bdy .normal = b.atR a0 [.code asg, .beginRound, .code bdy] := by simp [Frame.round, Frame.atR, b, a0]
            have hs0 : SRel ⟨getO H, φ, w⟩ C ⟨putPs ps args ts, H, 0, scr, []⟩ φ a0 w :=
              ⟨hr, t1.symm, fun t ht => t3 t (by rw [t2] at ht; exact ht), fun t ht => by
                show (putPs ps args ts).getD t .junk = .junk
                rw [List.getD_eq_getElem?_getD, List.getElem?_eq_none ht]; rfl, .refl _ _ _ _⟩
            have hob1 : All s1.obl := arun_obl n2 k1 { s1 with heap := s1.heap.set id (.lp ts1 f1 ps1 a1 b1 .busy) } k2 s2 h2 hob
            obtain ⟨φ1, act1, w1, s1r, s1d, s1s⟩ := arun_sound hB n1 _ _ _ _ h1 hob1 φ a0 w hs0 b (c :: cs)
            -- the round begins
            have hφ1 : φ1 id = .func (.yield l) #[] tm := (s1r.ext.kh.val id (show getO H id ≠ .unborn by rw [hid]; simp)).trans hφ
            have ho1 := s1r.rel.obj id
            rw [e1] at ho1
            obtain ⟨l1, tm1, d1, m1, m2, m3, m4⟩ := ho1
            rw [hφ1] at m1
            injection m1 with m1 _ m1'
            injection m1 with m1
            subst m1 m1'
            have hbeg := run_beginRound (P := P) m3 (by rfl)
            have hid1 : id < s1.heap.length := getO_lt e1 (by simp)
            obtain ⟨r1, r2, r3⟩ := rel_lp s1r.rel e1 hφ1 (.loop (LSt.busy.loop f1 tm ps1 a1 b1 d1)) (.lp ts1 f1 ps1 a1 b1 .busy) (by simp) (by simp) (fun h => h)
              (fun hK hH hw => ⟨l, tm, d1, hφ1, m2, hw, VRepL.mono hK hH m4⟩)
            have hs1' : SRel ⟨getO H, φ, w⟩ C { s1 with heap := s1.heap.set id (.lp ts1 f1 ps1 a1 b1 .busy) } φ1 act1 (w1.putObj l (.loop (LSt.busy.loop f1 tm ps1 a1 b1 d1))) := by
              unfold SRel
              rw [getO_set hid1]
              exact ⟨r1, s1r.size, fun t ht => VRep.mono r2 r3 (s1r.tmp t ht), s1r.out, ⟨s1r.ext.kb.trans r2, s1r.ext.kh.trans r3⟩⟩
            obtain ⟨φ2, act2, w2, s2r, s2d, s2s⟩ := arun_sound hB n2 _ _ _ _ h2 hob φ1 act1 _ hs1' b (c :: cs)
            -- the round ends
            have hφ2 : φ2 id = .func (.yield l) #[] tm := (s2r.ext.kh.val id (show getO H id ≠ .unborn by rw [hid]; simp)).trans hφ
            have ho2 := s2r.rel.obj id
            rw [e3] at ho2
            obtain ⟨l2, tm2, d2, p1, p2, p3, p4⟩ := ho2
            rw [hφ2] at p1
            injection p1 with p1 _ p1'
            injection p1 with p1
            subst p1 p1'
            have hid2 : id < s2.heap.length := getO_lt e3 (by simp)
            obtain ⟨u1, u2, u3⟩ := rel_lp s2r.rel e3 hφ2 (.loop (st'.loop f2 tm ps2 a2 b2 d2)) (.lp ts2 f2 ps2 a2 b2 st') (by simp) (by simp) (fun h => h)
              (fun hK hH hw => ⟨l, tm, d2, hφ2, p2, hw, VRepL.mono hK hH p4⟩)
            rw [← getO_set hid2, eH] at u1 u2 u3
            have hend : ∀ j : Option Code, (st' = match j with | none => .ready | some c => .done c) → (Instr.endRound l j).run P w2 = .ok (.bool st'.go) (w2.putObj l (.loop (st'.loop f2 tm ps2 a2 b2 d2))) := by
              intro j hj
              have := run_endRound (P := P) j p3
              rw [this, hj]
              cases j <;> rfl
            have hsteps : Steps P (lone (b.atR act2 k2) (c :: cs) w2) (lone (c.finish (.bool st'.go)) cs (w2.putObj l (.loop (st'.loop f2 tm ps2 a2 b2 d2)))) := by
              unfold endSt at e2
              split at e2
              · simp at e2; subst e2
                exact .one (stepR_round_end rfl rfl (hend none rfl))
              · simp at e2; subst e2
                exact .one (stepR_round_ret rfl rfl (hend (some .ret) rfl))
              · rename_i j k
                split at e2
                · rename_i hx
                  simp at e2; subst e2
                  exact .one (stepR_round_exit rfl rfl hx (hend (some (.exit j)) rfl))
                · cases e2
              · cases e2
            refine ⟨.returned (.bool st'.go), _, ⟨rfl, φ2, u1, s2r.ext.kb.trans u2, s2r.ext.kh.trans u3⟩, ?_⟩
            rw [hb0]
            exact stepsIn_of hfen ((s1s.trans (.head (stepR_beginRound rfl hbeg) s2s)).trans hsteps)
          · cases he
        · cases he
      · cases he
    · cases he
  · cases he
end
end Go.Abs
/- Loops over functions: the iterator walked in the caller's place. -/
set_option linter.unusedVariables false
set_option linter.unusedSimpArgs false
set_option linter.unusedSectionVars false
namespace Go.Abs
open Go.RowKit

/-- From here on iterator g, called by a loop of function f whose record is object lp, goes on to its end, and then f behind the loop (k) to its own. -/
def GoesG (P : Program) (C : C0) (f g : FuncId) (lp : Nat) (k : List Item) (todo : List Item) (ts : List AV) (h : Heap) (rows : List Ob) (r : AV) : Prop :=
  ∀ (X : Bs) (φ : Nat → Value) (a : Act) (w : World), SRel X C ⟨ts, h, 0, [], []⟩ φ a w → a.defers = [] → ∀ (b2 : Frame), b2.fn = g → b2.kind = .normal → b2.roundOf = none →
    ∀ (l : Nat) (a1 : Act), φ lp = .func (.yield l) #[] a1.tmps → getO h lp ≠ .unborn → Mk (getO h) φ a1.defers → ∀ (b : Frame) (cs : List Frame), b.fn = f → b.kind = .normal → b.roundOf = none →
    ∃ v w' fr, ARes C rows r (.returned v) w' ∧ Steps P (lone (b2.atR a todo) (b.atR a1 (.inRangeFunc l :: k) :: cs) w) (lone fr cs w') ∧ fr.fn = f ∧ fr.leaving P w' (.returned v)

/-- From a cut to a cut, within an iterator. -/
def runCutG (P : Program) (E : Env) (n : Nat) (scr : Script) (live keep : List Nat) (lp : Nat) (todo : List Item) (ts : List AV) (h : Heap) : Option (List Item × List AV × Heap × Nat × List Prop) :=
  match runCut P E n scr live keep todo ts h, idx lp keep with
  | some (todo', ts', h', obl), some lp' => some (todo', ts', h', lp', obl)
  | _, _ => none

/-- From a cut within an iterator to the end of the loop. -/
def jumpOf : LSt → List Item
  | .done c => [.code c]
  | _ => []
def LSt.notBusy : LSt → Bool
  | .busy => false
  | _ => true
def runEndG (P : Program) (E : Env) (n : Nat) (scr : Script) (lp : Nat) (todo : List Item) (ts : List AV) (h : Heap) : Option (List Item × List AV × Heap × List Prop) :=
  match arun P E n todo ⟨ts, h, 0, scr, []⟩ with
  | some (todo', s') => if endsR todo' && dfStay h s'.heap then (match getO s'.heap lp with
    | .lp ts1 _ _ _ _ st => if st.notBusy then some (jumpOf st, ts1, s'.heap.set lp .dead, s'.obl) else none
    | _ => none) else none
  | none => none

section
variable {P : Program} {E : Env} {X : Bs} {C : C0} {f g : FuncId}

theorem goesG_cut (hB : Base P E C) {n : Nat} {scr : Script} {live keep : List Nat} {lp lp' : Nat} {k todo todo' : List Item} {ts ts' : List AV} {h h' : Heap} {obl : List Prop} {rows : List Ob} {r : AV}
    (he : runCutG P E n scr live keep lp todo ts h = some (todo', ts', h', lp', obl)) (hob : All obl) (hg : GoesG P C f g lp' k todo' ts' h' rows r) : GoesG P C f g lp k todo ts h rows r := by
  intro X φ a w hs hd b2 hf2 hk2 hro2 l a1 hφ hlp hm b cs hf hk hro
  unfold runCutG at he
  split at he
  · rename_i todo1 ts1 h1 obl1 lp1 e1 e2
    simp at he
    obtain ⟨rfl, rfl, rfl, rfl, rfl⟩ := he
    unfold runCut at e1
    split at e1
    · rename_i todo1 s1 h1
      split at e1
      · rename_i hdf
        split at e1
        · rename_i ts1 h1' hc
          simp at e1
          obtain ⟨rfl, rfl, rfl, rfl⟩ := e1
          have hs0 : SRel ⟨getO h, φ, w⟩ C ⟨ts, h, 0, scr, []⟩ φ a w := hs.rebase
          obtain ⟨φ', a', w', g1, g2, g3⟩ := arun_sound hB n todo _ _ _ h1 hob φ a w hs0 b2 (b.atR a1 (.inRangeFunc l :: k) :: cs)
          have g4 : SRel ⟨getO h, φ, w⟩ C ⟨s1.tmps, s1.heap, 0, [], []⟩ φ' a' w' := g1
          obtain ⟨c1, c2⟩ := canon_sound (cnt' := 0) (scr' := []) (ob' := []) hc g4
          have hkk := idx_some e2
          obtain ⟨v, w'', fr, k1, k2, k3, k4⟩ := hg _ _ a' w' c1 (by rw [g2, hd]) b2 hf2 hk2 hro2 l a1 (by simp only [φkeep, hkk]; exact (g1.ext.kh.val lp hlp).trans hφ)
            (kept_ob g4.rel c2 hkk (g1.ext.kh.born lp hlp)).1 (hm.kept hdf g1.ext.kh.val c2) b cs hf hk hro
          exact ⟨v, w'', fr, k1, g3.trans k2, k3, k4⟩
        · cases e1
      · cases e1
    · cases e1
  · cases he

theorem goesG_end (hB : Base P E C) {fnG : Func} (hfnG : P.funcs[g]? = some fnG) (hres : fnG.results.toList = []) {n : Nat} {scr : Script} {lp : Nat} {k todo jump : List Item} {ts ts' : List AV} {h h' : Heap} {obl : List Prop} {rows : List Ob} {r : AV}
    (he : runEndG P E n scr lp todo ts h = some (jump, ts', h', obl)) (hob : All obl) (hg : Goes P C f (jump ++ k) ts' h' rows r) : GoesG P C f g lp k todo ts h rows r := by
  intro X φ a w hs hd b2 hf2 hk2 hro2 l a1 hφ hlp hm b cs hf hk hro
  unfold runEndG at he
  split at he
  · rename_i todo1 s1 h1
    split at he
    · rename_i hends
      rw [Bool.and_eq_true] at hends
      obtain ⟨hends, hstay⟩ := hends
      split at he
      · rename_i ts1 f1 ps1 as1 bd1 st e1
        split at he
        · rename_i hnb
          simp at he
          obtain ⟨rfl, rfl, rfl, rfl⟩ := he
          have hs0 : SRel ⟨getO h, φ, w⟩ C ⟨ts, h, 0, scr, []⟩ φ a w := hs.rebase
          obtain ⟨φ', a', w1, g1, g2, g3⟩ := arun_sound hB n todo _ _ _ h1 hob φ a w hs0 b2 (b.atR a1 (.inRangeFunc l :: k) :: cs)
          have hφ' : φ' lp = .func (.yield l) #[] a1.tmps := (g1.ext.kh.val lp hlp).trans hφ
          -- the iterator leaves
          have hret : ∃ fr : Frame, step P (lone (b2.atR a' todo1) (b.atR a1 (.inRangeFunc l :: k) :: cs) w1) = .next (lone fr (b.atR a1 (.inRangeFunc l :: k) :: cs) w1) ∧ fr.leaving P w1 (.returned (.tuple #[])) := by
            have hres' : (results fnG a'.tmps).run P w1 = .ok (.tuple #[]) w1 := by
              have := results_run (P := P) (fn := fnG) (tmps := a'.tmps) (w := w1) (vs := []) (by rw [hres]; simp)
              exact this
            cases todo1 with
            | nil => exact ⟨_, stepR_end hro2, rfl, by show a'.defers = []; rw [g2, hd], hk2, fnG, by show P.funcs[b2.fn]? = _; rw [hf2]; exact hfnG, hres'⟩
            | cons it rest =>
              have : it = .code .ret := by
                unfold endsR at hends
                split at hends
                · rename_i e; cases e
                · rename_i e; cases e; rfl
                · cases hends
              subst this
              exact ⟨_, stepR_ret hro2, rfl, by show a'.defers = []; rw [g2, hd], hk2, fnG, by show P.funcs[b2.fn]? = _; rw [hf2]; exact hfnG, hres'⟩
          obtain ⟨fr, hst, hleave⟩ := hret
          have hback : step P (lone fr (b.atR a1 (.inRangeFunc l :: k) :: cs) w1) = .next (lone (b.atR a1 (.endRangeFunc l :: k)) cs w1) := by
            rw [← finish_atR_inRangeFunc l (.tuple #[])]; exact step_leave_returned hleave
          -- the loop ends
          have ho := g1.rel.obj lp
          rw [e1] at ho
          obtain ⟨l1, tm1, d1, m1, m2, m3, m4⟩ := ho
          rw [hφ'] at m1
          injection m1 with m1 _ m1'
          injection m1 with m1
          subst m1 m1'
          have hend := run_endLoop (P := P) m3 (by cases st <;> simp [LSt.loop, LSt.notBusy] at hnb ⊢)
          have hlt := getO_lt e1 (by simp)
          obtain ⟨r1, r2, r3⟩ := rel_lp g1.rel e1 hφ' (.loop { st.loop f1 a1.tmps ps1 as1 bd1 d1 with state := .exhausted }) .dead (by simp) (by simp) (fun h => h) (fun _ _ _ => trivial)
          rw [← getO_set hlt] at r1 r2 r3
          have hj : ((st.loop f1 a1.tmps ps1 as1 bd1 d1).pending.map Item.code).toList = jumpOf st := by cases st <;> rfl
          have hs2 : SRel ⟨getO (s1.heap.set lp .dead), φ', w1.putObj l (.loop { st.loop f1 a1.tmps ps1 as1 bd1 d1 with state := .exhausted })⟩ C ⟨ts1, s1.heap.set lp .dead, 0, [], []⟩ φ' a1 (w1.putObj l (.loop { st.loop f1 a1.tmps ps1 as1 bd1 d1 with state := .exhausted })) := by
            refine ⟨r1, by have := m4.length; simpa using this.symm, fun t ht => ?_, fun t ht => ?_, .refl _ _ _ _⟩
            · have ht' : t < ts1.length := ht
              obtain ⟨v, q1, q2⟩ := m4.get t (x := ts1[t]) (by simp [ht'])
              have hv : a1.tmps.getD t undef = v := by
                rw [Array.getD_eq_getD_getElem?]
                have : a1.tmps[t]? = some v := by simpa using q1
                rw [this]; rfl
              rw [hv]
              have hq := q2.mono r2 r3
              show VRep _ _ _ _ (ts1.getD t .junk) v
              simpa [ht'] using hq
            · show ts1.getD t .junk = .junk
              rw [List.getD_eq_getElem?_getD, List.getElem?_eq_none ht]; rfl
          have hmk : Mk (getO (s1.heap.set lp .dead)) φ' a1.defers := by
            have hm1 := hm.stay hstay g1.ext.kh.val
            refine ⟨fun d hd' => ?_, hm1.2⟩
            obtain ⟨id, r0, q1, q2, q3⟩ := hm1.1 d hd'
            refine ⟨id, r0, ?_, q2, q3⟩
            have hne : id ≠ lp := fun e => by rw [e, e1] at q1; cases q1
            rw [getO_set hlt]
            simp only [upd1, if_neg hne]; exact q1
          obtain ⟨v, w'', fr', k1, k2, k3, k4⟩ := hg _ φ' a1 _ hs2 hmk b cs hf hk hro
          refine ⟨v, w'', fr', k1, g3.trans (.head hst (.head hback (.head (stepR_endRangeFunc hend) ?_))), k3, k4⟩
          rw [hj]; exact k2
        · cases he
      · cases he
    · cases he
  · cases he

/-- A loop over a function. -/
theorem goes_range (hB : Base P E C) {go : Operand} {gid : FuncId} {caps ts ts0 : List AV} {h : Heap} {fnG : Func} {cG : Code} {ps : Array Tmp} {asg bdy : Code} {k : List Item} {rows : List Ob} {r : AV} {m : Nat}
    (hgo : rdF (fun t => ts.getD t .junk) go = .fn gid caps) (hfnG : P.funcs[gid]? = some fnG) (hbG : fnG.body = some cG) (hnm : (fnG.name == "runtime.NumGoroutine") = false) (hm : fnG.ntmps - (caps.length + 1) = m)
    (hborn : bornAll (getO h) (List.range h.length) = true)
    (hg : GoesG P C f gid (h.length + 1) k [.code cG] ((.yld (h.length + 1) (List.range (h.length + 2)) :: caps) ++ junks m) (h ++ [.df, .lp ts f ps.toList asg bdy .ready]) rows r) :
    Goes P C f (.code (.rangeFunc go ps asg bdy) :: k) ts h rows r := by
  intro X φ a w hs hd b cs hf hk hro
  have hgv := FRel.eval (tfR := fun t => ts.getD t .junk) hs (fun _ => .inr rfl) go
  rw [hgo] at hgv
  obtain ⟨vcaps, hgv, hcaps⟩ := hgv.inv_fn
  -- the loop's blocks
  have hw1 := run_enterLoop_outer (P := P) (w := w) b.fn a.tmps ps asg bdy
  generalize hrec : Loop.mk .ready none b.fn a.tmps ps asg bdy w.heap.size = rec at hw1
  have hrec' : rec = LSt.ready.loop f a.tmps ps.toList asg bdy w.heap.size := by rw [← hrec, ← hf]; simp [LSt.loop]
  obtain ⟨W1, hW1⟩ : ∃ W1, W1 = ((w.alloc (.deferred (some []))).alloc (.loop rec)) := ⟨_, rfl⟩
  rw [← hW1] at hw1
  have hres : (resolve a.eval (rangeCall go (w.heap.size + 1)) 0).run P W1 = .ok { target := .fn (.func gid) vcaps.toArray, args := #[.func (.yield (w.heap.size + 1)) #[] #[]] } W1 := by
    simp only [resolve, hgv]
    simp [go_sem]
  have hinv : (invoke (.fn (.func gid) vcaps.toArray) #[.func (.yield (w.heap.size + 1)) #[] #[]]).run P W1 = .ok (.enter gid (#[.func (.yield (w.heap.size + 1)) #[] #[]] ++ vcaps.toArray)) W1 := by
    have hen : Enters P gid := ⟨fnG, cG, hfnG, hnm, hbG⟩
    simp only [invoke, run_callFunc hen]
  -- the new objects
  have hu : ∀ n, getO h (h.length + n) = .unborn := fun n => getO_fresh h n
  have hu0 : getO h h.length = .unborn := hu 0
  obtain ⟨r1, r2⟩ := hs.rel.alloc (o := .df) (v := .pointer (some ⟨w.heap.size, 0, none⟩)) (x := .deferred (some [])) hu0 (by simp) (fun b hb => by simpa [blk] using hb.symm)
    (fun hK => ⟨w.heap.size, rfl, hs.rel.below.size, by show (w.heap.push _)[w.heap.size]? = _; simp⟩)
  have r3 : KeepH (getO h) (upd1 (getO h) h.length .df) φ (upd1v φ h.length (.pointer (some ⟨w.heap.size, 0, none⟩))) := .new hu0 .df (by simp) _
  have hu1 : upd1 (getO h) h.length .df (h.length + 1) = .unborn := by simp only [upd1, if_neg (show ¬ h.length + 1 = h.length by omega)]; exact hu 1
  have hsz1 : (w.alloc (.deferred (some []))).heap.size = w.heap.size + 1 := by simp
  obtain ⟨q1, q2⟩ := r1.alloc (o := .lp ts f ps.toList asg bdy .ready) (v := .func (.yield (w.heap.size + 1)) #[] a.tmps) (x := .loop rec) hu1 (by simp) (fun b hb => by rw [hsz1]; simpa [blk] using hb.symm)
    (fun hK => by
      have kh2 : KeepH (upd1 (getO h) h.length .df) (upd1 (upd1 (getO h) h.length .df) (h.length + 1) (.lp ts f ps.toList asg bdy .ready)) (upd1v φ h.length (.pointer (some ⟨w.heap.size, 0, none⟩))) (upd1v (upd1v φ h.length (.pointer (some ⟨w.heap.size, 0, none⟩))) (h.length + 1) (.func (.yield (w.heap.size + 1)) #[] a.tmps)) := .new hu1 (.lp ts f ps.toList asg bdy .ready) (by simp) _
      refine ⟨w.heap.size + 1, a.tmps, w.heap.size, rfl, by have := hs.rel.below.size; omega, ?_, ?_⟩
      · rw [hrec']
        show ((w.alloc (.deferred (some []))).heap.push _)[w.heap.size + 1]? = _
        have e : w.heap.size + 1 = (w.alloc (.deferred (some []))).heap.size := hsz1.symm
        rw [e]; exact Array.getElem?_push_size
      · have : ∀ (l : List AV) (vs : List Value), l.length = vs.length → (∀ t, t < l.length → VRep (getO h) φ (okB C (getO h) φ w) w (l.getD t .junk) (vs.getD t undef)) → VRepL (getO h) φ (okB C (getO h) φ w) w l vs := by
          intro l
          induction l with
          | nil => intro vs hl _; cases vs with
            | nil => exact .nil
            | cons v vs => simp at hl
          | cons x l ih => intro vs hl ht; cases vs with
            | nil => simp at hl
            | cons v vs => exact .cons (by simpa using ht 0 (by simp)) (ih vs (by simpa using hl) (fun t h => by simpa using ht (t + 1) (by simpa using h)))
        have hv := this ts a.tmps.toList (by have := hs.size; simpa using this.symm) (fun t ht => by
          have := hs.tmp t ht
          rw [Array.getD_eq_getD_getElem?] at this
          simpa [List.getD_eq_getElem?_getD] using this)
        exact (hv.mono r2 r3).mono hK kh2)
  have q3 : KeepH (upd1 (getO h) h.length .df) (upd1 (upd1 (getO h) h.length .df) (h.length + 1) (.lp ts f ps.toList asg bdy .ready)) (upd1v φ h.length (.pointer (some ⟨w.heap.size, 0, none⟩))) (upd1v (upd1v φ h.length (.pointer (some ⟨w.heap.size, 0, none⟩))) (h.length + 1) (.func (.yield (w.heap.size + 1)) #[] a.tmps)) := .new hu1 (.lp ts f ps.toList asg bdy .ready) (by simp) _
  have hH : getO (h ++ [.df, .lp ts f ps.toList asg bdy .ready]) = upd1 (upd1 (getO h) h.length .df) (h.length + 1) (.lp ts f ps.toList asg bdy .ready) := by
    rw [append_get]; rfl
  rw [← hW1, ← hH] at q1 q2
  rw [← hH] at q3
  have hkb := r2.trans q2
  have hkh := r3.trans q3
  -- the iterator's frame
  let b2 : Frame := { (default : Frame) with fn := gid, kind := .normal, roundOf := none }
  let a2 : Act := { tmps := (#[.func (.yield (w.heap.size + 1)) #[] #[]] ++ vcaps.toArray) ++ Array.replicate (fnG.ntmps - (#[Value.func (.yield (w.heap.size + 1)) #[] #[]] ++ vcaps.toArray).size) undef, defers := [] }
  have henter : Frame.enter P gid (#[.func (.yield (w.heap.size + 1)) #[] #[]] ++ vcaps.toArray) .normal = b2.atR a2 [.code cG] := by
    simp [Frame.enter, Frame.atR, hfnG, hbG, b2, a2]
  have hlen := hcaps.length
  have hv2 : VRepL (getO (h ++ [.df, .lp ts f ps.toList asg bdy .ready])) (upd1v (upd1v φ h.length (.pointer (some ⟨w.heap.size, 0, none⟩))) (h.length + 1) (.func (.yield (w.heap.size + 1)) #[] a.tmps)) (okB C (getO (h ++ [.df, .lp ts f ps.toList asg bdy .ready])) (upd1v (upd1v φ h.length (.pointer (some ⟨w.heap.size, 0, none⟩))) (h.length + 1) (.func (.yield (w.heap.size + 1)) #[] a.tmps)) W1) W1
      (.yld (h.length + 1) (List.range (h.length + 2)) :: caps) (.func (.yield (w.heap.size + 1)) #[] #[] :: vcaps) := by
    refine .cons (.yld (fun j hj => ?_) (show _ = Value.func _ #[] a.tmps from by simp [upd1v])) ((RepL.mono hkb hcaps).v)
    have hj2 : j < h.length + 2 := by
      rcases List.mem_cons.1 hj with rfl | hj
      · omega
      · simpa using hj
    rw [hH]
    by_cases e1 : j = h.length + 1
    · simp [upd1, e1]
    · by_cases e2 : j = h.length
      · simp [upd1, e2]
      · simp only [upd1, if_neg e1, if_neg e2]
        exact bornAll_get (k := j) hborn (by rw [List.getElem?_range (by omega)])
  have hs2 : SRel ⟨getO (h ++ [.df, .lp ts f ps.toList asg bdy .ready]), (upd1v (upd1v φ h.length (.pointer (some ⟨w.heap.size, 0, none⟩))) (h.length + 1) (.func (.yield (w.heap.size + 1)) #[] a.tmps)), W1⟩ C ⟨(.yld (h.length + 1) (List.range (h.length + 2)) :: caps) ++ junks m, h ++ [.df, .lp ts f ps.toList asg bdy .ready], 0, [], []⟩
      (upd1v (upd1v φ h.length (.pointer (some ⟨w.heap.size, 0, none⟩))) (h.length + 1) (.func (.yield (w.heap.size + 1)) #[] a.tmps)) a2 W1 := by
    refine ⟨q1, ?_, fun t ht => ?_, fun t ht => ?_, .refl _ _ _ _⟩
    · have e1 : a2.tmps.size = 1 + vcaps.length + (fnG.ntmps - (1 + vcaps.length)) := by simp [a2]; omega
      have e2 : ((AV.yld (h.length + 1) (List.range (h.length + 2)) :: caps) ++ junks m).length = caps.length + 1 + m := by simp [junks_length]; omega
      rw [e1]; show _ = ((AV.yld (h.length + 1) (List.range (h.length + 2)) :: caps) ++ junks m).length
      rw [e2, ← hm, hlen]; omega
    · show VRep _ _ _ _ (((AV.yld (h.length + 1) (List.range (h.length + 2)) :: caps) ++ junks m).getD t .junk) (a2.tmps.getD t undef)
      rcases Nat.lt_or_ge t (caps.length + 1) with hlt | hge
      · obtain ⟨v, m1, m2⟩ := hv2.get t (x := (AV.yld (h.length + 1) (List.range (h.length + 2)) :: caps)[t]) (by simp [hlt])
        have e1 : ((AV.yld (h.length + 1) (List.range (h.length + 2)) :: caps) ++ junks m).getD t .junk = (AV.yld (h.length + 1) (List.range (h.length + 2)) :: caps)[t] := by
          rw [List.getD_eq_getElem?_getD, List.getElem?_append_left (by simpa using hlt), List.getElem?_eq_getElem (by simpa using hlt)]; rfl
        have e2 : a2.tmps.getD t undef = v := by
          have : a2.tmps[t]? = (Value.func (.yield (w.heap.size + 1)) #[] #[] :: vcaps)[t]? := by
            show ((#[Value.func (.yield (w.heap.size + 1)) #[] #[]] ++ vcaps.toArray) ++ _)[t]? = _
            rw [Array.getElem?_append_left (by simp; omega)]
            have : (#[Value.func (.yield (w.heap.size + 1)) #[] #[]] ++ vcaps.toArray) = (Value.func (.yield (w.heap.size + 1)) #[] #[] :: vcaps).toArray := by apply Array.ext'; simp
            rw [this]; simp
          rw [Array.getD_eq_getD_getElem?, this, m1]; rfl
        rw [e1, e2]; exact m2
      · have e1 : ((AV.yld (h.length + 1) (List.range (h.length + 2)) :: caps) ++ junks m).getD t .junk = .junk := by
          rw [List.getD_eq_getElem?_getD, List.getElem?_append_right (by simpa using hge), ← List.getD_eq_getElem?_getD]
          exact junks_get _ _
        rw [e1]; exact .junk _
    · show ((AV.yld (h.length + 1) (List.range (h.length + 2)) :: caps) ++ junks m).getD t .junk = .junk
      rw [List.getD_eq_getElem?_getD, List.getElem?_eq_none ht]; rfl
  have hmk : Mk (getO (h ++ [.df, .lp ts f ps.toList asg bdy .ready])) (upd1v (upd1v φ h.length (.pointer (some ⟨w.heap.size, 0, none⟩))) (h.length + 1) (.func (.yield (w.heap.size + 1)) #[] a.tmps))
      ([{ target := .collected w.heap.size, args := #[] }] ++ a.defers) := by
    have hold : ∀ d ∈ a.defers, ∃ id r, id < h.length ∧ getO h id = .df ∧ φ id = .pointer (some ⟨r, 0, none⟩) ∧ r < w.heap.size ∧ d = { target := .collected r, args := #[] } := fun d hd' => by
      obtain ⟨id, r0, m1, m2, m3⟩ := hd.1 d hd'
      refine ⟨id, r0, getO_lt m1 (by simp), m1, m2, ?_, m3⟩
      exact ((hs.rel.obj id).block (by show (getO h id).live = true; rw [m1]; rfl) (by rw [m2]; rfl)).1
    refine ⟨fun d hd' => ?_, List.pairwise_cons.2 ⟨fun d hd' e => ?_, hd.2⟩⟩
    · rcases List.mem_append.1 hd' with hd' | hd'
      · simp at hd'; subst hd'
        exact ⟨h.length, w.heap.size, by rw [hH]; simp [upd1], by simp [upd1v], rfl⟩
      · obtain ⟨id, r0, m0, m1, m2, _, m3⟩ := hold d hd'
        refine ⟨id, r0, ?_, ?_, m3⟩
        · rw [hH]; simp only [upd1, if_neg (show ¬ id = h.length + 1 by omega), if_neg (show ¬ id = h.length by omega)]; exact m1
        · simp only [upd1v, if_neg (show ¬ id = h.length + 1 by omega), if_neg (show ¬ id = h.length by omega)]; exact m2
    · obtain ⟨id, r0, _, _, _, m4, m3⟩ := hold d hd'
      rw [m3] at e
      injection e with e _
      injection e with e
      omega
  have hstep := stepR_rangeFunc (P := P) (b := b) (a := a) (k := k) (cs := cs) (w := w) (g := go) (ps := ps) (assign := asg) (body := bdy) (by rw [hro]; exact hw1) hres hinv
  obtain ⟨v, w', fr, k1, k2, k3, k4⟩ := hg _ _ a2 W1 hs2 rfl b2 rfl rfl rfl (w.heap.size + 1) { a with defers := [{ target := .collected w.heap.size, args := #[] }] ++ a.defers } (by simp [upd1v])
    (by rw [hH]; simp [upd1]) hmk b cs hf hk hro
  refine ⟨v, w', fr, k1, .head hstep ?_, k3, k4⟩
  rw [henter]; exact k2
end
end Go.Abs
/- Loops over functions, as a program prints them. -/
set_option linter.unusedVariables false
set_option linter.unusedSimpArgs false
set_option linter.unusedSectionVars false
namespace Go.Abs
open Go.RowKit

def isRF : List Item → Bool
  | .code (.rangeFunc _ _ _ _) :: _ => true
  | _ => false
def rfGo : List Item → Operand
  | .code (.rangeFunc g _ _ _) :: _ => g
  | _ => .tmp 0
def rfPs : List Item → List Tmp
  | .code (.rangeFunc _ ps _ _) :: _ => ps.toList
  | _ => []
def rfAsg : List Item → Code
  | .code (.rangeFunc _ _ a _) :: _ => a
  | _ => .skip
def rfBdy : List Item → Code
  | .code (.rangeFunc _ _ _ b) :: _ => b
  | _ => .skip
def rfK : List Item → List Item
  | .code (.rangeFunc _ _ _ _) :: k => k
  | _ => []

section
variable {P : Program} {E : Env} {C : C0} {f g : FuncId}

theorem goes_rangeT (hB : Base P E C) {todo : List Item} {gid : FuncId} {caps ts ts2 : List AV} {h h2 : Heap} {fnG : Func} {cG : Code} {rows : List Ob} {r : AV} {m lp : Nat}
    (ht : isRF todo = true) (hgo : rdF (fun t => ts.getD t .junk) (rfGo todo) = .fn gid caps) (hfnG : P.funcs[gid]? = some fnG) (hbG : fnG.body = some cG) (hnm : (fnG.name == "runtime.NumGoroutine") = false) (hm : fnG.ntmps - (caps.length + 1) = m)
    (hborn : bornAll (getO h) (List.range h.length) = true)
    (e1 : ts2 = (.yld (h.length + 1) (List.range (h.length + 2)) :: caps) ++ junks m) (e2 : h2 = h ++ [.df, .lp ts f (rfPs todo) (rfAsg todo) (rfBdy todo) .ready]) (e3 : lp = h.length + 1)
    (hg : GoesG P C f gid lp (rfK todo) [.code cG] ts2 h2 rows r) : Goes P C f todo ts h rows r := by
  subst e1 e2 e3
  match todo, ht, hgo, hg with
  | .code (.rangeFunc go ps asg bdy) :: k, _, hgo, hg => exact goes_range (ts0 := []) hB hgo hfnG hbG hnm hm hborn hg

theorem goesG_eqS {lp : Nat} {k todo : List Item} {ts ts' : List AV} {h h' : Heap} {rows : List Ob} {r : AV} (e1 : ts = ts') (e2 : h = h') (hg : GoesG P C f g lp k todo ts' h' rows r) : GoesG P C f g lp k todo ts h rows r := e1 ▸ e2 ▸ hg

theorem goesG_freeze {lp : Nat} {k : List Item} {l : List Nat} {todo : List Item} {rows : List Ob} {r : AV} {ts : List AV} : ∀ {h h' : Heap}, freezeL l h = some h' → GoesG P C f g lp k todo ts h' rows r → GoesG P C f g lp k todo ts h rows r := by
  induction l with
  | nil => intro h h' e hg; simp [freezeL] at e; subst e; exact hg
  | cons id l ih =>
    intro h h' e hg
    simp only [freezeL] at e
    split at e
    · rename_i T s xs hx
      have hid : id < h.length := by
        rcases Nat.lt_or_ge id h.length with hl | hl
        · exact hl
        · have : getO h id = .unborn := by simp [getO, List.getElem?_eq_none hl]
          rw [this] at hx; cases hx
      intro X φ a w hs hd b2 hf2 hk2 hro2 l' a1 hφ hlp hm b cs hf hk hro
      obtain ⟨r1, r2, r3⟩ := Rel.freezeRow hs.rel hx
      have hs' : SRel X C ⟨ts, h.set id (.fro xs), 0, [], []⟩ φ a w := by
        unfold SRel
        rw [getO_set hid]
        exact ⟨r1, hs.size, fun t ht => VRep.mono r2 r3 (hs.tmp t ht), hs.out, ⟨hs.ext.kb.trans r2, hs.ext.kh.trans r3⟩⟩
      have hd' : Mk (getO (h.set id (.fro xs))) φ a1.defers := by
        refine ⟨fun d hm' => ?_, hm.2⟩
        obtain ⟨k, r, h1, h2, h3⟩ := hm.1 d hm'
        refine ⟨k, r, ?_, h2, h3⟩
        rw [getO_set hid]
        have hne : k ≠ id := fun ek => by rw [ek, hx] at h1; cases h1
        simp only [upd1, if_neg hne]; exact h1
      exact ih e hg X φ a w hs' hd b2 hf2 hk2 hro2 l' a1 hφ (by rw [getO_set hid]; simp only [upd1]; split <;> simp [hlp]) hd' b cs hf hk hro
    · cases e
end
end Go.Abs
/- Flags of temporaries dropped at a cut. -/
set_option linter.unusedVariables false
set_option linter.unusedSimpArgs false
set_option linter.unusedSectionVars false
namespace Go.Abs
open Go.RowKit

def plainAt : List Nat → List AV → List AV
  | [], ts => ts
  | t :: l, ts => plainAt l (ts.set t (ts.getD t .junk).plainR)

section
variable {P : Program} {C : C0} {f : FuncId}
theorem goes_plainT {l : List Nat} {todo : List Item} {rows : List Ob} {r : AV} {h : Heap} : ∀ {ts ts' : List AV}, plainAt l ts = ts' → Goes P C f todo ts' h rows r → Goes P C f todo ts h rows r := by
  induction l with
  | nil => intro ts ts' e hg; subst e; exact hg
  | cons t l ih =>
    intro ts ts' e hg
    have hg2 := ih e hg
    intro X φ a w hs hd b cs hf hk hro
    refine hg2 X φ a w ⟨hs.rel, by simpa using hs.size, fun u hu => ?_, fun u hu => ?_, hs.ext⟩ hd b cs hf hk hro
    · have hu' : u < ts.length := by simpa using hu
      have hv : VRep _ _ _ _ (ts.getD u .junk) (a.tmps.getD u undef) := hs.tmp u hu'
      show VRep (getO h) φ (okB C (getO h) φ w) w ((ts.set t (ts.getD t .junk).plainR).getD u .junk) _
      have e2 : (ts.set t (ts.getD t .junk).plainR).getD u .junk = if t = u then (ts.getD t .junk).plainR else ts.getD u .junk := by
        generalize (ts.getD t .junk).plainR = y
        rw [List.getD_eq_getElem?_getD, List.getElem?_set]
        by_cases ei : t = u
        · subst ei; simp [hu']
        · simp [ei]
      rw [e2]
      split
      · rename_i ei; subst ei; exact plainR_vrep hv
      · exact hv
    · have : (ts.set t (ts.getD t .junk).plainR).length ≤ u := hu
      show (ts.set t (ts.getD t .junk).plainR).getD u .junk = .junk
      rw [List.getD_eq_getElem?_getD, List.getElem?_eq_none this]; rfl
end
end Go.Abs
