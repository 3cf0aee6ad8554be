/- Regions that draw their order: whatever order is drawn, the end is that of the text's order. -/
import Derived.Test.YteocckoglkbonaaDoorE17
set_option linter.unusedVariables false
set_option linter.unusedSimpArgs false
set_option linter.unusedSectionVars false
namespace Go.Abs
open Go.RowKit

section draw
variable {P : Program} {E : Env} {C : C0}

def repT (n : Nat) (D : Nat → Bool) (es : List Ev) (f : Nat → AV) : Nat → AV := rep (WT n) D 0 es f
def repI (D : Nat → Bool) (es : List Ev) (f : SH) : SH := rep WI D 0 es f

/-- What 'runD' tells of each operation. -/
structure Told (P : Program) (E : Env) (ops : List Oper) (n : Nat) (tf0 : Nat → AV) (h0 : SH) (es : List Ev) (k : Nat) (o : Oper) (e : Ev) (fin : List Prop) : Prop where
  some : ∃ (sk : St) (r : WR) (cnt : Nat) (scr : Script), (fun t => sk.tmps.getD t .junk) = rep (WT n) (fun _ => true) 0 (es.take k) tf0 ∧ getO sk.heap = rep WI (fun _ => true) 0 (es.take k) h0 ∧
    coreA P E ops o (restT e.rT (fun t => sk.tmps.getD t .junk)) (restI e.rI (getO sk.heap)) sk.heap.length cnt scr = some r ∧
    e.rI = readsI e.rT (fun t => sk.tmps.getD t .junk) ∧ e.dst = o.dst ∧ e.val = r.val ∧ e.wI = r.upd ++ news sk.heap.length r.new ∧ (All fin → All r.obl)

theorem applyW_T (s : St) (d : Option Tmp) (r : WR) : (fun t => (applyW s d r).tmps.getD t .junk) = putF s.tmps.length (fun t => s.tmps.getD t .junk) d r.val := putT_get _ _ _
theorem applyW_H (s : St) (d : Option Tmp) (r : WR) (hu : updOK s.heap.length r.upd = true) : getO (applyW s d r).heap = updS (getO s.heap) (r.upd ++ news s.heap.length r.new) := by
  unfold applyW
  simp only
  rw [append_get, (applyU_get r.upd s.heap hu).1, (applyU_get r.upd s.heap hu).2, updS_append _ _ (getO s.heap), updS_news]

theorem runD_spec {ops : List Oper} (n : Nat) : ∀ (r : List Oper) (s : St) (es : List Ev) (s' : St), s.tmps.length = n → runD P E ops r s = some (es, s') →
    es.length = r.length ∧ s'.tmps.length = n ∧ (All s'.obl → All s.obl) ∧
    (fun t => s'.tmps.getD t .junk) = rep (WT n) (fun _ => true) 0 es (fun t => s.tmps.getD t .junk) ∧ getO s'.heap = rep WI (fun _ => true) 0 es (getO s.heap) ∧
    ∀ k o e, r[k]? = some o → es[k]? = some e → Told P E ops n (fun t => s.tmps.getD t .junk) (getO s.heap) es k o e s'.obl := by
  intro r
  induction r with
  | nil =>
    intro s es s' hn he
    simp [runD] at he
    obtain ⟨rfl, rfl⟩ := he
    exact ⟨rfl, hn, fun h => h, rfl, rfl, fun k o e hk => by simp at hk⟩
  | cons o r ih =>
    intro s es s' hn he
    simp only [runD] at he
    split at he
    · cases he
    · rename_i w hw
      split at he
      · rename_i hu
        split at he
        · cases he
        · rename_i es1 s1 h1
          simp only [Option.some.injEq, Prod.mk.injEq] at he
          obtain ⟨rfl, rfl⟩ := he
          have hlen : (applyW s o.dst w).tmps.length = n := by simp [applyW, putT_length, hn]
          obtain ⟨g1, g2, g3, g4, g5, g6⟩ := ih _ _ _ hlen h1
          have hT := applyW_T s o.dst w
          have hH := applyW_H s o.dst w hu
          have hT' : ∀ l : List Ev, rep (WT n) (fun _ => true) 0 (⟨readsT ops o, readsI (readsT ops o) (fun t => s.tmps.getD t .junk), o.dst, w.val, w.upd ++ news s.heap.length w.new⟩ :: l) (fun t => s.tmps.getD t .junk) =
              rep (WT n) (fun _ => true) 0 l (fun t => (applyW s o.dst w).tmps.getD t .junk) := by
            intro l
            simp only [rep, if_true]
            rw [rep_shift _ l _ 0, hT, hn]
            rfl
          have hH' : ∀ l : List Ev, rep WI (fun _ => true) 0 (⟨readsT ops o, readsI (readsT ops o) (fun t => s.tmps.getD t .junk), o.dst, w.val, w.upd ++ news s.heap.length w.new⟩ :: l) (getO s.heap) =
              rep WI (fun _ => true) 0 l (getO (applyW s o.dst w).heap) := by
            intro l
            simp only [rep, if_true]
            rw [rep_shift _ l _ 0, hH]
            rfl
          refine ⟨by simp [g1], g2, fun h => (All_append.1 (g3 h)).2, by rw [hT', g4], by rw [hH', g5], fun k o' e hk he => ?_⟩
          cases k with
          | zero =>
            simp only [List.getElem?_cons_zero, Option.some.injEq] at hk he
            subst hk he
            exact ⟨s, w, s.cnt, s.scr, by simp [rep], by simp [rep], hw, rfl, rfl, rfl, rfl, fun h => (All_append.1 (g3 h)).1⟩
          | succ k =>
            simp only [List.getElem?_cons_succ] at hk he
            obtain ⟨sk, r0, cnt, scr, q1, q2, q3⟩ := (g6 k o' e hk he).some
            refine ⟨sk, r0, cnt, scr, ?_, ?_, q3⟩
            · rw [q1, List.take_succ_cons, hT']
            · rw [q2, List.take_succ_cons, hH']
      · cases he

theorem restT_congr {rs : List Nat} {f g : Nat → AV} (h : ∀ t ∈ rs, f t = g t) : restT rs f = restT rs g := by
  funext t
  unfold restT
  split
  · rename_i hm; exact h t ((memN_iff t rs).1 hm)
  · rfl
theorem restI_congr {rs : List Nat} {f g : SH} (h : ∀ t ∈ rs, f t = g t) : restI rs f = restI rs g := by
  funext t
  unfold restI
  split
  · rename_i hm; exact h t ((memN_iff t rs).1 hm)
  · rfl

theorem conflict_T {a b : Ev} {t : Nat} (h1 : a.dst = some t) (h2 : t ∈ b.rT ∨ b.dst = some t) : conflict a b = true ∧ conflict b a = true := by
  have m : t ∈ dstL a.dst := by simp [h1, dstL]
  rcases h2 with h2 | h2
  · have := (meets_iff (dstL a.dst) b.rT).2 ⟨t, m, h2⟩
    simp [conflict, this]
  · have m2 : t ∈ dstL b.dst := by simp [h2, dstL]
    have e1 := (meets_iff (dstL a.dst) (dstL b.dst)).2 ⟨t, m, m2⟩
    have e2 := (meets_iff (dstL b.dst) (dstL a.dst)).2 ⟨t, m2, m⟩
    simp [conflict, e1, e2]
theorem conflict_I {a b : Ev} {t : Nat} (h1 : t ∈ ids a.wI) (h2 : t ∈ b.rI ∨ t ∈ ids b.wI) : conflict a b = true ∧ conflict b a = true := by
  rcases h2 with h2 | h2
  · have := (meets_iff (ids a.wI) b.rI).2 ⟨t, h1, h2⟩
    simp [conflict, this]
  · have e1 := (meets_iff (ids a.wI) (ids b.wI)).2 ⟨t, h1, h2⟩
    have e2 := (meets_iff (ids b.wI) (ids a.wI)).2 ⟨t, h2, h1⟩
    simp [conflict, e1, e2]

/-- One more operation. -/
theorem draw_step (hB : Base P E C) {opsA : Array Oper} {s s' : St} {es : List Ev} {bs : List Nat} (hD : runD P E opsA.toList opsA.toList s = some (es, s')) (hbs : befs opsA.toList [] = some bs)
    (hord : orderedAll bs es 0 es = true) (hob : All s'.obl) {D : Nat → Bool} (hcl : Closed opsA.toList D) {i : Nat} {o : Oper} (hoi : opsA.toList[i]? = some o) (hDi : D i = false)
    (hready : ∀ e ∈ o.after.toList, Region.binds .any e = true → D e.on = true) {φ : Nat → Value} {a : Act} {w : World}
    (hs : FRel C s.tmps.length (repT s.tmps.length D es (fun t => s.tmps.getD t .junk)) (repI D es (getO s.heap)) φ a w) {F : Fence} (hF : Wide F) (q : Nat) {next : Act → World → Prop} {Q : Exit → Act → World → Prop}
    (hn : ∀ φ' a' w', FRel C s.tmps.length (repT s.tmps.length (fun j => D j || j == i) es (fun t => s.tmps.getD t .junk)) (repI (fun j => D j || j == i) es (getO s.heap)) φ' a' w' → a'.defers = a.defers → next a' w') :
    TakesIn F q P opsA o next Q a w := by
  obtain ⟨g1, g2, g3, g4, g5, g6⟩ := runD_spec s.tmps.length opsA.toList s es s' rfl hD
  have hilt : i < opsA.toList.length := (List.getElem?_eq_some_iff.1 hoi).1
  have hei : es[i]? = some es[i] := List.getElem?_eq_getElem (by omega)
  generalize hev : es[i] = e at hei
  obtain ⟨sk, r, cnt, scr, q1, q2, q3, q4, q5, q6, q7, q8⟩ := (g6 i o e hoi hei).some
  have ob := q8 hob
  -- conflicts are ordered
  have hbefore : ∀ k e', es[k]? = some e' → k < i → conflict e' e = true → D k = true := by
    intro k e' he' hk hc
    have h1 := orderedAll_spec es 0 hord i e hei
    simp only [Nat.zero_add] at h1
    have h2 := orderedFrom_spec es 0 h1 k e' he' (by omega) hc
    simp only [Nat.zero_add] at h2
    exact closed_bits hbs hcl i k hilt (by simpa [hoi] using hready) h2
  have hbehind : ∀ k e', es[k]? = some e' → i < k → conflict e e' = true → D k = false := by
    intro k e' he' hk hc
    cases hDk : D k with
    | false => rfl
    | true =>
      exfalso
      have hklt : k < opsA.toList.length := by have := (List.getElem?_eq_some_iff.1 he').1; omega
      have h1 := orderedAll_spec es 0 hord k e' he'
      simp only [Nat.zero_add] at h1
      have h2 := orderedFrom_spec es 0 h1 i e hei (by omega) hc
      simp only [Nat.zero_add] at h2
      have hok : opsA.toList[k]? = some opsA.toList[k] := List.getElem?_eq_getElem hklt
      have := closed_bits hbs hcl k i hklt (fun e2 h2 hb => hcl k _ hok hDk e2 (by simpa [hok] using h2) hb) h2
      rw [hDi] at this; cases this
  -- what it sees is what it saw in the text's order
  have seeT : ∀ t, (t ∈ e.rT ∨ e.dst = some t) → repT s.tmps.length D es (fun t => s.tmps.getD t .junk) t = (fun t => sk.tmps.getD t .junk) t := by
    intro t ht
    have e1 : (fun t => sk.tmps.getD t .junk) = rep (WT s.tmps.length) (fun j => decide (j < i)) 0 es (fun t => s.tmps.getD t .junk) := by
      rw [q1]
      have := rep_prefix (WT s.tmps.length) es i 0 (fun t => s.tmps.getD t .junk)
      simp only [Nat.zero_add] at this
      exact this.symm
    rw [e1]
    refine rep_same (WT s.tmps.length) (wr := fun e t => e.dst = some t ∧ t < s.tmps.length) (WT_no s.tmps.length) (WT_yes s.tmps.length) es 0 _ _ (fun k e' he' hw => ?_) rfl
    simp only [Nat.zero_add]
    rcases Nat.lt_trichotomy k i with h | h | h
    · rw [hbefore k e' he' h (conflict_T hw.1 ht).1]; simp [h]
    · subst h; simp [hDi]
    · rw [hbehind k e' he' h (conflict_T hw.1 ht).2]; simp; omega
  have seeI : ∀ t, (t ∈ e.rI ∨ t ∈ ids e.wI) → repI D es (getO s.heap) t = getO sk.heap t := by
    intro t ht
    have e1 : getO sk.heap = rep WI (fun j => decide (j < i)) 0 es (getO s.heap) := by
      rw [q2]
      have := rep_prefix WI es i 0 (getO s.heap)
      simp only [Nat.zero_add] at this
      exact this.symm
    rw [e1]
    refine rep_same WI (wr := fun e t => t ∈ ids e.wI) WI_no WI_yes es 0 _ _ (fun k e' he' hw => ?_) rfl
    simp only [Nat.zero_add]
    rcases Nat.lt_trichotomy k i with h | h | h
    · rw [hbefore k e' he' h (conflict_I hw ht).1]; simp [h]
    · subst h; simp [hDi]
    · rw [hbehind k e' he' h (conflict_I hw ht).2]; simp; omega
  have hcore : coreA P E opsA.toList o (restT e.rT (repT s.tmps.length D es (fun t => s.tmps.getD t .junk))) (restI e.rI (repI D es (getO s.heap))) sk.heap.length cnt scr = some r := by
    rw [restT_congr (fun t ht => seeT t (.inl ht)), restI_congr (fun t ht => seeI t (.inl ht))]
    exact q3
  refine core_sound hB hs (fun t => by unfold restT; split; exact .inr rfl; exact .inl rfl) (fun id => by unfold restI; split; exact .inr rfl; exact .inl rfl) hcore (fun k hk => ?_) ob hF q (fun φ' a' w' h1 h2 => hn φ' a' w' ?_ h2)
  · have hm : sk.heap.length + k ∈ ids e.wI := by
      rw [q7]
      simp only [ids, List.map_append, List.mem_append]
      exact .inr (news_ids _ _ _ hk)
    rw [seeI _ (.inr hm)]
    exact getO_fresh _ _
  · have hTe : putF s.tmps.length (repT s.tmps.length D es (fun t => s.tmps.getD t .junk)) o.dst r.val = repT s.tmps.length (fun j => D j || j == i) es (fun t => s.tmps.getD t .junk) := by
      funext t
      by_cases hw : e.dst = some t ∧ t < s.tmps.length
      · have h1 := rep_write (WT s.tmps.length) (wr := fun e t => e.dst = some t ∧ t < s.tmps.length) (WT_no s.tmps.length) (WT_yes s.tmps.length) (D := fun j => D j || j == i) hw (fun _ => .junk) es i 0 (fun t => s.tmps.getD t .junk) hei (by simp)
          (fun k' e' hk' he' hw' => by
            simp only [Nat.zero_add]
            rw [hbehind k' e' he' hk' (conflict_T hw.1 (.inr hw'.1)).1]
            simp; omega)
        unfold repT
        rw [h1]
        simp only [WT, putF]
        rw [if_pos hw, if_pos ⟨q5 ▸ hw.1, hw.2⟩, q6]
      · have h1 := rep_same (WT s.tmps.length) (wr := fun e t => e.dst = some t ∧ t < s.tmps.length) (WT_no s.tmps.length) (WT_yes s.tmps.length) (D := D) (D' := fun j => D j || j == i) (l := t) es 0 (fun t => s.tmps.getD t .junk) (fun t => s.tmps.getD t .junk)
          (fun k e' he' hw' => by
            simp only [Nat.zero_add]
            by_cases hk : k = i
            · subst hk
              rw [hei] at he'; cases he'
              exact absurd hw' hw
            · simp [hk]) rfl
        unfold repT at h1 ⊢
        rw [← h1]
        simp only [putF]
        rw [if_neg (by rw [← q5]; exact hw)]
    have hIe : newS (updS (repI D es (getO s.heap)) r.upd) sk.heap.length r.new = repI (fun j => D j || j == i) es (getO s.heap) := by
      rw [← updS_news, ← updS_append _ _ (repI D es (getO s.heap)), ← q7]
      funext t
      by_cases hw : t ∈ ids e.wI
      · have h1 := rep_write WI (wr := fun e t => t ∈ ids e.wI) WI_no WI_yes (D := fun j => D j || j == i) hw (repI D es (getO s.heap)) es i 0 (getO s.heap) hei (by simp)
          (fun k' e' hk' he' hw' => by
            simp only [Nat.zero_add]
            rw [hbehind k' e' he' hk' (conflict_I hw (.inr hw')).1]
            simp; omega)
        unfold repI at h1 ⊢
        rw [h1]
        rfl
      · have h1 := rep_same WI (wr := fun e t => t ∈ ids e.wI) WI_no WI_yes (D := D) (D' := fun j => D j || j == i) (l := t) es 0 (getO s.heap) (getO s.heap)
          (fun k e' he' hw' => by
            simp only [Nat.zero_add]
            by_cases hk : k = i
            · subst hk
              rw [hei] at he'; cases he'
              exact absurd hw' hw
            · simp [hk]) rfl
        unfold repI at h1 ⊢
        rw [← h1]
        exact updS_no _ _ _ hw
    rw [← hTe, ← hIe]
    exact h1

theorem count_set : ∀ (l : List Bool) (i : Nat), l[i]? = some false → (l.set i true).count false + 1 = l.count false := by
  intro l
  induction l with
  | nil => intro i h; simp at h
  | cons b l ih =>
    intro i h
    cases i with
    | zero => simp at h; subst h; simp
    | succ i =>
      simp at h
      have := ih i h
      simp only [List.set_cons_succ, List.count_cons]
      omega

/-- A region that draws its order. -/
theorem draw_sound (hB : Base P E C) {opsA : Array Oper} {id : Nat} {F : Fence} (hF : Wide F) (q : Nat) {Q : Exit → Act → World → Prop} {s s' : St} {φ : Nat → Value} {a : Act} {w : World}
    (hs : SRel C s φ a w) (he : runDraw P E opsA.toList s = some s') (hob : All s'.obl) (hn : ∀ φ' a' w', SRel C s' φ' a' w' → a'.defers = a.defers → Q .normal a' w') :
    (Code.region id opsA true).wpIn F q P Q a w := by
  unfold runDraw at he
  split at he
  · rename_i es s1 bs hD hbs
    split at he
    · rename_i hord
      simp at he; subst he
      obtain ⟨g1, g2, g3, g4, g5, g6⟩ := runD_spec s.tmps.length opsA.toList s es s1 rfl hD
      obtain ⟨hb1, _, hb3⟩ := befs_spec opsA.toList [] bs hbs
      -- if nothing is ready all is done
      have hall : ∀ (listed : Array Bool), listed.size = opsA.size → Region.ready .any opsA listed = [] → ∀ i, i < opsA.size → listed.getD i false = true := by
        intro listed hsz hr i
        induction i using Nat.strongRecOn with
        | _ i ih =>
          intro hi
          cases hli : listed.getD i false with
          | true => rfl
          | false =>
            exfalso
            have hoi : opsA.toList[i]? = some opsA[i] := by simp [hi]
            obtain ⟨h4, _⟩ := hb3 i opsA[i] hoi
            simp only [List.length_nil, Nat.zero_add] at h4
            have hm : i ∈ Region.ready .any opsA listed := by
              unfold Region.ready
              rw [List.mem_filter]
              refine ⟨by simpa using hi, ?_⟩
              have hli' : listed.getD i true = false := by
                have hlt : i < listed.size := by omega
                rw [Array.getD_eq_getD_getElem?, Array.getElem?_eq_getElem hlt] at hli ⊢
                simpa using hli
              simp only [hli', Bool.not_false, Bool.true_and, Array.getElem?_eq_getElem hi, Option.map_some, Option.getD_some]
              rw [← Array.all_toList, List.all_eq_true]
              intro e he
              cases hbe : Region.binds .any e with
              | false => simp
              | true =>
                have hlt := h4 e he hbe
                have := ih e.on hlt (by omega)
                simp [this]
            rw [hr] at hm
            simp at hm
      have hfin : ∀ (listed : Array Bool) (φ : Nat → Value) (a' : Act) (w : World), (∀ i, i < opsA.size → listed.getD i false = true) →
          FRel C s.tmps.length (repT s.tmps.length (fun j => listed.getD j false) es (fun t => s.tmps.getD t .junk)) (repI (fun j => listed.getD j false) es (getO s.heap)) φ a' w → SRel C s1 φ a' w := by
        intro listed φ a' w hl hrel
        have e1 : repT s.tmps.length (fun j => listed.getD j false) es (fun t => s.tmps.getD t .junk) = (fun t => s1.tmps.getD t .junk) := by
          rw [g4]
          funext t
          refine rep_same (WT s.tmps.length) (wr := fun e t => e.dst = some t ∧ t < s.tmps.length) (WT_no s.tmps.length) (WT_yes s.tmps.length) es 0 _ _ (fun k e' he' hw => ?_) rfl
          have : k < es.length := (List.getElem?_eq_some_iff.1 he').1
          simp only [Nat.zero_add]
          exact hl k (by rw [g1] at this; simpa using this)
        have e2 : repI (fun j => listed.getD j false) es (getO s.heap) = getO s1.heap := by
          rw [g5]
          funext t
          refine rep_same WI (wr := fun e t => t ∈ ids e.wI) WI_no WI_yes es 0 _ _ (fun k e' he' hw => ?_) rfl
          have : k < es.length := (List.getElem?_eq_some_iff.1 he').1
          simp only [Nat.zero_add]
          exact hl k (by rw [g1] at this; simpa using this)
        unfold SRel
        rw [← e1, ← e2, g2]
        exact hrel
      have key : ∀ (fuel : Nat) (listed : Array Bool) (φ : Nat → Value) (a' : Act) (w : World), listed.size = opsA.size → listed.toList.count false ≤ fuel → Closed opsA.toList (fun j => listed.getD j false) →
          a'.defers = a.defers → FRel C s.tmps.length (repT s.tmps.length (fun j => listed.getD j false) es (fun t => s.tmps.getD t .junk)) (repI (fun j => listed.getD j false) es (getO s.heap)) φ a' w →
          wpAnyIn F q P .any opsA Q fuel listed a' w := by
        intro fuel
        induction fuel with
        | zero =>
          intro listed φ a' w hsz hc hcl hd hrel
          have hl : ∀ i, i < opsA.size → listed.getD i false = true := by
            intro i hi
            have hlt : i < listed.size := by omega
            cases hli : listed.getD i false with
            | true => rfl
            | false =>
              have : false ∈ listed.toList := by
                rw [Array.getD_eq_getD_getElem?, Array.getElem?_eq_getElem hlt] at hli
                simp at hli
                rw [← hli]
                simp
              have := List.count_pos_iff.2 this
              omega
          refine ⟨?_, hn φ a' w (hfin listed φ a' w hl hrel) hd⟩
          unfold Region.ready
          rw [List.filter_eq_nil_iff]
          intro i hi
          simp at hi
          have h1 := hl i hi
          have hlt : i < listed.size := by omega
          have : listed.getD i true = true := by
            rw [Array.getD_eq_getD_getElem?, Array.getElem?_eq_getElem hlt] at h1 ⊢
            simpa using h1
          simp [this]
        | succ fuel ih =>
          intro listed φ a' w hsz hc hcl hd hrel
          refine ⟨fun hr => hn φ a' w (hfin listed φ a' w (hall listed hsz hr) hrel) hd, fun i hi => ?_⟩
          unfold Region.ready at hi
          rw [List.mem_filter] at hi
          obtain ⟨hi1, hi2⟩ := hi
          simp at hi1
          have hlt : i < listed.size := by omega
          simp only [Bool.and_eq_true, Bool.not_eq_true', Array.getElem?_eq_getElem hi1, Option.map_some, Option.getD_some] at hi2
          have hli : listed.getD i false = false := by
            have := hi2.1
            rw [Array.getD_eq_getD_getElem?, Array.getElem?_eq_getElem hlt] at this ⊢
            simpa using this
          have hoi : opsA.toList[i]? = some opsA[i] := by simp [hi1]
          have hready : ∀ e ∈ opsA[i].after.toList, Region.binds .any e = true → listed.getD e.on false = true := by
            intro e he hb
            have := hi2.2
            rw [← Array.all_toList, List.all_eq_true] at this
            have := this e he
            simpa [hb] using this
          have hDD : (fun j => listed.getD j false || j == i) = (fun j => (listed.setIfInBounds i true).getD j false) := by
            funext j
            simp only [Array.getD_eq_getD_getElem?, Array.getElem?_setIfInBounds]
            by_cases e : i = j
            · subst e; simp [hlt]
            · simp [e, Ne.symm e]
          have hstep := draw_step hB hD hbs hord hob hcl hoi hli hready hrel hF q (next := wpAnyIn F q P .any opsA Q fuel (listed.setIfInBounds i true)) (Q := Q) (fun φ' a2 w2 h1 h2 => by
            refine ih _ φ' a2 w2 (by simpa using hsz) ?_ ?_ (h2.trans hd) (by rw [hDD] at h1; exact h1)
            · have hlf : listed.toList[i]? = some false := by
                rw [Array.getD_eq_getD_getElem?, Array.getElem?_eq_getElem hlt] at hli
                simp at hli
                simp [hlt, hli]
              have := count_set listed.toList i hlf
              rw [Array.toList_setIfInBounds]
              omega
            · rw [← hDD]
              intro j o hj hDj e he hb
              simp only [Bool.or_eq_true, beq_iff_eq] at hDj ⊢
              rcases hDj with hDj | rfl
              · exact .inl (hcl j o hj hDj e he hb)
              · rw [hoi] at hj; cases hj
                exact .inl (hready e he hb))
          unfold wpOpIn
          rw [Array.getElem?_eq_getElem hi1]
          exact hstep
      refine wpIn_region_any hB.good.mixed ?_
      refine key opsA.size (Array.replicate opsA.size false) φ a _ (by simp) (by simp) (fun j o hj hDj => by
        simp only [Array.getD_eq_getD_getElem?, Array.getElem?_replicate] at hDj
        split at hDj <;> simp at hDj) rfl ?_
      have e0 : (fun j => (Array.replicate opsA.size false).getD j false) = (fun _ => false) := by
        funext j
        simp only [Array.getD_eq_getD_getElem?, Array.getElem?_replicate]
        split <;> rfl
      rw [e0]
      unfold repT repI
      rw [rep_none, rep_none]
      obtain ⟨d1, d2⟩ := hs.rel.drew
      exact ⟨d1, hs.size, fun t ht => (hs.tmp t ht).mono d2 (.refl _ _), hs.out⟩
    · cases he
  · cases he
end draw

end Go.Abs
