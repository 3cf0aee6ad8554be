/- Arguments that read as data, as abstract values. -/
import Derived.Test.YteocckoglkbonaaDoorEZ
import Derived.Deep.Slices
import Derived.ChangeArms
import Derived.OpenShut
set_option linter.unusedVariables false
set_option linter.unusedSimpArgs false
namespace Go.Abs
open Go.ChangeShapes Go.WideShapes Go.RowKit Go.Deep

/-- Parts that lie one behind the other. -/
def contig : Nat → List (Nat × Nat) → Nat → Bool
  | a, [], tot => a == tot
  | a, (o, s) :: r, tot => o == a && contig (a + s) r tot

theorem contig_join {α : Type} (l : List α) : ∀ (L : List (Nat × Nat)) (a : Nat), contig a L l.length = true → L.flatMap (fun p => (l.drop p.1).take p.2) = l.drop a := by
  intro L
  induction L with
  | nil => intro a h; simp [contig] at h; simp [h]
  | cons p L ih =>
    obtain ⟨o, s⟩ := p
    intro a h
    simp only [contig, Bool.and_eq_true, beq_iff_eq] at h
    obtain ⟨rfl, h⟩ := h
    rw [List.flatMap_cons, ih _ h, ← List.drop_drop, List.take_append_drop]

/-- What one value of some cells is. -/
def mkE (ag : Bool) (cs : List AV) : AV := if ag then .agg cs else cs.headD .junk

/-- Cells of a type. -/
def HasTy (P : Program) : Nat → TypeId → List AV → Prop
  | 0, _, _ => False
  | d + 1, t, as => match P.underlying t with
    | some .bool => ∃ b, as = [.bool b]
    | some (.int k) => ∃ n, as = [.int k n] ∧ (Lit.int k n).wf = true
    | some .string => ∃ s, as = [.str s] ∧ s.size ≤ maxLen
    | some (.slice e) => ∃ xs, as = [.sl .p xs] ∧ xs.length ≤ maxLen ∧ ∀ x ∈ xs, ∃ cs, x = mkE (isAgg P e == some true) cs ∧ HasTy P d e cs
    | some (.array n e) => ∃ ps : List (List AV), as = ps.flatten ∧ ps.length = n ∧ ∀ p ∈ ps, HasTy P d e p
    | some (.struct fs) => ∃ ps : List (List AV), as = ps.flatten ∧ ps.length = fs.size ∧ ∀ (i : Nat) f p, fs[i]? = some f → ps[i]? = some p → HasTy P d f.type p
    | _ => False

/-- Types that are taken. -/
def okT (P : Program) : Nat → TypeId → Bool
  | 0, _ => false
  | d + 1, t => match P.underlying t with
    | some .bool => P.cellsOf t == 1
    | some (.int k) => P.cellsOf t == 1
    | some .string => P.cellsOf t == 1
    | some (.slice e) => okT P d e && decide (0 < P.cellsOf e) && P.cellsOf t == 1
    | some (.array n e) => okT P d e && contig 0 ((List.range n).map fun i => (i * P.cellsOf e, P.cellsOf e)) (P.cellsOf t)
    | some (.struct fs) => fs.toList.all (fun f => okT P d f.type) && contig 0 (fs.toList.map fun f => (f.offset, P.cellsOf f.type)) (P.cellsOf t)
    | _ => false

section
variable {H : Type} {enc : TypeId × Value → H} {P : Program} {w : World} {spare : Nat → Bool} {held : Bool}

abbrev Here (w : World) : Nat → Prop := fun b => b < w.heap.size

theorem cell_lt {w : World} {a : Addr} {v : Value} (h : w.cell? a = some v) : a.block < w.heap.size := by
  simp only [World.cell?] at h
  split at h
  · rename_i hb
    exact (Array.getElem?_eq_some_iff.1 hb).1
  · cases h

/-- Parts that are each represented. -/
theorem parts_rep {α : Type} {A : Nat → Prop} (F : α → List Value) (Q : α → List AV → Prop) : ∀ (L : List α), (∀ p ∈ L, ∃ as, RepL A w as (F p) ∧ Q p as) →
    ∃ ass : List (List AV), ass.length = L.length ∧ RepL A w ass.flatten (L.flatMap F) ∧ ∀ (i : Nat) p as, L[i]? = some p → ass[i]? = some as → Q p as := by
  intro L
  induction L with
  | nil => intro _; exact ⟨[], rfl, .nil, by simp⟩
  | cons p L ih =>
    intro h
    obtain ⟨as, h1, h2⟩ := h p (by simp)
    obtain ⟨ass, h3, h4, h5⟩ := ih fun q hq => h q (by simp [hq])
    refine ⟨as :: ass, by simp [h3], by simpa using h1.append h4, fun i q bs hi hb => ?_⟩
    cases i with
    | zero => simp at hi hb; subst hi hb; exact h2
    | succ i => simp at hi hb; exact h5 i q bs hi hb

theorem open_trod : ∀ (d fuel : Nat) (t : TypeId) (cs : List Value) (x : DataW H × List MemPlace), okT P d t = true → DataW.trod enc P w 0 spare held fuel t cs = some x →
    ∃ as, RepL (Here w) w as cs ∧ HasTy P d t as ∧ (∀ u ∈ cs, u.oneCell' = true) ∧ cs.length = P.cellsOf t ∧ (isAgg P t ≠ some true → ∃ a, as = [a] ∧ a.cells = [a]) := by
  intro d
  induction d with
  | zero => intro fuel t cs x ho; cases ho
  | succ d ih =>
    intro fuel t cs x ho h
    simp only [okT] at ho
    cases hu : P.underlying t with
    | none => rw [hu] at ho; cases ho
    | some T =>
      rw [hu] at ho
      cases T <;> simp only at ho <;> try (cases ho; done)
      case bool =>
        obtain ⟨b, rfl, rfl⟩ := DataW.trod_bool hu h
        exact ⟨[.bool b], .cons (.bool b) .nil, by simp [HasTy, hu], by simp [Value.oneCell'], by have := eq_of_beq ho; simp [this], fun _ => ⟨_, rfl, rfl⟩⟩
      case int k =>
        obtain ⟨n, rfl, rfl, hw⟩ := DataW.trod_int hu h
        exact ⟨[.int k n], .cons (.int k n) .nil, by simp [HasTy, hu, hw], by simp [Value.oneCell'], by have := eq_of_beq ho; simp [this], fun _ => ⟨_, rfl, rfl⟩⟩
      case string =>
        obtain ⟨s, rfl, rfl, hw⟩ := DataW.trod_string hu h
        exact ⟨[.str s], .cons (.str s) .nil, by simp [HasTy, hu, hw], by simp [Value.oneCell'], by have := eq_of_beq ho; simp [this], fun _ => ⟨_, rfl, rfl⟩⟩
      case slice e =>
        simp only [Bool.and_eq_true, decide_eq_true_eq] at ho
        obtain ⟨⟨ho, hpos⟩, ho2⟩ := ho
        rcases open_slice hu h with ⟨rfl, rfl⟩ | ⟨a, len, cap, m, n, D, Pl, rfl, _, hl, hm, hmm, rfl, hx⟩
        · exact ⟨[.sl .p []], .cons (.nil .p) .nil, by simp [HasTy, hu], by simp [Value.oneCell'], by have := eq_of_beq ho2; simp [this], fun _ => ⟨_, rfl, rfl⟩⟩
        · have hlm : len ≤ m := by rw [hmm]; split <;> omega
          have hel : ∀ i, i < len → ∃ p : List AV × List Value, w.cells? 0 (a.add (i * P.cellsOf e)) (P.cellsOf e) = some p.2 ∧ RepL (Here w) w p.1 p.2 ∧ HasTy P d e p.1 ∧ (∀ u ∈ p.2, u.oneCell' = true) ∧ p.2.length = P.cellsOf e ∧
              (isAgg P e ≠ some true → ∃ a, p.1 = [a] ∧ a.cells = [a]) := by
            intro i hi
            obtain ⟨cs', h1, h2⟩ := hx i (by omega)
            obtain ⟨as, h3, h4, h5, h6, h7⟩ := ih _ _ _ _ ho h2
            exact ⟨(as, cs'), h1, h3, h4, h5, h6, h7⟩
          haveI : Inhabited (List AV × List Value) := ⟨([], [])⟩
          obtain ⟨f, hf⟩ := choose_lt hel
          have hty : HasTy P (d + 1) t [.sl .p ((List.range len).map fun i => mkE (isAgg P e == some true) (f i).1)] := by
            simp only [HasTy, hu]
            refine ⟨_, rfl, by simp; omega, fun x hx => ?_⟩
            obtain ⟨i, hi, rfl⟩ := List.mem_map.1 hx
            exact ⟨_, rfl, (hf i (List.mem_range.1 hi)).2.2.1⟩
          refine ⟨[.sl .p ((List.range len).map fun i => mkE (isAgg P e == some true) (f i).1)], .cons ?_ .nil, hty, by simp [Value.oneCell'], by have := eq_of_beq ho2; simp [this], fun _ => ⟨_, rfl, rfl⟩⟩
          cases len with
          | zero => exact .sl0 hm
          | succ len =>
            obtain ⟨b, o, sp⟩ := a
            have hs : sp = none := by
              obtain ⟨_, h1, h2⟩ := World.cells?_some (hf 0 (by omega)).1
              have h3 := h2 0 hpos
              have h4 : 0 < (f 0).2.length := by omega
              rw [List.getElem?_eq_getElem h4] at h3
              simpa [Addr.add] using World.cell?_spot h3
            subst hs
            have hat : ∀ i, i < len + 1 → RepAt (Here w) w (f i).1 b (o + i * P.cellsOf e) := by
              intro i hi
              obtain ⟨h1, h2, h3, h4, h5, h6⟩ := hf i hi
              refine RepAt.ofList h2 (fun j v hj => ?_) h4
              obtain ⟨_, h7, h8⟩ := World.cells?_some h1
              have hj' : j < P.cellsOf e := by
                have := (List.getElem?_eq_some_iff.1 hj).1
                omega
              have := h8 j hj'
              rw [hj, add_add, add_at] at this
              rw [← this]; congr 2; omega
            have hlen : ∀ i, i < len + 1 → (f i).1.length = P.cellsOf e := fun i hi => by
              obtain ⟨h1, h2, h3, h4, h5, h6⟩ := hf i hi
              rw [h2.length, h5]
            have hblk : b < w.heap.size := by
              obtain ⟨_, h1, h2⟩ := World.cells?_some (hf 0 (by omega)).1
              have h3 := h2 0 hpos
              have h4 : 0 < (f 0).2.length := by omega
              rw [List.getElem?_eq_getElem h4] at h3
              have := cell_lt h3
              simpa [Addr.add] using this
            have hrow : ∀ k i, i + k = len + 1 → RepRow (Here w) w (P.cellsOf e) ((List.range' i k).map fun i => mkE (isAgg P e == some true) (f i).1) b (o + i * P.cellsOf e) := by
              intro k
              induction k with
              | zero => intro i _; exact .nil _ _ _
              | succ k ihk =>
                intro i hi
                have hr := ihk (i + 1) (by omega)
                have hl' := hlen i (by omega)
                have ha' := hat i (by omega)
                rw [List.range'_succ, List.map_cons]
                have eo : o + (i + 1) * P.cellsOf e = o + i * P.cellsOf e + P.cellsOf e := by rw [Nat.add_mul]; omega
                rw [eo] at hr
                by_cases hag : isAgg P e = some true
                · simp only [mkE, hag, beq_self_eq_true, if_true] at hr ⊢
                  rw [← hl'] at hr ⊢
                  exact .agg (by rw [hl']; exact ha') (by rw [hl'] at hr ⊢; exact hr)
                · obtain ⟨y, hy1, hy2⟩ := (hf i (by omega)).2.2.2.2.2 hag
                  rw [hy1] at ha' hl'
                  have hc1 : P.cellsOf e = 1 := by simpa using hl'.symm
                  have e1 : mkE (isAgg P e == some true) (f i).1 = y := by simp [mkE, hag, hy1]
                  rw [e1]
                  rw [hc1] at hr ha' ⊢
                  cases ha' with
                  | cons g1 g2 g3 g4 => exact .one hy2 g1 g2 g3 hr
            have := hrow (len + 1) 0 (by omega)
            rw [List.range_eq_range']
            rw [List.range'_succ, List.map_cons] at this ⊢
            refine .sl ?_ hl hm hblk (s := P.cellsOf e) (by simpa using this)
            simp
      case array n e =>
        simp only [Bool.and_eq_true] at ho
        obtain ⟨ho, hco⟩ := ho
        obtain ⟨xs, m, rfl, rfl, hlen, hn, hx⟩ := DataW.trod_array hu h
        have hj := contig_join cs ((List.range n).map fun i => (i * P.cellsOf e, P.cellsOf e)) 0 (by rw [hlen]; exact hco)
        rw [List.drop_zero, List.flatMap_map] at hj
        have hp : ∀ i ∈ List.range n, ∃ as, RepL (Here w) w as ((cs.drop (i * P.cellsOf e)).take (P.cellsOf e)) ∧ (HasTy P d e as ∧ ∀ u ∈ (cs.drop (i * P.cellsOf e)).take (P.cellsOf e), u.oneCell' = true) := by
          intro i hi
          have hi := List.mem_range.1 hi
          have h1 := hx i hi
          rw [List.getElem?_eq_getElem (by omega)] at h1
          obtain ⟨as, h2, h3, h4, _⟩ := ih _ _ _ _ ho h1
          exact ⟨as, h2, h3, h4⟩
        obtain ⟨ass, h1, h2, h3⟩ := parts_rep (A := Here w) (w := w) _ (fun i as => HasTy P d e as ∧ ∀ u ∈ (cs.drop (i * P.cellsOf e)).take (P.cellsOf e), u.oneCell' = true) (List.range n) hp
        rw [List.length_range] at h1
        have h2' : RepL (Here w) w ass.flatten cs := by rw [← hj]; exact h2
        refine ⟨ass.flatten, h2', ?_, fun u hu' => ?_, hlen, fun hag => absurd (by simp [isAgg, hu, isAggD]) hag⟩
        · simp only [HasTy, hu]
          refine ⟨ass, rfl, h1, fun p hp => ?_⟩
          obtain ⟨i, hi⟩ := List.getElem?_of_mem hp
          have hlt : i < n := by have := (List.getElem?_eq_some_iff.1 hi).1; omega
          exact (h3 i i p (by simp [hlt]) hi).1
        · rw [← hj] at hu'
          obtain ⟨i, hi, hu'⟩ := List.mem_flatMap.1 hu'
          obtain ⟨as, _, _, h5⟩ := hp i hi
          exact h5 u hu'
      case struct fs =>
        simp only [Bool.and_eq_true, List.all_eq_true] at ho
        obtain ⟨ho, hco⟩ := ho
        obtain ⟨xs, m, rfl, rfl, hlen, hn, hx⟩ := DataW.trod_struct hu h
        have hj := contig_join cs (fs.toList.map fun f => (f.offset, P.cellsOf f.type)) 0 (by rw [hlen]; exact hco)
        rw [List.drop_zero, List.flatMap_map] at hj
        have hp : ∀ f ∈ fs.toList, ∃ as, RepL (Here w) w as ((cs.drop f.offset).take (P.cellsOf f.type)) ∧ (HasTy P d f.type as ∧ ∀ u ∈ (cs.drop f.offset).take (P.cellsOf f.type), u.oneCell' = true) := by
          intro f hf
          obtain ⟨i, hi⟩ := List.getElem?_of_mem hf
          have hi' : fs[i]? = some f := by simpa using hi
          have hlt : i < fs.size := (Array.getElem?_eq_some_iff.1 hi').1
          have h1 := hx i f hi'
          rw [List.getElem?_eq_getElem (by omega)] at h1
          obtain ⟨as, h2, h3, h4, _⟩ := ih _ _ _ _ (ho f hf) h1
          exact ⟨as, h2, h3, h4⟩
        obtain ⟨ass, h1, h2, h3⟩ := parts_rep (A := Here w) (w := w) _ (fun f as => HasTy P d f.type as ∧ ∀ u ∈ (cs.drop f.offset).take (P.cellsOf f.type), u.oneCell' = true) fs.toList hp
        have h2' : RepL (Here w) w ass.flatten cs := by rw [← hj]; exact h2
        refine ⟨ass.flatten, h2', ?_, fun u hu' => ?_, hlen, fun hag => absurd (by simp [isAgg, hu, isAggD]) hag⟩
        · simp only [HasTy, hu]
          refine ⟨ass, rfl, by simpa using h1, fun i f p hf hp => ?_⟩
          exact (h3 i f p (by simpa using hf) hp).1
        · rw [← hj] at hu'
          obtain ⟨i, hi, hu'⟩ := List.mem_flatMap.1 hu'
          obtain ⟨as, _, _, h5⟩ := hp i hi
          exact h5 u hu'

/-- Arguments of their types. -/
def HasTyA (P : Program) (d : Nat) : List TypeId → List AV → Prop
  | [], [] => True
  | t :: ts, a :: as => (∃ cs, a = mkE (isAgg P t == some true) cs ∧ HasTy P d t cs) ∧ HasTyA P d ts as
  | _, _ => False

theorem open_arg {d : Nat} {base : Nat} {t : TypeId} {v : Value} {x : DataW H} {ps : List MemPlace} (ho : okT P d t = true) (hv : Value.okWide P w .any base t v) (h : DataW.Trod enc P w 0 spare held t v x ps) :
    ∃ a, Rep (Here w) w a v ∧ ∃ cs, a = mkE (isAgg P t == some true) cs ∧ HasTy P d t cs := by
  obtain ⟨fuel, h⟩ := h
  obtain ⟨as, h1, h2, h3, h4, h5⟩ := open_trod d fuel t _ _ ho h
  by_cases hag : isAgg P t = some true
  · have : ∃ cs, v = .agg cs := by
      unfold isAgg at hag
      cases hu : P.underlying t with
      | none => rw [hu] at hag; cases hag
      | some T =>
        rw [hu] at hag
        cases T <;> simp [isAggD] at hag <;> simp only [Value.okWide, hu] at hv <;> exact ⟨_, hv.choose_spec.1⟩
    obtain ⟨cs, rfl⟩ := this
    refine ⟨.agg as, ?_, as, by simp [mkE, hag], h2⟩
    have := Rep.agg (A := Here w) (w := w) h1
    simpa [Value.cells] using this
  · obtain ⟨a, ha, hc⟩ := h5 hag
    subst ha
    have hvc : v.cells.toList = [v] := by
      cases v <;> simp [Value.cells]
      rename_i cs
      exfalso
      cases d with
      | zero => cases ho
      | succ d =>
        simp only [okT] at ho
        cases hu : P.underlying t with
        | none => rw [hu] at ho; cases ho
        | some T =>
          rw [hu] at ho
          simp only [Value.okWide, hu, Cell.okWide] at hv
          cases T <;> simp only at ho <;> try (cases ho; done)
          all_goals first | (simp [isAgg, hu, isAggD] at hag; done) | (simp [Cell.ok, hu] at hv)
    rw [hvc] at h1
    cases h1 with
    | cons p q => exact ⟨a, p, [a], by simp [mkE, hag], h2⟩

theorem open_args {d : Nat} {base : Nat} : ∀ {ts : List TypeId} {vs : List Value} {ds : List (DataW H)} {ps : List MemPlace}, (∀ t ∈ ts, okT P d t = true) → (∀ (j : Nat) t v, ts[j]? = some t → vs[j]? = some v → Value.okWide P w .any base t v) →
    DataW.TrodAll enc P w 0 spare held ts vs ds ps → ∃ as, RepL (Here w) w as vs ∧ HasTyA P d ts as := by
  intro ts
  induction ts with
  | nil =>
    intro vs ds ps _ _ h
    obtain ⟨rfl, _, _⟩ := trodAll_nil h
    exact ⟨[], .nil, trivial⟩
  | cons t ts ih =>
    intro vs ds ps ho hv h
    obtain ⟨v, vs', x, ds', p, q, rfl, rfl, rfl, h1, h2⟩ := trodAll_cons h
    obtain ⟨a, h3, h4⟩ := open_arg (ho t (by simp)) (hv 0 t v rfl rfl) h1
    obtain ⟨as, h5, h6⟩ := ih (fun u hu => ho u (by simp [hu])) (fun j u y hj hy => hv (j + 1) u y hj hy) h2
    exact ⟨a :: as, .cons h3 h5, h4, h6⟩

theorem tyA_nil {d : Nat} {xs : List AV} (h : HasTyA P d [] xs) : xs = [] := by
  cases xs with
  | nil => rfl
  | cons x xs => exact h.elim
theorem tyA_cons {d : Nat} {t : TypeId} {ts : List TypeId} {xs : List AV} (h : HasTyA P d (t :: ts) xs) : ∃ cs ys, xs = mkE (isAgg P t == some true) cs :: ys ∧ HasTy P d t cs ∧ HasTyA P d ts ys := by
  cases xs with
  | nil => exact h.elim
  | cons x xs =>
    obtain ⟨⟨cs, rfl, h1⟩, h2⟩ := h
    exact ⟨cs, xs, rfl, h1, h2⟩

/-- Arguments read behind a call as they did. -/
theorem args_stay {ts : List TypeId} {vs : List Value} {ds : List (DataW H)} {ps : List MemPlace} {w' : World} (hl : laidOutB P = true) (hts : ∀ t ∈ ts, P.readableRec t = true ∧ t < P.types.size)
    (h : DataW.TrodAll enc P w 0 (fun _ => true) true ts vs ds ps) (hb : Below w.heap.size w w') (hlt : ∀ x ∈ ps, x.block < w.heap.size) :
    DataW.TrodAll enc P w' 0 (fun b => decide (b < w.heap.size)) true ts vs ds ps := by
  induction ts generalizing vs ds ps with
  | nil => obtain ⟨rfl, rfl, rfl⟩ := trodAll_nil h; exact rfl
  | cons t ts ih =>
    obtain ⟨v, vs', x, ds', p, q, rfl, rfl, rfl, h1, h2⟩ := trodAll_cons h
    exact ⟨p, q, Below.trod hl (hts t (by simp)).1 (hts t (by simp)).2 h1 hb (fun y hy => hlt y (by simp [hy])), ih (fun u hu => hts u (by simp [hu])) h2 (fun y hy => hlt y (by simp [hy])), rfl⟩
end
end Go.Abs
