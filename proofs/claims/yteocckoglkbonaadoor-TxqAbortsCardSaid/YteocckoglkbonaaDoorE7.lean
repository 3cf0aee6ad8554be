/- Operations that only read memory. -/
import Derived.Test.YteocckoglkbonaaDoorE6
import Derived.Laws.CopyRow
import Derived.Laws.Cells
set_option linter.unusedVariables false
set_option linter.unusedSimpArgs false
set_option linter.unusedSectionVars false
namespace Go.Abs
open Go.RowKit

theorem add_at (b o j : Nat) : (⟨b, o, none⟩ : Addr).add j = ⟨b, o + j, none⟩ := by unfold Addr.add; split <;> simp_all

theorem VRep.plain {h : SH} {φ : Nat → Value} {A : Nat → Prop} {w : World} {fl : Fl} {xs : List AV} {v : Value} (p : VRep h φ A w (.sl fl xs) v) : VRep h φ A w (.sl .p xs) v := by
  cases p with
  | pure p =>
    cases p with
    | nil fl => exact .pure (.nil .p)
    | sl0 hc => exact .pure (.sl0 hc)
    | sl a1 a2 a3 a4 a5 => exact .pure (.sl a1 a2 a3 a4 a5)

section mem
variable {P : Program} {h : SH} {φ : Nat → Value} {A : Nat → Prop} {w : World}

/-- A whole variable that is read: its cells are there. -/
theorem run_loadVar_cells {T : TypeId} {n : Nat} {ag : Bool} (hag : isAgg P T = some ag) (hs : sz P T = some n) (b o : Nat) (vs : List Value) (hn : vs.length = n) (h1 : ag = false → n = 1)
    (hc : ∀ i v, vs[i]? = some v → w.cell? ⟨b, o + i, none⟩ = some v) : (loadVar T ⟨b, o, none⟩).run P w = .ok (mkV P T vs) w := by
  unfold loadVar mkV
  simp only [Sem.run_bind, run_isAgg hag, Result.andThen_ok, hag]
  cases ag
  · have := h1 rfl
    subst this
    match vs, hn with
    | [v], _ =>
      have := hc 0 v rfl
      simp at this
      simp [this]
  · subst hn
    have := run_loadCells_list (P := P) w ⟨b, o, none⟩ vs (fun j v hj => by rw [add_at]; exact hc j v hj)
    simp [run_sizeOf hs, this]

/-- What 'partOf' tells of cells, as values: a sublist. -/
theorem partOf_spec {T : TypeId} {cs : List AV} {off : Nat} {y : AV} (he : partOf P T cs off = some y) :
    ∃ ag n, isAgg P T = some ag ∧ sz P T = some n ∧ ((ag = true ∧ off + n ≤ cs.length ∧ y = .agg ((cs.drop off).take n)) ∨ (ag = false ∧ n = 1 ∧ cs[off]? = some y)) := by
  unfold partOf at he
  split at he
  · rename_i n h1 h2
    split at he
    · rename_i hle
      simp at he
      exact ⟨true, n, h1, h2, .inl ⟨rfl, hle, he.symm⟩⟩
    · cases he
  · rename_i n h1 h2
    split at he
    · rename_i hn
      exact ⟨false, n, h1, h2, .inr ⟨rfl, hn, he⟩⟩
    · cases he
  · cases he

theorem vrep_part {T : TypeId} {cs : List AV} {vs : List Value} {off : Nat} {y : AV} (he : partOf P T cs off = some y) (hv : VRepL h φ A w cs vs) :
    ∃ n, sz P T = some n ∧ off + n ≤ vs.length ∧ (isAgg P T = some false → n = 1) ∧ (∃ ag, isAgg P T = some ag) ∧ VRep h φ A w y (mkV P T ((vs.drop off).take n)) := by
  obtain ⟨ag, n, h1, h2, h3⟩ := partOf_spec he
  have hl := hv.length
  refine ⟨n, h2, ?_, ?_, ⟨ag, h1⟩, ?_⟩
  · rcases h3 with ⟨_, h4, _⟩ | ⟨_, rfl, h4⟩
    · omega
    · have := (List.getElem?_eq_some_iff.1 h4).1
      omega
  · intro hf
    rcases h3 with ⟨h4, _⟩ | ⟨_, h4, _⟩
    · subst h4; rw [h1] at hf; cases hf
    · exact h4
  · rcases h3 with ⟨rfl, h4, rfl⟩ | ⟨rfl, rfl, h4⟩
    · simp only [mkV, h1, if_true]
      exact .agg ((hv.drop off).take n)
    · obtain ⟨v, h5, h6⟩ := hv.get off h4
      have hlt := (List.getElem?_eq_some_iff.1 h5).1
      have e : ((vs.drop off).take 1).headD undef = v := by
        rw [headD_drop hlt]
        exact (List.getElem?_eq_some_iff.1 h5).2
      simp only [mkV, h1, e]
      simpa using h6

theorem run_loadVar_part {T : TypeId} {cs : List AV} {vs : List Value} {off : Nat} {y : AV} (he : partOf P T cs off = some y) (hv : VRepL h φ A w cs vs) (b o : Nat)
    (hc : ∀ i v, vs[i]? = some v → w.cell? ⟨b, o + i, none⟩ = some v) : ∃ u, (loadVar T ⟨b, o + off, none⟩).run P w = .ok u w ∧ VRep h φ A w y u := by
  obtain ⟨n, h1, h2, h3, ⟨ag, h4⟩, h5⟩ := vrep_part he hv
  refine ⟨_, run_loadVar_cells h4 h1 b (o + off) _ (by simp; omega) (fun e => h3 (by rw [h4, e])) (fun i v hi => ?_), h5⟩
  rw [List.getElem?_take] at hi
  split at hi
  · rw [List.getElem?_drop] at hi
    rw [← hc _ v hi]; congr 2; omega
  · cases hi
end mem

section ops
variable {P : Program} {E : Env} {C : C0} {h : SH} {φ : Nat → Value} {w : World} {a : Act} {o : Oper} {rd : Operand → AV} {look : Nat → Ob}
variable (hr : Rel C h φ w) (hρ : ∀ x, VRep h φ (okB C h φ w) w (rd x) (a.eval x)) (hl : Sees look h)
include hr hρ hl

theorem run_load {T : TypeId} {x : Operand} {ad : Addr} {u : Value} (hop : o.op = .load T x) (hx : a.eval x = .pointer (some ad)) (hu : (loadVar T ad).run P w = .ok u w) :
    (execOp a.eval o).run P w = .ok (.value u) w := by
  simp [execOp, hop, hx, Instr.loadAt, Instr.sureAddr, hu]

/-- A variable's cells in memory. -/
theorem box_cells {id : Nat} {cs : List AV} (hx : (∃ T, h id = .box T cs) ∨ h id = .fbox cs) : ∃ b vs, φ id = .pointer (some ⟨b, 0, none⟩) ∧ VRepL h φ (okB C h φ w) w cs vs ∧ ∀ i v, vs[i]? = some v → w.cell? ⟨b, 0 + i, none⟩ = some v := by
  have ho := hr.obj id
  rcases hx with ⟨T, hx⟩ | hx
  · rw [hx] at ho
    obtain ⟨b, vs, h1, h2, h3, h4, _⟩ := ho
    refine ⟨b, vs, h1, h4, fun i v hi => ?_⟩
    simp [World.cell?, h3]
    simpa using hi
  · rw [hx] at ho
    obtain ⟨b, h1, h2, h3⟩ := ho
    obtain ⟨vs, h4, h5, _⟩ := h3.list
    exact ⟨b, vs, h1, h4.v, h5⟩

/-- A row's cells in memory. -/
theorem row_cells {id : Nat} {T : TypeId} {s : Nat} {xs : List AV} (hx : h id = .row T s xs) {i : Nat} {y : AV} (hy : xs[i]? = some y) :
    ∃ b n c vs, φ id = .slice (some ⟨b, 0, none⟩) n c ∧ RepL (okB C h φ w) w y.cells vs ∧ y.cells.length = s ∧ ∀ j v, vs[j]? = some v → w.cell? ⟨b, i * s + j, none⟩ = some v := by
  have ho := hr.obj id
  rw [hx] at ho
  obtain ⟨cells, h1, h2, h3, h4, _⟩ := ho
  have hlt : i < xs.length := (List.getElem?_eq_some_iff.1 hy).1
  rcases h1.2 with ⟨_, hn⟩ | ⟨g, cap, cur, hv, _⟩
  · omega
  · have hys : y.cells.length = s := h3 y (List.mem_of_getElem? hy)
    have hcell := h1.cells (g := g) (by simp [hv, Value.ownBlock])
    -- the element's cells among all
    have key : ∀ (l : List AV) (i : Nat), l[i]? = some y → (∀ x ∈ l, x.cells.length = s) → ((l.flatMap AV.cells).drop (i * s)).take s = y.cells := by
      intro l
      induction l with
      | nil => intro i hi; simp at hi
      | cons z l ih =>
        intro i hi hs
        have hz := hs z (by simp)
        cases i with
        | zero =>
          simp at hi; subst hi
          simp [List.take_append_of_le_length (Nat.le_of_eq hys.symm), List.take_of_length_le (Nat.le_of_eq hys)]
        | succ i =>
          simp at hi
          have := ih i hi (fun x hx => hs x (by simp [hx]))
          rw [List.flatMap_cons, show (i + 1) * s = z.cells.length + i * s by rw [hz, Nat.add_mul]; omega, ← List.drop_drop, List.drop_left]
          exact this
    have hk := key xs i hy h3
    have h5 := (h2.drop (i * s)).take s
    rw [hk] at h5
    refine ⟨g, _, cap, _, hv, h5, hys, fun j v hj => ?_⟩
    rw [List.getElem?_take] at hj
    split at hj
    · rw [List.getElem?_drop] at hj
      have := hcell _ v hj
      rw [add_at] at this
      simpa using this
    · cases hj

theorem sound_load {T : TypeId} {x : Operand} (hop : o.op = .load T x) {ans : Option Ans} {eff : Eff} (he : loadA P look T (rd x) ans = some eff) (hob : All eff.obl) :
    OpOK P C h φ w a o h eff.val ∧ eff.upd = [] ∧ eff.new = [] := by
  have hx := hρ x
  unfold loadA at he
  split at he
  · rename_i id off e1
    rw [e1] at hx
    obtain ⟨b, hb, hv, hu⟩ := hx.inv_ptr
    have main : ∀ cs y, ((∃ T, h id = .box T cs) ∨ h id = .fbox cs) → partOf P T cs off = some y → OpOK P C h φ w a o h y := by
      intro cs y hbx hp
      obtain ⟨b', vs, h1, h2, h3⟩ := box_cells hr hρ hl hbx
      rw [hb] at h1
      injection h1 with h1; injection h1 with h1; injection h1 with h1
      subst h1
      obtain ⟨u, h4, h5⟩ := run_loadVar_part hp h2 b 0 h3
      exact .same hr (run_load hr hρ hl hop hv (by simpa using h4)) h5
    split at he
    · rename_i T0 cs e2
      split at he
      · rename_i y hp
        simp [effV] at he; subst he
        exact ⟨main cs y (.inl ⟨_, hl.get e2 (by simp)⟩) hp, rfl, rfl⟩
      · cases he
    · rename_i cs e2
      split at he
      · rename_i y hp
        simp [effV] at he; subst he
        exact ⟨main cs y (.inr (hl.get e2 (by simp))) hp, rfl, rfl⟩
      · cases he
    · cases he
  · rename_i cs off e1
    rw [e1] at hx
    obtain ⟨b, o', ha, hc, hv⟩ := hx.inv_pin
    split at he
    · rename_i y hp
      simp [effV] at he; subst he
      obtain ⟨vs, h4, h5, _⟩ := hc.list
      obtain ⟨u, h6, h7⟩ := run_loadVar_part hp (h4.v (h := h) (φ := φ)) b o' h5
      exact ⟨.same hr (run_load hr hρ hl hop hv h6) h7, rfl, rfl⟩
    · cases he
  · rename_i id i off e1
    rw [e1] at hx
    split at he
    · rename_i T0 s xs y e2
      split at he
      · rename_i z hp
        simp [effIf] at he; subst he
        have hy : xs[i]? = some y := hob.1
        have h2 := hl.get e2 (by simp)
        obtain ⟨b, n, c, vs, h3, h4, h5, h6⟩ := row_cells hr hρ hl h2 hy
        obtain ⟨b', n', c', h7, h8⟩ := hx.inv_ptrE h2
        rw [h3] at h7
        injection h7 with h7 _ _; injection h7 with h7; injection h7 with h7
        subst h7
        obtain ⟨u, h9, h10⟩ := run_loadVar_part hp (h4.v (h := h) (φ := φ)) b (i * s) h6
        exact ⟨.same hr (run_load hr hρ hl hop h8 h9) h10, rfl, rfl⟩
      · cases he
    · cases he
  · cases he

theorem run_fieldAt {T : TypeId} {f off : Nat} {ft : TypeId} (hf : fieldA P T f = some (off, ft)) (b q : Nat) :
    (Instr.fieldAt T (.pointer (some ⟨b, q, none⟩)) f).run P w = .ok (.pointer (some ⟨b, q + off, none⟩)) w := by
  unfold fieldA at hf
  split at hf
  · rename_i fs hu
    split at hf
    · rename_i fd hfd
      split at hf
      · cases hf
      · rename_i n hn hs
        simp at hf
        obtain ⟨rfl, rfl⟩ := hf
        have : fs[f]? = some fd := by simpa using hfd
        have hn0 : n ≠ 0 := fun e => hn e
        simp only [Instr.fieldAt, Sem.run_bind, run_underlying hu, Result.andThen_ok, this, Instr.sureAddr, Sem.run_pure, fieldPlace, run_sizeOf hs, if_neg hn0, add_at]
      · cases hf
    · cases hf
  · cases hf

theorem sound_fieldAddr {T : TypeId} {x : Operand} {f : Nat} (hop : o.op = .fieldAddr T x f) {eff : Eff} (he : fieldAddrA P look T (rd x) f = some eff) :
    OpOK P C h φ w a o h eff.val ∧ eff.upd = [] ∧ eff.new = [] := by
  have hx := hρ x
  unfold fieldAddrA at he
  split at he
  · cases he
  · rename_i off ft hf
    split at he
    · rename_i id q e1
      rw [e1] at hx
      obtain ⟨b, hb, hv, hu⟩ := hx.inv_ptr
      simp [effV] at he; subst he
      exact ⟨.same hr (v := .pointer (some ⟨b, q + off, none⟩)) (by simp [execOp, hop, hv, run_fieldAt hr hρ hl hf]) (.ptr hu hb), rfl, rfl⟩
    · rename_i id i q e1
      rw [e1] at hx
      split at he
      · rename_i T0 s xs e2
        have hid := hl.get e2 (by simp)
        simp [effV] at he; subst he
        obtain ⟨b, n, c, h3, h4⟩ := hx.inv_ptrE hid
        refine ⟨.same hr (v := .pointer (some ⟨b, i * s + (q + off), none⟩)) ?_ (.ptrE (by simp [hid]) rfl fun T' s' xs' hx' => ?_), rfl, rfl⟩
        · have := run_fieldAt (P := P) hr hρ hl hf b (i * s + q)
          simp [execOp, hop, h4, this, Nat.add_assoc]
        · rw [hid] at hx'; cases hx'; exact ⟨b, n, c, h3, rfl⟩
      · cases he
    · rename_i cs q e1
      rw [e1] at hx
      obtain ⟨b, o', ha, hc, hv⟩ := hx.inv_pin
      simp [effV] at he; subst he
      exact ⟨.same hr (v := .pointer (some ⟨b, o' + (q + off), none⟩)) (by simp [execOp, hop, hv, run_fieldAt hr hρ hl hf, Nat.add_assoc]) (.pure (.pin ha hc)), rfl, rfl⟩
    · cases he

theorem bnd_inv {x : Operand} {i : Int} (he : bnd (rd x) = some i) : ∃ k, a.eval x = .int k i := by
  have hx := hρ x
  unfold bnd at he
  split at he
  · rename_i k n e1
    rw [e1] at hx
    simp at he; subst he
    exact ⟨k, hx.inv_int⟩
  · cases he

theorem sl_elem {xs : List AV} {v : Value} (hx : VRep h φ (okB C h φ w) w (.sl .p xs) v) {i : Nat} {y : AV} (hy : xs[i]? = some y) :
    ∃ b o n c, v = .slice (some ⟨b, o, none⟩) n c ∧ n = xs.length ∧ okB C h φ w b ∧ RepAt (okB C h φ w) w y.cells b (o + i * y.cells.length) := by
  obtain ⟨p, c, e, _, _, _, h2⟩ := hx.inv_sl
  obtain ⟨b, o', s, h3, h4, h5⟩ := h2 (fun e => by subst e; simp at hy)
  subst h3
  obtain ⟨h6, h7⟩ := h5.get i hy
  exact ⟨b, o', _, c, e, rfl, h4, by rw [h7]; exact h6⟩

theorem sound_indexAddr {T : TypeId} {x ix : Operand} (hop : o.op = .indexAddr T x ix) {ans : Option Ans} {eff : Eff} (he : indexAddrA P look T (rd x) (rd ix) ans = some eff) (hob : All eff.obl) :
    OpOK P C h φ w a o h eff.val ∧ eff.upd = [] ∧ eff.new = [] := by
  have hx := hρ x
  unfold indexAddrA at he
  split at he
  · cases he
  · rename_i i hi
    obtain ⟨k, hiv⟩ := bnd_inv hr hρ hl hi
    split at he
    · rename_i n e ha
      have hu : P.underlying T = some (.array n e) := by unfold arrA at ha; split at ha <;> simp_all
      split at he
      · rename_i s hs
        split at he
        · rename_i id off e1
          rw [e1] at hx
          obtain ⟨b, hb, hv, hun⟩ := hx.inv_ptr
          simp [effIf] at he; subst he
          have hc : 0 ≤ i ∧ i < n := hob.1
          refine ⟨.same hr (v := .pointer (some ⟨b, off + i.toNat * s, none⟩)) ?_ (.ptr hun hb), rfl, rfl⟩
          simp [execOp, hop, hv, hiv, Instr.indexAt, asIntOf, run_underlying hu, Instr.sureAddr, hc, run_sizeOf hs, add_at]
        · rename_i cs off e1
          rw [e1] at hx
          obtain ⟨b, o', hA, hcs, hv⟩ := hx.inv_pin
          simp [effIf] at he; subst he
          have hc : 0 ≤ i ∧ i < n := hob.1
          refine ⟨.same hr (v := .pointer (some ⟨b, o' + (off + i.toNat * s), none⟩)) ?_ (.pure (.pin hA hcs)), rfl, rfl⟩
          simp [execOp, hop, hv, hiv, Instr.indexAt, asIntOf, run_underlying hu, Instr.sureAddr, hc, run_sizeOf hs, add_at, Nat.add_assoc]
        · cases he
      · cases he
    · split at he
      · cases he
      · rename_i e hel
        have hu : P.underlying T = some (.slice e) := by unfold elemA at hel; split at hel <;> simp_all
        split at he
        · cases he
        · rename_i s hs
          have run_sl : ∀ (b q n c : Nat), a.eval x = .slice (some ⟨b, q, none⟩) n c → 0 ≤ i → i < n → (execOp a.eval o).run P w = .ok (.value (.pointer (some ⟨b, q + i.toNat * s, none⟩))) w := by
            intro b q n c hv h0 h1
            simp [execOp, hop, hv, hiv, Instr.indexAt, asIntOf, run_underlying hu, h0, h1, run_sizeOf hs, add_at]
          have main : ∀ xs y, VRep h φ (okB C h φ w) w (.sl .p xs) (a.eval x) → y.cells.length = s → 0 ≤ i → xs[i.toNat]? = some y → OpOK P C h φ w a o h (.pin y.cells 0) := by
            intro xs y hx hys h0 hy
            obtain ⟨b, q, n, c, hv, hn, hA, hc⟩ := sl_elem hr hρ hl hx hy
            have hlt := (List.getElem?_eq_some_iff.1 hy).1
            exact .same hr (run_sl b q n c hv h0 (by omega)) (by rw [hys] at hc; exact .pure (.pin hA hc))
          split at he
          · rename_i fl xs e1
            rw [e1] at hx
            have hx' := hx.plain
            split at he
            · rename_i y
              split at he
              · rename_i hys
                simp [effIf] at he; subst he
                exact ⟨main xs y hx' hys hob.1.1 hob.1.2, rfl, rfl⟩
              · cases he
            · cases he
          · rename_i id e1
            rw [e1] at hx
            split at he
            · rename_i T0 s' xs e2
              have hid := hl.get e2 (by simp)
              split at he
              · rename_i hss
                subst hss
                simp [effIf] at he; subst he
                have hc : 0 ≤ i ∧ i < xs.length := hob.1
                have hv := hx.inv_own.2 (by simp [hid])
                have ho := hr.obj id
                rw [hid] at ho
                obtain ⟨cells, h1, _⟩ := ho
                rcases h1.2 with ⟨_, hn⟩ | ⟨g, cap, cur, hg, _⟩
                · omega
                · refine ⟨.same hr (run_sl g 0 _ cap (hv.trans hg) hc.1 hc.2) (.ptrE (by simp [hid]) rfl fun T' s2 xs' hx' => ?_), rfl, rfl⟩
                  rw [hid] at hx'; cases hx'
                  exact ⟨g, _, cap, hg, by simp⟩
              · cases he
            · rename_i xs e2
              have hid := hl.get e2 (by simp)
              split at he
              · rename_i y
                split at he
                · rename_i hys
                  simp [effIf] at he; subst he
                  have hv := hx.inv_own.2 (by simp [hid])
                  have ho := hr.obj id
                  rw [hid] at ho
                  exact ⟨main xs y (.pure (hv ▸ ho)) hys hob.1.1 hob.1.2, rfl, rfl⟩
                · cases he
              · cases he
            · cases he
          · cases he

theorem sound_field {T : TypeId} {x : Operand} {f off : Nat} {ft : TypeId} {cs : List AV} {y : AV} (hop : o.op = .field T x f) (hf : fieldA P T f = some (off, ft)) (e1 : rd x = .agg cs) (hp : partOf P ft cs off = some y) :
    OpOK P C h φ w a o h y := by
  have hx := hρ x
  rw [e1] at hx
  obtain ⟨vs, hv, hvs⟩ := hx.inv_agg
  obtain ⟨n, h1, h2, h3, ⟨ag, h4⟩, h5⟩ := vrep_part hp hvs
  have hrun := run_part (w := w) (us := vs) (off := off) h4 h1 h2 (fun e => h3 (by rw [h4, e]))
  refine .same hr (v := mkV P ft ((vs.drop off).take n)) ?_ h5
  unfold fieldA at hf
  split at hf
  · rename_i fs hu
    split at hf
    · rename_i fd hfd
      split at hf
      · cases hf
      · simp at hf
        obtain ⟨rfl, rfl⟩ := hf
        have : fs[f]? = some fd := by simpa using hfd
        simp [execOp, hop, hv, Instr.field, run_underlying hu, this, asAgg, hrun]
      · cases hf
    · cases hf
  · cases hf

theorem sound_conv {S D : TypeId} {x : Operand} (hop : o.op = .convert S D x) {eff : Eff} (he : convA P S D (rd x) = some eff) :
    OpOK P C h φ w a o h eff.val ∧ eff.upd = [] ∧ eff.new = [] := by
  have hx := hρ x
  unfold convA at he
  split at he
  · rename_i k1 k2 k n e1 e2 e3
    rw [e3] at hx
    simp [effV] at he; subst he
    exact ⟨.same hr (v := .int k2 (k2.wrap n)) (by simp [execOp, hop, hx.inv_int, convert, run_underlying e1, run_underlying e2, Conv.intToInt]) (.pure (.int _ _)), rfl, rfl⟩
  · rename_i s e1 e2 e3
    rw [e3] at hx
    simp [effV] at he; subst he
    exact ⟨.same hr (v := .string s) (by simp [execOp, hop, hx.inv_str, convert, run_underlying e1, run_underlying e2]) (.pure (.str _)), rfl, rfl⟩
  · cases he

theorem sound_nilCheck {x : Operand} (hop : o.op = .nilCheck x) (he : (∃ id off, rd x = .ptr id off) ∨ ∃ cs off, rd x = .pin cs off) : OpOK P C h φ w a o h (rd x) := by
  have hx := hρ x
  rcases he with ⟨id, off, e1⟩ | ⟨cs, off, e1⟩
  · rw [e1] at hx ⊢
    obtain ⟨b, hb, hv, hun⟩ := hx.inv_ptr
    exact .same hr (v := a.eval x) (by simp [execOp, hop, hv]) hx
  · rw [e1] at hx ⊢
    obtain ⟨b, o', hA, hcs, hv⟩ := hx.inv_pin
    exact .same hr (v := a.eval x) (by simp [execOp, hop, hv]) hx
end ops

end Go.Abs
