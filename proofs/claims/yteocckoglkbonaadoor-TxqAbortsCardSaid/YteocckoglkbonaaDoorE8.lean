/- Operations that make memory, and that let it be. -/
import Derived.Test.YteocckoglkbonaaDoorE7
import Derived.Laws.Tables
set_option linter.unusedVariables false
set_option linter.unusedSimpArgs false
set_option linter.unusedSectionVars false
namespace Go.Abs
open Go.RowKit

/-- Parts that are put together. -/
inductive PRep (h : SH) (φ : Nat → Value) (A : Nat → Prop) (w : World) : List (Nat × AV) → List (Nat × Value) → Prop
  | nil : PRep h φ A w [] []
  | cons {i x v r s} : VRep h φ A w x v → PRep h φ A w r s → PRep h φ A w ((i, x) :: r) ((i, v) :: s)

section fill
variable {h : SH} {φ : Nat → Value} {A : Nat → Prop} {w : World}

/-- A value's cells. -/
theorem vrep_cells {x : AV} {v : Value} (p : VRep h φ A w x v) (hx : known x.cells = true) : ∃ vs, v.cells = vs.toArray ∧ VRepL h φ A w x.cells vs ∧ ∀ u ∈ vs, u.oneCell' = true := by
  rcases cells_one_or (x := x) with ⟨cs, rfl⟩ | h1
  · obtain ⟨vs, rfl, hv⟩ := p.inv_agg
    exact ⟨vs, rfl, hv, hv.ones hx⟩
  · have hk := hx
    rw [h1] at hk
    simp [known] at hk
    have := p.one hk
    refine ⟨[v], ?_, by rw [h1]; exact .cons p .nil, by simpa using this⟩
    cases v <;> first | rfl | (simp [Value.oneCell'] at this; done)

theorem fill_foldl (l : List Value) : ∀ (off k : Nat) (cells : Array Value), off + k + l.length ≤ cells.size →
    ((l.zipIdx k).foldl (fun cs (x : Value × Nat) => cs.setIfInBounds (off + x.2) x.1) cells).toList = cells.toList.take (off + k) ++ (l ++ cells.toList.drop (off + k + l.length)) := by
  induction l with
  | nil => intro off k cells _; simp
  | cons c l ih =>
    intro off k cells hc
    simp only [List.zipIdx_cons, List.foldl_cons]
    simp at hc
    rw [ih off (k + 1) _ (by simp; omega)]
    simp only [Array.toList_setIfInBounds]
    have hlt : off + k < cells.toList.length := by simp; omega
    have e1 : (cells.toList.set (off + k) c).take (off + (k + 1)) = cells.toList.take (off + k) ++ [c] := by
      rw [show off + (k + 1) = off + k + 1 by omega, List.take_succ_eq_append_getElem (by simpa using hlt)]
      simp [List.take_set_of_le]
    have e2 : (cells.toList.set (off + k) c).drop (off + (k + 1) + l.length) = cells.toList.drop (off + k + (c :: l).length) := by
      rw [List.drop_set_of_lt (by omega)]
      congr 1; simp; omega
    rw [e1, e2]
    simp

/-- Values put into cells. -/
theorem fill_spec (place : Nat → Option (Nat × Nat)) : ∀ (parts : List (Nat × AV)) (vparts : List (Nat × Value)) (cs cs' : List AV) (vs : List Value),
    fillA place parts cs = some cs' → VRepL h φ A w cs vs → PRep h φ A w parts vparts →
    ∃ vs', Instr.fill place vs.toArray vparts = some vs'.toArray ∧ VRepL h φ A w cs' vs' ∧ vs'.length = vs.length := by
  intro parts
  induction parts with
  | nil =>
    intro vparts cs cs' vs he hv hp
    cases hp
    simp [fillA] at he
    subst he
    exact ⟨vs, rfl, hv, rfl⟩
  | cons p parts ih =>
    obtain ⟨i, x⟩ := p
    intro vparts cs cs' vs he hv hp
    cases hp with
    | cons hx hp =>
      rename_i v vparts
      simp only [fillA] at he
      split at he
      · cases he
      · rename_i off n hpl
        split at he
        · rename_i hc
          obtain ⟨us, hu, huv, hu1⟩ := vrep_cells hx hc.2.1
          have hul : us.length = n := by rw [← huv.length]; exact hc.1
          have hlen := hv.length
          have hsp := hv.spl huv off
          obtain ⟨vs', h1, h2, h3⟩ := ih vparts _ cs' _ he hsp hp
          refine ⟨vs', ?_, h2, ?_⟩
          · rw [Instr.fill]
            simp only [hpl]
            rw [hu]
            have e1 : (us.toArray.size ≠ n || decide (off + us.toArray.size > vs.toArray.size)) = false := by simp; omega
            rw [if_neg (by simp; omega)]
            have e2 := fill_foldl us off 0 vs.toArray (by simp; omega)
            rw [← h1]
            congr 1
            apply Array.ext'
            rw [← Array.foldl_toList, Array.toList_zipIdx]
            simpa using e2
          · rw [h3]; simp; omega
        · cases he
end fill

theorem newS_nil (h : SH) (n : Nat) : h = (fun k => h k) := rfl

/-- What a heap is behind an operation. -/
def updS (h : SH) : List (Nat × Ob) → SH
  | [] => h
  | (id, o) :: r => updS (upd1 h id o) r
def newS (h : SH) (fresh : Nat) : List Ob → SH
  | [] => h
  | o :: r => newS (upd1 h fresh o) (fresh + 1) r

section ops
variable {P : Program} {E : Env} {C : C0} {h : SH} {φ : Nat → Value} {w : World} {a : Act} {o : Oper} {rd : Operand → AV} {look : Nat → Ob}
variable (hr : Rel C h φ w) (hρ : ∀ x, VRep h φ (okB C h φ w) w (rd x) (a.eval x)) (hl : Sees look h)

theorem zeroA_run {T : TypeId} {z : AV} (hz : zeroA P T = some z) : ∃ v i, P.info? T = some i ∧ i.zero = some v ∧ (zeroValue T).run P w = .ok v w ∧ z = ofValue v := by
  unfold zeroA at hz
  split at hz
  · rename_i i hi
    split at hz
    · rename_i v hv
      simp at hz
      exact ⟨v, i, hi, hv, by simp [zeroValue, typeInfo, hi, hv], hz.symm⟩
    · cases hz
  · cases hz

include hr

/-- A new variable. -/
theorem sound_newVar {T : TypeId} {x : AV} {v : Value} {fresh : Nat} (hu : h fresh = .unborn) (hx : VRep h φ (okB C h φ w) w x v) {eff : Eff} (he : allocA P T x fresh = some eff)
    (hrun : (execOp a.eval o).run P w = .ok (.value (.pointer (some ⟨w.heap.size, 0, none⟩))) (w.alloc (.cells v.cells T))) :
    OpOK P C h φ w a o (newS (updS h eff.upd) fresh eff.new) eff.val := by
  unfold allocA at he
  split at he
  · rename_i n hs
    split at he
    · rename_i hc
      simp at hc he
      subst he
      obtain ⟨vs, h1, h2, h3⟩ := vrep_cells hx hc.2
      intro F m next Q hF hn
      rw [hrun]
      have hkh : KeepH h (upd1 h fresh (.box T x.cells)) φ (upd1v φ fresh (.pointer (some ⟨w.heap.size, 0, none⟩))) := .new hu _ (by simp) _
      obtain ⟨r1, r2⟩ := hr.alloc hu (o := .box T x.cells) (v := .pointer (some ⟨w.heap.size, 0, none⟩)) (x := .cells v.cells T) (by simp) (by simp [blk]) (fun hK =>
        ⟨w.heap.size, vs, rfl, hr.below.size, by rw [h1]; exact heap_alloc_new w _, h2.mono hK hkh, h3⟩)
      exact hn _ _ _ r1 r2 hkh (.ptr (by simp [newS, updS, upd1]) (by simp [upd1v]))
    · cases he
  · cases he

theorem sound_alloc {T : TypeId} {fresh : Nat} (hop : o.op = .alloc T) (hu : h fresh = .unborn) {z : AV} (hz : zeroA P T = some z) {eff : Eff} (he : allocA P T z fresh = some eff) :
    OpOK P C h φ w a o (newS (updS h eff.upd) fresh eff.new) eff.val := by
  obtain ⟨v, i, h1, h2, h3, rfl⟩ := zeroA_run (w := w) hz
  refine sound_newVar hr hu (vrep_ofValue v _ _ _ _) he ?_
  simp [execOp, hop, Instr.alloc, h3, newVar, newRow]

include hρ hl

theorem sound_box {T : TypeId} {x : Operand} {fresh : Nat} (hop : o.op = .box T x) (hu : h fresh = .unborn) {eff : Eff} (he : allocA P T (rd x) fresh = some eff) :
    OpOK P C h φ w a o (newS (updS h eff.upd) fresh eff.new) eff.val := by
  refine sound_newVar hr hu (hρ x) he ?_
  simp [execOp, hop, Instr.box, newVar, newRow]

omit hr hl in
theorem prep_evals : ∀ (ps : List (Nat × Operand)), PRep h φ (okB C h φ w) w (evals rd ps) (ps.map fun p => (p.1, a.eval p.2))
  | [] => .nil
  | (i, x) :: r => .cons (hρ x) (prep_evals r)

omit hr hρ hl in
theorem known_all {cs : List AV} : known cs = true → ∀ x ∈ cs, x.one = true := by
  induction cs with
  | nil => intro _ x hx; simp at hx
  | cons y cs ih =>
    intro hk x hx
    simp [known] at hk
    rcases List.mem_cons.1 hx with rfl | hx
    · exact hk.1
    · exact ih hk.2 x hx
omit hr hρ hl in
theorem known_of {cs : List AV} : (∀ x ∈ cs, x.one = true) → known cs = true := by
  induction cs with
  | nil => intro _; rfl
  | cons y cs ih => intro hk; simp [known, hk y (by simp), ih (fun x hx => hk x (by simp [hx]))]

omit hr hρ hl in
theorem zero_cells (v : Value) : ∃ us, v.cells = us.toArray ∧ VRepL h φ (okB C h φ w) w (ofValue v).cells us := by
  have hv := vrep_ofValue v h φ (okB C h φ w) w
  have hc : ∀ (u : Value), (∀ cs, u ≠ .agg cs) → (ofValue u).cells = [ofValue u] ∧ u.cells = #[u] := by
    intro u hu
    constructor
    · rcases cells_one_or (x := ofValue u) with ⟨cs, he⟩ | he
      · exfalso
        unfold ofValue at he
        split at he
        · exact hu _ rfl
        · unfold ofCell at he; split at he <;> cases he
      · exact he
    · cases u <;> first | rfl | (exact absurd rfl (hu _))
  by_cases hu : ∃ cs, v = .agg cs
  · obtain ⟨cs, rfl⟩ := hu
    obtain ⟨us, h4, h5⟩ := VRep.inv_agg (cs := cs.toList.map ofCell) hv
    injection h4 with h4
    exact ⟨us, h4, h5⟩
  · obtain ⟨h1, h2⟩ := hc v (fun cs he => hu ⟨cs, he⟩)
    exact ⟨[v], h2, by rw [h1]; exact .cons hv .nil⟩

theorem sound_build {T : TypeId} {parts : Array (Nat × Operand)} (hop : o.op = .build T parts) {eff : Eff} (he : buildA P T (evals rd parts.toList) = some eff) :
    OpOK P C h φ w a o h eff.val ∧ eff.upd = [] ∧ eff.new = [] := by
  unfold buildA at he
  split at he
  · rename_i z pl hz hpl
    split at he
    · rename_i cs hcs
      simp [effV] at he; subst he
      obtain ⟨v, i, h1, h2, h3, rfl⟩ := zeroA_run (w := w) hz
      obtain ⟨us, h4, h5⟩ := zero_cells (C := C) (h := h) (φ := φ) (w := w) v
      obtain ⟨vs', h6, h7, h8⟩ := fill_spec pl (evals rd parts.toList) _ _ cs us hcs h5 (prep_evals hρ parts.toList)
      refine ⟨.same hr (v := .agg vs'.toArray) ?_ (.agg h7), rfl, rfl⟩
      have hpv : parts.map (fun p => (p.1, a.eval p.2)) = (parts.toList.map fun p => (p.1, a.eval p.2)).toArray := by
        apply Array.ext'; simp
      unfold partsA at hpl
      split at hpl
      · rename_i fs hu
        split at hpl
        · rename_i ps hps
          simp at hpl
          have hrp := run_places (P := P) w fs.toList ps hps
          have h6' : Instr.fill (fun x => ps[x]?) v.cells (parts.toList.map fun p => (p.1, a.eval p.2)) = some vs'.toArray := by rw [h4, ← h6, ← hpl]
          simp [execOp, hop, Instr.build, h3, run_underlying hu, Array.mapM_eq_mapM_toList, hrp, h6']
        · cases hpl
      · rename_i k e hu
        split at hpl
        · rename_i n hn
          simp at hpl
          have h6' : Instr.fill (fun i => some (i * n, n)) v.cells (parts.toList.map fun p => (p.1, a.eval p.2)) = some vs'.toArray := by rw [h4, ← h6, ← hpl]
          simp [execOp, hop, Instr.build, h3, run_underlying hu, run_sizeOf hn, h6']
        · cases hpl
      · cases hpl
    · cases he
  · cases he
end ops

end Go.Abs
