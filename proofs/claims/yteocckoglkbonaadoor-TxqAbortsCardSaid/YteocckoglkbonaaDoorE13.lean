/- Slices out of their parts; calls. -/
import Derived.Test.YteocckoglkbonaaDoorE12
set_option linter.unusedVariables false
set_option linter.unusedSimpArgs false
set_option linter.unusedSectionVars false
namespace Go.Abs
open Go.RowKit

def vrepl (us : List Value) : Nat → List Value
  | 0 => []
  | n + 1 => us ++ vrepl us n

theorem vrepl_range (us : List Value) (hn : us.length ≠ 0) : ∀ len, (List.range (len * us.length)).map (fun i => us.toArray[i % us.toArray.size]!) = vrepl us len := by
  intro len
  induction len with
  | zero => simp [vrepl]
  | succ len ih =>
    rw [show (len + 1) * us.length = us.length + len * us.length by rw [Nat.add_mul]; omega, List.range_add, List.map_append, List.map_map, vrepl, ← ih]
    congr 1
    · apply List.ext_getElem?
      intro i
      by_cases hi : i < us.length
      · simp [hi, Nat.mod_eq_of_lt hi]
      · simp [hi, List.getElem?_eq_none (Nat.le_of_not_lt hi)]
    · apply List.map_congr_left
      intro i _
      simp

theorem groups_spec {s : Nat} {ag : Bool} (hag : ag = true ∨ s = 1) : ∀ (len : Nat) (cs xs : List AV), groups s ag len cs = some xs → pures cs = true → xs.flatMap AV.cells = cs ∧ (∀ x ∈ xs, x.cells.length = s) ∧ xs.length = len := by
  intro len
  induction len with
  | zero =>
    intro cs xs h hp
    simp [groups] at h
    obtain ⟨h1, rfl⟩ := h
    simp [h1]
  | succ len ih =>
    intro cs xs h hp
    have pd : ∀ (l : List AV) (k : Nat), pures l = true → pures (l.drop k) = true := by
      intro l
      induction l with
      | nil => intro k _; simp [pures]
      | cons x l ih2 =>
        intro k hpl
        cases k with
        | zero => exact hpl
        | succ k => simp [pures] at hpl; exact ih2 k hpl.2
    unfold groups at h
    split at h
    · split at h
      · rename_i hle
        split at h
        · rename_i r hr
          simp at h; subst h
          obtain ⟨h1, h2, h3⟩ := ih _ _ hr (pd cs s hp)
          refine ⟨by simp [cells_agg, h1], fun x hx => ?_, by simp [h3]⟩
          rcases List.mem_cons.1 hx with rfl | hx
          · simp [cells_agg]; omega
          · exact h2 x hx
        · cases h
      · cases h
    · rename_i hagf
      have hs : s = 1 := by rcases hag with h1 | h1 <;> simp_all
      subst hs
      split at h
      · rename_i c r
        split at h
        · rename_i r' hr
          simp at h; subst h
          simp [pures] at hp
          obtain ⟨h1, h2, h3⟩ := ih _ _ hr hp.2
          refine ⟨by simp [pc_cells hp.1, h1], fun x hx => ?_, by simp [h3]⟩
          rcases List.mem_cons.1 hx with rfl | hx
          · simp [pc_cells hp.1]
          · exact h2 x hx
        · cases h
      · cases h

section ops
variable {P : Program} {E : Env} {C : C0} {h : SH} {φ : Nat → Value} {w : World} {a : Act} {o : Oper} {rd : Operand → AV} {look : Nat → Ob}

/-- What is let be may be seen whole. -/
theorem viewOK_frz {h1 : SH} (hr1 : Rel C h1 φ w) (hi : FrzInv look h1) {ids : List Nat} (hf : ∀ id ∈ ids, ∀ T s xs, look id = .row T s xs → h1 id = .fro xs) :
    ViewOK look h1 φ (okB C h1 φ w) (okB C h1 φ w) w ids := by
  refine ⟨fun _ hb => hb, fun k hk xs' hx' => ?_, fun k hk cs' hx' => ?_⟩
  · rcases hx' with ⟨T', s', hx'⟩ | hx'
    · have := hf k hk T' s' xs' hx'
      have ho := hr1.obj k
      rw [this] at ho
      exact ⟨by rw [this]; simp, ho⟩
    · have : h1 k = .fro xs' := by
        rcases hi k (by rw [hx']; simp) with h9 | h9
        · rw [h9, hx']
        · simp [frzOf, hx'] at h9
      have ho := hr1.obj k
      rw [this] at ho
      exact ⟨by rw [this]; simp, ho⟩
  · have : h1 k = .fbox cs' := by
      rcases hi k (by rw [hx']; simp) with h9 | h9
      · rw [h9, hx']
      · simp [frzOf, hx'] at h9
    have ho := hr1.obj k
    rw [this] at ho
    exact ho

theorem viewP_rep {h1 : SH} {A : Nat → Prop} : ∀ {ps qs : List (Nat × AV)} {vs : List (Nat × Value)}, viewP look ps = some qs → ViewOK look h1 φ A A w (refsP ps) → PRep h1 φ A w ps vs → PRep h1 φ A w qs vs
  | [], qs, vs, he, k, p => by simp [viewP] at he; subst he; exact p
  | (i, x) :: ps, qs, vs, he, k, p => by
    simp only [viewP] at he
    split at he
    · rename_i y ys e1 e2
      simp at he; subst he
      cases p with
      | cons p1 p2 =>
        exact .cons (.pure (view_rep e1 (k.mono (by simp [refsP]; intro id hi; exact .inl hi)) p1)) (viewP_rep e2 (k.mono (by simp [refsP]; intro id hi; exact .inr hi)) p2)
    · cases he

theorem PRep.mono' {h' : SH} {φ' : Nat → Value} {A A' : Nat → Prop} {w' : World} (k : KeepB A A' w w') (kh : KeepH h h' φ φ') : ∀ {ps vs}, PRep h φ A w ps vs → PRep h' φ' A' w' ps vs
  | _, _, .nil => .nil
  | _, _, .cons p q => .cons (p.mono k kh) (PRep.mono' k kh q)

theorem repl_rep {A : Nat → Prop} {cs : List AV} {us : List Value} (p : VRepL h φ A w cs us) : ∀ n, VRepL h φ A w (repl cs n) (vrepl us n)
  | 0 => .nil
  | n + 1 => p.append (repl_rep p n)

variable (hr : Rel C h φ w) (hρ : ∀ x, VRep h φ (okB C h φ w) w (rd x) (a.eval x)) (hl : Sees look h)
include hr hρ hl

theorem sound_buildSlice {T : TypeId} {len : Nat} {parts : Array (Nat × Operand)} (hop : o.op = .buildSlice T len parts) {fresh : Nat} (hf : h fresh = .unborn) {eff : Eff}
    (he : buildSliceA P look T len (evals rd parts.toList) fresh = some eff) : OpOK P C h φ w a o (newS (updS h eff.upd) fresh eff.new) eff.val := by
  unfold buildSliceA at he
  split at he
  · cases he
  · rename_i e hT
    have hu : P.underlying T = some (.slice e) := by unfold elemA at hT; split at hT <;> simp_all
    split at he
    · rename_i s ag z ps hs hag hz hps
      split at he
      · rename_i hcond
        simp at hcond
        obtain ⟨⟨⟨c1, c2⟩, c3⟩, c4⟩ := hcond
        split at he
        · rename_i cs hcs
          split at he
          · rename_i hpu
            split at he
            · rename_i xs hgr
              simp at he; subst he
              obtain ⟨zv, inf, h1, h2, h3, rfl⟩ := zeroA_run (w := w) hz
              obtain ⟨r1, r2, r3, r4, r5, r6⟩ := Rel.frz (freeze look (refsP (evals rd parts.toList))) (freeze_ok _) hr hl.inv
              have hvok := viewOK_frz r1 r4 (ids := refsP (evals rd parts.toList)) (fun id hid T' s' xs' hx => r5 _ (freeze_mem hid hx))
              have hprep := viewP_rep hps hvok ((prep_evals hρ parts.toList).mono' r2 r3)
              simp only [newS]
              have hf1 : updS h (freeze look (refsP (evals rd parts.toList))) fresh = .unborn := by
                rw [r6 fresh (fun p hp e => by
                  obtain ⟨_, T', s', xs', hx⟩ := freeze_row hp
                  have := hl.get hx (by simp)
                  rw [e, hf] at this; cases this), hf]
              generalize updS h (freeze look (refsP (evals rd parts.toList))) = g1 at r1 r2 r3 r4 r5 r6 hvok hprep hf1
              obtain ⟨us, k1, k2⟩ := zero_cells (C := C) (h := g1) (φ := φ) (w := w) zv
              have hus : us.length = s := by rw [← c1, k2.length]
              obtain ⟨vs', k3, k4, k5⟩ := fill_spec (fun i => some (i * s, s)) ps _ (repl (ofValue zv).cells len) cs (vrepl us len) hcs (repl_rep k2 len) hprep
              have hpure := pures_rep hpu k4
              obtain ⟨q1, q2, q3⟩ := groups_spec (by rcases c4 with h | h <;> simp [h]) len cs xs hgr hpu
              have hvl : vs'.length = len * s := by
                rw [← k4.length, ← q1]
                have flat : ∀ (l : List AV), (∀ y ∈ l, y.cells.length = s) → (l.flatMap AV.cells).length = l.length * s := by
                  intro l
                  induction l with
                  | nil => intro _; simp
                  | cons y l ih => intro hy; simp only [List.flatMap_cons, List.length_append, List.length_cons, hy y (by simp), ih (fun z hz => hy z (by simp [hz])), Nat.add_mul]; omega
                rw [flat xs q2, q3]
              have hone : ∀ u ∈ vs', u.oneCell' = true := k4.ones (by
                have : ∀ l : List AV, pures l = true → known l = true := by
                  intro l
                  induction l with
                  | nil => intro _; rfl
                  | cons x l ih =>
                    intro hp
                    simp [pures] at hp
                    have hx1 : x.one = true := by
                      have := hp.1
                      cases x <;> first | rfl | (simp [AV.pc] at this; done)
                    simp [known, hx1, ih hp.2]
                exact this _ hpu)
              have hrun : (execOp a.eval o).run P w = .ok (.value (.slice (some ⟨w.heap.size, 0, none⟩) len len)) (w.alloc (.cells vs'.toArray e)) := by
                have hinit : ((Array.range (len * s)).map fun x => (if len * s = 0 then (#[] : Array Value) else zv.cells)[x % (if len * s = 0 then (#[] : Array Value) else zv.cells).size]!) = (vrepl us len).toArray := by
                  apply Array.ext'
                  by_cases h0 : len * s = 0
                  · have : len = 0 := by rcases Nat.mul_eq_zero.1 h0 with h | h; exact h; exact absurd h c2
                    subst this
                    simp [vrepl]
                  · simp only [if_neg h0, k1]
                    rw [← vrepl_range us (by omega) len, hus]
                    simp
                have hpv : (parts.map fun p => (p.1, a.eval p.2)).toList = (parts.toList.map fun p => (p.1, a.eval p.2)) := by simp
                simp only [execOp, hop, Instr.buildSlice, Sem.run_bind, run_underlying hu, Result.andThen_ok, run_sizeOf hs]
                rw [Sem.run_ite, if_neg (by omega)]
                by_cases h0 : len * s = 0
                · simp only [if_pos h0] at hinit ⊢
                  simp only [Sem.run_bind, Sem.run_pure, Result.andThen_ok, hinit, hpv, k3]
                  simp [newRow]
                · simp only [if_neg h0] at hinit ⊢
                  simp only [Sem.run_bind, Sem.run_pure, Result.andThen_ok, h3, hinit, hpv, k3]
                  simp [newRow]
              have hown := World.ownsRow_lit (w := w) (base := C.w0.heap.size) (e := e) (size := s) vs'.toArray len r1.below.size (by unfold maxLen; have := Nat.le_mul_of_pos_right len (Nat.pos_of_ne_zero c2); omega) (by simpa using hvl)
              obtain ⟨t1, t2⟩ := r1.alloc hf1 (o := .row e s xs) (v := .slice (some ⟨w.heap.size, 0, none⟩) len len) (x := .cells vs'.toArray e) (by simp) (by simp [blk]) (fun hK =>
                ⟨vs', by rw [q3]; simpa using hown, by rw [q1]; exact hpure.mono hK, q2, Nat.pos_of_ne_zero c2, hone⟩)
              have kh : KeepH g1 (upd1 g1 fresh (.row e s xs)) φ (upd1v φ fresh (.slice (some ⟨w.heap.size, 0, none⟩) len len)) := .new hf1 _ (by simp) _
              intro F q next Q hF hn
              rw [hrun]
              exact hn _ _ _ t1 (r2.trans t2) (r3.trans kh) (.own (by simp [upd1]) rfl (fun _ => by simp [upd1v]))
            · cases he
          · cases he
        · cases he
      · cases he
    · cases he
end ops

end Go.Abs
