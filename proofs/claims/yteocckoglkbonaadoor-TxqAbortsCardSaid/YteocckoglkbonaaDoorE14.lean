/- Calls. -/
import Derived.Test.YteocckoglkbonaaDoorE13
set_option linter.unusedVariables false
set_option linter.unusedSimpArgs false
set_option linter.unusedSectionVars false
namespace Go.Abs
open Go.RowKit

section flat
variable {A A' : Nat → Prop} {w : World}
mutual
theorem Rep.flat : ∀ {x v}, Rep A w x v → x.hasSl = false → Rep A' w x v
  | _, _, .bool b, _ => .bool b
  | _, _, .int k n, _ => .int k n
  | _, _, .str s, _ => .str s
  | _, _, .agg h, hf => .agg (RepL.flat h (by simpa [AV.hasSl] using hf))
  | _, _, .tup h, hf => .tup (RepL.flat h (by simpa [AV.hasSl] using hf))
  | _, _, .fn h, hf => by simp [AV.hasSl] at hf
  | _, _, .nilp, _ => .nilp
  | _, _, .pin ha h, hf => by simp [AV.hasSl] at hf
  | _, _, .nil fl, hf => by simp [AV.hasSl] at hf
  | _, _, .sl0 h, hf => by simp [AV.hasSl] at hf
  | _, _, .sl h1 h2 h3 ha h, hf => by simp [AV.hasSl] at hf
theorem RepL.flat : ∀ {xs vs}, RepL A w xs vs → AV.hasSlL xs = false → RepL A' w xs vs
  | _, _, .nil, _ => .nil
  | _, _, .cons h t, hf => .cons (Rep.flat h (by simp [AV.hasSlL] at hf; exact hf.1)) (RepL.flat t (by simp [AV.hasSlL] at hf; exact hf.2))
end
mutual
theorem Rep.shift {n : Nat} : ∀ {x v}, Rep A w x v → x.shift n = x
  | _, _, .bool b => rfl
  | _, _, .int k n => rfl
  | _, _, .str s => rfl
  | _, _, .agg h => by simp [AV.shift, RepL.shift h]
  | _, _, .tup h => by simp [AV.shift, RepL.shift h]
  | _, _, .fn h => rfl
  | _, _, .nilp => rfl
  | _, _, .pin ha h => rfl
  | _, _, .nil fl => rfl
  | _, _, .sl0 h => rfl
  | _, _, .sl h1 h2 h3 ha h => rfl
theorem RepL.shift {n : Nat} : ∀ {xs vs}, RepL A w xs vs → AV.shiftL n xs = xs
  | _, _, .nil => rfl
  | _, _, .cons h t => by simp [AV.shiftL, Rep.shift h, RepL.shift t]
end

/-- One's own row as a slice. -/
theorem rep_of_owns {base : Nat} {T : TypeId} {s : Nat} {v : Value} {xs : List AV} {cells : List Value} (h1 : w.ownsRow base T s v xs.length cells) (h2 : RepL A w (xs.flatMap AV.cells) cells)
    (h3 : ∀ x ∈ xs, x.cells.length = s) (h5 : ∀ u ∈ cells, u.oneCell' = true) (hA : ∀ b, blk v = some b → A b) : Rep A w (.sl .p xs) v := by
  rcases h1.2 with ⟨hv, hn⟩ | ⟨g, cap, cur, hv, hb, hg, hc1, hc2, hc3, ht⟩
  · rw [hv]
    have : xs = [] := List.eq_nil_of_length_eq_zero hn
    subst this
    exact .nil .p
  · rw [hv]
    cases xs with
    | nil => exact .sl0 hc2
    | cons y ys =>
      refine .sl rfl hc1 hc2 (hA g (by simp [hv, blk])) (s := s) (RepRow.ofAt (RepAt.ofList h2 (fun i u hu => ?_) h5) h3)
      have := h1.cells (g := g) (by simp [hv, Value.ownBlock]) i u hu
      rw [add_at] at this
      simpa using this
end flat

theorem rowsOnly_get {rows : List Ob} (h : rowsOnly rows = true) (k : Nat) (hk : k < rows.length) : ∃ T s xs, rows.getD k .unborn = .row T s xs := by
  induction rows generalizing k with
  | nil => simp at hk
  | cons o rows ih =>
    cases o <;> simp [rowsOnly] at h
    cases k with
    | zero => exact ⟨_, _, _, rfl⟩
    | succ k => simpa using ih h k (by simpa using hk)
theorem rowsFlat_get {rows : List Ob} (h : rowsFlat rows) (k : Nat) {T : TypeId} {s : Nat} {xs : List AV} (hk : rows.getD k .unborn = .row T s xs) : ∀ x ∈ xs, x.hasSl = false := by
  induction rows generalizing k with
  | nil => simp at hk
  | cons o rows ih =>
    cases o with
    | row T' s' xs' =>
      cases k with
      | zero => simp at hk; obtain ⟨_, _, rfl⟩ := hk; exact h.1
      | succ k => exact ih h.2 k (by simpa using hk)
    | _ => simp [rowsFlat] at h
theorem hasSl_cells {x : AV} (h : x.hasSl = false) : ∀ y ∈ x.cells, y.hasSl = false := by
  have key : ∀ cs : List AV, AV.hasSlL cs = false → ∀ y ∈ cs, y.hasSl = false := by
    intro cs
    induction cs with
    | nil => intro _ y hy; simp at hy
    | cons c cs ih =>
      intro hf y hy
      simp [AV.hasSlL] at hf
      rcases List.mem_cons.1 hy with rfl | hy
      · exact hf.1
      · exact ih hf.2 y hy
  rcases cells_one_or (x := x) with ⟨cs, rfl⟩ | h1
  · exact key cs (by simpa [AV.hasSl] using h)
  · rw [h1]; intro y hy; simp at hy; rw [hy]; exact h
theorem hasSlL_of {cs : List AV} (h : ∀ y ∈ cs, y.hasSl = false) : AV.hasSlL cs = false := by
  induction cs with
  | nil => rfl
  | cons c cs ih => simp [AV.hasSlL, h c (by simp), ih (fun y hy => h y (by simp [hy]))]

/-- The heap behind new rows. -/
theorem newS_get : ∀ (rows : List Ob) (h : SH) (fresh k : Nat), newS h fresh rows k = if fresh ≤ k ∧ k < fresh + rows.length then rows.getD (k - fresh) .unborn else h k := by
  intro rows
  induction rows with
  | nil => intro h fresh k; simp [newS]; intro h1 h2; omega
  | cons o rows ih =>
    intro h fresh k
    simp only [newS, ih, List.length_cons]
    by_cases h1 : k = fresh
    · subst h1
      rw [if_neg (by omega), if_pos (by omega)]
      simp [upd1]
    · by_cases h2 : fresh ≤ k ∧ k < fresh + (rows.length + 1)
      · rw [if_pos (by omega), if_pos h2, show k - fresh = (k - (fresh + 1)) + 1 by omega]
        simp
      · rw [if_neg (by omega), if_neg h2]
        simp [upd1, h1]

section ops
variable {P : Program} {E : Env} {C : C0} {h : SH} {φ : Nat → Value} {w : World} {a : Act} {o : Oper} {rd : Operand → AV} {look : Nat → Ob}

def φnew (φ φr : Nat → Value) (fresh n : Nat) : Nat → Value := fun k => if fresh ≤ k ∧ k < fresh + n then φr (k - fresh) else φ k

/-- What a call hands back is taken over. -/
theorem Rel.take (hr : Rel C h φ w) {A : Nat → Prop} {rows : List Ob} {fresh : Nat} (hro : rowsOnly rows = true) (hf : ∀ k, k < rows.length → h (fresh + k) = .unborn) {r : AV} (hres : r.resOK = true)
    {v : Value} {φr : Nat → Value} {w' : World} (hR : Rel ⟨A, w⟩ (toSH rows) φr w') (hV : VRep (toSH rows) φr (okB ⟨A, w⟩ (toSH rows) φr w') w' r v)
    (hsub : (∀ b, A b → okB C h φ w b) ∨ (r.hasSl = false ∧ rowsFlat rows)) :
    let h' := newS h fresh rows
    let φ' := φnew φ φr fresh rows.length
    Rel C h' φ' w' ∧ KeepB (okB C h φ w) (okB C h' φ' w') w w' ∧ KeepH h h' φ φ' ∧ VRep h' φ' (okB C h' φ' w') w' (r.shift fresh) v := by
  intro h' φ'
  have hb : Below w.heap.size w w' := hR.below
  have hin : ∀ k, fresh ≤ k ∧ k < fresh + rows.length → h k = .unborn := fun k hk => by
    have := hf (k - fresh) (by omega)
    rwa [show fresh + (k - fresh) = k by omega] at this
  have hh : ∀ k, h' k = if fresh ≤ k ∧ k < fresh + rows.length then rows.getD (k - fresh) .unborn else h k := fun k => newS_get rows h fresh k
  have hlive : ∀ k, fresh ≤ k ∧ k < fresh + rows.length → (toSH rows (k - fresh)).live = true := fun k hk => by
    obtain ⟨T, s, xs, hx⟩ := rowsOnly_get hro (k - fresh) (by omega)
    show (rows.getD (k - fresh) .unborn).live = true
    rw [hx]; rfl
  have kh : KeepH h h' φ φ' := by
    have hnf : ∀ k, h k ≠ .unborn → ¬ (fresh ≤ k ∧ k < fresh + rows.length) := fun k hk e => hk (hin k e)
    exact ⟨fun k hk => by rw [hh, if_neg (hnf k hk)]; exact hk, fun k hk => by simp only [φ', φnew, if_neg (hnf k hk)], fun k hk hd => by rwa [hh, if_neg (hnf k hk)] at hd,
      fun k T s xs hk hx => ⟨T, xs, by rwa [hh, if_neg (hnf k hk)] at hx⟩⟩
  have hokr : (∀ b, A b → okB C h φ w b) → ∀ b, okB ⟨A, w⟩ (toSH rows) φr w' b → okB C h' φ' w' b := by
    intro hs b hbb
    refine ⟨hbb.1, ?_, fun k hk he => ?_⟩
    · rcases hbb.2.1 with h1 | h1
      · exact (hs b h1).2.1
      · exact .inr (Nat.le_trans hr.below.size h1)
    · rw [hh] at hk
      by_cases e : fresh ≤ k ∧ k < fresh + rows.length
      · rw [if_pos e] at hk
        simp only [φ', φnew, if_pos e] at he
        exact hbb.2.2 (k - fresh) hk he
      · rw [if_neg e] at hk
        simp only [φ', φnew, if_neg e] at he
        rcases hbb.2.1 with h1 | h1
        · exact (hs b h1).2.2 k hk he
        · have := ((hr.obj k).block hk he).1
          exact absurd h1 (by simpa using Nat.not_le.2 this)
  obtain ⟨r1, r2⟩ := hr.step (h' := h') (φ' := φ') (w' := w') (hr.below.trans (hb.mono hr.below.size)) hb.size kh
    (fun b hbb => hb.block b hbb.1)
    (fun k hk hu => by
      have : ¬ (fresh ≤ k ∧ k < fresh + rows.length) := fun e => hu (hin k e)
      rwa [hh, if_neg this] at hk)
    (fun k hk hu b hbb => by
      by_cases e : fresh ≤ k ∧ k < fresh + rows.length
      · simp only [φ', φnew, if_pos e] at hbb
        exact .inl ((hR.obj (k - fresh)).block (hlive k e) hbb).2
      · rw [hh, if_neg e, hu] at hk
        simp [Ob.live] at hk)
    (fun k k' b hk hk' hu hu' hbb hbb' => by
      have hfr : ∀ q, (h' q).live = true → h q = .unborn → fresh ≤ q ∧ q < fresh + rows.length := by
        intro q hq hqu
        by_cases e : fresh ≤ q ∧ q < fresh + rows.length
        · exact e
        · rw [hh, if_neg e, hqu] at hq; simp [Ob.live] at hq
      have e1 := hfr k hk hu
      have e2 := hfr k' hk' hu'
      simp only [φ', φnew, if_pos e1] at hbb
      simp only [φ', φnew, if_pos e2] at hbb'
      have := hR.inj _ _ b (hlive k e1) (hlive k' e2) hbb hbb'
      omega)
    (fun hK k => by
      by_cases e : fresh ≤ k ∧ k < fresh + rows.length
      · right
        have ho := hR.obj (k - fresh)
        obtain ⟨T, s, xs, hx⟩ := rowsOnly_get hro (k - fresh) (by omega)
        rw [hh, if_pos e, hx]
        simp only [φ', φnew, if_pos e]
        simp only [toSH, hx] at ho
        obtain ⟨cells, g1, g2, g3, g4, g5⟩ := ho
        refine ⟨cells, ?_, ?_, g3, g4, g5⟩
        · refine ⟨g1.1, ?_⟩
          rcases g1.2 with g | ⟨q, cap, cur, q1, q2, rest⟩
          · exact .inl g
          · exact .inr ⟨q, cap, cur, q1, Nat.le_trans hr.below.size q2, rest⟩
        · rcases hsub with hs | ⟨_, hs⟩
          · exact g2.mono (fun b hbb => ⟨hokr hs b hbb, rfl⟩)
          · refine g2.flat (hasSlL_of fun y hy => ?_)
            obtain ⟨x, hx1, hx2⟩ := List.mem_flatMap.1 hy
            exact hasSl_cells (rowsFlat_get hs (k - fresh) hx x hx1) y hx2
      · left
        refine ⟨by rw [hh, if_neg e], fun hu hlk b hbb => hb.block b ((hr.obj k).block hlk hbb).1⟩)
  refine ⟨r1, r2, kh, ?_⟩
  have pureCase : ∀ {x : AV} {u : Value}, (r.hasSl = false → x.hasSl = false) → Rep (okB ⟨A, w⟩ (toSH rows) φr w') w' x u → VRep h' φ' (okB C h' φ' w') w' (x.shift fresh) u := by
    intro x u hxf hp
    rw [hp.shift]
    rcases hsub with hs | ⟨hs, _⟩
    · exact .pure (hp.mono (fun b hbb => ⟨hokr hs b hbb, rfl⟩))
    · exact .pure (hp.flat (hxf hs))
  -- the result, part by part
  have key : ∀ (n : Nat), (∀ (x : AV) (u : Value), SizeOf.sizeOf x < n → x.resOK = true → (r.hasSl = false → x.hasSl = false) → VRep (toSH rows) φr (okB ⟨A, w⟩ (toSH rows) φr w') w' x u → VRep h' φ' (okB C h' φ' w') w' (x.shift fresh) u) ∧
      (∀ (xs : List AV) (us : List Value), SizeOf.sizeOf xs < n → AV.resOKL xs = true → (r.hasSl = false → AV.hasSlL xs = false) → VRepL (toSH rows) φr (okB ⟨A, w⟩ (toSH rows) φr w') w' xs us → VRepL h' φ' (okB C h' φ' w') w' (AV.shiftL fresh xs) us) := by
    intro n
    induction n with
    | zero => exact ⟨fun x u h => by omega, fun x u h => by omega⟩
    | succ n ih =>
      constructor
      · intro x u hsz hok hsl hp
        cases hp with
        | pure p => exact pureCase hsl p
        | agg q => simp at hsz; exact .agg (ih.2 _ _ (by omega) (by simpa [AV.resOK] using hok) (by simpa [AV.hasSl] using hsl) q)
        | tup q => simp at hsz; exact .tup (ih.2 _ _ (by omega) (by simpa [AV.resOK] using hok) (by simpa [AV.hasSl] using hsl) q)
        | ptr _ _ => simp [AV.resOK] at hok
        | ptrE _ _ _ => simp [AV.resOK] at hok
        | junk _ => simp [AV.resOK] at hok
        | own hu h1 hv =>
          rename_i id
          have hid : id < rows.length := by
            rcases Nat.lt_or_ge id rows.length with h | h
            · exact h
            · exfalso; apply hu; simp [toSH, List.getElem?_eq_none h]
          have e : fresh ≤ id + fresh ∧ id + fresh < fresh + rows.length := by omega
          obtain ⟨T, s, xs, hx⟩ := rowsOnly_get hro id hid
          refine .own (by rw [hh, if_pos e, show id + fresh - fresh = id by omega, hx]; simp) h1 (fun _ => ?_)
          simp only [φ', φnew, if_pos e, show id + fresh - fresh = id by omega]
          exact hv (by show rows.getD id .unborn ≠ .dead; rw [hx]; simp)
      · intro xs us hsz hok hsl hp
        cases hp with
        | nil => exact .nil
        | cons p q =>
          simp at hsz
          simp [AV.resOKL] at hok
          have hsl' : r.hasSl = false → _ := fun hr => by simpa [AV.hasSlL] using hsl hr
          exact .cons (ih.1 _ _ (by omega) hok.1 (fun hr => (hsl' hr).1) p) (ih.2 _ _ (by omega) hok.2 (fun hr => (hsl' hr).2) q)
  exact (key (SizeOf.sizeOf r + 1)).1 r v (by omega) hres (fun h => h) hV

theorem run_callFunc {f : FuncId} (hE : Enters P f) (args : Array Value) : (callFunc f args).run P w = .ok (.enter f args) w := by
  obtain ⟨fn, c, h1, h2, h3⟩ := hE
  unfold callFunc
  simp only [Sem.run_bind, run_program, Result.andThen_ok, h1]
  rw [Sem.run_ite, if_neg (by simp [h2])]
  rw [Sem.run_ite, if_neg (by simp [h3])]
  rfl

variable (hr : Rel C h φ w) (hρ : ∀ x, VRep h φ (okB C h φ w) w (rd x) (a.eval x)) (hl : Sees look h)
include hr hρ hl

theorem sound_call (hEO : EnvOK E) (hEw : E C.w0) (hC : ∀ b, C.A0 b → b < C.w0.heap.size) {c : Call} {g : Operand} (hop : o.op = .call c) (hc : c.callee = .value g) {f : FuncId} {caps : List AV} (hg : rd g = .fn f caps)
    {fresh : Nat} {ans : Option Ans} {eff : Eff} (he : callA P E look f (evalL rd c.args.toList ++ caps) fresh ans = some eff) (hf : ∀ k, k < eff.new.length → h (fresh + k) = .unborn) (hob : All eff.obl) :
    OpOK P C h φ w a o (newS (updS h eff.upd) fresh eff.new) eff.val := by
  have hgv := hρ g
  rw [hg] at hgv
  obtain ⟨vcaps, hgv, hcaps⟩ := hgv.inv_fn
  have hEw' : E w := hEO _ _ hEw hr.below
  have hargs : VRepL h φ (okB C h φ w) w (evalL rd c.args.toList ++ caps) (c.args.toList.map a.eval ++ vcaps) := (evalL_rep hρ c.args.toList).append hcaps.v
  have hrun : Enters P f → (execOp a.eval o).run P w = .ok (.enter f (c.args.toList.map a.eval ++ vcaps).toArray) w := by
    intro hent
    have : c.args.map a.eval ++ vcaps.toArray = (c.args.toList.map a.eval ++ vcaps).toArray := by apply Array.ext'; simp
    simp only [execOp, hop, resolve, hc, Deferred.ofValue, hgv, Sem.run_bind, Sem.run_pure, Result.andThen_ok, invoke, Array.empty_append, this, run_callFunc hent]
  unfold callA at he
  split at he
  · rename_i as rows r hv
    split at he
    · rename_i hcond
      simp at hcond
      simp at he; subst he
      obtain ⟨hent, hcall⟩ := hob.1
      obtain ⟨r1, r2, r3, r4, r5, r6⟩ := Rel.frz (freeze look (AV.refsL (evalL rd c.args.toList ++ caps))) (freeze_ok _) hr hl.inv
      have hvok := viewOK_frz r1 r4 (ids := AV.refsL (evalL rd c.args.toList ++ caps)) (fun id hid T' s' xs' hx => r5 _ (freeze_mem hid hx))
      have hrep := viewK_repL hv hvok (hargs.mono r2 r3)
      intro F n next Q hF hn
      rw [hrun hent]
      have hcl := hcall ⟨okB C (updS h (freeze look (AV.refsL (evalL rd c.args.toList ++ caps)))) φ w, w⟩ _ hEw' (fun b hb => hb.1) hrep
      refine ⟨fun hd => (by rw [hF.depth] at hd; cases hd), (hF.calls (n - 1) hcl).mono fun e w' hres => ?_⟩
      obtain ⟨v, φr, rfl, hR, hV⟩ := hres
      have hf1 : ∀ k, k < rows.length → updS h (freeze look (AV.refsL (evalL rd c.args.toList ++ caps))) (fresh + k) = .unborn := by
        intro k hk
        rw [r6 (fresh + k) (fun p hp e => by
          obtain ⟨_, T', s', xs', hx⟩ := freeze_row hp
          have := hl.get hx (by simp)
          rw [e, hf k hk] at this; cases this)]
        exact hf k hk
      obtain ⟨t1, t2, t3, t4⟩ := r1.take hcond.1 hf1 hcond.2 hR hV (.inl fun b hb => hb)
      exact hn v _ w' t1 (r2.trans t2) (r3.trans t3) t4
    · cases he
  · rename_i as rows r hv
    split at he
    · rename_i hcond
      simp at hcond
      simp at he; subst he
      obtain ⟨hent, hcall⟩ := hob.1
      have hvok : ViewOK look h φ (okB C h φ w) (fun b => b < w.heap.size) w (AV.refsL (evalL rd c.args.toList ++ caps)) := by
        refine ⟨fun b hb => hb.1, fun k hk xs' hx' => ?_, fun k hk cs' hx' => ?_⟩
        · rcases hx' with ⟨T', s', hx'⟩ | hx'
          · have hid := hl.get hx' (by simp)
            have ho := hr.obj k
            rw [hid] at ho
            have hbl := fun b => (hr.obj k).block (b := b) (by simp [hid, Ob.live])
            obtain ⟨cells, g1, g2, g3, g4, g5⟩ := ho
            exact ⟨by rw [hid]; simp, rep_of_owns g1 (g2.mono fun b hb => ⟨hb.1, rfl⟩) g3 g5 (fun b hb => (hbl b hb).1)⟩
          · have hid := hl.get hx' (by simp)
            have ho := hr.obj k
            rw [hid] at ho
            exact ⟨by rw [hid]; simp, Rep.mono (fun b hb => ⟨hb.1, rfl⟩) ho⟩
        · have hid := hl.get hx' (by simp)
          have ho := hr.obj k
          rw [hid] at ho
          obtain ⟨b, g1, g2, g3⟩ := ho
          exact ⟨b, g1, g2.1, RepAt.mono (fun b hb => ⟨hb.1, rfl⟩) g2 g3⟩
      have hrep := viewK_repL hv hvok hargs
      intro F n next Q hF hn
      rw [hrun hent]
      have hcl := hcall ⟨fun b => b < w.heap.size, w⟩ _ hEw' (fun b hb => hb) hrep
      refine ⟨fun hd => (by rw [hF.depth] at hd; cases hd), (hF.calls (n - 1) hcl).mono fun e w' hres => ?_⟩
      obtain ⟨v, φr, rfl, hR, hV⟩ := hres
      obtain ⟨t1, t2, t3, t4⟩ := hr.take hcond.1.1 hf hcond.1.2 hR hV (.inr ⟨hcond.2, hob.2.1⟩)
      exact hn v _ w' t1 t2 t3 t4
    · cases he
  · cases he
end ops

end Go.Abs
