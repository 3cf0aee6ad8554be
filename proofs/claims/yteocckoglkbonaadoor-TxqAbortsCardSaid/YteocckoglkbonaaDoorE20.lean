/- Functions: from a cut to a cut, and to the end. -/
import Derived.Test.YteocckoglkbonaaDoorE19
set_option linter.unusedVariables false
set_option linter.unusedSimpArgs false
set_option linter.unusedSectionVars false
namespace Go.Abs
open Go.RowKit

/-- From here on function f goes on to its end, and hands back that. -/
def Goes (P : Program) (C : C0) (f : FuncId) (todo : List Item) (ts : List AV) (h : Heap) (rows : List Ob) (r : AV) : Prop :=
  ∀ (φ : Nat → Value) (a : Act) (w : World), SRel C ⟨ts, h, 0, [], []⟩ φ a w → a.defers = [] → ∀ (b : Frame) (cs : List Frame), b.fn = f → b.kind = .normal → b.roundOf = none →
    ∃ v w' fr, ARes C rows r (.returned v) w' ∧ Steps P (lone (b.atR a todo) cs w) (lone fr cs w') ∧ fr.fn = f ∧ fr.leaving P w' (.returned v)

section
variable {P : Program} {E : Env} {C : C0} {f : FuncId}

theorem renT_get {look : Nat → Ob} {keep live : List Nat} : ∀ {l : List AV} {t0 : Nat} {l' : List AV}, renT look keep live t0 l = some l' → l'.length = l.length ∧
    ∀ t, t < l.length → l'.getD t .junk = .junk ∨ (l.getD t .junk).ren look keep = some (l'.getD t .junk) := by
  intro l
  induction l with
  | nil => intro t0 l' h; simp [renT] at h; subst h; exact ⟨rfl, fun t h => by simp at h⟩
  | cons x l ih =>
    intro t0 l' h
    simp only [renT] at h
    split at h
    · rename_i y ys h1 h2
      simp at h; subst h
      obtain ⟨h3, h4⟩ := ih h2
      refine ⟨by simp [h3], fun t ht => ?_⟩
      cases t with
      | zero =>
        simp only [List.getD_cons_zero]
        split at h1
        · exact .inr h1
        · simp at h1; exact .inl h1.symm
      | succ t => simp only [List.getD_cons_succ]; exact h4 t (by simpa using ht)
    · cases h

theorem renH_kept {h : Heap} {keep : List Nat} {h' : Heap} (hn : nodupN keep = true) (e : renH (getO h) keep keep = some h') : Kept (getO h) keep (getO h') := by
  obtain ⟨h1, h2⟩ := renH_get e
  refine ⟨hn, fun k id hk => ?_, fun k hk => ?_⟩
  · obtain ⟨o, h3, h4⟩ := h2 k id hk
    rw [h4]
    simp [getO, List.getD_eq_getElem?_getD, h3]
  · have : keep.length ≤ k := by simpa using hk
    simp only [getO]
    rw [List.getD_eq_getElem?_getD, List.getElem?_eq_none (by omega)]
    rfl

theorem canon_sound {live keep : List Nat} {ts ts' : List AV} {h h' : Heap} {cnt cnt' : Nat} {scr scr' : Script} {ob ob' : List Prop} (e : canonA live keep ts h = some (ts', h')) {φ : Nat → Value} {a : Act} {w : World} (hs : SRel C ⟨ts, h, cnt, scr, ob⟩ φ a w) :
    SRel C ⟨ts', h', cnt', scr', ob'⟩ (φkeep φ keep) a w := by
  unfold canonA at e
  split at e
  · rename_i hn
    split at e
    · rename_i x y h1 h2
      simp at e
      obtain ⟨rfl, rfl⟩ := e
      have hk := renH_kept hn h2
      obtain ⟨h3, h4⟩ := renT_get h1
      refine ⟨keep_rel hs.rel hk, ?_, fun t ht => ?_, fun t ht => ?_⟩
      · rw [h3]; exact hs.size
      · have ht' : t < ts.length := by simpa [h3] using ht
        rcases h4 t ht' with e | e
        · show VRep _ _ _ _ (x.getD t .junk) _
          rw [e]; exact .junk _
        · exact ren_rep hs.rel hk e (hs.tmp t ht')
      · have : x.length ≤ t := ht
        show x.getD t .junk = .junk
        rw [List.getD_eq_getElem?_getD, List.getElem?_eq_none this]
        rfl
    · cases e
  · cases e

theorem goes_cut (hB : Base P E C) {n : Nat} {scr : Script} {live keep : List Nat} {todo todo' : List Item} {ts ts' : List AV} {h h' : Heap} {obl : List Prop} {rows : List Ob} {r : AV}
    (he : runCut P E n scr live keep todo ts h = some (todo', ts', h', obl)) (hob : All obl) (hg : Goes P C f todo' ts' h' rows r) : Goes P C f todo ts h rows r := by
  intro φ a w hs hd b cs hf hk hro
  unfold runCut at he
  split at he
  · rename_i todo1 s1 h1
    split at he
    · rename_i ts1 h1' hc
      simp at he
      obtain ⟨rfl, rfl, rfl, rfl⟩ := he
      have hs0 : SRel C ⟨ts, h, 0, scr, []⟩ φ a w := hs
      obtain ⟨φ', a', w', g1, g2, g3⟩ := arun_sound hB n todo _ _ _ h1 hob φ a w hs0 b cs
      have g4 : SRel C ⟨s1.tmps, s1.heap, 0, [], []⟩ φ' a' w' := g1
      obtain ⟨v, w'', fr, k1, k2, k3, k4⟩ := hg _ a' w' (canon_sound hc g4) (by rw [g2, hd]) b cs hf hk hro
      exact ⟨v, w'', fr, k1, g3.trans k2, k3, k4⟩
    · cases he
  · cases he

def resAt (tmps : Array Value) : ResultVar → Sem Value
  | .tmp t => pure (tmps.getD t undef)
  | .cell a t => do loadVar t (← asAddr (tmps.getD a undef))

def valV : List Value → Value
  | [x] => x
  | xs => .tuple xs.toArray

theorem results_run {fn : Func} {tmps : Array Value} {w : World} {vs : List Value} (h : (fn.results.toList.mapM (resAt tmps)).run P w = .ok vs w) :
    (results fn tmps).run P w = .ok (valV vs) w := by
  have e : results fn tmps = (do let vs ← fn.results.mapM (resAt tmps); pure (if h : vs.size = 1 then vs[0] else .tuple vs)) := by
    unfold results
    have : (fun | .tmp t => pure (tmps.getD t undef) | .cell a t => do loadVar t (← asAddr (tmps.getD a undef)) : ResultVar → Sem Value) = resAt tmps := by
      funext x
      cases x <;> rfl
    rw [← this]
    rfl
  rw [e, Array.mapM_eq_mapM_toList]
  generalize List.mapM (resAt tmps) fn.results.toList = m at h ⊢
  simp only [Sem.run_bind, map_eq_pure_bind, h, Result.andThen, Sem.run_pure]
  rcases vs with _ | ⟨x, _ | ⟨y, l⟩⟩ <;> simp [valV]

theorem resA_sound {φ : Nat → Value} {a : Act} {w : World} {s : St} (hs : SRel C s φ a w) : ∀ (rv : List ResultVar) (xs : List AV), resA P s.tmps s.heap rv = some xs →
    ∃ vs, (rv.mapM (resAt a.tmps)).run P w = .ok vs w ∧ VRepL (getO s.heap) φ (okB C (getO s.heap) φ w) w xs vs := by
  intro rv
  induction rv with
  | nil => intro xs h; simp [resA] at h; subst h; exact ⟨[], by simp, .nil⟩
  | cons x rv ih =>
    intro xs h
    have ht : ∀ t, VRep (getO s.heap) φ (okB C (getO s.heap) φ w) w (s.tmps.getD t .junk) (a.tmps.getD t undef) := by
      intro t
      rcases Nat.lt_or_ge t s.tmps.length with hlt | hge
      · exact hs.tmp t hlt
      · have := hs.out t hge
        rw [this]; exact .junk _
    cases x with
    | tmp t =>
      simp only [resA] at h
      split at h
      · rename_i xs' h1
        simp at h; subst h
        obtain ⟨vs, h2, h3⟩ := ih _ h1
        refine ⟨a.tmps.getD t undef :: vs, ?_, .cons (ht t) h3⟩
        rw [List.mapM_cons]
        simp only [resAt, Sem.run_bind, Sem.run_pure, Result.andThen, h2]
      · cases h
    | cell t T =>
      simp only [resA] at h
      split at h
      · rename_i y xs' h1 h1'
        simp at h; subst h
        obtain ⟨vs, h2, h3⟩ := ih _ h1'
        unfold cellA at h1
        split at h1
        · rename_i id off e1
          have hx := ht t
          rw [e1] at hx
          obtain ⟨b, hb, hv, hu⟩ := hx.inv_ptr
          have main : ∀ cs, ((∃ T, getO s.heap id = .box T cs) ∨ getO s.heap id = .fbox cs) → partOf P T cs off = some y → ∃ u, (loadVar T ⟨b, off, none⟩).run P w = .ok u w ∧ VRep (getO s.heap) φ (okB C (getO s.heap) φ w) w y u := by
            intro cs hbx hp
            obtain ⟨b', vs', g1, g2, g3⟩ := box_cells hs.rel (FRel.eval hs (fun t => .inr rfl)) (fun id => .inr rfl) hbx
            rw [hb] at g1
            injection g1 with g1; injection g1 with g1; injection g1 with g1
            subst g1
            have := run_loadVar_part hp g2 b 0 g3
            simpa using this
          have fin : ∃ u, (loadVar T ⟨b, off, none⟩).run P w = .ok u w ∧ VRep (getO s.heap) φ (okB C (getO s.heap) φ w) w y u := by
            split at h1
            · rename_i T0 cs e2
              exact main cs (.inl ⟨_, e2⟩) h1
            · rename_i cs e2
              exact main cs (.inr e2) h1
            · cases h1
          obtain ⟨u, g4, g5⟩ := fin
          refine ⟨u :: vs, ?_, .cons g5 h3⟩
          rw [List.mapM_cons]
          simp only [resAt, Sem.run_bind, Sem.run_pure, Result.andThen, h2, hv, asAddr, g4]
        · cases h1
      · cases h

theorem goes_ret (hB : Base P E C) {fn : Func} (hfn : P.funcs[f]? = some fn) {rv : List ResultVar} (hrv : fn.results.toList = rv) {n : Nat} {scr : Script} {keep : List Nat} {todo : List Item} {ts : List AV} {h : Heap} {obl : List Prop} {rows : List Ob} {r : AV}
    (he : runRet P E rv n scr keep todo ts h = some (rows, r, obl)) (hob : All obl) : Goes P C f todo ts h rows r := by
  intro φ a w hs hd b cs hf hk hro
  unfold runRet at he
  split at he
  · rename_i todo1 s1 h1
    split at he
    · rename_i hends
      split at he
      · rename_i rows1 r1 hx
        simp at he
        obtain ⟨e1, e2, e3⟩ := he
        rw [← e1, ← e2]
        rw [← e3] at hob
        have hs0 : SRel C ⟨ts, h, 0, scr, []⟩ φ a w := hs
        obtain ⟨φ', a', w', g1, g2, g3⟩ := arun_sound hB n todo _ _ _ h1 hob φ a w hs0 b cs
        unfold exportA at hx
        split at hx
        · rename_i hn
          split at hx
          · rename_i xs rows2 hres hren
            split at hx
            · rename_i r2 hr2
              simp at hx
              obtain ⟨rfl, rfl⟩ := hx
              have hkp := renH_kept hn hren
              subst hrv
              obtain ⟨vs, k1, k2⟩ := resA_sound (P := P) g1 _ xs hres
              have hrun := results_run k1
              have hv : VRep (getO s1.heap) φ' (okB C (getO s1.heap) φ' w') w' (resV xs) (valV vs) := by
                cases k2 with
                | nil => exact .tup .nil
                | cons p1 p2 =>
                  cases p2 with
                  | nil => exact p1
                  | cons p2 p3 => exact .tup (.cons p1 (.cons p2 p3))
              have hA : ARes C rows2 r2 (.returned (valV vs)) w' :=
                ⟨_, φkeep φ' keep, rfl, keep_rel g1.rel hkp, ren_rep g1.rel hkp hr2 hv⟩
              cases todo1 with
              | nil =>
                exact ⟨_, w', _, hA, Steps.trans g3 (.one (stepR_end hro)), hf, rfl, by show a'.defers = []; rw [g2, hd], hk, fn, by show P.funcs[b.fn]? = _; rw [hf]; exact hfn, hrun⟩
              | cons it rest =>
                have : it = .code .ret := by
                  unfold endsR at hends
                  split at hends
                  · rename_i e; cases e
                  · rename_i e; cases e; rfl
                  · cases hends
                subst this
                exact ⟨_, w', _, hA, Steps.trans g3 (.one (stepR_ret hro)), hf, rfl, by show a'.defers = []; rw [g2, hd], hk, fn, by show P.funcs[b.fn]? = _; rw [hf]; exact hfn, hrun⟩
            · cases hx
          · cases hx
        · cases hx
      · cases he
    · cases he
  · cases he

theorem junks_get : ∀ (n t : Nat), (junks n).getD t .junk = .junk := by
  intro n
  induction n with
  | zero => intro t; simp [junks]
  | succ n ih => intro t; cases t with
    | zero => simp [junks]
    | succ t => simpa [junks] using ih t
theorem junks_length (n : Nat) : (junks n).length = n := by induction n <;> simp_all [junks]

theorem repL_vrepL {h : SH} {φ : Nat → Value} {A : Nat → Prop} {w : World} : ∀ {xs : List AV} {vs : List Value}, RepL A w xs vs → VRepL h φ A w xs vs
  | _, _, .nil => .nil
  | _, _, .cons p q => .cons (.pure p) (repL_vrepL q)

/-- A function, from its entry. -/
theorem acalls_of_goes (hE : EnvOK E) (hG : Good P) {fn : Func} {c : Code} (hfn : P.funcs[f]? = some fn) (hb : fn.body = some c) (hnm : (fn.name == "runtime.NumGoroutine") = false) {args : List AV} {rows : List Ob} {r : AV} {m : Nat}
    (hm : fn.ntmps - args.length = m) (h : ∀ C, Base P E C → Goes P C f [.code c] (args ++ junks m) [] rows r) : ACalls P E f args rows r := by
  refine ⟨⟨fn, c, hfn, hnm, hb⟩, fun C vs hw hA hr => ?_⟩
  rw [callsIn_wide]
  intro cs
  have hB : Base P E C := ⟨hG, hE, hw, hA⟩
  have hlen : args.length = vs.length := (repL_vrepL (h := fun _ => .unborn) (φ := fun _ => undef) hr).length
  let b : Frame := { (default : Frame) with fn := f, kind := .normal, roundOf := none }
  let a : Act := { tmps := vs.toArray ++ Array.replicate (fn.ntmps - vs.toArray.size) undef, defers := [] }
  have henter : Frame.enter P f vs.toArray .normal = b.atR a [.code c] := by
    simp [Frame.enter, Frame.atR, hfn, hb, b, a]
  have hu : ∀ id, getO [] id = Ob.unborn := fun id => rfl
  have hs : SRel C ⟨args ++ junks m, [], 0, [], []⟩ (fun _ => undef) a C.w0 := by
    refine ⟨⟨Below.refl _ _, fun id => ?_, fun id id' b hl => ?_⟩, ?_, fun t ht => ?_, fun t ht => ?_⟩
    · show ORep C _ _ _ _ (getO [] id)
      rw [hu]; trivial
    · have : (getO [] id).live = true := hl
      rw [hu] at this; simp [Ob.live] at this
    · simp [a, junks_length, hlen, ← hm]
    · have hk : KeepB C.A0 (okB C (getO []) (fun _ => undef) C.w0) C.w0 C.w0 := fun b hb => ⟨⟨hA b hb, .inl hb, fun id hl => by rw [hu] at hl; simp [Ob.live] at hl⟩, rfl⟩
      show VRep (getO []) _ (okB C (getO []) _ C.w0) C.w0 ((args ++ junks m).getD t .junk) (a.tmps.getD t undef)
      rcases Nat.lt_or_ge t args.length with hlt | hge
      · have hq : VRepL (getO []) (fun _ => undef) (okB C (getO []) (fun _ => undef) C.w0) C.w0 args vs := repL_vrepL (RepL.mono hk hr)
        obtain ⟨v, h1, h2⟩ := hq.get t (x := args[t]) (by simp [hlt])
        have e1 : (args ++ junks m).getD t .junk = args[t] := by
          simp [List.getElem?_append, hlt]
        have e2 : a.tmps.getD t undef = v := by
          have hlt' : t < vs.length := by omega
          have h1' : vs[t] = v := by simpa [hlt'] using h1
          simp [a, Array.getD_eq_getD_getElem?, Array.getElem?_append, hlt', h1']
        rw [e1, e2]; exact h2
      · have e1 : (args ++ junks m).getD t .junk = .junk := by
          rw [List.getD_eq_getElem?_getD, List.getElem?_append_right hge, ← List.getD_eq_getElem?_getD]
          exact junks_get _ _
        rw [e1]; exact .junk _
    · show (args ++ junks m).getD t .junk = .junk
      rw [List.getD_eq_getElem?_getD, List.getElem?_eq_none ht]; rfl
  obtain ⟨v, w', fr, h1, h2, h3, h4⟩ := h C hB _ a C.w0 hs rfl b cs rfl rfl rfl
  rw [henter]
  exact ⟨.returned v, w', fr, h1, h2, h3, h4⟩

end
end Go.Abs
