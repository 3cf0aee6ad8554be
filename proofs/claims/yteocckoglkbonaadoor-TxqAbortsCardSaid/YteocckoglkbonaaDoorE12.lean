/- Stores; slices out of their parts. -/
import Derived.Test.YteocckoglkbonaaDoorE11
set_option linter.unusedVariables false
set_option linter.unusedSimpArgs false
set_option linter.unusedSectionVars false
namespace Go.Abs
open Go.RowKit

theorem spl_length {cs ds : List AV} {off : Nat} (h : off + ds.length ≤ cs.length) : (spl cs off ds).length = cs.length := by unfold spl; simp; omega

theorem pc_cells {x : AV} (h : x.pc = true) : x.cells = [x] := by cases x <;> first | rfl | (simp [AV.pc] at h; done)

theorem setElem_cells {y : AV} {off : Nat} {ds : List AV} (h : off + ds.length ≤ y.cells.length) (h0 : ds.length ≠ 0) (hp : pures ds = true) : (setElem y off ds).cells = spl y.cells off ds := by
  rcases cells_one_or (x := y) with ⟨cs, rfl⟩ | h1
  · rfl
  · rw [h1] at h ⊢
    simp at h
    match ds, h0, h, hp with
    | [d], _, h, hp =>
      simp at h
      subst h
      simp [pures] at hp
      have : setElem y 0 [d] = d := by
        cases y with
        | agg cs =>
          have h2 : cs = [AV.agg cs] := h1
          have := congrArg (SizeOf.sizeOf : List AV → Nat) h2
          simp at this
          omega
        | _ => rfl
      rw [this, pc_cells hp]
      rfl
    | [], h0, _, _ => exact absurd rfl h0
    | _ :: _ :: _, _, h, _ => simp at h; omega

theorem flatMap_set {y : AV} {s : Nat} {ds : List AV} {off : Nat} (hp : pures ds = true) (h0 : ds.length ≠ 0) : ∀ (xs : List AV) (i : Nat), xs[i]? = some y → (∀ x ∈ xs, x.cells.length = s) → off + ds.length ≤ s →
    (xs.set i (setElem y off ds)).flatMap AV.cells = spl (xs.flatMap AV.cells) (i * s + off) ds ∧ (∀ x ∈ xs.set i (setElem y off ds), x.cells.length = s) := by
  intro xs
  induction xs with
  | nil => intro i hi; simp at hi
  | cons z xs ih =>
    intro i hi hs ho
    have hz := hs z (by simp)
    cases i with
    | zero =>
      simp at hi; subst hi
      have hc := setElem_cells (y := z) (off := off) (ds := ds) (by omega) h0 hp
      constructor
      · simp only [List.set_cons_zero, List.flatMap_cons, hc, Nat.zero_mul, Nat.zero_add]
        unfold spl
        rw [List.take_append_of_le_length (by omega), List.drop_append_of_le_length (by omega)]
        simp
      · intro x hx
        simp at hx
        rcases hx with rfl | hx
        · rw [hc, spl_length (by omega), hz]
        · exact hs x (by simp [hx])
    | succ i =>
      simp at hi
      obtain ⟨h1, h2⟩ := ih i hi (fun x hx => hs x (by simp [hx])) ho
      constructor
      · simp only [List.set_cons_succ, List.flatMap_cons, h1]
        unfold spl
        have e : (i + 1) * s + off = z.cells.length + (i * s + off) := by rw [hz, Nat.add_mul]; omega
        rw [e, List.take_length_add_append, Nat.add_assoc z.cells.length, List.drop_length_add_append]
        simp
      · intro x hx
        simp at hx
        rcases hx with rfl | hx
        · exact hz
        · exact h2 x hx

theorem take_splice (A us : List Value) (p N : Nat) (h : p + us.length ≤ N) (hN : N ≤ A.length) :
    (A.take p ++ us ++ A.drop (p + us.length)).take N = (A.take N).take p ++ (us ++ (A.take N).drop (p + us.length)) := by
  rw [List.append_assoc, List.take_append, List.length_take, List.take_append, List.take_take, List.take_take, List.drop_take]
  rw [show min p A.length = p by omega, show min N p = p by omega, show min p N = p by omega, List.take_of_length_le (l := us) (by omega)]
  congr 3
  omega

section ops
variable {P : Program} {E : Env} {C : C0} {h : SH} {φ : Nat → Value} {w : World} {a : Act} {o : Oper} {rd : Operand → AV} {look : Nat → Ob}
variable (hr : Rel C h φ w) (hρ : ∀ x, VRep h φ (okB C h φ w) w (rd x) (a.eval x)) (hl : Sees look h)
include hr hρ hl

theorem run_storeVar_at {T : TypeId} {n : Nat} (hs : sz P T = some n) {v : Value} {vs : List Value} (hv : v.cells = vs.toArray) (hn : vs.length = n) (h1 : ∀ u ∈ vs, u.oneCell' = true) {b off : Nat} {cur : Array Value} {T0 : TypeId}
    (hg : w.heap[b]? = some (.cells cur T0 (0, 0))) (hle : off + n ≤ cur.size) :
    (storeVar T ⟨b, off, none⟩ v).run P w = .ok () (w.setRow b (cur.toList.take off ++ vs ++ cur.toList.drop (off + vs.length)).toArray) := by
  have := run_storeCells_at P b off T0 vs 0 cur w hg (by simp; omega) h1
  simp only [Nat.add_zero] at this
  unfold storeVar
  simp only [Sem.run_bind, run_sizeOf hs, Result.andThen_ok, hv, Sem.run_ite, List.size_toArray]
  rw [if_neg (by simp [hn])]
  simpa using this

theorem sound_store {T : TypeId} {x y : Operand} (hop : o.op = .store T x y) {fresh : Nat} {ans : Option Ans} {eff : Eff} (he : storeA P look T (rd x) (rd y) ans = some eff) (hob : All eff.obl) :
    OpOK P C h φ w a o (newS (updS h eff.upd) fresh eff.new) eff.val := by
  have hx := hρ x
  have hy := hρ y
  unfold storeA at he
  split at he
  · cases he
  · rename_i n hs
    split at he
    · rename_i hc
      simp at hc
      obtain ⟨vs, hv, hvs, hv1⟩ := vrep_cells hy hc.2
      have hvl : vs.length = n := by rw [← hvs.length]; exact hc.1
      split at he
      · rename_i id off e1
        rw [e1] at hx
        split at he
        · rename_i T0 cs e2
          have hid := hl.get e2 (by simp)
          split at he
          · rename_i hle
            simp at he; subst he
            obtain ⟨b, hb, hxv, _⟩ := hx.inv_ptr
            have ho := hr.obj id
            rw [hid] at ho
            obtain ⟨b', cvs, g1, g2, g3, g4, g5⟩ := ho
            rw [hb] at g1
            injection g1 with g1; injection g1 with g1; injection g1 with g1
            subst g1
            have hcl := g4.length
            have hrun := run_storeVar_at (P := P) hr hρ hl (off := off) hs hv hvl hv1 g3 (by simp; omega)
            have kh : KeepH h (upd1 h id (.box T0 (spl cs off (rd y).cells))) φ φ := .chg (by simp [hid]) (by simp) (by simp [hid]) (by simp)
            obtain ⟨r1, r2⟩ := hr.change (id := id) (o := .box T0 (spl cs off (rd y).cells)) (w' := w.setRow b (cvs.take off ++ vs ++ cvs.drop (off + vs.length)).toArray) (by simp [hid, Ob.live]) kh
              (hr.below.trans ⟨rfl, rfl, rfl, by simp [World.setRow], fun k hk => setRow_other w b k _ (by intro e; omega)⟩) (by simp [World.setRow])
              (fun k hk _ => setRow_other w b k _ (fun e => hk (by rw [hb, e]; rfl)))
              (fun hK => ⟨b, _, hb, g2, setRow_heap w b _ _ T0 _ g3, by simpa using (g4.spl hvs off).mono hK kh, fun u hu => by
                rcases List.mem_append.1 hu with hu | hu
                · rcases List.mem_append.1 hu with hu | hu
                  · exact g5 u (List.mem_of_mem_take hu)
                  · exact hv1 u hu
                · exact g5 u (List.mem_of_mem_drop hu)⟩)
            intro F q next Q hF hn
            have : (execOp a.eval o).run P w = .ok .skip (w.setRow b (cvs.take off ++ vs ++ cvs.drop (off + vs.length)).toArray) := by
              simp only [execOp, hop, Instr.storeAt, hxv, Instr.sureAddr, Sem.run_bind, Sem.run_pure, Result.andThen_ok, hrun]
            rw [this]
            exact hn undef φ _ r1 r2 kh (.junk _)
          · cases he
        · cases he
      · rename_i id i off e1
        rw [e1] at hx
        split at he
        · rename_i T0 s xs z e2
          have hid := hl.get e2 (by simp)
          split at he
          · rename_i v' hvw
            split at he
            · rename_i hcnd
              simp at hcnd
              obtain ⟨⟨⟨c1, c2⟩, c3⟩, c4⟩ := hcnd
              simp at he; subst he
              have hz : xs[i]? = some z := hob.1
              have hnot : id ∉ (rd y).refs := hob.2.1
              -- what is stored is not written again
              obtain ⟨r1, r2, r3, r4, r5, r6⟩ := Rel.frz (freeze look (rd y).refs) (freeze_ok _) hr hl.inv
              have hview : Rep (okB C (updS h (freeze look (rd y).refs)) φ w) w v' (a.eval y) := by
                refine view_rep hvw ⟨fun _ hb => hb, fun k hk xs' hx' => ?_, fun k hk cs' hx' => ?_⟩ (hy.mono r2 r3)
                · rcases hx' with ⟨T', s', hx'⟩ | hx'
                  · have := r5 _ (freeze_mem hk hx')
                    simp at this
                    have ho := r1.obj k
                    rw [this] at ho
                    exact ⟨by rw [this]; simp, ho⟩
                  · have : updS h (freeze look (rd y).refs) k = .fro xs' := by
                      rcases r4 k (by rw [hx']; simp) with h9 | h9
                      · rw [h9, hx']
                      · simp [frzOf, hx'] at h9
                    have ho := r1.obj k
                    rw [this] at ho
                    exact ⟨by rw [this]; simp, ho⟩
                · have : updS h (freeze look (rd y).refs) k = .fbox cs' := by
                    rcases r4 k (by rw [hx']; simp) with h9 | h9
                    · rw [h9, hx']
                    · simp [frzOf, hx'] at h9
                  have ho := r1.obj k
                  rw [this] at ho
                  exact ho
              have hid1 : updS h (freeze look (rd y).refs) id = .row T0 s xs := by
                rw [r6 id (fun p hp e => hnot (e ▸ (freeze_row hp).1)), hid]
              have hupd : updS h (freeze look (rd y).refs ++ [(id, .row T0 s (xs.set i (setElem z off v'.cells)))]) = upd1 (updS h (freeze look (rd y).refs)) id (.row T0 s (xs.set i (setElem z off v'.cells))) := by
                have : ∀ (us : List (Nat × Ob)) (h : SH) (p : Nat × Ob), updS h (us ++ [p]) = upd1 (updS h us) p.1 p.2 := by
                  intro us
                  induction us with
                  | nil => intro h p; rfl
                  | cons q us ih => intro h p; exact ih (upd1 h q.1 q.2) p
                exact this _ _ _
              simp only [newS]
              rw [hupd]
              generalize updS h (freeze look (rd y).refs) = h1 at r1 r2 r3 r4 r5 r6 hview hid1
              -- the value's cells
              have hvc : ∃ us, (a.eval y).cells = us.toArray ∧ RepL (okB C h1 φ w) w v'.cells us ∧ (∀ u ∈ us, u.oneCell' = true) ∧ us.length = n := by
                obtain ⟨us, k1, k2, k3⟩ := vrep_cells (h := h1) (φ := φ) (.pure hview) (by
                  have : ∀ l : List AV, pures l = true → known l = true := by
                    intro l
                    induction l with
                    | nil => intro _; rfl
                    | cons x l ih =>
                      intro hp
                      simp [pures] at hp
                      have hx1 : x.one = true := by
                        have := hp.1
                        cases x <;> first | rfl | (simp [AV.pc] at this; done)
                      simp [known, hx1, ih hp.2]
                  exact this _ c4)
                exact ⟨us, k1, pures_rep c4 k2, k3, by rw [← k2.length]; exact c2⟩
              obtain ⟨us, k1, k2, k3, k4⟩ := hvc
              -- the row
              have ho := r1.obj id
              rw [hid1] at ho
              obtain ⟨cells, m1, m2, m3, m4, m5⟩ := ho
              have hlt : i < xs.length := (List.getElem?_eq_some_iff.1 hz).1
              have hzs : z.cells.length = s := m3 z (List.mem_of_getElem? hz)
              obtain ⟨b, nn, cc, q1, q2⟩ := hx.inv_ptrE hid
              rcases m1.2 with ⟨m6, _⟩ | ⟨g, cap, cur, m6, m7, m8, m9, m10, m11, m12⟩
              · rw [m6] at q1; cases q1
              · rw [m6] at q1
                injection q1 with q1 _ _; injection q1 with q1; injection q1 with q1
                subst q1
                obtain ⟨f1, f2⟩ := flatMap_set (y := z) (s := s) (ds := v'.cells) (off := off) c4 (by omega) xs i hz m3 (by omega)
                have hroom : i * s + off + n ≤ xs.length * s := by
                  have : (i + 1) * s ≤ xs.length * s := Nat.mul_le_mul_right s hlt
                  rw [Nat.add_mul] at this
                  omega
                have hcapr : xs.length * s ≤ cap * s := Nat.mul_le_mul_right s m9
                have hrun := run_storeVar_at (P := P) (T := T) r1 (fun q => (hρ q).mono r2 r3) (look := fun _ => .unborn) (fun _ => .inl rfl) (off := i * s + off) hs k1 k4 k3 m8 (by omega)
                have kh : KeepH h1 (upd1 h1 id (.row T0 s (xs.set i (setElem z off v'.cells)))) φ φ := .chg (by simp [hid1]) (by simp) (by simp [hid1]) (fun T' s' xs' e => by cases e; exact ⟨_, _, hid1⟩)
                obtain ⟨t1, t2⟩ := r1.change (id := id) (o := .row T0 s (xs.set i (setElem z off v'.cells))) (w' := w.setRow g (cur.toList.take (i * s + off) ++ us ++ cur.toList.drop (i * s + off + us.length)).toArray) (by simp [hid1, Ob.live]) kh
                  (r1.below.trans ⟨rfl, rfl, rfl, by simp [World.setRow], fun k hk => setRow_other w g k _ (by intro e; omega)⟩) (by simp [World.setRow])
                  (fun k hk _ => setRow_other w g k _ (fun e => hk (by rw [m6, e]; rfl)))
                  (fun hK => by
                    refine ⟨cells.take (i * s + off) ++ (us ++ cells.drop (i * s + off + us.length)), ?_, ?_, f2, m4, fun u hu => ?_⟩
                    · refine ⟨?_, .inr ⟨g, cap, _, by rw [m6]; simp, m7, setRow_heap w g cur _ T0 _ m8, by simpa using m9, m10, ?_, ?_⟩⟩
                      · have := m1.1
                        simp only [List.length_append, List.length_take, List.length_drop, List.length_set]
                        omega
                      · simp only [List.size_toArray, List.length_append, List.length_take, List.length_drop, Array.length_toList]
                        omega
                      · have := take_splice cur.toList us (i * s + off) (xs.length * s) (by omega) (by simp; omega)
                        rw [m12] at this
                        simpa using this
                    · rw [f1]
                      exact (m2.mono hK).spl (k2.mono hK) _
                    · rcases List.mem_append.1 hu with hu | hu
                      · exact m5 u (List.mem_of_mem_take hu)
                      · rcases List.mem_append.1 hu with hu | hu
                        · exact k3 u hu
                        · exact m5 u (List.mem_of_mem_drop hu))
                intro F q next Q hF hn
                have : (execOp a.eval o).run P w = .ok .skip (w.setRow g (cur.toList.take (i * s + off) ++ us ++ cur.toList.drop (i * s + off + us.length)).toArray) := by
                  simp only [execOp, hop, Instr.storeAt, q2, Instr.sureAddr, Sem.run_bind, Sem.run_pure, Result.andThen_ok, hrun]
                rw [this]
                exact hn undef φ _ t1 (r2.trans t2) (r3.trans kh) (.junk _)
            · cases he
          · cases he
        · cases he
      · cases he
    · cases he
end ops

end Go.Abs
