/- Operations: what the machine does is what the abstract machine says (those that change nothing). -/
import Derived.Test.YteocckoglkbonaaDoorE4
import Derived.Laws.StructEq
set_option linter.unusedVariables false
set_option linter.unusedSimpArgs false
namespace Go.Abs
open Go.RowKit

section inv
variable {h : SH} {φ : Nat → Value} {A : Nat → Prop} {w : World} {v : Value}
theorem VRep.inv_bool {b} (p : VRep h φ A w (.bool b) v) : v = .bool b := by cases p with | pure p => cases p; rfl
theorem VRep.inv_int {k n} (p : VRep h φ A w (.int k n) v) : v = .int k n := by cases p with | pure p => cases p; rfl
theorem VRep.inv_str {s} (p : VRep h φ A w (.str s) v) : v = .string s := by cases p with | pure p => cases p; rfl
theorem VRep.inv_agg {cs} (p : VRep h φ A w (.agg cs) v) : ∃ vs, v = .agg vs.toArray ∧ VRepL h φ A w cs vs := by
  cases p with
  | pure p => cases p with | agg q => exact ⟨_, rfl, q.v⟩
  | agg q => exact ⟨_, rfl, q⟩
theorem VRep.inv_tup {cs} (p : VRep h φ A w (.tup cs) v) : ∃ vs, v = .tuple vs.toArray ∧ VRepL h φ A w cs vs := by
  cases p with
  | pure p => cases p with | tup q => exact ⟨_, rfl, q.v⟩
  | tup q => exact ⟨_, rfl, q⟩
theorem VRep.inv_fn {f cap} (p : VRep h φ A w (.fn f cap) v) : ∃ vs, v = .func (.func f) #[] vs.toArray ∧ RepL A w cap vs := by
  cases p with | pure p => cases p with | fn q => exact ⟨_, rfl, q⟩
theorem VRep.inv_ptr {id off} (p : VRep h φ A w (.ptr id off) v) : ∃ b, φ id = .pointer (some ⟨b, 0, none⟩) ∧ v = .pointer (some ⟨b, off, none⟩) ∧ h id ≠ .unborn := by
  cases p with
  | pure p => cases p
  | ptr hu hp => exact ⟨_, hp, rfl, hu⟩
theorem VRep.inv_ptrE {id i off T s xs} (p : VRep h φ A w (.ptrE id i off) v) (hx : h id = .row T s xs) : ∃ b n c, φ id = .slice (some ⟨b, 0, none⟩) n c ∧ v = .pointer (some ⟨b, i * s + off, none⟩) := by
  cases p with
  | pure p => cases p
  | ptrE hu h1 hp => exact hp T s xs hx
theorem VRep.inv_pin {cs off} (p : VRep h φ A w (.pin cs off) v) : ∃ b o, A b ∧ RepAt A w cs b o ∧ v = .pointer (some ⟨b, o + off, none⟩) := by
  cases p with | pure p => cases p with | pin ha q => exact ⟨_, _, ha, q, rfl⟩
theorem VRep.inv_own {id} (p : VRep h φ A w (.own id) v) : h id ≠ .unborn ∧ (h id ≠ .dead → v = φ id) := by
  cases p with
  | pure p => cases p
  | own hu h1 hp => exact ⟨hu, hp⟩
theorem VRep.inv_sl {fl xs} (p : VRep h φ A w (.sl fl xs) v) : ∃ a cap, v = .slice a xs.length cap ∧ xs.length ≤ cap ∧ cap ≤ maxLen ∧ ((fl = .n → xs = [] → v = .slice none 0 0) ∧ (a = none → cap = 0)) ∧
    (xs ≠ [] → ∃ b o s, a = some ⟨b, o, none⟩ ∧ A b ∧ RepRow A w s xs b o) := by
  cases p with
  | pure p =>
    cases p with
    | nil fl => exact ⟨none, 0, rfl, Nat.le_refl _, Nat.zero_le _, ⟨fun _ _ => rfl, fun _ => rfl⟩, fun h => absurd rfl h⟩
    | sl0 hc => exact ⟨_, _, rfl, Nat.zero_le _, hc, ⟨fun h => (by cases h), fun h => (by cases h)⟩, fun h => absurd rfl h⟩
    | sl hn h1 h2 ha hr => exact ⟨_, _, by rw [hn], by rw [← hn]; exact h1, h2, ⟨fun h => (by cases h), fun h => (by cases h)⟩, fun _ => ⟨_, _, _, rfl, ha, hr⟩⟩
end inv

/-- Frames' fences that let in whatever there is. -/
structure Wide (F : Fence) : Prop where
  fn : ∀ f, F.fn f
  depth : F.depth = none
  alive : F.alive = false

theorem Wide.fenced {F : Fence} (hF : Wide F) (P : Program) (m : Machine) : m.fenced P F := by
  intro g _
  exact ⟨fun h => (by rw [hF.alive] at h; cases h), .inl (hF.fn _), fun f _ => hF.fn f, fun d hd => (by rw [hF.depth] at hd; cases hd)⟩
theorem wide_wide : Wide Fence.wide := ⟨fun _ => trivial, rfl, rfl⟩
theorem wide_round (l : Nat) : Wide (Fence.wide.inRound l) := ⟨fun _ => trivial, rfl, rfl⟩
theorem Wide.calls {F : Fence} (hF : Wide F) {P : Program} {f : FuncId} {args : Array Value} {w : World} {R : Ending → World → Prop} {m : Nat} (n : Nat)
    (hc : CallsIn Fence.wide m P f args w R) : CallsIn F n P f args w R := by
  refine ⟨hF.fn f, fun cs _ => ?_⟩
  obtain ⟨e, w', fr, r, s, x⟩ := hc.2 cs (room_wide _)
  refine ⟨e, w', fr, r, ?_, x⟩
  cases e with
  | returned v => exact (StepsIn.of_steps s.steps).mono fun m _ => hF.fenced P m
  | panicked c => exact (StepsIn.of_steps s.steps).mono fun m _ => hF.fenced P m
  | outgrown => exact s

/-- What an operation must come to. -/
def OpOK (P : Program) (C : C0) (h : SH) (φ : Nat → Value) (w : World) (a : Act) (o : Oper) (h' : SH) (val : AV) : Prop :=
  ∀ (F : Fence) (n : Nat) (next : Act → World → Prop) (Q : Exit → Act → World → Prop), Wide F →
    (∀ v φ' w', Rel C h' φ' w' → KeepB (okB C h φ w) (okB C h' φ' w') w w' → KeepH h h' φ φ' → VRep h' φ' (okB C h' φ' w') w' val v → next (a.put o.dst v) w') →
    o.uponIn F n P a next Q ((execOp a.eval o).run P w)

section ops
variable {P : Program} {E : Env} {C : C0} {h : SH} {φ : Nat → Value} {w : World} {a : Act} {o : Oper}

theorem keepB_refl (A : Nat → Prop) (w : World) : KeepB A A w w := fun _ h => ⟨h, rfl⟩

theorem OpOK.same (hr : Rel C h φ w) {v : Value} {val : AV} (hx : (execOp a.eval o).run P w = .ok (.value v) w) (hv : VRep h φ (okB C h φ w) w val v) :
    OpOK P C h φ w a o h val := by
  intro F n next Q hF hn
  rw [hx]
  exact hn v φ w hr (keepB_refl _ _) (.refl _ _) hv

theorem vrep_ofCell (v : Value) (h : SH) (φ : Nat → Value) (A : Nat → Prop) (w : World) : VRep h φ A w (ofCell v) v := by
  unfold ofCell
  split
  · exact .pure (.bool _)
  · exact .pure (.int _ _)
  · exact .pure (.str _)
  · exact .pure .nilp
  · exact .pure (.nil .n)
  · exact .junk _
theorem vrep_ofValue (v : Value) (h : SH) (φ : Nat → Value) (A : Nat → Prop) (w : World) : VRep h φ A w (ofValue v) v := by
  unfold ofValue
  split
  · rename_i cs
    have : VRepL h φ A w (cs.toList.map ofCell) cs.toList := by
      induction cs.toList with
      | nil => exact .nil
      | cons c r ih => exact .cons (vrep_ofCell _ _ _ _ _) ih
    exact .agg (vs := cs.toList) this
  · exact vrep_ofCell _ _ _ _ _

/-! Whole numbers. -/
theorem run_binInt {op : BinOp} {k : IntKind} {x y : Int} {eff : Eff} (he : binInt op k x y = some eff) (ho : All eff.obl) (t : TypeId) :
    ∃ v, (binOp op t (.int k x) (.int k y)).run P w = .ok v w ∧ VRep h φ (okB C h φ w) w eff.val v ∧ eff.upd = [] ∧ eff.new = [] := by
  cases op <;> simp [binInt, effV, effIf] at he <;> subst he <;> simp [All] at ho <;>
    simp [binOp, Op.intArith, Op.intCmp, Op.intDiv, Op.intBits, bits, ho] <;> first | exact .pure (.int _ _) | exact .pure (.bool _)
theorem run_shiftInt {op : BinOp} {k k' : IntKind} {x y : Int} {eff : Eff} (he : shiftInt op k x y = some eff) (ho : All eff.obl) (t : TypeId) :
    ∃ v, (binOp op t (.int k x) (.int k' y)).run P w = .ok v w ∧ VRep h φ (okB C h φ w) w eff.val v ∧ eff.upd = [] ∧ eff.new = [] := by
  cases op <;> simp [shiftInt, effV, effIf] at he <;> subst he <;> simp [All] at ho <;>
    simp [binOp, Op.shift, show ¬ y < 0 by omega] <;> exact .pure (.int _ _)
theorem run_strOp {op : BinOp} {x y : ByteArray} {eff : Eff} (he : strOp op x y = some eff) (ho : All eff.obl) (t : TypeId) :
    ∃ v, (binOp op t (.string x) (.string y)).run P w = .ok v w ∧ VRep h φ (okB C h φ w) w eff.val v ∧ eff.upd = [] ∧ eff.new = [] := by
  cases op <;> simp [strOp, effV, effIf] at he <;> subst he <;> simp [All] at ho
  · refine ⟨.string (x ++ y), ?_, .pure (.str _), rfl, rfl⟩
    simp only [binOp, Op.stringOp, Sem.run_ite]
    rw [if_neg (by simp [IntKind.max, IntKind.signed, IntKind.bits]; omega)]
    rfl
  all_goals exact ⟨_, rfl, .pure (.bool _), rfl, rfl⟩

/-! Flat values against each other. -/
theorem eqvL_split {ks ls : List Nat} {xs ys : List AV} {r : Bool} (he : eqvL (ks ++ ls) xs ys = some r) :
    ∃ r1 r2, eqvL ks (xs.take ks.length) (ys.take ks.length) = some r1 ∧ eqvL ls (xs.drop ks.length) (ys.drop ks.length) = some r2 ∧ r = (r1 && r2) := by
  induction ks generalizing xs ys r with
  | nil => exact ⟨true, r, by simp [eqvL], by simpa using he, by simp⟩
  | cons k ks ih =>
    cases xs with
    | nil => simp [eqvL] at he
    | cons x xs =>
      cases ys with
      | nil => simp [eqvL] at he
      | cons y ys =>
        simp only [List.cons_append, eqvL] at he
        split at he
        · rename_i b hb
          split at he
          · rename_i q hq
            obtain ⟨r1, r2, h1, h2, h3⟩ := ih hq
            simp at he
            exact ⟨b && r1, r2, by simp [eqvL, hb, h1], by simpa using h2, by rw [← he, h3, Bool.and_assoc]⟩
          · cases he
        · cases he
theorem eqvL_length {ks : List Nat} {xs ys : List AV} {r : Bool} (he : eqvL ks xs ys = some r) : xs.length = ks.length ∧ ys.length = ks.length := by
  induction ks generalizing xs ys r with
  | nil =>
    cases xs with
    | nil => cases ys with
      | nil => simp
      | cons => simp [eqvL] at he
    | cons => simp [eqvL] at he
  | cons k ks ih =>
    cases xs with
    | nil => simp [eqvL] at he
    | cons x xs =>
      cases ys with
      | nil => simp [eqvL] at he
      | cons y ys =>
        simp only [eqvL] at he
        split at he
        · split at he
          · rename_i q hq
            have := ih hq
            simp [this]
          · cases he
        · cases he
theorem eqGuard_flat {t : TypeId} {d : Nat} {ks : List Nat} (hf : flatK P d t = some ks) : ∀ m, d ≤ m → P.eqGuardType m t = false := by
  induction d generalizing t ks with
  | zero => simp [flatK] at hf
  | succ d ih =>
    intro m hm
    obtain ⟨m, rfl⟩ : ∃ k, m = k + 1 := ⟨m - 1, by omega⟩
    simp only [flatK] at hf
    simp only [Program.eqGuardType]
    split at hf <;> rename_i hu <;> (try simp only [hu])
    · split at hf
      · cases hf
      · rename_i fs _
        rw [← Array.any_toList]
        generalize 0 = acc at hf
        generalize fs.toList = l at hf
        induction l generalizing acc ks with
        | nil => rfl
        | cons f l ih2 =>
          simp only [flatF] at hf
          split at hf
          · split at hf
            · rename_i k hk
              split at hf
              · split at hf
                · rename_i r hr
                  simp only [List.any_cons, Bool.or_eq_false_iff]
                  exact ⟨by simp [ih hk m (by omega)], ih2 _ hr⟩
                · cases hf
              · cases hf
            · cases hf
          · cases hf
    · cases hf
/-- A value of a type out of cells. -/
def mkV (P : Program) (t : TypeId) (us : List Value) : Value := if isAgg P t = some true then .agg us.toArray else us.headD undef
theorem run_isAgg {t : TypeId} {b : Bool} (hb : isAgg P t = some b) : (Go.isAgg t).run P w = .ok b w := by
  unfold isAgg at hb
  cases hu : P.underlying t with
  | none => simp [hu] at hb
  | some d =>
    simp only [hu, Option.map_some, Option.some.injEq] at hb
    subst hb
    simp only [Go.isAgg, Sem.run_bind, run_underlying hu, Result.andThen_ok]
    cases d <;> rfl
theorem run_sizeOf {t : TypeId} {n : Nat} (hs : sz P t = some n) : (sizeOf t).run P w = .ok n w := by
  unfold sz at hs
  cases hi : P.info? t with
  | none => simp [hi] at hs
  | some i =>
    simp [hi] at hs
    simp [sizeOf, typeInfo, hi, hs]
theorem headD_drop {us : List Value} {off : Nat} (hlt : off < us.length) : ((us.drop off).take 1).headD undef = us[off] := by
  rw [List.drop_eq_getElem_cons hlt]; rfl
theorem run_part {t : TypeId} {us : List Value} {off n : Nat} {b : Bool} (hb : isAgg P t = some b) (hs : sz P t = some n) (hn : off + n ≤ us.length) (h1 : b = false → n = 1) :
    (part t us.toArray off).run P w = .ok (mkV P t ((us.drop off).take n)) w := by
  unfold part mkV
  simp only [Sem.run_bind, run_isAgg hb, Result.andThen_ok, hb]
  cases b
  · have := h1 rfl
    subst this
    have hlt : off < us.length := by omega
    rw [if_neg (by simp), headD_drop hlt]
    simp [hlt]
  · simp [run_sizeOf hs, List.extract_eq_take_drop]
theorem flatK_agg {t : TypeId} {d : Nat} {ks : List Nat} (hf : flatK P d t = some ks) : ∃ b, isAgg P t = some b ∧ (b = false → ks.length = 1) := by
  cases d with
  | zero => simp [flatK] at hf
  | succ d =>
    simp only [flatK] at hf
    split at hf <;> rename_i hu <;> simp only [isAgg, hu] <;> simp_all [isAggD] <;> subst hf <;> rfl
theorem eqvL_one {k : Nat} {xs ys : List AV} {us vs : List Value} {r : Bool} (he : eqvL [k] xs ys = some r) (hx : VRepL h φ (okB C h φ w) w xs us) (hy : VRepL h φ (okB C h φ w) w ys vs) :
    ∃ x y u v, us = [u] ∧ vs = [v] ∧ eqvC k x y = some r ∧ VRep h φ (okB C h φ w) w x u ∧ VRep h φ (okB C h φ w) w y v := by
  have hl := eqvL_length he
  cases hx with
  | nil => simp at hl
  | cons a ta =>
    cases ta with
    | cons _ _ => simp at hl
    | nil =>
      cases hy with
      | nil => simp at hl
      | cons b tb =>
        cases tb with
        | cons _ _ => simp at hl
        | nil =>
          simp only [eqvL] at he
          split at he
          · simp at he; subst he; exact ⟨_, _, _, _, rfl, rfl, by assumption, a, b⟩
          · cases he
theorem equalIn_flat {d : Nat} : ∀ {t : TypeId} {ks : List Nat}, flatK P d t = some ks → ∀ m, d ≤ m → ∀ {xs ys : List AV} {us vs : List Value} {r : Bool},
    eqvL ks xs ys = some r → VRepL h φ (okB C h φ w) w xs us → VRepL h φ (okB C h φ w) w ys vs →
    (Op.equalIn m t (mkV P t us) (mkV P t vs)).run P w = .ok r w := by
  induction d with
  | zero => intro t ks hf; simp [flatK] at hf
  | succ d ih =>
    intro t ks hf m hm xs ys us vs r he hx hy
    obtain ⟨m, rfl⟩ : ∃ k, m = k + 1 := ⟨m - 1, by omega⟩
    have hf0 := hf
    simp only [flatK] at hf
    split at hf
    · rename_i hu
      cases hf
      obtain ⟨x, y, u, v, rfl, rfl, hc, h1, h2⟩ := eqvL_one he hx hy
      unfold eqvC at hc
      split at hc <;> first | (cases h1.inv_bool; cases h2.inv_bool; simp at hc; subst hc) | (simp at *; done) | cases hc
      simp [mkV, isAgg, hu, isAggD, Go.Op.equalIn, run_underlying hu]
    · rename_i k hu
      cases hf
      obtain ⟨x, y, u, v, rfl, rfl, hc, h1, h2⟩ := eqvL_one he hx hy
      unfold eqvC at hc
      split at hc <;> first | (simp at *; done) | skip
      · cases h1.inv_int; cases h2.inv_int
        split at hc
        · rename_i hkk
          simp at hc; subst hc hkk
          simp [mkV, isAgg, hu, isAggD, Go.Op.equalIn, run_underlying hu]
        · cases hc
    · rename_i hu
      cases hf
      obtain ⟨x, y, u, v, rfl, rfl, hc, h1, h2⟩ := eqvL_one he hx hy
      unfold eqvC at hc
      split at hc <;> first | (simp at *; done) | skip
      · cases h1.inv_str; cases h2.inv_str
        simp at hc; subst hc
        simp [mkV, isAgg, hu, isAggD, Go.Op.equalIn, run_underlying hu, beq_toListBytes]
    · rename_i fs hu
      split at hf
      · cases hf
      · rename_i hp
        have hag : isAgg P t = some true := by simp [isAgg, hu, isAggD]
        have hfo : P.fieldsOf t = fs := by simp [Program.fieldsOf, hu]
        simp only [mkV, hag, if_true]
        rw [run_equalIn_struct (P := P) w m t _ _ (by rw [hfo]; exact hu) (by simpa using hp), hfo]
        have key : ∀ (l : List Field) (acc : Nat) (ks : List Nat) (r : Bool), acc ≤ us.length → acc ≤ vs.length → flatF P (flatK P d) l acc = some ks → eqvL ks (xs.drop acc) (ys.drop acc) = some r →
            (Op.eqFields m us.toArray vs.toArray l).run P w = .ok r w := by
          intro l
          induction l with
          | nil =>
            intro acc ks r ha1 ha2 hl hq
            simp [flatF] at hl
            subst hl
            have := eqvL_length hq
            cases hdx : xs.drop acc with
            | nil =>
              cases hdy : ys.drop acc with
              | nil => rw [hdx, hdy] at hq; simp [eqvL] at hq; subst hq; simp [Op.eqFields]
              | cons => rw [hdy] at this; simp at this
            | cons => rw [hdx] at this; simp at this
          | cons f l ih2 =>
            intro acc ks r ha1 ha2 hl hq
            simp only [flatF] at hl
            split at hl
            · rename_i hc
              simp at hc
              split at hl
              · rename_i k1 hk1
                split at hl
                · rename_i hsz
                  split at hl
                  · rename_i k2 hk2
                    cases hl
                    obtain ⟨r1, r2, h1, h2, h3⟩ := eqvL_split hq
                    have hl1 := eqvL_length h1
                    simp only [List.length_take, List.length_drop] at hl1
                    obtain ⟨b, hb, hb1⟩ := flatK_agg hk1
                    have ex := hx.length
                    have ey := hy.length
                    have pa := run_part (w := w) (us := us) (off := f.offset) hb hsz (by rw [hc.2]; omega) hb1
                    have pb := run_part (w := w) (us := vs) (off := f.offset) hb hsz (by rw [hc.2]; omega) hb1
                    have pe := ih hk1 m (by omega) h1 ((hx.drop acc).take k1.length) ((hy.drop acc).take k1.length)
                    have pr := ih2 (acc + k1.length) k2 r2 (by omega) (by omega) hk2 (by simpa [List.drop_drop] using h2)
                    rw [hc.2] at pa pb
                    rw [Op.eqFields, if_pos hc.1]
                    simp only [Sem.run_bind, hc.2, pa, pb, pe, Result.andThen_ok]
                    subst h3
                    cases r1
                    · simp
                    · simpa using pr
                  · cases hl
                · cases hl
              · cases hl
            · cases hl
        exact key fs.toList 0 ks r (by omega) (by omega) hf (by simpa using he)
    · cases hf
end ops

end Go.Abs
