/- Operations that only read: the machine does what the abstract machine says. -/
import Derived.Test.YteocckoglkbonaaDoorE5
set_option linter.unusedVariables false
set_option linter.unusedSimpArgs false
set_option linter.unusedSectionVars false
namespace Go.Abs
open Go.RowKit

theorem resolve_builtin {P : Program} {a : Act} {w : World} {c : Call} {b : Builtin} (hc : c.callee = .builtin b) (T : TypeId) : ∃ cs, (resolve a.eval c T).run P w = .ok { target := .builtin b c.argTypes T cs, args := c.args.map a.eval } w := by
  exact ⟨_, by simp only [resolve, hc]; rfl⟩
theorem toList_one {α : Type} {xs : Array α} {x : α} (e : xs.toList = [x]) : xs = #[x] := by cases xs; simp_all
theorem toList_two {α : Type} {xs : Array α} {x y : α} (e : xs.toList = [x, y]) : xs = #[x, y] := by cases xs; simp_all

section ops
variable {P : Program} {E : Env} {C : C0} {h : SH} {φ : Nat → Value} {w : World} {a : Act} {o : Oper} {rd : Operand → AV} {look : Nat → Ob}

/-- What is asked of the program as a whole. -/
structure Good (P : Program) : Prop where
  depth : 8 ≤ P.depth
  mixed : P.follows .mixedOrders = true

/-- What the abstract machine sees is there. -/
def Sees (look : Nat → Ob) (h : SH) : Prop := ∀ id, look id = .unborn ∨ look id = h id

theorem Sees.get (hl : Sees look h) {id : Nat} {ob : Ob} (he : look id = ob) (hn : ob ≠ .unborn) : h id = ob := by
  rcases hl id with h1 | h1
  · rw [he] at h1; exact absurd h1 hn
  · rw [← h1, he]

variable (hr : Rel C h φ w) (hρ : ∀ x, VRep h φ (okB C h φ w) w (rd x) (a.eval x)) (hl : Sees look h)
include hr hρ hl

theorem sound_move {x : Operand} (ho : o.op = .move x ∨ o.op = .assign x) : OpOK P C h φ w a o h (rd x) :=
  OpOK.same hr (v := a.eval x) (by rcases ho with ho | ho <;> simp [execOp, ho]) (hρ x)

theorem run_bin {op : BinOp} {T yT : TypeId} {x y : Operand} {u v r : Value} (hop : o.op = .binOp op T x y yT) (hg : (eqGuard op T x y (a.eval x) (a.eval y)).run P w = .ok () w)
    (hb : (binOp op T (a.eval x) (a.eval y)).run P w = .ok r w) : (execOp a.eval o).run P w = .ok (.value r) w := by
  simp [execOp, hop, hg, hb]

theorem sound_bin (hG : Good P) {op : BinOp} {T yT : TypeId} {x y : Operand} (hop : o.op = .binOp op T x y yT) {eff : Eff} (he : binA P op T (rd x) (rd y) = some eff) (hob : All eff.obl) :
    OpOK P C h φ w a o h eff.val ∧ eff.upd = [] ∧ eff.new = [] := by
  have hx := hρ x
  have hy := hρ y
  unfold binA at he
  split at he
  · rename_i k n k' n' e1 e2
    rw [e1] at hx; rw [e2] at hy
    have ux := hx.inv_int; have uy := hy.inv_int
    have hg : (eqGuard op T x y (a.eval x) (a.eval y)).run P w = .ok () w := by
      rw [ux, uy]; cases op <;> simp [eqGuard]
    split at he
    · obtain ⟨v, h1, h2, h3, h4⟩ := run_shiftInt (C := C) (h := h) (φ := φ) (P := P) (w := w) (k' := k') he hob T
      exact ⟨.same hr (run_bin (u := v) (v := v) hr hρ hl hop hg (by rw [ux, uy]; exact h1)) h2, h3, h4⟩
    · obtain ⟨v, h1, h2, h3, h4⟩ := run_shiftInt (C := C) (h := h) (φ := φ) (P := P) (w := w) (k' := k') he hob T
      exact ⟨.same hr (run_bin (u := v) (v := v) hr hρ hl hop hg (by rw [ux, uy]; exact h1)) h2, h3, h4⟩
    · split at he
      · rename_i hk
        subst hk
        obtain ⟨v, h1, h2, h3, h4⟩ := run_binInt (C := C) (h := h) (φ := φ) (P := P) (w := w) he hob T
        exact ⟨.same hr (run_bin (u := v) (v := v) hr hρ hl hop hg (by rw [ux, uy]; exact h1)) h2, h3, h4⟩
      · cases he
  · rename_i s s' e1 e2
    rw [e1] at hx; rw [e2] at hy
    have ux := hx.inv_str; have uy := hy.inv_str
    have hg : (eqGuard op T x y (a.eval x) (a.eval y)).run P w = .ok () w := by
      rw [ux, uy]; cases op <;> simp [eqGuard]
    obtain ⟨v, h1, h2, h3, h4⟩ := run_strOp (C := C) (h := h) (φ := φ) (P := P) (w := w) he hob T
    exact ⟨.same hr (run_bin (u := v) (v := v) hr hρ hl hop hg (by rw [ux, uy]; exact h1)) h2, h3, h4⟩
  · rename_i b b' e1 e2
    rw [e1] at hx; rw [e2] at hy
    have ux := hx.inv_bool; have uy := hy.inv_bool
    have hg : (eqGuard op T x y (a.eval x) (a.eval y)).run P w = .ok () w := by
      rw [ux, uy]; cases op <;> simp [eqGuard]
    have hbb : P.underlying T = some .bool → (Op.equal T (.bool b) (.bool b')).run P w = .ok (b == b') w := fun hu => run_equalIn_bool w 9999 T b b' hu
    split at he
    · rename_i hu
      simp [effV] at he; subst he
      exact ⟨.same hr (run_bin (u := undef) (v := undef) hr hρ hl hop hg (r := .bool (b == b')) (by rw [ux, uy]; simp only [binOp, Sem.run_bind, hbb hu, Result.andThen_ok, Sem.run_pure])) (.pure (.bool _)), rfl, rfl⟩
    · rename_i hu
      simp [effV] at he; subst he
      exact ⟨.same hr (run_bin (u := undef) (v := undef) hr hρ hl hop hg (r := .bool (!(b == b'))) (by rw [ux, uy]; simp only [binOp, Sem.run_bind, hbb hu, Result.andThen_ok, Sem.run_pure])) (.pure (.bool _)), rfl, rfl⟩
    · cases he
  · rename_i cs ds e1 e2
    rw [e1] at hx; rw [e2] at hy
    obtain ⟨us, ux, hus⟩ := hx.inv_agg
    obtain ⟨vs, uy, hvs⟩ := hy.inv_agg
    split at he
    · rename_i ks hk hag
      split at he
      · rename_i b hb
        have hg : (eqGuard op T x y (a.eval x) (a.eval y)).run P w = .ok () w := by
          rw [ux, uy]; exact run_eqGuard_agg (P := P) w op T x y _ _ (eqGuard_flat hk _ hG.depth)
        have heq := equalIn_flat (C := C) hk 10000 (by omega) hb hus hvs
        simp only [mkV, hag, if_true] at heq
        split at he
        · simp [effV] at he; subst he
          exact ⟨.same hr (run_bin (u := undef) (v := undef) hr hρ hl hop hg (r := .bool b) (by rw [ux, uy, run_eql_struct, heq]; rfl)) (.pure (.bool _)), rfl, rfl⟩
        · simp [effV] at he; subst he
          exact ⟨.same hr (run_bin (u := undef) (v := undef) hr hρ hl hop hg (r := .bool (!b)) (by rw [ux, uy, run_neq_struct, heq]; rfl)) (.pure (.bool _)), rfl, rfl⟩
        · cases he
      · cases he
    · cases he
  · cases he

theorem sound_un {op : UnOp} {T : TypeId} {x : Operand} (hop : o.op = .unOp op T x) {eff : Eff} (he : unA op (rd x) = some eff) :
    OpOK P C h φ w a o h eff.val ∧ eff.upd = [] ∧ eff.new = [] := by
  have hx := hρ x
  unfold unA at he
  split at he
  · rename_i b e1
    rw [e1] at hx
    simp [effV] at he; subst he
    exact ⟨.same hr (v := .bool (!b)) (by simp [execOp, hop, hx.inv_bool, Op.unary]) (.pure (.bool _)), rfl, rfl⟩
  · rename_i k n e1
    rw [e1] at hx
    simp [effV] at he; subst he
    exact ⟨.same hr (v := .int k (k.wrap (0 - n))) (by simp [execOp, hop, hx.inv_int, Op.unary, Op.intArith]) (by simpa using VRep.pure (.int _ _)), rfl, rfl⟩
  · rename_i k n e1
    rw [e1] at hx
    simp [effV] at he; subst he
    exact ⟨.same hr (v := .int k (k.wrap (BitVec.ofInt k.bits (if k.signed then -1 else k.max) ^^^ BitVec.ofInt k.bits n).toNat)) (by simp [execOp, hop, hx.inv_int, Op.unary, Op.intBits]) (.pure (.int _ _)), rfl, rfl⟩
  · cases he

theorem sound_extract {x : Operand} {i : Nat} (hop : o.op = .extract x i) {vs : List AV} {y : AV} (e1 : rd x = .tup vs) (e2 : vs[i]? = some y) : OpOK P C h φ w a o h y := by
  have hx := hρ x
  rw [e1] at hx
  obtain ⟨us, ux, hus⟩ := hx.inv_tup
  obtain ⟨v, h1, h2⟩ := hus.get i e2
  exact .same hr (v := v) (by simp [execOp, hop, ux, Instr.extract, h1]) h2

theorem sound_pick {c x y : Operand} {t d : Bool} (hop : o.op = .pick c x y) (e1 : rd c = .bool t) (e2 : t = d) : OpOK P C h φ w a o h (if d then rd x else rd y) := by
  have hx := hρ c
  rw [e1] at hx
  subst e2
  exact .same hr (v := if t then a.eval x else a.eval y) (by simp [execOp, hop, hx.inv_bool, asBool]) (by cases t <;> simp [hρ])

theorem own_form {id : Nat} (hd : h id ≠ .dead) {n : Nat} (hn : (∃ T s xs, h id = .row T s xs ∧ xs.length = n) ∨ ∃ xs, h id = .fro xs ∧ xs.length = n) : ∃ p c, φ id = .slice p n c := by
  have ho := hr.obj id
  rcases hn with ⟨T, s, xs, h2, rfl⟩ | ⟨xs, h2, rfl⟩
  · rw [h2] at ho
    obtain ⟨cells, h3, _⟩ := ho
    rcases h3.2 with ⟨h4, h5⟩ | ⟨g, cap, cur, h4, _⟩
    · exact ⟨none, 0, by rw [h4, h5]⟩
    · exact ⟨_, _, h4⟩
  · rw [h2] at ho
    obtain ⟨p, c, h4, _⟩ := VRep.inv_sl (h := h) (φ := φ) (.pure ho)
    exact ⟨_, _, h4⟩

theorem lenA_run {x : Operand} {n : Int} {T : TypeId} (he : lenA P look T (rd x) = some n) (ty : TypeId) :
    (Builtin.len_ #[T] ty #[a.eval x]).run P w = .ok (.int .i64 n) w := by
  have hx := hρ x
  unfold lenA at he
  split at he
  · rename_i s e1
    rw [e1] at hx
    split at he
    · rename_i hu
      simp at he; subst he
      rw [hx.inv_str]
      simp [Builtin.len_, run_underlying hu, goInt]
    · cases he
  · rename_i fl xs e1
    rw [e1] at hx
    split at he
    · rename_i hu
      simp at he; subst he
      obtain ⟨p, c, e, _⟩ := hx.inv_sl
      rw [e]
      simp [Builtin.len_, run_underlying hu, goInt]
    · cases he
  · rename_i id e1
    rw [e1] at hx
    have hv := hx.inv_own
    split at he
    · rename_i hu
      split at he
      · rename_i T' s xs e2
        have h2 := hl.get e2 (by simp)
        simp at he; subst he
        obtain ⟨p, c, h4⟩ := own_form hr hρ hl (id := id) (n := xs.length) (by simp [h2]) (.inl ⟨_, _, _, h2, rfl⟩)
        rw [hv.2 (by simp [h2]), h4]
        simp [Builtin.len_, run_underlying hu, goInt]
      · rename_i xs e2
        have h2 := hl.get e2 (by simp)
        simp at he; subst he
        obtain ⟨p, c, h4⟩ := own_form hr hρ hl (id := id) (n := xs.length) (by simp [h2]) (.inr ⟨_, h2, rfl⟩)
        rw [hv.2 (by simp [h2]), h4]
        simp [Builtin.len_, run_underlying hu, goInt]
      · cases he
    · rename_i hu
      split at he
      · rename_i ks e2
        have h2 := hl.get e2 (by simp)
        simp at he; subst he
        have ho := hr.obj id
        rw [h2] at ho
        obtain ⟨b, es, clk, h4, h5, h6, h7, h8⟩ := ho
        rw [hv.2 (by simp [h2]), h4]
        have hlen : es.size = ks.length := by have := congrArg List.length h7; simpa using this
        have hget : (getObj b).run P w = .ok (.map es clk) w := by
          simp [getObj, Sem.run, h6]
        simp [Builtin.len_, run_underlying hu, goInt, hget, hlen]
      · cases he
    · cases he
  · cases he

theorem sound_len {c : Call} (hop : o.op = .call c) (hc : c.callee = .builtin .len) {x : Operand} {T : TypeId} (ha : c.args.toList = [x]) (ht : c.argTypes.toList = [T]) {n : Int} (he : lenA P look T (rd x) = some n) :
    OpOK P C h φ w a o h (.int .i64 n) := by
  refine .same hr (v := .int .i64 n) ?_ (.pure (.int _ _))
  obtain ⟨cs, hres⟩ := resolve_builtin (P := P) (a := a) (w := w) hc o.type
  simp only [execOp, hop, Sem.run_bind, hres, Result.andThen_ok, invoke, builtin, toList_one ha, toList_one ht, List.map_toArray, List.map_cons, List.map_nil]
  rw [lenA_run hr hρ hl he]
  simp
theorem sound_min {c : Call} (hop : o.op = .call c) (hc : c.callee = .builtin .min) {x y : Operand} (ha : c.args.toList = [x, y]) {z : AV} (he : min2A (rd x) (rd y) = some z) :
    OpOK P C h φ w a o h z := by
  have hx := hρ x
  have hy := hρ y
  unfold min2A at he
  split at he
  · rename_i k n k' n' e1 e2
    rw [e1] at hx; rw [e2] at hy
    simp at he; subst he
    refine .same hr (v := .int k (if n' < n then n' else n)) ?_ (.pure (.int _ _))
    obtain ⟨cs, hres⟩ := resolve_builtin (P := P) (a := a) (w := w) hc o.type
    simp only [execOp, hop, Sem.run_bind, hres, Result.andThen_ok, invoke, builtin, toList_two ha, List.map_toArray, List.map_cons, List.map_nil]
    simp [hx.inv_int, hy.inv_int, Builtin.min_, Builtin.min2]
  · cases he
theorem sound_max {c : Call} (hop : o.op = .call c) (hc : c.callee = .builtin .max) {x y : Operand} (ha : c.args.toList = [x, y]) {z : AV} (he : max2A (rd x) (rd y) = some z) :
    OpOK P C h φ w a o h z := by
  have hx := hρ x
  have hy := hρ y
  unfold max2A at he
  split at he
  · rename_i k n k' n' e1 e2
    rw [e1] at hx; rw [e2] at hy
    simp at he; subst he
    refine .same hr (v := .int k (if n' > n then n' else n)) ?_ (.pure (.int _ _))
    obtain ⟨cs, hres⟩ := resolve_builtin (P := P) (a := a) (w := w) hc o.type
    simp only [execOp, hop, Sem.run_bind, hres, Result.andThen_ok, invoke, builtin, toList_two ha, List.map_toArray, List.map_cons, List.map_nil]
    simp [hx.inv_int, hy.inv_int, Builtin.max_, Builtin.max2]
  · cases he
end ops

end Go.Abs
