/- slices.Insert at messages: in the middle. -/
import Derived.Test.YteocckoglkbonaaDoorK4
import Derived.Laws.NewBlocks
set_option linter.unusedVariables false
namespace Go.Abs
open Go.Proofs Go.RowKit Go.Lib Go.Shelf

theorem copy_row {W : World} (g off dLen dCap sLen sCap : Nat) (ad : Addr) (cur : Array Value) (us : List Value) (hW : W.heap[g]? = some (.cells cur 35 (0, 0))) (hus : us.length = Nat.min sLen dLen * 7)
    (hsrc : ∀ j u, us[j]? = some u → W.cell? (ad.add j) = some u) (hfit : off + us.length ≤ cur.size) (h1 : ∀ u ∈ us, u.oneCell' = true) (ty : TypeId) :
    (Builtin.copy_ #[24, 24] ty #[.slice (some ⟨g, off, none⟩) dLen dCap, .slice (some ad) sLen sCap]).run Tryd.prog W =
      .ok (goInt (Nat.min sLen dLen)) (W.setRow g (cur.toList.take off ++ us ++ cur.toList.drop (off + us.length)).toArray) := by
  have u24 : Tryd.prog.underlying 24 = some (.slice 35) := by kernel_rfl
  have hsz : sz Tryd.prog 35 = some 7 := size35
  have hl := run_loadCells_list (P := Tryd.prog) W ad us hsrc
  rw [hus] at hl
  have hst := run_storeCells_at Tryd.prog g off 35 us 0 cur W hW (by simpa using hfit) h1
  simp only [Nat.add_zero] at hst
  simp [Builtin.copy_, run_underlying u24, Builtin.lenOf, Builtin.firstCells, run_sizeOf hsz, hl, hst, Result.andThen]
theorem step_copy_row {P : Program} {ops : Array Oper} {o : Oper} {a : Act} {w : World} {K : Act → World → Prop} {Q : Exit → Act → World → Prop} {E : Prop}
    (hg : o.guard = none) (d x : Operand) (dT sT : TypeId) (hop : o.op = Op.call { callee := Callee.builtin Builtin.copy, args := #[d, x], argTypes := #[dT, sT] })
    (v u : Value) (hd : a.eval d = v) (hx : a.eval x = u) {v' : Value} {w' : World} (hr : (Builtin.copy_ #[dT, sT] o.type #[v, u]).run P w = .ok v' w') (hK : K (a.put o.dst v') w') :
    if Region.wanted o (yielded ops a.tmps) = true then Oper.wp P o a w K Q else E := by
  have hw : Region.wanted o (yielded ops a.tmps) = true := by simp [Region.wanted, hg]
  rw [if_pos hw]
  unfold Oper.wp
  simp [execOp, hop, resolve, invoke, builtin, hd, hx, hr, Result.andThen]
  exact hK
theorem wp_copy_row {P : Program} (w : World) {ops : Array Oper} {rest : List Oper} {o : Oper} {a : Act} {Q : Exit → Act → World → Prop} (hgd : o.guard = none) (d s : Operand) (t t' : TypeId)
    (ho : o.op = .call { callee := .builtin .copy, args := #[d, s], argTypes := #[t, t'] }) (v u : Value) (hd : a.eval d = v) (hs : a.eval s = u) {v' : Value} {w' : World}
    (hr : (Builtin.copy_ #[t, t'] o.type #[v, u]).run P w = .ok v' w') (h : wpList P ops Q rest (a.put o.dst v') w') : wpList P ops Q (o :: rest) a w :=
  wpList_plain hgd fun _ hK => by
    unfold Oper.wp execOp
    simp only [ho, resolve, invoke, builtin, Sem.run_bind, Sem.run_pure, Result.andThen_ok, List.map_toArray, List.map_cons, List.map_nil, hd, hs, hr]
    exact hK _ _ h
end Go.Abs
