/- ident.limit: reads the variable. -/
import Derived.Test.YteocckoglkbonaaDoorWS
import Derived.Tactics
import Derived.Tactics2
import Derived.StillTactics
import Derived.Laws.Pointers
import Derived.RegionTactic
import Derived.LoopTactic
import Derived.ChangeAlike
set_option linter.unusedVariables false
namespace Go.Abs
open Go.Proofs Go.RowKit

theorem limit_wide (c : Value) (w : World) (h : w.cell? ⟨0, 1, none⟩ = some c) : Calls Tryd.prog 147 #[.bool true] w fun e w' => e = .returned c ∧ w' = w := by
  go_enter Tryd.func147, Tryd.ntmps147
  go_wp2
  go_ret
  exact ⟨rfl, rfl⟩
theorem limit_short (c : Value) (w : World) (h : w.cell? ⟨0, 0, none⟩ = some c) : Calls Tryd.prog 147 #[.bool false] w fun e w' => e = .returned c ∧ w' = w := by
  go_enter Tryd.func147, Tryd.ntmps147
  go_wp2
  go_ret
  exact ⟨rfl, rfl⟩

/-- What the program's variable holds. -/
def EnvT : Env := fun w => w.cell? ⟨0, 0, none⟩ = some (.int .i64 2047) ∧ w.cell? ⟨0, 1, none⟩ = some (.int .i64 536870911)
theorem envT_ok : EnvOK EnvT := by
  rintro w w' ⟨h0, h1⟩ hb
  have hlt : (0 : Nat) < w.heap.size := by
    cases hs : w.heap.size with
    | zero =>
      have : w.heap[0]? = none := by simp [hs]
      simp [World.cell?, this] at h0
    | succ n => omega
  have e : w'.heap[0]? = w.heap[0]? := hb.block 0 hlt
  refine ⟨?_, ?_⟩
  · rw [← h0]; simp [World.cell?, e]
  · rw [← h1]; simp [World.cell?, e]
theorem enters147 : Enters Tryd.prog 147 := ⟨Tryd.f147, bodyOf Tryd.prog 147, by kernel_rfl, by kernel_rfl, by kernel_rfl⟩
theorem k_ident_limit (e : Bool) : ACalls Tryd.prog EnvT n_ident_limit [AV.bool e] [] (AV.int .i64 (limitS e)) := by
  refine ⟨enters147, fun C vs hE hA hr => ?_⟩
  have hvs : vs = [.bool e] := by
    cases hr with
    | cons p q => cases q; cases p; rfl
  subst hvs
  rw [callsIn_wide]
  have fin : ∀ c : Int, Calls Tryd.prog 147 #[.bool e] C.w0 (fun e' w' => e' = .returned (.int .i64 c) ∧ w' = C.w0) → limitS e = c →
      Calls Tryd.prog 147 [Value.bool e].toArray C.w0 (ARes C [] (AV.int .i64 (limitS e))) := by
    intro c hc hl
    refine hc.mono ?_
    rintro e' w' ⟨rfl, rfl⟩
    refine ⟨_, fun _ => undef, rfl, ⟨Below.refl _ _, fun id => ?_, fun id id' b hl => ?_⟩, ?_⟩
    · show ORep C _ _ _ _ (([] : List Ob).getD id .unborn); simp [ORep]
    · have : (([] : List Ob).getD id .unborn).live = true := hl
      simp [Ob.live] at this
    · rw [hl]; exact .pure (.int _ _)
  cases e with
  | true => exact fin 536870911 (limit_wide _ _ hE.2) rfl
  | false => exact fin 2047 (limit_short _ _ hE.1) rfl
theorem good_tryd : Good Tryd.prog := ⟨Nat.le_of_ble_eq_true (by kernel_rfl), by kernel_rfl⟩
end Go.Abs
