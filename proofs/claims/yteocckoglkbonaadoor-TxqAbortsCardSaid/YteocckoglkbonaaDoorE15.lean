/- One operation, whichever. -/
import Derived.Test.YteocckoglkbonaaDoorEA
set_option linter.unusedVariables false
set_option linter.unusedSimpArgs false
set_option linter.unusedSectionVars false
namespace Go.Abs
open Go.RowKit

section ops
variable {P : Program} {E : Env} {C : C0} {h : SH} {φ : Nat → Value} {w : World} {a : Act} {o : Oper} {rd : Operand → AV} {look : Nat → Ob}

/-- What a proof about one function takes for granted. -/
structure Base (P : Program) (E : Env) (C : C0) : Prop where
  good : Good P
  env : EnvOK E
  here : E C.w0
  args : ∀ b, C.A0 b → b < C.w0.heap.size

theorem exec_sound (hB : Base P E C) (hr : Rel C h φ w) (hρ : ∀ x, VRep h φ (okB C h φ w) w (rd x) (a.eval x)) (hl : Sees look h) {fresh : Nat} {ans : Option Ans} {eff : Eff}
    (he : exec P E o rd look fresh ans = some eff) (hf : ∀ k, k < eff.new.length → h (fresh + k) = .unborn) (hob : All eff.obl) :
    OpOK P C h φ w a o (newS (updS h eff.upd) fresh eff.new) eff.val := by
  have same : ∀ {eff : Eff}, OpOK P C h φ w a o h eff.val ∧ eff.upd = [] ∧ eff.new = [] → OpOK P C h φ w a o (newS (updS h eff.upd) fresh eff.new) eff.val := by
    rintro ⟨val, upd, new, obl⟩ ⟨h1, h2, h3⟩
    simp only at h2 h3
    subst h2 h3
    exact h1
  have sameV : ∀ {x : AV}, OpOK P C h φ w a o h x → effV x = some eff → OpOK P C h φ w a o (newS (updS h eff.upd) fresh eff.new) eff.val := by
    intro x hx e
    simp [effV] at e; subst e
    exact hx
  unfold exec at he
  split at he
  · rename_i x hop
    exact sameV (sound_move hr hρ hl (.inl hop)) he
  · rename_i x hop
    exact sameV (sound_move hr hρ hl (.inr hop)) he
  · rename_i c x y hop
    split at he
    · rename_i t e1
      split at he
      · rename_i d
        simp [effIf] at he; subst he
        exact sound_pick hr hρ hl hop e1 hob.1
      · simp [effV] at he; subst he
        exact sound_pick hr hρ hl hop e1 rfl
    · cases he
  · rename_i T hop
    split at he
    · rename_i z hz
      have hu : h fresh = .unborn := by
        unfold allocA at he
        split at he
        · split at he
          · simp at he; subst he; simpa using hf 0 (by simp)
          · cases he
        · cases he
      exact sound_alloc hr hop hu hz he
    · cases he
  · rename_i T x hop
    have hu : h fresh = .unborn := by
      unfold allocA at he
      split at he
      · split at he
        · simp at he; subst he; simpa using hf 0 (by simp)
        · cases he
      · cases he
    exact sound_box hr hρ hl hop hu he
  · rename_i T parts hop
    exact same (sound_build hr hρ hl hop he)
  · rename_i T len parts hop
    have hu : h fresh = .unborn := by
      have he' := he
      unfold buildSliceA at he'
      split at he'
      · cases he'
      · split at he'
        · split at he'
          · split at he'
            · split at he'
              · split at he'
                · simp at he'; subst he'; simpa using hf 0 (by simp)
                · cases he'
              · cases he'
            · cases he'
          · cases he'
        · cases he'
    exact sound_buildSlice hr hρ hl hop hu he
  · rename_i T x hop
    exact same (sound_load hr hρ hl hop he hob)
  · rename_i T x y hop
    exact sound_store hr hρ hl hop he hob
  · rename_i x hop
    split at he
    · rename_i id off e1
      exact sameV (by rw [← e1]; exact sound_nilCheck hr hρ hl hop (.inl ⟨_, _, e1⟩)) he
    · rename_i cs off e1
      exact sameV (by rw [← e1]; exact sound_nilCheck hr hρ hl hop (.inr ⟨_, _, e1⟩)) he
    · cases he
  · rename_i op T x y yT hop
    exact same (sound_bin hr hρ hl hB.good hop he hob)
  · rename_i op T x hop
    exact same (sound_un hr hρ hl hop he)
  · rename_i S D x hop
    exact same (sound_conv hr hρ hl hop he)
  · rename_i T x lo hi hop
    exact sound_slice hr hρ hl hop he hob
  · rename_i T x f hop
    exact same (sound_fieldAddr hr hρ hl hop he)
  · rename_i T x f hop
    split at he
    · rename_i off ft cs hf1 e1
      split at he
      · rename_i y hp
        exact sameV (sound_field hr hρ hl hop hf1 e1 hp) he
      · cases he
    · cases he
  · rename_i T x i hop
    exact same (sound_indexAddr hr hρ hl hop he hob)
  · rename_i x i hop
    split at he
    · rename_i vs e1
      split at he
      · rename_i y e2
        exact sameV (sound_extract hr hρ hl hop e1 e2) he
      · cases he
    · cases he
  · rename_i T hop
    split at he
    · rename_i hm
      simp at he; subst he
      exact sound_makeMap hr hρ hl hop (by simpa using hf 0 (by simp)) hm
    · cases he
  · rename_i T m k v hop
    split at he
    · rename_i id n e1 e2 e3
      split at he
      · rename_i ks e4
        split at he
        · rename_i hm
          simp at he; subst he
          exact sound_mapUpdate hr hρ hl hop e1 e2 e3 e4 hm hob.1
        · cases he
      · cases he
    · cases he
  · rename_i T m k hop
    split at he
    · rename_i id n e1 e2
      split at he
      · rename_i ks e4
        split at he
        · rename_i hm
          exact sameV (sound_lookup hr hρ hl hop e1 e2 e4 hm) he
        · cases he
      · cases he
    · cases he
  · rename_i T x y hop
    exact sound_makeSlice hr hρ hl hop he hf hob
  · rename_i f fst caps hop
    split at he
    · rename_i e0
      have e0 : fst = #[] := by cases fst; simp_all
      subst e0
      split at he
      · rename_i ys us e1
        simp at he; subst he
        exact sound_makeFunc hr hρ hl hop e1
      · cases he
    · cases he
  · rename_i c hop
    split at he
    · rename_i hc
      split at he
      · rename_i x T ha ht
        split at he
        · rename_i n hn
          exact sameV (sound_len hr hρ hl hop hc ha ht hn) he
        · cases he
      · cases he
    · rename_i hc
      split at he
      · rename_i d x T T' ha ht
        split at he
        · rename_i e1
          subst e1
          exact sound_copy hr hρ hl hop hc ha ht he hob
        · cases he
      · cases he
    · rename_i hc
      split at he
      · rename_i x y ha
        split at he
        · rename_i z hz
          exact sameV (sound_min hr hρ hl hop hc ha hz) he
        · cases he
      · cases he
    · rename_i hc
      split at he
      · rename_i x y ha
        split at he
        · rename_i z hz
          exact sameV (sound_max hr hρ hl hop hc ha hz) he
        · cases he
      · cases he
    · rename_i hc
      split at he
      · rename_i s x T T' ha ht
        split at he
        · rename_i e1
          subst e1
          have hu : h fresh = .unborn := by
            have he' := he
            unfold appendA at he'
            split at he'
            · split at he'
              · split at he'
                · split at he'
                  · simp at he'; subst he'; simpa using hf 0 (by simp)
                  · split at he'
                    · split at he'
                      · simp at he'; subst he'; simpa using hf 0 (by simp)
                      · cases he'
                    · cases he'
                  · cases he'
                · cases he'
              · cases he'
            · cases he'
          exact sound_append hr hρ hl hop hc ha ht hu he hob
        · cases he
      · cases he
    · rename_i g hc
      split at he
      · rename_i f caps e1
        split at he
        · exact sound_callI hr hρ hl hop hc e1 he hf hob
        exact sound_call hr hρ hl hB.env hB.here hB.args hop hc e1 he hf hob
      · cases he
    · cases he
  · cases he

/-- An operation that 'exec' takes is no deferred call. -/
theorem exec_semAt {rdx : Operand → AV} {fresh : Nat} {ans : Option Ans} {eff : Eff} (he : exec P E o rdx look fresh ans = some eff) (r : Option Nat) (ρ : Operand → Value) : o.semAt r ρ = execOp ρ o := by
  unfold exec at he
  cases r with
  | none => simp [Oper.semAt]
  | some l =>
    unfold Oper.semAt
    split
    · rename_i h1 h2
      simp [h2] at he
    · rfl
end ops

end Go.Abs
