/- Slicing; function values; rows that are made. -/
import Derived.Test.YteocckoglkbonaaDoorE8
set_option linter.unusedVariables false
set_option linter.unusedSimpArgs false
set_option linter.unusedSectionVars false
namespace Go.Abs
open Go.RowKit

section rows
variable {A : Nat → Prop} {w : World}
theorem RepRow.drop {s xs b o} (p : RepRow A w s xs b o) (l : Nat) : l ≤ xs.length → RepRow A w s (xs.drop l) b (o + l * s) := by
  induction xs generalizing o l with
  | nil => intro h; simp at h; subst h; simp; exact .nil _ _ _
  | cons y xs ih =>
    intro h
    cases l with
    | zero => simpa using p
    | succ l =>
      simp at h
      cases p with
      | agg a t =>
        have := ih t l h
        simp only [List.drop_succ_cons]
        rw [show ∀ n : Nat, o + (l + 1) * n = o + n + l * n from fun n => by rw [Nat.add_mul]; omega]
        exact this
      | one hy hc h0 a t =>
        have := ih t l h
        simp only [List.drop_succ_cons]
        rw [show o + (l + 1) * 1 = o + 1 + l * 1 by omega]
        exact this
theorem RepRow.take {s xs b o} (p : RepRow A w s xs b o) (n : Nat) : RepRow A w s (xs.take n) b o := by
  induction xs generalizing o n with
  | nil => simpa using p
  | cons y xs ih =>
    cases n with
    | zero => simp; exact .nil _ _ _
    | succ n =>
      cases p with
      | agg a t => exact .agg a (ih t n)
      | one hy hc h0 a t => exact .one hy hc h0 a (ih t n)
/-- The element size of a row that has elements. -/
theorem RepRow.size {s xs b o} (p : RepRow A w s xs b o) {n : Nat} (h : ∀ y ∈ xs, y.cells.length = n) (hne : xs ≠ []) : s = n := by
  cases xs with
  | nil => exact absurd rfl hne
  | cons y xs => rw [← (p.list).2 y (by simp), h y (by simp)]

/-- A part of a slice. -/
theorem rep_slice {xs : List AV} {v : Value} (p : Rep A w (.sl .p xs) v) {n l h : Nat} (hn : ∀ y ∈ xs, y.cells.length = n) (h1 : l ≤ h) (h2 : h ≤ xs.length) :
    ∃ a cap, v = .slice a xs.length cap ∧ xs.length ≤ cap ∧ Rep A w (.sl .p ((xs.take h).drop l)) (.slice (if cap = l then a else a.map (·.add (l * n))) (h - l) (cap - l)) := by
  obtain ⟨a, cap, e, hc, hm, ⟨_, hnone⟩, hx⟩ := VRep.inv_sl (h := fun _ => .unborn) (φ := fun _ => undef) (.pure p)
  refine ⟨a, cap, e, hc, ?_⟩
  have hlen : ((xs.take h).drop l).length = h - l := by simp; omega
  rcases Nat.eq_zero_or_pos (h - l) with h0 | h0
  · have : (xs.take h).drop l = [] := List.eq_nil_of_length_eq_zero (by omega)
    rw [this, h0]
    cases a with
    | none =>
      have := hnone rfl
      rw [show cap - l = 0 by omega]
      split <;> exact .nil .p
    | some ad =>
      split <;> exact .sl0 (by omega)
  · have hne : xs ≠ [] := fun e => by subst e; simp at h2; omega
    obtain ⟨b, o, s, h3, h4, h5⟩ := hx hne
    subst h3
    have hs := h5.size hn hne
    subst hs
    have hcl : ¬ cap = l := by omega
    rw [if_neg hcl]
    have h6 := (h5.take h).drop l (by simp; omega)
    simp only [Option.map_some, add_at]
    match hq : (xs.take h).drop l, hlen with
    | [], e => simp at e; omega
    | y :: ys, e =>
      rw [hq] at h6
      exact .sl e.symm (by omega) (by omega) h4 h6
end rows

section ops
variable {P : Program} {E : Env} {C : C0} {h : SH} {φ : Nat → Value} {w : World} {a : Act} {o : Oper} {rd : Operand → AV} {look : Nat → Ob}

theorem run_bounds (isSlice : Bool) (len cap : Nat) (lo hi : Option Value) (l g : Int) (hlo : (lo = none ∧ l = 0) ∨ ∃ k, lo = some (.int k l)) (hhi : (hi = none ∧ g = len) ∨ ∃ k, hi = some (.int k g))
    (h0 : 0 ≤ l) (h1 : l ≤ g) (h2 : g ≤ cap) : (Instr.sliceBounds isSlice len cap lo hi none).run P w = .ok (l.toNat, g.toNat, cap) w := by
  have e1 : (g.toNat : Int) = g := by omega
  have e2 : 0 ≤ g := by omega
  rcases hlo with ⟨rfl, rfl⟩ | ⟨k, rfl⟩ <;> rcases hhi with ⟨rfl, rfl⟩ | ⟨k', rfl⟩ <;>
    simp [Instr.sliceBounds, Instr.sliceBound, asIntOf, h0, h1, h2, e2, e1] <;> omega

variable (hr : Rel C h φ w) (hρ : ∀ x, VRep h φ (okB C h φ w) w (rd x) (a.eval x)) (hl : Sees look h)
include hr hρ hl

theorem bounds_inv {lo hi : Option Operand} {n : Nat} {l g : Int} (he : boundsA (lo.map rd) (hi.map rd) n = some (l, g)) :
    ((lo.map a.eval = none ∧ l = 0) ∨ ∃ k, lo.map a.eval = some (.int k l)) ∧ ((hi.map a.eval = none ∧ g = n) ∨ ∃ k, hi.map a.eval = some (.int k g)) := by
  unfold boundsA at he
  split at he
  · rename_i l' g' e1 e2
    simp at he
    obtain ⟨rfl, rfl⟩ := he
    constructor
    · cases lo with
      | none => simp at e1; exact .inl ⟨rfl, e1.symm⟩
      | some x => simp at e1; obtain ⟨k, hk⟩ := bnd_inv hr hρ hl e1; exact .inr ⟨k, by simp [hk]⟩
    · cases hi with
      | none => simp at e2; exact .inl ⟨rfl, e2.symm⟩
      | some x => simp at e2; obtain ⟨k, hk⟩ := bnd_inv hr hρ hl e2; exact .inr ⟨k, by simp [hk]⟩
  · cases he

/-- Slicing what will not be written. -/
theorem run_slice_sl {T e : TypeId} {x : Operand} {lo hi : Option Operand} (hop : o.op = .slice T x lo hi none) (hT : elemA P T = some e) {n : Nat} (hs : sz P e = some n) {xs : List AV}
    (p : Rep (okB C h φ w) w (.sl .p xs) (a.eval x)) {l g : Int} (hb : boundsA (lo.map rd) (hi.map rd) xs.length = some (l, g)) (hc : 0 ≤ l ∧ l ≤ g ∧ g ≤ xs.length) (hn : ∀ y ∈ xs, y.cells.length = n) :
    ∃ v, (execOp a.eval o).run P w = .ok (.value v) w ∧ Rep (okB C h φ w) w (.sl .p ((xs.take g.toNat).drop l.toNat)) v := by
  have hu : P.underlying T = some (.slice e) := by unfold elemA at hT; split at hT <;> simp_all
  obtain ⟨b1, b2⟩ := bounds_inv hr hρ hl hb
  obtain ⟨ad, cap, e1, e2, e3⟩ := rep_slice p hn (l := l.toNat) (h := g.toNat) (by omega) (by omega)
  have hbd := run_bounds (P := P) (w := w) true xs.length cap (lo.map a.eval) (hi.map a.eval) l g b1 b2 hc.1 hc.2.1 (by omega)
  refine ⟨_, ?_, e3⟩
  simp [execOp, hop, Instr.sliceAt, run_underlying hu, Instr.slice, e1, hbd, run_sizeOf hs]

theorem sound_slice {T : TypeId} {x : Operand} {lo hi : Option Operand} (hop : o.op = .slice T x lo hi none) {eff : Eff} {fresh : Nat} (he : sliceA P look T (rd x) (lo.map rd) (hi.map rd) = some eff) (hob : All eff.obl) :
    OpOK P C h φ w a o (newS (updS h eff.upd) fresh eff.new) eff.val := by
  have hx := hρ x
  unfold sliceA at he
  split at he
  · rename_i s e1
    rw [e1] at hx
    split at he
    · rename_i l g hu hb
      simp [effIf] at he; subst he
      have hc : 0 ≤ l ∧ l ≤ g ∧ g ≤ s.size := hob.1
      obtain ⟨b1, b2⟩ := bounds_inv hr hρ hl hb
      have hbd := run_bounds (P := P) (w := w) false s.size s.size (lo.map a.eval) (hi.map a.eval) l g b1 b2 hc.1 hc.2.1 hc.2.2
      exact .same hr (v := .string (s.extract l.toNat g.toNat)) (by simp [execOp, hop, Instr.sliceAt, run_underlying hu, Instr.slice, hx.inv_str, hbd]) (.pure (.str _))
    · cases he
  · rename_i fl xs e1
    rw [e1] at hx
    split at he
    · rename_i e l g hT hb
      split at he
      · rename_i n hs
        simp at he; subst he
        have hp := hx.plain
        have hp : Rep (okB C h φ w) w (.sl .p xs) (a.eval x) := by
          generalize a.eval x = v at hp
          cases hp with | pure p => exact p
        obtain ⟨v, h1, h2⟩ := run_slice_sl hr hρ hl hop hT hs hp hb hob.1 hob.2.1
        exact .same hr h1 (.pure h2)
      · cases he
    · cases he
  · rename_i id e1
    rw [e1] at hx
    split at he
    · rename_i T0 s0 xs e2
      have hid := hl.get e2 (by simp)
      split at he
      · rename_i e l g hT hb
        split at he
        · rename_i n hs
          simp at he; subst he
          have hv := hx.inv_own.2 (by simp [hid])
          obtain ⟨hr2, hk2, hh2⟩ := hr.freezeRow hid
          have ho := hr2.obj id
          simp [upd1] at ho
          have hl2 : Sees (fun _ => .unborn) (upd1 h id (.fro xs)) := fun _ => .inl rfl
          obtain ⟨v, h1, h2⟩ := run_slice_sl (rd := rd) hr2 (fun y => (hρ y).mono hk2 hh2) hl2 hop hT hs (hv ▸ ho) hb hob.1 hob.2.1
          intro F m next Q hF hn
          rw [h1]
          exact hn v φ w hr2 hk2 hh2 (.pure h2)
        · cases he
      · cases he
    · rename_i xs e2
      have hid := hl.get e2 (by simp)
      split at he
      · rename_i e l g hT hb
        split at he
        · rename_i n hs
          simp at he; subst he
          have hv := hx.inv_own.2 (by simp [hid])
          have ho := hr.obj id
          rw [hid] at ho
          obtain ⟨v, h1, h2⟩ := run_slice_sl hr hρ hl hop hT hs (hv ▸ ho) hb hob.1 hob.2.1
          exact .same hr h1 (.pure h2)
        · cases he
      · cases he
    · cases he
  · cases he
end ops

end Go.Abs
