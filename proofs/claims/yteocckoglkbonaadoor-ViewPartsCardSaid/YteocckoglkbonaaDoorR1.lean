/- From a function's abstract contract to its row. -/
import Derived.Test.YteocckoglkbonaaDoorR0
import Derived.ChangeSame
import Derived.RowKit
import Derived.LaidMore
import Derived.LaidLaws
import Derived.Handed
set_option linter.unusedVariables false
set_option linter.unusedSimpArgs false
namespace Go.Abs
open Go.ChangeShapes Go.WideShapes Go.RowKit Go.Deep

section
variable {H : Type} {enc : TypeId × Value → H} {P : Program}

theorem trodAll_len {w : World} {base : Nat} {spare : Nat → Bool} {held : Bool} : ∀ {ts : List TypeId} {vs : List Value} {ds : List (DataW H)} {ps : List MemPlace}, DataW.TrodAll enc P w base spare held ts vs ds ps → ds.length = ts.length := by
  intro ts
  induction ts with
  | nil => intro vs ds ps h; obtain ⟨_, rfl, _⟩ := trodAll_nil h; rfl
  | cons t ts ih => intro vs ds ps h; obtain ⟨v, vs', x, ds', p, q, rfl, rfl, rfl, h1, h2⟩ := trodAll_cons h; simp [ih h2]

/-- A law that answers true, whatever its arguments: its row's contract. -/
theorem row_calls {E : Env} {f : FuncId} {fn : Func} {s : ChangeSpec} (d : Nat) {tb : TypeId} {W : World} {base : Nat} {args : Array Value} {ds gs : List (DataW H)} {before : List MemPlace}
    (hl : laidOutB P = true) (hts : (fn.params.toList.all fun t => P.readableRec t && decide (t < P.types.size) && okT P d t) = true) (hr : fn.resultTypes = #[tb]) (hb : P.underlying tb = some .bool)
    (hv : s.vars = []) (hs : ∀ ds : List (DataW H), ds.length = fn.params.size → s.fn H ds = { results := [.lit (.bool true)], args := ds })
    (hval : ∀ (j : Nat) t v, fn.params[j]? = some t → args[j]? = some v → Value.okWide P W .any base t v)
    (hW : DataW.Whole enc P fn.params.toList s.vars false W args.toList ds gs before) (hE : E W)
    (hcall : ∀ as, HasTyA P d fn.params.toList as → ACalls P E f as [] (.bool true)) :
    Calls P f args W fun e W' => ∃ v, e = .returned v ∧ s.post enc P fn false true false false W args v W' := by
  have hW' := hW
  obtain ⟨p, q, hA, hV, rfl, hfz, hnd⟩ := hW
  have hall : ∀ t ∈ fn.params.toList, P.readableRec t = true ∧ t < P.types.size ∧ okT P d t = true := fun t ht => by
    have := List.all_eq_true.1 hts t ht
    simp only [Bool.and_eq_true, decide_eq_true_eq] at this
    exact ⟨this.1.1, this.1.2, this.2⟩
  obtain ⟨as, h1, h2⟩ := open_args (d := d) (base := base) (fun t ht => (hall t ht).2.2) (fun j t v hj hx => hval j t v (by simpa using hj) (by simpa using hx)) hA
  have hc := (hcall as h2).2 ⟨Here W, W⟩ args.toList hE (fun b hb => hb) h1
  rw [callsIn_wide] at hc
  have hlt : ∀ x ∈ p, x.block < W.heap.size := fun x hx => by simpa using hW'.lt x (by simp [hx])
  refine Calls.mono (by simpa using hc) ?_
  rintro e W' ⟨v, φ, rfl, hR, hv'⟩
  have hvb : v = .bool true := by
    cases hv' with
    | pure h => cases h; rfl
  subst hvb
  have hbe : Below W.heap.size W W' := hR.below
  rw [hv] at hV
  have hg : gs = [] := by cases gs <;> simp_all [DataW.TrodVars]
  subst hg
  have hq : q = [] := hV
  subst hq
  have hlen : ds.length = fn.params.size := by rw [trodAll_len hA]; simp
  have hsp := hs ds hlen
  refine ⟨_, rfl, ds, [], p ++ [], [], p, [], hW', ?_, ?_, ?_, hbe.frame _, fun h => by cases h⟩
  · rw [List.append_nil, hsp, hr]
    exact trodAll_mk1 (shut_bool hb _)
  · rw [List.append_nil, hsp]
    exact args_stay hl (fun t ht => ⟨(hall t ht).1, (hall t ht).2.1⟩) hA hbe hlt
  · rw [List.append_nil, hsp, hv]
    exact rfl
end
end Go.Abs
