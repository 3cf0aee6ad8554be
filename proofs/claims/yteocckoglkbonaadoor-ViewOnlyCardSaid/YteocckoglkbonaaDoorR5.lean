/- The tied card of omnibus/omnibuslaw17.ViewOnly: for every input the call returns true and its arguments read afterwards as before. Conditions: the card's own (the variable ident.greatest starts as the program's text lays it; the tie is the given one). -/
import Derived.Test.YteocckoglkbonaaDoorR2
import Derived.Test.YteocckoglkbonaaDoorV7
import Derived.ProofKit
import Derived.SevenTiedAt
import Derived.Test.YteocckoglkbonaaDoorTie
import Derived.Test.YteocckoglkbonaaDoorCards
set_option linter.unusedVariables false
set_option maxRecDepth 100000
namespace Go.Proofs.YteocckoglkbonaaDoor
open Go Go.Abs Go.ChangeShapes Go.WideShapes Go.ChangeAt Go.RowKit

theorem viewOnly_calls (xs : List AV) (h : HasTyA Tryd.prog 8 Tryd.f8.params.toList xs) : ACalls Tryd.prog EnvT 8 xs [] (.bool true) := by
  have h0 : HasTyA Tryd.prog 8 [3, 22] xs := h
  obtain ⟨c0, ys0, rfl, h1, h0⟩ := tyA_cons h0
  obtain ⟨c1, ys1, rfl, h2, h0⟩ := tyA_cons h0
  obtain rfl := tyA_nil h0
  obtain ⟨x0, rfl, hx0⟩ := ty_int (d := 7) h1
  obtain ⟨x1, rfl, hx1, hl1⟩ := ty_L_a6_int (d := 5) h2
  rw [ag3, ag_L_a6_int]
  exact c_law17_ViewOnly ctx x0 x1 hx0 hx1

theorem viewOnly_lifted (os : Os) (started : os.Started) (H : Type) (enc : TypeId × Value → H) :
    ReturnsInHanded {} Tryd.checked os 8 .any (fun w args => (Rows.viewOnlySpec.pre enc Tryd.prog Tryd.f8 [] false w args ∧ laidMetH Tryd.prog laidG w) ∧ sizedMet enc Tryd.prog Tryd.f8 (OpenSpec.ofChange Rows.viewOnlySpec) false w args)
      (Rows.viewOnlySpec.post enc Tryd.prog Tryd.f8 false true false false) := by
  refine returnsInHanded_of_change_and (C := Tryd.checked) (X := fun w _ => laidMetH Tryd.prog laidG w) (fun _ _ _ hh h => h.of_heap hh) ownT started (by kernel_rfl) Tryd.func8
    (ChangeSpec.witness_shaped (enc := enc) (C := Tryd.checked) (os := os) (X := fun w _ => laidMetH Tryd.prog laidG w) false (World.doorLaid Tryd.prog 400 os) #[.int .i64 0, .slice none 0 0] 8 rfl (World.shaped_of_RefB (by kernel_rfl) (by kernel_rfl)) (by kernel_rfl) (by kernel_rfl) (by kernel_rfl) (door_met os _)) ?_
  intro W base args ds gs before hval hW _ _ hL _
  exact row_calls 8 laidOutT (by kernel_rfl) rfl uBool rfl (fun ds hd => by
    match ds, hd with
    | [d0, d1], _ => rfl) hval hW (envT_of_laid hL) viewOnly_calls

theorem viewOnly_holds : Rows.ViewOnlySaid :=
  OpenClaim.holds_of_wide 8 Tryd.f8 rfl rfl rfl rfl rfl rfl rfl ⟨rfl, rfl, rfl, rfl, rfl⟩ rfl rfl rfl rfl rfl (by kernel_rfl) Tryd.func8 (by kernel_rfl)
    (of_decide_eq_true (by kernel_rfl)) (by unfold Func.isWrapper; first | (rw [if_pos (by decide +kernel)]; kernel_rfl) | (rw [if_neg (by decide +kernel)]; exact ⟨rfl, rfl⟩))
    (fun os started H enc _ => viewOnly_lifted os started H enc)

theorem viewOnly_card : Rows.ViewOnlyCardSaid :=
  Claim7.holds_tied_plain_at .later [] [.data] true (true, "b980a3c4b521c54e7c6e7d58878e1eba4ad4443c7d515cba98bfedeaa942a9df") false
    viewOnly_holds (fun _ h => by cases h) (by kernel_rfl) (fun _ h => by cases h) viewOnly_row_tie rfl ⟨rfl, rfl⟩ (by kernel_rfl) rfl
    (fun f fn hf hfn => by
      obtain rfl : f = 8 := Option.some.inj ((show Tryd.prog.funcNamed "omnibus/omnibuslaw17.ViewOnly" = some 8 by kernel_rfl).symm.trans hf) |>.symm
      obtain rfl : fn = Tryd.f8 := (Option.some.inj (Tryd.func8.symm.trans hfn)).symm
      exact ⟨by kernel_rfl, fun j t ht => by
        have hm : t ∈ [3, 22] := by simpa using Array.mem_of_getElem? (xs := #[3, 22]) ht
        have hall : ([3, 22].all fun u => !Tryd.prog.wantsStandIn u) = true := by kernel_rfl
        exact (show Tryd.prog.wantsStandIn t = false by simpa using List.all_eq_true.1 hall t hm)⟩)
    (by kernel_rfl)
#print axioms viewOnly_card
end Go.Proofs.YteocckoglkbonaaDoor
