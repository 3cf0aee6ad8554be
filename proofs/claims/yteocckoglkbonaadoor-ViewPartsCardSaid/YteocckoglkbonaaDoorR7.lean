/- The tied card of omnibus/omnibuslaw17.ViewParts: for every input the call returns true and its arguments read afterwards as before. Conditions: the card's own (the variable ident.greatest starts as the program's text lays it; the tie is the given one). -/
import Derived.Test.YteocckoglkbonaaDoorR2b
import Derived.Test.YteocckoglkbonaaDoorV7c
import Derived.ProofKit
import Derived.SevenTiedAt
import Derived.Test.YteocckoglkbonaaDoorTie
import Derived.Test.YteocckoglkbonaaDoorCards
set_option linter.unusedVariables false
set_option maxRecDepth 100000
namespace Go.Proofs.YteocckoglkbonaaDoor
open Go Go.Abs Go.ChangeShapes Go.WideShapes Go.ChangeAt Go.RowKit

theorem viewParts_calls (xs : List AV) (h : HasTyA Tryd.prog 8 Tryd.f7.params.toList xs) : ACalls Tryd.prog EnvT 7 xs [] (.bool true) := by
  have h0 : HasTyA Tryd.prog 8 [63, 22, 3, 3, 3] xs := h
  obtain ⟨c0, ys0, rfl, h1, h0⟩ := tyA_cons h0
  obtain ⟨c1, ys1, rfl, h2, h0⟩ := tyA_cons h0
  obtain ⟨c2, ys2, rfl, h3, h0⟩ := tyA_cons h0
  obtain ⟨c3, ys3, rfl, h4, h0⟩ := tyA_cons h0
  obtain ⟨c4, ys4, rfl, h5, h0⟩ := tyA_cons h0
  obtain rfl := tyA_nil h0
  obtain ⟨x0, rfl, hx0, hl0⟩ := ty_L_a3_int (d := 5) h1
  obtain ⟨x1, rfl, hx1, hl1⟩ := ty_L_a6_int (d := 5) h2
  obtain ⟨x2, rfl, hx2⟩ := ty_int (d := 7) h3
  obtain ⟨x3, rfl, hx3⟩ := ty_int (d := 7) h4
  obtain ⟨x4, rfl, hx4⟩ := ty_int (d := 7) h5
  rw [ag_L_a3_int, ag_L_a6_int, ag3]
  exact c_law17_ViewParts ctx x0 x1 x2 x3 x4 hx0 hx1 hx2 hx3 hx4

theorem viewParts_lifted (os : Os) (started : os.Started) (H : Type) (enc : TypeId × Value → H) :
    ReturnsInHanded {} Tryd.checked os 7 .any (fun w args => (Rows.viewPartsSpec.pre enc Tryd.prog Tryd.f7 [] false w args ∧ laidMetH Tryd.prog laidG w) ∧ sizedMet enc Tryd.prog Tryd.f7 (OpenSpec.ofChange Rows.viewPartsSpec) false w args)
      (Rows.viewPartsSpec.post enc Tryd.prog Tryd.f7 false true false false) := by
  refine returnsInHanded_of_change_and (C := Tryd.checked) (X := fun w _ => laidMetH Tryd.prog laidG w) (fun _ _ _ hh h => h.of_heap hh) ownT started (by kernel_rfl) Tryd.func7
    (ChangeSpec.witness_shaped (enc := enc) (C := Tryd.checked) (os := os) (X := fun w _ => laidMetH Tryd.prog laidG w) false (World.doorLaid Tryd.prog 400 os) #[.slice none 0 0, .slice none 0 0, .int .i64 0, .int .i64 0, .int .i64 0] 8 rfl (World.shaped_of_RefB (by kernel_rfl) (by kernel_rfl)) (by kernel_rfl) (by kernel_rfl) (by kernel_rfl) (door_met os _)) ?_
  intro W base args ds gs before hval hW _ _ hL _
  exact row_calls 8 laidOutT (by kernel_rfl) rfl uBool rfl (fun ds hd => by
    match ds, hd with
    | [d0, d1, d2, d3, d4], _ => rfl) hval hW (envT_of_laid hL) viewParts_calls

theorem viewParts_holds : Rows.ViewPartsSaid :=
  OpenClaim.holds_of_wide 7 Tryd.f7 rfl rfl rfl rfl rfl rfl rfl ⟨rfl, rfl, rfl, rfl, rfl⟩ rfl rfl rfl rfl rfl (by kernel_rfl) Tryd.func7 (by kernel_rfl)
    (of_decide_eq_true (by kernel_rfl)) (by unfold Func.isWrapper; first | (rw [if_pos (by decide +kernel)]; kernel_rfl) | (rw [if_neg (by decide +kernel)]; exact ⟨rfl, rfl⟩))
    (fun os started H enc _ => viewParts_lifted os started H enc)

theorem viewParts_card : Rows.ViewPartsCardSaid :=
  Claim7.holds_tied_plain_at .later [] [.data] true (true, "b980a3c4b521c54e7c6e7d58878e1eba4ad4443c7d515cba98bfedeaa942a9df") false
    viewParts_holds (fun _ h => by cases h) (by kernel_rfl) (fun _ h => by cases h) viewParts_row_tie rfl ⟨rfl, rfl⟩ (by kernel_rfl) rfl
    (fun f fn hf hfn => by
      obtain rfl : f = 7 := Option.some.inj ((show Tryd.prog.funcNamed "omnibus/omnibuslaw17.ViewParts" = some 7 by kernel_rfl).symm.trans hf) |>.symm
      obtain rfl : fn = Tryd.f7 := (Option.some.inj (Tryd.func7.symm.trans hfn)).symm
      exact ⟨by kernel_rfl, fun j t ht => by
        have hm : t ∈ [63, 22, 3, 3, 3] := by simpa using Array.mem_of_getElem? (xs := #[63, 22, 3, 3, 3]) ht
        have hall : ([63, 22, 3, 3, 3].all fun u => !Tryd.prog.wantsStandIn u) = true := by kernel_rfl
        exact (show Tryd.prog.wantsStandIn t = false by simpa using List.all_eq_true.1 hall t hm)⟩)
    (by kernel_rfl)
#print axioms viewParts_card
end Go.Proofs.YteocckoglkbonaaDoor
