/- The tied card of omnibuslaw13.TxqSame: for every input the call returns true and its arguments read afterwards as before. Conditions: the card's own (the variable ident.greatest starts as the program's text lays it; the tie is the given one). -/
import Derived.Test.YteocckoglkbonaaDoorR2
import Derived.Test.YteocckoglkbonaaDoorL3
import Derived.ProofKit
import Derived.SevenTiedAt
import Derived.Test.YteocckoglkbonaaDoorTie
import Derived.Test.YteocckoglkbonaaDoorCards
set_option linter.unusedVariables false
set_option maxRecDepth 100000
namespace Go.Proofs.YteocckoglkbonaaDoor
open Go Go.Abs Go.ChangeShapes Go.WideShapes Go.ChangeAt Go.RowKit

theorem txqSame_calls (xs : List AV) (h : HasTyA Tryd.prog 4 Tryd.f3.params.toList xs) : ACalls Tryd.prog EnvT 3 xs [] (.bool true) := by
  have h0 : HasTyA Tryd.prog 4 [22, 3] xs := h
  obtain ⟨c1, ys, rfl, h1, h0⟩ := tyA_cons h0
  obtain ⟨c2, zs, rfl, h2, h0⟩ := tyA_cons h0
  obtain rfl := tyA_nil h0
  obtain ⟨raw, rfl, hr, _⟩ := ty_raws6 (d := 1) h1
  obtain ⟨n, rfl, hn⟩ := ty_int (d := 3) h2
  rw [ag22, ag3]
  exact c3 ctx raw n hr hn

theorem txqSame_lifted (os : Os) (started : os.Started) (H : Type) (enc : TypeId × Value → H) :
    ReturnsInHanded {} Tryd.checked os 3 .any (fun w args => (Rows.txqSameSpec.pre enc Tryd.prog Tryd.f3 [] false w args ∧ laidMetH Tryd.prog laidG w) ∧ sizedMet enc Tryd.prog Tryd.f3 (OpenSpec.ofChange Rows.txqSameSpec) false w args)
      (Rows.txqSameSpec.post enc Tryd.prog Tryd.f3 false true false false) := by
  refine returnsInHanded_of_change_and (C := Tryd.checked) (X := fun w _ => laidMetH Tryd.prog laidG w) (fun _ _ _ hh h => h.of_heap hh) ownT started (by kernel_rfl) Tryd.func3
    (ChangeSpec.witness_shaped (enc := enc) (C := Tryd.checked) (os := os) (X := fun w _ => laidMetH Tryd.prog laidG w) false (World.doorLaid Tryd.prog 400 os) #[.slice none 0 0, .int .i64 0] 8 rfl (World.shaped_of_RefB (by kernel_rfl) (by kernel_rfl)) (by kernel_rfl) (by kernel_rfl) (by kernel_rfl) (door_met os _)) ?_
  intro W base args ds gs before hval hW _ _ hL _
  exact row_calls 4 laidOutT (by kernel_rfl) rfl uBool rfl (fun ds hd => by
    match ds, hd with
    | [d1, d2], _ => rfl) hval hW (envT_of_laid hL) txqSame_calls

theorem txqSame_holds : Rows.TxqSameSaid :=
  OpenClaim.holds_of_wide 3 Tryd.f3 rfl rfl rfl rfl rfl rfl rfl ⟨rfl, rfl, rfl, rfl, rfl⟩ rfl rfl rfl rfl rfl (by kernel_rfl) Tryd.func3 (by kernel_rfl)
    (of_decide_eq_true (by kernel_rfl)) (by unfold Func.isWrapper; first | (rw [if_pos (by decide +kernel)]; kernel_rfl) | (rw [if_neg (by decide +kernel)]; exact ⟨rfl, rfl⟩))
    (fun os started H enc _ => txqSame_lifted os started H enc)

theorem txqSame_card : Rows.TxqSameCardSaid :=
  Claim7.holds_tied_plain_at .later [] [.data] true (true, "b980a3c4b521c54e7c6e7d58878e1eba4ad4443c7d515cba98bfedeaa942a9df") false
    txqSame_holds (fun _ h => by cases h) (by kernel_rfl) (fun _ h => by cases h) txqSame_row_tie rfl ⟨rfl, rfl⟩ (by kernel_rfl) rfl
    (fun f fn hf hfn => by
      obtain rfl : f = 3 := Option.some.inj ((show Tryd.prog.funcNamed "omnibus/omnibuslaw13.TxqSame" = some 3 by kernel_rfl).symm.trans hf) |>.symm
      obtain rfl : fn = Tryd.f3 := (Option.some.inj (Tryd.func3.symm.trans hfn)).symm
      exact ⟨by kernel_rfl, fun j t ht => by
        have hm : t ∈ [22, 3] := by simpa using Array.mem_of_getElem? (xs := #[22, 3]) ht
        have hall : ([22, 3].all fun u => !Tryd.prog.wantsStandIn u) = true := by kernel_rfl
        exact (show Tryd.prog.wantsStandIn t = false by simpa using List.all_eq_true.1 hall t hm)⟩)
    (by kernel_rfl)
#print axioms txqSame_card
end Go.Proofs.YteocckoglkbonaaDoor
