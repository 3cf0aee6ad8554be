/-
  DERIVED. GIVEN WITH THE SEED: THE CARDS: each row of YteocckoglkbonaaDoorRows.lean that lists a variable, with what it lists TIED to the program's text (the seventh form; the later family's looks); each row that meets fmt, with fmt's text TOLD by the authors' own Lean function (tested against real Go, not proved from fmt's source: count such statements apart). THE CARD IS WHAT COUNTS. Prove the row's statement (the work); the ties are given (YteocckoglkbonaaDoorTie.lean); close each card by the builder's one call (the guide's Derived/Test/ToyasCard.lean, 'card_holds'). Laid BY PROGRAM, IN A SANDBOX (cutbox-door.mjs). By AI agents, Wed Nov 11 2026. No macro, syntax, notation, axiom, sorry.
-/
import Derived.Test.YteocckoglkbonaaDoorRows
import GoSem.ClaimSeven
namespace Go.Proofs.YteocckoglkbonaaDoor
namespace Rows

/-- THE TIED CARD OF 'omnibuslaw13.TxqSame'. -/
def txqSameCard : Claim7 := { stood := { row := txqSameRow, standIns := [], harness := (true, "b980a3c4b521c54e7c6e7d58878e1eba4ad4443c7d515cba98bfedeaa942a9df"), looks := false }, kinds := [], alts := [], laidByText := true, laidKinds := [.data], laidTests := true, laidLooks := .later }
def TxqSameCardSaid : Prop := Claim7.holds Tryd.pinned (.plain (OpenSpec.ofChange txqSameSpec)) txqSameCard

/-- THE TIED CARD OF 'omnibuslaw13.TxqAborts'. -/
def txqAbortsCard : Claim7 := { stood := { row := txqAbortsRow, standIns := [], harness := (true, "b980a3c4b521c54e7c6e7d58878e1eba4ad4443c7d515cba98bfedeaa942a9df"), looks := false }, kinds := [], alts := [], laidByText := true, laidKinds := [.data], laidTests := true, laidLooks := .later }
def TxqAbortsCardSaid : Prop := Claim7.holds Tryd.pinned (.plain (OpenSpec.ofChange txqAbortsSpec)) txqAbortsCard

/-- THE TIED CARD OF 'omnibuslaw17.ViewGrows'. -/
def viewGrowsCard : Claim7 := { stood := { row := viewGrowsRow, standIns := [], harness := (true, "b980a3c4b521c54e7c6e7d58878e1eba4ad4443c7d515cba98bfedeaa942a9df"), looks := false }, kinds := [], alts := [], laidByText := true, laidKinds := [.data], laidTests := true, laidLooks := .later }
def ViewGrowsCardSaid : Prop := Claim7.holds Tryd.pinned (.plain (OpenSpec.ofChange viewGrowsSpec)) viewGrowsCard

/-- THE TIED CARD OF 'omnibuslaw17.ViewMarks'. -/
def viewMarksCard : Claim7 := { stood := { row := viewMarksRow, standIns := [], harness := (true, "b980a3c4b521c54e7c6e7d58878e1eba4ad4443c7d515cba98bfedeaa942a9df"), looks := false }, kinds := [], alts := [], laidByText := true, laidKinds := [.data], laidTests := true, laidLooks := .later }
def ViewMarksCardSaid : Prop := Claim7.holds Tryd.pinned (.plain (OpenSpec.ofChange viewMarksSpec)) viewMarksCard

/-- THE TIED CARD OF 'omnibuslaw17.ViewParts'. -/
def viewPartsCard : Claim7 := { stood := { row := viewPartsRow, standIns := [], harness := (true, "b980a3c4b521c54e7c6e7d58878e1eba4ad4443c7d515cba98bfedeaa942a9df"), looks := false }, kinds := [], alts := [], laidByText := true, laidKinds := [.data], laidTests := true, laidLooks := .later }
def ViewPartsCardSaid : Prop := Claim7.holds Tryd.pinned (.plain (OpenSpec.ofChange viewPartsSpec)) viewPartsCard

/-- THE TIED CARD OF 'omnibuslaw17.ViewOnly'. -/
def viewOnlyCard : Claim7 := { stood := { row := viewOnlyRow, standIns := [], harness := (true, "b980a3c4b521c54e7c6e7d58878e1eba4ad4443c7d515cba98bfedeaa942a9df"), looks := false }, kinds := [], alts := [], laidByText := true, laidKinds := [.data], laidTests := true, laidLooks := .later }
def ViewOnlyCardSaid : Prop := Claim7.holds Tryd.pinned (.plain (OpenSpec.ofChange viewOnlySpec)) viewOnlyCard

/-- THE TIED CARD OF 'omnibuslaw17.ViewTerms'. -/
def viewTermsCard : Claim7 := { stood := { row := viewTermsRow, standIns := [], harness := (true, "b980a3c4b521c54e7c6e7d58878e1eba4ad4443c7d515cba98bfedeaa942a9df"), looks := false }, kinds := [], alts := [], laidByText := true, laidKinds := [.data], laidTests := true, laidLooks := .later }
def ViewTermsCardSaid : Prop := Claim7.holds Tryd.pinned (.plain (OpenSpec.ofChange viewTermsSpec)) viewTermsCard

/-- THE TIED CARD OF 'omnibuslaw16.LogPuts'. -/
def logPutsCard : Claim7 := { stood := { row := logPutsRow, standIns := [], harness := (true, "b980a3c4b521c54e7c6e7d58878e1eba4ad4443c7d515cba98bfedeaa942a9df"), looks := false }, kinds := [], alts := [], laidByText := true, laidKinds := [.data], laidTests := true, laidLooks := .later }
def LogPutsCardSaid : Prop := Claim7.holds Tryd.pinned (.plain (OpenSpec.ofChange logPutsSpec)) logPutsCard

/-- THE TIED CARD OF 'omnibuslaw16.LogAgrees'. -/
def logAgreesCard : Claim7 := { stood := { row := logAgreesRow, standIns := [], harness := (true, "b980a3c4b521c54e7c6e7d58878e1eba4ad4443c7d515cba98bfedeaa942a9df"), looks := false }, kinds := [], alts := [], laidByText := true, laidKinds := [.data], laidTests := true, laidLooks := .later }
def LogAgreesCardSaid : Prop := Claim7.holds Tryd.pinned (.plain (OpenSpec.ofChange logAgreesSpec)) logAgreesCard

/-- THE TIED CARD OF 'omnibuslaw16.LogCovers'. -/
def logCoversCard : Claim7 := { stood := { row := logCoversRow, standIns := [], harness := (true, "b980a3c4b521c54e7c6e7d58878e1eba4ad4443c7d515cba98bfedeaa942a9df"), looks := false }, kinds := [], alts := [], laidByText := true, laidKinds := [.data], laidTests := true, laidLooks := .later }
def LogCoversCardSaid : Prop := Claim7.holds Tryd.pinned (.plain (OpenSpec.ofChange logCoversSpec)) logCoversCard

/-- THE TIED CARD OF 'omnibuslaw16.LogBuilds'. -/
def logBuildsCard : Claim7 := { stood := { row := logBuildsRow, standIns := [], harness := (true, "b980a3c4b521c54e7c6e7d58878e1eba4ad4443c7d515cba98bfedeaa942a9df"), looks := false }, kinds := [], alts := [], laidByText := true, laidKinds := [.data], laidTests := true, laidLooks := .later }
def LogBuildsCardSaid : Prop := Claim7.holds Tryd.pinned (.plain (OpenSpec.ofChange logBuildsSpec)) logBuildsCard

/-- THE TIED CARD OF 'omnibuslaw16.LogGaps'. -/
def logGapsCard : Claim7 := { stood := { row := logGapsRow, standIns := [], harness := (true, "b980a3c4b521c54e7c6e7d58878e1eba4ad4443c7d515cba98bfedeaa942a9df"), looks := false }, kinds := [], alts := [], laidByText := true, laidKinds := [.data], laidTests := true, laidLooks := .later }
def LogGapsCardSaid : Prop := Claim7.holds Tryd.pinned (.plain (OpenSpec.ofChange logGapsSpec)) logGapsCard

/-- THE TIED CARD OF 'omnibuslaw16.LogCommon'. -/
def logCommonCard : Claim7 := { stood := { row := logCommonRow, standIns := [], harness := (true, "b980a3c4b521c54e7c6e7d58878e1eba4ad4443c7d515cba98bfedeaa942a9df"), looks := false }, kinds := [], alts := [], laidByText := true, laidKinds := [.data], laidTests := true, laidLooks := .later }
def LogCommonCardSaid : Prop := Claim7.holds Tryd.pinned (.plain (OpenSpec.ofChange logCommonSpec)) logCommonCard

/-- THE SECOND FORM's CARD OF 'omnibuslaw13.TxqSame'. -/
def txqSameUptoCard : Claim7 := { stood := { row := txqSameUptoRow, standIns := [], harness := (true, "b980a3c4b521c54e7c6e7d58878e1eba4ad4443c7d515cba98bfedeaa942a9df"), looks := false }, kinds := [], alts := [], laidByText := true, laidKinds := [.data], laidTests := true, laidLooks := .later }
def TxqSameUptoCardSaid : Prop := Claim7.holds Tryd.pinned (.plain (OpenSpec.upto txqSameSpec)) txqSameUptoCard

/-- THE SECOND FORM's CARD OF 'omnibuslaw13.TxqAborts'. -/
def txqAbortsUptoCard : Claim7 := { stood := { row := txqAbortsUptoRow, standIns := [], harness := (true, "b980a3c4b521c54e7c6e7d58878e1eba4ad4443c7d515cba98bfedeaa942a9df"), looks := false }, kinds := [], alts := [], laidByText := true, laidKinds := [.data], laidTests := true, laidLooks := .later }
def TxqAbortsUptoCardSaid : Prop := Claim7.holds Tryd.pinned (.plain (OpenSpec.upto txqAbortsSpec)) txqAbortsUptoCard

/-- THE SECOND FORM's CARD OF 'omnibuslaw17.ViewGrows'. -/
def viewGrowsUptoCard : Claim7 := { stood := { row := viewGrowsUptoRow, standIns := [], harness := (true, "b980a3c4b521c54e7c6e7d58878e1eba4ad4443c7d515cba98bfedeaa942a9df"), looks := false }, kinds := [], alts := [], laidByText := true, laidKinds := [.data], laidTests := true, laidLooks := .later }
def ViewGrowsUptoCardSaid : Prop := Claim7.holds Tryd.pinned (.plain (OpenSpec.upto viewGrowsSpec)) viewGrowsUptoCard

/-- THE SECOND FORM's CARD OF 'omnibuslaw17.ViewMarks'. -/
def viewMarksUptoCard : Claim7 := { stood := { row := viewMarksUptoRow, standIns := [], harness := (true, "b980a3c4b521c54e7c6e7d58878e1eba4ad4443c7d515cba98bfedeaa942a9df"), looks := false }, kinds := [], alts := [], laidByText := true, laidKinds := [.data], laidTests := true, laidLooks := .later }
def ViewMarksUptoCardSaid : Prop := Claim7.holds Tryd.pinned (.plain (OpenSpec.upto viewMarksSpec)) viewMarksUptoCard

/-- THE SECOND FORM's CARD OF 'omnibuslaw17.ViewParts'. -/
def viewPartsUptoCard : Claim7 := { stood := { row := viewPartsUptoRow, standIns := [], harness := (true, "b980a3c4b521c54e7c6e7d58878e1eba4ad4443c7d515cba98bfedeaa942a9df"), looks := false }, kinds := [], alts := [], laidByText := true, laidKinds := [.data], laidTests := true, laidLooks := .later }
def ViewPartsUptoCardSaid : Prop := Claim7.holds Tryd.pinned (.plain (OpenSpec.upto viewPartsSpec)) viewPartsUptoCard

/-- THE SECOND FORM's CARD OF 'omnibuslaw17.ViewOnly'. -/
def viewOnlyUptoCard : Claim7 := { stood := { row := viewOnlyUptoRow, standIns := [], harness := (true, "b980a3c4b521c54e7c6e7d58878e1eba4ad4443c7d515cba98bfedeaa942a9df"), looks := false }, kinds := [], alts := [], laidByText := true, laidKinds := [.data], laidTests := true, laidLooks := .later }
def ViewOnlyUptoCardSaid : Prop := Claim7.holds Tryd.pinned (.plain (OpenSpec.upto viewOnlySpec)) viewOnlyUptoCard

/-- THE SECOND FORM's CARD OF 'omnibuslaw17.ViewTerms'. -/
def viewTermsUptoCard : Claim7 := { stood := { row := viewTermsUptoRow, standIns := [], harness := (true, "b980a3c4b521c54e7c6e7d58878e1eba4ad4443c7d515cba98bfedeaa942a9df"), looks := false }, kinds := [], alts := [], laidByText := true, laidKinds := [.data], laidTests := true, laidLooks := .later }
def ViewTermsUptoCardSaid : Prop := Claim7.holds Tryd.pinned (.plain (OpenSpec.upto viewTermsSpec)) viewTermsUptoCard

/-- THE SECOND FORM's CARD OF 'omnibuslaw16.LogPuts'. -/
def logPutsUptoCard : Claim7 := { stood := { row := logPutsUptoRow, standIns := [], harness := (true, "b980a3c4b521c54e7c6e7d58878e1eba4ad4443c7d515cba98bfedeaa942a9df"), looks := false }, kinds := [], alts := [], laidByText := true, laidKinds := [.data], laidTests := true, laidLooks := .later }
def LogPutsUptoCardSaid : Prop := Claim7.holds Tryd.pinned (.plain (OpenSpec.upto logPutsSpec)) logPutsUptoCard

/-- THE SECOND FORM's CARD OF 'omnibuslaw16.LogAgrees'. -/
def logAgreesUptoCard : Claim7 := { stood := { row := logAgreesUptoRow, standIns := [], harness := (true, "b980a3c4b521c54e7c6e7d58878e1eba4ad4443c7d515cba98bfedeaa942a9df"), looks := false }, kinds := [], alts := [], laidByText := true, laidKinds := [.data], laidTests := true, laidLooks := .later }
def LogAgreesUptoCardSaid : Prop := Claim7.holds Tryd.pinned (.plain (OpenSpec.upto logAgreesSpec)) logAgreesUptoCard

/-- THE SECOND FORM's CARD OF 'omnibuslaw16.LogCovers'. -/
def logCoversUptoCard : Claim7 := { stood := { row := logCoversUptoRow, standIns := [], harness := (true, "b980a3c4b521c54e7c6e7d58878e1eba4ad4443c7d515cba98bfedeaa942a9df"), looks := false }, kinds := [], alts := [], laidByText := true, laidKinds := [.data], laidTests := true, laidLooks := .later }
def LogCoversUptoCardSaid : Prop := Claim7.holds Tryd.pinned (.plain (OpenSpec.upto logCoversSpec)) logCoversUptoCard

/-- THE SECOND FORM's CARD OF 'omnibuslaw16.LogBuilds'. -/
def logBuildsUptoCard : Claim7 := { stood := { row := logBuildsUptoRow, standIns := [], harness := (true, "b980a3c4b521c54e7c6e7d58878e1eba4ad4443c7d515cba98bfedeaa942a9df"), looks := false }, kinds := [], alts := [], laidByText := true, laidKinds := [.data], laidTests := true, laidLooks := .later }
def LogBuildsUptoCardSaid : Prop := Claim7.holds Tryd.pinned (.plain (OpenSpec.upto logBuildsSpec)) logBuildsUptoCard

/-- THE SECOND FORM's CARD OF 'omnibuslaw16.LogGaps'. -/
def logGapsUptoCard : Claim7 := { stood := { row := logGapsUptoRow, standIns := [], harness := (true, "b980a3c4b521c54e7c6e7d58878e1eba4ad4443c7d515cba98bfedeaa942a9df"), looks := false }, kinds := [], alts := [], laidByText := true, laidKinds := [.data], laidTests := true, laidLooks := .later }
def LogGapsUptoCardSaid : Prop := Claim7.holds Tryd.pinned (.plain (OpenSpec.upto logGapsSpec)) logGapsUptoCard

/-- THE SECOND FORM's CARD OF 'omnibuslaw16.LogCommon'. -/
def logCommonUptoCard : Claim7 := { stood := { row := logCommonUptoRow, standIns := [], harness := (true, "b980a3c4b521c54e7c6e7d58878e1eba4ad4443c7d515cba98bfedeaa942a9df"), looks := false }, kinds := [], alts := [], laidByText := true, laidKinds := [.data], laidTests := true, laidLooks := .later }
def LogCommonUptoCardSaid : Prop := Claim7.holds Tryd.pinned (.plain (OpenSpec.upto logCommonSpec)) logCommonUptoCard
end Rows
end Go.Proofs.YteocckoglkbonaaDoor
