/-
  NARROWER THAN 'FOR EVERY INPUT', by the rows' own cells (each row's printed sentence says how): TxqSame: laid · TxqAborts: laid · ViewGrows: laid · ViewMarks: laid · ViewParts: laid · ViewOnly: laid · ViewTerms: laid · LogPuts: laid · LogAgrees: laid · LogCovers: laid · LogBuilds: laid · LogGaps: laid · LogCommon: laid.
  DERIVED. THE GIVEN ROWS OF THIS SEAT. 13 by the template 'for every input the law returns true; each argument reads behind the call as it read before'; 0 by the template 'total and deterministic' (their statements: YteocckoglkbonaaDoorTotals.lean).
  GIVEN WITH THE SEED: the statements are not yours to turn. If you find one false, say at which input.
  Laid BY PROGRAM, IN A SANDBOX (cutbox-rows.mjs): the forced cells as the released guide's own fill.sh prints them over the translation 95bf6a48980bef77… (all of the seat's roots in one cut). By AI agents, Wed Nov 11 2026. No macro, syntax, notation, axiom, sorry.
-/
import Derived.Test.YteocckoglkbonaaDoorChecked
import GoSem.Claim
import GoSem.ClaimJoined
import GoSem.ClaimMapViews
import Derived.JoinedTies
import Derived.KernelRfl
namespace Go.Proofs.YteocckoglkbonaaDoor
/- THE CELL 'sum', in the pinned program and in every row, IS THE sha256 OF THE DUMP (.gsa) THAT YteocckoglkbonaaDoorProg.lean LOADS. Nothing in Lean hashes anything: it is a label: what it is worth is what the hold of that sum in a sandbox is worth. -/
noncomputable def Tryd.pinned : Pinned := { name := "yteocckoglkbonaadoor", sum := "95bf6a48980bef775cad29858c003deed2ce9c0d3a97a3a54211ac23bb0c95dc", checked := Tryd.checked }
namespace Rows
def none {H : Type} : Left H := { results := [], args := [] }

/- WHAT THE LISTED PACKAGE-LEVEL VARIABLES READ AS WHEN THE CALL BEGINS. Each datum BY PROGRAM (the guide's laid-datum.mjs) off the statement by which the dump's own 'gosem.cut.vars' lays the variable. In a bare row this is a premise. The card (YteocckoglkbonaaDoorCards.lean) ties it to the program's text. -/
def laid_omnibus_ident_greatest {H : Type} : DataW H := .agg [.lit (.int .i64 2047), .lit (.int .i64 536870911)]

/-- 'omnibuslaw13.TxqSame': WHATEVER THE INPUT: true; the input reads as it did. -/
def txqSameSpec : ChangeSpec := { name := "txqSame", fn := fun _ => fun
  | [d1, d2] => { results := [.lit (.bool true)], args := [d1, d2] }
  | _ => none }
def txqSameRow : OpenClaim := { program := "yteocckoglkbonaadoor", sum := "95bf6a48980bef775cad29858c003deed2ce9c0d3a97a3a54211ac23bb0c95dc", func := "omnibus/omnibuslaw13.TxqSame", spec := "txqSame", inPlace := ["slices.overlaps[omnibus/api.Message]"], unfollowed := true, recurses := true, named := ["omnibus/ident.greatest"], apart := false, laid := [("omnibus/ident.greatest", laid_omnibus_ident_greatest)] }
def TxqSameSaid : Prop := txqSameRow.holds Tryd.pinned (OpenSpec.ofChange txqSameSpec)

/-- ITS FALSE NEIGHBOUR: 'it returns false'. Refute it at one input. -/
def txqSameWrong : ChangeSpec := { name := "txqSame", fn := fun _ => fun
  | [d1, d2] => { results := [.lit (.bool false)], args := [d1, d2] }
  | _ => none }
def TxqSameWrongFalsely : Prop := txqSameRow.holds Tryd.pinned (OpenSpec.ofChange txqSameWrong)

/-- 'omnibuslaw13.TxqAborts': WHATEVER THE INPUT: true; the input reads as it did. -/
def txqAbortsSpec : ChangeSpec := { name := "txqAborts", fn := fun _ => fun
  | [d1, d2, d3] => { results := [.lit (.bool true)], args := [d1, d2, d3] }
  | _ => none }
def txqAbortsRow : OpenClaim := { program := "yteocckoglkbonaadoor", sum := "95bf6a48980bef775cad29858c003deed2ce9c0d3a97a3a54211ac23bb0c95dc", func := "omnibus/omnibuslaw13.TxqAborts", spec := "txqAborts", inPlace := ["slices.overlaps[omnibus/api.Message]"], unfollowed := true, recurses := true, named := ["omnibus/ident.greatest"], apart := false, laid := [("omnibus/ident.greatest", laid_omnibus_ident_greatest)] }
def TxqAbortsSaid : Prop := txqAbortsRow.holds Tryd.pinned (OpenSpec.ofChange txqAbortsSpec)

/-- ITS FALSE NEIGHBOUR: 'it returns false'. Refute it at one input. -/
def txqAbortsWrong : ChangeSpec := { name := "txqAborts", fn := fun _ => fun
  | [d1, d2, d3] => { results := [.lit (.bool false)], args := [d1, d2, d3] }
  | _ => none }
def TxqAbortsWrongFalsely : Prop := txqAbortsRow.holds Tryd.pinned (OpenSpec.ofChange txqAbortsWrong)

/-- 'omnibuslaw17.ViewGrows': WHATEVER THE INPUT: true; the input reads as it did. -/
def viewGrowsSpec : ChangeSpec := { name := "viewGrows", fn := fun _ => fun
  | [d1, d2] => { results := [.lit (.bool true)], args := [d1, d2] }
  | _ => none }
def viewGrowsRow : OpenClaim := { program := "yteocckoglkbonaadoor", sum := "95bf6a48980bef775cad29858c003deed2ce9c0d3a97a3a54211ac23bb0c95dc", func := "omnibus/omnibuslaw17.ViewGrows", spec := "viewGrows", inPlace := ["slices.overlaps[omnibus/api.Message]"], unfollowed := true, recurses := true, named := ["omnibus/ident.greatest"], apart := false, laid := [("omnibus/ident.greatest", laid_omnibus_ident_greatest)] }
def ViewGrowsSaid : Prop := viewGrowsRow.holds Tryd.pinned (OpenSpec.ofChange viewGrowsSpec)

/-- ITS FALSE NEIGHBOUR: 'it returns false'. Refute it at one input. -/
def viewGrowsWrong : ChangeSpec := { name := "viewGrows", fn := fun _ => fun
  | [d1, d2] => { results := [.lit (.bool false)], args := [d1, d2] }
  | _ => none }
def ViewGrowsWrongFalsely : Prop := viewGrowsRow.holds Tryd.pinned (OpenSpec.ofChange viewGrowsWrong)

/-- 'omnibuslaw17.ViewMarks': WHATEVER THE INPUT: true; the input reads as it did. -/
def viewMarksSpec : ChangeSpec := { name := "viewMarks", fn := fun _ => fun
  | [d1, d2] => { results := [.lit (.bool true)], args := [d1, d2] }
  | _ => none }
def viewMarksRow : OpenClaim := { program := "yteocckoglkbonaadoor", sum := "95bf6a48980bef775cad29858c003deed2ce9c0d3a97a3a54211ac23bb0c95dc", func := "omnibus/omnibuslaw17.ViewMarks", spec := "viewMarks", inPlace := ["slices.overlaps[omnibus/api.Message]"], unfollowed := true, recurses := true, named := ["omnibus/ident.greatest"], apart := false, laid := [("omnibus/ident.greatest", laid_omnibus_ident_greatest)] }
def ViewMarksSaid : Prop := viewMarksRow.holds Tryd.pinned (OpenSpec.ofChange viewMarksSpec)

/-- ITS FALSE NEIGHBOUR: 'it returns false'. Refute it at one input. -/
def viewMarksWrong : ChangeSpec := { name := "viewMarks", fn := fun _ => fun
  | [d1, d2] => { results := [.lit (.bool false)], args := [d1, d2] }
  | _ => none }
def ViewMarksWrongFalsely : Prop := viewMarksRow.holds Tryd.pinned (OpenSpec.ofChange viewMarksWrong)

/-- 'omnibuslaw17.ViewParts': WHATEVER THE INPUT: true; the input reads as it did. -/
def viewPartsSpec : ChangeSpec := { name := "viewParts", fn := fun _ => fun
  | [d1, d2, d3, d4, d5] => { results := [.lit (.bool true)], args := [d1, d2, d3, d4, d5] }
  | _ => none }
def viewPartsRow : OpenClaim := { program := "yteocckoglkbonaadoor", sum := "95bf6a48980bef775cad29858c003deed2ce9c0d3a97a3a54211ac23bb0c95dc", func := "omnibus/omnibuslaw17.ViewParts", spec := "viewParts", inPlace := ["slices.overlaps[omnibus/api.Message]"], unfollowed := true, recurses := true, named := ["omnibus/ident.greatest"], apart := false, laid := [("omnibus/ident.greatest", laid_omnibus_ident_greatest)] }
def ViewPartsSaid : Prop := viewPartsRow.holds Tryd.pinned (OpenSpec.ofChange viewPartsSpec)

/-- ITS FALSE NEIGHBOUR: 'it returns false'. Refute it at one input. -/
def viewPartsWrong : ChangeSpec := { name := "viewParts", fn := fun _ => fun
  | [d1, d2, d3, d4, d5] => { results := [.lit (.bool false)], args := [d1, d2, d3, d4, d5] }
  | _ => none }
def ViewPartsWrongFalsely : Prop := viewPartsRow.holds Tryd.pinned (OpenSpec.ofChange viewPartsWrong)

/-- 'omnibuslaw17.ViewOnly': WHATEVER THE INPUT: true; the input reads as it did. -/
def viewOnlySpec : ChangeSpec := { name := "viewOnly", fn := fun _ => fun
  | [d1, d2] => { results := [.lit (.bool true)], args := [d1, d2] }
  | _ => none }
def viewOnlyRow : OpenClaim := { program := "yteocckoglkbonaadoor", sum := "95bf6a48980bef775cad29858c003deed2ce9c0d3a97a3a54211ac23bb0c95dc", func := "omnibus/omnibuslaw17.ViewOnly", spec := "viewOnly", inPlace := ["slices.overlaps[omnibus/api.Message]"], unfollowed := true, recurses := true, named := ["omnibus/ident.greatest"], apart := false, laid := [("omnibus/ident.greatest", laid_omnibus_ident_greatest)] }
def ViewOnlySaid : Prop := viewOnlyRow.holds Tryd.pinned (OpenSpec.ofChange viewOnlySpec)

/-- ITS FALSE NEIGHBOUR: 'it returns false'. Refute it at one input. -/
def viewOnlyWrong : ChangeSpec := { name := "viewOnly", fn := fun _ => fun
  | [d1, d2] => { results := [.lit (.bool false)], args := [d1, d2] }
  | _ => none }
def ViewOnlyWrongFalsely : Prop := viewOnlyRow.holds Tryd.pinned (OpenSpec.ofChange viewOnlyWrong)

/-- 'omnibuslaw17.ViewTerms': WHATEVER THE INPUT: true; the input reads as it did. -/
def viewTermsSpec : ChangeSpec := { name := "viewTerms", fn := fun _ => fun
  | [d1, d2, d3, d4] => { results := [.lit (.bool true)], args := [d1, d2, d3, d4] }
  | _ => none }
def viewTermsRow : OpenClaim := { program := "yteocckoglkbonaadoor", sum := "95bf6a48980bef775cad29858c003deed2ce9c0d3a97a3a54211ac23bb0c95dc", func := "omnibus/omnibuslaw17.ViewTerms", spec := "viewTerms", inPlace := ["slices.overlaps[omnibus/api.Message]"], unfollowed := true, recurses := true, named := ["omnibus/ident.greatest"], apart := false, laid := [("omnibus/ident.greatest", laid_omnibus_ident_greatest)] }
def ViewTermsSaid : Prop := viewTermsRow.holds Tryd.pinned (OpenSpec.ofChange viewTermsSpec)

/-- ITS FALSE NEIGHBOUR: 'it returns false'. Refute it at one input. -/
def viewTermsWrong : ChangeSpec := { name := "viewTerms", fn := fun _ => fun
  | [d1, d2, d3, d4] => { results := [.lit (.bool false)], args := [d1, d2, d3, d4] }
  | _ => none }
def ViewTermsWrongFalsely : Prop := viewTermsRow.holds Tryd.pinned (OpenSpec.ofChange viewTermsWrong)

/-- 'omnibuslaw16.LogPuts': WHATEVER THE INPUT: true; the input reads as it did. -/
def logPutsSpec : ChangeSpec := { name := "logPuts", fn := fun _ => fun
  | [d1, d2, d3, d4] => { results := [.lit (.bool true)], args := [d1, d2, d3, d4] }
  | _ => none }
def logPutsRow : OpenClaim := { program := "yteocckoglkbonaadoor", sum := "95bf6a48980bef775cad29858c003deed2ce9c0d3a97a3a54211ac23bb0c95dc", func := "omnibus/omnibuslaw16.LogPuts", spec := "logPuts", unfollowed := true, recurses := true, named := ["omnibus/ident.greatest"], apart := false, laid := [("omnibus/ident.greatest", laid_omnibus_ident_greatest)] }
def LogPutsSaid : Prop := logPutsRow.holds Tryd.pinned (OpenSpec.ofChange logPutsSpec)

/-- ITS FALSE NEIGHBOUR: 'it returns false'. Refute it at one input. -/
def logPutsWrong : ChangeSpec := { name := "logPuts", fn := fun _ => fun
  | [d1, d2, d3, d4] => { results := [.lit (.bool false)], args := [d1, d2, d3, d4] }
  | _ => none }
def LogPutsWrongFalsely : Prop := logPutsRow.holds Tryd.pinned (OpenSpec.ofChange logPutsWrong)

/-- 'omnibuslaw16.LogAgrees': WHATEVER THE INPUT: true; the input reads as it did. -/
def logAgreesSpec : ChangeSpec := { name := "logAgrees", fn := fun _ => fun
  | [d1, d2, d3, d4, d5] => { results := [.lit (.bool true)], args := [d1, d2, d3, d4, d5] }
  | _ => none }
def logAgreesRow : OpenClaim := { program := "yteocckoglkbonaadoor", sum := "95bf6a48980bef775cad29858c003deed2ce9c0d3a97a3a54211ac23bb0c95dc", func := "omnibus/omnibuslaw16.LogAgrees", spec := "logAgrees", unfollowed := true, recurses := true, named := ["omnibus/ident.greatest"], apart := false, laid := [("omnibus/ident.greatest", laid_omnibus_ident_greatest)] }
def LogAgreesSaid : Prop := logAgreesRow.holds Tryd.pinned (OpenSpec.ofChange logAgreesSpec)

/-- ITS FALSE NEIGHBOUR: 'it returns false'. Refute it at one input. -/
def logAgreesWrong : ChangeSpec := { name := "logAgrees", fn := fun _ => fun
  | [d1, d2, d3, d4, d5] => { results := [.lit (.bool false)], args := [d1, d2, d3, d4, d5] }
  | _ => none }
def LogAgreesWrongFalsely : Prop := logAgreesRow.holds Tryd.pinned (OpenSpec.ofChange logAgreesWrong)

/-- 'omnibuslaw16.LogCovers': WHATEVER THE INPUT: true; the input reads as it did. -/
def logCoversSpec : ChangeSpec := { name := "logCovers", fn := fun _ => fun
  | [d1, d2, d3] => { results := [.lit (.bool true)], args := [d1, d2, d3] }
  | _ => none }
def logCoversRow : OpenClaim := { program := "yteocckoglkbonaadoor", sum := "95bf6a48980bef775cad29858c003deed2ce9c0d3a97a3a54211ac23bb0c95dc", func := "omnibus/omnibuslaw16.LogCovers", spec := "logCovers", unfollowed := true, recurses := true, named := ["omnibus/ident.greatest"], apart := false, laid := [("omnibus/ident.greatest", laid_omnibus_ident_greatest)] }
def LogCoversSaid : Prop := logCoversRow.holds Tryd.pinned (OpenSpec.ofChange logCoversSpec)

/-- ITS FALSE NEIGHBOUR: 'it returns false'. Refute it at one input. -/
def logCoversWrong : ChangeSpec := { name := "logCovers", fn := fun _ => fun
  | [d1, d2, d3] => { results := [.lit (.bool false)], args := [d1, d2, d3] }
  | _ => none }
def LogCoversWrongFalsely : Prop := logCoversRow.holds Tryd.pinned (OpenSpec.ofChange logCoversWrong)

/-- 'omnibuslaw16.LogBuilds': WHATEVER THE INPUT: true; the input reads as it did. -/
def logBuildsSpec : ChangeSpec := { name := "logBuilds", fn := fun _ => fun
  | [d1, d2, d3] => { results := [.lit (.bool true)], args := [d1, d2, d3] }
  | _ => none }
def logBuildsRow : OpenClaim := { program := "yteocckoglkbonaadoor", sum := "95bf6a48980bef775cad29858c003deed2ce9c0d3a97a3a54211ac23bb0c95dc", func := "omnibus/omnibuslaw16.LogBuilds", spec := "logBuilds", unfollowed := true, recurses := true, named := ["omnibus/ident.greatest"], apart := false, laid := [("omnibus/ident.greatest", laid_omnibus_ident_greatest)] }
def LogBuildsSaid : Prop := logBuildsRow.holds Tryd.pinned (OpenSpec.ofChange logBuildsSpec)

/-- ITS FALSE NEIGHBOUR: 'it returns false'. Refute it at one input. -/
def logBuildsWrong : ChangeSpec := { name := "logBuilds", fn := fun _ => fun
  | [d1, d2, d3] => { results := [.lit (.bool false)], args := [d1, d2, d3] }
  | _ => none }
def LogBuildsWrongFalsely : Prop := logBuildsRow.holds Tryd.pinned (OpenSpec.ofChange logBuildsWrong)

/-- 'omnibuslaw16.LogGaps': WHATEVER THE INPUT: true; the input reads as it did. -/
def logGapsSpec : ChangeSpec := { name := "logGaps", fn := fun _ => fun
  | [d1, d2, d3, d4] => { results := [.lit (.bool true)], args := [d1, d2, d3, d4] }
  | _ => none }
def logGapsRow : OpenClaim := { program := "yteocckoglkbonaadoor", sum := "95bf6a48980bef775cad29858c003deed2ce9c0d3a97a3a54211ac23bb0c95dc", func := "omnibus/omnibuslaw16.LogGaps", spec := "logGaps", unfollowed := true, recurses := true, named := ["omnibus/ident.greatest"], apart := false, laid := [("omnibus/ident.greatest", laid_omnibus_ident_greatest)] }
def LogGapsSaid : Prop := logGapsRow.holds Tryd.pinned (OpenSpec.ofChange logGapsSpec)

/-- ITS FALSE NEIGHBOUR: 'it returns false'. Refute it at one input. -/
def logGapsWrong : ChangeSpec := { name := "logGaps", fn := fun _ => fun
  | [d1, d2, d3, d4] => { results := [.lit (.bool false)], args := [d1, d2, d3, d4] }
  | _ => none }
def LogGapsWrongFalsely : Prop := logGapsRow.holds Tryd.pinned (OpenSpec.ofChange logGapsWrong)

/-- 'omnibuslaw16.LogCommon': WHATEVER THE INPUT: true; the input reads as it did. -/
def logCommonSpec : ChangeSpec := { name := "logCommon", fn := fun _ => fun
  | [d1, d2, d3] => { results := [.lit (.bool true)], args := [d1, d2, d3] }
  | _ => none }
def logCommonRow : OpenClaim := { program := "yteocckoglkbonaadoor", sum := "95bf6a48980bef775cad29858c003deed2ce9c0d3a97a3a54211ac23bb0c95dc", func := "omnibus/omnibuslaw16.LogCommon", spec := "logCommon", unfollowed := true, recurses := true, named := ["omnibus/ident.greatest"], apart := false, laid := [("omnibus/ident.greatest", laid_omnibus_ident_greatest)] }
def LogCommonSaid : Prop := logCommonRow.holds Tryd.pinned (OpenSpec.ofChange logCommonSpec)

/-- ITS FALSE NEIGHBOUR: 'it returns false'. Refute it at one input. -/
def logCommonWrong : ChangeSpec := { name := "logCommon", fn := fun _ => fun
  | [d1, d2, d3] => { results := [.lit (.bool false)], args := [d1, d2, d3] }
  | _ => none }
def LogCommonWrongFalsely : Prop := logCommonRow.holds Tryd.pinned (OpenSpec.ofChange logCommonWrong)

/- THE SECOND FORM. 'bulk': how many values and letters a reading holds, each counted each time it is reached (what is shared counts as often as it is met; a slice's spare places count too). A statement '..UptoSaid' is the law's where the arguments, and the package variables that the reading takes, are together of bulk at most 1048576: NARROWER than '..Said'. Prove '..Said' where nothing that the law and all that it calls make is longer than what came in: it says more and counts as full. Else prove '..UptoSaid'. A law counts once. -/
mutual
def uptoBulk {H : Type} : DataW H → Nat
  | .lit (.string bytes) => bytes.length + 1
  | .lit _ => 1
  | .nil => 1
  | .ptr d => uptoBulk d + 1
  | .slice elems spare => uptoBulkAll elems + uptoBulkAll spare + 1
  | .agg parts => uptoBulkAll parts + 1
  | .iface _ d => uptoBulk d + 1
  | .map entries => uptoBulkEntries entries + 1
  | .held _ => 1
def uptoBulkAll {H : Type} : List (DataW H) → Nat
  | [] => 0
  | d :: r => uptoBulk d + uptoBulkAll r
def uptoBulkEntries {H : Type} : List (Lit × DataW H) → Nat
  | [] => 0
  | x :: r => uptoBulkEntry x + uptoBulkEntries r
def uptoBulkEntry {H : Type} : Lit × DataW H → Nat
  | (.string bytes, d) => bytes.length + uptoBulk d + 1
  | (_, d) => uptoBulk d + 1
 end
def uptoSmall : (H : Type) → List (DataW H) → Bool := fun _ ds => decide (uptoBulkAll ds ≤ 1048576)
def OpenSpec.upto (s : _root_.Go.ChangeSpec) : _root_.Go.OpenSpec := { _root_.Go.OpenSpec.ofChange s with cond := some uptoSmall }

/-- 'omnibuslaw13.TxqSame', WHERE WHAT IT READS IS OF BULK AT MOST 1048576: true; the input reads as it did. -/
def txqSameUptoRow : OpenClaim := { program := "yteocckoglkbonaadoor", sum := "95bf6a48980bef775cad29858c003deed2ce9c0d3a97a3a54211ac23bb0c95dc", func := "omnibus/omnibuslaw13.TxqSame", spec := "txqSame", inPlace := ["slices.overlaps[omnibus/api.Message]"], unfollowed := true, recurses := true, named := ["omnibus/ident.greatest"], apart := false, laid := [("omnibus/ident.greatest", laid_omnibus_ident_greatest)], narrowed := true }
def TxqSameUptoSaid : Prop := txqSameUptoRow.holds Tryd.pinned (OpenSpec.upto txqSameSpec)

/-- 'omnibuslaw13.TxqAborts', WHERE WHAT IT READS IS OF BULK AT MOST 1048576: true; the input reads as it did. -/
def txqAbortsUptoRow : OpenClaim := { program := "yteocckoglkbonaadoor", sum := "95bf6a48980bef775cad29858c003deed2ce9c0d3a97a3a54211ac23bb0c95dc", func := "omnibus/omnibuslaw13.TxqAborts", spec := "txqAborts", inPlace := ["slices.overlaps[omnibus/api.Message]"], unfollowed := true, recurses := true, named := ["omnibus/ident.greatest"], apart := false, laid := [("omnibus/ident.greatest", laid_omnibus_ident_greatest)], narrowed := true }
def TxqAbortsUptoSaid : Prop := txqAbortsUptoRow.holds Tryd.pinned (OpenSpec.upto txqAbortsSpec)

/-- 'omnibuslaw17.ViewGrows', WHERE WHAT IT READS IS OF BULK AT MOST 1048576: true; the input reads as it did. -/
def viewGrowsUptoRow : OpenClaim := { program := "yteocckoglkbonaadoor", sum := "95bf6a48980bef775cad29858c003deed2ce9c0d3a97a3a54211ac23bb0c95dc", func := "omnibus/omnibuslaw17.ViewGrows", spec := "viewGrows", inPlace := ["slices.overlaps[omnibus/api.Message]"], unfollowed := true, recurses := true, named := ["omnibus/ident.greatest"], apart := false, laid := [("omnibus/ident.greatest", laid_omnibus_ident_greatest)], narrowed := true }
def ViewGrowsUptoSaid : Prop := viewGrowsUptoRow.holds Tryd.pinned (OpenSpec.upto viewGrowsSpec)

/-- 'omnibuslaw17.ViewMarks', WHERE WHAT IT READS IS OF BULK AT MOST 1048576: true; the input reads as it did. -/
def viewMarksUptoRow : OpenClaim := { program := "yteocckoglkbonaadoor", sum := "95bf6a48980bef775cad29858c003deed2ce9c0d3a97a3a54211ac23bb0c95dc", func := "omnibus/omnibuslaw17.ViewMarks", spec := "viewMarks", inPlace := ["slices.overlaps[omnibus/api.Message]"], unfollowed := true, recurses := true, named := ["omnibus/ident.greatest"], apart := false, laid := [("omnibus/ident.greatest", laid_omnibus_ident_greatest)], narrowed := true }
def ViewMarksUptoSaid : Prop := viewMarksUptoRow.holds Tryd.pinned (OpenSpec.upto viewMarksSpec)

/-- 'omnibuslaw17.ViewParts', WHERE WHAT IT READS IS OF BULK AT MOST 1048576: true; the input reads as it did. -/
def viewPartsUptoRow : OpenClaim := { program := "yteocckoglkbonaadoor", sum := "95bf6a48980bef775cad29858c003deed2ce9c0d3a97a3a54211ac23bb0c95dc", func := "omnibus/omnibuslaw17.ViewParts", spec := "viewParts", inPlace := ["slices.overlaps[omnibus/api.Message]"], unfollowed := true, recurses := true, named := ["omnibus/ident.greatest"], apart := false, laid := [("omnibus/ident.greatest", laid_omnibus_ident_greatest)], narrowed := true }
def ViewPartsUptoSaid : Prop := viewPartsUptoRow.holds Tryd.pinned (OpenSpec.upto viewPartsSpec)

/-- 'omnibuslaw17.ViewOnly', WHERE WHAT IT READS IS OF BULK AT MOST 1048576: true; the input reads as it did. -/
def viewOnlyUptoRow : OpenClaim := { program := "yteocckoglkbonaadoor", sum := "95bf6a48980bef775cad29858c003deed2ce9c0d3a97a3a54211ac23bb0c95dc", func := "omnibus/omnibuslaw17.ViewOnly", spec := "viewOnly", inPlace := ["slices.overlaps[omnibus/api.Message]"], unfollowed := true, recurses := true, named := ["omnibus/ident.greatest"], apart := false, laid := [("omnibus/ident.greatest", laid_omnibus_ident_greatest)], narrowed := true }
def ViewOnlyUptoSaid : Prop := viewOnlyUptoRow.holds Tryd.pinned (OpenSpec.upto viewOnlySpec)

/-- 'omnibuslaw17.ViewTerms', WHERE WHAT IT READS IS OF BULK AT MOST 1048576: true; the input reads as it did. -/
def viewTermsUptoRow : OpenClaim := { program := "yteocckoglkbonaadoor", sum := "95bf6a48980bef775cad29858c003deed2ce9c0d3a97a3a54211ac23bb0c95dc", func := "omnibus/omnibuslaw17.ViewTerms", spec := "viewTerms", inPlace := ["slices.overlaps[omnibus/api.Message]"], unfollowed := true, recurses := true, named := ["omnibus/ident.greatest"], apart := false, laid := [("omnibus/ident.greatest", laid_omnibus_ident_greatest)], narrowed := true }
def ViewTermsUptoSaid : Prop := viewTermsUptoRow.holds Tryd.pinned (OpenSpec.upto viewTermsSpec)

/-- 'omnibuslaw16.LogPuts', WHERE WHAT IT READS IS OF BULK AT MOST 1048576: true; the input reads as it did. -/
def logPutsUptoRow : OpenClaim := { program := "yteocckoglkbonaadoor", sum := "95bf6a48980bef775cad29858c003deed2ce9c0d3a97a3a54211ac23bb0c95dc", func := "omnibus/omnibuslaw16.LogPuts", spec := "logPuts", unfollowed := true, recurses := true, named := ["omnibus/ident.greatest"], apart := false, laid := [("omnibus/ident.greatest", laid_omnibus_ident_greatest)], narrowed := true }
def LogPutsUptoSaid : Prop := logPutsUptoRow.holds Tryd.pinned (OpenSpec.upto logPutsSpec)

/-- 'omnibuslaw16.LogAgrees', WHERE WHAT IT READS IS OF BULK AT MOST 1048576: true; the input reads as it did. -/
def logAgreesUptoRow : OpenClaim := { program := "yteocckoglkbonaadoor", sum := "95bf6a48980bef775cad29858c003deed2ce9c0d3a97a3a54211ac23bb0c95dc", func := "omnibus/omnibuslaw16.LogAgrees", spec := "logAgrees", unfollowed := true, recurses := true, named := ["omnibus/ident.greatest"], apart := false, laid := [("omnibus/ident.greatest", laid_omnibus_ident_greatest)], narrowed := true }
def LogAgreesUptoSaid : Prop := logAgreesUptoRow.holds Tryd.pinned (OpenSpec.upto logAgreesSpec)

/-- 'omnibuslaw16.LogCovers', WHERE WHAT IT READS IS OF BULK AT MOST 1048576: true; the input reads as it did. -/
def logCoversUptoRow : OpenClaim := { program := "yteocckoglkbonaadoor", sum := "95bf6a48980bef775cad29858c003deed2ce9c0d3a97a3a54211ac23bb0c95dc", func := "omnibus/omnibuslaw16.LogCovers", spec := "logCovers", unfollowed := true, recurses := true, named := ["omnibus/ident.greatest"], apart := false, laid := [("omnibus/ident.greatest", laid_omnibus_ident_greatest)], narrowed := true }
def LogCoversUptoSaid : Prop := logCoversUptoRow.holds Tryd.pinned (OpenSpec.upto logCoversSpec)

/-- 'omnibuslaw16.LogBuilds', WHERE WHAT IT READS IS OF BULK AT MOST 1048576: true; the input reads as it did. -/
def logBuildsUptoRow : OpenClaim := { program := "yteocckoglkbonaadoor", sum := "95bf6a48980bef775cad29858c003deed2ce9c0d3a97a3a54211ac23bb0c95dc", func := "omnibus/omnibuslaw16.LogBuilds", spec := "logBuilds", unfollowed := true, recurses := true, named := ["omnibus/ident.greatest"], apart := false, laid := [("omnibus/ident.greatest", laid_omnibus_ident_greatest)], narrowed := true }
def LogBuildsUptoSaid : Prop := logBuildsUptoRow.holds Tryd.pinned (OpenSpec.upto logBuildsSpec)

/-- 'omnibuslaw16.LogGaps', WHERE WHAT IT READS IS OF BULK AT MOST 1048576: true; the input reads as it did. -/
def logGapsUptoRow : OpenClaim := { program := "yteocckoglkbonaadoor", sum := "95bf6a48980bef775cad29858c003deed2ce9c0d3a97a3a54211ac23bb0c95dc", func := "omnibus/omnibuslaw16.LogGaps", spec := "logGaps", unfollowed := true, recurses := true, named := ["omnibus/ident.greatest"], apart := false, laid := [("omnibus/ident.greatest", laid_omnibus_ident_greatest)], narrowed := true }
def LogGapsUptoSaid : Prop := logGapsUptoRow.holds Tryd.pinned (OpenSpec.upto logGapsSpec)

/-- 'omnibuslaw16.LogCommon', WHERE WHAT IT READS IS OF BULK AT MOST 1048576: true; the input reads as it did. -/
def logCommonUptoRow : OpenClaim := { program := "yteocckoglkbonaadoor", sum := "95bf6a48980bef775cad29858c003deed2ce9c0d3a97a3a54211ac23bb0c95dc", func := "omnibus/omnibuslaw16.LogCommon", spec := "logCommon", unfollowed := true, recurses := true, named := ["omnibus/ident.greatest"], apart := false, laid := [("omnibus/ident.greatest", laid_omnibus_ident_greatest)], narrowed := true }
def LogCommonUptoSaid : Prop := logCommonUptoRow.holds Tryd.pinned (OpenSpec.upto logCommonSpec)

end Rows
end Go.Proofs.YteocckoglkbonaaDoor
