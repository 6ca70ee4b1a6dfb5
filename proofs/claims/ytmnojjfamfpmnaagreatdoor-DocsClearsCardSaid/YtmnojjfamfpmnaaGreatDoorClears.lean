/-
  DocsClears, the row's card, for all runs of the program as the given form lays it down: wherever the law's
  arguments are its given form's (its strings, numbers, bools and data in the caller's hand, the bound sizes) and
  the laid variable days.lengths stands as the program starts it, the law DocsClears returns true. The card is
  tied to this seat's row; the program's form is the pruned copy that the seat names.
-/
import Derived.Test.YtmnojjfamfpmnaaGreatDoorBad
import Derived.Test.YtmnojjfamfpmnaaGreatDoorClearsTree
import Derived.Test.YtmnojjfamfpmnaaGreatDoorRowClears
set_option linter.unusedVariables false
set_option linter.unusedSimpArgs false
set_option linter.unusedSectionVars false
set_option linter.unnecessarySimpa false
namespace Go.Proofs.YtmnojjfamfpmnaaGreatDoor
open Go
set_option maxRecDepth 100000 in
theorem bad5 : ((Tc.T.bad Lw.pN).all badB) = true := by kernel_rfl

theorem docsClears_holds : Rows.DocsClearsCardSaid :=
  clears_card (T := Tc.T) ⟨chk5, big5, fun _cs _bc _a _b e13 e14 ha hb q hq => bad_not e13 e14 ha hb (List.all_eq_true.1 bad5 q hq)⟩
end Go.Proofs.YtmnojjfamfpmnaaGreatDoor
