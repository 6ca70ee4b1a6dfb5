/-
  DocsGains, the row's card, for all runs of the program as the given form lays it down: wherever the law's
  arguments are its given form's (its strings, numbers, bools and data in the caller's hand, the bound sizes) and
  the laid variable days.lengths stands as the program starts it, the law DocsGains returns true. The card is
  tied to this seat's row; the program's form is the pruned copy that the seat names.
-/
import Derived.Test.YtmnojjfamfpmnaaGreatDoorBadG
import Derived.Test.YtmnojjfamfpmnaaGreatDoorGainsTree
import Derived.Test.YtmnojjfamfpmnaaGreatDoorRowGains
set_option linter.unusedVariables false
set_option linter.unusedSimpArgs false
set_option linter.unusedSectionVars false
set_option linter.unnecessarySimpa false
namespace Go.Proofs.YtmnojjfamfpmnaaGreatDoor
open Go
set_option maxRecDepth 100000 in
theorem bad4 : ((Tg.T.bad Lw.pN).all badG) = true := by kernel_rfl

theorem docsGains_holds : Rows.DocsGainsCardSaid :=
  gains_card (T := Tg.T) ⟨chk4, big4, fun _cs _bc _a _b e13 e14 ha hb q hq => badG_not e13 e14 ha hb (List.all_eq_true.1 bad4 q hq)⟩
end Go.Proofs.YtmnojjfamfpmnaaGreatDoor
