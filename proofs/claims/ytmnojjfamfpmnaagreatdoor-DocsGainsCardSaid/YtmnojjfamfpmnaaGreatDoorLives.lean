/- The chapter's examples, run alone (Docs seat). -/
import Derived.Test.YtmnojjfamfpmnaaGreatDoorEvxV
import Derived.Test.YtmnojjfamfpmnaaGreatDoorProg
import Derived.KernelRfl
set_option linter.unusedVariables false
set_option linter.unusedSimpArgs false
set_option linter.unusedSectionVars false
set_option linter.unnecessarySimpa false
namespace Go.Proofs.YtmnojjfamfpmnaaGreatDoor
open Go Go.Ev
def lens : List Value := [31,28,31,30,31,30,31,31,30,31,30,31].map (Value.int .i64)
theorem lives_run : (@ev O0 Tryz.prog 2000 10 [] (st1 lens)).map (·.1) = some (.bool true) := by kernel_rfl
#print axioms lives_run
end Go.Proofs.YtmnojjfamfpmnaaGreatDoor
