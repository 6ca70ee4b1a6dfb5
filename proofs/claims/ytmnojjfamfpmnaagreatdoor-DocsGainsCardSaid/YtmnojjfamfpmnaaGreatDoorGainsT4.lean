/-
  The tree of DocsGains: part 4 of its checks.
-/
import Derived.Test.YtmnojjfamfpmnaaGreatDoorGainsT0
set_option linter.unusedVariables false
set_option linter.unusedSimpArgs false
set_option linter.unusedSectionVars false
set_option linter.unnecessarySimpa false
namespace Go.Proofs.YtmnojjfamfpmnaaGreatDoor
open Go
set_option maxRecDepth 100000
namespace Tg
theorem k32 : Ev.chkC Tryz.prog Lw.sumL Lw.bvL Lw.bfL 500 4 Lw.args (Ev.st1 Lw.lens) t0 p26b = true := by kernel_rfl
theorem k60 : Ev.chkC Tryz.prog Lw.sumL Lw.bvL Lw.bfL 500 4 Lw.args (Ev.st1 Lw.lens) t27 p59a = true := by kernel_rfl
theorem k21 : Ev.chkC Tryz.prog Lw.sumL Lw.bvL Lw.bfL 500 4 Lw.args (Ev.st1 Lw.lens) t0 p7b = true := by kernel_rfl
theorem k49 : Ev.chkC Tryz.prog Lw.sumL Lw.bvL Lw.bfL 500 4 Lw.args (Ev.st1 Lw.lens) t0 p41b = true := by kernel_rfl
theorem k14 : Ev.chkC Tryz.prog Lw.sumL Lw.bvL Lw.bfL 500 4 Lw.args (Ev.st1 Lw.lens) t17 p13a = true := by kernel_rfl
theorem k46 : Ev.chkC Tryz.prog Lw.sumL Lw.bvL Lw.bfL 500 4 Lw.args (Ev.st1 Lw.lens) t0 p44b = true := by kernel_rfl
theorem k70 : Ev.chkC Tryz.prog Lw.sumL Lw.bvL Lw.bfL 500 4 Lw.args (Ev.st1 Lw.lens) (.leaf true) p0b = true := by kernel_rfl
theorem k35 : Ev.chkC Tryz.prog Lw.sumL Lw.bvL Lw.bfL 500 4 Lw.args (Ev.st1 Lw.lens) t0 p23b = true := by kernel_rfl
theorem k67 : Ev.chkC Tryz.prog Lw.sumL Lw.bvL Lw.bfL 500 4 Lw.args (Ev.st1 Lw.lens) t0 p53b = true := by kernel_rfl
end Tg
end Go.Proofs.YtmnojjfamfpmnaaGreatDoor
