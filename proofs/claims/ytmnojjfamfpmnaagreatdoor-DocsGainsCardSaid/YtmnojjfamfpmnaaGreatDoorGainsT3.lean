/-
  The tree of DocsGains: part 3 of its checks.
-/
import Derived.Test.YtmnojjfamfpmnaaGreatDoorGainsT0
set_option linter.unusedVariables false
set_option linter.unusedSimpArgs false
set_option linter.unusedSectionVars false
set_option linter.unnecessarySimpa false
namespace Go.Proofs.YtmnojjfamfpmnaaGreatDoor
open Go
set_option maxRecDepth 100000
namespace Tg
theorem k20 : Ev.chkC Tryz.prog Lw.sumL Lw.bvL Lw.bfL 500 4 Lw.args (Ev.st1 Lw.lens) t0 p8b = true := by kernel_rfl
theorem k52 : Ev.chkC Tryz.prog Lw.sumL Lw.bvL Lw.bfL 500 4 Lw.args (Ev.st1 Lw.lens) t0 p38b = true := by kernel_rfl
theorem k17 : Ev.chkC Tryz.prog Lw.sumL Lw.bvL Lw.bfL 500 4 Lw.args (Ev.st1 Lw.lens) t0 p11b = true := by kernel_rfl
theorem k45 : Ev.chkC Tryz.prog Lw.sumL Lw.bvL Lw.bfL 500 4 Lw.args (Ev.st1 Lw.lens) t17 p44a = true := by kernel_rfl
theorem k69 : Ev.chkC Tryz.prog Lw.sumL Lw.bvL Lw.bfL 500 4 Lw.args (Ev.st1 Lw.lens) (.leaf true) p1b = true := by kernel_rfl
theorem k34 : Ev.chkC Tryz.prog Lw.sumL Lw.bvL Lw.bfL 500 4 Lw.args (Ev.st1 Lw.lens) t0 p24b = true := by kernel_rfl
theorem k66 : Ev.chkC Tryz.prog Lw.sumL Lw.bvL Lw.bfL 500 4 Lw.args (Ev.st1 Lw.lens) t0 p54b = true := by kernel_rfl
theorem k31 : Ev.chkC Tryz.prog Lw.sumL Lw.bvL Lw.bfL 500 4 Lw.args (Ev.st1 Lw.lens) t0 p27b = true := by kernel_rfl
theorem k63 : Ev.chkC Tryz.prog Lw.sumL Lw.bvL Lw.bfL 500 4 Lw.args (Ev.st1 Lw.lens) t0 p57b = true := by kernel_rfl
end Tg
end Go.Proofs.YtmnojjfamfpmnaaGreatDoor
