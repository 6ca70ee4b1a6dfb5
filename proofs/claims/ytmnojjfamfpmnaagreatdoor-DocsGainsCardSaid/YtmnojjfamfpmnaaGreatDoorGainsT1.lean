/-
  The tree of DocsGains: part 1 of its checks.
-/
import Derived.Test.YtmnojjfamfpmnaaGreatDoorGainsT0
set_option linter.unusedVariables false
set_option linter.unusedSimpArgs false
set_option linter.unusedSectionVars false
set_option linter.unnecessarySimpa false
namespace Go.Proofs.YtmnojjfamfpmnaaGreatDoor
open Go
set_option maxRecDepth 100000
namespace Tg
theorem k4 : Ev.chkC Tryz.prog Lw.sumL Lw.bvL Lw.bfL 500 4 Lw.args (Ev.st1 Lw.lens) (.leaf true) p3a = true := by kernel_rfl
theorem k36 : Ev.chkC Tryz.prog Lw.sumL Lw.bvL Lw.bfL 500 4 Lw.args (Ev.st1 Lw.lens) t0 p22b = true := by kernel_rfl
theorem k64 : Ev.chkC Tryz.prog Lw.sumL Lw.bvL Lw.bfL 500 4 Lw.args (Ev.st1 Lw.lens) t0 p56b = true := by kernel_rfl
theorem k29 : Ev.chkC Tryz.prog Lw.sumL Lw.bvL Lw.bfL 500 4 Lw.args (Ev.st1 Lw.lens) t27 p28a = true := by kernel_rfl
theorem k61 : Ev.chkC Tryz.prog Lw.sumL Lw.bvL Lw.bfL 500 4 Lw.args (Ev.st1 Lw.lens) t0 p59b = true := by kernel_rfl
theorem k18 : Ev.chkC Tryz.prog Lw.sumL Lw.bvL Lw.bfL 500 4 Lw.args (Ev.st1 Lw.lens) t0 p10b = true := by kernel_rfl
theorem k50 : Ev.chkC Tryz.prog Lw.sumL Lw.bvL Lw.bfL 500 4 Lw.args (Ev.st1 Lw.lens) t0 p40b = true := by kernel_rfl
theorem k15 : Ev.chkC Tryz.prog Lw.sumL Lw.bvL Lw.bfL 500 4 Lw.args (Ev.st1 Lw.lens) t0 p13b = true := by kernel_rfl
theorem k47 : Ev.chkC Tryz.prog Lw.sumL Lw.bvL Lw.bfL 500 4 Lw.args (Ev.st1 Lw.lens) t0 p43b = true := by kernel_rfl
end Tg
end Go.Proofs.YtmnojjfamfpmnaaGreatDoor
