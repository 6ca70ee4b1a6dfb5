/-
  The tree of DocsGains: part 2 of its checks.
-/
import Derived.Test.YtmnojjfamfpmnaaGreatDoorGainsT0
set_option linter.unusedVariables false
set_option linter.unusedSimpArgs false
set_option linter.unusedSectionVars false
set_option linter.unnecessarySimpa false
namespace Go.Proofs.YtmnojjfamfpmnaaGreatDoor
open Go
set_option maxRecDepth 100000
namespace Tg
theorem k16 : Ev.chkC Tryz.prog Lw.sumL Lw.bvL Lw.bfL 500 4 Lw.args (Ev.st1 Lw.lens) t0 p12b = true := by kernel_rfl
theorem k48 : Ev.chkC Tryz.prog Lw.sumL Lw.bvL Lw.bfL 500 4 Lw.args (Ev.st1 Lw.lens) t0 p42b = true := by kernel_rfl
theorem k68 : Ev.chkC Tryz.prog Lw.sumL Lw.bvL Lw.bfL 500 4 Lw.args (Ev.st1 Lw.lens) (.leaf true) p2b = true := by kernel_rfl
theorem k33 : Ev.chkC Tryz.prog Lw.sumL Lw.bvL Lw.bfL 500 4 Lw.args (Ev.st1 Lw.lens) t0 p25b = true := by kernel_rfl
theorem k65 : Ev.chkC Tryz.prog Lw.sumL Lw.bvL Lw.bfL 500 4 Lw.args (Ev.st1 Lw.lens) t0 p55b = true := by kernel_rfl
theorem k30 : Ev.chkC Tryz.prog Lw.sumL Lw.bvL Lw.bfL 500 4 Lw.args (Ev.st1 Lw.lens) t0 p28b = true := by kernel_rfl
theorem k62 : Ev.chkC Tryz.prog Lw.sumL Lw.bvL Lw.bfL 500 4 Lw.args (Ev.st1 Lw.lens) t0 p58b = true := by kernel_rfl
theorem k19 : Ev.chkC Tryz.prog Lw.sumL Lw.bvL Lw.bfL 500 4 Lw.args (Ev.st1 Lw.lens) t0 p9b = true := by kernel_rfl
theorem k51 : Ev.chkC Tryz.prog Lw.sumL Lw.bvL Lw.bfL 500 4 Lw.args (Ev.st1 Lw.lens) t0 p39b = true := by kernel_rfl
end Tg
end Go.Proofs.YtmnojjfamfpmnaaGreatDoor
