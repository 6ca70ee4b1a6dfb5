/-
  The tree of DocsClears: the run on symbols answers at each leaf as the leaf says.
-/
import Derived.Test.YtmnojjfamfpmnaaGreatDoorWalk
set_option linter.unusedVariables false
set_option linter.unusedSimpArgs false
set_option linter.unusedSectionVars false
set_option linter.unnecessarySimpa false
namespace Go.Proofs.YtmnojjfamfpmnaaGreatDoor
open Go
set_option maxRecDepth 100000
namespace Tc
def q0 : Value := Ev.term 1 [Lw.x 13, Lw.x 14]
def q1 : Value := Ev.term 1 [Ev.term 107 [Ev.term 110 [Lw.x 14, Lw.x 13], Ev.term 111 [Ev.term 110 [Lw.x 14, Lw.x 13]]], .int .i64 0]
def q2 : Value := Ev.term 1 [Ev.term 10 [Ev.term 110 [Lw.x 14, Lw.x 13], Ev.term 111 [Ev.term 110 [Lw.x 14, Lw.x 13]]], .int .i64 0]
def q3 : Value := Ev.term 1 [Ev.term 10 [Ev.term 11 [Lw.x 13, Lw.x 14], Ev.term 110 [Lw.x 14, Lw.x 13]], .int .i64 0]
def q4 : Value := Ev.term 2 [.int .i64 0, Ev.term 107 [Ev.term 110 [Lw.x 14, Lw.x 13], Ev.term 111 [Ev.term 110 [Lw.x 14, Lw.x 13]]]]
def q5 : Value := Ev.term 2 [Ev.term 107 [Ev.term 110 [Lw.x 14, Lw.x 13], Ev.term 111 [Ev.term 110 [Lw.x 14, Lw.x 13]]], .int .i64 0]
def q6 : Value := Ev.term 108 [Ev.term 110 [Lw.x 14, Lw.x 13], Ev.term 111 [Ev.term 110 [Lw.x 14, Lw.x 13]]]
def q7 : Value := Ev.term 1 [Ev.term 111 [Ev.term 110 [Lw.x 14, Lw.x 13]], .int .i64 0]
def q8 : Value := Ev.term 2 [.int .i64 1000000000000, Ev.term 111 [Ev.term 110 [Lw.x 14, Lw.x 13]]]
def q9 : Value := Ev.term 2 [Ev.term 111 [Ev.term 110 [Lw.x 14, Lw.x 13]], .int .i64 (-1000000000000)]
def q10 : Value := Ev.term 100 [Lw.x 5]
def q11 : Value := Ev.term 2 [.int .i64 1000000000000, Ev.term 110 [Lw.x 14, Lw.x 13]]
def q12 : Value := Ev.term 2 [Ev.term 110 [Lw.x 14, Lw.x 13], .int .i64 (-1000000000000)]
def q13 : Value := Ev.term 101 [Lw.x 16]
def q14 : Value := Ev.term 115 [Lw.x 15]
def q15 : Value := Ev.term 100 [Lw.x 3]
def q16 : Value := Ev.term 112 [Lw.x 19]
def q17 : Value := Ev.term 112 [Lw.x 18]
def q18 : Value := Ev.term 100 [Lw.x 20]
def q19 : Value := Ev.term 100 [Lw.x 0]
def q20 : Value := Ev.term 100 [Lw.x 4]
def q21 : Value := Ev.term 2 [Ev.term 110 [Lw.x 14, Lw.x 13], .int .i64 0]
def q22 : Value := Ev.term 100 [Lw.x 2]
def q23 : Value := Lw.x 17
def q24 : Value := Ev.term 1 [Ev.term 110 [Lw.x 14, Lw.x 13], .int .i64 0]
def q25 : Value := Ev.term 109 [Lw.x 14, Lw.x 13]
def q26 : Value := Ev.term 100 [Lw.x 15]
def q27 : Value := Ev.term 104 [Lw.x 0, Lw.x 1, Lw.x 2, Lw.x 3, Lw.x 4, Lw.x 5, Lw.x 6, Lw.x 7, Lw.x 8]
def b0 : Ev.TrB := .ask q7 (.leaf true) (.ask q6 (.ask q5 (.leaf true) (.ask q4 (.leaf true) (.ask q3 (.ask q2 (.ask q1 (.leaf true) (.leaf false)) (.leaf false)) (.leaf false)))) (.leaf true))
def b1 : Ev.TrB := .ask q14 (.ask q13 (.ask q12 (.leaf true) (.ask q11 (.leaf true) (.ask q10 (.ask q9 (.leaf true) (.ask q8 (.leaf true) (b0))) (.leaf true)))) (.leaf true)) (.leaf true)
def b2 : Ev.TrB := .ask q14 (.ask q13 (.ask q12 (.leaf true) (.ask q11 (.leaf true) (.ask q20 (.ask q9 (.leaf true) (.ask q8 (.leaf true) (b0))) (.leaf true)))) (.leaf true)) (.leaf true)
def b3 : Ev.TrB := .ask q21 (.ask q19 (.ask q18 (.ask q17 (.ask q16 (.ask q15 (b1) (.leaf true)) (.leaf true)) (.leaf true)) (.leaf true)) (.leaf true)) (.ask q19 (.ask q18 (.ask q17 (.ask q16 (.ask q15 (b2) (.leaf true)) (.leaf true)) (.leaf true)) (.leaf true)) (.leaf true))
def b4 : Ev.TrB := .ask q21 (.ask q19 (.ask q18 (.ask q17 (.ask q16 (.ask q22 (b1) (.leaf true)) (.leaf true)) (.leaf true)) (.leaf true)) (.leaf true)) (.ask q19 (.ask q18 (.ask q17 (.ask q16 (.ask q22 (b2) (.leaf true)) (.leaf true)) (.leaf true)) (.leaf true)) (.leaf true))
def T : Ev.TrB := .ask q27 (.ask q26 (.ask q25 (.ask q24 (.ask q0 (.leaf true) (.leaf false)) (.ask q23 (b3) (b4))) (.leaf true)) (.leaf true)) (.leaf true)
end Tc
theorem chk5 : Ev.chkB Tryz.prog Lw.sumL Lw.bvL Lw.bfL 500 5 Lw.args (Ev.st1 Lw.lens) Tc.T Lw.pN = true := by kernel_rfl
theorem big5 : @Ev.runB (Ev.pathOrc (fun _ => none) Lw.pB) Tryz.prog 500 5 Lw.args (Ev.st1 Lw.lens) = some true := by kernel_rfl
end Go.Proofs.YtmnojjfamfpmnaaGreatDoor
