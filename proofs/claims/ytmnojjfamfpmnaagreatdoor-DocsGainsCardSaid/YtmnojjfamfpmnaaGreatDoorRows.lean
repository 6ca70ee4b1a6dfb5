/-
  NARROWER THAN 'FOR EVERY INPUT', by the rows' own cells (each row's printed sentence says how): DocsMirror: laid · DocsGains: laid · DocsClears: laid.
  DERIVED. THE GIVEN ROWS OF THIS SEAT. 3 by the template 'for every input the law returns true; each argument reads behind the call as it read before'; 0 by the template 'total and deterministic' (their statements: YtmnojjfamfpmnaaGreatDoorTotals.lean).
  GIVEN WITH THE SEED: the statements are not yours to turn. If you find one false, say at which input.
  Laid BY PROGRAM, IN A SANDBOX (cutbox-rows.mjs): the forced cells as the released guide's own fill.sh prints them over the translation 244315bdfb78eda7… (all of the seat's roots in one cut). By AI agents, Wed Nov 11 2026. No macro, syntax, notation, axiom, sorry.
-/
import Derived.Test.YtmnojjfamfpmnaaGreatDoorChecked
import GoSem.Claim
import GoSem.ClaimJoined
import GoSem.ClaimMapViews
import Derived.JoinedTies
import Derived.KernelRfl
namespace Go.Proofs.YtmnojjfamfpmnaaGreatDoor
/- THE CELL 'sum', in the pinned program and in every row, IS THE sha256 OF THE DUMP (.gsa) THAT YtmnojjfamfpmnaaGreatDoorProg.lean LOADS. Nothing in Lean hashes anything: it is a label: what it is worth is what the hold of that sum in a sandbox is worth. -/
noncomputable def Tryz.pinned : Pinned := { name := "ytmnojjfamfpmnaagreatdoor", sum := "244315bdfb78eda745f95408a926750a4c5b29207b237bab80e257e8597b509f", checked := Tryz.checked }
namespace Rows
def none {H : Type} : Left H := { results := [], args := [] }

/- WHAT THE LISTED PACKAGE-LEVEL VARIABLES READ AS WHEN THE CALL BEGINS. Each datum BY PROGRAM (the guide's laid-datum.mjs) off the statement by which the dump's own 'gosem.cut.vars' lays the variable. In a bare row this is a premise. The card (YtmnojjfamfpmnaaGreatDoorCards.lean) ties it to the program's text. -/
def laid_accounting_days_lengths {H : Type} : DataW H := .agg [.lit (.int .i64 31), .lit (.int .i64 28), .lit (.int .i64 31), .lit (.int .i64 30), .lit (.int .i64 31), .lit (.int .i64 30), .lit (.int .i64 31), .lit (.int .i64 31), .lit (.int .i64 30), .lit (.int .i64 31), .lit (.int .i64 30), .lit (.int .i64 31)]

/-- 'accountinglaw28.DocsMirror': WHATEVER THE INPUT: true; the input reads as it did. -/
def docsMirrorSpec : ChangeSpec := { name := "docsMirror", fn := fun _ => fun
  | [d1, d2, d3, d4] => { results := [.lit (.bool true)], args := [d1, d2, d3, d4] }
  | _ => none }
def docsMirrorRow : OpenClaim := { program := "ytmnojjfamfpmnaagreatdoor", sum := "244315bdfb78eda745f95408a926750a4c5b29207b237bab80e257e8597b509f", func := "accounting/accountinglaw28.DocsMirror", spec := "docsMirror", inPlace := ["slices.overlaps[accounting/api.Rate]", "math/bits.Add64"], unfollowed := true, recurses := true, named := ["accounting/days.lengths"], plainKeys := false, apart := false, laid := [("accounting/days.lengths", laid_accounting_days_lengths)] }
def DocsMirrorSaid : Prop := docsMirrorRow.holds Tryz.pinned (OpenSpec.ofChange docsMirrorSpec)

/-- ITS FALSE NEIGHBOUR: 'it returns false'. Refute it at one input. -/
def docsMirrorWrong : ChangeSpec := { name := "docsMirror", fn := fun _ => fun
  | [d1, d2, d3, d4] => { results := [.lit (.bool false)], args := [d1, d2, d3, d4] }
  | _ => none }
def DocsMirrorWrongFalsely : Prop := docsMirrorRow.holds Tryz.pinned (OpenSpec.ofChange docsMirrorWrong)

/-- 'accountinglaw28.DocsGains': WHATEVER THE INPUT: true; the input reads as it did. -/
def docsGainsSpec : ChangeSpec := { name := "docsGains", fn := fun _ => fun
  | [d1, d2, d3, d4, d5, d6, d7, d8] => { results := [.lit (.bool true)], args := [d1, d2, d3, d4, d5, d6, d7, d8] }
  | _ => none }
def docsGainsRow : OpenClaim := { program := "ytmnojjfamfpmnaagreatdoor", sum := "244315bdfb78eda745f95408a926750a4c5b29207b237bab80e257e8597b509f", func := "accounting/accountinglaw28.DocsGains", spec := "docsGains", inPlace := ["math/bits.Add64", "slices.overlaps[accounting/api.Rate]"], unfollowed := true, recurses := true, named := ["accounting/days.lengths"], plainKeys := false, apart := false, laid := [("accounting/days.lengths", laid_accounting_days_lengths)] }
def DocsGainsSaid : Prop := docsGainsRow.holds Tryz.pinned (OpenSpec.ofChange docsGainsSpec)

/-- ITS FALSE NEIGHBOUR: 'it returns false'. Refute it at one input. -/
def docsGainsWrong : ChangeSpec := { name := "docsGains", fn := fun _ => fun
  | [d1, d2, d3, d4, d5, d6, d7, d8] => { results := [.lit (.bool false)], args := [d1, d2, d3, d4, d5, d6, d7, d8] }
  | _ => none }
def DocsGainsWrongFalsely : Prop := docsGainsRow.holds Tryz.pinned (OpenSpec.ofChange docsGainsWrong)

/-- 'accountinglaw28.DocsClears': WHATEVER THE INPUT: true; the input reads as it did. -/
def docsClearsSpec : ChangeSpec := { name := "docsClears", fn := fun _ => fun
  | [d1, d2, d3, d4, d5, d6, d7, d8] => { results := [.lit (.bool true)], args := [d1, d2, d3, d4, d5, d6, d7, d8] }
  | _ => none }
def docsClearsRow : OpenClaim := { program := "ytmnojjfamfpmnaagreatdoor", sum := "244315bdfb78eda745f95408a926750a4c5b29207b237bab80e257e8597b509f", func := "accounting/accountinglaw28.DocsClears", spec := "docsClears", inPlace := ["math/bits.Add64", "slices.overlaps[accounting/api.Rate]"], unfollowed := true, recurses := true, named := ["accounting/days.lengths"], plainKeys := false, apart := false, laid := [("accounting/days.lengths", laid_accounting_days_lengths)] }
def DocsClearsSaid : Prop := docsClearsRow.holds Tryz.pinned (OpenSpec.ofChange docsClearsSpec)

/-- ITS FALSE NEIGHBOUR: 'it returns false'. Refute it at one input. -/
def docsClearsWrong : ChangeSpec := { name := "docsClears", fn := fun _ => fun
  | [d1, d2, d3, d4, d5, d6, d7, d8] => { results := [.lit (.bool false)], args := [d1, d2, d3, d4, d5, d6, d7, d8] }
  | _ => none }
def DocsClearsWrongFalsely : Prop := docsClearsRow.holds Tryz.pinned (OpenSpec.ofChange docsClearsWrong)

/- THE SECOND FORM. 'bulk': how many values and letters a reading holds, each counted each time it is reached (what is shared counts as often as it is met; a slice's spare places count too). A statement '..UptoSaid' is the law's where the arguments, and the package variables that the reading takes, are together of bulk at most 1048576: NARROWER than '..Said'. Prove '..Said' where nothing that the law and all that it calls make is longer than what came in: it says more and counts as full. Else prove '..UptoSaid'. A law counts once. -/
mutual
def uptoBulk {H : Type} : DataW H → Nat
  | .lit (.string bytes) => bytes.length + 1
  | .lit _ => 1
  | .nil => 1
  | .ptr d => uptoBulk d + 1
  | .slice elems spare => uptoBulkAll elems + uptoBulkAll spare + 1
  | .agg parts => uptoBulkAll parts + 1
  | .iface _ d => uptoBulk d + 1
  | .map entries => uptoBulkEntries entries + 1
  | .held _ => 1
def uptoBulkAll {H : Type} : List (DataW H) → Nat
  | [] => 0
  | d :: r => uptoBulk d + uptoBulkAll r
def uptoBulkEntries {H : Type} : List (Lit × DataW H) → Nat
  | [] => 0
  | x :: r => uptoBulkEntry x + uptoBulkEntries r
def uptoBulkEntry {H : Type} : Lit × DataW H → Nat
  | (.string bytes, d) => bytes.length + uptoBulk d + 1
  | (_, d) => uptoBulk d + 1
 end
def uptoSmall : (H : Type) → List (DataW H) → Bool := fun _ ds => decide (uptoBulkAll ds ≤ 1048576)
def OpenSpec.upto (s : _root_.Go.ChangeSpec) : _root_.Go.OpenSpec := { _root_.Go.OpenSpec.ofChange s with cond := some uptoSmall }

/-- 'accountinglaw28.DocsMirror', WHERE WHAT IT READS IS OF BULK AT MOST 1048576: true; the input reads as it did. -/
def docsMirrorUptoRow : OpenClaim := { program := "ytmnojjfamfpmnaagreatdoor", sum := "244315bdfb78eda745f95408a926750a4c5b29207b237bab80e257e8597b509f", func := "accounting/accountinglaw28.DocsMirror", spec := "docsMirror", inPlace := ["slices.overlaps[accounting/api.Rate]", "math/bits.Add64"], unfollowed := true, recurses := true, named := ["accounting/days.lengths"], plainKeys := false, apart := false, laid := [("accounting/days.lengths", laid_accounting_days_lengths)], narrowed := true }
def DocsMirrorUptoSaid : Prop := docsMirrorUptoRow.holds Tryz.pinned (OpenSpec.upto docsMirrorSpec)

/-- 'accountinglaw28.DocsGains', WHERE WHAT IT READS IS OF BULK AT MOST 1048576: true; the input reads as it did. -/
def docsGainsUptoRow : OpenClaim := { program := "ytmnojjfamfpmnaagreatdoor", sum := "244315bdfb78eda745f95408a926750a4c5b29207b237bab80e257e8597b509f", func := "accounting/accountinglaw28.DocsGains", spec := "docsGains", inPlace := ["math/bits.Add64", "slices.overlaps[accounting/api.Rate]"], unfollowed := true, recurses := true, named := ["accounting/days.lengths"], plainKeys := false, apart := false, laid := [("accounting/days.lengths", laid_accounting_days_lengths)], narrowed := true }
def DocsGainsUptoSaid : Prop := docsGainsUptoRow.holds Tryz.pinned (OpenSpec.upto docsGainsSpec)

/-- 'accountinglaw28.DocsClears', WHERE WHAT IT READS IS OF BULK AT MOST 1048576: true; the input reads as it did. -/
def docsClearsUptoRow : OpenClaim := { program := "ytmnojjfamfpmnaagreatdoor", sum := "244315bdfb78eda745f95408a926750a4c5b29207b237bab80e257e8597b509f", func := "accounting/accountinglaw28.DocsClears", spec := "docsClears", inPlace := ["math/bits.Add64", "slices.overlaps[accounting/api.Rate]"], unfollowed := true, recurses := true, named := ["accounting/days.lengths"], plainKeys := false, apart := false, laid := [("accounting/days.lengths", laid_accounting_days_lengths)], narrowed := true }
def DocsClearsUptoSaid : Prop := docsClearsUptoRow.holds Tryz.pinned (OpenSpec.upto docsClearsSpec)

end Rows
end Go.Proofs.YtmnojjfamfpmnaaGreatDoor
