/-
  DERIVED. GIVEN WITH THE SEED: THE CARDS: each row of YtmnojjfamfpmnaaGreatDoorRows.lean that lists a variable, with what it lists TIED to the program's text (the seventh form; the later family's looks); each row that meets fmt, with fmt's text TOLD by the authors' own Lean function (tested against real Go, not proved from fmt's source: count such statements apart). THE CARD IS WHAT COUNTS. Prove the row's statement (the work); the ties are given (YtmnojjfamfpmnaaGreatDoorTie.lean); close each card by the builder's one call (the guide's Derived/Test/ToyasCard.lean, 'card_holds'). Laid BY PROGRAM, IN A SANDBOX (cutbox-door.mjs). By AI agents, Wed Nov 11 2026. No macro, syntax, notation, axiom, sorry.
-/
import Derived.Test.YtmnojjfamfpmnaaGreatDoorRows
import GoSem.ClaimSeven
namespace Go.Proofs.YtmnojjfamfpmnaaGreatDoor
namespace Rows

/-- THE TIED CARD OF 'accountinglaw28.DocsMirror'. -/
def docsMirrorCard : Claim7 := { stood := { row := docsMirrorRow, standIns := [], harness := (true, "671335755def004363d1a3c3ac1195af630e0409eb5a00b38b1c4ff8b2cf928b"), looks := false }, kinds := [], alts := [], laidByText := true, laidKinds := [.data], laidTests := true, laidLooks := .later }
def DocsMirrorCardSaid : Prop := Claim7.holds Tryz.pinned (.plain (OpenSpec.ofChange docsMirrorSpec)) docsMirrorCard

/-- THE TIED CARD OF 'accountinglaw28.DocsGains'. -/
def docsGainsCard : Claim7 := { stood := { row := docsGainsRow, standIns := [], harness := (true, "671335755def004363d1a3c3ac1195af630e0409eb5a00b38b1c4ff8b2cf928b"), looks := false }, kinds := [], alts := [], laidByText := true, laidKinds := [.data], laidTests := true, laidLooks := .later }
def DocsGainsCardSaid : Prop := Claim7.holds Tryz.pinned (.plain (OpenSpec.ofChange docsGainsSpec)) docsGainsCard

/-- THE TIED CARD OF 'accountinglaw28.DocsClears'. -/
def docsClearsCard : Claim7 := { stood := { row := docsClearsRow, standIns := [], harness := (true, "671335755def004363d1a3c3ac1195af630e0409eb5a00b38b1c4ff8b2cf928b"), looks := false }, kinds := [], alts := [], laidByText := true, laidKinds := [.data], laidTests := true, laidLooks := .later }
def DocsClearsCardSaid : Prop := Claim7.holds Tryz.pinned (.plain (OpenSpec.ofChange docsClearsSpec)) docsClearsCard

/-- THE SECOND FORM's CARD OF 'accountinglaw28.DocsMirror'. -/
def docsMirrorUptoCard : Claim7 := { stood := { row := docsMirrorUptoRow, standIns := [], harness := (true, "671335755def004363d1a3c3ac1195af630e0409eb5a00b38b1c4ff8b2cf928b"), looks := false }, kinds := [], alts := [], laidByText := true, laidKinds := [.data], laidTests := true, laidLooks := .later }
def DocsMirrorUptoCardSaid : Prop := Claim7.holds Tryz.pinned (.plain (OpenSpec.upto docsMirrorSpec)) docsMirrorUptoCard

/-- THE SECOND FORM's CARD OF 'accountinglaw28.DocsGains'. -/
def docsGainsUptoCard : Claim7 := { stood := { row := docsGainsUptoRow, standIns := [], harness := (true, "671335755def004363d1a3c3ac1195af630e0409eb5a00b38b1c4ff8b2cf928b"), looks := false }, kinds := [], alts := [], laidByText := true, laidKinds := [.data], laidTests := true, laidLooks := .later }
def DocsGainsUptoCardSaid : Prop := Claim7.holds Tryz.pinned (.plain (OpenSpec.upto docsGainsSpec)) docsGainsUptoCard

/-- THE SECOND FORM's CARD OF 'accountinglaw28.DocsClears'. -/
def docsClearsUptoCard : Claim7 := { stood := { row := docsClearsUptoRow, standIns := [], harness := (true, "671335755def004363d1a3c3ac1195af630e0409eb5a00b38b1c4ff8b2cf928b"), looks := false }, kinds := [], alts := [], laidByText := true, laidKinds := [.data], laidTests := true, laidLooks := .later }
def DocsClearsUptoCardSaid : Prop := Claim7.holds Tryz.pinned (.plain (OpenSpec.upto docsClearsSpec)) docsClearsUptoCard
end Rows
end Go.Proofs.YtmnojjfamfpmnaaGreatDoor
