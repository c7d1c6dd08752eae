/-
  DERIVED. GIVEN WITH THE SEED: THE CARDS: each row of YtponaoefpicfpaaGreatDoorRows.lean that lists a variable, with what it lists TIED to the program's text (the seventh form; the later family's looks); each row that meets fmt, with fmt's text TOLD by the authors' own Lean function (tested against real Go, not proved from fmt's source: count such statements apart). THE CARD IS WHAT COUNTS. Prove the row's statement (the work); the ties are given (YtponaoefpicfpaaGreatDoorTie.lean); close each card by the builder's one call (the guide's Derived/Test/ToyasCard.lean, 'card_holds'). Laid BY PROGRAM, IN A SANDBOX (cutbox-door.mjs). By AI agents, Wed Nov 11 2026. No macro, syntax, notation, axiom, sorry.
-/
import Derived.Test.YtponaoefpicfpaaGreatDoorRows
import GoSem.ClaimSeven
namespace Go.Proofs.YtponaoefpicfpaaGreatDoor
namespace Rows

/-- THE TIED CARD OF 'laws.FnExactIsBelowIntermediate'. -/
def fnExactIsBelowIntermediateCard : Claim7 := { stood := { row := fnExactIsBelowIntermediateRow, standIns := [], harness := (true, "278a7ba30999be8cffa5d9267e6cef9d4786592f6c3b127b1fc0e7074cdfcda5"), looks := false }, kinds := [], alts := [], laidByText := true, laidKinds := [.data], laidTests := true, laidLooks := .later }
def FnExactIsBelowIntermediateCardSaid : Prop := Claim7.holds Tryz.pinned (.plain (OpenSpec.ofChange fnExactIsBelowIntermediateSpec)) fnExactIsBelowIntermediateCard

/-- THE TIED CARD OF 'laws.FnExactStrongestIntermediate'. -/
def fnExactStrongestIntermediateCard : Claim7 := { stood := { row := fnExactStrongestIntermediateRow, standIns := [], harness := (true, "278a7ba30999be8cffa5d9267e6cef9d4786592f6c3b127b1fc0e7074cdfcda5"), looks := false }, kinds := [], alts := [], laidByText := true, laidKinds := [.data], laidTests := true, laidLooks := .later }
def FnExactStrongestIntermediateCardSaid : Prop := Claim7.holds Tryz.pinned (.plain (OpenSpec.ofChange fnExactStrongestIntermediateSpec)) fnExactStrongestIntermediateCard

/-- THE TIED CARD OF 'laws.FnExactIsTheoremOf'. -/
def fnExactIsTheoremOfCard : Claim7 := { stood := { row := fnExactIsTheoremOfRow, standIns := [], harness := (true, "278a7ba30999be8cffa5d9267e6cef9d4786592f6c3b127b1fc0e7074cdfcda5"), looks := false }, kinds := [], alts := [], laidByText := true, laidKinds := [.data], laidTests := true, laidLooks := .later }
def FnExactIsTheoremOfCardSaid : Prop := Claim7.holds Tryz.pinned (.plain (OpenSpec.ofChange fnExactIsTheoremOfSpec)) fnExactIsTheoremOfCard

/-- THE TIED CARD OF 'laws.FnExactRefutingPosetOf'. -/
def fnExactRefutingPosetOfCard : Claim7 := { stood := { row := fnExactRefutingPosetOfRow, standIns := [], harness := (true, "278a7ba30999be8cffa5d9267e6cef9d4786592f6c3b127b1fc0e7074cdfcda5"), looks := false }, kinds := [], alts := [], laidByText := true, laidKinds := [.data], laidTests := true, laidLooks := .later }
def FnExactRefutingPosetOfCardSaid : Prop := Claim7.holds Tryz.pinned (.plain (OpenSpec.ofChange fnExactRefutingPosetOfSpec)) fnExactRefutingPosetOfCard

/-- THE TIED CARD OF 'laws.FnIntermediateAxioms'. -/
def fnIntermediateAxiomsCard : Claim7 := { stood := { row := fnIntermediateAxiomsRow, standIns := [], harness := (true, "278a7ba30999be8cffa5d9267e6cef9d4786592f6c3b127b1fc0e7074cdfcda5"), looks := false }, kinds := [], alts := [], laidByText := true, laidKinds := [.data, .data], laidTests := true, laidLooks := .later }
def FnIntermediateAxiomsCardSaid : Prop := Claim7.holds Tryz.pinned (.plain (OpenSpec.ofChange fnIntermediateAxiomsSpec)) fnIntermediateAxiomsCard

/-- THE SECOND FORM's CARD OF 'laws.FnExactIsBelowIntermediate'. -/
def fnExactIsBelowIntermediateUptoCard : Claim7 := { stood := { row := fnExactIsBelowIntermediateUptoRow, standIns := [], harness := (true, "278a7ba30999be8cffa5d9267e6cef9d4786592f6c3b127b1fc0e7074cdfcda5"), looks := false }, kinds := [], alts := [], laidByText := true, laidKinds := [.data], laidTests := true, laidLooks := .later }
def FnExactIsBelowIntermediateUptoCardSaid : Prop := Claim7.holds Tryz.pinned (.plain (OpenSpec.upto fnExactIsBelowIntermediateSpec)) fnExactIsBelowIntermediateUptoCard

/-- THE SECOND FORM's CARD OF 'laws.FnExactStrongestIntermediate'. -/
def fnExactStrongestIntermediateUptoCard : Claim7 := { stood := { row := fnExactStrongestIntermediateUptoRow, standIns := [], harness := (true, "278a7ba30999be8cffa5d9267e6cef9d4786592f6c3b127b1fc0e7074cdfcda5"), looks := false }, kinds := [], alts := [], laidByText := true, laidKinds := [.data], laidTests := true, laidLooks := .later }
def FnExactStrongestIntermediateUptoCardSaid : Prop := Claim7.holds Tryz.pinned (.plain (OpenSpec.upto fnExactStrongestIntermediateSpec)) fnExactStrongestIntermediateUptoCard

/-- THE SECOND FORM's CARD OF 'laws.FnExactIsTheoremOf'. -/
def fnExactIsTheoremOfUptoCard : Claim7 := { stood := { row := fnExactIsTheoremOfUptoRow, standIns := [], harness := (true, "278a7ba30999be8cffa5d9267e6cef9d4786592f6c3b127b1fc0e7074cdfcda5"), looks := false }, kinds := [], alts := [], laidByText := true, laidKinds := [.data], laidTests := true, laidLooks := .later }
def FnExactIsTheoremOfUptoCardSaid : Prop := Claim7.holds Tryz.pinned (.plain (OpenSpec.upto fnExactIsTheoremOfSpec)) fnExactIsTheoremOfUptoCard

/-- THE SECOND FORM's CARD OF 'laws.FnExactRefutingPosetOf'. -/
def fnExactRefutingPosetOfUptoCard : Claim7 := { stood := { row := fnExactRefutingPosetOfUptoRow, standIns := [], harness := (true, "278a7ba30999be8cffa5d9267e6cef9d4786592f6c3b127b1fc0e7074cdfcda5"), looks := false }, kinds := [], alts := [], laidByText := true, laidKinds := [.data], laidTests := true, laidLooks := .later }
def FnExactRefutingPosetOfUptoCardSaid : Prop := Claim7.holds Tryz.pinned (.plain (OpenSpec.upto fnExactRefutingPosetOfSpec)) fnExactRefutingPosetOfUptoCard

/-- THE SECOND FORM's CARD OF 'laws.FnIntermediateAxioms'. -/
def fnIntermediateAxiomsUptoCard : Claim7 := { stood := { row := fnIntermediateAxiomsUptoRow, standIns := [], harness := (true, "278a7ba30999be8cffa5d9267e6cef9d4786592f6c3b127b1fc0e7074cdfcda5"), looks := false }, kinds := [], alts := [], laidByText := true, laidKinds := [.data, .data], laidTests := true, laidLooks := .later }
def FnIntermediateAxiomsUptoCardSaid : Prop := Claim7.holds Tryz.pinned (.plain (OpenSpec.upto fnIntermediateAxiomsSpec)) fnIntermediateAxiomsUptoCard
end Rows
end Go.Proofs.YtponaoefpicfpaaGreatDoor
