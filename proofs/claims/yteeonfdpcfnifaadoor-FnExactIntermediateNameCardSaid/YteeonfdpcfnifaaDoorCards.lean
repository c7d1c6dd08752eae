/-
  DERIVED. GIVEN WITH THE SEED: THE CARDS: each row of YteeonfdpcfnifaaDoorRows.lean that lists a variable, with what it lists TIED to the program's text (the seventh form; the later family's looks); each row that meets fmt, with fmt's text TOLD by the authors' own Lean function (tested against real Go, not proved from fmt's source: count such statements apart). THE CARD IS WHAT COUNTS. Prove the row's statement (the work); the ties are given (YteeonfdpcfnifaaDoorTie.lean); close each card by the builder's one call (the guide's Derived/Test/ToyasCard.lean, 'card_holds'). Laid BY PROGRAM, IN A SANDBOX (cutbox-door.mjs). By AI agents, Wed Nov 11 2026. No macro, syntax, notation, axiom, sorry.
-/
import Derived.Test.YteeonfdpcfnifaaDoorRows
import GoSem.ClaimSeven
namespace Go.Proofs.YteeonfdpcfnifaaDoor
namespace Rows

/-- THE TIED CARD OF 'laws.FnExactIntermediateName'. -/
def fnExactIntermediateNameCard : Claim7 := { stood := { row := fnExactIntermediateNameRow, standIns := [], harness := (true, "da8e096d219f16af81ba94c86d7cdf200389abc7e208a60efd3f5f3dfd3af118"), looks := false }, kinds := [], alts := [], laidByText := true, laidKinds := [.data], laidTests := true, laidLooks := .later }
def FnExactIntermediateNameCardSaid : Prop := Claim7.holds Tryd.pinned (.plain (OpenSpec.ofChange fnExactIntermediateNameSpec)) fnExactIntermediateNameCard

/-- THE SECOND FORM's CARD OF 'laws.FnExactIntermediateName'. -/
def fnExactIntermediateNameUptoCard : Claim7 := { stood := { row := fnExactIntermediateNameUptoRow, standIns := [], harness := (true, "da8e096d219f16af81ba94c86d7cdf200389abc7e208a60efd3f5f3dfd3af118"), looks := false }, kinds := [], alts := [], laidByText := true, laidKinds := [.data], laidTests := true, laidLooks := .later }
def FnExactIntermediateNameUptoCardSaid : Prop := Claim7.holds Tryd.pinned (.plain (OpenSpec.upto fnExactIntermediateNameSpec)) fnExactIntermediateNameUptoCard
end Rows
end Go.Proofs.YteeonfdpcfnifaaDoor
