/-
  DERIVED. GIVEN WITH THE SEED: THE CARDS: each row of YtikooimokfbffaaGreatDoorRows.lean that lists a variable, with what it lists TIED to the program's text (the seventh form; the later family's looks); each row that meets fmt, with fmt's text TOLD by the authors' own Lean function (tested against real Go, not proved from fmt's source: count such statements apart). THE CARD IS WHAT COUNTS. Prove the row's statement (the work); the ties are given (YtikooimokfbffaaGreatDoorTie.lean); close each card by the builder's one call (the guide's Derived/Test/ToyasCard.lean, 'card_holds'). Laid BY PROGRAM, IN A SANDBOX (cutbox-door.mjs). By AI agents, Wed Nov 11 2026. No macro, syntax, notation, axiom, sorry.
-/
import Derived.Test.YtikooimokfbffaaGreatDoorRows
import GoSem.ClaimSeven
namespace Go.Proofs.YtikooimokfbffaaGreatDoor
namespace Rows

/-- THE TIED CARD OF 'laws.FnExactIsTheoremOf'. -/
def fnExactIsTheoremOfCard : Claim7 := { stood := { row := fnExactIsTheoremOfRow, standIns := [], harness := (true, "1acd88c248217f361437901811cf86a98b28b9d0263e2b89ae47403ac9d60232"), looks := false }, kinds := [], alts := [], laidByText := true, laidKinds := [.data], laidTests := true, laidLooks := .later }
def FnExactIsTheoremOfCardSaid : Prop := Claim7.holds Tryz.pinned (.plain (OpenSpec.ofChange fnExactIsTheoremOfSpec)) fnExactIsTheoremOfCard

/-- THE TIED CARD OF 'laws.FnIntermediateAxioms'. -/
def fnIntermediateAxiomsCard : Claim7 := { stood := { row := fnIntermediateAxiomsRow, standIns := [], harness := (true, "1acd88c248217f361437901811cf86a98b28b9d0263e2b89ae47403ac9d60232"), looks := false }, kinds := [], alts := [], laidByText := true, laidKinds := [.data, .data], laidTests := true, laidLooks := .later }
def FnIntermediateAxiomsCardSaid : Prop := Claim7.holds Tryz.pinned (.plain (OpenSpec.ofChange fnIntermediateAxiomsSpec)) fnIntermediateAxiomsCard

/-- THE TIED CARD OF 'laws.FnTheorems'. -/
def fnTheoremsCard : Claim7 := { stood := { row := fnTheoremsRow, standIns := [], harness := (true, "1acd88c248217f361437901811cf86a98b28b9d0263e2b89ae47403ac9d60232"), looks := false }, kinds := [], alts := [], laidByText := true, laidKinds := [.data], laidTests := true, laidLooks := .later }
def FnTheoremsCardSaid : Prop := Claim7.holds Tryz.pinned (.plain (OpenSpec.ofChange fnTheoremsSpec)) fnTheoremsCard

/-- THE SECOND FORM's CARD OF 'laws.FnExactIsTheoremOf'. -/
def fnExactIsTheoremOfUptoCard : Claim7 := { stood := { row := fnExactIsTheoremOfUptoRow, standIns := [], harness := (true, "1acd88c248217f361437901811cf86a98b28b9d0263e2b89ae47403ac9d60232"), looks := false }, kinds := [], alts := [], laidByText := true, laidKinds := [.data], laidTests := true, laidLooks := .later }
def FnExactIsTheoremOfUptoCardSaid : Prop := Claim7.holds Tryz.pinned (.plain (OpenSpec.upto fnExactIsTheoremOfSpec)) fnExactIsTheoremOfUptoCard

/-- THE SECOND FORM's CARD OF 'laws.FnIntermediateAxioms'. -/
def fnIntermediateAxiomsUptoCard : Claim7 := { stood := { row := fnIntermediateAxiomsUptoRow, standIns := [], harness := (true, "1acd88c248217f361437901811cf86a98b28b9d0263e2b89ae47403ac9d60232"), looks := false }, kinds := [], alts := [], laidByText := true, laidKinds := [.data, .data], laidTests := true, laidLooks := .later }
def FnIntermediateAxiomsUptoCardSaid : Prop := Claim7.holds Tryz.pinned (.plain (OpenSpec.upto fnIntermediateAxiomsSpec)) fnIntermediateAxiomsUptoCard

/-- THE SECOND FORM's CARD OF 'laws.FnTheorems'. -/
def fnTheoremsUptoCard : Claim7 := { stood := { row := fnTheoremsUptoRow, standIns := [], harness := (true, "1acd88c248217f361437901811cf86a98b28b9d0263e2b89ae47403ac9d60232"), looks := false }, kinds := [], alts := [], laidByText := true, laidKinds := [.data], laidTests := true, laidLooks := .later }
def FnTheoremsUptoCardSaid : Prop := Claim7.holds Tryz.pinned (.plain (OpenSpec.upto fnTheoremsSpec)) fnTheoremsUptoCard
end Rows
end Go.Proofs.YtikooimokfbffaaGreatDoor
