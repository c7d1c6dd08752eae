/-
  DERIVED. GIVEN WITH THE SEED: THE CARDS: each row of YtpbjeoigpbnekaaDoorRows.lean that lists a variable, with what it lists TIED to the program's text (the seventh form; the later family's looks); each row that meets fmt, with fmt's text TOLD by the authors' own Lean function (tested against real Go, not proved from fmt's source: count such statements apart). THE CARD IS WHAT COUNTS. Prove the row's statement (the work); the ties are given (YtpbjeoigpbnekaaDoorTie.lean); close each card by the builder's one call (the guide's Derived/Test/ToyasCard.lean, 'card_holds'). Laid BY PROGRAM, IN A SANDBOX (cutbox-door.mjs). By AI agents, Wed Nov 11 2026. No macro, syntax, notation, axiom, sorry.
-/
import Derived.Test.YtpbjeoigpbnekaaDoorRows
import GoSem.ClaimSeven
namespace Go.Proofs.YtpbjeoigpbnekaaDoor
namespace Rows

/-- THE TIED CARD OF 'laws.FnExactIsPosetOf'. -/
def fnExactIsPosetOfCard : Claim7 := { stood := { row := fnExactIsPosetOfRow, standIns := [], harness := (true, "438cd58a58b87b6c0635594c3d8f528c148f560eb982df247872e670d57872a4"), looks := false }, kinds := [], alts := [], laidByText := true, laidKinds := [.data], laidTests := true, laidLooks := .later }
def FnExactIsPosetOfCardSaid : Prop := Claim7.holds Tryd.pinned (.plain (OpenSpec.ofChange fnExactIsPosetOfSpec)) fnExactIsPosetOfCard

/-- THE TIED CARD OF 'laws.FnExactLogicsOfPoset'. -/
def fnExactLogicsOfPosetCard : Claim7 := { stood := { row := fnExactLogicsOfPosetRow, standIns := [], harness := (true, "438cd58a58b87b6c0635594c3d8f528c148f560eb982df247872e670d57872a4"), looks := false }, kinds := [], alts := [], laidByText := true, laidKinds := [.data], laidTests := true, laidLooks := .later }
def FnExactLogicsOfPosetCardSaid : Prop := Claim7.holds Tryd.pinned (.plain (OpenSpec.ofChange fnExactLogicsOfPosetSpec)) fnExactLogicsOfPosetCard

/-- THE SECOND FORM's CARD OF 'laws.FnExactIsPosetOf'. -/
def fnExactIsPosetOfUptoCard : Claim7 := { stood := { row := fnExactIsPosetOfUptoRow, standIns := [], harness := (true, "438cd58a58b87b6c0635594c3d8f528c148f560eb982df247872e670d57872a4"), looks := false }, kinds := [], alts := [], laidByText := true, laidKinds := [.data], laidTests := true, laidLooks := .later }
def FnExactIsPosetOfUptoCardSaid : Prop := Claim7.holds Tryd.pinned (.plain (OpenSpec.upto fnExactIsPosetOfSpec)) fnExactIsPosetOfUptoCard

/-- THE SECOND FORM's CARD OF 'laws.FnExactLogicsOfPoset'. -/
def fnExactLogicsOfPosetUptoCard : Claim7 := { stood := { row := fnExactLogicsOfPosetUptoRow, standIns := [], harness := (true, "438cd58a58b87b6c0635594c3d8f528c148f560eb982df247872e670d57872a4"), looks := false }, kinds := [], alts := [], laidByText := true, laidKinds := [.data], laidTests := true, laidLooks := .later }
def FnExactLogicsOfPosetUptoCardSaid : Prop := Claim7.holds Tryd.pinned (.plain (OpenSpec.upto fnExactLogicsOfPosetSpec)) fnExactLogicsOfPosetUptoCard
end Rows
end Go.Proofs.YtpbjeoigpbnekaaDoor
