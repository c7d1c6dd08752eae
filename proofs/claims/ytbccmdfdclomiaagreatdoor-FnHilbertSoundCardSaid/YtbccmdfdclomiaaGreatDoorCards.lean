/-
  DERIVED. GIVEN WITH THE SEED: THE CARDS: each row of YtbccmdfdclomiaaGreatDoorRows.lean that lists a variable, with what it lists TIED to the program's text (the seventh form; the later family's looks); each row that meets fmt, with fmt's text TOLD by the authors' own Lean function (tested against real Go, not proved from fmt's source: count such statements apart). THE CARD IS WHAT COUNTS. Prove the row's statement (the work); the ties are given (YtbccmdfdclomiaaGreatDoorTie.lean); close each card by the builder's one call (the guide's Derived/Test/ToyasCard.lean, 'card_holds'). Laid BY PROGRAM, IN A SANDBOX (cutbox-door.mjs). By AI agents, Wed Nov 11 2026. No macro, syntax, notation, axiom, sorry.
-/
import Derived.Test.YtbccmdfdclomiaaGreatDoorRows
import GoSem.ClaimSeven
namespace Go.Proofs.YtbccmdfdclomiaaGreatDoor
namespace Rows

/-- THE TIED CARD OF 'laws.FnHilbertSound'. -/
def fnHilbertSoundCard : Claim7 := { stood := { row := fnHilbertSoundRow, standIns := [], harness := (true, "afc126b43ede9aed611e86688463cad82e539be14b75595fd988ae4075cb65c5"), looks := false }, kinds := [], alts := [], laidByText := true, laidKinds := [.data], laidTests := true, laidLooks := .later }
def FnHilbertSoundCardSaid : Prop := Claim7.holds Tryz.pinned (.plain (OpenSpec.ofChange fnHilbertSoundSpec)) fnHilbertSoundCard

/-- THE TIED CARD OF 'laws.FnHilbertChanges'. -/
def fnHilbertChangesCard : Claim7 := { stood := { row := fnHilbertChangesRow, standIns := [], harness := (true, "afc126b43ede9aed611e86688463cad82e539be14b75595fd988ae4075cb65c5"), looks := false }, kinds := [], alts := [], laidByText := true, laidKinds := [.data], laidTests := true, laidLooks := .later }
def FnHilbertChangesCardSaid : Prop := Claim7.holds Tryz.pinned (.plain (OpenSpec.ofChange fnHilbertChangesSpec)) fnHilbertChangesCard

/-- THE SECOND FORM's CARD OF 'laws.FnHilbertSound'. -/
def fnHilbertSoundUptoCard : Claim7 := { stood := { row := fnHilbertSoundUptoRow, standIns := [], harness := (true, "afc126b43ede9aed611e86688463cad82e539be14b75595fd988ae4075cb65c5"), looks := false }, kinds := [], alts := [], laidByText := true, laidKinds := [.data], laidTests := true, laidLooks := .later }
def FnHilbertSoundUptoCardSaid : Prop := Claim7.holds Tryz.pinned (.plain (OpenSpec.upto fnHilbertSoundSpec)) fnHilbertSoundUptoCard

/-- THE SECOND FORM's CARD OF 'laws.FnHilbertChanges'. -/
def fnHilbertChangesUptoCard : Claim7 := { stood := { row := fnHilbertChangesUptoRow, standIns := [], harness := (true, "afc126b43ede9aed611e86688463cad82e539be14b75595fd988ae4075cb65c5"), looks := false }, kinds := [], alts := [], laidByText := true, laidKinds := [.data], laidTests := true, laidLooks := .later }
def FnHilbertChangesUptoCardSaid : Prop := Claim7.holds Tryz.pinned (.plain (OpenSpec.upto fnHilbertChangesSpec)) fnHilbertChangesUptoCard
end Rows
end Go.Proofs.YtbccmdfdclomiaaGreatDoor
