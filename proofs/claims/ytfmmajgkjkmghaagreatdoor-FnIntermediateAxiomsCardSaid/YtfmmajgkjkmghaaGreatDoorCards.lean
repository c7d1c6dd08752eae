/-
  DERIVED. GIVEN WITH THE SEED: THE CARDS: each row of YtfmmajgkjkmghaaGreatDoorRows.lean that lists a variable, with what it lists TIED to the program's text (the seventh form; the later family's looks); each row that meets fmt, with fmt's text TOLD by the authors' own Lean function (tested against real Go, not proved from fmt's source: count such statements apart). THE CARD IS WHAT COUNTS. Prove the row's statement (the work); the ties are given (YtfmmajgkjkmghaaGreatDoorTie.lean); close each card by the builder's one call (the guide's Derived/Test/ToyasCard.lean, 'card_holds'). Laid BY PROGRAM, IN A SANDBOX (cutbox-door.mjs). By AI agents, Wed Nov 11 2026. No macro, syntax, notation, axiom, sorry.
-/
import Derived.Test.YtfmmajgkjkmghaaGreatDoorRows
import GoSem.ClaimSeven
namespace Go.Proofs.YtfmmajgkjkmghaaGreatDoor
namespace Rows

/-- THE TIED CARD OF 'laws.FnIntermediateAxioms'. -/
def fnIntermediateAxiomsCard : Claim7 := { stood := { row := fnIntermediateAxiomsRow, standIns := [], harness := (true, "2c32e52bb8d2e9d3733fa9f4496972b3b4e3a86e1e39849d232264263144e5b6"), looks := false }, kinds := [], alts := [], laidByText := true, laidKinds := [.data, .data], laidTests := true, laidLooks := .later }
def FnIntermediateAxiomsCardSaid : Prop := Claim7.holds Tryz.pinned (.plain (OpenSpec.ofChange fnIntermediateAxiomsSpec)) fnIntermediateAxiomsCard

/-- THE SECOND FORM's CARD OF 'laws.FnIntermediateAxioms'. -/
def fnIntermediateAxiomsUptoCard : Claim7 := { stood := { row := fnIntermediateAxiomsUptoRow, standIns := [], harness := (true, "2c32e52bb8d2e9d3733fa9f4496972b3b4e3a86e1e39849d232264263144e5b6"), looks := false }, kinds := [], alts := [], laidByText := true, laidKinds := [.data, .data], laidTests := true, laidLooks := .later }
def FnIntermediateAxiomsUptoCardSaid : Prop := Claim7.holds Tryz.pinned (.plain (OpenSpec.upto fnIntermediateAxiomsSpec)) fnIntermediateAxiomsUptoCard
end Rows
end Go.Proofs.YtfmmajgkjkmghaaGreatDoor
