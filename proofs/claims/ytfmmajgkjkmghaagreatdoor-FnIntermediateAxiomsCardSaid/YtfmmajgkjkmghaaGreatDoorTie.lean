/-
  DERIVED. GIVEN WITH THE SEED: THE PROGRAM's TIES (one call each: nine closed facts by the kernel) AND EACH ROW's TIE, after the 31st guide's Derived/Test/Toyas{Tie, Card}.lean. No idea stands in it: it is a product of the set-up. Laid BY PROGRAM, IN A SANDBOX (cutbox-door.mjs). By AI agents, Wed Nov 11 2026. No macro, syntax, notation, axiom, sorry.
-/
import Derived.Test.YtfmmajgkjkmghaaGreatDoorRows
import Derived.LaidByTextLater
import Derived.SevenTiedAt
import Derived.LaidSub
import Derived.LaidOnce
namespace Go.Proofs.YtfmmajgkjkmghaaGreatDoor
open Go
set_option maxRecDepth 100000
theorem seatTie1 : Tryz.prog.laidByTextLater [("loop.example/g01089/impl.intermediateNames", Rows.laid_loop_example_g01089_impl_intermediateNames), ("loop.example/g01089/impl.intermediateAxioms", Rows.laid_loop_example_g01089_impl_intermediateAxioms)] [.data, .data] true :=
  Program.laidByTextLater_by_one 19 8 10 (by kernel_rfl) (by kernel_rfl) (by kernel_rfl) (by kernel_rfl) (by kernel_rfl) (by kernel_rfl) (fun _ _ => by kernel_rfl)
theorem noOwnUnsafe : Tryz.pinned.checked.prog.headLifts.contains "ownunsafe" = false := by kernel_rfl
theorem tie : Tryz.prog.laidByTextLater [("loop.example/g01089/impl.intermediateNames", Rows.laid_loop_example_g01089_impl_intermediateNames), ("loop.example/g01089/impl.intermediateAxioms", Rows.laid_loop_example_g01089_impl_intermediateAxioms)] [.data, .data] true :=
  Program.laidByTextLater.sub seatTie1 ["loop.example/g01089/impl.intermediateNames", "loop.example/g01089/impl.intermediateAxioms"] (by kernel_rfl) (by kernel_rfl)
theorem fnIntermediateAxioms_row_tie : Rows.fnIntermediateAxiomsRow.laidByTextAt .later Tryz.pinned [.data, .data] true :=
  OpenClaim.laidByTextAt_later rfl rfl tie noOwnUnsafe
theorem fnIntermediateAxiomsUpto_row_tie : Rows.fnIntermediateAxiomsUptoRow.laidByTextAt .later Tryz.pinned [.data, .data] true :=
  OpenClaim.laidByTextAt_later rfl rfl tie noOwnUnsafe
end Go.Proofs.YtfmmajgkjkmghaaGreatDoor
