/-
  NARROWER THAN 'FOR EVERY INPUT', by the rows' own cells (each row's printed sentence says how): FnHilbertSound: laid · FnHilbertChanges: laid.
  DERIVED. THE GIVEN ROWS OF THIS SEAT. 2 by the template 'for every input the law returns true; each argument reads behind the call as it read before'; 0 by the template 'total and deterministic' (their statements: YtbccmdfdclomiaaGreatDoorTotals.lean).
  GIVEN WITH THE SEED: the statements are not yours to turn. If you find one false, say at which input.
  Laid BY PROGRAM, IN A SANDBOX (cutbox-rows.mjs): the forced cells as the released guide's own fill.sh prints them over the translation ec9a428e01d3ae4d… (all of the seat's roots in one cut). By AI agents, Wed Nov 11 2026. No macro, syntax, notation, axiom, sorry.
-/
import Derived.Test.YtbccmdfdclomiaaGreatDoorChecked
import GoSem.Claim
import GoSem.ClaimJoined
import GoSem.ClaimMapViews
import Derived.JoinedTies
import Derived.KernelRfl
namespace Go.Proofs.YtbccmdfdclomiaaGreatDoor
/- THE CELL 'sum', in the pinned program and in every row, IS THE sha256 OF THE DUMP (.gsa) THAT YtbccmdfdclomiaaGreatDoorProg.lean LOADS. Nothing in Lean hashes anything: it is a label: what it is worth is what the hold of that sum in a sandbox is worth. -/
noncomputable def Tryz.pinned : Pinned := { name := "ytbccmdfdclomiaagreatdoor", sum := "ec9a428e01d3ae4ddee0ebbf8432996909829c3c7e44472576e357f83cb4123a", checked := Tryz.checked }
namespace Rows
def none {H : Type} : Left H := { results := [], args := [] }

/- WHAT THE LISTED PACKAGE-LEVEL VARIABLES READ AS WHEN THE CALL BEGINS. Each datum BY PROGRAM (the guide's laid-datum.mjs) off the statement by which the dump's own 'gosem.cut.vars' lays the variable. In a bare row this is a premise. The card (YtbccmdfdclomiaaGreatDoorCards.lean) ties it to the program's text. -/
def laid_loop_example_g01089_impl_schemeTexts {H : Type} : DataW H := .agg [.lit (.string [112, 62, 113, 62, 112]), .lit (.string [40, 112, 62, 113, 62, 114, 41, 62, 40, 112, 62, 113, 41, 62, 112, 62, 114]), .lit (.string [112, 38, 113, 62, 112]), .lit (.string [112, 38, 113, 62, 113]), .lit (.string [112, 62, 113, 62, 112, 38, 113]), .lit (.string [112, 62, 112, 124, 113]), .lit (.string [113, 62, 112, 124, 113]), .lit (.string [40, 112, 62, 114, 41, 62, 40, 113, 62, 114, 41, 62, 112, 124, 113, 62, 114]), .lit (.string [70, 62, 112]), .lit (.string [126, 126, 112, 62, 112]), .lit (.string [91, 93, 40, 112, 62, 113, 41, 62, 91, 93, 112, 62, 91, 93, 113]), .lit (.string [60, 62, 112, 62, 126, 91, 93, 126, 112]), .lit (.string [126, 91, 93, 126, 112, 62, 60, 62, 112]), .lit (.string [91, 93, 112, 62, 112]), .lit (.string [91, 93, 112, 62, 91, 93, 91, 93, 112]), .lit (.string [60, 62, 112, 62, 91, 93, 60, 62, 112]), .lit (.string [112, 62, 91, 93, 60, 62, 112]), .lit (.string [91, 93, 112, 62, 60, 62, 112]), .lit (.string [91, 93, 40, 91, 93, 112, 62, 112, 41, 62, 91, 93, 112])]

/-- 'laws.FnHilbertSound': WHATEVER THE INPUT: true; the input reads as it did. -/
def fnHilbertSoundSpec : ChangeSpec := { name := "fnHilbertSound", vars := ["loop.example/g01089/impl.schemeTexts"], fn := fun _ => fun
  | [d, g1] => { results := [.lit (.bool true)], args := [d], vars := [g1] }
  | _ => none }
def fnHilbertSoundRow : OpenClaim := { program := "ytbccmdfdclomiaagreatdoor", sum := "ec9a428e01d3ae4ddee0ebbf8432996909829c3c7e44472576e357f83cb4123a", func := "loop.example/g01089/laws.FnHilbertSound", spec := "fnHilbertSound", unfollowed := true, recurses := true, named := ["loop.example/g01089/impl.schemeTexts"], apart := false, laid := [("loop.example/g01089/impl.schemeTexts", laid_loop_example_g01089_impl_schemeTexts)] }
def FnHilbertSoundSaid : Prop := fnHilbertSoundRow.holds Tryz.pinned (OpenSpec.ofChange fnHilbertSoundSpec)

/-- ITS FALSE NEIGHBOUR: 'it returns false'. Refute it at one input. -/
def fnHilbertSoundWrong : ChangeSpec := { name := "fnHilbertSound", vars := ["loop.example/g01089/impl.schemeTexts"], fn := fun _ => fun
  | [d, g1] => { results := [.lit (.bool false)], args := [d], vars := [g1] }
  | _ => none }
def FnHilbertSoundWrongFalsely : Prop := fnHilbertSoundRow.holds Tryz.pinned (OpenSpec.ofChange fnHilbertSoundWrong)

/-- 'laws.FnHilbertChanges': WHATEVER THE INPUT: true; the input reads as it did. -/
def fnHilbertChangesSpec : ChangeSpec := { name := "fnHilbertChanges", vars := ["loop.example/g01089/impl.schemeTexts"], fn := fun _ => fun
  | [d, g1] => { results := [.lit (.bool true)], args := [d], vars := [g1] }
  | _ => none }
def fnHilbertChangesRow : OpenClaim := { program := "ytbccmdfdclomiaagreatdoor", sum := "ec9a428e01d3ae4ddee0ebbf8432996909829c3c7e44472576e357f83cb4123a", func := "loop.example/g01089/laws.FnHilbertChanges", spec := "fnHilbertChanges", unfollowed := true, recurses := true, named := ["loop.example/g01089/impl.schemeTexts"], apart := false, laid := [("loop.example/g01089/impl.schemeTexts", laid_loop_example_g01089_impl_schemeTexts)] }
def FnHilbertChangesSaid : Prop := fnHilbertChangesRow.holds Tryz.pinned (OpenSpec.ofChange fnHilbertChangesSpec)

/-- ITS FALSE NEIGHBOUR: 'it returns false'. Refute it at one input. -/
def fnHilbertChangesWrong : ChangeSpec := { name := "fnHilbertChanges", vars := ["loop.example/g01089/impl.schemeTexts"], fn := fun _ => fun
  | [d, g1] => { results := [.lit (.bool false)], args := [d], vars := [g1] }
  | _ => none }
def FnHilbertChangesWrongFalsely : Prop := fnHilbertChangesRow.holds Tryz.pinned (OpenSpec.ofChange fnHilbertChangesWrong)

/- THE SECOND FORM. 'bulk': how many values and letters a reading holds, each counted each time it is reached (what is shared counts as often as it is met; a slice's spare places count too). A statement '..UptoSaid' is the law's where the arguments, and the package variables that the reading takes, are together of bulk at most 1048576: NARROWER than '..Said'. Prove '..Said' where nothing that the law and all that it calls make is longer than what came in: it says more and counts as full. Else prove '..UptoSaid'. A law counts once. -/
mutual
def uptoBulk {H : Type} : DataW H → Nat
  | .lit (.string bytes) => bytes.length + 1
  | .lit _ => 1
  | .nil => 1
  | .ptr d => uptoBulk d + 1
  | .slice elems spare => uptoBulkAll elems + uptoBulkAll spare + 1
  | .agg parts => uptoBulkAll parts + 1
  | .iface _ d => uptoBulk d + 1
  | .map entries => uptoBulkEntries entries + 1
  | .held _ => 1
def uptoBulkAll {H : Type} : List (DataW H) → Nat
  | [] => 0
  | d :: r => uptoBulk d + uptoBulkAll r
def uptoBulkEntries {H : Type} : List (Lit × DataW H) → Nat
  | [] => 0
  | x :: r => uptoBulkEntry x + uptoBulkEntries r
def uptoBulkEntry {H : Type} : Lit × DataW H → Nat
  | (.string bytes, d) => bytes.length + uptoBulk d + 1
  | (_, d) => uptoBulk d + 1
 end
def uptoSmall : (H : Type) → List (DataW H) → Bool := fun _ ds => decide (uptoBulkAll ds ≤ 1048576)
def OpenSpec.upto (s : _root_.Go.ChangeSpec) : _root_.Go.OpenSpec := { _root_.Go.OpenSpec.ofChange s with cond := some uptoSmall }

/-- 'laws.FnHilbertSound', WHERE WHAT IT READS IS OF BULK AT MOST 1048576: true; the input reads as it did. -/
def fnHilbertSoundUptoRow : OpenClaim := { program := "ytbccmdfdclomiaagreatdoor", sum := "ec9a428e01d3ae4ddee0ebbf8432996909829c3c7e44472576e357f83cb4123a", func := "loop.example/g01089/laws.FnHilbertSound", spec := "fnHilbertSound", unfollowed := true, recurses := true, named := ["loop.example/g01089/impl.schemeTexts"], apart := false, laid := [("loop.example/g01089/impl.schemeTexts", laid_loop_example_g01089_impl_schemeTexts)], narrowed := true }
def FnHilbertSoundUptoSaid : Prop := fnHilbertSoundUptoRow.holds Tryz.pinned (OpenSpec.upto fnHilbertSoundSpec)

/-- 'laws.FnHilbertChanges', WHERE WHAT IT READS IS OF BULK AT MOST 1048576: true; the input reads as it did. -/
def fnHilbertChangesUptoRow : OpenClaim := { program := "ytbccmdfdclomiaagreatdoor", sum := "ec9a428e01d3ae4ddee0ebbf8432996909829c3c7e44472576e357f83cb4123a", func := "loop.example/g01089/laws.FnHilbertChanges", spec := "fnHilbertChanges", unfollowed := true, recurses := true, named := ["loop.example/g01089/impl.schemeTexts"], apart := false, laid := [("loop.example/g01089/impl.schemeTexts", laid_loop_example_g01089_impl_schemeTexts)], narrowed := true }
def FnHilbertChangesUptoSaid : Prop := fnHilbertChangesUptoRow.holds Tryz.pinned (OpenSpec.upto fnHilbertChangesSpec)

end Rows
end Go.Proofs.YtbccmdfdclomiaaGreatDoor
