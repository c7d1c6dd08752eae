/-
  NARROWER THAN 'FOR EVERY INPUT', by the rows' own cells (each row's printed sentence says how): FnExactIsPosetOf: laid · FnExactLogicsOfPoset: laid.
  DERIVED. THE GIVEN ROWS OF THIS SEAT. 2 by the template 'for every input the law returns true; each argument reads behind the call as it read before'; 0 by the template 'total and deterministic' (their statements: YtpbjeoigpbnekaaDoorTotals.lean).
  GIVEN WITH THE SEED: the statements are not yours to turn. If you find one false, say at which input.
  Laid BY PROGRAM, IN A SANDBOX (cutbox-rows.mjs): the forced cells as the released guide's own fill.sh prints them over the translation 5972e5dca242cbf1… (all of the seat's roots in one cut). By AI agents, Wed Nov 11 2026. No macro, syntax, notation, axiom, sorry.
-/
import Derived.Test.YtpbjeoigpbnekaaDoorChecked
import GoSem.Claim
import GoSem.ClaimJoined
import GoSem.ClaimMapViews
import Derived.JoinedTies
import Derived.KernelRfl
namespace Go.Proofs.YtpbjeoigpbnekaaDoor
/- THE CELL 'sum', in the pinned program and in every row, IS THE sha256 OF THE DUMP (.gsa) THAT YtpbjeoigpbnekaaDoorProg.lean LOADS. Nothing in Lean hashes anything: it is a label: what it is worth is what the hold of that sum in a sandbox is worth. -/
noncomputable def Tryd.pinned : Pinned := { name := "ytpbjeoigpbnekaadoor", sum := "5972e5dca242cbf1a073a965d934fcd2426795e6172c3e343009f24c01d39944", checked := Tryd.checked }
namespace Rows
def none {H : Type} : Left H := { results := [], args := [] }

/- WHAT THE LISTED PACKAGE-LEVEL VARIABLES READ AS WHEN THE CALL BEGINS. Each datum BY PROGRAM (the guide's laid-datum.mjs) off the statement by which the dump's own 'gosem.cut.vars' lays the variable. In a bare row this is a premise. The card (YtpbjeoigpbnekaaDoorCards.lean) ties it to the program's text. -/
def laid_loop_example_g01089_impl_intermediateNames {H : Type} : DataW H := .agg [.lit (.string [66, 68, 50]), .lit (.string [66, 68, 51]), .lit (.string [66, 87, 50]), .lit (.string [66, 87, 51]), .lit (.string [67, 76]), .lit (.string [73, 110, 116]), .lit (.string [75, 67]), .lit (.string [76, 67]), .lit (.string [83, 109, 76])]

/-- 'laws.FnExactIsPosetOf': WHATEVER THE INPUT: true; the input reads as it did. -/
def fnExactIsPosetOfSpec : ChangeSpec := { name := "fnExactIsPosetOf", vars := ["loop.example/g01089/impl.intermediateNames"], fn := fun _ => fun
  | [d1, d2, g1] => { results := [.lit (.bool true)], args := [d1, d2], vars := [g1] }
  | _ => none }
def fnExactIsPosetOfRow : OpenClaim := { program := "ytpbjeoigpbnekaadoor", sum := "5972e5dca242cbf1a073a965d934fcd2426795e6172c3e343009f24c01d39944", func := "loop.example/g01089/laws.FnExactIsPosetOf", spec := "fnExactIsPosetOf", unfollowed := true, recurses := true, named := ["loop.example/g01089/impl.intermediateNames"], apart := false, laid := [("loop.example/g01089/impl.intermediateNames", laid_loop_example_g01089_impl_intermediateNames)] }
def FnExactIsPosetOfSaid : Prop := fnExactIsPosetOfRow.holds Tryd.pinned (OpenSpec.ofChange fnExactIsPosetOfSpec)

/-- ITS FALSE NEIGHBOUR: 'it returns false'. Refute it at one input. -/
def fnExactIsPosetOfWrong : ChangeSpec := { name := "fnExactIsPosetOf", vars := ["loop.example/g01089/impl.intermediateNames"], fn := fun _ => fun
  | [d1, d2, g1] => { results := [.lit (.bool false)], args := [d1, d2], vars := [g1] }
  | _ => none }
def FnExactIsPosetOfWrongFalsely : Prop := fnExactIsPosetOfRow.holds Tryd.pinned (OpenSpec.ofChange fnExactIsPosetOfWrong)

/-- 'laws.FnExactLogicsOfPoset': WHATEVER THE INPUT: true; the input reads as it did. -/
def fnExactLogicsOfPosetSpec : ChangeSpec := { name := "fnExactLogicsOfPoset", vars := ["loop.example/g01089/impl.intermediateNames"], fn := fun _ => fun
  | [d, g1] => { results := [.lit (.bool true)], args := [d], vars := [g1] }
  | _ => none }
def fnExactLogicsOfPosetRow : OpenClaim := { program := "ytpbjeoigpbnekaadoor", sum := "5972e5dca242cbf1a073a965d934fcd2426795e6172c3e343009f24c01d39944", func := "loop.example/g01089/laws.FnExactLogicsOfPoset", spec := "fnExactLogicsOfPoset", unfollowed := true, recurses := true, named := ["loop.example/g01089/impl.intermediateNames"], apart := false, laid := [("loop.example/g01089/impl.intermediateNames", laid_loop_example_g01089_impl_intermediateNames)] }
def FnExactLogicsOfPosetSaid : Prop := fnExactLogicsOfPosetRow.holds Tryd.pinned (OpenSpec.ofChange fnExactLogicsOfPosetSpec)

/-- ITS FALSE NEIGHBOUR: 'it returns false'. Refute it at one input. -/
def fnExactLogicsOfPosetWrong : ChangeSpec := { name := "fnExactLogicsOfPoset", vars := ["loop.example/g01089/impl.intermediateNames"], fn := fun _ => fun
  | [d, g1] => { results := [.lit (.bool false)], args := [d], vars := [g1] }
  | _ => none }
def FnExactLogicsOfPosetWrongFalsely : Prop := fnExactLogicsOfPosetRow.holds Tryd.pinned (OpenSpec.ofChange fnExactLogicsOfPosetWrong)

/- THE SECOND FORM. 'bulk': how many values and letters a reading holds, each counted each time it is reached (what is shared counts as often as it is met; a slice's spare places count too). A statement '..UptoSaid' is the law's where the arguments, and the package variables that the reading takes, are together of bulk at most 1048576: NARROWER than '..Said'. Prove '..Said' where nothing that the law and all that it calls make is longer than what came in: it says more and counts as full. Else prove '..UptoSaid'. A law counts once. -/
mutual
def uptoBulk {H : Type} : DataW H → Nat
  | .lit (.string bytes) => bytes.length + 1
  | .lit _ => 1
  | .nil => 1
  | .ptr d => uptoBulk d + 1
  | .slice elems spare => uptoBulkAll elems + uptoBulkAll spare + 1
  | .agg parts => uptoBulkAll parts + 1
  | .iface _ d => uptoBulk d + 1
  | .map entries => uptoBulkEntries entries + 1
  | .held _ => 1
def uptoBulkAll {H : Type} : List (DataW H) → Nat
  | [] => 0
  | d :: r => uptoBulk d + uptoBulkAll r
def uptoBulkEntries {H : Type} : List (Lit × DataW H) → Nat
  | [] => 0
  | x :: r => uptoBulkEntry x + uptoBulkEntries r
def uptoBulkEntry {H : Type} : Lit × DataW H → Nat
  | (.string bytes, d) => bytes.length + uptoBulk d + 1
  | (_, d) => uptoBulk d + 1
 end
def uptoSmall : (H : Type) → List (DataW H) → Bool := fun _ ds => decide (uptoBulkAll ds ≤ 1048576)
def OpenSpec.upto (s : _root_.Go.ChangeSpec) : _root_.Go.OpenSpec := { _root_.Go.OpenSpec.ofChange s with cond := some uptoSmall }

/-- 'laws.FnExactIsPosetOf', WHERE WHAT IT READS IS OF BULK AT MOST 1048576: true; the input reads as it did. -/
def fnExactIsPosetOfUptoRow : OpenClaim := { program := "ytpbjeoigpbnekaadoor", sum := "5972e5dca242cbf1a073a965d934fcd2426795e6172c3e343009f24c01d39944", func := "loop.example/g01089/laws.FnExactIsPosetOf", spec := "fnExactIsPosetOf", unfollowed := true, recurses := true, named := ["loop.example/g01089/impl.intermediateNames"], apart := false, laid := [("loop.example/g01089/impl.intermediateNames", laid_loop_example_g01089_impl_intermediateNames)], narrowed := true }
def FnExactIsPosetOfUptoSaid : Prop := fnExactIsPosetOfUptoRow.holds Tryd.pinned (OpenSpec.upto fnExactIsPosetOfSpec)

/-- 'laws.FnExactLogicsOfPoset', WHERE WHAT IT READS IS OF BULK AT MOST 1048576: true; the input reads as it did. -/
def fnExactLogicsOfPosetUptoRow : OpenClaim := { program := "ytpbjeoigpbnekaadoor", sum := "5972e5dca242cbf1a073a965d934fcd2426795e6172c3e343009f24c01d39944", func := "loop.example/g01089/laws.FnExactLogicsOfPoset", spec := "fnExactLogicsOfPoset", unfollowed := true, recurses := true, named := ["loop.example/g01089/impl.intermediateNames"], apart := false, laid := [("loop.example/g01089/impl.intermediateNames", laid_loop_example_g01089_impl_intermediateNames)], narrowed := true }
def FnExactLogicsOfPosetUptoSaid : Prop := fnExactLogicsOfPosetUptoRow.holds Tryd.pinned (OpenSpec.upto fnExactLogicsOfPosetSpec)

end Rows
end Go.Proofs.YtpbjeoigpbnekaaDoor
