/-
  No cell of these rows narrows 'for every input' (looked for: loops, veiled, ifaces, maps, wideKeys, modest, calm, conditions, laid).
  DERIVED. THE GIVEN ROWS OF THIS SEAT. 6 by the template 'for every input the law returns true; each argument reads behind the call as it read before'; 0 by the template 'total and deterministic' (their statements: YtgnehffglhbggaaGreatTotals.lean).
  GIVEN WITH THE SEED: the statements are not yours to turn. If you find one false, say at which input.
  Laid BY PROGRAM, IN A SANDBOX (cutbox-rows.mjs): the forced cells as the released guide's own fill.sh prints them over the translation 31c6bd7c12ae66bc… (all of the seat's roots in one cut). By AI agents, Wed Nov 11 2026. No macro, syntax, notation, axiom, sorry.
-/
import Derived.Test.YtgnehffglhbggaaGreatChecked
import GoSem.Claim
import GoSem.ClaimJoined
import GoSem.ClaimMapViews
import Derived.JoinedTies
import Derived.KernelRfl
namespace Go.Proofs.YtgnehffglhbggaaGreat
/- THE CELL 'sum', in the pinned program and in every row, IS THE sha256 OF THE DUMP (.gsa) THAT YtgnehffglhbggaaGreatProg.lean LOADS. Nothing in Lean hashes anything: it is a label: what it is worth is what the hold of that sum in a sandbox is worth. -/
noncomputable def Tryz.pinned : Pinned := { name := "ytgnehffglhbggaagreat", sum := "31c6bd7c12ae66bc64416cfb918c4ca115c73fab54b7e31522bcc753d5dd5848", checked := Tryz.checked }
namespace Rows
def none {H : Type} : Left H := { results := [], args := [] }

/-- 'laws.FnExactSurvivingTypes': WHATEVER THE INPUT: true; the input reads as it did. -/
def fnExactSurvivingTypesSpec : ChangeSpec := { name := "fnExactSurvivingTypes", fn := fun _ => fun
  | [d1, d2] => { results := [.lit (.bool true)], args := [d1, d2] }
  | _ => none }
def fnExactSurvivingTypesRow : OpenClaim := { program := "ytgnehffglhbggaagreat", sum := "31c6bd7c12ae66bc64416cfb918c4ca115c73fab54b7e31522bcc753d5dd5848", func := "loop.example/g01089/laws.FnExactSurvivingTypes", spec := "fnExactSurvivingTypes", unfollowed := true, recurses := true, apart := false }
def FnExactSurvivingTypesSaid : Prop := fnExactSurvivingTypesRow.holds Tryz.pinned (OpenSpec.ofChange fnExactSurvivingTypesSpec)

/-- ITS FALSE NEIGHBOUR: 'it returns false'. Refute it at one input. -/
def fnExactSurvivingTypesWrong : ChangeSpec := { name := "fnExactSurvivingTypes", fn := fun _ => fun
  | [d1, d2] => { results := [.lit (.bool false)], args := [d1, d2] }
  | _ => none }
def FnExactSurvivingTypesWrongFalsely : Prop := fnExactSurvivingTypesRow.holds Tryz.pinned (OpenSpec.ofChange fnExactSurvivingTypesWrong)

/-- 'laws.FnExactIsModalTheorem': WHATEVER THE INPUT: true; the input reads as it did. -/
def fnExactIsModalTheoremSpec : ChangeSpec := { name := "fnExactIsModalTheorem", fn := fun _ => fun
  | [d1, d2] => { results := [.lit (.bool true)], args := [d1, d2] }
  | _ => none }
def fnExactIsModalTheoremRow : OpenClaim := { program := "ytgnehffglhbggaagreat", sum := "31c6bd7c12ae66bc64416cfb918c4ca115c73fab54b7e31522bcc753d5dd5848", func := "loop.example/g01089/laws.FnExactIsModalTheorem", spec := "fnExactIsModalTheorem", unfollowed := true, recurses := true, apart := false }
def FnExactIsModalTheoremSaid : Prop := fnExactIsModalTheoremRow.holds Tryz.pinned (OpenSpec.ofChange fnExactIsModalTheoremSpec)

/-- ITS FALSE NEIGHBOUR: 'it returns false'. Refute it at one input. -/
def fnExactIsModalTheoremWrong : ChangeSpec := { name := "fnExactIsModalTheorem", fn := fun _ => fun
  | [d1, d2] => { results := [.lit (.bool false)], args := [d1, d2] }
  | _ => none }
def FnExactIsModalTheoremWrongFalsely : Prop := fnExactIsModalTheoremRow.holds Tryz.pinned (OpenSpec.ofChange fnExactIsModalTheoremWrong)

/-- 'laws.FnExactLogicsOf': WHATEVER THE INPUT: true; the input reads as it did. -/
def fnExactLogicsOfSpec : ChangeSpec := { name := "fnExactLogicsOf", fn := fun _ => fun
  | [d] => { results := [.lit (.bool true)], args := [d] }
  | _ => none }
def fnExactLogicsOfRow : OpenClaim := { program := "ytgnehffglhbggaagreat", sum := "31c6bd7c12ae66bc64416cfb918c4ca115c73fab54b7e31522bcc753d5dd5848", func := "loop.example/g01089/laws.FnExactLogicsOf", spec := "fnExactLogicsOf", unfollowed := true, recurses := true, apart := false }
def FnExactLogicsOfSaid : Prop := fnExactLogicsOfRow.holds Tryz.pinned (OpenSpec.ofChange fnExactLogicsOfSpec)

/-- ITS FALSE NEIGHBOUR: 'it returns false'. Refute it at one input. -/
def fnExactLogicsOfWrong : ChangeSpec := { name := "fnExactLogicsOf", fn := fun _ => fun
  | [d] => { results := [.lit (.bool false)], args := [d] }
  | _ => none }
def FnExactLogicsOfWrongFalsely : Prop := fnExactLogicsOfRow.holds Tryz.pinned (OpenSpec.ofChange fnExactLogicsOfWrong)

/-- 'laws.FnExactAreModallyEquivalent': WHATEVER THE INPUT: true; the input reads as it did. -/
def fnExactAreModallyEquivalentSpec : ChangeSpec := { name := "fnExactAreModallyEquivalent", fn := fun _ => fun
  | [d1, d2, d3] => { results := [.lit (.bool true)], args := [d1, d2, d3] }
  | _ => none }
def fnExactAreModallyEquivalentRow : OpenClaim := { program := "ytgnehffglhbggaagreat", sum := "31c6bd7c12ae66bc64416cfb918c4ca115c73fab54b7e31522bcc753d5dd5848", func := "loop.example/g01089/laws.FnExactAreModallyEquivalent", spec := "fnExactAreModallyEquivalent", unfollowed := true, recurses := true, apart := false }
def FnExactAreModallyEquivalentSaid : Prop := fnExactAreModallyEquivalentRow.holds Tryz.pinned (OpenSpec.ofChange fnExactAreModallyEquivalentSpec)

/-- ITS FALSE NEIGHBOUR: 'it returns false'. Refute it at one input. -/
def fnExactAreModallyEquivalentWrong : ChangeSpec := { name := "fnExactAreModallyEquivalent", fn := fun _ => fun
  | [d1, d2, d3] => { results := [.lit (.bool false)], args := [d1, d2, d3] }
  | _ => none }
def FnExactAreModallyEquivalentWrongFalsely : Prop := fnExactAreModallyEquivalentRow.holds Tryz.pinned (OpenSpec.ofChange fnExactAreModallyEquivalentWrong)

/-- 'laws.FnElementaryTypes': WHATEVER THE INPUT: true; the input reads as it did. -/
def fnElementaryTypesSpec : ChangeSpec := { name := "fnElementaryTypes", fn := fun _ => fun
  | [d] => { results := [.lit (.bool true)], args := [d] }
  | _ => none }
def fnElementaryTypesRow : OpenClaim := { program := "ytgnehffglhbggaagreat", sum := "31c6bd7c12ae66bc64416cfb918c4ca115c73fab54b7e31522bcc753d5dd5848", func := "loop.example/g01089/laws.FnElementaryTypes", spec := "fnElementaryTypes", unfollowed := true, recurses := true, apart := false }
def FnElementaryTypesSaid : Prop := fnElementaryTypesRow.holds Tryz.pinned (OpenSpec.ofChange fnElementaryTypesSpec)

/-- ITS FALSE NEIGHBOUR: 'it returns false'. Refute it at one input. -/
def fnElementaryTypesWrong : ChangeSpec := { name := "fnElementaryTypes", fn := fun _ => fun
  | [d] => { results := [.lit (.bool false)], args := [d] }
  | _ => none }
def FnElementaryTypesWrongFalsely : Prop := fnElementaryTypesRow.holds Tryz.pinned (OpenSpec.ofChange fnElementaryTypesWrong)

/-- 'laws.FnLogicsInOrder': WHATEVER THE INPUT: true; the input reads as it did. -/
def fnLogicsInOrderSpec : ChangeSpec := { name := "fnLogicsInOrder", fn := fun _ => fun
  | [d] => { results := [.lit (.bool true)], args := [d] }
  | _ => none }
def fnLogicsInOrderRow : OpenClaim := { program := "ytgnehffglhbggaagreat", sum := "31c6bd7c12ae66bc64416cfb918c4ca115c73fab54b7e31522bcc753d5dd5848", func := "loop.example/g01089/laws.FnLogicsInOrder", spec := "fnLogicsInOrder", unfollowed := true, recurses := true, apart := false }
def FnLogicsInOrderSaid : Prop := fnLogicsInOrderRow.holds Tryz.pinned (OpenSpec.ofChange fnLogicsInOrderSpec)

/-- ITS FALSE NEIGHBOUR: 'it returns false'. Refute it at one input. -/
def fnLogicsInOrderWrong : ChangeSpec := { name := "fnLogicsInOrder", fn := fun _ => fun
  | [d] => { results := [.lit (.bool false)], args := [d] }
  | _ => none }
def FnLogicsInOrderWrongFalsely : Prop := fnLogicsInOrderRow.holds Tryz.pinned (OpenSpec.ofChange fnLogicsInOrderWrong)

/- THE SECOND FORM. 'bulk': how many values and letters a reading holds, each counted each time it is reached (what is shared counts as often as it is met; a slice's spare places count too). A statement '..UptoSaid' is the law's where the arguments, and the package variables that the reading takes, are together of bulk at most 1048576: NARROWER than '..Said'. Prove '..Said' where nothing that the law and all that it calls make is longer than what came in: it says more and counts as full. Else prove '..UptoSaid'. A law counts once. -/
mutual
def uptoBulk {H : Type} : DataW H → Nat
  | .lit (.string bytes) => bytes.length + 1
  | .lit _ => 1
  | .nil => 1
  | .ptr d => uptoBulk d + 1
  | .slice elems spare => uptoBulkAll elems + uptoBulkAll spare + 1
  | .agg parts => uptoBulkAll parts + 1
  | .iface _ d => uptoBulk d + 1
  | .map entries => uptoBulkEntries entries + 1
  | .held _ => 1
def uptoBulkAll {H : Type} : List (DataW H) → Nat
  | [] => 0
  | d :: r => uptoBulk d + uptoBulkAll r
def uptoBulkEntries {H : Type} : List (Lit × DataW H) → Nat
  | [] => 0
  | x :: r => uptoBulkEntry x + uptoBulkEntries r
def uptoBulkEntry {H : Type} : Lit × DataW H → Nat
  | (.string bytes, d) => bytes.length + uptoBulk d + 1
  | (_, d) => uptoBulk d + 1
 end
def uptoSmall : (H : Type) → List (DataW H) → Bool := fun _ ds => decide (uptoBulkAll ds ≤ 1048576)
def OpenSpec.upto (s : _root_.Go.ChangeSpec) : _root_.Go.OpenSpec := { _root_.Go.OpenSpec.ofChange s with cond := some uptoSmall }

/-- 'laws.FnExactSurvivingTypes', WHERE WHAT IT READS IS OF BULK AT MOST 1048576: true; the input reads as it did. -/
def fnExactSurvivingTypesUptoRow : OpenClaim := { program := "ytgnehffglhbggaagreat", sum := "31c6bd7c12ae66bc64416cfb918c4ca115c73fab54b7e31522bcc753d5dd5848", func := "loop.example/g01089/laws.FnExactSurvivingTypes", spec := "fnExactSurvivingTypes", unfollowed := true, recurses := true, apart := false, narrowed := true }
def FnExactSurvivingTypesUptoSaid : Prop := fnExactSurvivingTypesUptoRow.holds Tryz.pinned (OpenSpec.upto fnExactSurvivingTypesSpec)

/-- 'laws.FnExactIsModalTheorem', WHERE WHAT IT READS IS OF BULK AT MOST 1048576: true; the input reads as it did. -/
def fnExactIsModalTheoremUptoRow : OpenClaim := { program := "ytgnehffglhbggaagreat", sum := "31c6bd7c12ae66bc64416cfb918c4ca115c73fab54b7e31522bcc753d5dd5848", func := "loop.example/g01089/laws.FnExactIsModalTheorem", spec := "fnExactIsModalTheorem", unfollowed := true, recurses := true, apart := false, narrowed := true }
def FnExactIsModalTheoremUptoSaid : Prop := fnExactIsModalTheoremUptoRow.holds Tryz.pinned (OpenSpec.upto fnExactIsModalTheoremSpec)

/-- 'laws.FnExactLogicsOf', WHERE WHAT IT READS IS OF BULK AT MOST 1048576: true; the input reads as it did. -/
def fnExactLogicsOfUptoRow : OpenClaim := { program := "ytgnehffglhbggaagreat", sum := "31c6bd7c12ae66bc64416cfb918c4ca115c73fab54b7e31522bcc753d5dd5848", func := "loop.example/g01089/laws.FnExactLogicsOf", spec := "fnExactLogicsOf", unfollowed := true, recurses := true, apart := false, narrowed := true }
def FnExactLogicsOfUptoSaid : Prop := fnExactLogicsOfUptoRow.holds Tryz.pinned (OpenSpec.upto fnExactLogicsOfSpec)

/-- 'laws.FnExactAreModallyEquivalent', WHERE WHAT IT READS IS OF BULK AT MOST 1048576: true; the input reads as it did. -/
def fnExactAreModallyEquivalentUptoRow : OpenClaim := { program := "ytgnehffglhbggaagreat", sum := "31c6bd7c12ae66bc64416cfb918c4ca115c73fab54b7e31522bcc753d5dd5848", func := "loop.example/g01089/laws.FnExactAreModallyEquivalent", spec := "fnExactAreModallyEquivalent", unfollowed := true, recurses := true, apart := false, narrowed := true }
def FnExactAreModallyEquivalentUptoSaid : Prop := fnExactAreModallyEquivalentUptoRow.holds Tryz.pinned (OpenSpec.upto fnExactAreModallyEquivalentSpec)

/-- 'laws.FnElementaryTypes', WHERE WHAT IT READS IS OF BULK AT MOST 1048576: true; the input reads as it did. -/
def fnElementaryTypesUptoRow : OpenClaim := { program := "ytgnehffglhbggaagreat", sum := "31c6bd7c12ae66bc64416cfb918c4ca115c73fab54b7e31522bcc753d5dd5848", func := "loop.example/g01089/laws.FnElementaryTypes", spec := "fnElementaryTypes", unfollowed := true, recurses := true, apart := false, narrowed := true }
def FnElementaryTypesUptoSaid : Prop := fnElementaryTypesUptoRow.holds Tryz.pinned (OpenSpec.upto fnElementaryTypesSpec)

/-- 'laws.FnLogicsInOrder', WHERE WHAT IT READS IS OF BULK AT MOST 1048576: true; the input reads as it did. -/
def fnLogicsInOrderUptoRow : OpenClaim := { program := "ytgnehffglhbggaagreat", sum := "31c6bd7c12ae66bc64416cfb918c4ca115c73fab54b7e31522bcc753d5dd5848", func := "loop.example/g01089/laws.FnLogicsInOrder", spec := "fnLogicsInOrder", unfollowed := true, recurses := true, apart := false, narrowed := true }
def FnLogicsInOrderUptoSaid : Prop := fnLogicsInOrderUptoRow.holds Tryz.pinned (OpenSpec.upto fnLogicsInOrderSpec)

end Rows
end Go.Proofs.YtgnehffglhbggaaGreat
