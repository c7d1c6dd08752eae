/-
  No cell of these rows narrows 'for every input' (looked for: loops, veiled, ifaces, maps, wideKeys, modest, calm, conditions, laid).
  DERIVED. THE GIVEN ROWS OF THIS SEAT. 6 by the template 'for every input the law returns true; each argument reads behind the call as it read before'; 0 by the template 'total and deterministic' (their statements: YtajjlnonmaghlaaGreatTotals.lean).
  GIVEN WITH THE SEED: the statements are not yours to turn. If you find one false, say at which input.
  Laid BY PROGRAM, IN A SANDBOX (cutbox-rows.mjs): the forced cells as the released guide's own fill.sh prints them over the translation 84471cfae27bc53f… (all of the seat's roots in one cut). By AI agents, Wed Nov 11 2026. No macro, syntax, notation, axiom, sorry.
-/
import Derived.Test.YtajjlnonmaghlaaGreatChecked
import GoSem.Claim
import GoSem.ClaimJoined
import GoSem.ClaimMapViews
import Derived.JoinedTies
import Derived.KernelRfl
namespace Go.Proofs.YtajjlnonmaghlaaGreat
/- THE CELL 'sum', in the pinned program and in every row, IS THE sha256 OF THE DUMP (.gsa) THAT YtajjlnonmaghlaaGreatProg.lean LOADS. Nothing in Lean hashes anything: it is a label: what it is worth is what the hold of that sum in a sandbox is worth. -/
noncomputable def Tryz.pinned : Pinned := { name := "ytajjlnonmaghlaagreat", sum := "84471cfae27bc53f873bb6f87422282deafd3848532ebc885d44e80388ffb585", checked := Tryz.checked }
namespace Rows
def none {H : Type} : Left H := { results := [], args := [] }

/-- 'laws.FnExactGlivenkoTheorem': WHATEVER THE INPUT: true; the input reads as it did. -/
def fnExactGlivenkoTheoremSpec : ChangeSpec := { name := "fnExactGlivenkoTheorem", fn := fun _ => fun
  | [d] => { results := [.lit (.bool true)], args := [d] }
  | _ => none }
def fnExactGlivenkoTheoremRow : OpenClaim := { program := "ytajjlnonmaghlaagreat", sum := "84471cfae27bc53f873bb6f87422282deafd3848532ebc885d44e80388ffb585", func := "loop.example/g01089/laws.FnExactGlivenkoTheorem", spec := "fnExactGlivenkoTheorem", unfollowed := true, recurses := true, apart := false }
def FnExactGlivenkoTheoremSaid : Prop := fnExactGlivenkoTheoremRow.holds Tryz.pinned (OpenSpec.ofChange fnExactGlivenkoTheoremSpec)

/-- ITS FALSE NEIGHBOUR: 'it returns false'. Refute it at one input. -/
def fnExactGlivenkoTheoremWrong : ChangeSpec := { name := "fnExactGlivenkoTheorem", fn := fun _ => fun
  | [d] => { results := [.lit (.bool false)], args := [d] }
  | _ => none }
def FnExactGlivenkoTheoremWrongFalsely : Prop := fnExactGlivenkoTheoremRow.holds Tryz.pinned (OpenSpec.ofChange fnExactGlivenkoTheoremWrong)

/-- 'laws.FnExactIsClassicalKind': WHATEVER THE INPUT: true; the input reads as it did. -/
def fnExactIsClassicalKindSpec : ChangeSpec := { name := "fnExactIsClassicalKind", fn := fun _ => fun
  | [d] => { results := [.lit (.bool true)], args := [d] }
  | _ => none }
def fnExactIsClassicalKindRow : OpenClaim := { program := "ytajjlnonmaghlaagreat", sum := "84471cfae27bc53f873bb6f87422282deafd3848532ebc885d44e80388ffb585", func := "loop.example/g01089/laws.FnExactIsClassicalKind", spec := "fnExactIsClassicalKind", unfollowed := true, recurses := true, apart := false }
def FnExactIsClassicalKindSaid : Prop := fnExactIsClassicalKindRow.holds Tryz.pinned (OpenSpec.ofChange fnExactIsClassicalKindSpec)

/-- ITS FALSE NEIGHBOUR: 'it returns false'. Refute it at one input. -/
def fnExactIsClassicalKindWrong : ChangeSpec := { name := "fnExactIsClassicalKind", fn := fun _ => fun
  | [d] => { results := [.lit (.bool false)], args := [d] }
  | _ => none }
def FnExactIsClassicalKindWrongFalsely : Prop := fnExactIsClassicalKindRow.holds Tryz.pinned (OpenSpec.ofChange fnExactIsClassicalKindWrong)

/-- 'laws.FnExactUnifiesFormula': WHATEVER THE INPUT: true; the input reads as it did. -/
def fnExactUnifiesFormulaSpec : ChangeSpec := { name := "fnExactUnifiesFormula", fn := fun _ => fun
  | [d1, d2] => { results := [.lit (.bool true)], args := [d1, d2] }
  | _ => none }
def fnExactUnifiesFormulaRow : OpenClaim := { program := "ytajjlnonmaghlaagreat", sum := "84471cfae27bc53f873bb6f87422282deafd3848532ebc885d44e80388ffb585", func := "loop.example/g01089/laws.FnExactUnifiesFormula", spec := "fnExactUnifiesFormula", unfollowed := true, recurses := true, apart := false }
def FnExactUnifiesFormulaSaid : Prop := fnExactUnifiesFormulaRow.holds Tryz.pinned (OpenSpec.ofChange fnExactUnifiesFormulaSpec)

/-- ITS FALSE NEIGHBOUR: 'it returns false'. Refute it at one input. -/
def fnExactUnifiesFormulaWrong : ChangeSpec := { name := "fnExactUnifiesFormula", fn := fun _ => fun
  | [d1, d2] => { results := [.lit (.bool false)], args := [d1, d2] }
  | _ => none }
def FnExactUnifiesFormulaWrongFalsely : Prop := fnExactUnifiesFormulaRow.holds Tryz.pinned (OpenSpec.ofChange fnExactUnifiesFormulaWrong)

/-- 'laws.FnExactIsDerivable': WHATEVER THE INPUT: true; the input reads as it did. -/
def fnExactIsDerivableSpec : ChangeSpec := { name := "fnExactIsDerivable", fn := fun _ => fun
  | [d] => { results := [.lit (.bool true)], args := [d] }
  | _ => none }
def fnExactIsDerivableRow : OpenClaim := { program := "ytajjlnonmaghlaagreat", sum := "84471cfae27bc53f873bb6f87422282deafd3848532ebc885d44e80388ffb585", func := "loop.example/g01089/laws.FnExactIsDerivable", spec := "fnExactIsDerivable", unfollowed := true, recurses := true, apart := false }
def FnExactIsDerivableSaid : Prop := fnExactIsDerivableRow.holds Tryz.pinned (OpenSpec.ofChange fnExactIsDerivableSpec)

/-- ITS FALSE NEIGHBOUR: 'it returns false'. Refute it at one input. -/
def fnExactIsDerivableWrong : ChangeSpec := { name := "fnExactIsDerivable", fn := fun _ => fun
  | [d] => { results := [.lit (.bool false)], args := [d] }
  | _ => none }
def FnExactIsDerivableWrongFalsely : Prop := fnExactIsDerivableRow.holds Tryz.pinned (OpenSpec.ofChange fnExactIsDerivableWrong)

/-- 'laws.FnExactProjectiveMask': WHATEVER THE INPUT: true; the input reads as it did. -/
def fnExactProjectiveMaskSpec : ChangeSpec := { name := "fnExactProjectiveMask", fn := fun _ => fun
  | [d] => { results := [.lit (.bool true)], args := [d] }
  | _ => none }
def fnExactProjectiveMaskRow : OpenClaim := { program := "ytajjlnonmaghlaagreat", sum := "84471cfae27bc53f873bb6f87422282deafd3848532ebc885d44e80388ffb585", func := "loop.example/g01089/laws.FnExactProjectiveMask", spec := "fnExactProjectiveMask", unfollowed := true, recurses := true, apart := false }
def FnExactProjectiveMaskSaid : Prop := fnExactProjectiveMaskRow.holds Tryz.pinned (OpenSpec.ofChange fnExactProjectiveMaskSpec)

/-- ITS FALSE NEIGHBOUR: 'it returns false'. Refute it at one input. -/
def fnExactProjectiveMaskWrong : ChangeSpec := { name := "fnExactProjectiveMask", fn := fun _ => fun
  | [d] => { results := [.lit (.bool false)], args := [d] }
  | _ => none }
def FnExactProjectiveMaskWrongFalsely : Prop := fnExactProjectiveMaskRow.holds Tryz.pinned (OpenSpec.ofChange fnExactProjectiveMaskWrong)

/-- 'laws.FnExactBreaksRule': WHATEVER THE INPUT: true; the input reads as it did. -/
def fnExactBreaksRuleSpec : ChangeSpec := { name := "fnExactBreaksRule", fn := fun _ => fun
  | [d1, d2] => { results := [.lit (.bool true)], args := [d1, d2] }
  | _ => none }
def fnExactBreaksRuleRow : OpenClaim := { program := "ytajjlnonmaghlaagreat", sum := "84471cfae27bc53f873bb6f87422282deafd3848532ebc885d44e80388ffb585", func := "loop.example/g01089/laws.FnExactBreaksRule", spec := "fnExactBreaksRule", unfollowed := true, recurses := true, apart := false }
def FnExactBreaksRuleSaid : Prop := fnExactBreaksRuleRow.holds Tryz.pinned (OpenSpec.ofChange fnExactBreaksRuleSpec)

/-- ITS FALSE NEIGHBOUR: 'it returns false'. Refute it at one input. -/
def fnExactBreaksRuleWrong : ChangeSpec := { name := "fnExactBreaksRule", fn := fun _ => fun
  | [d1, d2] => { results := [.lit (.bool false)], args := [d1, d2] }
  | _ => none }
def FnExactBreaksRuleWrongFalsely : Prop := fnExactBreaksRuleRow.holds Tryz.pinned (OpenSpec.ofChange fnExactBreaksRuleWrong)

/- THE SECOND FORM. 'bulk': how many values and letters a reading holds, each counted each time it is reached (what is shared counts as often as it is met; a slice's spare places count too). A statement '..UptoSaid' is the law's where the arguments, and the package variables that the reading takes, are together of bulk at most 1048576: NARROWER than '..Said'. Prove '..Said' where nothing that the law and all that it calls make is longer than what came in: it says more and counts as full. Else prove '..UptoSaid'. A law counts once. -/
mutual
def uptoBulk {H : Type} : DataW H → Nat
  | .lit (.string bytes) => bytes.length + 1
  | .lit _ => 1
  | .nil => 1
  | .ptr d => uptoBulk d + 1
  | .slice elems spare => uptoBulkAll elems + uptoBulkAll spare + 1
  | .agg parts => uptoBulkAll parts + 1
  | .iface _ d => uptoBulk d + 1
  | .map entries => uptoBulkEntries entries + 1
  | .held _ => 1
def uptoBulkAll {H : Type} : List (DataW H) → Nat
  | [] => 0
  | d :: r => uptoBulk d + uptoBulkAll r
def uptoBulkEntries {H : Type} : List (Lit × DataW H) → Nat
  | [] => 0
  | x :: r => uptoBulkEntry x + uptoBulkEntries r
def uptoBulkEntry {H : Type} : Lit × DataW H → Nat
  | (.string bytes, d) => bytes.length + uptoBulk d + 1
  | (_, d) => uptoBulk d + 1
 end
def uptoSmall : (H : Type) → List (DataW H) → Bool := fun _ ds => decide (uptoBulkAll ds ≤ 1048576)
def OpenSpec.upto (s : _root_.Go.ChangeSpec) : _root_.Go.OpenSpec := { _root_.Go.OpenSpec.ofChange s with cond := some uptoSmall }

/-- 'laws.FnExactGlivenkoTheorem', WHERE WHAT IT READS IS OF BULK AT MOST 1048576: true; the input reads as it did. -/
def fnExactGlivenkoTheoremUptoRow : OpenClaim := { program := "ytajjlnonmaghlaagreat", sum := "84471cfae27bc53f873bb6f87422282deafd3848532ebc885d44e80388ffb585", func := "loop.example/g01089/laws.FnExactGlivenkoTheorem", spec := "fnExactGlivenkoTheorem", unfollowed := true, recurses := true, apart := false, narrowed := true }
def FnExactGlivenkoTheoremUptoSaid : Prop := fnExactGlivenkoTheoremUptoRow.holds Tryz.pinned (OpenSpec.upto fnExactGlivenkoTheoremSpec)

/-- 'laws.FnExactIsClassicalKind', WHERE WHAT IT READS IS OF BULK AT MOST 1048576: true; the input reads as it did. -/
def fnExactIsClassicalKindUptoRow : OpenClaim := { program := "ytajjlnonmaghlaagreat", sum := "84471cfae27bc53f873bb6f87422282deafd3848532ebc885d44e80388ffb585", func := "loop.example/g01089/laws.FnExactIsClassicalKind", spec := "fnExactIsClassicalKind", unfollowed := true, recurses := true, apart := false, narrowed := true }
def FnExactIsClassicalKindUptoSaid : Prop := fnExactIsClassicalKindUptoRow.holds Tryz.pinned (OpenSpec.upto fnExactIsClassicalKindSpec)

/-- 'laws.FnExactUnifiesFormula', WHERE WHAT IT READS IS OF BULK AT MOST 1048576: true; the input reads as it did. -/
def fnExactUnifiesFormulaUptoRow : OpenClaim := { program := "ytajjlnonmaghlaagreat", sum := "84471cfae27bc53f873bb6f87422282deafd3848532ebc885d44e80388ffb585", func := "loop.example/g01089/laws.FnExactUnifiesFormula", spec := "fnExactUnifiesFormula", unfollowed := true, recurses := true, apart := false, narrowed := true }
def FnExactUnifiesFormulaUptoSaid : Prop := fnExactUnifiesFormulaUptoRow.holds Tryz.pinned (OpenSpec.upto fnExactUnifiesFormulaSpec)

/-- 'laws.FnExactIsDerivable', WHERE WHAT IT READS IS OF BULK AT MOST 1048576: true; the input reads as it did. -/
def fnExactIsDerivableUptoRow : OpenClaim := { program := "ytajjlnonmaghlaagreat", sum := "84471cfae27bc53f873bb6f87422282deafd3848532ebc885d44e80388ffb585", func := "loop.example/g01089/laws.FnExactIsDerivable", spec := "fnExactIsDerivable", unfollowed := true, recurses := true, apart := false, narrowed := true }
def FnExactIsDerivableUptoSaid : Prop := fnExactIsDerivableUptoRow.holds Tryz.pinned (OpenSpec.upto fnExactIsDerivableSpec)

/-- 'laws.FnExactProjectiveMask', WHERE WHAT IT READS IS OF BULK AT MOST 1048576: true; the input reads as it did. -/
def fnExactProjectiveMaskUptoRow : OpenClaim := { program := "ytajjlnonmaghlaagreat", sum := "84471cfae27bc53f873bb6f87422282deafd3848532ebc885d44e80388ffb585", func := "loop.example/g01089/laws.FnExactProjectiveMask", spec := "fnExactProjectiveMask", unfollowed := true, recurses := true, apart := false, narrowed := true }
def FnExactProjectiveMaskUptoSaid : Prop := fnExactProjectiveMaskUptoRow.holds Tryz.pinned (OpenSpec.upto fnExactProjectiveMaskSpec)

/-- 'laws.FnExactBreaksRule', WHERE WHAT IT READS IS OF BULK AT MOST 1048576: true; the input reads as it did. -/
def fnExactBreaksRuleUptoRow : OpenClaim := { program := "ytajjlnonmaghlaagreat", sum := "84471cfae27bc53f873bb6f87422282deafd3848532ebc885d44e80388ffb585", func := "loop.example/g01089/laws.FnExactBreaksRule", spec := "fnExactBreaksRule", unfollowed := true, recurses := true, apart := false, narrowed := true }
def FnExactBreaksRuleUptoSaid : Prop := fnExactBreaksRuleUptoRow.holds Tryz.pinned (OpenSpec.upto fnExactBreaksRuleSpec)

end Rows
end Go.Proofs.YtajjlnonmaghlaaGreat
