/-
  No cell of these rows narrows 'for every input' (looked for: loops, veiled, ifaces, maps, wideKeys, modest, calm, conditions, laid).
  DERIVED. THE GIVEN ROWS OF THIS SEAT. 6 by the template 'for every input the law returns true; each argument reads behind the call as it read before'; 0 by the template 'total and deterministic' (their statements: YtodeecmhcfbheaaGreatTotals.lean).
  GIVEN WITH THE SEED: the statements are not yours to turn. If you find one false, say at which input.
  Laid BY PROGRAM, IN A SANDBOX (cutbox-rows.mjs): the forced cells as the released guide's own fill.sh prints them over the translation 82fab557e3ec29a7… (all of the seat's roots in one cut). By AI agents, Wed Nov 11 2026. No macro, syntax, notation, axiom, sorry.
-/
import Derived.Test.YtodeecmhcfbheaaGreatChecked
import GoSem.Claim
import GoSem.ClaimJoined
import GoSem.ClaimMapViews
import Derived.JoinedTies
import Derived.KernelRfl
namespace Go.Proofs.YtodeecmhcfbheaaGreat
/- THE CELL 'sum', in the pinned program and in every row, IS THE sha256 OF THE DUMP (.gsa) THAT YtodeecmhcfbheaaGreatProg.lean LOADS. Nothing in Lean hashes anything: it is a label: what it is worth is what the hold of that sum in a sandbox is worth. -/
noncomputable def Tryz.pinned : Pinned := { name := "ytodeecmhcfbheaagreat", sum := "82fab557e3ec29a73937416ebe6d1329295d37c363ba1fdfaa64210a8df08ca1", checked := Tryz.checked }
namespace Rows
def none {H : Type} : Left H := { results := [], args := [] }

/-- 'laws.FnHarrop': WHATEVER THE INPUT: true; the input reads as it did. -/
def fnHarropSpec : ChangeSpec := { name := "fnHarrop", fn := fun _ => fun
  | [d] => { results := [.lit (.bool true)], args := [d] }
  | _ => none }
def fnHarropRow : OpenClaim := { program := "ytodeecmhcfbheaagreat", sum := "82fab557e3ec29a73937416ebe6d1329295d37c363ba1fdfaa64210a8df08ca1", func := "loop.example/g01089/laws.FnHarrop", spec := "fnHarrop", unfollowed := true, recurses := true, apart := false }
def FnHarropSaid : Prop := fnHarropRow.holds Tryz.pinned (OpenSpec.ofChange fnHarropSpec)

/-- ITS FALSE NEIGHBOUR: 'it returns false'. Refute it at one input. -/
def fnHarropWrong : ChangeSpec := { name := "fnHarrop", fn := fun _ => fun
  | [d] => { results := [.lit (.bool false)], args := [d] }
  | _ => none }
def FnHarropWrongFalsely : Prop := fnHarropRow.holds Tryz.pinned (OpenSpec.ofChange fnHarropWrong)

/-- 'laws.FnRulesBroken': WHATEVER THE INPUT: true; the input reads as it did. -/
def fnRulesBrokenSpec : ChangeSpec := { name := "fnRulesBroken", fn := fun _ => fun
  | [d] => { results := [.lit (.bool true)], args := [d] }
  | _ => none }
def fnRulesBrokenRow : OpenClaim := { program := "ytodeecmhcfbheaagreat", sum := "82fab557e3ec29a73937416ebe6d1329295d37c363ba1fdfaa64210a8df08ca1", func := "loop.example/g01089/laws.FnRulesBroken", spec := "fnRulesBroken", unfollowed := true, recurses := true, apart := false }
def FnRulesBrokenSaid : Prop := fnRulesBrokenRow.holds Tryz.pinned (OpenSpec.ofChange fnRulesBrokenSpec)

/-- ITS FALSE NEIGHBOUR: 'it returns false'. Refute it at one input. -/
def fnRulesBrokenWrong : ChangeSpec := { name := "fnRulesBroken", fn := fun _ => fun
  | [d] => { results := [.lit (.bool false)], args := [d] }
  | _ => none }
def FnRulesBrokenWrongFalsely : Prop := fnRulesBrokenRow.holds Tryz.pinned (OpenSpec.ofChange fnRulesBrokenWrong)

/-- 'laws.FnExactFindUnifier': WHATEVER THE INPUT: true; the input reads as it did. -/
def fnExactFindUnifierSpec : ChangeSpec := { name := "fnExactFindUnifier", fn := fun _ => fun
  | [d1, d2] => { results := [.lit (.bool true)], args := [d1, d2] }
  | _ => none }
def fnExactFindUnifierRow : OpenClaim := { program := "ytodeecmhcfbheaagreat", sum := "82fab557e3ec29a73937416ebe6d1329295d37c363ba1fdfaa64210a8df08ca1", func := "loop.example/g01089/laws.FnExactFindUnifier", spec := "fnExactFindUnifier", unfollowed := true, recurses := true, apart := false }
def FnExactFindUnifierSaid : Prop := fnExactFindUnifierRow.holds Tryz.pinned (OpenSpec.ofChange fnExactFindUnifierSpec)

/-- ITS FALSE NEIGHBOUR: 'it returns false'. Refute it at one input. -/
def fnExactFindUnifierWrong : ChangeSpec := { name := "fnExactFindUnifier", fn := fun _ => fun
  | [d1, d2] => { results := [.lit (.bool false)], args := [d1, d2] }
  | _ => none }
def FnExactFindUnifierWrongFalsely : Prop := fnExactFindUnifierRow.holds Tryz.pinned (OpenSpec.ofChange fnExactFindUnifierWrong)

/-- 'laws.FnExactFindBreaking': WHATEVER THE INPUT: true; the input reads as it did. -/
def fnExactFindBreakingSpec : ChangeSpec := { name := "fnExactFindBreaking", fn := fun _ => fun
  | [d1, d2] => { results := [.lit (.bool true)], args := [d1, d2] }
  | _ => none }
def fnExactFindBreakingRow : OpenClaim := { program := "ytodeecmhcfbheaagreat", sum := "82fab557e3ec29a73937416ebe6d1329295d37c363ba1fdfaa64210a8df08ca1", func := "loop.example/g01089/laws.FnExactFindBreaking", spec := "fnExactFindBreaking", unfollowed := true, recurses := true, apart := false }
def FnExactFindBreakingSaid : Prop := fnExactFindBreakingRow.holds Tryz.pinned (OpenSpec.ofChange fnExactFindBreakingSpec)

/-- ITS FALSE NEIGHBOUR: 'it returns false'. Refute it at one input. -/
def fnExactFindBreakingWrong : ChangeSpec := { name := "fnExactFindBreaking", fn := fun _ => fun
  | [d1, d2] => { results := [.lit (.bool false)], args := [d1, d2] }
  | _ => none }
def FnExactFindBreakingWrongFalsely : Prop := fnExactFindBreakingRow.holds Tryz.pinned (OpenSpec.ofChange fnExactFindBreakingWrong)

/-- 'laws.FnProjective': WHATEVER THE INPUT: true; the input reads as it did. -/
def fnProjectiveSpec : ChangeSpec := { name := "fnProjective", fn := fun _ => fun
  | [d] => { results := [.lit (.bool true)], args := [d] }
  | _ => none }
def fnProjectiveRow : OpenClaim := { program := "ytodeecmhcfbheaagreat", sum := "82fab557e3ec29a73937416ebe6d1329295d37c363ba1fdfaa64210a8df08ca1", func := "loop.example/g01089/laws.FnProjective", spec := "fnProjective", unfollowed := true, recurses := true, apart := false }
def FnProjectiveSaid : Prop := fnProjectiveRow.holds Tryz.pinned (OpenSpec.ofChange fnProjectiveSpec)

/-- ITS FALSE NEIGHBOUR: 'it returns false'. Refute it at one input. -/
def fnProjectiveWrong : ChangeSpec := { name := "fnProjective", fn := fun _ => fun
  | [d] => { results := [.lit (.bool false)], args := [d] }
  | _ => none }
def FnProjectiveWrongFalsely : Prop := fnProjectiveRow.holds Tryz.pinned (OpenSpec.ofChange fnProjectiveWrong)

/-- 'laws.FnKnownAdmissible': WHATEVER THE INPUT: true; the input reads as it did. -/
def fnKnownAdmissibleSpec : ChangeSpec := { name := "fnKnownAdmissible", fn := fun _ => fun
  | [d] => { results := [.lit (.bool true)], args := [d] }
  | _ => none }
def fnKnownAdmissibleRow : OpenClaim := { program := "ytodeecmhcfbheaagreat", sum := "82fab557e3ec29a73937416ebe6d1329295d37c363ba1fdfaa64210a8df08ca1", func := "loop.example/g01089/laws.FnKnownAdmissible", spec := "fnKnownAdmissible", unfollowed := true, recurses := true, apart := false }
def FnKnownAdmissibleSaid : Prop := fnKnownAdmissibleRow.holds Tryz.pinned (OpenSpec.ofChange fnKnownAdmissibleSpec)

/-- ITS FALSE NEIGHBOUR: 'it returns false'. Refute it at one input. -/
def fnKnownAdmissibleWrong : ChangeSpec := { name := "fnKnownAdmissible", fn := fun _ => fun
  | [d] => { results := [.lit (.bool false)], args := [d] }
  | _ => none }
def FnKnownAdmissibleWrongFalsely : Prop := fnKnownAdmissibleRow.holds Tryz.pinned (OpenSpec.ofChange fnKnownAdmissibleWrong)

/- THE SECOND FORM. 'bulk': how many values and letters a reading holds, each counted each time it is reached (what is shared counts as often as it is met; a slice's spare places count too). A statement '..UptoSaid' is the law's where the arguments, and the package variables that the reading takes, are together of bulk at most 1048576: NARROWER than '..Said'. Prove '..Said' where nothing that the law and all that it calls make is longer than what came in: it says more and counts as full. Else prove '..UptoSaid'. A law counts once. -/
mutual
def uptoBulk {H : Type} : DataW H → Nat
  | .lit (.string bytes) => bytes.length + 1
  | .lit _ => 1
  | .nil => 1
  | .ptr d => uptoBulk d + 1
  | .slice elems spare => uptoBulkAll elems + uptoBulkAll spare + 1
  | .agg parts => uptoBulkAll parts + 1
  | .iface _ d => uptoBulk d + 1
  | .map entries => uptoBulkEntries entries + 1
  | .held _ => 1
def uptoBulkAll {H : Type} : List (DataW H) → Nat
  | [] => 0
  | d :: r => uptoBulk d + uptoBulkAll r
def uptoBulkEntries {H : Type} : List (Lit × DataW H) → Nat
  | [] => 0
  | x :: r => uptoBulkEntry x + uptoBulkEntries r
def uptoBulkEntry {H : Type} : Lit × DataW H → Nat
  | (.string bytes, d) => bytes.length + uptoBulk d + 1
  | (_, d) => uptoBulk d + 1
 end
def uptoSmall : (H : Type) → List (DataW H) → Bool := fun _ ds => decide (uptoBulkAll ds ≤ 1048576)
def OpenSpec.upto (s : _root_.Go.ChangeSpec) : _root_.Go.OpenSpec := { _root_.Go.OpenSpec.ofChange s with cond := some uptoSmall }

/-- 'laws.FnHarrop', WHERE WHAT IT READS IS OF BULK AT MOST 1048576: true; the input reads as it did. -/
def fnHarropUptoRow : OpenClaim := { program := "ytodeecmhcfbheaagreat", sum := "82fab557e3ec29a73937416ebe6d1329295d37c363ba1fdfaa64210a8df08ca1", func := "loop.example/g01089/laws.FnHarrop", spec := "fnHarrop", unfollowed := true, recurses := true, apart := false, narrowed := true }
def FnHarropUptoSaid : Prop := fnHarropUptoRow.holds Tryz.pinned (OpenSpec.upto fnHarropSpec)

/-- 'laws.FnRulesBroken', WHERE WHAT IT READS IS OF BULK AT MOST 1048576: true; the input reads as it did. -/
def fnRulesBrokenUptoRow : OpenClaim := { program := "ytodeecmhcfbheaagreat", sum := "82fab557e3ec29a73937416ebe6d1329295d37c363ba1fdfaa64210a8df08ca1", func := "loop.example/g01089/laws.FnRulesBroken", spec := "fnRulesBroken", unfollowed := true, recurses := true, apart := false, narrowed := true }
def FnRulesBrokenUptoSaid : Prop := fnRulesBrokenUptoRow.holds Tryz.pinned (OpenSpec.upto fnRulesBrokenSpec)

/-- 'laws.FnExactFindUnifier', WHERE WHAT IT READS IS OF BULK AT MOST 1048576: true; the input reads as it did. -/
def fnExactFindUnifierUptoRow : OpenClaim := { program := "ytodeecmhcfbheaagreat", sum := "82fab557e3ec29a73937416ebe6d1329295d37c363ba1fdfaa64210a8df08ca1", func := "loop.example/g01089/laws.FnExactFindUnifier", spec := "fnExactFindUnifier", unfollowed := true, recurses := true, apart := false, narrowed := true }
def FnExactFindUnifierUptoSaid : Prop := fnExactFindUnifierUptoRow.holds Tryz.pinned (OpenSpec.upto fnExactFindUnifierSpec)

/-- 'laws.FnExactFindBreaking', WHERE WHAT IT READS IS OF BULK AT MOST 1048576: true; the input reads as it did. -/
def fnExactFindBreakingUptoRow : OpenClaim := { program := "ytodeecmhcfbheaagreat", sum := "82fab557e3ec29a73937416ebe6d1329295d37c363ba1fdfaa64210a8df08ca1", func := "loop.example/g01089/laws.FnExactFindBreaking", spec := "fnExactFindBreaking", unfollowed := true, recurses := true, apart := false, narrowed := true }
def FnExactFindBreakingUptoSaid : Prop := fnExactFindBreakingUptoRow.holds Tryz.pinned (OpenSpec.upto fnExactFindBreakingSpec)

/-- 'laws.FnProjective', WHERE WHAT IT READS IS OF BULK AT MOST 1048576: true; the input reads as it did. -/
def fnProjectiveUptoRow : OpenClaim := { program := "ytodeecmhcfbheaagreat", sum := "82fab557e3ec29a73937416ebe6d1329295d37c363ba1fdfaa64210a8df08ca1", func := "loop.example/g01089/laws.FnProjective", spec := "fnProjective", unfollowed := true, recurses := true, apart := false, narrowed := true }
def FnProjectiveUptoSaid : Prop := fnProjectiveUptoRow.holds Tryz.pinned (OpenSpec.upto fnProjectiveSpec)

/-- 'laws.FnKnownAdmissible', WHERE WHAT IT READS IS OF BULK AT MOST 1048576: true; the input reads as it did. -/
def fnKnownAdmissibleUptoRow : OpenClaim := { program := "ytodeecmhcfbheaagreat", sum := "82fab557e3ec29a73937416ebe6d1329295d37c363ba1fdfaa64210a8df08ca1", func := "loop.example/g01089/laws.FnKnownAdmissible", spec := "fnKnownAdmissible", unfollowed := true, recurses := true, apart := false, narrowed := true }
def FnKnownAdmissibleUptoSaid : Prop := fnKnownAdmissibleUptoRow.holds Tryz.pinned (OpenSpec.upto fnKnownAdmissibleSpec)

end Rows
end Go.Proofs.YtodeecmhcfbheaaGreat
