/-
  No cell of these rows narrows 'for every input' (looked for: loops, veiled, ifaces, maps, wideKeys, modest, calm, conditions, laid).
  DERIVED. THE GIVEN ROWS OF THIS SEAT. 6 by the template 'for every input the law returns true; each argument reads behind the call as it read before'; 0 by the template 'total and deterministic' (their statements: YteeonfdpcfnifaaTotals.lean).
  GIVEN WITH THE SEED: the statements are not yours to turn. If you find one false, say at which input.
  Laid BY PROGRAM, IN A SANDBOX (cutbox-rows.mjs): the forced cells as the released guide's own fill.sh prints them over the translation cd81993c80923c61… (all of the seat's roots in one cut). By AI agents, Wed Nov 11 2026. No macro, syntax, notation, axiom, sorry.
-/
import Derived.Test.YteeonfdpcfnifaaChecked
import GoSem.Claim
import GoSem.ClaimJoined
import GoSem.ClaimMapViews
import Derived.JoinedTies
import Derived.KernelRfl
namespace Go.Proofs.Yteeonfdpcfnifaa
/- THE CELL 'sum', in the pinned program and in every row, IS THE sha256 OF THE DUMP (.gsa) THAT YteeonfdpcfnifaaProg.lean LOADS. Nothing in Lean hashes anything: it is a label: what it is worth is what the hold of that sum in a sandbox is worth. -/
noncomputable def Try.pinned : Pinned := { name := "yteeonfdpcfnifaa", sum := "cd81993c80923c61eb98619e9987571cb3a2616681c198f3f291b4211af8e306", checked := Try.checked }
namespace Rows
def none {H : Type} : Left H := { results := [], args := [] }

/-- 'laws.FnExactChainPoset': WHATEVER THE INPUT: true; the input reads as it did. -/
def fnExactChainPosetSpec : ChangeSpec := { name := "fnExactChainPoset", fn := fun _ => fun
  | [d] => { results := [.lit (.bool true)], args := [d] }
  | _ => none }
def fnExactChainPosetRow : OpenClaim := { program := "yteeonfdpcfnifaa", sum := "cd81993c80923c61eb98619e9987571cb3a2616681c198f3f291b4211af8e306", func := "loop.example/g01089/laws.FnExactChainPoset", spec := "fnExactChainPoset", apart := false }
def FnExactChainPosetSaid : Prop := fnExactChainPosetRow.holds Try.pinned (OpenSpec.ofChange fnExactChainPosetSpec)

/-- ITS FALSE NEIGHBOUR: 'it returns false'. Refute it at one input. -/
def fnExactChainPosetWrong : ChangeSpec := { name := "fnExactChainPoset", fn := fun _ => fun
  | [d] => { results := [.lit (.bool false)], args := [d] }
  | _ => none }
def FnExactChainPosetWrongFalsely : Prop := fnExactChainPosetRow.holds Try.pinned (OpenSpec.ofChange fnExactChainPosetWrong)

/-- 'laws.FnExactForkPoset': WHATEVER THE INPUT: true; the input reads as it did. -/
def fnExactForkPosetSpec : ChangeSpec := { name := "fnExactForkPoset", fn := fun _ => fun
  | [d] => { results := [.lit (.bool true)], args := [d] }
  | _ => none }
def fnExactForkPosetRow : OpenClaim := { program := "yteeonfdpcfnifaa", sum := "cd81993c80923c61eb98619e9987571cb3a2616681c198f3f291b4211af8e306", func := "loop.example/g01089/laws.FnExactForkPoset", spec := "fnExactForkPoset", apart := false }
def FnExactForkPosetSaid : Prop := fnExactForkPosetRow.holds Try.pinned (OpenSpec.ofChange fnExactForkPosetSpec)

/-- ITS FALSE NEIGHBOUR: 'it returns false'. Refute it at one input. -/
def fnExactForkPosetWrong : ChangeSpec := { name := "fnExactForkPoset", fn := fun _ => fun
  | [d] => { results := [.lit (.bool false)], args := [d] }
  | _ => none }
def FnExactForkPosetWrongFalsely : Prop := fnExactForkPosetRow.holds Try.pinned (OpenSpec.ofChange fnExactForkPosetWrong)

/-- 'laws.FnExactMedvedevPoset': WHATEVER THE INPUT: true; the input reads as it did. -/
def fnExactMedvedevPosetSpec : ChangeSpec := { name := "fnExactMedvedevPoset", fn := fun _ => fun
  | [d] => { results := [.lit (.bool true)], args := [d] }
  | _ => none }
def fnExactMedvedevPosetRow : OpenClaim := { program := "yteeonfdpcfnifaa", sum := "cd81993c80923c61eb98619e9987571cb3a2616681c198f3f291b4211af8e306", func := "loop.example/g01089/laws.FnExactMedvedevPoset", spec := "fnExactMedvedevPoset", apart := false }
def FnExactMedvedevPosetSaid : Prop := fnExactMedvedevPosetRow.holds Try.pinned (OpenSpec.ofChange fnExactMedvedevPosetSpec)

/-- ITS FALSE NEIGHBOUR: 'it returns false'. Refute it at one input. -/
def fnExactMedvedevPosetWrong : ChangeSpec := { name := "fnExactMedvedevPoset", fn := fun _ => fun
  | [d] => { results := [.lit (.bool false)], args := [d] }
  | _ => none }
def FnExactMedvedevPosetWrongFalsely : Prop := fnExactMedvedevPosetRow.holds Try.pinned (OpenSpec.ofChange fnExactMedvedevPosetWrong)

/-- 'laws.FnExactIsHarrop': WHATEVER THE INPUT: true; the input reads as it did. -/
def fnExactIsHarropSpec : ChangeSpec := { name := "fnExactIsHarrop", fn := fun _ => fun
  | [d] => { results := [.lit (.bool true)], args := [d] }
  | _ => none }
def fnExactIsHarropRow : OpenClaim := { program := "yteeonfdpcfnifaa", sum := "cd81993c80923c61eb98619e9987571cb3a2616681c198f3f291b4211af8e306", func := "loop.example/g01089/laws.FnExactIsHarrop", spec := "fnExactIsHarrop", unfollowed := true, recurses := true, apart := false }
def FnExactIsHarropSaid : Prop := fnExactIsHarropRow.holds Try.pinned (OpenSpec.ofChange fnExactIsHarropSpec)

/-- ITS FALSE NEIGHBOUR: 'it returns false'. Refute it at one input. -/
def fnExactIsHarropWrong : ChangeSpec := { name := "fnExactIsHarrop", fn := fun _ => fun
  | [d] => { results := [.lit (.bool false)], args := [d] }
  | _ => none }
def FnExactIsHarropWrongFalsely : Prop := fnExactIsHarropRow.holds Try.pinned (OpenSpec.ofChange fnExactIsHarropWrong)

/-- 'laws.FnExactIsNegative': WHATEVER THE INPUT: true; the input reads as it did. -/
def fnExactIsNegativeSpec : ChangeSpec := { name := "fnExactIsNegative", fn := fun _ => fun
  | [d] => { results := [.lit (.bool true)], args := [d] }
  | _ => none }
def fnExactIsNegativeRow : OpenClaim := { program := "yteeonfdpcfnifaa", sum := "cd81993c80923c61eb98619e9987571cb3a2616681c198f3f291b4211af8e306", func := "loop.example/g01089/laws.FnExactIsNegative", spec := "fnExactIsNegative", unfollowed := true, recurses := true, apart := false }
def FnExactIsNegativeSaid : Prop := fnExactIsNegativeRow.holds Try.pinned (OpenSpec.ofChange fnExactIsNegativeSpec)

/-- ITS FALSE NEIGHBOUR: 'it returns false'. Refute it at one input. -/
def fnExactIsNegativeWrong : ChangeSpec := { name := "fnExactIsNegative", fn := fun _ => fun
  | [d] => { results := [.lit (.bool false)], args := [d] }
  | _ => none }
def FnExactIsNegativeWrongFalsely : Prop := fnExactIsNegativeRow.holds Try.pinned (OpenSpec.ofChange fnExactIsNegativeWrong)

/-- 'laws.FnExactKurodaOf': WHATEVER THE INPUT: true; the input reads as it did. -/
def fnExactKurodaOfSpec : ChangeSpec := { name := "fnExactKurodaOf", fn := fun _ => fun
  | [d] => { results := [.lit (.bool true)], args := [d] }
  | _ => none }
def fnExactKurodaOfRow : OpenClaim := { program := "yteeonfdpcfnifaa", sum := "cd81993c80923c61eb98619e9987571cb3a2616681c198f3f291b4211af8e306", func := "loop.example/g01089/laws.FnExactKurodaOf", spec := "fnExactKurodaOf", unfollowed := true, recurses := true, apart := false }
def FnExactKurodaOfSaid : Prop := fnExactKurodaOfRow.holds Try.pinned (OpenSpec.ofChange fnExactKurodaOfSpec)

/-- ITS FALSE NEIGHBOUR: 'it returns false'. Refute it at one input. -/
def fnExactKurodaOfWrong : ChangeSpec := { name := "fnExactKurodaOf", fn := fun _ => fun
  | [d] => { results := [.lit (.bool false)], args := [d] }
  | _ => none }
def FnExactKurodaOfWrongFalsely : Prop := fnExactKurodaOfRow.holds Try.pinned (OpenSpec.ofChange fnExactKurodaOfWrong)

/- THE SECOND FORM. 'bulk': how many values and letters a reading holds, each counted each time it is reached (what is shared counts as often as it is met; a slice's spare places count too). A statement '..UptoSaid' is the law's where the arguments, and the package variables that the reading takes, are together of bulk at most 1048576: NARROWER than '..Said'. Prove '..Said' where nothing that the law and all that it calls make is longer than what came in: it says more and counts as full. Else prove '..UptoSaid'. A law counts once. -/
mutual
def uptoBulk {H : Type} : DataW H → Nat
  | .lit (.string bytes) => bytes.length + 1
  | .lit _ => 1
  | .nil => 1
  | .ptr d => uptoBulk d + 1
  | .slice elems spare => uptoBulkAll elems + uptoBulkAll spare + 1
  | .agg parts => uptoBulkAll parts + 1
  | .iface _ d => uptoBulk d + 1
  | .map entries => uptoBulkEntries entries + 1
  | .held _ => 1
def uptoBulkAll {H : Type} : List (DataW H) → Nat
  | [] => 0
  | d :: r => uptoBulk d + uptoBulkAll r
def uptoBulkEntries {H : Type} : List (Lit × DataW H) → Nat
  | [] => 0
  | x :: r => uptoBulkEntry x + uptoBulkEntries r
def uptoBulkEntry {H : Type} : Lit × DataW H → Nat
  | (.string bytes, d) => bytes.length + uptoBulk d + 1
  | (_, d) => uptoBulk d + 1
 end
def uptoSmall : (H : Type) → List (DataW H) → Bool := fun _ ds => decide (uptoBulkAll ds ≤ 1048576)
def OpenSpec.upto (s : _root_.Go.ChangeSpec) : _root_.Go.OpenSpec := { _root_.Go.OpenSpec.ofChange s with cond := some uptoSmall }

/-- 'laws.FnExactChainPoset', WHERE WHAT IT READS IS OF BULK AT MOST 1048576: true; the input reads as it did. -/
def fnExactChainPosetUptoRow : OpenClaim := { program := "yteeonfdpcfnifaa", sum := "cd81993c80923c61eb98619e9987571cb3a2616681c198f3f291b4211af8e306", func := "loop.example/g01089/laws.FnExactChainPoset", spec := "fnExactChainPoset", apart := false, narrowed := true }
def FnExactChainPosetUptoSaid : Prop := fnExactChainPosetUptoRow.holds Try.pinned (OpenSpec.upto fnExactChainPosetSpec)

/-- 'laws.FnExactForkPoset', WHERE WHAT IT READS IS OF BULK AT MOST 1048576: true; the input reads as it did. -/
def fnExactForkPosetUptoRow : OpenClaim := { program := "yteeonfdpcfnifaa", sum := "cd81993c80923c61eb98619e9987571cb3a2616681c198f3f291b4211af8e306", func := "loop.example/g01089/laws.FnExactForkPoset", spec := "fnExactForkPoset", apart := false, narrowed := true }
def FnExactForkPosetUptoSaid : Prop := fnExactForkPosetUptoRow.holds Try.pinned (OpenSpec.upto fnExactForkPosetSpec)

/-- 'laws.FnExactMedvedevPoset', WHERE WHAT IT READS IS OF BULK AT MOST 1048576: true; the input reads as it did. -/
def fnExactMedvedevPosetUptoRow : OpenClaim := { program := "yteeonfdpcfnifaa", sum := "cd81993c80923c61eb98619e9987571cb3a2616681c198f3f291b4211af8e306", func := "loop.example/g01089/laws.FnExactMedvedevPoset", spec := "fnExactMedvedevPoset", apart := false, narrowed := true }
def FnExactMedvedevPosetUptoSaid : Prop := fnExactMedvedevPosetUptoRow.holds Try.pinned (OpenSpec.upto fnExactMedvedevPosetSpec)

/-- 'laws.FnExactIsHarrop', WHERE WHAT IT READS IS OF BULK AT MOST 1048576: true; the input reads as it did. -/
def fnExactIsHarropUptoRow : OpenClaim := { program := "yteeonfdpcfnifaa", sum := "cd81993c80923c61eb98619e9987571cb3a2616681c198f3f291b4211af8e306", func := "loop.example/g01089/laws.FnExactIsHarrop", spec := "fnExactIsHarrop", unfollowed := true, recurses := true, apart := false, narrowed := true }
def FnExactIsHarropUptoSaid : Prop := fnExactIsHarropUptoRow.holds Try.pinned (OpenSpec.upto fnExactIsHarropSpec)

/-- 'laws.FnExactIsNegative', WHERE WHAT IT READS IS OF BULK AT MOST 1048576: true; the input reads as it did. -/
def fnExactIsNegativeUptoRow : OpenClaim := { program := "yteeonfdpcfnifaa", sum := "cd81993c80923c61eb98619e9987571cb3a2616681c198f3f291b4211af8e306", func := "loop.example/g01089/laws.FnExactIsNegative", spec := "fnExactIsNegative", unfollowed := true, recurses := true, apart := false, narrowed := true }
def FnExactIsNegativeUptoSaid : Prop := fnExactIsNegativeUptoRow.holds Try.pinned (OpenSpec.upto fnExactIsNegativeSpec)

/-- 'laws.FnExactKurodaOf', WHERE WHAT IT READS IS OF BULK AT MOST 1048576: true; the input reads as it did. -/
def fnExactKurodaOfUptoRow : OpenClaim := { program := "yteeonfdpcfnifaa", sum := "cd81993c80923c61eb98619e9987571cb3a2616681c198f3f291b4211af8e306", func := "loop.example/g01089/laws.FnExactKurodaOf", spec := "fnExactKurodaOf", unfollowed := true, recurses := true, apart := false, narrowed := true }
def FnExactKurodaOfUptoSaid : Prop := fnExactKurodaOfUptoRow.holds Try.pinned (OpenSpec.upto fnExactKurodaOfSpec)

end Rows
end Go.Proofs.Yteeonfdpcfnifaa
