import Derived.Test.YtfmmajgkjkmghaaGreatHW7
import Derived.Test.YtfmmajgkjkmghaaGreatHPP
import Derived.Test.YtfmmajgkjkmghaaGreatHVS
import Derived.Test.YtfmmajgkjkmghaaGreatHTU
/- Walks: masks of variables and their members, on both sides; errors of lists of formulas. -/
namespace Go.Proofs.YtfmmajgkjkmghaaGreat
open Go.RowKit
def vm (a : List Nd) : Nat := a.foldl (fun m n => if n.k = 0 then m ||| 2 ^ n.s.toNat else m) 0
end Go.Proofs.YtfmmajgkjkmghaaGreat
namespace Go.Proofs.YtfmmajgkjkmghaaGreat
open Go.RowKit
end Go.Proofs.YtfmmajgkjkmghaaGreat
namespace Go.Proofs.YtfmmajgkjkmghaaGreat
open Go.RowKit
theorem OwnN.touch {w w' : World} {S : Nat → Prop} {B : Nat} {v : Value} {x : List Nd} (h : OwnN w B v x) (k : Touch w w' S) (hS : ∀ i, v.ownBlock = some i → ¬ S i) : OwnN w' B v x := own_touch h k hS
end Go.Proofs.YtfmmajgkjkmghaaGreat
namespace Go.Proofs.YtfmmajgkjkmghaaGreat
open Go.RowKit
end Go.Proofs.YtfmmajgkjkmghaaGreat
