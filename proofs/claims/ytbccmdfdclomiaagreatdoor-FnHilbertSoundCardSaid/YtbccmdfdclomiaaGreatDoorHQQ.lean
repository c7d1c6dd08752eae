import Derived.BigQuiet
import Derived.Deep.AppendSrc
import Derived.Deep.QuietTactic
import Derived.Deep.RegionLaw
import Derived.Ground.Names2Prog
import Derived.Ground.SlgnProg
import Derived.Shelf.Slices.Cells
import Derived.Shelf.Slices.Clone
import Derived.Shelf.Slices.CompactS
import Derived.Shelf.Slices.In.SortNone
import Derived.Shelf.Slices.Turned
import Derived.Shelf.SlicesE.Clone
import Derived.Shelf.Small.Bits
import Derived.Shelf.Sort.Plain
import Derived.Shelf.Strconv.Itoa0
import Derived.StillTailTactics
import Derived.Test.YtbccmdfdclomiaaGreatDoorProg
import Derived.WalkKit
import Derived.WalkLawsBesides
import Derived.WalkSpells
import Init
/- own -/
namespace Go.Proofs.YtbccmdfdclomiaaGreatDoor
theorem dd {α:Sort _} {f:Nat→α} {n:Nat} {x:α} (h:f n=x):∀ d,some n=some d→f d=x:=fun d e=>by cases e;exact h
end Go.Proofs.YtbccmdfdclomiaaGreatDoor
