import Derived.BigQuiet
import Derived.Deep.AppendSrc
import Derived.Deep.QuietTactic
import Derived.Deep.RegionLaw
import Derived.Ground.Names2Prog
import Derived.Ground.SlgnProg
import Derived.Lib.AppendZeros
import Derived.Lib.LaidTab
import Derived.Shelf.Slices.Cells
import Derived.Shelf.Slices.Clone
import Derived.Shelf.Slices.CompactS
import Derived.Shelf.Slices.Empties2
import Derived.Shelf.Slices.Equal
import Derived.Shelf.Slices.In.SortNone
import Derived.Shelf.Slices.Turned
import Derived.Shelf.SlicesE.Clone
import Derived.Shelf.Small.Bits
import Derived.Shelf.Sort.Plain
import Derived.Shelf.Strconv.Itoa0
import Derived.StillTailTactics
import Derived.Test.YtagoboblkadelaaGreatProg
import Derived.WalkKit
import Derived.WalkLawsBesides
import Derived.WalkSpells
import Init
/- own -/
namespace Go.Proofs.YtagoboblkadelaaGreat
theorem dd {α:Sort _} {f:Nat→α} {n:Nat} {x:α} (h:f n=x):∀ d,some n=some d→f d=x:=fun d e=>by cases e;exact h
theorem za:type_of% @List.setIfInBounds_toArray:=@List.setIfInBounds_toArray
theorem zb:type_of% @List.set_cons_zero:=@List.set_cons_zero
theorem zc:type_of% @List.set_cons_succ:=@List.set_cons_succ
theorem ze:type_of% @List.length_append:=@List.length_append
theorem zh:type_of% @List.length_cons:=@List.length_cons
theorem zi:type_of% @List.getD_eq_getElem?_getD:=@List.getD_eq_getElem?_getD
theorem zj:type_of% @List.getElem_cons_zero:=@List.getElem_cons_zero
theorem zk:type_of% @Bool.and_eq_true:=@Bool.and_eq_true
theorem zl:type_of% @List.getElem_cons_succ:=@List.getElem_cons_succ
theorem zm:type_of% @Nat.le_refl:=@Nat.le_refl
theorem zn:type_of% @List.getElem?_eq_getElem:=@List.getElem?_eq_getElem
theorem zo:type_of% @List.getElem_mem:=@List.getElem_mem
theorem zq:type_of% @List.take_succ_eq_append_getElem:=@List.take_succ_eq_append_getElem
theorem zr:type_of% @Array.getElem?_eq_some_iff:=@Array.getElem?_eq_some_iff
theorem zt:type_of% @List.all_eq_true:=@List.all_eq_true
theorem zu:type_of% @List.mem_singleton:=@List.mem_singleton
theorem zv:type_of% @Nat.lt_of_lt_of_le:=@Nat.lt_of_lt_of_le
theorem zw:type_of% @List.mem_cons_of_mem:=@List.mem_cons_of_mem
theorem zx:type_of% @Nat.le_trans:=@Nat.le_trans
theorem zy:type_of% @List.mem_range:=@List.mem_range
theorem zz:type_of% @List.append_assoc:=@List.append_assoc
theorem qA {α:Sort _} {a b:α} (h:a=b:=by kernel_rfl):a=b:=h
theorem qB {p:Prop} (h:p:=by omega):p:=h
theorem qC {p:Prop} (h:p:=by decide):p:=h
theorem qD {p:Prop} (h:p:=by simp):p:=h
end Go.Proofs.YtagoboblkadelaaGreat
