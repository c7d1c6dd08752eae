import Derived.Test.YtfmmajgkjkmghaaGreatEPC
import Derived.Test.YtfmmajgkjkmghaaGreatEPD
import Derived.Test.YtfmmajgkjkmghaaGreatETU
import Derived.Test.YtfmmajgkjkmghaaGreatEQU
import Derived.Test.YtfmmajgkjkmghaaGreatEPP
import Derived.Lib.LaidTab
import Derived.Test.YtfmmajgkjkmghaaGreatEBase
import Derived.Deep.AppendLies
/- Plain mathematics: the least forms of posets with up to four elements, made in two ways (printed by mkpk.py). -/
namespace Go.Proofs.YtfmmajgkjkmghaaGreat
def sqz (o : List Nat) (m : Nat) : Nat → Nat
 | 0 => 0
 | k + 1 => sqz o m k ||| (if m.testBit (o.getD k 0) then 2 ^ k else 0)
def renP (a o : List Nat) : List Nat := o.map fun x => sqz o (a.getD x 0) o.length
end Go.Proofs.YtfmmajgkjkmghaaGreat
namespace Go.Proofs.YtfmmajgkjkmghaaGreat
theorem sqz_lt (o : List Nat) (m : Nat) : ∀ k, sqz o m k < 2 ^ k
 | 0 => by simp [sqz]
 | k + 1 => by
  rw [sqz]
  have h := sqz_lt o m k
  refine Nat.or_lt_two_pow (by rw [Nat.pow_succ]; omega) ?_
  split
  ·exact Nat.pow_lt_pow_right (by omega) (by omega)
  ·exact Nat.two_pow_pos _
theorem renP_len (a o : List Nat) : (renP a o).length = o.length := by simp [renP]
theorem renP_bnd (a o : List Nat) : Bnd o.length (renP a o) := mem_bnd fun x hx => by
 obtain ⟨y, _, rfl⟩ := List.mem_map.1 hx
 exact sqz_lt _ _ _
end Go.Proofs.YtfmmajgkjkmghaaGreat
namespace Go.Proofs.YtfmmajgkjkmghaaGreat
open Go.RowKit
theorem type_ne {w : World} {B B' : Nat} {T1 T2 : TypeId} {s s' n m : Nat} {v u : Value} {xs ys : List Value} (h1 : w.ownsRow B T1 s v n xs) (h2 : w.ownsRow B' T2 s' u m ys) (hne : T1 ≠ T2) {k : Nat} (hv : v.ownBlock = some k) : u.ownBlock ≠ some k := by
 intro hu
 rcases h1.2 with ⟨rfl, _⟩ | ⟨g, cap, cur, rfl, _, hg, _⟩
 ·simp [Value.ownBlock] at hv
 rcases h2.2 with ⟨rfl, _⟩ | ⟨g', cap', cur', rfl, _, hg', _⟩
 ·simp [Value.ownBlock] at hu
 simp [Value.ownBlock] at hv hu
 subst hv; subst hu
 rw [hg] at hg'
 injection hg' with e
 injection e with _ e2 _
 exact hne e2
end Go.Proofs.YtfmmajgkjkmghaaGreat
namespace Go.Proofs.YtfmmajgkjkmghaaGreat
open Go.RowKit
end Go.Proofs.YtfmmajgkjkmghaaGreat
namespace Go.Proofs.YtfmmajgkjkmghaaGreat
open Go.RowKit
end Go.Proofs.YtfmmajgkjkmghaaGreat
