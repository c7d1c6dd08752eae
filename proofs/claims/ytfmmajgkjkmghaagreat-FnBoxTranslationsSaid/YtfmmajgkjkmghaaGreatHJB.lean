import Derived.Test.YtfmmajgkjkmghaaGreatHHD
import Derived.Test.YtfmmajgkjkmghaaGreatHM2
import Derived.Test.YtfmmajgkjkmghaaGreatHBase
/- The reference: is a formula valid on an order? -/
namespace Go.Proofs.YtfmmajgkjkmghaaGreat
open Go.RowKit
def varL (t : Fm) : List Nat := lowB (vm t.enc) 6
theorem varL_lt {t : Fm} {x : Nat} (h : x ∈ varL t) : x < 6 := by
 unfold varL lowB at h
 simpa using (List.mem_filter.1 h).1
end Go.Proofs.YtfmmajgkjkmghaaGreat
namespace Go.Proofs.YtfmmajgkjkmghaaGreat
open Fm
structure KM where
 W : Type
 le : W → W → Prop
 refl : ∀ w, le w w
 trans : ∀ a b c, le a b → le b c → le a c
 V : W → Nat → Prop
 mono : ∀ a b p, le a b → V a p → V b p
namespace KM
def forces (M : KM) : M.W → Fm → Prop
 | w, .var v => M.V w v
 | _, .fls => False
 | w, .and a b => forces M w a ∧ forces M w b
 | w, .or a b => forces M w a ∨ forces M w b
 | w, .imp a b => ∀ u, M.le w u → forces M u a → forces M u b
 | _, .box _ => False
 | _, .dia _ => False
end KM
end Go.Proofs.YtfmmajgkjkmghaaGreat
namespace Go.Proofs.YtfmmajgkjkmghaaGreat
open Fm
def inV (V : List Nat) : Fm → Prop
 | .var p => p ∈ V
 | .fls => True
 | .and a b => inV V a ∧ inV V b
 | .or a b => inV V a ∧ inV V b
 | .imp a b => inV V a ∧ inV V b
 | .box _ => True
 | .dia _ => True
end Go.Proofs.YtfmmajgkjkmghaaGreat
