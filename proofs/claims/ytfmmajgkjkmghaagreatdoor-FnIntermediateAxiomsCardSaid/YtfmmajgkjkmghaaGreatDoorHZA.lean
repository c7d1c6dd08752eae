import Derived.Test.YtfmmajgkjkmghaaGreatDoorHCI
import Derived.Test.YtfmmajgkjkmghaaGreatDoorHW4
import Derived.Test.YtfmmajgkjkmghaaGreatDoorHVS
import Derived.Test.YtfmmajgkjkmghaaGreatDoorHSR
import Derived.Test.YtfmmajgkjkmghaaGreatDoorHBase
/- The value of a plain formula in an order: the reference's recursion. -/
namespace Go.Proofs.YtfmmajgkjkmghaaGreatDoor
open Go.RowKit
end Go.Proofs.YtfmmajgkjkmghaaGreatDoor
namespace Go.Proofs.YtfmmajgkjkmghaaGreatDoor
open Go.RowKit
end Go.Proofs.YtfmmajgkjkmghaaGreatDoor
namespace Go.Proofs.YtfmmajgkjkmghaaGreatDoor
open Go.RowKit
def varL (t : Fm) : List Nat := lowB (vm t.enc) 6
theorem varL_mem (t : Fm) : mem (vm t.enc) = zs (varL t) := rfl
theorem varL_lt {t : Fm} {x : Nat} (h : x ∈ varL t) : x < 6 := by
 unfold varL lowB at h
 simpa using (List.mem_filter.1 h).1
theorem varL_nodup (t : Fm) : (varL t).Nodup := by
 unfold varL lowB
 exact List.nodup_range.filter _
def okV (b : List Nat) (t : Fm) (N : Nat) : Bool := frcP b (numL (upL b) (varL t) N) t == 2 ^ b.length - 1
def vldR (b : List Nat) (t : Fm) : Bool := (List.range ((upL b).length ^ (varL t).length)).all (okV b t)
end Go.Proofs.YtfmmajgkjkmghaaGreatDoor
namespace Go.Proofs.YtfmmajgkjkmghaaGreatDoor
end Go.Proofs.YtfmmajgkjkmghaaGreatDoor
