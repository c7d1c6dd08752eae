import Derived.Test.YtikooimokfbffaaGreatDoorHPG
import Derived.Test.YtikooimokfbffaaGreatDoorHQS
import Derived.Deep.RegionHeld3
import Derived.Test.YtikooimokfbffaaGreatDoorHOZ
/- The reference's antichains and widths; what it says of an order and a logic. -/
namespace Go.Proofs.YtikooimokfbffaaGreatDoor
open Go.RowKit
end Go.Proofs.YtikooimokfbffaaGreatDoor
namespace Go.Proofs.YtikooimokfbffaaGreatDoor
open Go.RowKit
end Go.Proofs.YtikooimokfbffaaGreatDoor
namespace Go.Proofs.YtikooimokfbffaaGreatDoor
open Go.RowKit
def poC (n : Int) (a : List Int) (name : ByteArray) : Int := if isPos n a = true then (if 0 ≤ findS names9 name then 0 else 4) else 1
def poR (n : Int) (a : List Int) (name : ByteArray) : Bool := if isPos n a = true then (if 0 ≤ findS names9 name then ofK (a.map Int.toNat) (findS names9 name).toNat else false) else false
theorem pos_of {n : Int} {a : List Int} (h : isPos n a = true) : ∃ b : List Nat, a = zs b ∧ n = b.length ∧ Pos b := by
 obtain ⟨b, h1, h2, h3, h4, h5⟩ := (isPos_iff n a).1 h
 exact ⟨b, h1, h2, Pos.of h3 h4 h5⟩
set_option maxRecDepth 20000 in
theorem implIsPosetOf (n : Int) (a : List Int) (name : ByteArray) (v : Value) (w : World) (hv : Ints w v a) (hL : LaidS 1 names9 w) :
  Calls Tryz.prog 13 #[.agg #[.int .i64 n, v], .string name] w fun e w' => e = .returned (.tuple #[.bool (poR n a name), .int .i64 (poC n a name)]) ∧ Keeps w w' := by
 have kA := (Keeps.refl w).alloc (.cells #[.int .i64 n, v] 34)
 obtain ⟨c0, c1⟩ := BoxF.made w n v 34
 have HI := hid (isPoset_any n a v _ (hv.keeps kA))
 have HK := hid (fun wz (kz : Keeps w wz) => intermediateAt_any name wz (hL.keeps kz))
 have HR : Hid (poR n a name = if isPos n a = true then (if 0 ≤ findS names9 name then ofK (a.map Int.toNat) (findS names9 name).toNat else false) else false) := hid rfl
 have HC : Hid (poC n a name = if isPos n a = true then (if 0 ≤ findS names9 name then 0 else 4) else 1) := hid rfl
 clear hL
 by_cases hc : isPos n a = true
 ·rw [hc] at HI
  rw [if_pos hc] at HR HC
  obtain ⟨b, rfl, rfl, hp⟩ := pos_of hc
  clear hc
  by_cases hk0 : 0 ≤ findS names9 name
  ·obtain ⟨k, hk⟩ := Int.eq_ofNat_of_zero_le hk0
   rw [if_pos hk0] at HR HC
   obtain ⟨hk9, rfl⟩ := find9_name hk
   have HO := hid (fun wz (kz : Keeps w wz) => isOf_any b hp k hk9 v wz (hv.keeps kz))
   have HR2 : Hid (poR b.length (zs b) (nameK k) = ofK b k) := hid (by rw [HR.out, zs_toNat, hk]; rfl)
   rw [hk] at HK
   rw [HC.out, HR2.out]
   obtain ⟨p, cap, rfl, _⟩ := hv
   clear HR HC hk hp hk0
   generalize ofK b k = r at *
   generalize nameK k = nm at *
   go_enter Tryz.func13, Tryz.ntmps13
   go_wp2_with fail
   refine HI.out.mono ?_; rintro e w2 ⟨rfl, k2⟩
   have z0 := k2.cell c0
   have z1 := k2.cell c1
   go_wp2_with fail
   refine (HK.out _ (kA.trans k2)).mono ?_; rintro e w' ⟨rfl, rfl⟩
   go_wp2_with fail
   refine (HO.out _ (kA.trans k2)).mono ?_; rintro e w3 ⟨rfl, k3⟩
   go_wp2_with fail
   go_ret2
   exact ⟨rfl, (kA.trans k2).trans k3⟩
  ·rw [if_neg hk0] at HR HC
   have hm : findS names9 name = -1 := by
    rcases find9 name with h | ⟨k, _, h⟩
    ·exact h
    ·omega
   rw [hm] at HK
   rw [HC.out, HR.out]
   obtain ⟨p, cap, rfl, _⟩ := hv
   clear HR HC hk0 hm hp
   go_enter Tryz.func13, Tryz.ntmps13
   go_wp2_with fail
   refine HI.out.mono ?_; rintro e w2 ⟨rfl, k2⟩
   go_wp2_with fail
   refine (HK.out _ (kA.trans k2)).mono ?_; rintro e w' ⟨rfl, rfl⟩
   go_wp2_with fail
   go_ret2
   exact ⟨rfl, kA.trans k2⟩
 ·rw [if_neg hc] at HR HC
  rw [Bool.not_eq_true] at hc
  rw [hc] at HI
  rw [HC.out, HR.out]
  obtain ⟨p, cap, rfl, _⟩ := hv
  clear HR HC hc
  go_enter Tryz.func13, Tryz.ntmps13
  go_wp2_with fail
  refine HI.out.mono ?_; rintro e w2 ⟨rfl, k2⟩
  go_wp2_with fail
  go_ret2
  exact ⟨rfl, kA.trans k2⟩
end Go.Proofs.YtikooimokfbffaaGreatDoor
