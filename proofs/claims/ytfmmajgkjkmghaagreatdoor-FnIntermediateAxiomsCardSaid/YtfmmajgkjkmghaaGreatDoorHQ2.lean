import Derived.Test.YtfmmajgkjkmghaaGreatDoorHQE0
import Derived.Test.YtfmmajgkjkmghaaGreatDoorHPP
import Derived.Deep.RegionLaw
/- The reference's l05Flag: transitive frames. -/
namespace Go.Proofs.YtfmmajgkjkmghaaGreatDoor
open Go.RowKit
set_option maxRecDepth 20000 in
set_option maxHeartbeats 4000000 in
theorem l05Flag2_any (b : List Nat) (v : Value) (w : World) (hv : Ints w v (zs b)) (hb : b.length ≤ 8) (hbm : Bnd b.length b) :
  Calls Tryz.prog 119 #[.agg #[.int .i64 b.length, v], .int .i64 2] w fun e w' => e = .returned (.bool (transB b)) ∧ Keeps w w' := by
 have hv0 := hv
 obtain ⟨p, cap, rfl, hle, hmx, hat0, hlen⟩ := hv
 clear hat0
 unfold maxLen at hmx
 rw [zs_length] at *
 have h256 := two8 hb
 have kA := (Keeps.refl w).alloc (.cells #[.int .i64 b.length, .slice p b.length cap] 57)
 have HB := hid (fun i j w2 (hj : j ≤ 8) => l01BitB_any (b.getD i 0) j w2 (Nat.lt_of_lt_of_le (hbm i) h256) hj)
 have HG := hid (fun i w2 (k : Keeps w w2) => l01Image_any b (b.getD i 0) _ w2 (hv0.keeps k) hb (bnd_mem hbm) (hbm i))
 have HW := hid (fun i => withinN (img b (b.getD i 0)) (b.getD i 0) (Nat.lt_of_lt_of_le (img_lt (bnd_mem hbm) _) (by omega)) (Nat.lt_of_lt_of_le (hbm i) (by omega)))
 have HP : Hid (transB b = (List.range b.length).all (fun x => inB (img b (b.getD x 0)) (b.getD x 0))) := hid rfl
 obtain ⟨G, hGe⟩ : ∃ G : Nat → Nat, ∀ i, G i = b.getD i 0 := ⟨fun i => b.getD i 0, fun _ => rfl⟩
 simp only [← hGe] at HB HP HG HW
 obtain ⟨I, hIe⟩ : ∃ I : Nat → Nat, ∀ i, I i = img b (G i) := ⟨fun i => img b (G i), fun _ => rfl⟩
 simp only [← hIe] at HP HG HW
 generalize hn : b.length = n at hle hmx hlen hb kA hv0 HG ⊢
 generalize hP : (fun x => inB (I x) (G x)) = P at HP
 have HGe := hid hGe; clear hGe
 have HIe := hid hIe; clear hIe
 have HPP := hid hP; clear hP
 have HV0 := hid hv0; clear hv0
 have HN := hid hn; clear hn
 clear h256 hbm
 go_enter Tryz.func119, Tryz.ntmps119
 go_wp2_with fail
 go_quiet (fail)
 go_wp2
 go_loopw [4, 7] (fun r x' wr => ∃ x : Nat, x ≤ n ∧ x' = .int .i64 x ∧ r = .bool false ∧ (∀ j, j < x → P j = true) ∧ Keeps w wr) (fun _ x' _ => n - (intOf x').toNat)
 case atStart => exact ⟨0, by omega, rfl, rfl, fun j h => by omega, kA.drewN _⟩
 case round =>
  obtain ⟨x, hx, rfl, rfl, hall, kw⟩ := hrel
  have HA := hid hall; clear hall
  by_cases hlt : x < n
  ·have hlt' : (x : Int) < n := by omega
   have hread : ∀ (j : Nat) (wq : World), Keeps w wq → j < n → ∃ b1 o1, p = some ⟨b1, o1, none⟩ ∧ wq.cell? ⟨b1, o1 + j, none⟩ = some (.int .i64 (G j : Nat)) := by
    intro j wq kq hj
    obtain ⟨_, _, e1, _, _, hat, _⟩ := HV0.out.keeps kq
    rw [zs_length, HN.out] at e1
    cases e1
    obtain ⟨b1, o1, e, h1⟩ := hat.int j (by rw [zs_length, HN.out]; omega)
    rw [zs_get, ← getD_get, ← HGe.out] at h1
    exact ⟨b1, o1, e, h1⟩
   have HR := hid hread; clear hread
   obtain ⟨b1, o1, rfl, h1⟩ := HR.out x wr kw hlt
   have hpx : P x = inB (I x) (G x) := by rw [← HPP.out]
   have HH := hid (HG.out x wr kw)
   have hww := HW.out x
   have KW := hid kw; clear kw
   cases hbit : inB (I x) (G x)
   ·rw [hbit] at hpx hww
    have HPx := hid hpx; clear hpx
    have hwn : (bits .andNot .i64 ((I x : Nat) : Int) ((G x : Nat) : Int) != 0) = true := by rw [bne, hww]; rfl
    clear hbit hww
    go_wp2_with fail
    go_quiet (first | (go_at_call 153; refine quietS (HG.out x _ (KW.out.drewN _))))
    go_wp2_with fail
    go_ret
    refine ⟨ret_bool ?_, KW.out.drewN _⟩
    rw [HP.out]
    exact (all_false (x := x) (by have := HN.out; omega) HPx.out).symm
   ·rw [hbit] at hpx hww
    have HPx := hid hpx; clear hpx
    have hwn : (bits .andNot .i64 ((I x : Nat) : Int) ((G x : Nat) : Int) != 0) = false := by rw [bne, hww]; rfl
    clear hbit hww
    go_wp2_with fail
    go_quiet (first | (go_at_call 153; refine quietS (HG.out x _ (KW.out.drewN _))))
    go_wp2_with fail
    have KWn := hid (fun nn => KW.out.drewN nn)
    clear HH
    go_loopw [4, 8] (fun r y' wr' => ∃ y : Nat, y ≤ n ∧ y' = .int .i64 y ∧ r = .bool false ∧ Keeps w wr') (fun _ y' _ => n - (intOf y').toNat)
    case atStart => exact ⟨0, by omega, rfl, rfl, KWn.out _⟩
    case round =>
     obtain ⟨y, hy, rfl, rfl, kw⟩ := hrel
     clear KW
     by_cases hyt : y < n
     ·have hyt' : (y : Int) < n := by omega
      obtain ⟨_, _, e, h1⟩ := HR.out x wr kw hlt
      cases e
      have HH := hid (HB.out x y wr (by omega))
      have KW := hid kw; clear kw
      cases hbit : (G x).testBit y
      ·rw [hbit] at HH
       clear hbit
       go_wp2_with fail
       refine HH.out.mono ?_; rintro e w' ⟨rfl, rfl⟩
       go_wp2_with fail
       go_roundw
       case rel => exact ⟨y + 1, by omega, by go_num, rfl, KW.out⟩
       case measure => simp [intOf]; omega
      ·rw [hbit] at HH
       clear hbit
       go_wp2_with fail
       refine HH.out.mono ?_; rintro e w' ⟨rfl, rfl⟩
       go_wp2_with fail
       go_loopw [4, 9] (fun r z' wr' => ∃ z : Nat, z ≤ n ∧ z' = .int .i64 z ∧ r = .bool false ∧ Keeps w wr') (fun _ z' _ => n - (intOf z').toNat)
       case atStart => exact ⟨0, by omega, rfl, rfl, KW.out⟩
       case round =>
        obtain ⟨z, hz, rfl, rfl, kw⟩ := hrel
        clear KW HH
        by_cases hzt : z < n
        ·have hzt' : (z : Int) < n := by omega
         obtain ⟨_, _, e, h1⟩ := HR.out x wr kw hlt
         cases e
         have HH := hid (HB.out x z wr (by omega))
         have KW := hid kw; clear kw
         cases hbit : (G x).testBit z
         ·rw [hbit] at HH
          clear hbit
          go_wp2_with fail
          refine HH.out.mono ?_; rintro e w' ⟨rfl, rfl⟩
          go_wp2_with fail
          go_roundw
          case rel => exact ⟨z + 1, by omega, by go_num, rfl, KW.out⟩
          case measure => simp [intOf]; omega
         ·rw [hbit] at HH
          clear hbit
          go_wp2_with fail
          refine HH.out.mono ?_; rintro e w' ⟨rfl, rfl⟩
          go_wp2_with fail
          go_quiet (fail)
          go_wp2_with fail
          go_roundw
          case rel => exact ⟨z + 1, by omega, by go_num, rfl, KW.out.drewN _⟩
          case measure => simp [intOf]; omega
        ·obtain rfl : z = n := by omega
         have hzt' : ¬ (z : Int) < z := by omega
         go_wp2_with fail
         go_roundw
         case rel => exact ⟨y + 1, by omega, by go_num, rfl, kw⟩
         case measure => simp [intOf]; omega
     ·obtain rfl : y = n := by omega
      have hyt' : ¬ (y : Int) < y := by omega
      go_wp2_with fail
      go_roundw
      case rel => exact ⟨x + 1, by omega, by go_num, rfl, nextQ HA.out HPx.out, kw⟩
      case measure => simp [intOf]; omega
  ·obtain rfl : x = n := by omega
   have hlt' : ¬ (x : Int) < x := by omega
   go_wp2_with fail
   go_ret
   refine ⟨ret_bool ?_, kw⟩
   rw [HP.out]
   exact (all_true (fun j hj => HA.out j (by have := HN.out; omega))).symm
end Go.Proofs.YtfmmajgkjkmghaaGreatDoor
namespace Go.Proofs.YtfmmajgkjkmghaaGreatDoor
open Go.RowKit
set_option maxRecDepth 20000 in
set_option maxHeartbeats 4000000 in
theorem l05Flag8_any (b : List Nat) (v : Value) (w : World) (hv : Ints w v (zs b)) (hb : b.length ≤ 8) (hbm : Bnd b.length b) :
  Calls Tryz.prog 119 #[.agg #[.int .i64 b.length, v], .int .i64 8] w fun e w' => e = .returned (.bool (antiB b)) ∧ Keeps w w' := by
 have hv0 := hv
 obtain ⟨p, cap, rfl, hle, hmx, hat0, hlen⟩ := hv
 clear hat0
 unfold maxLen at hmx
 rw [zs_length] at *
 have h256 := two8 hb
 have kA := (Keeps.refl w).alloc (.cells #[.int .i64 b.length, .slice p b.length cap] 57)
 have HB := hid (fun i j w2 (hj : j ≤ 8) => l01BitB_any (b.getD i 0) j w2 (Nat.lt_of_lt_of_le (hbm i) h256) hj)
 have HP : Hid (antiB b = (List.range b.length).all (fun x => (List.range b.length).all fun y => antiQ b x y)) := hid rfl
 obtain ⟨G, hGe⟩ : ∃ G : Nat → Nat, ∀ i, G i = b.getD i 0 := ⟨fun i => b.getD i 0, fun _ => rfl⟩
 simp only [← hGe] at HB
 obtain ⟨Q, hQe⟩ : ∃ Q : Nat → Nat → Bool, ∀ i j, Q i j = antiQ b i j := ⟨fun i j => antiQ b i j, fun _ _ => rfl⟩
 simp only [← hQe] at HP
 generalize hn : b.length = n at hle hmx hlen hb kA hv0 ⊢
 generalize hP : (fun x => (List.range b.length).all fun y => Q x y) = P at HP
 have HGe := hid hGe; clear hGe
 have HQe := hid hQe; clear hQe
 have HPP := hid hP; clear hP
 have HV0 := hid hv0; clear hv0
 have HN := hid hn; clear hn
 clear h256 hbm
 go_enter Tryz.func119, Tryz.ntmps119
 go_wp2_with fail
 go_quiet (fail)
 go_wp2
 go_loopw [4, 7] (fun r x' wr => ∃ x : Nat, x ≤ n ∧ x' = .int .i64 x ∧ r = .bool false ∧ (∀ j, j < x → P j = true) ∧ Keeps w wr) (fun _ x' _ => n - (intOf x').toNat)
 case atStart => exact ⟨0, by omega, rfl, rfl, fun j h => by omega, kA.drewN _⟩
 case round =>
  obtain ⟨x, hx, rfl, rfl, hall, kw⟩ := hrel
  have HA := hid hall; clear hall
  by_cases hlt : x < n
  ·have hlt' : (x : Int) < n := by omega
   have hread : ∀ (j : Nat) (wq : World), Keeps w wq → j < n → ∃ b1 o1, p = some ⟨b1, o1, none⟩ ∧ wq.cell? ⟨b1, o1 + j, none⟩ = some (.int .i64 (G j : Nat)) := by
    intro j wq kq hj
    obtain ⟨_, _, e1, _, _, hat, _⟩ := HV0.out.keeps kq
    rw [zs_length, HN.out] at e1
    cases e1
    obtain ⟨b1, o1, e, h1⟩ := hat.int j (by rw [zs_length, HN.out]; omega)
    rw [zs_get, ← getD_get, ← HGe.out] at h1
    exact ⟨b1, o1, e, h1⟩
   have HR := hid hread; clear hread
   obtain ⟨b1, o1, rfl, h1⟩ := HR.out x wr kw hlt
   have KW := hid kw; clear kw
   go_wp2_with fail
   go_loopw [4, 8] (fun r y' wr' => ∃ y : Nat, y ≤ n ∧ y' = .int .i64 y ∧ r = .bool false ∧ Keeps w wr' ∧ (∀ j, j < y → Q x j = true)) (fun _ y' _ => n - (intOf y').toNat)
   case atStart => exact ⟨0, by omega, rfl, rfl, KW.out, fun j h => by omega⟩
   case round =>
    obtain ⟨y, hy, rfl, rfl, kw, hqs⟩ := hrel
    clear KW
    by_cases hyt : y < n
    ·have hyt' : (y : Int) < n := by omega
     obtain ⟨_, _, e, h1⟩ := HR.out x wr kw hlt
     cases e
     obtain ⟨_, _, e, h2⟩ := HR.out y wr kw hyt
     cases e
     have HQ := hid hqs; clear hqs
     have hq : Q x y = !((G x).testBit y && !(x == y) && (G y).testBit x) := by rw [HQe.out, HGe.out, HGe.out]; rfl
     have Hq := hid hq; clear hq
     have HH := hid (HB.out x y wr (by omega))
     have KW := hid kw; clear kw
     cases hbit : (G x).testBit y
     ·rw [hbit] at HH Hq
      clear hbit
      go_wp2_with fail
      refine HH.out.mono ?_; rintro e w' ⟨rfl, rfl⟩
      go_wp2_with fail
      go_roundw
      case rel => exact ⟨y + 1, by omega, by go_num, rfl, KW.out, nextQ HQ.out (by rw [Hq.out]; rfl)⟩
      case measure => simp [intOf]; omega
     ·rw [hbit] at HH Hq
      clear hbit
      by_cases hxy : x = y
      ·have hd : ((x : Int) != (y : Int)) = false := by simp [hxy]
       have hq1 : Q x y = true := by rw [Hq.out]; simp [hxy]
       have HQ1 := hid hq1; clear hq1 hxy
       go_wp2_with fail
       refine HH.out.mono ?_; rintro e w' ⟨rfl, rfl⟩
       go_wp2_with fail
       go_loopw [4, 9] (fun r z' wr' => ∃ z : Nat, z ≤ n ∧ z' = .int .i64 z ∧ r = .bool false ∧ Keeps w wr') (fun _ z' _ => n - (intOf z').toNat)
       case atStart => exact ⟨0, by omega, rfl, rfl, KW.out⟩
       case round =>
        obtain ⟨z, hz, rfl, rfl, kw⟩ := hrel
        clear KW HH
        by_cases hzt : z < n
        ·have hzt' : (z : Int) < n := by omega
         obtain ⟨_, _, e, h1⟩ := HR.out x wr kw hlt
         cases e
         have HH := hid (HB.out x z wr (by omega))
         have KW := hid kw; clear kw
         cases hbit : (G x).testBit z
         ·rw [hbit] at HH
          clear hbit
          go_wp2_with fail
          refine HH.out.mono ?_; rintro e w' ⟨rfl, rfl⟩
          go_wp2_with fail
          go_roundw
          case rel => exact ⟨z + 1, by omega, by go_num, rfl, KW.out⟩
          case measure => simp [intOf]; omega
         ·rw [hbit] at HH
          clear hbit
          go_wp2_with fail
          refine HH.out.mono ?_; rintro e w' ⟨rfl, rfl⟩
          go_wp2_with fail
          go_quiet (fail)
          go_wp2_with fail
          go_roundw
          case rel => exact ⟨z + 1, by omega, by go_num, rfl, KW.out.drewN _⟩
          case measure => simp [intOf]; omega
        ·obtain rfl : z = n := by omega
         have hzt' : ¬ (z : Int) < z := by omega
         go_wp2_with fail
         go_roundw
         case rel => exact ⟨y + 1, by omega, by go_num, rfl, kw, nextQ HQ.out HQ1.out⟩
         case measure => simp [intOf]; omega
      ·have hd : ((x : Int) != (y : Int)) = true := by simp; omega
       have HH2 := hid (HB.out y x wr (by omega))
       cases hbit2 : (G y).testBit x
       ·rw [hbit2] at HH2 Hq
        have hq1 : Q x y = true := by rw [Hq.out]; simp
        have HQ1 := hid hq1; clear hq1 hxy hbit2
        go_wp2_with fail
        refine HH.out.mono ?_; rintro e w' ⟨rfl, rfl⟩
        go_wp2_with fail
        refine HH2.out.mono ?_; rintro e w' ⟨rfl, rfl⟩
        go_wp2_with fail
        go_loopw [4, 9] (fun r z' wr' => ∃ z : Nat, z ≤ n ∧ z' = .int .i64 z ∧ r = .bool false ∧ Keeps w wr') (fun _ z' _ => n - (intOf z').toNat)
        case atStart => exact ⟨0, by omega, rfl, rfl, KW.out⟩
        case round =>
         obtain ⟨z, hz, rfl, rfl, kw⟩ := hrel
         clear KW HH
         by_cases hzt : z < n
         ·have hzt' : (z : Int) < n := by omega
          obtain ⟨_, _, e, h1⟩ := HR.out x wr kw hlt
          cases e
          have HH := hid (HB.out x z wr (by omega))
          have KW := hid kw; clear kw
          cases hbit : (G x).testBit z
          ·rw [hbit] at HH
           clear hbit
           go_wp2_with fail
           refine HH.out.mono ?_; rintro e w' ⟨rfl, rfl⟩
           go_wp2_with fail
           go_roundw
           case rel => exact ⟨z + 1, by omega, by go_num, rfl, KW.out⟩
           case measure => simp [intOf]; omega
          ·rw [hbit] at HH
           clear hbit
           go_wp2_with fail
           refine HH.out.mono ?_; rintro e w' ⟨rfl, rfl⟩
           go_wp2_with fail
           go_quiet (fail)
           go_wp2_with fail
           go_roundw
           case rel => exact ⟨z + 1, by omega, by go_num, rfl, KW.out.drewN _⟩
           case measure => simp [intOf]; omega
         ·obtain rfl : z = n := by omega
          have hzt' : ¬ (z : Int) < z := by omega
          go_wp2_with fail
          go_roundw
          case rel => exact ⟨y + 1, by omega, by go_num, rfl, kw, nextQ HQ.out HQ1.out⟩
          case measure => simp [intOf]; omega
       ·rw [hbit2] at HH2 Hq
        have hq1 : Q x y = false := by rw [Hq.out]; simp [hxy]
        have HQ1 := hid hq1; clear hq1 hxy hbit2
        go_wp2_with fail
        refine HH.out.mono ?_; rintro e w' ⟨rfl, rfl⟩
        go_wp2_with fail
        refine HH2.out.mono ?_; rintro e w' ⟨rfl, rfl⟩
        go_wp2_with fail
        go_ret
        refine ⟨ret_bool ?_, KW.out⟩
        rw [HP.out]
        refine (all_false (x := x) (by have := HN.out; omega) ?_).symm
        rw [← HPP.out]
        exact all_false (x := y) (by have := HN.out; omega) HQ1.out
    ·obtain rfl : y = n := by omega
     have hyt' : ¬ (y : Int) < y := by omega
     go_wp2_with fail
     go_roundw
     case rel => exact ⟨x + 1, by omega, by go_num, rfl, nextQ HA.out (by rw [← HPP.out]; exact all_true (fun j hj => hqs j (by have := HN.out; omega))), kw⟩
     case measure => simp [intOf]; omega
  ·obtain rfl : x = n := by omega
   have hlt' : ¬ (x : Int) < x := by omega
   go_wp2_with fail
   go_ret
   refine ⟨ret_bool ?_, kw⟩
   rw [HP.out]
   exact (all_true (fun j hj => HA.out j (by have := HN.out; omega))).symm
end Go.Proofs.YtfmmajgkjkmghaaGreatDoor
namespace Go.Proofs.YtfmmajgkjkmghaaGreatDoor
open Go.RowKit
def isPos (n : Int) (a : List Int) : Bool := inR n 0 8 && decide ((a.length : Int) = n) && a.all (isM a.length) && posB (a.map Int.toNat)
theorem zs_toNat (b : List Nat) : (zs b).map Int.toNat = b := by
 unfold zs
 rw [List.map_map]
 conv => rhs; rw [← List.map_id b]
 rfl
theorem isPos_iff (n : Int) (a : List Int) : isPos n a = true ↔ ∃ b : List Nat, a = zs b ∧ n = b.length ∧ b.length ≤ 8 ∧ Bnd b.length b ∧ posB b = true := by
 unfold isPos
 rw [Bool.and_eq_true, Bool.and_eq_true, Bool.and_eq_true, decide_eq_true_eq]
 constructor
 ·rintro ⟨⟨⟨h1, h2⟩, h3⟩, h4⟩
  obtain ⟨b, rfl, hb⟩ := all_isM h3
  rw [zs_length] at *
  rw [zs_toNat] at h4
  simp [inR] at h1
  exact ⟨b, rfl, h2.symm, by omega, mem_bnd hb, h4⟩
 ·rintro ⟨b, rfl, rfl, h8, hb, hp⟩
  rw [zs_length, zs_toNat]
  exact ⟨⟨⟨by simp [inR]; omega, rfl⟩, isM_all (bnd_mem hb)⟩, hp⟩
set_option maxRecDepth 20000 in
theorem frameOf_any (a : List Int) (v : Value) (w : World) (hv : Ints w v a) : Calls Tryz.prog 29 #[v] w fun e w' => e = .returned (.agg #[.int .i64 a.length, v]) ∧ Keeps w w' := by
 have HS := hid (fun w2 (k : Keeps w w2) => sizeI_any a v w2 (hv.keeps k))
 have kA := (Keeps.refl w).alloc (.cells #[.int .i64 0, .slice none 0 0] 57)
 obtain ⟨p, cap, rfl, _⟩ := hv
 go_enter Tryz.func29, Tryz.ntmps29
 go_wp2_with fail
 refine (HS.out _ kA).mono ?_; rintro e w2 ⟨rfl, rfl⟩
 go_wp2_with fail
 refine bodyPost_ret (v := .agg #[.int .i64 a.length, .slice p a.length cap]) (by simp [results, Tryz.results29, go_sem]) rfl ?_
 exact ⟨rfl, (Keeps.refl w).alloc _⟩
set_option maxRecDepth 20000 in
theorem frame_any (n : Int) (a : List Int) (v : Value) (w : World) (hv : Ints w v a) : Calls Tryz.prog 25 #[.agg #[.int .i64 n, v]] w fun e w' => e = .returned (.agg #[.int .i64 a.length, v]) ∧ Keeps w w' := by
 have kA := ((Keeps.refl w).alloc (.cells #[.int .i64 n, v] 26)).alloc (.cells #[.int .i64 0, .slice none 0 0] 57)
 have HF := hid (fun w2 (k : Keeps w w2) => frameOf_any a v w2 (hv.keeps k))
 obtain ⟨p, cap, rfl, _⟩ := hv
 go_enter Tryz.func25, Tryz.ntmps25
 go_wp2_with fail
 refine (HF.out _ kA).mono ?_; rintro e w2 ⟨rfl, k2⟩
 have e0 : w2.cell? ⟨w.heap.size + 1, 0, none⟩ = some (.int .i64 0) := k2.cell (by simp)
 have e1 : w2.cell? ⟨w.heap.size + 1, 1, none⟩ = some (.slice none 0 0) := k2.cell (by simp)
 obtain ⟨hc2, hf2⟩ := k2.both
 go_wp2_with fail
 refine bodyPost_ret (v := .agg #[.int .i64 a.length, .slice p a.length cap]) (by simp [results, Tryz.results25, go_sem, e0, e1]) rfl ?_
 exact ⟨rfl, ((kA.trans k2).setCell (by simp) _).setCell (by simp) _⟩
set_option maxRecDepth 20000 in
set_option maxHeartbeats 1000000 in
theorem isPoset_any (n : Int) (a : List Int) (v : Value) (w : World) (hv : Ints w v a) : Calls Tryz.prog 14 #[.agg #[.int .i64 n, v]] w fun e w' => e = .returned (.bool (isPos n a)) ∧ Keeps w w' := by
 have kA := (Keeps.refl w).alloc (.cells #[.int .i64 n, v] 26)
 have hc := BoxF.made w n v 26
 have HN := hid (fun w2 => inRange_any n 0 8 w2)
 have HS := hid (fun w2 (k : Keeps w w2) => sizeI_any a v w2 (hv.keeps k))
 have HR := hid (fun w2 (k : Keeps w w2) => isRelation_any a v w2 (hv.keeps k))
 have HF := hid (fun w2 (k : Keeps w w2) => frame_any n a v w2 (hv.keeps k))
 have H0 := hid (fun w2 b (e : a = zs b) (k : Keeps w w2) => hasFlag0_any b v w2 (e ▸ hv.keeps k))
 have H2 := hid (fun w2 b (e : a = zs b) (k : Keeps w w2) => hasFlag2_any b v w2 (e ▸ hv.keeps k))
 have H8 := hid (fun w2 b (e : a = zs b) (k : Keeps w w2) => hasFlag8_any b v w2 (e ▸ hv.keeps k))
 have HP : Hid (isPos n a = (inR n 0 8 && decide ((a.length : Int) = n) && a.all (isM a.length) && posB (a.map Int.toNat))) := hid rfl
 obtain ⟨c0, c1⟩ := hc
 obtain ⟨p, cap, rfl, _⟩ := hv
 cases h1 : inR n 0 8
 ·rw [h1] at HN HP
  simp only [Bool.false_and] at HP
  clear h1
  go_enter Tryz.func14, Tryz.ntmps14
  go_wp2_with fail
  go_quiet (first | (go_at_call 42; refine quietS (HN.out _)))
  go_wp2_with fail
  go_ret
  exact ⟨by rw [HP.out]; rfl, kA.drewN _⟩
 ·rw [h1] at HN HP
  have h8 : n ≤ 8 := by simp [inR] at h1; omega
  clear h1
  by_cases h2 : (a.length : Int) = n
  ·have hd : ((a.length : Int) != n) = false := by simp [h2]
   rw [decide_eq_true h2] at HP
   have hl8 : a.length ≤ 8 := by omega
   replace HR := hid (fun w2 k => HR.out w2 k hl8)
   subst h2
   have kd0 := (Keeps.refl (w.alloc (.cells #[.int .i64 a.length, .slice p a.length cap] 26))).drew
   have kD := kA.drew
   have e0 := kd0.cell c0
   have e1 := kd0.cell c1
   cases h3 : a.all (isM a.length)
   ·rw [h3] at HR HP
    simp only [Bool.true_and, Bool.false_and] at HP
    clear h3
    go_enter Tryz.func14, Tryz.ntmps14
    go_wp2_with fail
    go_region_held3 (fun w' => w'.cell? ⟨w.heap.size, 0, none⟩ = some (.int .i64 a.length) ∧ w'.cell? ⟨w.heap.size, 1, none⟩ = some (.slice p a.length cap)) (first | exact ⟨e0, e1⟩ | exact ⟨z0, z1⟩) (first | (go_at_call 42; refine (HN.out _).mono ?_; rintro e w' ⟨rfl, rfl⟩) | (go_at_call 43; refine (HS.out _ kD).mono ?_; rintro e w' ⟨rfl, rfl⟩) | (go_at_call 44; refine (HR.out _ kD).mono ?_; rintro e w2 ⟨rfl, k2⟩; have z0 := k2.cell e0; have z1 := k2.cell e1))
    go_wp2_with fail
    go_ret
    exact ⟨by rw [HP.out]; rfl, kD.trans k2⟩
   ·rw [h3] at HR HP
    obtain ⟨b, rfl, hb⟩ := all_isM h3
    have hbm := mem_bnd hb
    clear h3 hb
    simp only [Bool.true_and, zs_toNat] at HP
    rw [zs_length] at *
    have H0' := hid (fun w2 k => H0.out w2 b rfl k hl8 hbm)
    have H2' := hid (fun w2 k => H2.out w2 b rfl k hl8 hbm)
    have H8' := hid (fun w2 k => H8.out w2 b rfl k hl8 hbm)
    have HQ : Hid (posB b = (reflB b && transB b && antiB b)) := hid rfl
    clear H0 H2 H8 hbm
    generalize reflB b = q0 at *
    generalize transB b = q2 at *
    generalize antiB b = q8 at *
    generalize b.length = m at *
    go_enter Tryz.func14, Tryz.ntmps14
    go_wp2_with fail
    go_region_held3 (fun w' => w'.cell? ⟨w.heap.size, 0, none⟩ = some (.int .i64 m) ∧ w'.cell? ⟨w.heap.size, 1, none⟩ = some (.slice p m cap)) (first | exact ⟨e0, e1⟩ | exact ⟨z0, z1⟩) (first | (go_at_call 42; refine (HN.out _).mono ?_; rintro e w' ⟨rfl, rfl⟩) | (go_at_call 43; refine (HS.out _ kD).mono ?_; rintro e w' ⟨rfl, rfl⟩) | (go_at_call 44; refine (HR.out _ kD).mono ?_; rintro e w2 ⟨rfl, k2⟩; have z0 := k2.cell e0; have z1 := k2.cell e1))
    have k2' := kD.trans k2
    clear e0 e1 c0 c1 HN HS HR
    go_wp2_with fail
    refine (HF.out _ k2').mono ?_; rintro e w3 ⟨rfl, k3⟩
    have k4 := (k2'.trans k3).alloc (.cells #[.int .i64 m, .slice p m cap] 57)
    have y0 : (w3.alloc (.cells #[.int .i64 m, .slice p m cap] 57)).cell? ⟨w3.heap.size, 0, none⟩ = some (.int .i64 m) := by simp
    have y1 : (w3.alloc (.cells #[.int .i64 m, .slice p m cap] 57)).cell? ⟨w3.heap.size, 1, none⟩ = some (.slice p m cap) := by simp
    clear z0 z1
    go_wp2_with fail
    refine (H0'.out _ k4).mono ?_; rintro e w4 ⟨rfl, k5⟩
    replace k4 := k4.trans k5
    replace y0 := k5.cell y0
    replace y1 := k5.cell y1
    cases q0
    ·go_wp2_with fail
     go_ret
     exact ⟨by rw [HP.out, HQ.out]; rfl, k4⟩
    ·go_wp2_with fail
     refine (H2'.out _ k4).mono ?_; rintro e w5 ⟨rfl, k6⟩
     replace k4 := k4.trans k6
     replace y0 := k6.cell y0
     replace y1 := k6.cell y1
     cases q2
     ·go_wp2_with fail
      go_ret
      exact ⟨by rw [HP.out, HQ.out]; rfl, k4⟩
     ·go_wp2_with fail
      refine (H8'.out _ k4).mono ?_; rintro e w6 ⟨rfl, k7⟩
      go_wp2_with fail
      go_ret
      exact ⟨by rw [HP.out, HQ.out]; cases q8 <;> rfl, k4.trans k7⟩
  ·have hd : ((a.length : Int) != n) = true := by simp [h2]
   rw [decide_eq_false h2] at HP
   simp only [Bool.and_false, Bool.false_and] at HP
   clear h2
   go_enter Tryz.func14, Tryz.ntmps14
   go_wp2_with fail
   go_quiet (first | (go_at_call 42; refine quietS (HN.out _)) | (go_at_call 43; refine quietS (HS.out _ (kA.drewN _))))
   go_wp2_with fail
   go_ret
   exact ⟨by rw [HP.out]; rfl, kA.drewN _⟩
set_option maxRecDepth 20000 in
set_option maxHeartbeats 1000000 in
theorem l16Is_any (n : Int) (a : List Int) (v : Value) (w : World) (hv : Ints w v a) : Calls Tryz.prog 56 #[.agg #[.int .i64 n, v]] w fun e w' => e = .returned (.bool (isPos n a)) ∧ Keeps w w' := by
 have kA := (Keeps.refl w).alloc (.cells #[.int .i64 n, v] 26)
 have hc := BoxF.made w n v 26
 have HN := hid (fun w2 => l01In_any n 0 8 w2)
 have HR := hid (fun w2 m (hm : m ≤ 8) (k : Keeps w w2) => l01Masks_any m a v w2 hm (hv.keeps k))
 have H0 := hid (fun w2 b (e : a = zs b) (k : Keeps w w2) => l05Flag0_any b v w2 (e ▸ hv.keeps k))
 have H2 := hid (fun w2 b (e : a = zs b) (k : Keeps w w2) => l05Flag2_any b v w2 (e ▸ hv.keeps k))
 have H8 := hid (fun w2 b (e : a = zs b) (k : Keeps w w2) => l05Flag8_any b v w2 (e ▸ hv.keeps k))
 have HP : Hid (isPos n a = (inR n 0 8 && decide ((a.length : Int) = n) && a.all (isM a.length) && posB (a.map Int.toNat))) := hid rfl
 obtain ⟨c0, c1⟩ := hc
 obtain ⟨p, cap, rfl, _, hmx, _⟩ := hv
 unfold maxLen at hmx
 cases h1 : inR n 0 8
 ·rw [h1] at HN HP
  simp only [Bool.false_and] at HP
  clear h1
  go_enter Tryz.func56, Tryz.ntmps56
  go_wp2_with fail
  refine (HN.out _).mono ?_; rintro e w2 ⟨rfl, rfl⟩
  go_wp2_with fail
  go_ret
  exact ⟨by rw [HP.out]; rfl, kA⟩
 ·rw [h1] at HN HP
  have h8 : n ≤ 8 := by simp [inR] at h1; omega
  clear h1
  by_cases h2 : (a.length : Int) = n
  ·have hd : ((a.length : Int) != n) = false := by simp [h2]
   rw [decide_eq_true h2] at HP
   have hl8 : a.length ≤ 8 := by omega
   replace HR := hid (fun w2 k => HR.out w2 a.length hl8 k)
   subst h2
   cases h3 : a.all (isM a.length)
   ·rw [h3] at HR HP
    simp only [Bool.true_and, Bool.false_and] at HP
    clear h3
    go_enter Tryz.func56, Tryz.ntmps56
    go_wp2_with fail
    refine (HN.out _).mono ?_; rintro e w2 ⟨rfl, rfl⟩
    go_wp2_with fail
    refine (HR.out _ kA).mono ?_; rintro e w3 ⟨rfl, k3⟩
    go_wp2_with fail
    go_ret
    exact ⟨by rw [HP.out]; rfl, kA.trans k3⟩
   ·rw [h3] at HR HP
    obtain ⟨b, rfl, hb⟩ := all_isM h3
    have hbm := mem_bnd hb
    clear h3 hb
    simp only [Bool.true_and, zs_toNat] at HP
    rw [zs_length] at *
    have H0' := hid (fun w2 k => H0.out w2 b rfl k hl8 hbm)
    have H2' := hid (fun w2 k => H2.out w2 b rfl k hl8 hbm)
    have H8' := hid (fun w2 k => H8.out w2 b rfl k hl8 hbm)
    have HQ : Hid (posB b = (reflB b && transB b && antiB b)) := hid rfl
    clear H0 H2 H8 hbm
    generalize reflB b = q0 at *
    generalize transB b = q2 at *
    generalize antiB b = q8 at *
    generalize b.length = m at *
    go_enter Tryz.func56, Tryz.ntmps56
    go_wp2_with fail
    refine (HN.out _).mono ?_; rintro e w2 ⟨rfl, rfl⟩
    go_wp2_with fail
    refine (HR.out _ kA).mono ?_; rintro e w3 ⟨rfl, k3⟩
    have z0 := k3.cell c0
    have z1 := k3.cell c1
    have k4 := (kA.trans k3).alloc (.cells #[.int .i64 m, .slice p m cap] 57)
    have y0 : (w3.alloc (.cells #[.int .i64 m, .slice p m cap] 57)).cell? ⟨w3.heap.size, 0, none⟩ = some (.int .i64 m) := by simp
    have y1 : (w3.alloc (.cells #[.int .i64 m, .slice p m cap] 57)).cell? ⟨w3.heap.size, 1, none⟩ = some (.slice p m cap) := by simp
    clear c0 c1 HN HR
    go_wp2_with fail
    refine (H0'.out _ k4).mono ?_; rintro e w4 ⟨rfl, k5⟩
    replace k4 := k4.trans k5
    replace y0 := k5.cell y0
    replace y1 := k5.cell y1
    clear z0 z1
    cases q0
    ·go_wp2_with fail
     go_ret
     exact ⟨by rw [HP.out, HQ.out]; rfl, k4⟩
    ·go_wp2_with fail
     refine (H2'.out _ k4).mono ?_; rintro e w5 ⟨rfl, k6⟩
     replace k4 := k4.trans k6
     replace y0 := k6.cell y0
     replace y1 := k6.cell y1
     cases q2
     ·go_wp2_with fail
      go_ret
      exact ⟨by rw [HP.out, HQ.out]; rfl, k4⟩
     ·go_wp2_with fail
      refine (H8'.out _ k4).mono ?_; rintro e w6 ⟨rfl, k7⟩
      go_wp2_with fail
      go_ret
      exact ⟨by rw [HP.out, HQ.out]; cases q8 <;> rfl, k4.trans k7⟩
  ·have hd : ((a.length : Int) != n) = true := by simp [h2]
   rw [decide_eq_false h2] at HP
   simp only [Bool.and_false, Bool.false_and] at HP
   clear h2
   go_enter Tryz.func56, Tryz.ntmps56
   go_wp2_with fail
   refine (HN.out _).mono ?_; rintro e w2 ⟨rfl, rfl⟩
   go_wp2_with fail
   go_ret
   exact ⟨by rw [HP.out]; rfl, kA⟩
end Go.Proofs.YtfmmajgkjkmghaaGreatDoor
namespace Go.Proofs.YtfmmajgkjkmghaaGreatDoor
open Go.RowKit
end Go.Proofs.YtfmmajgkjkmghaaGreatDoor
namespace Go.Proofs.YtfmmajgkjkmghaaGreatDoor
open Go.RowKit
end Go.Proofs.YtfmmajgkjkmghaaGreatDoor
