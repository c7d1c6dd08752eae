import Derived.Test.YtfmmajgkjkmghaaGreatDoorHQE0
import Derived.Test.YtfmmajgkjkmghaaGreatDoorHQ2
import Derived.Test.YtfmmajgkjkmghaaGreatDoorHQR
import Derived.Deep.RegionHeld3
import Derived.Test.YtfmmajgkjkmghaaGreatDoorHQK
import Derived.Deep.RegionWith
import Derived.Test.YtfmmajgkjkmghaaGreatDoorHQJ
/- Images of masks under numbers, boxes, the number of classes: both sides. -/
namespace Go.Proofs.YtfmmajgkjkmghaaGreatDoor
open Go.RowKit
set_option maxRecDepth 20000 in
set_option maxHeartbeats 1000000 in
theorem mapMask_any (c : List Nat) (m : Nat) (v : Value) (w : World) (hv : Ints w v (zs c)) (hc : c.length ≤ 8) (hcl : ∀ i, i < c.length → c.getD i 0 < 8) (hm : m < 2 ^ c.length) :
  Calls Tryz.prog 75 #[v, .int .i64 m] w fun e w' => e = .returned (.int .i64 (mapM c m)) ∧ Keeps w w' := by
 have h256 := two8 hc
 have HM := hid (membersB_any m w (by omega))
 have hmem : ∀ x ∈ memB m, x < c.length := fun x hx => memB_lt hm hx
 have hml : (memB m).length ≤ 8 := lowB_len m 8
 have hmap : mapM c m = foldM c (memB m) := rfl
 have HLT := hid (fun l (h : ∀ x ∈ l, x < c.length) => foldM_lt (c := c) (n := 8) l (fun x hx => hcl x (h x hx)))
 have hv0 := hv
 obtain ⟨p, cap, rfl, hle, hmx, _, _⟩ := hv
 unfold maxLen at hmx
 rw [zs_length] at *
 have HMEM := hid hmem
 have HMAP := hid hmap
 have HCL := hid hcl
 clear hm hmem hmap h256 hcl
 generalize memB m = l at *
 go_enter Tryz.func75, Tryz.ntmps75
 go_wp2_with fail
 refine HM.out.mono ?_; rintro e w2 ⟨v2, rfl, hv2, k2⟩
 have hv2i := hv2.ints (by rw [zs_length]; omega)
 obtain ⟨p2, c2, rfl, _, hm2, _, _⟩ := hv2.ints (by rw [zs_length]; omega)
 unfold maxLen at hm2
 rw [zs_length] at *
 have hv1 := hv0.keeps k2
 clear hv0 hv2
 go_wp2
 go_loop [5, 11] (fun o i' => ∃ i : Nat, i ≤ l.length ∧ i' = .int .i64 i ∧ o = .int .i64 (foldM c (l.take i))) (fun _ i => l.length - (intOf i).toNat)
 case atStart => exact ⟨0, by omega, rfl, rfl⟩
 case round =>
  obtain ⟨i, hi, rfl, rfl⟩ := hrel
  by_cases hlt : i < l.length
  ·obtain ⟨b1, o1, rfl, h1⟩ := hv2i.zs_cell i hlt
   rw [getD_get hlt] at h1
   have hx := HMEM.out l[i] (List.getElem_mem hlt)
   obtain ⟨b2, o2, rfl, h2⟩ := hv1.zs_cell l[i] hx
   have hy8 := HCL.out l[i] hx
   have hst : foldM c (l.take (i + 1)) = foldM c (l.take i) ||| 2 ^ c.getD l[i] 0 := by
    rw [List.take_succ_eq_append_getElem hlt, foldM_snoc]
   have hb1 := HLT.out (l.take i) (fun x hx => HMEM.out x (List.mem_of_mem_take hx))
   have hb2 : 2 ^ c.getD l[i] 0 < 2 ^ 8 := Nat.pow_lt_pow_right (by omega) hy8
   have hor := orN (foldM c (l.take i)) (2 ^ c.getD l[i] 0) (by omega) (by omega)
   rw [← hst] at hor
   have e1 := (pow63 (c.getD l[i] 0) (by omega)).1
   have e2 : ((2 ^ c.getD l[i] 0 : Nat) : Int) = 2 ^ c.getD l[i] 0 := by push_cast; rfl
   rw [e2] at hor
   have hlt' : (i : Int) < l.length := by omega
   have hx' : ((l[i] : Nat) : Int) < c.length := by omega
   have HO := hid hor; clear hor
   clear hst hb1 hb2 e2
   generalize hyy : c.getD l[i] 0 = y at *
   clear hyy
   generalize l[i] = x at *
   generalize foldM c (l.take i) = z at *
   go_wp2
   go_round
   case rel => exact ⟨i + 1, by omega, by go_num, by rw [HO.out]⟩
   case measure => simp [intOf]; omega
  ·have hlt' : ¬ (i : Int) < l.length := by omega
   rw [List.take_of_length_le (by omega)]
   rw [← HMAP.out]
   go_wp2
   go_ret
   exact ⟨rfl, k2⟩
set_option maxRecDepth 20000 in
set_option maxHeartbeats 1000000 in
theorem box_any (b : List Nat) (m : Nat) (v : Value) (w : World) (hv : Ints w v (zs b)) (hb : b.length ≤ 8) (hbm : Bnd b.length b) (hm : m < 256) :
  Calls Tryz.prog 186 #[v, .int .i64 m] w fun e w' => e = .returned (.int .i64 (boxB b m b.length)) ∧ w = w' := by
 have h256 := two8 hb
 have HW := hid (fun i => withinB_any (b.getD i 0) m w (Nat.lt_of_lt_of_le (hbm i) h256) hm)
 have HL := hid (boxB_lt b m)
 have hv0 := hv
 obtain ⟨p, cap, rfl, hle, hmx, _, _⟩ := hv
 unfold maxLen at hmx
 rw [zs_length] at *
 clear hbm h256
 go_enter Tryz.func186, Tryz.ntmps186
 go_wp2
 go_loop [5, 10] (fun o i' => ∃ i : Nat, i ≤ b.length ∧ i' = .int .i64 i ∧ o = .int .i64 (boxB b m i)) (fun _ i => b.length - (intOf i).toNat)
 case atStart => exact ⟨0, by omega, rfl, rfl⟩
 case round =>
  obtain ⟨i, hi, rfl, rfl⟩ := hrel
  by_cases hlt : i < b.length
  ·obtain ⟨b1, o1, rfl, h1⟩ := hv0.zs_cell i hlt
   have hlt' : (i : Int) < b.length := by omega
   have hs : boxB b m (i + 1) = if inB (b.getD i 0) m then boxB b m i ||| 2 ^ i else boxB b m i := rfl
   have hb1 := HL.out i
   have hb2 : 2 ^ i < 2 ^ 8 := Nat.pow_lt_pow_right (by omega) (by omega)
   have hor := orN (boxB b m i) (2 ^ i) (by omega) (by omega)
   have e1 := (pow63 i (by omega)).1
   have e2 : ((2 ^ i : Nat) : Int) = 2 ^ i := by push_cast; rfl
   rw [e2] at hor
   have HH := hid (HW.out i)
   have HS := hid hs; clear hs
   have HO := hid hor; clear hor
   clear hb1 hb2 e2
   cases hin : inB (b.getD i 0) m
   ·rw [hin] at HH HS
    clear hin
    generalize b.getD i 0 = x at *
    go_wp2_with fail
    refine HH.out.mono ?_; rintro e w' ⟨rfl, rfl⟩
    go_wp2_with fail
    go_round
    case rel => exact ⟨i + 1, by omega, by go_num, by have h := HS.out; simp only [Bool.false_eq_true, if_false] at h; rw [h]⟩
    case measure => simp [intOf]; omega
   ·rw [hin] at HH HS
    clear hin
    generalize b.getD i 0 = x at *
    go_wp2_with fail
    refine HH.out.mono ?_; rintro e w' ⟨rfl, rfl⟩
    go_wp2_with fail
    go_round
    case rel => exact ⟨i + 1, by omega, by go_num, by have h := HS.out; simp only [if_true] at h; rw [h, ← HO.out]⟩
    case measure => simp [intOf]; omega
  ·obtain rfl : i = b.length := by omega
   have hlt' : ¬ (b.length : Int) < b.length := by omega
   go_wp2
   go_ret
   exact ⟨rfl, rfl⟩
end Go.Proofs.YtfmmajgkjkmghaaGreatDoor
namespace Go.Proofs.YtfmmajgkjkmghaaGreatDoor
open Go.RowKit
def maxTo (c : List Nat) : Nat → Nat
 | 0 => 0
 | i + 1 => max (maxTo c i) (c.getD i 0)
theorem maxTo_le {c : List Nat} {n : Nat} : ∀ k, (∀ i, i < k → c.getD i 0 < n) → 0 < n → maxTo c k < n
 | 0, _, h => h
 | k + 1, h, h0 => by
  have h1 := maxTo_le k (fun i hi => h i (by omega)) h0
  have h2 := h k (by omega)
  unfold maxTo
  omega
theorem le_maxTo {c : List Nat} : ∀ {k i : Nat}, i < k → c.getD i 0 ≤ maxTo c k
 | 0, i, h => by omega
 | k + 1, i, h => by
  unfold maxTo
  by_cases e : i = k
  ·subst e; omega
  ·have := le_maxTo (c := c) (show i < k by omega); omega
set_option maxRecDepth 20000 in
theorem maxI_any (c : List Nat) (v : Value) (w : World) (hv : Ints w v (zs c)) (hc : 0 < c.length) (hcl : ∀ i, c.getD i 0 < 256) (h8 : c.length ≤ 8) :
  Calls Tryz.prog 112 #[v] w fun e w' => e = .returned (.int .i64 (maxTo c c.length)) ∧ w = w' := by
 have hv0 := hv
 obtain ⟨p, cap, rfl, hle, hmx, _, _⟩ := hv
 unfold maxLen at hmx
 rw [zs_length] at *
 have HM := hid (fun k => maxTo_le (c := c) (n := 256) k (fun i _ => hcl i) (by omega))
 have HCL := hid hcl
 have h1' : ¬ ((c.length : Int) < 1) := by omega
 obtain ⟨b0, o0, rfl, hz⟩ := hv0.zs_cell 0 hc
 have hm1 : maxTo c 1 = c.getD 0 0 := by simp [maxTo]
 rw [Nat.add_zero, ← hm1] at hz
 clear hcl
 have HM1 := hid hm1; clear hm1
 go_enter Tryz.func112, Tryz.ntmps112
 go_wp2
 go_loop [3, 4] (fun o i' => ∃ i : Nat, 1 ≤ i ∧ i ≤ c.length ∧ i' = .int .i64 i ∧ o = .int .i64 (maxTo c i)) (fun _ i => c.length - (intOf i).toNat)
 case atStart => exact ⟨1, by omega, by omega, rfl, rfl⟩
 case round =>
  obtain ⟨i, h1, hi, rfl, rfl⟩ := hrel
  by_cases hlt : i < c.length
  ·obtain ⟨b1, o1, e1, h2⟩ := hv0.zs_cell i hlt
   cases e1
   have hlt' : (i : Int) < c.length := by omega
   have hs : ((maxTo c (i + 1) : Nat) : Int) = max ((maxTo c i : Nat) : Int) ((c.getD i 0 : Nat) : Int) := by
    show ((max (maxTo c i) (c.getD i 0) : Nat) : Int) = _
    omega
   have HS := hid hs; clear hs
   clear hz
   generalize c.getD i 0 = x at *
   generalize maxTo c i = z at *
   go_wp2
   go_round
   case rel => exact ⟨i + 1, by omega, by omega, by go_num, by rw [HS.out]; first | rfl | (congr 1; omega)⟩
   case measure => simp [intOf]; omega
  ·obtain rfl : i = c.length := by omega
   have hlt' : ¬ (c.length : Int) < c.length := by omega
   clear hz
   go_wp2
   go_ret
   exact ⟨rfl, rfl⟩
end Go.Proofs.YtfmmajgkjkmghaaGreatDoor
namespace Go.Proofs.YtfmmajgkjkmghaaGreatDoor
open Go.RowKit
theorem supD_more {f : Nat → Nat} {m x : Nat} (k : Nat) (h : m < 2 ^ k) : ∀ d, supD f m x (k + d) = supD f m x k
 | 0 => rfl
 | d + 1 => by
  rw [← Nat.add_assoc]
  have hb : m.testBit (k + d) = false := Nat.testBit_lt_two_pow (Nat.lt_of_lt_of_le h (Nat.pow_le_pow_right (by omega) (by omega)))
  show (if m.testBit (k + d) && !(k + d == x) then _ else supD f m x (k + d)) = _
  rw [hb, supD_more k h d]; rfl
theorem range_get {n i : Nat} (h : i < n) : (List.range n).getD i 0 = i := by simp [List.getD_eq_getElem?_getD, h]
def Pos (b : List Nat) : Prop := b.length ≤ 8 ∧ Bnd b.length b ∧ reflB b = true ∧ transB b = true ∧ antiB b = true
theorem Pos.of {b : List Nat} (h8 : b.length ≤ 8) (hb : Bnd b.length b) (h : posB b = true) : Pos b := by
 unfold posB at h
 rw [Bool.and_eq_true, Bool.and_eq_true] at h
 exact ⟨h8, hb, h.1.1, h.1.2, h.2⟩
set_option maxRecDepth 20000 in
set_option maxHeartbeats 4000000 in
theorem l05Depth_any (b : List Nat) (hp : Pos b) : ∀ c x, x < b.length → cntB (b.getD x 0) ≤ c → ∀ (v u : Value) (w : World), Ints w v (zs b) → Ints w u (zs (List.range b.length)) →
  Calls Tryz.prog 156 #[.agg #[.int .i64 b.length, v], u, .int .i64 x] w fun e w' => e = .returned (.int .i64 (dptB b x)) ∧ Keeps w w' := by
 obtain ⟨hb, hbm, hr, ht, ha⟩ := hp
 intro c
 induction c with
 | zero =>
  intro x hx hc
  have : x ∈ memB (b.getD x 0) := List.mem_filter.2 ⟨List.mem_range.2 (by omega), refl_of hr hx⟩
  have h0 : 0 < (memB (b.getD x 0)).length := List.length_pos_of_mem this
  unfold cntB at hc
  omega
 | succ c ih =>
  intro x hx hc v u w hv hu
  have kA := (Keeps.refl w).alloc (.cells #[.int .i64 b.length, v] 57)
  obtain ⟨c0, c1⟩ := BoxF.made w b.length v 57
  have HRE := hid (fun wz (k : Keeps w wz) => l05Reach_any b b.length x v wz (hv.keeps k) hb hbm hr ht hx)
  have HONE := hid (fun wz => l01One_any (x : Int) wz (by omega) (by omega))
  simp only [Int.toNat_natCast] at HONE
  have h256 := two8 hb
  have hbx := hbm x
  have HBT := hid (fun k wz (hk : k < b.length) => l01BitB_any (b.getD x 0) k wz (by omega) (by omega))
  have HIH := hid (fun k wz (hk : (b.getD x 0).testBit k = true) (hne : k ≠ x) (kz : Keeps w wz) => ih k (bit_lt hbm hk) (by have := above_less hb hbm hr ht ha hx hk hne; omega) v u wz (hv.keeps kz) (hu.keeps kz))
  have HD8 := hid (fun k (hk : k < b.length) => dptB_8 hb hbm hr ht ha hk)
  have HEQ : Hid (dptB b x = supD (dptB b) (b.getD x 0) x b.length + 1) := hid (by
   have := supD_more (f := dptB b) (x := x) b.length hbx (8 - b.length)
   rw [show b.length + (8 - b.length) = 8 by omega] at this
   rw [dptB_eq hb hbm hr ht ha hx, this])
  have HSU := hid (fun k => show supD (dptB b) (b.getD x 0) x (k + 1) = if (b.getD x 0).testBit k && !(k == x) then max (supD (dptB b) (b.getD x 0) x k) (dptB b k) else supD (dptB b) (b.getD x 0) x k from rfl)
  have HLE := hid (fun k (hk : k ≤ b.length) => supD_le (f := dptB b) (m := b.getD x 0) (x := x) (v := 8) k (fun y hy _ _ => dptB_8 hb hbm hr ht ha (by omega)))
  clear ih hbm hr ht ha hc
  have hu0 := hu
  obtain ⟨p, cap, rfl, hle, hmx, _, _⟩ := hv
  obtain ⟨q, cap2, rfl, hle2, hmx2, _, _⟩ := hu
  unfold maxLen at hmx hmx2
  have HCL := hid (fun k (hk : k < (List.range b.length).length) wz (kz : Keeps w wz) => (hu0.keeps kz).zs_cell k hk)
  rw [zs_length b] at *
  rw [show (zs (List.range b.length)).length = b.length by rw [zs_length, List.length_range]] at *
  rw [List.length_range] at *
  clear hu0
  generalize hbxe : b.getD x 0 = bx at *
  have HBX := hid hbxe; clear hbxe
  generalize hP : (2 : Int) ^ x = P at *
  clear hP
  generalize hn : b.length = n at *
  have Hn := hid hn; clear hn
  have kd0 := (Keeps.refl (w.alloc (.cells #[.int .i64 n, .slice p n cap] 57))).drew
  have e0 := And.intro (kd0.cell c0) (kd0.cell c1)
  have kD := kA.drew
  go_enter Tryz.func156, Tryz.ntmps156
  go_wp2_with fail
  go_region_held3 (fun w' => w'.cell? ⟨w.heap.size, 0, none⟩ = some (.int .i64 n) ∧ w'.cell? ⟨w.heap.size, 1, none⟩ = some (.slice p n cap)) (first | exact e0 | exact e1) (first | (go_at_call 91; refine (HONE.out _).mono ?_; rintro e w' ⟨rfl, rfl⟩) | (go_at_call 180; refine (HRE.out _ kD).mono ?_; rintro e w2 ⟨rfl, k2⟩; have e1 := And.intro (k2.cell e0.1) (k2.cell e0.2)))
  have kk := kD.trans k2
  clear e0
  go_wp2_with fail
  go_loopw [7, 9] (fun o y' wr => ∃ k : Nat, k ≤ n ∧ y' = .int .i64 k ∧ o = .int .i64 (supD (dptB b) bx x k) ∧ Keeps w2 wr) (fun _ y' _ => n - (intOf y').toNat)
  case atStart => exact ⟨0, by omega, rfl, rfl, Keeps.refl _⟩
  case round =>
   obtain ⟨k, hk, rfl, rfl, kw⟩ := hrel
   have z0 := kw.cell e1.1
   have z1 := kw.cell e1.2
   have hsl := HLE.out k hk
   by_cases hlt : k < n
   ·have hlt' : (k : Int) < n := by omega
    obtain ⟨b2, o2, rfl, h2⟩ := HCL.out k hlt wr (kk.trans kw)
    obtain ⟨_, _, eq2, h3⟩ := HCL.out x (by first | exact hx | (rw [Hn.out] at hx; exact hx)) wr (kk.trans kw)
    cases eq2
    rw [range_get hlt] at h2
    rw [range_get (by first | exact hx | (rw [Hn.out] at hx; exact hx))] at h3
    have hsu := HSU.out k
    have hx' : (x : Int) < n := by first | omega | (rw [Hn.out] at hx; omega)
    by_cases hkx : k = x
    ·subst hkx
     have HS2 : Hid (supD (dptB b) bx k (k + 1) = supD (dptB b) bx k k) := hid (by rw [hsu, if_neg (by simp)])
     have hd : ((k : Int) != (k : Int)) = false := by simp
     clear hsu h3
     generalize supD (dptB b) bx k k = s at *
     go_wp2_with fail
     go_quiet (fail)
     go_wp2_with fail
     go_roundw
     case rel => exact ⟨k + 1, by omega, by go_num, by rw [HS2.out], kw.drewN _⟩
     case measure => simp [intOf]; omega
    ·have hd : ((k : Int) != (x : Int)) = true := by simp; omega
     have HB := hid (fun wz => HBT.out k wz hlt)
     cases hbt : bx.testBit k
     ·rw [hbt] at HB
      have HS2 : Hid (supD (dptB b) bx x (k + 1) = supD (dptB b) bx x k) := hid (by rw [hsu, hbt]; rfl)
      clear hsu hbt
      generalize supD (dptB b) bx x k = s at *
      go_wp2_with fail
      go_quiet (first | (go_at_call 150; refine quietS (HB.out _)))
      go_wp2_with fail
      go_roundw
      case rel => exact ⟨k + 1, by omega, by go_num, by rw [HS2.out], kw.drewN _⟩
      case measure => simp [intOf]; omega
     ·rw [hbt] at HB
      have HS2 : Hid (supD (dptB b) bx x (k + 1) = max (supD (dptB b) bx x k) (dptB b k)) := hid (by rw [hsu, hbt, if_pos (by simpa using hkx)])
      have HI := hid (fun wz (kz : Keeps w wz) => HIH.out k wz hbt hkx kz)
      have hd8 := HD8.out k hlt
      clear hsu hbt
      generalize supD (dptB b) bx x k = s at *
      generalize dptB b k = dk at *
      go_wp2_with fail
      go_quiet (first | (go_at_call 150; refine quietS (HB.out _)))
      go_wp2_with fail
      refine (HI.out _ ((kk.trans kw).drewN _)).mono ?_; rintro e w4 ⟨rfl, k4⟩
      go_wp2_with fail
      go_roundw
      case rel => exact ⟨k + 1, by omega, by go_num, by rw [HS2.out]; first | rfl | (congr 1; split <;> omega), (kw.drewN _).trans k4⟩
      case measure => simp [intOf]; omega
   ·obtain rfl : k = n := by omega
    have hlt' : ¬ (k : Int) < k := by omega
    have HE : Hid (dptB b x = supD (dptB b) bx x k + 1) := hid HEQ.out
    generalize supD (dptB b) bx x k = s at *
    go_wp2_with fail
    go_ret
    exact ⟨ret_int (by rw [HE.out]; push_cast; rfl), kk.trans kw⟩
end Go.Proofs.YtfmmajgkjkmghaaGreatDoor
