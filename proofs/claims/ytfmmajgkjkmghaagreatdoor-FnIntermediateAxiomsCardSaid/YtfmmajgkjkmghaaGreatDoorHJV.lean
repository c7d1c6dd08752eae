import Derived.Test.YtfmmajgkjkmghaaGreatDoorHON
import Derived.Test.YtfmmajgkjkmghaaGreatDoorHVS
import Derived.Test.YtfmmajgkjkmghaaGreatDoorHQU
import Derived.Lib.OwnBridge
import Derived.Sort.OwnSorted
import Derived.Lib.SliceRun
import Derived.Deep.RegionHeld3
import Derived.Test.YtfmmajgkjkmghaaGreatDoorHOD
import Derived.Test.YtfmmajgkjkmghaaGreatDoorHHQ
import Derived.Test.YtfmmajgkjkmghaaGreatDoorHW4
import Derived.Test.YtfmmajgkjkmghaaGreatDoorHHF
import Derived.Test.YtfmmajgkjkmghaaGreatDoorHQT
import Derived.Test.YtfmmajgkjkmghaaGreatDoorHOQ
import Derived.BigQuiet
/- The order on which theorems are tested: both sides. -/
namespace Go.Proofs.YtfmmajgkjkmghaaGreatDoor
open Go.RowKit
def RetPz (w : World) (b : List Nat) (e : Ending) (w' : World) : Prop := ∃ v, e = .returned (.agg #[.int .i64 b.length, v]) ∧ OwnI w' w.heap.size v (zs b) ∧ Keeps w w'
end Go.Proofs.YtfmmajgkjkmghaaGreatDoor
namespace Go.Proofs.YtfmmajgkjkmghaaGreatDoor
open Go.RowKit
set_option maxRecDepth 20000 in
set_option maxHeartbeats 1000000 in
theorem on_any (b : List Nat) (m : Nat) (v : Value) (w : World) (hv : Ints w v (zs b)) (h8 : b.length ≤ 8) (hb : Bnd 8 b) (hm : m < 2 ^ b.length) :
  Calls Tryz.prog 23 #[.agg #[.int .i64 b.length, v], .int .i64 m] w (RetPz w (prtL b m)) := by
 obtain ⟨W0, hW0⟩ : ∃ W, W = (w.alloc (.cells #[.int .i64 b.length, v] 26)).alloc (.cells #[.int .i64 0, .slice none 0 0] 26) := ⟨_, rfl⟩
 have k0 : Keeps w W0 := by rw [hW0]; exact ((Keeps.refl w).alloc _).alloc _
 have hs0 : W0.heap.size = w.heap.size + 1 + 1 := by rw [hW0]; simp
 have x0 : W0.cell? ⟨w.heap.size, 0, none⟩ = some (.int .i64 b.length) := by rw [hW0]; exact ((Keeps.refl _).alloc _).cell (BoxF.made w b.length v 26).1
 have x1 : W0.cell? ⟨w.heap.size, 1, none⟩ = some v := by rw [hW0]; exact ((Keeps.refl _).alloc _).cell (BoxF.made w b.length v 26).2
 have hrb : RB W0 (w.heap.size + 1) := by
  have := RB.made (w.alloc (.cells #[.int .i64 b.length, v] 26))
  rw [World.size_alloc] at this
  rw [hW0]; exact this
 have HP := hid (partOn_any b m v W0 (hv.keeps k0) h8 hb hm)
 have hlp : (prtL b m).length ≤ 8 := by rw [prtL_len]; exact memB_len8 m
 have hlz := zs_length (prtL b m)
 generalize prtL b m = a at *
 obtain ⟨p, cap, rfl, -⟩ := hv
 rw [zs_length b] at *
 have HW0 := hid hW0
 clear hW0 hb hm
 generalize b.length = n at *
 go_enter Tryz.func23, Tryz.ntmps23
 go_wp2_with fail
 rw [← HW0.out]
 refine HP.out.mono ?_; rintro e w2 ⟨v2, rfl, hv2, k2⟩
 have hin := hv2.ints (by omega)
 obtain ⟨p2, c2, rfl, -, -, -⟩ := At.of_own hv2
 have HPO := hid (posetOf_any (zs a) _ w2 hin)
 rw [hlz] at *
 clear hin
 go_wp2_with fail
 refine HPO.out.mono ?_; rintro e w3 ⟨rfl, k3⟩
 have k03 := (k0.trans k2).trans k3
 have hb3 := (hrb.keeps k2).keeps k3
 have hv3 := hv2.keeps k3
 obtain ⟨r0, r1, f0, f1⟩ := hb3
 have hB : w.heap.size + 1 < W0.heap.size := by omega
 have HE := hid (fun x y => show RetPz w a (.returned (.agg #[.int .i64 a.length, .slice p2 a.length c2])) ((w3.setCell ⟨w.heap.size + 1, 0, none⟩ x).setCell ⟨w.heap.size + 1, 1, none⟩ y) from
  ⟨_, rfl, ((hv3.setBelow hB x).setBelow hB y).mono (by omega), (k03.setCell (show w.heap.size ≤ w.heap.size + 1 by omega) _).setCell (show w.heap.size ≤ w.heap.size + 1 by omega) _⟩)
 clear hv3 hv2 k2 k3 k03 HPO HP
 go_wp2_with fail
 refine bodyPost_ret (v := .agg #[.int .i64 (a.length : Int), .slice p2 a.length c2]) (by simp [results, Tryz.results23, go_sem, r0, r1]) rfl ?_
 exact HE.out _ _
def morB (b q c : List Nat) : Bool := (List.range b.length).all fun x => mapM c (b.getD x 0) == q.getD (c.getD x 0) 0
set_option maxRecDepth 20000 in
set_option maxHeartbeats 1000000 in
theorem isMorphism_1_any (b q c : List Nat) (x Bi Bf Bg : Nat) (vb vq vc : Value) (w : World) (hvb : Ints w vb (zs b)) (hvq : Ints w vq (zs q)) (hvc : Ints w vc (zs c)) (hx : x < b.length) (h8 : b.length ≤ 8) (hcl : c.length = b.length)
  (hq8 : q.length ≤ 8) (hcq : ∀ i, i < c.length → c.getD i 0 < q.length) (hb : Bnd b.length b)
  (ci : w.cell? ⟨Bi, 0, none⟩ = some vc) (cf : w.cell? ⟨Bf, 1, none⟩ = some vb) (cg : w.cell? ⟨Bg, 1, none⟩ = some vq) :
  Calls Tryz.prog 171 #[.int .i64 x, .pointer (some ⟨Bi, 0, none⟩), .pointer (some ⟨Bf, 0, none⟩), .pointer (some ⟨Bg, 0, none⟩)] w fun e w' => e = .returned (.bool (mapM c (b.getD x 0) == q.getD (c.getD x 0) 0)) ∧ Keeps w w' := by
 have HM := hid (fun wz (kz : Keeps w wz) => mapMask_any c (b.getD x 0) vc wz (hvc.keeps kz) (by omega) (fun i hi => by have := hcq i hi; omega) (by rw [hcl]; exact hb x))
 have hcx := hcq x (by omega)
 obtain ⟨pb, kb, rfl, -, hmb, -, -⟩ := id hvb
 obtain ⟨pq, kq, rfl, -, hmq, -, -⟩ := id hvq
 obtain ⟨pc, kc, rfl, -, hmc, -, -⟩ := id hvc
 rw [zs_length b] at *
 rw [zs_length q] at *
 rw [zs_length c] at *
 unfold maxLen at hmb hmq hmc
 obtain ⟨b1, o1, e1, h1⟩ := hvb.zs_cell x hx
 obtain ⟨b2, o2, e2, h2⟩ := hvq.zs_cell (c.getD x 0) hcx
 obtain ⟨b3, o3, e3, h3⟩ := hvc.zs_cell x (by omega)
 cases e1
 cases e2
 cases e3
 have hx' : (x : Int) < b.length := by omega
 have hx2 : (x : Int) < c.length := by omega
 have hx3 : ((c.getD x 0 : Nat) : Int) < q.length := by omega
 clear hvb hvq hvc hcq hb hcl hcx
 have hR : (((mapM c (b.getD x 0) : Nat) : Int) == ((q.getD (c.getD x 0) 0 : Nat) : Int)) = (mapM c (b.getD x 0) == q.getD (c.getD x 0) 0) := by
  rw [Bool.eq_iff_iff, beq_iff_eq, beq_iff_eq]; omega
 rw [← hR]
 clear hR
 generalize mapM c (b.getD x 0) = r at *
 generalize q.getD (c.getD x 0) 0 = s at *
 generalize c.getD x 0 = y at *
 generalize b.getD x 0 = a at *
 generalize b.length = n at *
 generalize q.length = nq at *
 generalize c.length = nc at *
 have kD := (Keeps.refl w).drew
 have d0 := kD.cell ci
 have d1 := kD.cell cf
 have d2 := kD.cell cg
 have d3 := kD.cell h1
 have d4 := kD.cell h2
 have d5 := kD.cell h3
 go_enter Tryz.func171, Tryz.ntmps171
 go_wp2_with fail
 go_region_held3 (fun w' => Keeps w w' ∧ w'.cell? ⟨Bi, 0, none⟩ = some (.slice (some ⟨b3, o3, none⟩) nc kc) ∧ w'.cell? ⟨Bf, 1, none⟩ = some (.slice (some ⟨b1, o1, none⟩) n kb) ∧ w'.cell? ⟨Bg, 1, none⟩ = some (.slice (some ⟨b2, o2, none⟩) nq kq) ∧ w'.cell? ⟨b1, o1 + x, none⟩ = some (.int .i64 a) ∧ w'.cell? ⟨b2, o2 + y, none⟩ = some (.int .i64 s) ∧ w'.cell? ⟨b3, o3 + x, none⟩ = some (.int .i64 y)) (first | exact ⟨kD, d0, d1, d2, d3, d4, d5⟩ | exact ⟨k2, z0, z1, z2, z3, z4, z5⟩) (first | (go_at_call 75; refine (HM.out _ kD).mono ?_; rintro e w2 ⟨rfl, k2'⟩; have k2 := kD.trans k2'; have z0 := k2.cell ci; have z1 := k2.cell cf; have z2 := k2.cell cg; have z3 := k2.cell h1; have z4 := k2.cell h2; have z5 := k2.cell h3))
 all_goals
  go_wp2_with fail
  go_ret
  exact ⟨rfl, by first | exact k2 | assumption⟩
theorem enters_isMorphism_1 : Enters 171 := fun _ _ => by kernel_rfl
end Go.Proofs.YtfmmajgkjkmghaaGreatDoor
namespace Go.Proofs.YtfmmajgkjkmghaaGreatDoor
open Go.RowKit
theorem made1 (w : World) (a : Value) (T : TypeId) {N : Nat} (h : w.heap.size = N) : (w.alloc (.cells #[a] T)).cell? ⟨N, 0, none⟩ = some a := by
 subst h
 simp
set_option maxRecDepth 20000 in
set_option maxHeartbeats 1000000 in
theorem isMorphism_any (b q c : List Nat) (vb vq vc : Value) (w : World) (hvb : Ints w vb (zs b)) (hvq : Ints w vq (zs q)) (hvc : Ints w vc (zs c)) (h8 : b.length ≤ 8) (hcl : c.length = b.length)
  (hq8 : q.length ≤ 8) (hcq : ∀ i, i < c.length → c.getD i 0 < q.length) (hb : Bnd b.length b) :
  Calls Tryz.prog 137 #[.agg #[.int .i64 b.length, vb], .agg #[.int .i64 q.length, vq], vc] w fun e w' => e = .returned (.bool (morB b q c)) ∧ Keeps w w' := by
 obtain ⟨W3, hW3⟩ : ∃ W3, W3 = ((w.alloc (.cells #[.int .i64 b.length, vb] 57)).alloc (.cells #[.int .i64 q.length, vq] 57)).alloc (.cells #[vc] 24) := ⟨_, rfl⟩
 have k3 : Keeps w W3 := by rw [hW3]; exact (((Keeps.refl w).alloc _).alloc _).alloc _
 have hz1 : (w.alloc (.cells #[.int .i64 b.length, vb] 57)).heap.size = w.heap.size + 1 := by simp
 have hz2 : ((w.alloc (.cells #[.int .i64 b.length, vb] 57)).alloc (.cells #[.int .i64 q.length, vq] 57)).heap.size = w.heap.size + 1 + 1 := by simp
 have f0 : W3.cell? ⟨w.heap.size, 0, none⟩ = some (.int .i64 b.length) := by rw [hW3]; exact (((Keeps.refl _).alloc _).alloc _).cell (BoxF.made w b.length vb 57).1
 have f1 : W3.cell? ⟨w.heap.size, 1, none⟩ = some vb := by rw [hW3]; exact (((Keeps.refl _).alloc _).alloc _).cell (BoxF.made w b.length vb 57).2
 have g1 : W3.cell? ⟨w.heap.size + 1, 1, none⟩ = some vq := by
  rw [hW3]
  have := (BoxF.made (w.alloc (.cells #[.int .i64 b.length, vb] 57)) q.length vq 57).2
  rw [hz1] at this
  exact ((Keeps.refl _).alloc _).cell this
 have i0 : W3.cell? ⟨w.heap.size + 1 + 1, 0, none⟩ = some vc := by
  rw [hW3]
  exact made1 _ _ _ hz2
 have HE := hid (fun p m cc (e : vb = .slice p m cc) => everyWorld_any (fun x => mapM c (b.getD x 0) == q.getD (c.getD x 0) 0) 171 #[.pointer (some ⟨w.heap.size + 1 + 1, 0, none⟩), .pointer (some ⟨w.heap.size, 0, none⟩), .pointer (some ⟨w.heap.size + 1, 0, none⟩)] b.length p m cc W3 enters_isMorphism_1 h8
  (fun x w1 hx k1 => isMorphism_1_any b q c x _ _ _ vb vq vc w1 ((hvb.keeps k3).keeps k1) ((hvq.keeps k3).keeps k1) ((hvc.keeps k3).keeps k1) hx h8 hcl hq8 hcq hb (k1.cell i0) (k1.cell f1) (k1.cell g1)))
 have HR : Hid (morB b q c = (List.range b.length).all fun x => mapM c (b.getD x 0) == q.getD (c.getD x 0) 0) := hid rfl
 rw [HR.out]
 generalize ((List.range b.length).all fun x => mapM c (b.getD x 0) == q.getD (c.getD x 0) 0) = r at *
 have HW3 := hid hW3
 have K3 := hid k3
 obtain ⟨pb, kb, rfl, -⟩ := id hvb
 obtain ⟨pq, kq, rfl, -⟩ := id hvq
 obtain ⟨pc, kc, rfl, -⟩ := id hvc
 have HE2 := hid (HE.out _ _ _ rfl)
 rw [zs_length b] at *
 rw [zs_length q] at *
 rw [zs_length c] at *
 clear hvb hvq hvc hcq hb hcl hW3 k3 hz1 hz2 HE HR g1 i0
 generalize b.length = n at *
 generalize q.length = nq at *
 generalize c.length = nc at *
 go_enter Tryz.func137, Tryz.ntmps137
 go_wp2_with fail
 rw [← HW3.out]
 refine HE2.out.mono ?_; rintro e w2 ⟨rfl, k2⟩
 go_wp2_with fail
 go_ret
 exact ⟨rfl, K3.out.trans k2⟩
end Go.Proofs.YtfmmajgkjkmghaaGreatDoor
namespace Go.Proofs.YtfmmajgkjkmghaaGreatDoor
open Go.RowKit
def cntC (c : List Nat) : Nat := if c.length = 0 then 0 else maxTo c c.length + 1
def qtK (b c : List Nat) : Nat → List Nat
 | 0 => List.replicate (cntC c) 0
 | k + 1 => (qtK b c k).set (c.getD k 0) ((qtK b c k).getD (c.getD k 0) 0 ||| mapM c (b.getD k 0))
def qtL (b c : List Nat) : List Nat := qtK b c b.length
theorem qtK_len (b c : List Nat) : ∀ k, (qtK b c k).length = cntC c
 | 0 => by simp [qtK]
 | k + 1 => by rw [qtK, List.length_set]; exact qtK_len b c k
theorem cntC_gt {c : List Nat} {i : Nat} (hi : i < c.length) : c.getD i 0 < cntC c := by
 unfold cntC
 rw [if_neg (by omega)]
 have := le_maxTo (c := c) hi
 omega
theorem cntC_le {c : List Nat} {n : Nat} (h : ∀ i, i < c.length → c.getD i 0 < n) : cntC c ≤ n := by
 unfold cntC
 by_cases h0 : c.length = 0
 ·rw [if_pos h0]; omega
 ·rw [if_neg h0]
  have := maxTo_le (c := c) (n := n) c.length (fun i hi => h i hi) (by have := h 0 (by omega); omega)
  omega
theorem mapMc_lt {c : List Nat} {m : Nat} (hm : m < 2 ^ c.length) : mapM c m < 2 ^ cntC c := by
 unfold mapM
 exact foldM_lt _ fun x hx => cntC_gt (memB_lt hm hx)
theorem qtK_bnd {b c : List Nat} (hb : Bnd c.length b) : ∀ k, Bnd (cntC c) (qtK b c k)
 | 0 => fun i => by
  rw [qtK, List.getD_eq_getElem?_getD, List.getElem?_replicate]
  split <;> exact Nat.two_pow_pos _
 | k + 1 => by
  have ih := qtK_bnd hb k
  rw [qtK]
  refine mem_bnd fun x hx => ?_
  rcases List.mem_or_eq_of_mem_set hx with h | h
  ·exact bnd_mem ih x h
  ·rw [h]; exact Nat.or_lt_two_pow (ih _) (mapMc_lt (hb k))
set_option maxRecDepth 20000 in
theorem classCountC_any (c : List Nat) (v : Value) (w : World) (hv : Ints w v (zs c)) (hb : c.length ≤ 8) (hc8 : ∀ i, i < c.length → c.getD i 0 < 8) :
  Calls Tryz.prog 74 #[v] w fun e w' => e = .returned (.int .i64 (cntC c : Nat)) ∧ w = w' := by
 rcases Nat.eq_zero_or_pos c.length with hz | hpos
 ·have hc : cntC c = 0 := by unfold cntC; rw [if_pos hz]
  obtain ⟨p, cap, rfl, _⟩ := hv
  rw [zs_length, hz, hc]
  clear hc hc8
  go_enter Tryz.func74, Tryz.ntmps74
  go_wp2
  go_ret
  exact ⟨rfl, rfl⟩
 ·have hc : cntC c = maxTo c c.length + 1 := by unfold cntC; rw [if_neg (by omega)]
  have hall : ∀ i, c.getD i 0 < 256 := fun i => by
   by_cases hi : i < c.length
   ·have := hc8 i hi; omega
   ·rw [List.getD_eq_getElem?_getD, List.getElem?_eq_none (by omega)]; simp
  have HM := hid (maxI_any c v w hv (by omega) hall (by omega))
  have hb2 := maxTo_le (c := c) (n := 256) c.length (fun i _ => hall i) (by omega)
  obtain ⟨p, cap, rfl, _⟩ := hv
  rw [zs_length c] at *
  have hne : ((c.length : Int) == 0) = false := by rw [beq_eq_false_iff_ne]; omega
  have HC := hid hc
  clear hc hall hc8
  generalize maxTo c c.length = M at *
  go_enter Tryz.func74, Tryz.ntmps74
  go_wp2_with fail
  refine HM.out.mono ?_; rintro e w' ⟨rfl, rfl⟩
  go_wp2_with fail
  go_ret
  exact ⟨ret_int (by rw [HC.out]; push_cast; rfl), rfl⟩
set_option maxRecDepth 20000 in
set_option maxHeartbeats 4000000 in
theorem quotientC_any (b c : List Nat) (v u : Value) (w : World) (hv : Ints w v (zs b)) (hu : Ints w u (zs c)) (hb : b.length ≤ 8) (hbm : Bnd b.length b) (hl : c.length = b.length) (hc8 : ∀ i, i < c.length → c.getD i 0 < 8) :
  Calls Tryz.prog 27 #[v, u] w (RetI w (zs (qtL b c))) := by
 have hv0 := hv
 have hu0 := hu
 have h256 := two8 hb
 have HCC := hid (classCountC_any c u w hu (by omega) hc8)
 have HMM := hid (fun k wz (k' : Keeps w wz) => mapMask_any c (b.getD k 0) u wz (hu.keeps k') (by rw [hl]; exact hb) hc8 (by rw [hl]; exact hbm k))
 have HN : Hid (∀ i, b.getD i 0 < 2 ^ b.length) := hid hbm
 have hc88 : cntC c ≤ 8 := cntC_le hc8
 have HQB := hid (fun k i => show (qtK b c k).getD i 0 < 256 from Nat.lt_of_lt_of_le (qtK_bnd (by rw [hl]; exact hbm) k i) (two8 hc88))
 have HST : Hid (∀ k, k < b.length → (qtK b c k).set (c.getD k 0) ((qtK b c k).getD (c.getD k 0) 0 ||| mapM c (b.getD k 0)) = qtK b c (k + 1)) := hid fun _ _ => rfl
 have HML := hid (fun k => show mapM c (b.getD k 0) < 256 from Nat.lt_of_lt_of_le (mapMc_lt (by rw [hl]; exact hbm k)) (two8 hc88))
 have HCL := hid (fun i (hi : i < b.length) => cntC_gt (c := c) (i := i) (by omega))
 have HQL := hid (fun k (_ : k ≤ b.length) => qtK_len b c k)
 have HEND : Hid (qtK b c b.length = qtL b c) := hid rfl
 have h0 : qtK b c 0 = List.replicate (cntC c) 0 := rfl
 obtain ⟨wm, hmk, hown0, km⟩ := run_makeI w (cntC c) (by omega)
 have h00 : List.replicate (cntC c) (0 : Int) = zs (qtK b c 0) := by rw [h0, zs_rep]
 rw [h00] at hown0
 clear h0 h00
 have HO := hid hown0; clear hown0
 have KM := hid km; clear km
 obtain ⟨p, cap, rfl, _, hmx, _, _⟩ := hv
 obtain ⟨q, cap2, rfl, _, hmx2, _, _⟩ := hu
 unfold maxLen at hmx hmx2
 rw [zs_length b] at *
 rw [show (zs c).length = b.length by rw [zs_length, hl]] at *
 generalize hC : cntC c = C at *
 have HCe := hid hC
 have HLC := hid hl
 clear hbm hC hl hc8 hc88
 go_enter Tryz.func27, Tryz.ntmps27
 go_wp2_with fail
 refine HCC.out.mono ?_; rintro e w' ⟨rfl, rfl⟩
 go_wp2
 clear hmk
 go_loopw [13] (fun i' wr => ∃ k : Nat, k ≤ b.length ∧ i' = .int .i64 k ∧ OwnI wr w.heap.size (.slice (some ⟨w.heap.size, 0, none⟩) C C) (zs (qtK b c k)) ∧ Keeps w wr) (fun i' _ => b.length - (intOf i').toNat)
 case atStart => exact ⟨0, by omega, rfl, HO.out, KM.out⟩
 case round =>
  obtain ⟨k, hk, rfl, hown, kw⟩ := hrel
  clear HO KM
  by_cases hlt : k < b.length
  ·have hlt' : (k : Int) < b.length := by omega
   have hlr := HQL.out k hk
   obtain ⟨b1, o1, rfl, h1⟩ := (hv0.keeps kw).zs_cell k hlt
   obtain ⟨b2, o2, rfl, h2⟩ := (hu0.keeps kw).zs_cell k (by have := HLC.out; omega)
   have hy := HCL.out k hlt
   obtain ⟨co, fo⟩ := hown.cell ((c).getD k 0) (by rw [zs_length, hlr]; exact hy)
   rw [zs_get, ← getD_get] at co
   have hb1 := HQB.out k ((c).getD k 0)
   have hb2 := HML.out k
   have hor := orN ((qtK b c k).getD ((c).getD k 0) 0) (mapM (c) (b.getD k 0)) (by omega) (by omega)
   have hst := HST.out k hlt
   have HSS := hid (fun wz (k' : Keeps wr wz) => by
    have := OwnI.store (hown.keeps k') ((c).getD k 0) (by rw [zs_length, hlr]; exact hy) (((qtK b c k).getD ((c).getD k 0) 0 ||| mapM (c) (b.getD k 0) : Nat) : Int)
    rw [← zs_set, hst, ← hor] at this
    exact this)
   have HMK := hid (fun wz (k' : Keeps wr wz) => HMM.out k wz (kw.trans k'))
   have HKW := hid (fun w2 (k' : Keeps wr w2) w3 (g : w2.grownBy w3 (some w.heap.size)) => (kw.trans k').grown g (fun i e => by cases e; exact Nat.le_refl _))
   have hy' : (((c).getD k 0 : Nat) : Int) < C := by omega
   have kr := Keeps.refl wr
   have kr1 := kr.drew
   have z2 := kr1.cell h2
   have zo := kr1.cell co
   have zf : wr.drew.frozen? ⟨w.heap.size, (c).getD k 0, none⟩ = false := fo
   clear hst hown hb1 hb2 hlr hor
   generalize mapM (c) (b.getD k 0) = M at *
   generalize b.getD k 0 = bk at *
   generalize (qtK b c k).getD ((c).getD k 0) 0 = y0 at *
   generalize (c).getD k 0 = y at *
   go_wp2_with fail
   go_region_with (first | (go_at_call 75; refine (HMK.out _ ?_).mono ?_; (first | exact kr1 | exact kr); rintro e w2 ⟨rfl, k2⟩; have y2 := k2.cell z2; have yo := k2.cell zo; have yf := (k2.both.2 _ _ (World.block_lt_of_cell? _ _ zo)).trans zf))
   all_goals
    have HF := hid (HSS.out w2 (kr1.trans k2))
    go_wp2_with fail
    go_roundw
    case rel => exact ⟨k + 1, by omega, by go_num, HF.out.1, HKW.out _ (kr1.trans k2) _ HF.out.2⟩
    case measure => simp [intOf]; omega
  ·obtain rfl : k = b.length := by omega
   have hlt' : ¬ (b.length : Int) < b.length := by omega
   rw [HEND.out] at hown
   go_wp2_with fail
   go_ret
   exact ⟨_, rfl, hown, kw⟩
end Go.Proofs.YtfmmajgkjkmghaaGreatDoor
namespace Go.Proofs.YtfmmajgkjkmghaaGreatDoor
open Go.RowKit
def ixI (a : List Nat) (x : Nat) : Int := if x ∈ a then ((a.idxOf x : Nat) : Int) else -1
theorem ixI_pos {a : List Nat} {x : Nat} : 0 ≤ ixI a x ↔ x ∈ a := by
 unfold ixI
 split <;> rename_i h <;> simp [h]
theorem ixI_hit {a : List Nat} {x i : Nat} (hi : i < a.length) (hx : a.getD i 0 = x) (h : ∀ j, j < i → a.getD j 0 ≠ x) : ixI a x = i := by
 have h1 : a[i] = x := by rw [← hx, List.getD_eq_getElem?_getD, List.getElem?_eq_getElem hi]; rfl
 have h2 : x ∈ a := h1 ▸ List.getElem_mem hi
 unfold ixI
 rw [if_pos h2]
 congr 1
 unfold List.idxOf
 rw [List.findIdx_eq hi]
 refine ⟨by simp [h1], fun j hj => ?_⟩
 have := h j hj
 rw [List.getD_eq_getElem?_getD, List.getElem?_eq_getElem (by omega)] at this
 simpa using this
theorem ixI_none {a : List Nat} {x : Nat} (h : ∀ j, j < a.length → a.getD j 0 ≠ x) : ixI a x = -1 := by
 unfold ixI
 rw [if_neg]
 intro hx
 obtain ⟨j, hj, e⟩ := List.getElem_of_mem hx
 have := h j hj
 rw [List.getD_eq_getElem?_getD, List.getElem?_eq_getElem hj] at this
 exact this (by simpa using e)
set_option maxRecDepth 20000 in
set_option maxHeartbeats 1000000 in
theorem indexI_any (a : List Nat) (x : Nat) (v : Value) (w : World) (hv : Ints w v (zs a)) :
  Calls Tryz.prog 76 #[v, .int .i64 x] w fun e w' => e = .returned (.int .i64 (ixI a x)) ∧ w = w' := by
 have hv0 := hv
 obtain ⟨p, cap, rfl, _, hmx, _, hl1⟩ := hv
 unfold maxLen at hmx
 rw [zs_length a] at *
 have HA := hid (fun i (hi : i < a.length) => hv0.zs_cell i hi)
 clear hv0
 have HI := hid (fun i (hi : i < a.length) => ixI_hit (a := a) (x := x) hi)
 have HN := hid (ixI_none (a := a) (x := x))
 obtain ⟨A, hA⟩ : ∃ A : Nat → Nat, ∀ i, A i = a.getD i 0 := ⟨fun i => a.getD i 0, fun _ => rfl⟩
 simp only [← hA] at *
 clear hA
 generalize ixI a x = r at *
 generalize a.length = n at *
 go_enter Tryz.func76, Tryz.ntmps76
 go_wp2_with fail
 go_loopw [8] (fun i' wr => ∃ i : Nat, i ≤ n ∧ i' = .int .i64 i ∧ Hid (∀ j, j < i → A j ≠ x) ∧ w = wr) (fun i' _ => n - (intOf i').toNat)
 case atStart => exact ⟨0, by omega, rfl, hid (fun j hj => by omega), rfl⟩
 case round =>
  obtain ⟨i, hi, rfl, HJ, rfl⟩ := hrel
  by_cases hlt : i < n
  ·have hlt' : (i : Int) < n := by omega
   obtain ⟨b1, o1, rfl, h1⟩ := HA.out i hlt
   by_cases hx : A i = x
   ·have HR := hid (HI.out i hlt hx HJ.out)
    have heq : ((x : Int) == ((A i : Nat) : Int)) = true := by simp; omega
    generalize A i = y at *
    go_wp2_with fail
    go_ret
    exact ⟨ret_int (by rw [HR.out]), rfl⟩
   ·have HJ2 : Hid (∀ j, j < i + 1 → A j ≠ x) := hid fun j hj => by
     rcases Nat.lt_succ_iff_lt_or_eq.1 hj with h | rfl
     ·exact HJ.out j h
     ·exact hx
    have heq : ((x : Int) == ((A i : Nat) : Int)) = false := by simp; omega
    clear hx
    generalize A i = y at h1 heq
    go_wp2_with fail
    go_roundw
    case rel => exact ⟨i + 1, by omega, by go_num, HJ2, trivial⟩
    case measure => simp [intOf]; omega
  ·have e : n = i := by omega
   subst e
   have hlt' : ¬ (n : Int) < n := by omega
   have HR := hid (HN.out HJ.out)
   go_wp2_with fail
   go_ret
   exact ⟨ret_int (by rw [HR.out]), rfl⟩
set_option maxRecDepth 20000 in
set_option maxHeartbeats 1000000 in
theorem root_any (b : List Nat) (v : Value) (w : World) (hv : Ints w v (zs b)) (hb : b.length ≤ 8) :
  Calls Tryz.prog 28 #[.agg #[.int .i64 b.length, v]] w fun e w' => e = .returned (.int .i64 (ixI b (2 ^ b.length - 1))) ∧ Keeps w w' := by
 have kA := (Keeps.refl w).alloc (.cells #[.int .i64 b.length, v] 26)
 obtain ⟨c0, c1⟩ := BoxF.made w b.length v 26
 have HAL := hid (fun wz (kz : Keeps w wz) => posetAll_any b v wz (hv.keeps kz) hb)
 have HX := hid (fun wz (kz : Keeps w wz) => indexI_any b (2 ^ b.length - 1) v wz (hv.keeps kz))
 have d0 := kA.drew
 have e0 := (Keeps.refl (w.alloc (.cells #[.int .i64 b.length, v] 26))).drew.cell c0
 have e1 := (Keeps.refl (w.alloc (.cells #[.int .i64 b.length, v] 26))).drew.cell c1
 obtain ⟨p, cap, rfl, _⟩ := hv
 rw [zs_length] at *
 generalize 2 ^ b.length - 1 = M at *
 generalize ixI b M = r at *
 generalize b.length = n at *
 go_enter Tryz.func28, Tryz.ntmps28
 go_wp2_with fail
 go_region_held3 (fun w' => Keeps w w' ∧ w'.cell? ⟨w.heap.size, 0, none⟩ = some (.int .i64 n) ∧ w'.cell? ⟨w.heap.size, 1, none⟩ = some (.slice p n cap)) (first | exact ⟨d0, e0, e1⟩ | exact ⟨k2, z0, z1⟩) (first
  | (go_at_call 52; refine (HAL.out _ d0).mono ?_; rintro e w2 ⟨rfl, k2'⟩; have k2 := d0.trans k2'; have z0 := k2'.cell e0; have z1 := k2'.cell e1)
  | (go_at_call 76; refine (HX.out _ k2).mono ?_; rintro e w3 ⟨rfl, rfl⟩))
 all_goals
  go_wp2_with fail
  go_ret
  exact ⟨rfl, by assumption⟩
end Go.Proofs.YtfmmajgkjkmghaaGreatDoor
namespace Go.Proofs.YtfmmajgkjkmghaaGreatDoor
open Go.RowKit
def grC (c : List Nat) (k : Nat) : Nat := cntC (c.take k)
def ArC (c : List Nat) : Prop := ∀ k, k < c.length → c.getD k 0 ≤ grC c k
theorem grC_zero (c : List Nat) : grC c 0 = 0 := by simp [grC, cntC]
theorem maxTo_take (c : List Nat) (k : Nat) : ∀ i, i ≤ k → maxTo (c.take k) i = maxTo c i
 | 0, _ => rfl
 | i + 1, h => by
  have ih := maxTo_take c k i (by omega)
  have hg : (c.take k).getD i 0 = c.getD i 0 := by simp [List.getD_eq_getElem?_getD, show i < k by omega]
  simp only [maxTo, ih, hg]
theorem grC_succ {c : List Nat} {k : Nat} (hk : k < c.length) (h : c.getD k 0 ≤ grC c k) : grC c (k + 1) = if c.getD k 0 = grC c k then grC c k + 1 else grC c k := by
 have h1 : (c.take (k + 1)).length = k + 1 := by rw [List.length_take]; omega
 have h2 : (c.take k).length = k := by rw [List.length_take]; omega
 have e1 : grC c (k + 1) = maxTo c (k + 1) + 1 := by
  unfold grC cntC
  rw [if_neg (by omega), h1, maxTo_take c (k + 1) (k + 1) (Nat.le_refl _)]
 have e2 : maxTo c (k + 1) = max (maxTo c k) (c.getD k 0) := by
  cases k with
  | zero => simp [maxTo]
  | succ k => simp only [maxTo]
 rw [e1, e2]
 by_cases h0 : k = 0
 ·subst h0
  rw [grC_zero] at h ⊢
  have : maxTo c 0 = 0 := rfl
  have hc : c.getD 0 0 = 0 := by omega
  rw [this, hc]; rfl
 ·have e3 : grC c k = maxTo c k + 1 := by
   unfold grC cntC
   rw [if_neg (by omega), h2, maxTo_take c k k (Nat.le_refl _)]
  rw [e3] at h ⊢
  split <;> omega
theorem grC_le (c : List Nat) (h : ArC c) : ∀ k, k ≤ c.length → grC c k ≤ k
 | 0, _ => by rw [grC_zero]; omega
 | k + 1, hk => by
  have ih := grC_le c h k (by omega)
  rw [grC_succ (by omega) (h k (by omega))]
  split <;> omega
set_option maxRecDepth 20000 in
set_option maxHeartbeats 1000000 in
theorem areClasses_any (c : List Nat) (hc : ArC c) (h8 : c.length ≤ 8) (v : Value) (w : World) (hv : Ints w v (zs c)) : Calls Tryz.prog 136 #[v] w fun e w' => e = .returned (.bool true) ∧ w = w' := by
 have HV := hid (fun i (hi : i < c.length) (p : Option Addr) (n cap : Nat) (e : v = .slice p n cap) => (by rw [e] at hv; exact hv.zs_cell i hi : ∃ b o, p = some ⟨b, o, none⟩ ∧ w.cell? ⟨b, o + i, none⟩ = some (.int .i64 ((c.getD i 0 : Nat) : Int))))
 obtain ⟨p, cap, rfl, -, hmx, -, -⟩ := hv
 rw [zs_length c] at *
 unfold maxLen at hmx
 have HV2 := hid (fun i hi => HV.out i hi p _ cap rfl); clear HV
 have HC := hid hc
 have HG0 := hid (grC_zero c)
 have HGS := hid (fun k (hk : k < c.length) => grC_succ hk (hc k hk))
 have HGL := hid (grC_le c hc)
 clear hc
 obtain ⟨A, hA⟩ : ∃ A : Nat → Nat, ∀ k, A k = c.getD k 0 := ⟨_, fun _ => rfl⟩
 obtain ⟨M, hM⟩ : ∃ M : Nat → Nat, ∀ k, M k = grC c k := ⟨_, fun _ => rfl⟩
 have HCL := hid (fun k (hk : k < c.length) => show A k ≤ M k by rw [hA, hM]; exact HC.out k hk)
 clear HC
 simp only [← hA] at HV2 HGS
 simp only [← hM] at HG0 HGS HGL
 clear hA hM
 generalize c.length = n at *
 go_enter Tryz.func136, Tryz.ntmps136
 go_wp2_with fail
 go_loopw [3, 8] (fun s3 s8 wr => ∃ k : Nat, k ≤ n ∧ s8 = .int .i64 k ∧ s3 = .int .i64 (M k : Nat) ∧ wr = w) (fun _ s8 _ => n - (intOf s8).toNat)
 case atStart => exact ⟨0, by omega, rfl, by rw [HG0.out]; rfl, rfl⟩
 case round =>
  obtain ⟨k, hk, rfl, rfl, rfl⟩ := hrel
  by_cases hlt : k < n
  ·have hlt' : (k : Int) < n := by omega
   obtain ⟨b1, o1, e1, h1⟩ := HV2.out k hlt
   cases e1
   have hle := HCL.out k hlt
   have hml := HGL.out k hk
   have HST := hid (HGS.out k hlt)
   have hir : inR (A k : Int) 0 (M k : Int) = true := by simp [inR]; omega
   have HIR := hid (fun wz => inRange_any (A k : Int) 0 (M k : Int) wz)
   rw [hir] at HIR
   clear hir
   generalize A k = x at *
   generalize hmk : M k = m at *
   have HMK := hid hmk; clear hmk
   by_cases hxe : x = m
   ·rw [if_pos hxe] at HST
    subst hxe
    go_wp2_with fail
    refine (HIR.out _).mono ?_; rintro e w' ⟨rfl, rfl⟩
    go_wp2_with fail
    go_roundw
    case rel => exact ⟨k + 1, by omega, by go_num, by rw [HST.out]; go_num, by trivial⟩
    case measure => simp [intOf]; omega
   ·rw [if_neg hxe] at HST
    have hne : ((x : Int) == (m : Int)) = false := by rw [beq_eq_false_iff_ne]; omega
    go_wp2_with fail
    refine (HIR.out _).mono ?_; rintro e w' ⟨rfl, rfl⟩
    go_wp2_with fail
    go_roundw
    case rel => exact ⟨k + 1, by omega, by go_num, by rw [HST.out], by trivial⟩
    case measure => simp [intOf]; omega
  ·have e : k = n := by omega
   subst e
   have hlt' : ¬ (k : Int) < k := by omega
   go_wp2_with fail
   go_ret
   exact ⟨rfl, rfl⟩
end Go.Proofs.YtfmmajgkjkmghaaGreatDoor
namespace Go.Proofs.YtfmmajgkjkmghaaGreatDoor
open Go.RowKit
theorem ArC.lt8 {c : List Nat} (h : ArC c) (h8 : c.length ≤ 8) : ∀ i, i < c.length → c.getD i 0 < 8 := fun i hi => by
 have h1 := h i hi
 have h2 := grC_le c h i (by omega)
 omega
def cgB (b c : List Nat) : Bool := morB b (qtL b c) c
set_option maxRecDepth 20000 in
set_option maxHeartbeats 1000000 in
theorem isCongruence_any (b c : List Nat) (hc : ArC c) (hcl : c.length = b.length) (h8 : b.length ≤ 8) (hb : Bnd b.length b) (vb vc : Value) (w : World) (hvb : Ints w vb (zs b)) (hvc : Ints w vc (zs c)) :
  Calls Tryz.prog 72 #[.agg #[.int .i64 b.length, vb], vc] w fun e w' => e = .returned (.bool (cgB b c)) ∧ Keeps w w' := by
 have kA := (Keeps.refl w).alloc (.cells #[.int .i64 b.length, vb] 57)
 obtain ⟨c0, c1⟩ := BoxF.made w b.length vb 57
 have hlq : (qtL b c).length = cntC c := qtK_len b c _
 have hq8 : cntC c ≤ 8 := cntC_le (ArC.lt8 hc (by omega))
 have HS := hid (fun wz (kz : Keeps w wz) => sizeI_any (zs c) vc wz (hvc.keeps kz))
 have HAC := hid (fun wz (kz : Keeps w wz) => areClasses_any c hc (by omega) vc wz (hvc.keeps kz))
 have HQ := hid (fun wz (kz : Keeps w wz) => quotientC_any b c vb vc wz (hvb.keeps kz) (hvc.keeps kz) h8 hb hcl (ArC.lt8 hc (by omega)))
 have HFO := hid (fun vq wz (hz : Ints wz vq (zs (qtL b c))) => frameOf_any (zs (qtL b c)) vq wz hz)
 have HMO := hid (fun vq wz (kz : Keeps w wz) (hz : Ints wz vq (zs (qtL b c))) => isMorphism_any b (qtL b c) c vb vq vc wz (hvb.keeps kz) hz (hvc.keeps kz) h8 hcl (by omega) (fun i hi => by rw [hlq]; exact cntC_gt hi) hb)
 have hlz := zs_length (qtL b c)
 have hR : morB b (qtL b c) c = cgB b c := rfl
 rw [hR] at HMO
 rw [zs_length c, hcl] at HS
 obtain ⟨pb, kb, rfl, -⟩ := id hvb
 obtain ⟨pc, kc, rfl, -⟩ := id hvc
 rw [zs_length b] at *
 rw [zs_length c] at *
 rw [hcl] at *
 have HLZ := hid hlz
 clear hvb hvc hc hb hR hcl hlz
 generalize cgB b c = r at *
 generalize qtL b c = q at *
 generalize b.length = n at *
 have kd := kA.drew
 have d0 := (Keeps.refl (w.alloc (.cells #[.int .i64 n, .slice pb n kb] 57))).drew.cell c0
 go_enter Tryz.func72, Tryz.ntmps72
 go_wp2_with fail
 go_quiet (first | (go_at_call 43; refine quietS (HS.out _ (kA.drewN _))) | (go_at_call 136; refine quietS (HAC.out _ (kA.drewN _))))
 all_goals
  have hkx := kA.drewN nq
  have x0 := ((Keeps.refl (w.alloc (.cells #[.int .i64 n, .slice pb n kb] 57))).drewN nq).cell c0
  have x1 := ((Keeps.refl (w.alloc (.cells #[.int .i64 n, .slice pb n kb] 57))).drewN nq).cell c1
  generalize ((w.alloc (.cells #[.int .i64 n, .slice pb n kb] 57)).drewN nq) = wx at *
  clear c0 c1 kA kd d0
  have kD := hkx.drew
  have e0 := ((Keeps.refl wx).drew).cell x0
  have e1 := ((Keeps.refl wx).drew).cell x1
  go_wp2_with fail
  go_region_held3 (fun w' => Keeps w w' ∧ w'.cell? ⟨w.heap.size, 0, none⟩ = some (.int .i64 n) ∧ w'.cell? ⟨w.heap.size, 1, none⟩ = some (.slice pb n kb)) (first | exact ⟨kD, e0, e1⟩ | exact ⟨k2, z0, z1⟩ | exact ⟨k3, y0, y1⟩ | exact ⟨k4, u0, u1⟩) (first
   | (go_at_call 27; refine (HQ.out _ kD).mono ?_; rintro e w2 ⟨v2, rfl, hv2, k2'⟩; have k2 := kD.trans k2'; have z0 := k2'.cell e0; have z1 := k2'.cell e1; have hin2 := hv2.ints (by rw [HLZ.out]; omega); have HF2 := HFO.out v2 w2 hin2; obtain ⟨p2, c2, rfl, -, -, -⟩ := At.of_own hv2)
   | (go_at_call 29; refine HF2.mono ?_; rintro e w3 ⟨rfl, k3'⟩; have k3 := k2.trans k3'; have y0 := k3'.cell z0; have y1 := k3'.cell z1; have HM3 := HMO.out _ w3 k3 (hin2.keeps k3'); rw [← HLZ.out] at HM3)
   | (go_at_call 137; refine HM3.mono ?_; rintro e w4 ⟨rfl, k4'⟩; have k4 := k3.trans k4'; have u0 := k4'.cell y0; have u1 := k4'.cell y1))
  all_goals
   go_wp2_with fail
   go_ret
   exact ⟨rfl, by first | exact k4 | assumption⟩
end Go.Proofs.YtfmmajgkjkmghaaGreatDoor
