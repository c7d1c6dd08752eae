import Derived.Test.YtfmmajgkjkmghaaGreatDoorHQJ
import Derived.Deep.CutBlock
import Derived.Deep.DeepCutAuto
import Derived.Deep.RegionWith
/- The clusters of a preorder: the reference's side. -/
namespace Go.Proofs.YtfmmajgkjkmghaaGreatDoor
open Go.RowKit
theorem img_one (b : List Nat) {x : Nat} (hx : x < b.length) : img b (2 ^ x) = b.getD x 0 := by
 apply Nat.eq_of_testBit_eq
 intro i
 rw [Bool.eq_iff_iff]
 unfold img
 rw [imgL_bit]
 constructor
 ·rintro ⟨j, _, h2, h3⟩
  rw [Nat.testBit_two_pow, decide_eq_true_eq] at h2
  subst h2; exact h3
 ·intro h
  exact ⟨x, hx, by rw [Nat.testBit_two_pow, decide_eq_true_eq], h⟩
theorem img_closed {b : List Nat} (ht : transB b = true) {x : Nat} (hx : x < b.length) : inB (img b (b.getD x 0)) (b.getD x 0) = true := by
 unfold transB at ht
 exact List.all_eq_true.1 ht x (by simpa using hx)
theorem inB_or {a m : Nat} (h : inB a m = true) : m ||| a = m := by
 apply Nat.eq_of_testBit_eq
 intro i
 rw [inB_iff] at h
 rw [Nat.testBit_or]
 cases e : m.testBit i
 ·cases e2 : a.testBit i
  ·rfl
  ·rw [h i e2] at e; cases e
 ·rfl
theorem or_of_bit {a x : Nat} (h : a.testBit x = true) : 2 ^ x ||| a = a := by
 rw [Nat.or_comm]; exact or_pow_self h
set_option maxRecDepth 20000 in
set_option maxHeartbeats 1000000 in
theorem l05Reach_any (b : List Nat) (n : Int) (x : Nat) (v : Value) (w : World) (hv : Ints w v (zs b)) (hb : b.length ≤ 8) (hbm : Bnd b.length b) (hr : reflB b = true) (ht : transB b = true) (hx : x < b.length) :
  Calls Tryz.prog 180 #[.agg #[.int .i64 n, v], .int .i64 (2 ^ x)] w fun e w' => e = .returned (.int .i64 (b.getD x 0)) ∧ Keeps w w' := by
 have h256 := two8 hb
 have kA := (Keeps.refl w).alloc (.cells #[.int .i64 n, v] 57)
 obtain ⟨c0, c1⟩ := BoxF.made w n v 57
 have h2x : 2 ^ x < 2 ^ b.length := Nat.pow_lt_pow_right (by omega) hx
 have e2 : ((2 ^ x : Nat) : Int) = 2 ^ x := by push_cast; rfl
 have HG1 := hid (l01Image_any b (2 ^ x) v _ (hv.keeps kA) hb (bnd_mem hbm) h2x)
 have HG2 := hid (l01Image_any b (b.getD x 0) v _ (hv.keeps kA) hb (bnd_mem hbm) (hbm x))
 rw [img_one b hx] at HG1
 have hm := hbm x
 have hi := img_lt (bnd_mem hbm) (b.getD x 0)
 have W2 := withinN (img b (b.getD x 0)) (b.getD x 0) (by omega) (by omega)
 have W1 := withinN (b.getD x 0) (2 ^ x) (by omega) (by omega)
 have O1 := orN (2 ^ x) (b.getD x 0) (by omega) (by omega)
 rw [or_of_bit (refl_of hr hx)] at O1
 rw [img_closed ht hx] at W2
 have hz : inB (b.getD x 0) (2 ^ x) = true → b.getD x 0 = 2 ^ x := fun h => by
  have := inB_or h
  rw [or_of_bit (refl_of hr hx)] at this
  exact this
 have HZ := hid hz; clear hz
 obtain ⟨p, cap, rfl, _⟩ := hv
 rw [e2] at HG1 W1 O1
 generalize img b (b.getD x 0) = J at *
 generalize hG : b.getD x 0 = G at *
 clear hbm hr ht h2x hi hm hG
 cases h1 : inB G (2 ^ x)
 ·rw [h1] at W1
  have n1 : (bits .andNot .i64 ((G : Nat) : Int) (2 ^ x) != 0) = true := by rw [bne, W1]; rfl
  have n2 : (bits .andNot .i64 ((J : Nat) : Int) ((G : Nat) : Int) != 0) = false := by rw [bne, W2]; rfl
  have hne : (2 : Int) ^ x ≠ (G : Nat) := by
   intro e
   have e3 : G = 2 ^ x := by rw [← e2] at e; exact (Int.ofNat.inj e).symm
   rw [e3] at h1
   have : inB (2 ^ x) (2 ^ x) = true := (inB_iff _ _).2 fun _ h => h
   rw [h1] at this; cases this
  obtain ⟨μ, hmu⟩ : ∃ μ : Int → Nat, μ (G : Nat) < μ ((2 : Int) ^ x) := ⟨fun m => if m = (2 : Int) ^ x then 1 else 0, by
   show (if ((G : Nat) : Int) = (2 : Int) ^ x then 1 else 0) < (if (2 : Int) ^ x = (2 : Int) ^ x then 1 else 0)
   rw [if_neg (fun e => hne e.symm), if_pos rfl]; omega⟩
  have HMU := hid hmu
  clear hmu
  clear W1 W2 h1 HZ e2 hne
  generalize (2 : Int) ^ x = P at *
  go_enter Tryz.func180, Tryz.ntmps180
  go_wp2_with fail
  go_loopw [1] (fun m wr => wr = w.alloc (.cells #[.int .i64 n, .slice p (zs b).length cap] 57) ∧ (m = .int .i64 P ∨ m = .int .i64 G)) (fun m _ => μ (intOf m))
  case atStart => exact ⟨rfl, .inl rfl⟩
  case round =>
   obtain ⟨rfl, rfl | rfl⟩ := hrel
   ·go_wp2_with fail
    refine HG1.out.mono ?_; rintro e w' ⟨rfl, rfl⟩
    go_wp2_with fail
    refine HG1.out.mono ?_; rintro e w' ⟨rfl, rfl⟩
    go_wp2_with fail
    go_roundw
    case rel =>
     refine ⟨by first | rfl | trivial, .inr ?_⟩
     first | rfl | rw [O1]
    case measure =>
     exact HMU.out
   ·go_wp2_with fail
    refine HG2.out.mono ?_; rintro e w' ⟨rfl, rfl⟩
    go_wp2_with fail
    go_ret
    exact ⟨rfl, kA⟩
 ·have hGP := HZ.out h1
  rw [h1] at W1
  have n1 : (bits .andNot .i64 ((G : Nat) : Int) (2 ^ x) != 0) = false := by rw [bne, W1]; rfl
  clear W1 W2 h1 HZ O1 HG2
  subst hGP
  rw [e2] at HG1 n1 ⊢
  clear e2
  generalize (2 : Int) ^ x = P at *
  go_enter Tryz.func180, Tryz.ntmps180
  go_wp2_with fail
  go_loopw [1] (fun m wr => wr = w.alloc (.cells #[.int .i64 n, .slice p (zs b).length cap] 57) ∧ m = .int .i64 P) (fun _ _ => 0)
  case atStart => exact ⟨rfl, rfl⟩
  case round =>
   obtain ⟨rfl, rfl⟩ := hrel
   go_wp2_with fail
   refine HG1.out.mono ?_; rintro e w' ⟨rfl, rfl⟩
   go_wp2_with fail
   go_ret
   exact ⟨rfl, kA⟩
def ownB (b : List Nat) (k j : Nat) : Int := match fstE b k j with
 | some y => (((clS b k).1.getD y 0 : Nat) : Int)
 | none => -1
theorem ownB_some {b : List Nat} {k j y : Nat} (h : fstE b k j = some y) : ownB b k j = (((clS b k).1.getD y 0 : Nat) : Int) := by unfold ownB; rw [h]
theorem ownB_none {b : List Nat} {k j : Nat} (h : fstE b k j = none) : ownB b k j = -1 := by unfold ownB; rw [h]
theorem fstE_next {b : List Nat} {k j : Nat} (h : fstE b k j = none) : fstE b k (j + 1) = if eqvB b k j then some j else none := by
 show (match fstE b k j with | some y => some y | none => if eqvB b k j then some j else none) = _
 rw [h]
theorem Ints.zs_at {w : World} {p : Option Addr} {n cap : Nat} {l : List Nat} (h : Ints w (.slice p n cap) (zs l)) (i : Nat) (hi : i < l.length) :
  ∃ b o, p = some ⟨b, o, none⟩ ∧ n = l.length ∧ w.cell? ⟨b, o + i, none⟩ = some (.int .i64 ((l.getD i 0 : Nat) : Int)) := by
 have hn : n = l.length := by obtain ⟨_, _, e, _⟩ := h; cases e; exact zs_length l
 obtain ⟨b, o, e, h1⟩ := h.zs_cell i hi
 exact ⟨b, o, e, hn, h1⟩
set_option maxRecDepth 20000 in
set_option maxHeartbeats 8000000 in
theorem l05Clusters_any (b : List Nat) (v : Value) (w : World) (hv : Ints w v (zs b)) (hb : b.length ≤ 8) (hbm : Bnd b.length b) (hr : reflB b = true) (ht : transB b = true) :
  Calls Tryz.prog 155 #[.agg #[.int .i64 b.length, v]] w (RetI w (zs (clB b))) := by
 have kA := (Keeps.refl w).alloc (.cells #[.int .i64 b.length, v] 57)
 have HRE := hid (fun x wz (k : Keeps w wz) (hx : x < b.length) => l05Reach_any b b.length x v wz (hv.keeps k) hb hbm hr ht hx)
 have h256 := two8 hb
 have HN : Hid (∀ i, b.getD i 0 < 2 ^ b.length) := hid hbm
 have HONE := hid (fun (x : Nat) wz (h : x ≤ 62) => l01One_any (x : Int) wz (by omega) (by omega))
 simp only [Int.toNat_natCast] at HONE
 obtain ⟨c0, c1⟩ := BoxF.made w b.length v 57
 have hE := OwnI.empty (w.alloc (.cells #[.int .i64 b.length, v] 57))
 have HE := hid hE; clear hE
 obtain ⟨p, cap, rfl, _⟩ := hv
 rw [zs_length] at *
 clear hbm hr ht
 have HC : Hid (clB b = (clS b b.length).1) := hid rfl
 generalize hn : b.length = n at *
 have Hn := hid hn; clear hn
 go_enter Tryz.func155, Tryz.ntmps155
 go_wp2_with fail
 go_loopw [3, 4, 5] (fun o c' x' wr => ∃ k : Nat, k ≤ n ∧ x' = .int .i64 k ∧ c' = .int .i64 ((clS b k).2 : Nat) ∧ OwnI wr (w.heap.size + 1) o (zs (clS b k).1) ∧ Keeps (w.alloc (.cells #[.int .i64 n, .slice p n cap] 57)) wr) (fun _ _ x' _ => n - (intOf x').toNat)
 case atStart => exact ⟨0, by omega, rfl, rfl, by simpa [clS, zs] using HE.out, (Keeps.refl _).alloc _⟩
 case round =>
  obtain ⟨k, hk, rfl, rfl, hown, kw⟩ := hrel
  clear HE
  have z0 := kw.cell c0
  have z1 := kw.cell c1
  by_cases hlt : k < n
  ·have hlt' : (k : Int) < n := by omega
   have HOW := hid hown; clear hown
   have hcl := clS_le b k
   have KW := hid kw
   go_wp2_with fail
   go_loopw [6, 7] (fun o' y' wr' => ∃ j : Nat, j ≤ k ∧ y' = .int .i64 j ∧ o' = .int .i64 (ownB b k j) ∧ Keeps wr wr') (fun _ y' _ => k - (intOf y').toNat)
   case atStart => exact ⟨0, by omega, rfl, rfl, Keeps.refl _⟩
   case round =>
    obtain ⟨j, hj, rfl, rfl, kv⟩ := hrel
    have q0 := kv.cell z0
    have q1 := kv.cell z1
    have KV := hid (kA.trans (kw.trans kv))
    clear z0 z1 KW
    by_cases hjt : j < k
    ·have hjt' : (j : Int) < k := by omega
     cases hf : fstE b k j with
     | some y =>
      have ho2 : ownB b k (j + 1) = ownB b k j := by rw [ownB_some (fstE_stay 1 hf), ownB_some hf]
      have hz : 0 ≤ ownB b k j := by rw [ownB_some hf]; omega
      have HO2 := hid ho2
      clear ho2 hf
      generalize ownB b k j = z at *
      have hd : decide (z < 0) = false := by simp; omega
      go_wp2_with fail
      go_quiet (fail)
      go_wp2_with fail
      go_roundw
      case rel => exact ⟨j + 1, by omega, by go_num, by rw [HO2.out], kv.drewN _⟩
      case measure => simp [intOf]; omega
     | none =>
      rw [ownB_none hf]
      have hfn := fstE_next hf
      have HR1 := hid (fun wz (k' : Keeps wr wz) => HRE.out k wz (KV.out.trans k') hlt)
      have HR2 := hid (fun wz (k' : Keeps wr wz) => HRE.out j wz (KV.out.trans k') (by omega))
      have m1 := HN.out k
      have m2 := HN.out j
      have HB1 := hid (fun wz => l01BitB_any (b.getD k 0) j wz (by omega) (by omega))
      have HB2 := hid (fun wz => l01BitB_any (b.getD j 0) k wz (by omega) (by omega))
      have HO1 := hid (fun wz => HONE.out k wz (by omega))
      have HO2 := hid (fun wz => HONE.out j wz (by omega))
      have hev : eqvB b k j = ((b.getD k 0).testBit j && (b.getD j 0).testBit k) := rfl
      rw [hev] at hfn
      have kr := Keeps.refl wr
      have HFN := hid hfn
      clear hev hf hfn m1 m2
      generalize b.getD k 0 = bk at *
      generalize b.getD j 0 = bj at *
      generalize (2 : Int) ^ k = P1 at *
      generalize (2 : Int) ^ j = P2 at *
      cases e1 : bk.testBit j
      ·rw [e1] at HB1 HFN
       have ho2 : ownB b k (j + 1) = -1 := ownB_none (by rw [HFN.out]; rfl)
       have HO3 := hid ho2
       clear ho2 e1
       have kr1 := kr.drew
       have d0 := And.intro (kr1.cell q0) (kr1.cell q1)
       clear q0 q1
       go_upto_region 9 with fail
       refine wp_region_noPanic ?_
       refine wp_region_held_drew (S := (fun w' => w'.cell? ⟨w.heap.size, 0, none⟩ = some (.int .i64 n) ∧ w'.cell? ⟨w.heap.size, 1, none⟩ = some (.slice p n cap))) (by kernel_rfl) d0 (fun hHeld => ?_)
       refine wpAnyH_take (i := 0) (oi := ⟨some 20, _, _, _, _, none⟩) (v := ?v0a) rfl (by kernel_rfl) (by kernel_rfl) (by kernel_rfl) (fun _ _ _ h => h) (Or.inl ⟨by rfl, ?h0a⟩) (by assumption) ?r0a
       case h0a => (intro w hSw; (try dsimp only at hSw); go_simp; try with_reducible rfl)
       try simp only [Act.put, List.setIfInBounds_toArray, List.set_cons_zero, List.set_cons_succ]
       refine wpAnyH_take (i := 1) (oi := ⟨some 21, _, _, _, _, none⟩) (v := ?v1a) rfl (by kernel_rfl) (by kernel_rfl) (by kernel_rfl) (fun _ _ _ h => h) (Or.inl ⟨by rfl, ?h1a⟩) (by assumption) ?r1a
       case h1a => (intro w hSw; (try dsimp only at hSw); go_simp; try with_reducible rfl)
       try simp only [Act.put, List.setIfInBounds_toArray, List.set_cons_zero, List.set_cons_succ]
       refine wpAnyH_take (i := 2) (oi := ⟨some 22, _, _, _, _, none⟩) (v := ?v2a) rfl (by kernel_rfl) (by kernel_rfl) (by kernel_rfl) (fun _ _ _ h => h) (Or.inl ⟨by rfl, ?h2a⟩) (by assumption) ?r2a
       case h2a => (intro w hSw; (try dsimp only at hSw); go_simp; try with_reducible rfl)
       try simp only [Act.put, List.setIfInBounds_toArray, List.set_cons_zero, List.set_cons_succ]
       refine wpAnyH_take (i := 3) (oi := ⟨some 23, _, _, _, _, some (2, true)⟩) (v := ?v3a) rfl (by kernel_rfl) (by kernel_rfl) (by kernel_rfl) (fun _ _ _ h => h) (Or.inl ⟨by rfl, ?h3a⟩) (by assumption) ?r3a
       case h3a => (intro w hSw; (try dsimp only at hSw); go_simp; try with_reducible rfl)
       try simp only [Act.put, List.setIfInBounds_toArray, List.set_cons_zero, List.set_cons_succ]
       refine wpAnyH_take (i := 4) (oi := ⟨some 24, _, _, _, _, some (2, true)⟩) (v := ?v4a) rfl (by kernel_rfl) (by kernel_rfl) (by kernel_rfl) (fun _ _ _ h => h) (Or.inl ⟨by rfl, ?h4a⟩) (by assumption) ?r4a
       case h4a => (intro w hSw; (try dsimp only at hSw); go_simp; try with_reducible rfl)
       try simp only [Act.put, List.setIfInBounds_toArray, List.set_cons_zero, List.set_cons_succ]
       refine wpAnyH_take (i := 7) (oi := ⟨some 27, _, _, _, _, some (2, true)⟩) (v := ?v7a) rfl (by kernel_rfl) (by kernel_rfl) (by kernel_rfl) (fun _ _ _ h => h) (Or.inl ⟨by rfl, ?h7a⟩) (by assumption) ?r7a
       case h7a => (intro w hSw; (try dsimp only at hSw); go_simp; try with_reducible rfl)
       try simp only [Act.put, List.setIfInBounds_toArray, List.set_cons_zero, List.set_cons_succ]
       refine wpAnyH_ready (rs := [5]) (by kernel_rfl) (by simp) ?_
       refine AllReadyH.cons (o := ⟨some 25, _, _, _, _, some (2, true)⟩) rfl (fun K hK => ?_) AllReadyH.nil
       rw [if_pos (by kernel_rfl)]
       go_simp
       go_at_call 91; refine (HO1.out _).mono ?_; rintro e w' ⟨rfl, rfl⟩
       refine hK.out _ _ (d0) (fun hHeld => ?_)
       clear hK K
       try simp only [Act.put, List.setIfInBounds_toArray, List.set_cons_zero, List.set_cons_succ]
       refine wpAnyH_ready (rs := [6]) (by kernel_rfl) (by simp) ?_
       refine AllReadyH.cons (o := ⟨some 26, _, _, _, _, some (2, true)⟩) rfl (fun K hK => ?_) AllReadyH.nil
       rw [if_pos (by kernel_rfl)]
       go_simp
       go_at_call 180; refine (HR1.out _ kr1).mono ?_; rintro e w2 ⟨rfl, k2⟩; have g1 := And.intro (k2.cell d0.1) (k2.cell d0.2)
       refine hK.out _ _ (g1) (fun hHeld => ?_)
       clear hK K
       try simp only [Act.put, List.setIfInBounds_toArray, List.set_cons_zero, List.set_cons_succ]
       refine wpAnyH_ready (rs := [8]) (by kernel_rfl) (by simp) ?_
       refine AllReadyH.cons (o := ⟨some 28, _, _, _, _, some (2, true)⟩) rfl (fun K hK => ?_) AllReadyH.nil
       rw [if_pos (by kernel_rfl)]
       go_simp
       go_at_call 150; refine (HB1.out _).mono ?_; rintro e w' ⟨rfl, rfl⟩
       refine hK.out _ _ (g1) (fun hHeld => ?_)
       clear hK K
       try simp only [Act.put, List.setIfInBounds_toArray, List.set_cons_zero, List.set_cons_succ]
       refine wpAnyH_take (i := 9) (oi := ⟨some 29, _, _, _, _, none⟩) (v := ?v9a) rfl (by kernel_rfl) (by kernel_rfl) (by kernel_rfl) (fun _ _ _ h => h) (Or.inl ⟨by rfl, ?h9a⟩) (by assumption) ?r9a
       case h9a => (intro w hSw; (try dsimp only at hSw); go_simp; try with_reducible rfl)
       try simp only [Act.put, List.setIfInBounds_toArray, List.set_cons_zero, List.set_cons_succ]
       refine wpAnyH_take (i := 10) (oi := ⟨some 30, _, _, _, _, none⟩) (v := ?v10a) rfl (by kernel_rfl) (by kernel_rfl) (by kernel_rfl) (fun _ _ _ h => h) (Or.inl ⟨by rfl, ?h10a⟩) (by assumption) ?r10a
       case h10a => (intro w hSw; (try dsimp only at hSw); go_simp; try with_reducible rfl)
       try simp only [Act.put, List.setIfInBounds_toArray, List.set_cons_zero, List.set_cons_succ]
       refine wpAnyH_take (i := 11) (oi := ⟨some 31, _, _, _, _, some (10, true)⟩) (v := undef) rfl (by kernel_rfl) (by kernel_rfl) (by kernel_rfl) (fun _ _ _ h => h) (Or.inr ⟨by rfl, rfl⟩) (by assumption) ?_
       try simp only [Act.put, List.setIfInBounds_toArray, List.set_cons_zero, List.set_cons_succ]
       refine wpAnyH_take (i := 12) (oi := ⟨some 32, _, _, _, _, some (10, true)⟩) (v := undef) rfl (by kernel_rfl) (by kernel_rfl) (by kernel_rfl) (fun _ _ _ h => h) (Or.inr ⟨by rfl, rfl⟩) (by assumption) ?_
       try simp only [Act.put, List.setIfInBounds_toArray, List.set_cons_zero, List.set_cons_succ]
       refine wpAnyH_take (i := 15) (oi := ⟨some 35, _, _, _, _, some (10, true)⟩) (v := undef) rfl (by kernel_rfl) (by kernel_rfl) (by kernel_rfl) (fun _ _ _ h => h) (Or.inr ⟨by rfl, rfl⟩) (by assumption) ?_
       try simp only [Act.put, List.setIfInBounds_toArray, List.set_cons_zero, List.set_cons_succ]
       refine wpAnyH_ready (rs := [13]) (by kernel_rfl) (by simp) ?_
       refine AllReadyH.cons (o := ⟨some 33, _, _, _, _, some (10, true)⟩) rfl (fun K hK => ?_) AllReadyH.nil
       rw [if_neg (Bool.eq_false_iff.1 (by kernel_rfl))]
       refine hK.out _ _ (by assumption) (fun hHeld => ?_)
       clear hK K
       try simp only [Act.put, List.setIfInBounds_toArray, List.set_cons_zero, List.set_cons_succ]
       refine wpAnyH_ready (rs := [14]) (by kernel_rfl) (by simp) ?_
       refine AllReadyH.cons (o := ⟨some 34, _, _, _, _, some (10, true)⟩) rfl (fun K hK => ?_) AllReadyH.nil
       rw [if_neg (Bool.eq_false_iff.1 (by kernel_rfl))]
       refine hK.out _ _ (by assumption) (fun hHeld => ?_)
       clear hK K
       try simp only [Act.put, List.setIfInBounds_toArray, List.set_cons_zero, List.set_cons_succ]
       refine wpAnyH_ready (rs := [16]) (by kernel_rfl) (by simp) ?_
       refine AllReadyH.cons (o := ⟨some 36, _, _, _, _, some (10, true)⟩) rfl (fun K hK => ?_) AllReadyH.nil
       rw [if_neg (Bool.eq_false_iff.1 (by kernel_rfl))]
       refine hK.out _ _ (by assumption) (fun hHeld => ?_)
       clear hK K
       try simp only [Act.put, List.setIfInBounds_toArray, List.set_cons_zero, List.set_cons_succ]
       refine wpAnyH_take (i := 17) (oi := ⟨some 37, _, _, _, _, none⟩) (v := ?v17a) rfl (by kernel_rfl) (by kernel_rfl) (by kernel_rfl) (fun _ _ _ h => h) (Or.inl ⟨by rfl, ?h17a⟩) (by assumption) ?r17a
       case h17a => (intro w hSw; (try dsimp only at hSw); go_simp; try with_reducible rfl)
       try simp only [Act.put, List.setIfInBounds_toArray, List.set_cons_zero, List.set_cons_succ]
       refine wpAnyH_done (by kernel_rfl) ?_ _
       refine NoPanic.normal ?_
       have k2' := kr1.trans k2
       go_wp2_with fail
       go_roundw
       case rel => exact ⟨j + 1, by omega, by go_num, by rw [HO3.out], kv.trans k2'⟩
       case measure => simp [intOf]; omega
      ·rw [e1] at HB1 HFN
       cases e2 : bj.testBit k
       ·rw [e2] at HB2 HFN
        have ho2 : ownB b k (j + 1) = -1 := ownB_none (by rw [HFN.out]; rfl)
        have HO3 := hid ho2
        clear ho2 e1 e2
        have kr1 := kr.drew
        have d0 := And.intro (kr1.cell q0) (kr1.cell q1)
        clear q0 q1
        go_upto_region 9 with fail
        refine wp_region_noPanic ?_
        refine wp_region_held_drew (S := (fun w' => w'.cell? ⟨w.heap.size, 0, none⟩ = some (.int .i64 n) ∧ w'.cell? ⟨w.heap.size, 1, none⟩ = some (.slice p n cap))) (by kernel_rfl) d0 (fun hHeld => ?_)
        refine wpAnyH_take (i := 0) (oi := ⟨some 20, _, _, _, _, none⟩) (v := ?v0b) rfl (by kernel_rfl) (by kernel_rfl) (by kernel_rfl) (fun _ _ _ h => h) (Or.inl ⟨by rfl, ?h0b⟩) (by assumption) ?r0b
        case h0b => (intro w hSw; (try dsimp only at hSw); go_simp; try with_reducible rfl)
        try simp only [Act.put, List.setIfInBounds_toArray, List.set_cons_zero, List.set_cons_succ]
        refine wpAnyH_take (i := 1) (oi := ⟨some 21, _, _, _, _, none⟩) (v := ?v1b) rfl (by kernel_rfl) (by kernel_rfl) (by kernel_rfl) (fun _ _ _ h => h) (Or.inl ⟨by rfl, ?h1b⟩) (by assumption) ?r1b
        case h1b => (intro w hSw; (try dsimp only at hSw); go_simp; try with_reducible rfl)
        try simp only [Act.put, List.setIfInBounds_toArray, List.set_cons_zero, List.set_cons_succ]
        refine wpAnyH_take (i := 2) (oi := ⟨some 22, _, _, _, _, none⟩) (v := ?v2b) rfl (by kernel_rfl) (by kernel_rfl) (by kernel_rfl) (fun _ _ _ h => h) (Or.inl ⟨by rfl, ?h2b⟩) (by assumption) ?r2b
        case h2b => (intro w hSw; (try dsimp only at hSw); go_simp; try with_reducible rfl)
        try simp only [Act.put, List.setIfInBounds_toArray, List.set_cons_zero, List.set_cons_succ]
        refine wpAnyH_take (i := 3) (oi := ⟨some 23, _, _, _, _, some (2, true)⟩) (v := ?v3b) rfl (by kernel_rfl) (by kernel_rfl) (by kernel_rfl) (fun _ _ _ h => h) (Or.inl ⟨by rfl, ?h3b⟩) (by assumption) ?r3b
        case h3b => (intro w hSw; (try dsimp only at hSw); go_simp; try with_reducible rfl)
        try simp only [Act.put, List.setIfInBounds_toArray, List.set_cons_zero, List.set_cons_succ]
        refine wpAnyH_take (i := 4) (oi := ⟨some 24, _, _, _, _, some (2, true)⟩) (v := ?v4b) rfl (by kernel_rfl) (by kernel_rfl) (by kernel_rfl) (fun _ _ _ h => h) (Or.inl ⟨by rfl, ?h4b⟩) (by assumption) ?r4b
        case h4b => (intro w hSw; (try dsimp only at hSw); go_simp; try with_reducible rfl)
        try simp only [Act.put, List.setIfInBounds_toArray, List.set_cons_zero, List.set_cons_succ]
        refine wpAnyH_take (i := 7) (oi := ⟨some 27, _, _, _, _, some (2, true)⟩) (v := ?v7b) rfl (by kernel_rfl) (by kernel_rfl) (by kernel_rfl) (fun _ _ _ h => h) (Or.inl ⟨by rfl, ?h7b⟩) (by assumption) ?r7b
        case h7b => (intro w hSw; (try dsimp only at hSw); go_simp; try with_reducible rfl)
        try simp only [Act.put, List.setIfInBounds_toArray, List.set_cons_zero, List.set_cons_succ]
        refine wpAnyH_ready (rs := [5]) (by kernel_rfl) (by simp) ?_
        refine AllReadyH.cons (o := ⟨some 25, _, _, _, _, some (2, true)⟩) rfl (fun K hK => ?_) AllReadyH.nil
        rw [if_pos (by kernel_rfl)]
        go_simp
        go_at_call 91; refine (HO1.out _).mono ?_; rintro e w' ⟨rfl, rfl⟩
        refine hK.out _ _ (d0) (fun hHeld => ?_)
        clear hK K
        try simp only [Act.put, List.setIfInBounds_toArray, List.set_cons_zero, List.set_cons_succ]
        refine wpAnyH_ready (rs := [6]) (by kernel_rfl) (by simp) ?_
        refine AllReadyH.cons (o := ⟨some 26, _, _, _, _, some (2, true)⟩) rfl (fun K hK => ?_) AllReadyH.nil
        rw [if_pos (by kernel_rfl)]
        go_simp
        go_at_call 180; refine (HR1.out _ kr1).mono ?_; rintro e w2 ⟨rfl, k2⟩; have g1 := And.intro (k2.cell d0.1) (k2.cell d0.2)
        refine hK.out _ _ (g1) (fun hHeld => ?_)
        clear hK K
        try simp only [Act.put, List.setIfInBounds_toArray, List.set_cons_zero, List.set_cons_succ]
        refine wpAnyH_ready (rs := [8]) (by kernel_rfl) (by simp) ?_
        refine AllReadyH.cons (o := ⟨some 28, _, _, _, _, some (2, true)⟩) rfl (fun K hK => ?_) AllReadyH.nil
        rw [if_pos (by kernel_rfl)]
        go_simp
        go_at_call 150; refine (HB1.out _).mono ?_; rintro e w' ⟨rfl, rfl⟩
        refine hK.out _ _ (g1) (fun hHeld => ?_)
        clear hK K
        try simp only [Act.put, List.setIfInBounds_toArray, List.set_cons_zero, List.set_cons_succ]
        refine wpAnyH_take (i := 9) (oi := ⟨some 29, _, _, _, _, none⟩) (v := ?v9b) rfl (by kernel_rfl) (by kernel_rfl) (by kernel_rfl) (fun _ _ _ h => h) (Or.inl ⟨by rfl, ?h9b⟩) (by assumption) ?r9b
        case h9b => (intro w hSw; (try dsimp only at hSw); go_simp; try with_reducible rfl)
        try simp only [Act.put, List.setIfInBounds_toArray, List.set_cons_zero, List.set_cons_succ]
        refine wpAnyH_take (i := 10) (oi := ⟨some 30, _, _, _, _, none⟩) (v := ?v10b) rfl (by kernel_rfl) (by kernel_rfl) (by kernel_rfl) (fun _ _ _ h => h) (Or.inl ⟨by rfl, ?h10b⟩) (by assumption) ?r10b
        case h10b => (intro w hSw; (try dsimp only at hSw); go_simp; try with_reducible rfl)
        try simp only [Act.put, List.setIfInBounds_toArray, List.set_cons_zero, List.set_cons_succ]
        refine wpAnyH_take (i := 11) (oi := ⟨some 31, _, _, _, _, some (10, true)⟩) (v := ?v11b) rfl (by kernel_rfl) (by kernel_rfl) (by kernel_rfl) (fun _ _ _ h => h) (Or.inl ⟨by rfl, ?h11b⟩) (by assumption) ?r11b
        case h11b => (intro w hSw; (try dsimp only at hSw); go_simp; try with_reducible rfl)
        try simp only [Act.put, List.setIfInBounds_toArray, List.set_cons_zero, List.set_cons_succ]
        refine wpAnyH_take (i := 12) (oi := ⟨some 32, _, _, _, _, some (10, true)⟩) (v := ?v12b) rfl (by kernel_rfl) (by kernel_rfl) (by kernel_rfl) (fun _ _ _ h => h) (Or.inl ⟨by rfl, ?h12b⟩) (by assumption) ?r12b
        case h12b => (intro w hSw; (try dsimp only at hSw); go_simp; try with_reducible rfl)
        try simp only [Act.put, List.setIfInBounds_toArray, List.set_cons_zero, List.set_cons_succ]
        refine wpAnyH_take (i := 15) (oi := ⟨some 35, _, _, _, _, some (10, true)⟩) (v := ?v15b) rfl (by kernel_rfl) (by kernel_rfl) (by kernel_rfl) (fun _ _ _ h => h) (Or.inl ⟨by rfl, ?h15b⟩) (by assumption) ?r15b
        case h15b => (intro w hSw; (try dsimp only at hSw); go_simp; try with_reducible rfl)
        try simp only [Act.put, List.setIfInBounds_toArray, List.set_cons_zero, List.set_cons_succ]
        refine wpAnyH_ready (rs := [13]) (by kernel_rfl) (by simp) ?_
        refine AllReadyH.cons (o := ⟨some 33, _, _, _, _, some (10, true)⟩) rfl (fun K hK => ?_) AllReadyH.nil
        rw [if_pos (by kernel_rfl)]
        go_simp
        go_at_call 91; refine (HO2.out _).mono ?_; rintro e w' ⟨rfl, rfl⟩
        refine hK.out _ _ (g1) (fun hHeld => ?_)
        clear hK K
        try simp only [Act.put, List.setIfInBounds_toArray, List.set_cons_zero, List.set_cons_succ]
        refine wpAnyH_ready (rs := [14]) (by kernel_rfl) (by simp) ?_
        refine AllReadyH.cons (o := ⟨some 34, _, _, _, _, some (10, true)⟩) rfl (fun K hK => ?_) AllReadyH.nil
        rw [if_pos (by kernel_rfl)]
        go_simp
        go_at_call 180; refine (HR2.out _ (kr1.trans k2)).mono ?_; rintro e w3 ⟨rfl, k3⟩; have g2 := And.intro (k3.cell g1.1) (k3.cell g1.2)
        refine hK.out _ _ (g2) (fun hHeld => ?_)
        clear hK K
        try simp only [Act.put, List.setIfInBounds_toArray, List.set_cons_zero, List.set_cons_succ]
        refine wpAnyH_ready (rs := [16]) (by kernel_rfl) (by simp) ?_
        refine AllReadyH.cons (o := ⟨some 36, _, _, _, _, some (10, true)⟩) rfl (fun K hK => ?_) AllReadyH.nil
        rw [if_pos (by kernel_rfl)]
        go_simp
        go_at_call 150; refine (HB2.out _).mono ?_; rintro e w' ⟨rfl, rfl⟩
        refine hK.out _ _ (g2) (fun hHeld => ?_)
        clear hK K
        try simp only [Act.put, List.setIfInBounds_toArray, List.set_cons_zero, List.set_cons_succ]
        refine wpAnyH_take (i := 17) (oi := ⟨some 37, _, _, _, _, none⟩) (v := ?v17b) rfl (by kernel_rfl) (by kernel_rfl) (by kernel_rfl) (fun _ _ _ h => h) (Or.inl ⟨by rfl, ?h17b⟩) (by assumption) ?r17b
        case h17b => (intro w hSw; (try dsimp only at hSw); go_simp; try with_reducible rfl)
        try simp only [Act.put, List.setIfInBounds_toArray, List.set_cons_zero, List.set_cons_succ]
        refine wpAnyH_done (by kernel_rfl) ?_ _
        refine NoPanic.normal ?_
        have k3' := kr1.trans (k2.trans k3)
        go_wp2_with fail
        go_roundw
        case rel => exact ⟨j + 1, by omega, by go_num, by rw [HO3.out], kv.trans k3'⟩
        case measure => simp [intOf]; omega
       ·rw [e2] at HB2 HFN
        have ho2 : ownB b k (j + 1) = (((clS b k).1.getD j 0 : Nat) : Int) := ownB_some (by rw [HFN.out]; rfl)
        have HO3 := hid ho2
        have hlen := clS_len b k
        have hlj : j < (clS b k).1.length := by omega
        obtain ⟨o1, o2, o3, rfl⟩ := HOW.out.shape0
        have HRD := hid (fun wz (k' : Keeps wr wz) => by
         have h1 := (HOW.out.keeps (kv.trans k')).ints (by rw [zs_length]; omega)
         exact h1.zs_at j hlj)
        clear ho2 e1 e2
        have kr1 := kr.drew
        have d0 := And.intro (kr1.cell q0) (kr1.cell q1)
        clear q0 q1
        go_upto_region 9 with fail
        refine wp_region_noPanic ?_
        refine wp_region_held_drew (S := (fun w' => w'.cell? ⟨w.heap.size, 0, none⟩ = some (.int .i64 n) ∧ w'.cell? ⟨w.heap.size, 1, none⟩ = some (.slice p n cap))) (by kernel_rfl) d0 (fun hHeld => ?_)
        refine wpAnyH_take (i := 0) (oi := ⟨some 20, _, _, _, _, none⟩) (v := ?v0c) rfl (by kernel_rfl) (by kernel_rfl) (by kernel_rfl) (fun _ _ _ h => h) (Or.inl ⟨by rfl, ?h0c⟩) (by assumption) ?r0c
        case h0c => (intro w hSw; (try dsimp only at hSw); go_simp; try with_reducible rfl)
        try simp only [Act.put, List.setIfInBounds_toArray, List.set_cons_zero, List.set_cons_succ]
        refine wpAnyH_take (i := 1) (oi := ⟨some 21, _, _, _, _, none⟩) (v := ?v1c) rfl (by kernel_rfl) (by kernel_rfl) (by kernel_rfl) (fun _ _ _ h => h) (Or.inl ⟨by rfl, ?h1c⟩) (by assumption) ?r1c
        case h1c => (intro w hSw; (try dsimp only at hSw); go_simp; try with_reducible rfl)
        try simp only [Act.put, List.setIfInBounds_toArray, List.set_cons_zero, List.set_cons_succ]
        refine wpAnyH_take (i := 2) (oi := ⟨some 22, _, _, _, _, none⟩) (v := ?v2c) rfl (by kernel_rfl) (by kernel_rfl) (by kernel_rfl) (fun _ _ _ h => h) (Or.inl ⟨by rfl, ?h2c⟩) (by assumption) ?r2c
        case h2c => (intro w hSw; (try dsimp only at hSw); go_simp; try with_reducible rfl)
        try simp only [Act.put, List.setIfInBounds_toArray, List.set_cons_zero, List.set_cons_succ]
        refine wpAnyH_take (i := 3) (oi := ⟨some 23, _, _, _, _, some (2, true)⟩) (v := ?v3c) rfl (by kernel_rfl) (by kernel_rfl) (by kernel_rfl) (fun _ _ _ h => h) (Or.inl ⟨by rfl, ?h3c⟩) (by assumption) ?r3c
        case h3c => (intro w hSw; (try dsimp only at hSw); go_simp; try with_reducible rfl)
        try simp only [Act.put, List.setIfInBounds_toArray, List.set_cons_zero, List.set_cons_succ]
        refine wpAnyH_take (i := 4) (oi := ⟨some 24, _, _, _, _, some (2, true)⟩) (v := ?v4c) rfl (by kernel_rfl) (by kernel_rfl) (by kernel_rfl) (fun _ _ _ h => h) (Or.inl ⟨by rfl, ?h4c⟩) (by assumption) ?r4c
        case h4c => (intro w hSw; (try dsimp only at hSw); go_simp; try with_reducible rfl)
        try simp only [Act.put, List.setIfInBounds_toArray, List.set_cons_zero, List.set_cons_succ]
        refine wpAnyH_take (i := 7) (oi := ⟨some 27, _, _, _, _, some (2, true)⟩) (v := ?v7c) rfl (by kernel_rfl) (by kernel_rfl) (by kernel_rfl) (fun _ _ _ h => h) (Or.inl ⟨by rfl, ?h7c⟩) (by assumption) ?r7c
        case h7c => (intro w hSw; (try dsimp only at hSw); go_simp; try with_reducible rfl)
        try simp only [Act.put, List.setIfInBounds_toArray, List.set_cons_zero, List.set_cons_succ]
        refine wpAnyH_ready (rs := [5]) (by kernel_rfl) (by simp) ?_
        refine AllReadyH.cons (o := ⟨some 25, _, _, _, _, some (2, true)⟩) rfl (fun K hK => ?_) AllReadyH.nil
        rw [if_pos (by kernel_rfl)]
        go_simp
        go_at_call 91; refine (HO1.out _).mono ?_; rintro e w' ⟨rfl, rfl⟩
        refine hK.out _ _ (d0) (fun hHeld => ?_)
        clear hK K
        try simp only [Act.put, List.setIfInBounds_toArray, List.set_cons_zero, List.set_cons_succ]
        refine wpAnyH_ready (rs := [6]) (by kernel_rfl) (by simp) ?_
        refine AllReadyH.cons (o := ⟨some 26, _, _, _, _, some (2, true)⟩) rfl (fun K hK => ?_) AllReadyH.nil
        rw [if_pos (by kernel_rfl)]
        go_simp
        go_at_call 180; refine (HR1.out _ kr1).mono ?_; rintro e w2 ⟨rfl, k2⟩; have g1 := And.intro (k2.cell d0.1) (k2.cell d0.2)
        refine hK.out _ _ (g1) (fun hHeld => ?_)
        clear hK K
        try simp only [Act.put, List.setIfInBounds_toArray, List.set_cons_zero, List.set_cons_succ]
        refine wpAnyH_ready (rs := [8]) (by kernel_rfl) (by simp) ?_
        refine AllReadyH.cons (o := ⟨some 28, _, _, _, _, some (2, true)⟩) rfl (fun K hK => ?_) AllReadyH.nil
        rw [if_pos (by kernel_rfl)]
        go_simp
        go_at_call 150; refine (HB1.out _).mono ?_; rintro e w' ⟨rfl, rfl⟩
        refine hK.out _ _ (g1) (fun hHeld => ?_)
        clear hK K
        try simp only [Act.put, List.setIfInBounds_toArray, List.set_cons_zero, List.set_cons_succ]
        refine wpAnyH_take (i := 9) (oi := ⟨some 29, _, _, _, _, none⟩) (v := ?v9c) rfl (by kernel_rfl) (by kernel_rfl) (by kernel_rfl) (fun _ _ _ h => h) (Or.inl ⟨by rfl, ?h9c⟩) (by assumption) ?r9c
        case h9c => (intro w hSw; (try dsimp only at hSw); go_simp; try with_reducible rfl)
        try simp only [Act.put, List.setIfInBounds_toArray, List.set_cons_zero, List.set_cons_succ]
        refine wpAnyH_take (i := 10) (oi := ⟨some 30, _, _, _, _, none⟩) (v := ?v10c) rfl (by kernel_rfl) (by kernel_rfl) (by kernel_rfl) (fun _ _ _ h => h) (Or.inl ⟨by rfl, ?h10c⟩) (by assumption) ?r10c
        case h10c => (intro w hSw; (try dsimp only at hSw); go_simp; try with_reducible rfl)
        try simp only [Act.put, List.setIfInBounds_toArray, List.set_cons_zero, List.set_cons_succ]
        refine wpAnyH_take (i := 11) (oi := ⟨some 31, _, _, _, _, some (10, true)⟩) (v := ?v11c) rfl (by kernel_rfl) (by kernel_rfl) (by kernel_rfl) (fun _ _ _ h => h) (Or.inl ⟨by rfl, ?h11c⟩) (by assumption) ?r11c
        case h11c => (intro w hSw; (try dsimp only at hSw); go_simp; try with_reducible rfl)
        try simp only [Act.put, List.setIfInBounds_toArray, List.set_cons_zero, List.set_cons_succ]
        refine wpAnyH_take (i := 12) (oi := ⟨some 32, _, _, _, _, some (10, true)⟩) (v := ?v12c) rfl (by kernel_rfl) (by kernel_rfl) (by kernel_rfl) (fun _ _ _ h => h) (Or.inl ⟨by rfl, ?h12c⟩) (by assumption) ?r12c
        case h12c => (intro w hSw; (try dsimp only at hSw); go_simp; try with_reducible rfl)
        try simp only [Act.put, List.setIfInBounds_toArray, List.set_cons_zero, List.set_cons_succ]
        refine wpAnyH_take (i := 15) (oi := ⟨some 35, _, _, _, _, some (10, true)⟩) (v := ?v15c) rfl (by kernel_rfl) (by kernel_rfl) (by kernel_rfl) (fun _ _ _ h => h) (Or.inl ⟨by rfl, ?h15c⟩) (by assumption) ?r15c
        case h15c => (intro w hSw; (try dsimp only at hSw); go_simp; try with_reducible rfl)
        try simp only [Act.put, List.setIfInBounds_toArray, List.set_cons_zero, List.set_cons_succ]
        refine wpAnyH_ready (rs := [13]) (by kernel_rfl) (by simp) ?_
        refine AllReadyH.cons (o := ⟨some 33, _, _, _, _, some (10, true)⟩) rfl (fun K hK => ?_) AllReadyH.nil
        rw [if_pos (by kernel_rfl)]
        go_simp
        go_at_call 91; refine (HO2.out _).mono ?_; rintro e w' ⟨rfl, rfl⟩
        refine hK.out _ _ (g1) (fun hHeld => ?_)
        clear hK K
        try simp only [Act.put, List.setIfInBounds_toArray, List.set_cons_zero, List.set_cons_succ]
        refine wpAnyH_ready (rs := [14]) (by kernel_rfl) (by simp) ?_
        refine AllReadyH.cons (o := ⟨some 34, _, _, _, _, some (10, true)⟩) rfl (fun K hK => ?_) AllReadyH.nil
        rw [if_pos (by kernel_rfl)]
        go_simp
        go_at_call 180; refine (HR2.out _ (kr1.trans k2)).mono ?_; rintro e w3 ⟨rfl, k3⟩; have g2 := And.intro (k3.cell g1.1) (k3.cell g1.2)
        refine hK.out _ _ (g2) (fun hHeld => ?_)
        clear hK K
        try simp only [Act.put, List.setIfInBounds_toArray, List.set_cons_zero, List.set_cons_succ]
        refine wpAnyH_ready (rs := [16]) (by kernel_rfl) (by simp) ?_
        refine AllReadyH.cons (o := ⟨some 36, _, _, _, _, some (10, true)⟩) rfl (fun K hK => ?_) AllReadyH.nil
        rw [if_pos (by kernel_rfl)]
        go_simp
        go_at_call 150; refine (HB2.out _).mono ?_; rintro e w' ⟨rfl, rfl⟩
        refine hK.out _ _ (g2) (fun hHeld => ?_)
        clear hK K
        try simp only [Act.put, List.setIfInBounds_toArray, List.set_cons_zero, List.set_cons_succ]
        refine wpAnyH_take (i := 17) (oi := ⟨some 37, _, _, _, _, none⟩) (v := ?v17c) rfl (by kernel_rfl) (by kernel_rfl) (by kernel_rfl) (fun _ _ _ h => h) (Or.inl ⟨by rfl, ?h17c⟩) (by assumption) ?r17c
        case h17c => (intro w hSw; (try dsimp only at hSw); go_simp; try with_reducible rfl)
        try simp only [Act.put, List.setIfInBounds_toArray, List.set_cons_zero, List.set_cons_succ]
        refine wpAnyH_done (by kernel_rfl) ?_ _
        refine NoPanic.normal ?_
        have k3' := kr1.trans (k2.trans k3)
        obtain ⟨b1, f1, rfl, hn2, hcj⟩ := HRD.out _ k3'
        generalize (clS b k).1.getD j 0 = y at *
        have hjo : (j : Int) < o2 := by omega
        go_wp2_with fail
        go_roundw
        case rel => exact ⟨j + 1, by omega, by go_num, by rw [HO3.out], kv.trans k3'⟩
        case measure => simp [intOf]; omega
    ·obtain rfl : j = k := by omega
     have hjt' : ¬ (j : Int) < j := by omega
     have hlen := clS_len b j
     cases hf : fstE b j j with
     | some y =>
      have ho := ownB_some hf
      have hcs := clS_some hf
      have HX : Hid (zs (clS b (j + 1)).1 = zs (clS b j).1 ++ [ownB b j j] ∧ (clS b (j + 1)).2 = (clS b j).2) := hid ⟨by rw [hcs, zs_snoc, ho], by rw [hcs]⟩
      have hz : 0 ≤ ownB b j j := by rw [ho]; omega
      have hlz : (zs (clS b j).1).length = j := by rw [zs_length, hlen]
      have hB0 := (kw.trans kv).size
      simp at hB0
      have HOWv := hid (HOW.out.keeps kv)
      clear ho hcs hf q0 q1
      generalize ownB b j j = z at *
      have hd : ¬ (z < 0) := by omega
      generalize zs (clS b j).1 = L at *
      go_wp2_with (at_builtin; refine appI rfl _ _ rfl (w.heap.size + 1) _ L rfl (HOWv.out.keeps ((Keeps.refl _).alloc _)) _ [z] rfl (Ints.lit1 _ z) (by simp; omega) (by simp; omega) ?_; intro v1 w1 hv1 hg1 hr1; have k2 := ((kw.trans kv).alloc (.cells #[.int .i64 z] 2)).grown hg1 (by simpa using hr1))
      go_roundw
      case rel => exact ⟨j + 1, by omega, by go_num, by rw [HX.out.2], by rw [HX.out.1]; exact hv1, k2⟩
      case measure => simp [intOf]; omega
     | none =>
      rw [ownB_none hf]
      have hcs := clS_none hf
      have HX : Hid (zs (clS b (j + 1)).1 = zs (clS b j).1 ++ [(((clS b j).2 : Nat) : Int)] ∧ (clS b (j + 1)).2 = (clS b j).2 + 1) := hid ⟨by rw [hcs, zs_snoc], by rw [hcs]⟩
      have hlz : (zs (clS b j).1).length = j := by rw [zs_length, hlen]
      have hB0 := (kw.trans kv).size
      simp at hB0
      have HOWv := hid (HOW.out.keeps kv)
      clear hcs hf q0 q1
      generalize zs (clS b j).1 = L at *
      generalize (clS b j).2 = q at *
      go_wp2_with (at_builtin; refine appI rfl _ _ rfl (w.heap.size + 1) _ L rfl (HOWv.out.keeps ((Keeps.refl _).alloc _)) _ [(q : Int)] rfl (Ints.lit1 _ _) (by simp; omega) (by simp; omega) ?_; intro v1 w1 hv1 hg1 hr1; have k2 := ((kw.trans kv).alloc (.cells #[.int .i64 q] 2)).grown hg1 (by simpa using hr1))
      go_roundw
      case rel => exact ⟨j + 1, by omega, by go_num, by rw [HX.out.2]; push_cast; rfl, by rw [HX.out.1]; exact hv1, k2⟩
      case measure => simp [intOf]; omega
  ·obtain rfl : k = n := by omega
   have hlt' : ¬ (k : Int) < k := by omega
   go_wp2_with fail
   go_ret
   have he : (clS b k).1 = clB b := HC.out.symm
   rw [he] at hown
   exact ⟨_, rfl, hown.mono (by omega), kA.trans kw⟩
end Go.Proofs.YtfmmajgkjkmghaaGreatDoor
