import Derived.Test.YtikooimokfbffaaGreatDoorHQE8
import Derived.Test.YtikooimokfbffaaGreatDoorHQA
import Derived.Deep.RegionLaw
/- What is a poset: both sides. -/
namespace Go.Proofs.YtikooimokfbffaaGreatDoor
open Go.RowKit
def isPos (n : Int) (a : List Int) : Bool := inR n 0 8 && decide ((a.length : Int) = n) && a.all (isM a.length) && posB (a.map Int.toNat)
theorem zs_toNat (b : List Nat) : (zs b).map Int.toNat = b := by
 unfold zs
 rw [List.map_map]
 conv => rhs; rw [← List.map_id b]
 rfl
theorem isPos_iff (n : Int) (a : List Int) : isPos n a = true ↔ ∃ b : List Nat, a = zs b ∧ n = b.length ∧ b.length ≤ 8 ∧ Bnd b.length b ∧ posB b = true := by
 unfold isPos
 rw [Bool.and_eq_true, Bool.and_eq_true, Bool.and_eq_true, decide_eq_true_eq]
 constructor
 ·rintro ⟨⟨⟨h1, h2⟩, h3⟩, h4⟩
  obtain ⟨b, rfl, hb⟩ := all_isM h3
  rw [zs_length] at *
  rw [zs_toNat] at h4
  simp [inR] at h1
  exact ⟨b, rfl, h2.symm, by omega, mem_bnd hb, h4⟩
 ·rintro ⟨b, rfl, rfl, h8, hb, hp⟩
  rw [zs_length, zs_toNat]
  exact ⟨⟨⟨by simp [inR]; omega, rfl⟩, isM_all (bnd_mem hb)⟩, hp⟩
set_option maxRecDepth 20000 in
theorem frameOf_any (a : List Int) (v : Value) (w : World) (hv : Ints w v a) : Calls Tryz.prog 60 #[v] w fun e w' => e = .returned (.agg #[.int .i64 a.length, v]) ∧ Keeps w w' := by
 have HS := hid (fun w2 (k : Keeps w w2) => sizeI_any a v w2 (hv.keeps k))
 have kA := (Keeps.refl w).alloc (.cells #[.int .i64 0, .slice none 0 0] 88)
 obtain ⟨p, cap, rfl, _⟩ := hv
 go_enter Tryz.func60, Tryz.ntmps60
 go_wp2_with fail
 refine (HS.out _ kA).mono ?_; rintro e w2 ⟨rfl, rfl⟩
 go_wp2_with fail
 refine bodyPost_ret (v := .agg #[.int .i64 a.length, .slice p a.length cap]) (by simp [results, Tryz.results60, go_sem]) rfl ?_
 exact ⟨rfl, (Keeps.refl w).alloc _⟩
set_option maxRecDepth 20000 in
theorem frame_any (n : Int) (a : List Int) (v : Value) (w : World) (hv : Ints w v a) : Calls Tryz.prog 56 #[.agg #[.int .i64 n, v]] w fun e w' => e = .returned (.agg #[.int .i64 a.length, v]) ∧ Keeps w w' := by
 have kA := ((Keeps.refl w).alloc (.cells #[.int .i64 n, v] 34)).alloc (.cells #[.int .i64 0, .slice none 0 0] 88)
 have HF := hid (fun w2 (k : Keeps w w2) => frameOf_any a v w2 (hv.keeps k))
 obtain ⟨p, cap, rfl, _⟩ := hv
 go_enter Tryz.func56, Tryz.ntmps56
 go_wp2_with fail
 refine (HF.out _ kA).mono ?_; rintro e w2 ⟨rfl, k2⟩
 have e0 : w2.cell? ⟨w.heap.size + 1, 0, none⟩ = some (.int .i64 0) := k2.cell (by simp)
 have e1 : w2.cell? ⟨w.heap.size + 1, 1, none⟩ = some (.slice none 0 0) := k2.cell (by simp)
 obtain ⟨hc2, hf2⟩ := k2.both
 go_wp2_with fail
 refine bodyPost_ret (v := .agg #[.int .i64 a.length, .slice p a.length cap]) (by simp [results, Tryz.results56, go_sem, e0, e1]) rfl ?_
 exact ⟨rfl, ((kA.trans k2).setCell (by simp) _).setCell (by simp) _⟩
set_option maxRecDepth 20000 in
set_option maxHeartbeats 1000000 in
theorem isPoset_any (n : Int) (a : List Int) (v : Value) (w : World) (hv : Ints w v a) : Calls Tryz.prog 46 #[.agg #[.int .i64 n, v]] w fun e w' => e = .returned (.bool (isPos n a)) ∧ Keeps w w' := by
 have kA := (Keeps.refl w).alloc (.cells #[.int .i64 n, v] 34)
 have hc := BoxF.made w n v 34
 have HN := hid (fun w2 => inRange_any n 0 8 w2)
 have HS := hid (fun w2 (k : Keeps w w2) => sizeI_any a v w2 (hv.keeps k))
 have HR := hid (fun w2 (k : Keeps w w2) => isRelation_any a v w2 (hv.keeps k))
 have HF := hid (fun w2 (k : Keeps w w2) => frame_any n a v w2 (hv.keeps k))
 have H0 := hid (fun w2 b (e : a = zs b) (k : Keeps w w2) => hasFlag0_any b v w2 (e ▸ hv.keeps k))
 have H2 := hid (fun w2 b (e : a = zs b) (k : Keeps w w2) => hasFlag2_any b v w2 (e ▸ hv.keeps k))
 have H8 := hid (fun w2 b (e : a = zs b) (k : Keeps w w2) => hasFlag8_any b v w2 (e ▸ hv.keeps k))
 have HP : Hid (isPos n a = (inR n 0 8 && decide ((a.length : Int) = n) && a.all (isM a.length) && posB (a.map Int.toNat))) := hid rfl
 obtain ⟨c0, c1⟩ := hc
 obtain ⟨p, cap, rfl, _⟩ := hv
 cases h1 : inR n 0 8
 ·rw [h1] at HN HP
  simp only [Bool.false_and] at HP
  clear h1
  go_enter Tryz.func46, Tryz.ntmps46
  go_wp2_with fail
  go_quiet (first | (go_at_call 106; refine quietS (HN.out _)))
  go_wp2_with fail
  go_ret
  exact ⟨by rw [HP.out]; rfl, kA.drewN _⟩
 ·rw [h1] at HN HP
  have h8 : n ≤ 8 := by simp [inR] at h1; omega
  clear h1
  by_cases h2 : (a.length : Int) = n
  ·have hd : ((a.length : Int) != n) = false := by simp [h2]
   rw [decide_eq_true h2] at HP
   have hl8 : a.length ≤ 8 := by omega
   replace HR := hid (fun w2 k => HR.out w2 k hl8)
   subst h2
   have kd0 := (Keeps.refl (w.alloc (.cells #[.int .i64 a.length, .slice p a.length cap] 34))).drew
   have kD := kA.drew
   have e0 := kd0.cell c0
   have e1 := kd0.cell c1
   cases h3 : a.all (isM a.length)
   ·rw [h3] at HR HP
    simp only [Bool.true_and, Bool.false_and] at HP
    clear h3
    go_enter Tryz.func46, Tryz.ntmps46
    go_wp2_with fail
    go_region_held3 (fun w' => w'.cell? ⟨w.heap.size, 0, none⟩ = some (.int .i64 a.length) ∧ w'.cell? ⟨w.heap.size, 1, none⟩ = some (.slice p a.length cap)) (first | exact ⟨e0, e1⟩ | exact ⟨z0, z1⟩) (first | (go_at_call 106; refine (HN.out _).mono ?_; rintro e w' ⟨rfl, rfl⟩) | (go_at_call 41; refine (HS.out _ kD).mono ?_; rintro e w' ⟨rfl, rfl⟩) | (go_at_call 107; refine (HR.out _ kD).mono ?_; rintro e w2 ⟨rfl, k2⟩; have z0 := k2.cell e0; have z1 := k2.cell e1))
    go_wp2_with fail
    go_ret
    exact ⟨by rw [HP.out]; rfl, kD.trans k2⟩
   ·rw [h3] at HR HP
    obtain ⟨b, rfl, hb⟩ := all_isM h3
    have hbm := mem_bnd hb
    clear h3 hb
    simp only [Bool.true_and, zs_toNat] at HP
    rw [zs_length] at *
    have H0' := hid (fun w2 k => H0.out w2 b rfl k hl8 hbm)
    have H2' := hid (fun w2 k => H2.out w2 b rfl k hl8 hbm)
    have H8' := hid (fun w2 k => H8.out w2 b rfl k hl8 hbm)
    have HQ : Hid (posB b = (reflB b && transB b && antiB b)) := hid rfl
    clear H0 H2 H8 hbm
    generalize reflB b = q0 at *
    generalize transB b = q2 at *
    generalize antiB b = q8 at *
    generalize b.length = m at *
    go_enter Tryz.func46, Tryz.ntmps46
    go_wp2_with fail
    go_region_held3 (fun w' => w'.cell? ⟨w.heap.size, 0, none⟩ = some (.int .i64 m) ∧ w'.cell? ⟨w.heap.size, 1, none⟩ = some (.slice p m cap)) (first | exact ⟨e0, e1⟩ | exact ⟨z0, z1⟩) (first | (go_at_call 106; refine (HN.out _).mono ?_; rintro e w' ⟨rfl, rfl⟩) | (go_at_call 41; refine (HS.out _ kD).mono ?_; rintro e w' ⟨rfl, rfl⟩) | (go_at_call 107; refine (HR.out _ kD).mono ?_; rintro e w2 ⟨rfl, k2⟩; have z0 := k2.cell e0; have z1 := k2.cell e1))
    have k2' := kD.trans k2
    clear e0 e1 c0 c1 HN HS HR
    go_wp2_with fail
    refine (HF.out _ k2').mono ?_; rintro e w3 ⟨rfl, k3⟩
    have k4 := (k2'.trans k3).alloc (.cells #[.int .i64 m, .slice p m cap] 88)
    have y0 : (w3.alloc (.cells #[.int .i64 m, .slice p m cap] 88)).cell? ⟨w3.heap.size, 0, none⟩ = some (.int .i64 m) := by simp
    have y1 : (w3.alloc (.cells #[.int .i64 m, .slice p m cap] 88)).cell? ⟨w3.heap.size, 1, none⟩ = some (.slice p m cap) := by simp
    clear z0 z1
    go_wp2_with fail
    refine (H0'.out _ k4).mono ?_; rintro e w4 ⟨rfl, k5⟩
    replace k4 := k4.trans k5
    replace y0 := k5.cell y0
    replace y1 := k5.cell y1
    cases q0
    ·go_wp2_with fail
     go_ret
     exact ⟨by rw [HP.out, HQ.out]; rfl, k4⟩
    ·go_wp2_with fail
     refine (H2'.out _ k4).mono ?_; rintro e w5 ⟨rfl, k6⟩
     replace k4 := k4.trans k6
     replace y0 := k6.cell y0
     replace y1 := k6.cell y1
     cases q2
     ·go_wp2_with fail
      go_ret
      exact ⟨by rw [HP.out, HQ.out]; rfl, k4⟩
     ·go_wp2_with fail
      refine (H8'.out _ k4).mono ?_; rintro e w6 ⟨rfl, k7⟩
      go_wp2_with fail
      go_ret
      exact ⟨by rw [HP.out, HQ.out]; cases q8 <;> rfl, k4.trans k7⟩
  ·have hd : ((a.length : Int) != n) = true := by simp [h2]
   rw [decide_eq_false h2] at HP
   simp only [Bool.and_false, Bool.false_and] at HP
   clear h2
   go_enter Tryz.func46, Tryz.ntmps46
   go_wp2_with fail
   go_quiet (first | (go_at_call 106; refine quietS (HN.out _)) | (go_at_call 41; refine quietS (HS.out _ (kA.drewN _))))
   go_wp2_with fail
   go_ret
   exact ⟨by rw [HP.out]; rfl, kA.drewN _⟩
end Go.Proofs.YtikooimokfbffaaGreatDoor
namespace Go.Proofs.YtikooimokfbffaaGreatDoor
open Go.RowKit
end Go.Proofs.YtikooimokfbffaaGreatDoor
namespace Go.Proofs.YtikooimokfbffaaGreatDoor
open Go.RowKit
def andNot (a b : Int) : Int := bits .andNot .i64 a b
def chainL (n : Nat) : Nat → List Int
 | 0 => []
 | k + 1 => chainL n k ++ [andNot (2 ^ n - 1) (2 ^ k - 1)]
theorem chainL_length (n k : Nat) : (chainL n k).length = k := by
 induction k with
 | zero => rfl
 | succ k ih => simp [chainL, ih]
set_option maxHeartbeats 1000000 in
theorem l30Chain_any (n : Nat) (w : World) (hn : n ≤ 8) : Calls Tryz.prog 79 #[.int .i64 n] w (RetP w (chainL n n)) := by
 have kA := (Keeps.refl w).alloc (.cells #[.int .i64 0, .slice none 0 0] 34)
 have hE := OwnI.empty (w.alloc (.cells #[.int .i64 0, .slice none 0 0] 34))
 have hlen := chainL_length n
 have HL := hid hlen; clear hlen
 go_enter Tryz.func79, Tryz.ntmps79
 go_wp2
 go_loopw [3, 4] (fun v x wr => ∃ k : Nat, k ≤ n ∧ x = .int .i64 k ∧ OwnI wr (w.heap.size + 1) v (chainL n k) ∧ Keeps (w.alloc (.cells #[.int .i64 0, .slice none 0 0] 34)) wr) (fun _ x _ => n - (intOf x).toNat)
 case atStart => exact ⟨0, by omega, rfl, by simpa [chainL] using hE, (Keeps.refl _).alloc _⟩
 case round =>
  obtain ⟨k, hk, rfl, hown, kw⟩ := hrel
  have hsz := kw.size
  simp at hsz
  have hlk : (chainL n k).length ≤ 8 := by have := HL.out k; omega
  by_cases hlt : k < n
  ·have h1 := l01Full_any (n : Int) wr (by omega) (by omega)
   have h2 := l01Full_any (k : Int) wr (by omega) (by omega)
   simp only [Int.toNat_natCast] at h1 h2
   generalize hP : (2 : Int) ^ n - 1 = P at *
   generalize hR : (2 : Int) ^ k - 1 = R at *
   have hs : chainL n (k + 1) = chainL n k ++ [andNot P R] := by rw [← hP, ← hR]; rfl
   have HS := hid hs; clear hs
   have H1 := hid h1; clear h1
   have H2 := hid h2; clear h2
   clear hP hR hE kA
   go_wp2_with (first
    | (go_at_call 81; first | ((with_reducible refine H1.out.mono ?_); rintro e w' ⟨rfl, rfl⟩) | ((with_reducible refine H2.out.mono ?_); rintro e w' ⟨rfl, rfl⟩))
    | (at_builtin; refine appI rfl _ _ rfl (w.heap.size + 1) _ (chainL n k) rfl (hown.keeps ((Keeps.refl wr).alloc _)) _ [andNot P R] rfl (Ints.lit1 wr (andNot P R)) (by simp; omega) (by simp; omega) ?_; intro v1 w1 hv1 hg1 hr1; have k2 := (kw.alloc (.cells #[.int .i64 (andNot P R)] 2)).grown hg1 (by simpa using hr1)))
   go_roundw
   case rel => exact ⟨k + 1, by omega, by go_num, by rw [HS.out]; exact hv1, k2⟩
   case measure => simp [intOf]; omega
  ·obtain rfl : k = n := by omega
   clear hE
   go_wp2_with fail
   refine (l16Make_any _ _ _ (hown.ints (by omega))).mono ?_
   rintro e w2 ⟨v2, rfl, hv2, k2⟩
   obtain ⟨p2, c2, rfl, _⟩ := hv2.ints (by omega)
   rw [HL.out] at *
   obtain ⟨hc2, hf2⟩ := (kw.trans k2).both
   have hB : w.heap.size < wr.heap.size := by omega
   go_wp2_with fail
   refine bodyPost_ret (v := .agg #[.int .i64 k, .slice p2 k c2]) (by simp [results, Tryz.results79, go_sem, hc2]) rfl ?_
   refine ⟨.slice p2 k c2, by rw [HL.out], ((hv2.setBelow hB _).setBelow hB _).mono (by omega), ((kA.trans (kw.trans k2)).setCell (Nat.le_refl _) _).setCell (Nat.le_refl _) _⟩
set_option maxHeartbeats 1000000 in
theorem chainOf_any (n : Nat) (w : World) (hn : n ≤ 8) : Calls Tryz.prog 99 #[.int .i64 n] w (RetP w (chainL n n)) := by
 have kA := (Keeps.refl w).alloc (.cells #[.int .i64 0, .slice none 0 0] 34)
 have hlen := chainL_length n
 have HL := hid hlen; clear hlen
 go_enter Tryz.func99, Tryz.ntmps99
 go_wp2
 go_loopw [3, 6] (fun v x wr => ∃ k : Nat, k ≤ n ∧ x = .int .i64 k ∧ OwnI wr (w.heap.size + 1) v (chainL n k) ∧ Keeps (w.alloc (.cells #[.int .i64 0, .slice none 0 0] 34)) wr) (fun _ x _ => n - (intOf x).toNat)
 case atStart => exact ⟨0, by omega, rfl, OwnI.nil _ _, Keeps.refl _⟩
 case round =>
  obtain ⟨k, hk, rfl, hown, kw⟩ := hrel
  have hsz := kw.size
  simp at hsz
  have hlk : (chainL n k).length ≤ 8 := by have := HL.out k; omega
  by_cases hlt : k < n
  ·have hs : chainL n (k + 1) = chainL n k ++ [andNot (2 ^ n - 1) (2 ^ k - 1)] := rfl
   have HS := hid hs; clear hs
   have e1 : IntKind.i64.wrap (2 ^ n) = 2 ^ n := by
    have : ∀ j : Fin 63, IntKind.i64.wrap ((2 : Int) ^ (j : Nat)) = (2 : Int) ^ (j : Nat) := by decide +kernel
    exact this ⟨n, by omega⟩
   have e2 : IntKind.i64.wrap (2 ^ k) = 2 ^ k := by
    have : ∀ j : Fin 63, IntKind.i64.wrap ((2 : Int) ^ (j : Nat)) = (2 : Int) ^ (j : Nat) := by decide +kernel
    exact this ⟨k, by omega⟩
   have e3 : IntKind.i64.wrap (2 ^ n - 1) = 2 ^ n - 1 := by
    have : ∀ j : Fin 63, IntKind.i64.wrap ((2 : Int) ^ (j : Nat) - 1) = (2 : Int) ^ (j : Nat) - 1 := by decide +kernel
    exact this ⟨n, by omega⟩
   have e4 : IntKind.i64.wrap (2 ^ k - 1) = 2 ^ k - 1 := by
    have : ∀ j : Fin 63, IntKind.i64.wrap ((2 : Int) ^ (j : Nat) - 1) = (2 : Int) ^ (j : Nat) - 1 := by decide +kernel
    exact this ⟨k, by omega⟩
   clear kA
   go_wp2_with fail
   go_region_law (refine stepI rfl (.tmp 9) (.tmp 17) rfl (w.heap.size + 1) _ (chainL n k) rfl (by exact hown.keeps (by first | exact ((Keeps.refl wr).drew).alloc _ | exact ((Keeps.refl wr).alloc _).drew)) _ [andNot (2 ^ n - 1) (2 ^ k - 1)] rfl (by first | exact Ints.lit1 _ _ | exact (Ints.lit1 _ _).keeps ((Keeps.refl _).drew)) (by simp; omega) (by simp; omega) ?_; intro v1 w1 hv1 hg1 hr1)
   have k2 := (kw.drew.alloc (.cells #[.int .i64 (andNot (2 ^ n - 1) (2 ^ k - 1))] 2)).grown hg1 (by simpa using hr1)
   clear e1 e2 e3 e4
   go_wp2
   go_roundw
   case rel => exact ⟨k + 1, by omega, by go_num, by rw [HS.out]; exact hv1, k2⟩
   case measure => simp [intOf]; omega
  ·obtain rfl : k = n := by omega
   go_wp2_with fail
   refine (posetOf_any _ _ _ (hown.ints (by omega))).mono ?_
   rintro e w2 ⟨rfl, k2⟩
   obtain ⟨p2, c2, rfl, _⟩ := hown.ints (by omega)
   have hv2 := hown.keeps k2
   rw [HL.out] at *
   obtain ⟨hc2, hf2⟩ := (kw.trans k2).both
   have hB : w.heap.size < wr.heap.size := by omega
   go_wp2_with fail
   refine bodyPost_ret (v := .agg #[.int .i64 k, .slice p2 k c2]) (by simp [results, Tryz.results99, go_sem, hc2]) rfl ?_
   refine ⟨.slice p2 k c2, by rw [HL.out], ((hv2.setBelow (by omega) _).setBelow (by omega) _).mono (by omega), ((kA.trans (kw.trans k2)).setCell (Nat.le_refl _) _).setCell (Nat.le_refl _) _⟩
end Go.Proofs.YtikooimokfbffaaGreatDoor
namespace Go.Proofs.YtikooimokfbffaaGreatDoor
open Go.RowKit
end Go.Proofs.YtikooimokfbffaaGreatDoor
