import Derived.Test.YtfmmajgkjkmghaaGreatEPD
import Derived.Test.YtfmmajgkjkmghaaGreatETU
import Derived.Test.YtfmmajgkjkmghaaGreatEQU
import Derived.Test.YtfmmajgkjkmghaaGreatEPP
import Derived.Lib.LaidTab
import Derived.Deep.RegionHeld3
import Derived.Test.YtfmmajgkjkmghaaGreatEQE8
import Derived.BigQuiet
/- The program: whether an order is one of a logic. -/
namespace Go.Proofs.YtfmmajgkjkmghaaGreat
open Go.RowKit
theorem posetAll_any (b : List Nat) (v : Value) (w : World) (hv : Ints w v (zs b)) (hb : b.length ≤ 8) :
  Calls Tryz.prog 174 #[.agg #[.int .i64 b.length, v]] w fun e w' => e = .returned (.int .i64 ((2 ^ b.length - 1 : Nat) : Int)) ∧ Keeps w w' := by
 have kA := (Keeps.refl w).alloc (.cells #[.int .i64 b.length, v] 31)
 obtain ⟨c0, c1⟩ := BoxF.made w b.length v 31
 have hpos : 0 < 2 ^ b.length := Nat.two_pow_pos _
 have e2 : ((2 ^ b.length - 1 : Nat) : Int) = (2 : Int) ^ b.length - 1 := by
  rw [Int.ofNat_sub (by omega)]; push_cast; rfl
 obtain ⟨e3, e4⟩ := pow63 b.length (by omega)
 rw [e2]
 obtain ⟨p, cap, rfl, _⟩ := hv
 rw [zs_length] at *
 generalize hn : b.length = n at *
 have HN := hid hn; clear hn e2 hpos
 go_enter Tryz.func174, Tryz.ntmps174
 go_wp2_with fail
 go_ret
 exact ⟨rfl, kA⟩
end Go.Proofs.YtfmmajgkjkmghaaGreat
namespace Go.Proofs.YtfmmajgkjkmghaaGreat
open Go.RowKit
def isUp (b : List Nat) (m : Nat) : Bool := img b m == m
def upK (b : List Nat) (k : Nat) : List Nat := (List.range k).filter (isUp b)
def upL (b : List Nat) : List Nat := upK b (2 ^ b.length)
theorem upK_zero (b : List Nat) : upK b 0 = [] := rfl
theorem upK_succ (b : List Nat) (k : Nat) : upK b (k + 1) = if isUp b k then upK b k ++ [k] else upK b k := by
 unfold upK
 rw [List.range_succ, List.filter_append]
 cases h : isUp b k <;> simp [h]
theorem upK_len (b : List Nat) (k : Nat) : (upK b k).length ≤ k := by
 unfold upK
 exact Nat.le_trans (List.length_filter_le _ _) (by simp)
theorem upK_lt {b : List Nat} {k x : Nat} (h : x ∈ upK b k) : x < k := by
 unfold upK at h
 simpa using (List.mem_filter.1 h).1
theorem upL_pos (b : List Nat) : 0 < (upL b).length := by
 have : 0 ∈ upL b := by
  unfold upL upK
  rw [List.mem_filter]
  refine ⟨by simp [Nat.two_pow_pos], ?_⟩
  have : ∀ k, imgL b 0 k = 0 := by
   intro k
   induction k with
   | zero => rfl
   | succ k ih => rw [imgL]; simp [ih]
  simp [isUp, img, this]
 exact List.length_pos_of_mem this
set_option maxRecDepth 20000 in
theorem isUpset_any (b : List Nat) (m : Nat) (v : Value) (w : World) (hv : Ints w v (zs b)) (hb : b.length ≤ 8) (hbm : ∀ x ∈ b, x < 2 ^ b.length) (hm : m < 2 ^ b.length) :
  Calls Tryz.prog 98 #[.agg #[.int .i64 b.length, v], .int .i64 m] w fun e w' => e = .returned (.bool (isUp b m)) ∧ Keeps w w' := by
 have kA := (Keeps.refl w).alloc (.cells #[.int .i64 b.length, v] 31)
 obtain ⟨c0, c1⟩ := BoxF.made w b.length v 31
 have HM := hid (fun wz => isMask_any b.length (m : Int) wz hb)
 rw [(isM_iff b.length (m : Int)).2 ⟨m, rfl, hm⟩] at HM
 have HI := hid (fun wz (kz : Keeps w wz) => image_any b m v wz (hv.keeps kz) hb hbm hm)
 have HE : Hid (isUp b m = (((img b m : Nat) : Int) == (m : Int))) := hid (by unfold isUp; rw [Bool.eq_iff_iff]; simp; omega)
 rw [HE.out]
 obtain ⟨p, cap, rfl, _⟩ := hv
 rw [zs_length] at *
 clear hbm hm HE
 generalize img b m = im at *
 generalize b.length = n at *
 go_enter Tryz.func98, Tryz.ntmps98
 go_wp2_with fail
 refine (HM.out _).mono ?_; rintro e w' ⟨rfl, rfl⟩
 go_wp2_with fail
 refine (HI.out _ kA).mono ?_; rintro e w2 ⟨rfl, k2⟩
 go_wp2_with fail
 go_ret
 exact ⟨rfl, kA.trans k2⟩
set_option maxRecDepth 20000 in
set_option maxHeartbeats 1000000 in
theorem upsets_any (b : List Nat) (v : Value) (w : World) (hv : Ints w v (zs b)) (hb : b.length ≤ 8) (hbm : ∀ x ∈ b, x < 2 ^ b.length) :
  Calls Tryz.prog 148 #[.agg #[.int .i64 b.length, v]] w fun e w' => ∃ v', e = .returned v' ∧ OwnI w' w.heap.size v' (zs (upL b)) ∧ Keeps w w' := by
 have kA := (Keeps.refl w).alloc (.cells #[.int .i64 b.length, v] 31)
 obtain ⟨c0, c1⟩ := BoxF.made w b.length v 31
 have HAL := hid (fun wz (kz : Keeps w wz) => posetAll_any b v wz (hv.keeps kz) hb)
 have HU := hid (fun m (hm : m < 2 ^ b.length) wz (kz : Keeps w wz) => isUpset_any b m v wz (hv.keeps kz) hb hbm hm)
 have HR := hid (upK_succ b)
 have HRL := hid (upK_len b)
 have HRE : Hid (upL b = upK b (2 ^ b.length)) := hid rfl
 have HR0 := hid (upK_zero b)
 rw [HRE.out]
 have h256 := two8 hb
 have hpos : 0 < 2 ^ b.length := Nat.two_pow_pos _
 obtain ⟨p, cap, rfl, _⟩ := hv
 rw [zs_length] at *
 clear hbm HRE
 obtain ⟨U, hU⟩ : ∃ U : Nat → Bool, ∀ m, U m = isUp b m := ⟨_, fun _ => rfl⟩
 simp only [← hU] at *
 obtain ⟨R, hRR⟩ : ∃ R : Nat → List Nat, ∀ m, R m = upK b m := ⟨_, fun _ => rfl⟩
 simp only [← hRR] at *
 clear hU hRR
 generalize 2 ^ b.length = M at *
 generalize b.length = n at *
 have hM1 : ((M - 1 : Nat) : Int) + 1 = (M : Int) := by omega
 have HM1 := hid hM1; clear hM1
 go_enter Tryz.func148, Tryz.ntmps148
 go_wp2_with fail
 refine (HAL.out _ kA).mono ?_; rintro e w2 ⟨rfl, k2⟩
 have kw2 := kA.trans k2
 replace c0 := k2.cell c0
 replace c1 := k2.cell c1
 go_wp2_with fail
 go_loopw [3, 8] (fun s3 s8 wr => ∃ i : Nat, i ≤ M ∧ s8 = .int .i64 i ∧ OwnI wr w2.heap.size s3 (zs (R i)) ∧ Keeps w2 wr) (fun _ s8 _ => M - (intOf s8).toNat)
 case atStart => exact ⟨0, by omega, rfl, by rw [HR0.out]; exact OwnI.nil _ _, Keeps.refl w2⟩
 case round =>
  obtain ⟨i, hi, rfl, hown, kw⟩ := hrel
  replace c0 := kw.cell c0
  replace c1 := kw.cell c1
  by_cases hlt : i < M
  ·have hlt' : (i : Int) < ((M - 1 : Nat) : Int) + 1 := by omega
   have HS := hid (HU.out i hlt wr (kw2.trans kw))
   have HRI := hid (HR.out i)
   have hrl := HRL.out i
   have hzl := zs_length (R i)
   have hsz := kw.size
   have KW := hid kw; clear kw
   cases hu : U i
   ·rw [hu] at HS HRI
    clear hu
    go_wp2_with fail
    refine HS.out.mono ?_; rintro e w3 ⟨rfl, k3⟩
    go_wp2_with fail
    go_roundw
    case rel => exact ⟨i + 1, by omega, by go_num, by have h := HRI.out; simp only [Bool.false_eq_true, if_false] at h; rw [h]; exact hown.keeps k3, KW.out.trans k3⟩
    case measure => simp [intOf]; omega
   ·rw [hu] at HS HRI
    clear hu
    go_wp2_with fail
    refine HS.out.mono ?_; rintro e w3 ⟨rfl, k3⟩
    have hsz3 := k3.size
    have kA3 := (Keeps.refl w3).alloc (.cells #[.int .i64 (i : Int)] 2)
    go_wp2_with (at_builtin; refine appI rfl _ _ rfl w2.heap.size _ (zs (R i)) rfl ((hown.keeps k3).keeps kA3) _ [(i : Int)] rfl (Ints.lit1 w3 i) (by simp; omega) (by rw [hzl]; simp; omega) ?_; intro v1 w1 hv1 hg1 hr1)
    go_roundw
    case rel => exact ⟨i + 1, by omega, by go_num, by have h := HRI.out; simp only [if_true] at h; rw [h, zs_snoc]; exact hv1, ((KW.out.trans k3).trans kA3).grown hg1 hr1⟩
    case measure => simp [intOf]; omega
  ·have e : M = i := by omega
   subst e
   have hlt' : ¬ (M : Int) < ((M - 1 : Nat) : Int) + 1 := by omega
   go_wp2_with fail
   go_ret
   exact ⟨_, rfl, hown.mono kw2.size, kw2.trans kw⟩
set_option maxRecDepth 20000 in
set_option maxHeartbeats 1000000 in
theorem l16Upsets_any (b : List Nat) (v : Value) (w : World) (hv : Ints w v (zs b)) (hb : b.length ≤ 8) (hbm : ∀ x ∈ b, x < 2 ^ b.length) :
  Calls Tryz.prog 166 #[.agg #[.int .i64 b.length, v]] w fun e w' => ∃ v', e = .returned v' ∧ OwnI w' w.heap.size v' (zs (upL b)) ∧ Keeps w w' := by
 have kA := (Keeps.refl w).alloc (.cells #[.int .i64 b.length, v] 31)
 obtain ⟨c0, c1⟩ := BoxF.made w b.length v 31
 have h256 := two8 hb
 have hpos : 0 < 2 ^ b.length := Nat.two_pow_pos _
 have HAL := hid (fun wz => l01Full_any (b.length : Int) wz (by omega) (by omega))
 have e2 : (2 : Int) ^ b.length - 1 = ((2 ^ b.length - 1 : Nat) : Int) := by
  rw [Int.ofNat_sub (by omega)]; push_cast; rfl
 simp only [Int.toNat_natCast, e2] at HAL
 have HU := hid (fun m (hm : m < 2 ^ b.length) wz (kz : Keeps w wz) => l01Image_any b m v wz (hv.keeps kz) hb hbm hm)
 have HR := hid (upK_succ b)
 have HRL := hid (upK_len b)
 have HRE : Hid (upL b = upK b (2 ^ b.length)) := hid rfl
 have HR0 := hid (upK_zero b)
 have HE : Hid (∀ m, isUp b m = (((img b m : Nat) : Int) == (m : Int))) := hid (fun m => by unfold isUp; rw [Bool.eq_iff_iff]; simp; omega)
 rw [HRE.out]
 obtain ⟨p, cap, rfl, _⟩ := hv
 rw [zs_length] at *
 clear hbm HRE e2
 obtain ⟨R, hRR⟩ : ∃ R : Nat → List Nat, ∀ m, R m = upK b m := ⟨_, fun _ => rfl⟩
 obtain ⟨I, hI⟩ : ∃ I : Nat → Nat, ∀ m, I m = img b m := ⟨_, fun _ => rfl⟩
 simp only [HE.out] at HR
 simp only [← hRR, ← hI] at *
 clear hRR hI HE
 generalize 2 ^ b.length = M at *
 generalize b.length = n at *
 go_enter Tryz.func166, Tryz.ntmps166
 obtain ⟨wA, hwA⟩ : ∃ wA, wA = w.alloc (.cells #[.int .i64 n, .slice p n cap] 31) := ⟨_, rfl⟩
 rw [← hwA] at kA c0 c1
 have HWE : Hid (OwnI (wA.alloc (.cells #[] 2)) wA.heap.size (.slice (some ⟨w.heap.size + 1, 0, none⟩) 0 0) (zs [])) := hid (by
  have h := OwnI.empty wA
  have hs : wA.heap.size = w.heap.size + 1 := by rw [hwA]; simp
  rw [hs] at h ⊢; exact h)
 have HWA := hid hwA; clear hwA
 go_wp2_with fail
 go_loopw [3, 4] (fun s3 s4 wr => ∃ i : Nat, i ≤ M ∧ s4 = .int .i64 i ∧ OwnI wr wA.heap.size s3 (zs (R i)) ∧ Keeps wA wr) (fun _ s4 _ => M - (intOf s4).toNat)
 case atStart => exact ⟨0, by omega, rfl, by rw [HR0.out]; have h := HWE.out; rw [HWA.out] at h ⊢; exact h, by rw [HWA.out]; exact (Keeps.refl _).alloc _⟩
 case round =>
  obtain ⟨i, hi, rfl, hown, kw⟩ := hrel
  replace c0 := kw.cell c0
  replace c1 := kw.cell c1
  by_cases hlt : i < M
  ·have hlt' : (i : Int) ≤ ((M - 1 : Nat) : Int) := by omega
   have HS := hid (HU.out i hlt wr (kA.trans kw))
   have HRI := hid (HR.out i)
   have hrl := HRL.out i
   have hzl := zs_length (R i)
   have hsz := kw.size
   have KW := hid kw; clear kw
   generalize I i = x at *
   cases hu : (((x : Nat) : Int) == (i : Int))
   ·rw [hu] at HRI
    go_wp2_with fail
    refine (HAL.out _).mono ?_; rintro e w' ⟨rfl, rfl⟩
    go_wp2_with fail
    refine HS.out.mono ?_; rintro e w' ⟨rfl, rfl⟩
    go_wp2_with fail
    go_roundw
    case rel => exact ⟨i + 1, by omega, by go_num, by have h := HRI.out; simp only [Bool.false_eq_true, if_false] at h; rw [h]; exact hown, KW.out⟩
    case measure => simp [intOf]; omega
   ·rw [hu] at HRI
    have kA3 := (Keeps.refl wr).alloc (.cells #[.int .i64 (i : Int)] 2)
    go_wp2_with fail
    refine (HAL.out _).mono ?_; rintro e w' ⟨rfl, rfl⟩
    go_wp2_with fail
    refine HS.out.mono ?_; rintro e w' ⟨rfl, rfl⟩
    go_wp2_with (at_builtin; refine appI rfl _ _ rfl wA.heap.size _ (zs (R i)) rfl (hown.keeps kA3) _ [(i : Int)] rfl (Ints.lit1 wr i) (by simp; omega) (by rw [hzl]; simp; omega) ?_; intro v1 w1 hv1 hg1 hr1)
    go_roundw
    case rel => exact ⟨i + 1, by omega, by go_num, by have h := HRI.out; simp only [if_true] at h; rw [h, zs_snoc]; exact hv1, (KW.out.trans kA3).grown hg1 hr1⟩
    case measure => simp [intOf]; omega
  ·have e : M = i := by omega
   subst e
   have hlt' : ¬ (M : Int) ≤ ((M - 1 : Nat) : Int) := by omega
   go_wp2_with fail
   refine (HAL.out _).mono ?_; rintro e w' ⟨rfl, rfl⟩
   go_wp2_with fail
   go_ret
   exact ⟨_, rfl, hown.mono kA.size, kA.trans kw⟩
end Go.Proofs.YtfmmajgkjkmghaaGreat
namespace Go.Proofs.YtfmmajgkjkmghaaGreat
open Go.RowKit
def impM (b : List Nat) (x y : Nat) : Nat := ((2 ^ b.length - 1) ^^^ ((2 ^ b.length - 1) &&& x)) ||| y
theorem impM_eq (b : List Nat) (x y : Nat) : impB b x y = boxB b (impM b x y) b.length := rfl
theorem impM_lt {b : List Nat} {x y : Nat} (hy : y < 2 ^ b.length) : impM b x y < 2 ^ b.length := by
 have hp : 0 < 2 ^ b.length := Nat.two_pow_pos _
 have h1 : 2 ^ b.length - 1 < 2 ^ b.length := by omega
 exact Nat.or_lt_two_pow (Nat.xor_lt_two_pow h1 (Nat.lt_of_le_of_lt Nat.and_le_left h1)) hy
theorem impM_int {b : List Nat} {x y : Nat} (hb : b.length ≤ 8) (hx : x < 2 ^ b.length) (hy : y < 2 ^ b.length) :
  bits .or .i64 (bits .andNot .i64 ((2 ^ b.length - 1 : Nat) : Int) (x : Int)) (y : Int) = ((impM b x y : Nat) : Int) := by
 have h256 := two8 hb
 have hp : 0 < 2 ^ b.length := Nat.two_pow_pos _
 rw [andNotN _ _ (by omega) (by omega)]
 have h1 : (2 ^ b.length - 1) ^^^ ((2 ^ b.length - 1) &&& x) < 2 ^ b.length := Nat.xor_lt_two_pow (by omega) (Nat.lt_of_le_of_lt Nat.and_le_left (by omega))
 rw [orN _ _ (by omega) (by omega)]; rfl
set_option maxRecDepth 20000 in
theorem imply_any (b : List Nat) (x y : Nat) (v : Value) (w : World) (hv : Ints w v (zs b)) (hb : b.length ≤ 8) (hbm : Bnd b.length b) (hx : x < 2 ^ b.length) (hy : y < 2 ^ b.length) :
  Calls Tryz.prog 102 #[.agg #[.int .i64 b.length, v], .int .i64 x, .int .i64 y] w fun e w' => e = .returned (.int .i64 (impB b x y)) ∧ Keeps w w' := by
 have kA := (Keeps.refl w).alloc (.cells #[.int .i64 b.length, v] 31)
 obtain ⟨c0, c1⟩ := BoxF.made w b.length v 31
 have HAL := hid (fun wz (kz : Keeps w wz) => posetAll_any b v wz (hv.keeps kz) hb)
 have HB := hid (fun wz (kz : Keeps w wz) => by
  have h := box_any b (impM b x y) v wz (hv.keeps kz) hb hbm (Nat.lt_of_lt_of_le (impM_lt hy) (two8 hb))
  rw [← impM_int hb hx hy] at h; exact h)
 have d0 := kA.drew
 have e0 := (Keeps.refl (w.alloc (.cells #[.int .i64 b.length, v] 31))).drew.cell c0
 have e1 := (Keeps.refl (w.alloc (.cells #[.int .i64 b.length, v] 31))).drew.cell c1
 rw [impM_eq]
 obtain ⟨p, cap, rfl, _⟩ := hv
 rw [zs_length] at *
 clear hbm hx hy
 generalize boxB b (impM b x y) b.length = r at *
 generalize 2 ^ b.length - 1 = M at *
 generalize b.length = n at *
 go_enter Tryz.func102, Tryz.ntmps102
 go_wp2_with fail
 go_region_held3 (fun w' => w'.cell? ⟨w.heap.size, 0, none⟩ = some (.int .i64 n) ∧ w'.cell? ⟨w.heap.size, 1, none⟩ = some (.slice p n cap)) (first | exact ⟨c0, c1⟩ | exact ⟨e0, e1⟩ | exact ⟨f0, f1⟩) (first
  | (go_at_call 174; refine (HAL.out _ d0).mono ?_; rintro e w6 ⟨rfl, k6⟩; have f0 := k6.cell e0; have f1 := k6.cell e1; have k7 := d0.trans k6)
  | (go_at_call 58; refine (HB.out _ k7).mono ?_; rintro e w8 ⟨rfl, rfl⟩))
 go_wp2_with fail
 go_ret
 exact ⟨rfl, k7⟩
end Go.Proofs.YtfmmajgkjkmghaaGreat
