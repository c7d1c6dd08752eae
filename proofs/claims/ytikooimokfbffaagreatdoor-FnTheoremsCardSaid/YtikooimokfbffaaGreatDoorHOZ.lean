import Derived.Test.YtikooimokfbffaaGreatDoorHPG
import Derived.Test.YtikooimokfbffaaGreatDoorHQS
import Derived.Deep.RegionHeld3
import Derived.Test.YtikooimokfbffaaGreatDoorHQE8
import Derived.Test.YtikooimokfbffaaGreatDoorHPD
import Derived.BigQuiet
/- The program: whether an order is one of a logic. -/
namespace Go.Proofs.YtikooimokfbffaaGreatDoor
open Go.RowKit
set_option maxRecDepth 20000 in
theorem isOf_2_any (b : List Nat) (n : Int) (m B : Nat) (v : Value) (w : World) (hv : Ints w v (zs b)) (hb : b.length ≤ 8) (hm : m < 256)
  (c0 : w.cell? ⟨B, 0, none⟩ = some (.int .i64 n)) (c1 : w.cell? ⟨B, 1, none⟩ = some v) :
  Calls Tryz.prog 116 #[.int .i64 m, .pointer (some ⟨B, 0, none⟩)] w fun e w' => e = .returned (.bool (ofKC b m)) ∧ Keeps w w' := by
 have h256 := two8 hb
 have hmx8 : mxB b < 256 := Nat.lt_of_lt_of_le (mxT_lt b b.length) h256
 have HM := hid (maximal_any b n v w hv hb)
 have hand := andN m (mxB b) (by omega) (by omega)
 have HC := hid (fun wz => countMembers_any (m &&& mxB b) wz (Nat.lt_of_le_of_lt Nat.and_le_right hmx8))
 have h8 := cntB_le (m &&& mxB b)
 have HK : Hid (ofKC b m = (cntB (m &&& mxB b) == 1)) := hid rfl
 obtain ⟨p, cap, rfl, _⟩ := hv
 generalize mxB b = mx at *
 generalize hcg : cntB (m &&& mx) = cg at *
 have HCG := hid hcg; clear hcg
 go_enter Tryz.func116, Tryz.ntmps116
 go_wp2_with fail
 refine HM.out.mono ?_; rintro e w2 ⟨rfl, k2⟩
 go_wp2_with fail
 refine (HC.out _).mono ?_; rintro e w' ⟨rfl, rfl⟩
 go_wp2_with fail
 go_ret
 refine ⟨ret_bool ?_, k2⟩
 rw [HK.out, Bool.eq_iff_iff, beq_iff_eq, beq_iff_eq]
 omega
theorem enters_isOf_2 : Enters 116 := fun _ _ => by kernel_rfl
theorem isOf_3_any (m : Nat) (w : World) (hm : m < 256) :
  Calls Tryz.prog 118 #[.int .i64 m] w fun e w' => e = .returned (.bool (ofSmL m)) ∧ Keeps w w' := by
 have HC := hid (fun wz => countMembers_any m wz hm)
 have HK : Hid (ofSmL m = decide (cntB m ≤ 2)) := hid rfl
 generalize hcg : cntB m = cg at *
 have HCG := hid hcg; clear hcg
 go_enter Tryz.func118, Tryz.ntmps118
 go_wp2_with fail
 refine (HC.out _).mono ?_; rintro e w' ⟨rfl, rfl⟩
 go_wp2_with fail
 go_ret
 refine ⟨ret_bool ?_, Keeps.refl _⟩
 rw [HK.out, decide_eq_decide]
 omega
theorem enters_isOf_3 : Enters 118 := fun _ _ => by kernel_rfl
set_option maxRecDepth 20000 in
theorem isOf_1_1_any (P : Nat → Bool) (f : FuncId) (cp : Array Value) (m B : Nat) (w : World) (hcf : Enters f) (hc : w.cell? ⟨B, 0, none⟩ = some (.func (.func f) #[] cp))
  (hf : Calls Tryz.prog f (#[.int .i64 m] ++ cp) w fun e w2 => e = .returned (.bool (P m)) ∧ Keeps w w2) :
  Calls Tryz.prog 111 #[.int .i64 m, .pointer (some ⟨B, 0, none⟩)] w fun e w' => e = .returned (.bool (!P m)) ∧ Keeps w w' := by
 have HF := hid hf; clear hf
 have hcf' : ∀ args w, (callFunc f args).run Tryz.prog w = .ok (.enter f args) w := hcf
 clear hcf
 generalize P m = r at *
 go_enter Tryz.func111, Tryz.ntmps111
 go_wp2_with ((with_reducible refine HF.out.mono ?_); rintro e w2 ⟨rfl, k2⟩)
 go_ret
 exact ⟨rfl, k2⟩
theorem enters_isOf_1_1 : Enters 111 := fun _ _ => by kernel_rfl
set_option maxRecDepth 20000 in
theorem isOf_1_any (b : List Nat) (n : Int) (P : Nat → Bool) (f : FuncId) (cp : Array Value) (B : Nat) (v : Value) (w : World) (hv : Ints w v (zs b)) (hcf : Enters f)
  (c0 : w.cell? ⟨B, 0, none⟩ = some (.int .i64 n)) (c1 : w.cell? ⟨B, 1, none⟩ = some v)
  (hf : ∀ m w1, m ∈ b → Keeps w w1 → Calls Tryz.prog f (#[.int .i64 m] ++ cp) w1 fun e w2 => e = .returned (.bool (P m)) ∧ Keeps w1 w2) :
  Calls Tryz.prog 109 #[.func (.func f) #[] cp, .pointer (some ⟨B, 0, none⟩)] w fun e w' => e = .returned (.bool (b.all P)) ∧ Keeps w w' := by
 have kA := (Keeps.refl w).alloc (.cells #[.func (.func f) #[] cp] 113)
 have hc : (w.alloc (.cells #[.func (.func f) #[] cp] 113)).cell? ⟨w.heap.size, 0, none⟩ = some (.func (.func f) #[] cp) := by simp
 replace c0 := kA.cell c0
 replace c1 := kA.cell c1
 have HC := hid (containsFuncI (fun x => !P x.toNat) 111 #[.pointer (some ⟨w.heap.size, 0, none⟩)] (zs b) v (w.alloc (.cells #[.func (.func f) #[] cp] 113)) (hv.keeps kA) enters_isOf_1_1 (fun x w1 hx k1 => by
  unfold zs at hx
  obtain ⟨m, hm, rfl⟩ := List.mem_map.1 hx
  exact isOf_1_1_any P f cp m w.heap.size w1 hcf (k1.cell hc) (hf m w1 hm (kA.trans k1))))
 have he : (!((zs b).any fun x => !P x.toNat)) = b.all P := by
  rw [zs_any, not_any_not]; rfl
 have HE := hid he; clear he
 clear hc hf hcf
 obtain ⟨p, cap, rfl, _⟩ := hv
 go_enter Tryz.func109, Tryz.ntmps109
 go_wp2_with fail
 refine HC.out.mono ?_; rintro e w2 ⟨rfl, k2⟩
 go_wp2_with fail
 go_ret
 exact ⟨ret_bool HE.out, kA.trans k2⟩
theorem enters_isOf_1 : Enters 109 := fun _ _ => by kernel_rfl
theorem posetAll_any (b : List Nat) (v : Value) (w : World) (hv : Ints w v (zs b)) (hb : b.length ≤ 8) :
  Calls Tryz.prog 115 #[.agg #[.int .i64 b.length, v]] w fun e w' => e = .returned (.int .i64 ((2 ^ b.length - 1 : Nat) : Int)) ∧ Keeps w w' := by
 have kA := (Keeps.refl w).alloc (.cells #[.int .i64 b.length, v] 34)
 obtain ⟨c0, c1⟩ := BoxF.made w b.length v 34
 have hpos : 0 < 2 ^ b.length := Nat.two_pow_pos _
 have e2 : ((2 ^ b.length - 1 : Nat) : Int) = (2 : Int) ^ b.length - 1 := by
  rw [Int.ofNat_sub (by omega)]; push_cast; rfl
 obtain ⟨e3, e4⟩ := pow63 b.length (by omega)
 rw [e2]
 obtain ⟨p, cap, rfl, _⟩ := hv
 rw [zs_length] at *
 generalize hn : b.length = n at *
 have HN := hid hn; clear hn e2 hpos
 go_enter Tryz.func115, Tryz.ntmps115
 go_wp2_with fail
 go_ret
 exact ⟨rfl, kA⟩
set_option maxRecDepth 20000 in
set_option maxHeartbeats 4000000 in
theorem isOf_any (b : List Nat) (hp : Pos b) (k : Nat) (hk : k < 9) (v : Value) (w : World) (hv : Ints w v (zs b)) :
  Calls Tryz.prog 47 #[.agg #[.int .i64 b.length, v], .string (nameK k)] w fun e w' => e = .returned (.bool (ofK b k)) ∧ Keeps w w' := by
 obtain ⟨hb, hbm, hr, ht, ha⟩ := id hp
 have h256 := two8 hb
 have kA := (Keeps.refl w).alloc (.cells #[.int .i64 b.length, v] 34)
 obtain ⟨c0, c1⟩ := BoxF.made w b.length v 34
 have hm256 : ∀ m ∈ b, m < 256 := fun m hm => by
  obtain ⟨j, hj, rfl⟩ := List.getElem_of_mem hm
  have := hbm j
  rw [getD_get hj] at this
  omega
 have HD := hid (fun wz (kz : Keeps w wz) => posetDepth_any b hp v wz (hv.keeps kz))
 have HWD := hid (fun wz (kz : Keeps w wz) => width_any b b.length v wz (hv.keeps kz) hb hbm)
 have HMX := hid (fun wz (kz : Keeps w wz) => maximal_any b b.length v wz (hv.keeps kz) hb)
 have HAL := hid (fun wz (kz : Keeps w wz) => posetAll_any b v wz (hv.keeps kz) hb)
 have H6 := hid (fun wz (kz : Keeps (w.alloc (.cells #[.int .i64 b.length, v] 34)) wz) => isOf_1_any b b.length (ofKC b) 116 #[.pointer (some ⟨w.heap.size, 0, none⟩)] w.heap.size v wz (hv.keeps (kA.trans kz)) enters_isOf_2 (kz.cell c0) (kz.cell c1)
  (fun m w1 hm k1 => isOf_2_any b b.length m w.heap.size v w1 (hv.keeps ((kA.trans kz).trans k1)) hb (hm256 m hm) (k1.cell (kz.cell c0)) (k1.cell (kz.cell c1))))
 have H8 := hid (fun wz (kz : Keeps (w.alloc (.cells #[.int .i64 b.length, v] 34)) wz) => isOf_1_any b b.length ofSmL 118 #[] w.heap.size v wz (hv.keeps (kA.trans kz)) enters_isOf_3 (kz.cell c0) (kz.cell c1)
  (fun m w1 hm _ => isOf_3_any m w1 (hm256 m hm)))
 have h1' : ∀ args w, (callFunc 109 args).run Tryz.prog w = .ok (.enter 109 args) w := enters_isOf_1
 have HCL := hid (cl_eq hp)
 have HDP : Hid (depB b = maxTo (dptL b) b.length) := hid rfl
 have HOF : Hid (∀ k, ofK b k = if k = 0 then decide (depB b ≤ 2) else if k = 1 then decide (depB b ≤ 3) else if k = 2 then decide (widB b ≤ 2) else if k = 3 then decide (widB b ≤ 3)
  else if k = 4 then decide (depB b ≤ 1) else if k = 6 then b.all (ofKC b) else if k = 7 then decide (widB b ≤ 1) else if k = 8 then b.all ofSmL else true) := hid (fun _ => rfl)
 have kd := (Keeps.refl (w.alloc (.cells #[.int .i64 b.length, v] 34))).drew
 have d0 := kd.cell c0
 have d1 := kd.cell c1
 obtain ⟨p, cap, rfl, _⟩ := hv
 rw [zs_length] at *
 clear hbm hr ht ha hp hm256
 obtain ⟨name, hname⟩ : ∃ name, name = nameK k := ⟨_, rfl⟩
 rw [← hname]
 have HNM := hid hname; clear hname
 generalize mxB b = mx at *
 generalize widB b = wd at *
 rw [← HDP.out] at HD
 generalize depB b = dp at *
 generalize b.all (ofKC b) = r6 at *
 generalize b.all ofSmL = r8 at *
 generalize 2 ^ b.length - 1 = full at *
 generalize hn : b.length = n at *
 have Hn := hid hn; clear hn
 have hk9 : k = 0 ∨ k = 1 ∨ k = 2 ∨ k = 3 ∨ k = 4 ∨ k = 5 ∨ k = 6 ∨ k = 7 ∨ k = 8 := by omega
 rcases hk9 with rfl | rfl | rfl | rfl | rfl | rfl | rfl | rfl | rfl
 ·obtain rfl : name = ⟨#[66, 68, 50]⟩ := HNM.out
  clear HNM
  go_enter Tryz.func47, Tryz.ntmps47
  go_wp2_with fail
  refine (HD.out _ kA).mono ?_; rintro e w3 ⟨rfl, k3⟩
  go_wp2_with fail
  go_ret
  exact ⟨ret_bool (by rw [HOF.out]; first | (simp; done) | (simp; omega)), kA.trans k3⟩
 ·obtain rfl : name = ⟨#[66, 68, 51]⟩ := HNM.out
  clear HNM
  go_enter Tryz.func47, Tryz.ntmps47
  go_wp2_with fail
  refine (HD.out _ kA).mono ?_; rintro e w3 ⟨rfl, k3⟩
  go_wp2_with fail
  go_ret
  exact ⟨ret_bool (by rw [HOF.out]; first | (simp; done) | (simp; omega)), kA.trans k3⟩
 ·obtain rfl : name = ⟨#[66, 87, 50]⟩ := HNM.out
  clear HNM
  go_enter Tryz.func47, Tryz.ntmps47
  go_wp2_with fail
  refine (HWD.out _ kA).mono ?_; rintro e w3 ⟨rfl, k3⟩
  go_wp2_with fail
  go_ret
  exact ⟨ret_bool (by rw [HOF.out]; first | (simp; done) | (simp; omega)), kA.trans k3⟩
 ·obtain rfl : name = ⟨#[66, 87, 51]⟩ := HNM.out
  clear HNM
  go_enter Tryz.func47, Tryz.ntmps47
  go_wp2_with fail
  refine (HWD.out _ kA).mono ?_; rintro e w3 ⟨rfl, k3⟩
  go_wp2_with fail
  go_ret
  exact ⟨ret_bool (by rw [HOF.out]; first | (simp; done) | (simp; omega)), kA.trans k3⟩
 ·obtain rfl : name = ⟨#[67, 76]⟩ := HNM.out
  clear HNM
  have kdA := kA.trans kd
  have HO4 : Hid (ofK b 4 = (mx == full)) := hid (by rw [HOF.out, HCL.out]; simp)
  clear HOF HCL
  have HMd := hid (HMX.out _ kdA)
  have HAd := hid (HAL.out _ kdA)
  have HMAd := hid (fun wz (kz : Keeps (w.alloc (.cells #[.int .i64 n, .slice p n cap] 34)).drew wz) => HMX.out wz (kdA.trans kz))
  have HAMd := hid (fun wz (kz : Keeps (w.alloc (.cells #[.int .i64 n, .slice p n cap] 34)).drew wz) => HAL.out wz (kdA.trans kz))
  go_enter Tryz.func47, Tryz.ntmps47
  go_wp2_with fail
  go_region_held3 (fun w' => Keeps (w.alloc (.cells #[.int .i64 n, .slice p n cap] 34)).drew w' ∧ w'.cell? ⟨w.heap.size, 0, none⟩ = some (.int .i64 n) ∧ w'.cell? ⟨w.heap.size, 1, none⟩ = some (.slice p n cap)) (first | exact ⟨Keeps.refl _, d0, d1⟩ | exact ⟨k4, y0, y1⟩ | exact ⟨k5, x0, x1⟩ | exact ⟨k46, t0, t1⟩) (first | (go_at_call 114; refine HMd.out.mono ?_; rintro e w4 ⟨rfl, k4⟩; have y0 := k4.cell d0; have y1 := k4.cell d1) | (go_at_call 115; refine (HAMd.out _ k4).mono ?_; rintro e w6 ⟨rfl, k6⟩; have k46 := k4.trans k6; have t0 := k6.cell y0; have t1 := k6.cell y1) | (go_at_call 115; refine HAd.out.mono ?_; rintro e w5 ⟨rfl, k5⟩; have x0 := k5.cell d0; have x1 := k5.cell d1) | (go_at_call 114; refine (HMAd.out _ k5).mono ?_; rintro e w6 ⟨rfl, k6⟩; have k46 := k5.trans k6; have t0 := k6.cell x0; have t1 := k6.cell x1))
  all_goals
   go_wp2_with fail
   go_ret
   refine ⟨ret_bool ?_, kdA.trans k46⟩
   rw [HO4.out, Bool.eq_iff_iff, beq_iff_eq, beq_iff_eq]
   omega
 ·obtain rfl : name = ⟨#[73, 110, 116]⟩ := HNM.out
  clear HNM
  go_enter Tryz.func47, Tryz.ntmps47
  go_wp2_with fail
  go_ret
  exact ⟨ret_bool (by rw [HOF.out]; first | (simp; done) | (simp; omega)), kA⟩
 ·obtain rfl : name = ⟨#[75, 67]⟩ := HNM.out
  clear HNM
  go_enter Tryz.func47, Tryz.ntmps47
  go_wp2_with fail
  refine (H6.out _ (Keeps.refl _)).mono ?_; rintro e w3 ⟨rfl, k3⟩
  go_wp2_with fail
  go_ret
  exact ⟨ret_bool (by rw [HOF.out]; first | (simp; done) | (simp; omega)), kA.trans k3⟩
 ·obtain rfl : name = ⟨#[76, 67]⟩ := HNM.out
  clear HNM
  go_enter Tryz.func47, Tryz.ntmps47
  go_wp2_with fail
  refine (HWD.out _ kA).mono ?_; rintro e w3 ⟨rfl, k3⟩
  go_wp2_with fail
  go_ret
  exact ⟨ret_bool (by rw [HOF.out]; first | (simp; done) | (simp; omega)), kA.trans k3⟩
 ·obtain rfl : name = ⟨#[83, 109, 76]⟩ := HNM.out
  clear HNM
  go_enter Tryz.func47, Tryz.ntmps47
  go_wp2_with fail
  refine (H8.out _ (Keeps.refl _)).mono ?_; rintro e w3 ⟨rfl, k3⟩
  go_wp2_with fail
  go_ret
  exact ⟨ret_bool (by rw [HOF.out]; first | (simp; done) | (simp; omega)), kA.trans k3⟩
end Go.Proofs.YtikooimokfbffaaGreatDoor
namespace Go.Proofs.YtikooimokfbffaaGreatDoor
open Go.RowKit
def isUp (b : List Nat) (m : Nat) : Bool := img b m == m
def upK (b : List Nat) (k : Nat) : List Nat := (List.range k).filter (isUp b)
def upL (b : List Nat) : List Nat := upK b (2 ^ b.length)
theorem upK_zero (b : List Nat) : upK b 0 = [] := rfl
theorem upK_succ (b : List Nat) (k : Nat) : upK b (k + 1) = if isUp b k then upK b k ++ [k] else upK b k := by
 unfold upK
 rw [List.range_succ, List.filter_append]
 cases h : isUp b k <;> simp [h]
theorem upK_len (b : List Nat) (k : Nat) : (upK b k).length ≤ k := by
 unfold upK
 exact Nat.le_trans (List.length_filter_le _ _) (by simp)
theorem upK_lt {b : List Nat} {k x : Nat} (h : x ∈ upK b k) : x < k := by
 unfold upK at h
 simpa using (List.mem_filter.1 h).1
theorem upL_pos (b : List Nat) : 0 < (upL b).length := by
 have : 0 ∈ upL b := by
  unfold upL upK
  rw [List.mem_filter]
  refine ⟨by simp [Nat.two_pow_pos], ?_⟩
  have : ∀ k, imgL b 0 k = 0 := by
   intro k
   induction k with
   | zero => rfl
   | succ k ih => rw [imgL]; simp [ih]
  simp [isUp, img, this]
 exact List.length_pos_of_mem this
set_option maxRecDepth 20000 in
theorem isUpset_any (b : List Nat) (m : Nat) (v : Value) (w : World) (hv : Ints w v (zs b)) (hb : b.length ≤ 8) (hbm : ∀ x ∈ b, x < 2 ^ b.length) (hm : m < 2 ^ b.length) :
  Calls Tryz.prog 129 #[.agg #[.int .i64 b.length, v], .int .i64 m] w fun e w' => e = .returned (.bool (isUp b m)) ∧ Keeps w w' := by
 have kA := (Keeps.refl w).alloc (.cells #[.int .i64 b.length, v] 34)
 obtain ⟨c0, c1⟩ := BoxF.made w b.length v 34
 have HM := hid (fun wz => isMask_any b.length (m : Int) wz hb)
 rw [(isM_iff b.length (m : Int)).2 ⟨m, rfl, hm⟩] at HM
 have HI := hid (fun wz (kz : Keeps w wz) => image_any b m v wz (hv.keeps kz) hb hbm hm)
 have HE : Hid (isUp b m = (((img b m : Nat) : Int) == (m : Int))) := hid (by unfold isUp; rw [Bool.eq_iff_iff]; simp; omega)
 rw [HE.out]
 obtain ⟨p, cap, rfl, _⟩ := hv
 rw [zs_length] at *
 clear hbm hm HE
 generalize img b m = im at *
 generalize b.length = n at *
 go_enter Tryz.func129, Tryz.ntmps129
 go_wp2_with fail
 refine (HM.out _).mono ?_; rintro e w' ⟨rfl, rfl⟩
 go_wp2_with fail
 refine (HI.out _ kA).mono ?_; rintro e w2 ⟨rfl, k2⟩
 go_wp2_with fail
 go_ret
 exact ⟨rfl, kA.trans k2⟩
set_option maxRecDepth 20000 in
set_option maxHeartbeats 1000000 in
theorem upsets_any (b : List Nat) (v : Value) (w : World) (hv : Ints w v (zs b)) (hb : b.length ≤ 8) (hbm : ∀ x ∈ b, x < 2 ^ b.length) :
  Calls Tryz.prog 53 #[.agg #[.int .i64 b.length, v]] w fun e w' => ∃ v', e = .returned v' ∧ OwnI w' w.heap.size v' (zs (upL b)) ∧ Keeps w w' := by
 have kA := (Keeps.refl w).alloc (.cells #[.int .i64 b.length, v] 34)
 obtain ⟨c0, c1⟩ := BoxF.made w b.length v 34
 have HAL := hid (fun wz (kz : Keeps w wz) => posetAll_any b v wz (hv.keeps kz) hb)
 have HU := hid (fun m (hm : m < 2 ^ b.length) wz (kz : Keeps w wz) => isUpset_any b m v wz (hv.keeps kz) hb hbm hm)
 have HR := hid (upK_succ b)
 have HRL := hid (upK_len b)
 have HRE : Hid (upL b = upK b (2 ^ b.length)) := hid rfl
 have HR0 := hid (upK_zero b)
 rw [HRE.out]
 have h256 := two8 hb
 have hpos : 0 < 2 ^ b.length := Nat.two_pow_pos _
 obtain ⟨p, cap, rfl, _⟩ := hv
 rw [zs_length] at *
 clear hbm HRE
 obtain ⟨U, hU⟩ : ∃ U : Nat → Bool, ∀ m, U m = isUp b m := ⟨_, fun _ => rfl⟩
 simp only [← hU] at *
 obtain ⟨R, hRR⟩ : ∃ R : Nat → List Nat, ∀ m, R m = upK b m := ⟨_, fun _ => rfl⟩
 simp only [← hRR] at *
 clear hU hRR
 generalize 2 ^ b.length = M at *
 generalize b.length = n at *
 have hM1 : ((M - 1 : Nat) : Int) + 1 = (M : Int) := by omega
 have HM1 := hid hM1; clear hM1
 go_enter Tryz.func53, Tryz.ntmps53
 go_wp2_with fail
 refine (HAL.out _ kA).mono ?_; rintro e w2 ⟨rfl, k2⟩
 have kw2 := kA.trans k2
 replace c0 := k2.cell c0
 replace c1 := k2.cell c1
 go_wp2_with fail
 go_loopw [3, 8] (fun s3 s8 wr => ∃ i : Nat, i ≤ M ∧ s8 = .int .i64 i ∧ OwnI wr w2.heap.size s3 (zs (R i)) ∧ Keeps w2 wr) (fun _ s8 _ => M - (intOf s8).toNat)
 case atStart => exact ⟨0, by omega, rfl, by rw [HR0.out]; exact OwnI.nil _ _, Keeps.refl w2⟩
 case round =>
  obtain ⟨i, hi, rfl, hown, kw⟩ := hrel
  replace c0 := kw.cell c0
  replace c1 := kw.cell c1
  by_cases hlt : i < M
  ·have hlt' : (i : Int) < ((M - 1 : Nat) : Int) + 1 := by omega
   have HS := hid (HU.out i hlt wr (kw2.trans kw))
   have HRI := hid (HR.out i)
   have hrl := HRL.out i
   have hzl := zs_length (R i)
   have hsz := kw.size
   have KW := hid kw; clear kw
   cases hu : U i
   ·rw [hu] at HS HRI
    clear hu
    go_wp2_with fail
    refine HS.out.mono ?_; rintro e w3 ⟨rfl, k3⟩
    go_wp2_with fail
    go_roundw
    case rel => exact ⟨i + 1, by omega, by go_num, by have h := HRI.out; simp only [Bool.false_eq_true, if_false] at h; rw [h]; exact hown.keeps k3, KW.out.trans k3⟩
    case measure => simp [intOf]; omega
   ·rw [hu] at HS HRI
    clear hu
    go_wp2_with fail
    refine HS.out.mono ?_; rintro e w3 ⟨rfl, k3⟩
    have hsz3 := k3.size
    have kA3 := (Keeps.refl w3).alloc (.cells #[.int .i64 (i : Int)] 2)
    go_wp2_with (at_builtin; refine appI rfl _ _ rfl w2.heap.size _ (zs (R i)) rfl ((hown.keeps k3).keeps kA3) _ [(i : Int)] rfl (Ints.lit1 w3 i) (by simp; omega) (by rw [hzl]; simp; omega) ?_; intro v1 w1 hv1 hg1 hr1)
    go_roundw
    case rel => exact ⟨i + 1, by omega, by go_num, by have h := HRI.out; simp only [if_true] at h; rw [h, zs_snoc]; exact hv1, ((KW.out.trans k3).trans kA3).grown hg1 hr1⟩
    case measure => simp [intOf]; omega
  ·have e : M = i := by omega
   subst e
   have hlt' : ¬ (M : Int) < ((M - 1 : Nat) : Int) + 1 := by omega
   go_wp2_with fail
   go_ret
   exact ⟨_, rfl, hown.mono kw2.size, kw2.trans kw⟩
set_option maxRecDepth 20000 in
set_option maxHeartbeats 1000000 in
theorem l16Upsets_any (b : List Nat) (v : Value) (w : World) (hv : Ints w v (zs b)) (hb : b.length ≤ 8) (hbm : ∀ x ∈ b, x < 2 ^ b.length) :
  Calls Tryz.prog 30 #[.agg #[.int .i64 b.length, v]] w fun e w' => ∃ v', e = .returned v' ∧ OwnI w' w.heap.size v' (zs (upL b)) ∧ Keeps w w' := by
 have kA := (Keeps.refl w).alloc (.cells #[.int .i64 b.length, v] 34)
 obtain ⟨c0, c1⟩ := BoxF.made w b.length v 34
 have h256 := two8 hb
 have hpos : 0 < 2 ^ b.length := Nat.two_pow_pos _
 have HAL := hid (fun wz => l01Full_any (b.length : Int) wz (by omega) (by omega))
 have e2 : (2 : Int) ^ b.length - 1 = ((2 ^ b.length - 1 : Nat) : Int) := by
  rw [Int.ofNat_sub (by omega)]; push_cast; rfl
 simp only [Int.toNat_natCast, e2] at HAL
 have HU := hid (fun m (hm : m < 2 ^ b.length) wz (kz : Keeps w wz) => l01Image_any b m v wz (hv.keeps kz) hb hbm hm)
 have HR := hid (upK_succ b)
 have HRL := hid (upK_len b)
 have HRE : Hid (upL b = upK b (2 ^ b.length)) := hid rfl
 have HR0 := hid (upK_zero b)
 have HE : Hid (∀ m, isUp b m = (((img b m : Nat) : Int) == (m : Int))) := hid (fun m => by unfold isUp; rw [Bool.eq_iff_iff]; simp; omega)
 rw [HRE.out]
 obtain ⟨p, cap, rfl, _⟩ := hv
 rw [zs_length] at *
 clear hbm HRE e2
 obtain ⟨R, hRR⟩ : ∃ R : Nat → List Nat, ∀ m, R m = upK b m := ⟨_, fun _ => rfl⟩
 obtain ⟨I, hI⟩ : ∃ I : Nat → Nat, ∀ m, I m = img b m := ⟨_, fun _ => rfl⟩
 simp only [HE.out] at HR
 simp only [← hRR, ← hI] at *
 clear hRR hI HE
 generalize 2 ^ b.length = M at *
 generalize b.length = n at *
 go_enter Tryz.func30, Tryz.ntmps30
 obtain ⟨wA, hwA⟩ : ∃ wA, wA = w.alloc (.cells #[.int .i64 n, .slice p n cap] 34) := ⟨_, rfl⟩
 rw [← hwA] at kA c0 c1
 have HWE : Hid (OwnI (wA.alloc (.cells #[] 2)) wA.heap.size (.slice (some ⟨w.heap.size + 1, 0, none⟩) 0 0) (zs [])) := hid (by
  have h := OwnI.empty wA
  have hs : wA.heap.size = w.heap.size + 1 := by rw [hwA]; simp
  rw [hs] at h ⊢; exact h)
 have HWA := hid hwA; clear hwA
 go_wp2_with fail
 go_loopw [3, 4] (fun s3 s4 wr => ∃ i : Nat, i ≤ M ∧ s4 = .int .i64 i ∧ OwnI wr wA.heap.size s3 (zs (R i)) ∧ Keeps wA wr) (fun _ s4 _ => M - (intOf s4).toNat)
 case atStart => exact ⟨0, by omega, rfl, by rw [HR0.out]; have h := HWE.out; rw [HWA.out] at h ⊢; exact h, by rw [HWA.out]; exact (Keeps.refl _).alloc _⟩
 case round =>
  obtain ⟨i, hi, rfl, hown, kw⟩ := hrel
  replace c0 := kw.cell c0
  replace c1 := kw.cell c1
  by_cases hlt : i < M
  ·have hlt' : (i : Int) ≤ ((M - 1 : Nat) : Int) := by omega
   have HS := hid (HU.out i hlt wr (kA.trans kw))
   have HRI := hid (HR.out i)
   have hrl := HRL.out i
   have hzl := zs_length (R i)
   have hsz := kw.size
   have KW := hid kw; clear kw
   generalize I i = x at *
   cases hu : (((x : Nat) : Int) == (i : Int))
   ·rw [hu] at HRI
    go_wp2_with fail
    refine (HAL.out _).mono ?_; rintro e w' ⟨rfl, rfl⟩
    go_wp2_with fail
    refine HS.out.mono ?_; rintro e w' ⟨rfl, rfl⟩
    go_wp2_with fail
    go_roundw
    case rel => exact ⟨i + 1, by omega, by go_num, by have h := HRI.out; simp only [Bool.false_eq_true, if_false] at h; rw [h]; exact hown, KW.out⟩
    case measure => simp [intOf]; omega
   ·rw [hu] at HRI
    have kA3 := (Keeps.refl wr).alloc (.cells #[.int .i64 (i : Int)] 2)
    go_wp2_with fail
    refine (HAL.out _).mono ?_; rintro e w' ⟨rfl, rfl⟩
    go_wp2_with fail
    refine HS.out.mono ?_; rintro e w' ⟨rfl, rfl⟩
    go_wp2_with (at_builtin; refine appI rfl _ _ rfl wA.heap.size _ (zs (R i)) rfl (hown.keeps kA3) _ [(i : Int)] rfl (Ints.lit1 wr i) (by simp; omega) (by rw [hzl]; simp; omega) ?_; intro v1 w1 hv1 hg1 hr1)
    go_roundw
    case rel => exact ⟨i + 1, by omega, by go_num, by have h := HRI.out; simp only [if_true] at h; rw [h, zs_snoc]; exact hv1, (KW.out.trans kA3).grown hg1 hr1⟩
    case measure => simp [intOf]; omega
  ·have e : M = i := by omega
   subst e
   have hlt' : ¬ (M : Int) ≤ ((M - 1 : Nat) : Int) := by omega
   go_wp2_with fail
   refine (HAL.out _).mono ?_; rintro e w' ⟨rfl, rfl⟩
   go_wp2_with fail
   go_ret
   exact ⟨_, rfl, hown.mono kA.size, kA.trans kw⟩
end Go.Proofs.YtikooimokfbffaaGreatDoor
namespace Go.Proofs.YtikooimokfbffaaGreatDoor
open Go.RowKit
def impM (b : List Nat) (x y : Nat) : Nat := ((2 ^ b.length - 1) ^^^ ((2 ^ b.length - 1) &&& x)) ||| y
theorem impM_eq (b : List Nat) (x y : Nat) : impB b x y = boxB b (impM b x y) b.length := rfl
theorem impM_lt {b : List Nat} {x y : Nat} (hy : y < 2 ^ b.length) : impM b x y < 2 ^ b.length := by
 have hp : 0 < 2 ^ b.length := Nat.two_pow_pos _
 have h1 : 2 ^ b.length - 1 < 2 ^ b.length := by omega
 exact Nat.or_lt_two_pow (Nat.xor_lt_two_pow h1 (Nat.lt_of_le_of_lt Nat.and_le_left h1)) hy
theorem impM_int {b : List Nat} {x y : Nat} (hb : b.length ≤ 8) (hx : x < 2 ^ b.length) (hy : y < 2 ^ b.length) :
  bits .or .i64 (bits .andNot .i64 ((2 ^ b.length - 1 : Nat) : Int) (x : Int)) (y : Int) = ((impM b x y : Nat) : Int) := by
 have h256 := two8 hb
 have hp : 0 < 2 ^ b.length := Nat.two_pow_pos _
 rw [andNotN _ _ (by omega) (by omega)]
 have h1 : (2 ^ b.length - 1) ^^^ ((2 ^ b.length - 1) &&& x) < 2 ^ b.length := Nat.xor_lt_two_pow (by omega) (Nat.lt_of_le_of_lt Nat.and_le_left (by omega))
 rw [orN _ _ (by omega) (by omega)]; rfl
set_option maxRecDepth 20000 in
theorem imply_any (b : List Nat) (x y : Nat) (v : Value) (w : World) (hv : Ints w v (zs b)) (hb : b.length ≤ 8) (hbm : Bnd b.length b) (hx : x < 2 ^ b.length) (hy : y < 2 ^ b.length) :
  Calls Tryz.prog 249 #[.agg #[.int .i64 b.length, v], .int .i64 x, .int .i64 y] w fun e w' => e = .returned (.int .i64 (impB b x y)) ∧ Keeps w w' := by
 have kA := (Keeps.refl w).alloc (.cells #[.int .i64 b.length, v] 34)
 obtain ⟨c0, c1⟩ := BoxF.made w b.length v 34
 have HAL := hid (fun wz (kz : Keeps w wz) => posetAll_any b v wz (hv.keeps kz) hb)
 have HB := hid (fun wz (kz : Keeps w wz) => by
  have h := box_any b (impM b x y) v wz (hv.keeps kz) hb hbm (Nat.lt_of_lt_of_le (impM_lt hy) (two8 hb))
  rw [← impM_int hb hx hy] at h; exact h)
 have d0 := kA.drew
 have e0 := (Keeps.refl (w.alloc (.cells #[.int .i64 b.length, v] 34))).drew.cell c0
 have e1 := (Keeps.refl (w.alloc (.cells #[.int .i64 b.length, v] 34))).drew.cell c1
 rw [impM_eq]
 obtain ⟨p, cap, rfl, _⟩ := hv
 rw [zs_length] at *
 clear hbm hx hy
 generalize boxB b (impM b x y) b.length = r at *
 generalize 2 ^ b.length - 1 = M at *
 generalize b.length = n at *
 go_enter Tryz.func249, Tryz.ntmps249
 go_wp2_with fail
 go_region_held3 (fun w' => w'.cell? ⟨w.heap.size, 0, none⟩ = some (.int .i64 n) ∧ w'.cell? ⟨w.heap.size, 1, none⟩ = some (.slice p n cap)) (first | exact ⟨c0, c1⟩ | exact ⟨e0, e1⟩ | exact ⟨f0, f1⟩) (first
  | (go_at_call 115; refine (HAL.out _ d0).mono ?_; rintro e w6 ⟨rfl, k6⟩; have f0 := k6.cell e0; have f1 := k6.cell e1; have k7 := d0.trans k6)
  | (go_at_call 283; refine (HB.out _ k7).mono ?_; rintro e w8 ⟨rfl, rfl⟩))
 go_wp2_with fail
 go_ret
 exact ⟨rfl, k7⟩
set_option maxRecDepth 20000 in
theorem l17Arrow_any (b : List Nat) (x y : Nat) (v : Value) (w : World) (hv : Ints w v (zs b)) (hb : b.length ≤ 8) (hbm : Bnd b.length b) (hx : x < 2 ^ b.length) (hy : y < 2 ^ b.length) :
  Calls Tryz.prog 231 #[.agg #[.int .i64 b.length, v], .int .i64 x, .int .i64 y] w fun e w' => e = .returned (.int .i64 (impB b x y)) ∧ Keeps w w' := by
 have kA := (Keeps.refl w).alloc (.cells #[.int .i64 b.length, v] 34)
 obtain ⟨c0, c1⟩ := BoxF.made w b.length v 34
 have HAL := hid (fun wz => l01Full_any (b.length : Int) wz (by omega) (by omega))
 have hpos : 0 < 2 ^ b.length := Nat.two_pow_pos _
 have e2 : (2 : Int) ^ b.length - 1 = ((2 ^ b.length - 1 : Nat) : Int) := by
  rw [Int.ofNat_sub (by omega)]; push_cast; rfl
 simp only [Int.toNat_natCast, e2] at HAL
 have HB := hid (fun wz (kz : Keeps w wz) => by
  have h := l01Box_any b (impM b x y) v wz (hv.keeps kz) hb hbm (Nat.lt_of_lt_of_le (impM_lt hy) (two8 hb))
  rw [← impM_int hb hx hy] at h; exact h)
 have d0 := kA.drew
 have e0 := (Keeps.refl (w.alloc (.cells #[.int .i64 b.length, v] 34))).drew.cell c0
 have e1 := (Keeps.refl (w.alloc (.cells #[.int .i64 b.length, v] 34))).drew.cell c1
 rw [impM_eq]
 obtain ⟨p, cap, rfl, _⟩ := hv
 rw [zs_length] at *
 clear hbm hx hy hpos e2
 generalize boxB b (impM b x y) b.length = r at *
 generalize 2 ^ b.length - 1 = M at *
 generalize b.length = n at *
 go_enter Tryz.func231, Tryz.ntmps231
 go_wp2_with fail
 go_region_held3 (fun w' => w'.cell? ⟨w.heap.size, 0, none⟩ = some (.int .i64 n) ∧ w'.cell? ⟨w.heap.size, 1, none⟩ = some (.slice p n cap)) (first | exact ⟨c0, c1⟩ | exact ⟨e0, e1⟩ | exact ⟨k8.cell e0, k8.cell e1⟩) (first
  | (go_at_call 81; refine (HAL.out _).mono ?_; rintro e w6 ⟨rfl, rfl⟩)
  | (go_at_call 260; refine (HB.out _ d0).mono ?_; rintro e w8 ⟨rfl, k8⟩))
 go_wp2_with fail
 go_ret
 exact ⟨rfl, d0.trans k8⟩
end Go.Proofs.YtikooimokfbffaaGreatDoor
