import Derived.Test.YtikooimokfbffaaGreatDoorHHX
/- IsTheoremOf: the program's side. -/
namespace Go.Proofs.YtikooimokfbffaaGreatDoor
open Go.RowKit
set_option maxRecDepth 20000 in
set_option maxHeartbeats 1000000 in
theorem thI_3 (s : ByteArray) (k : Nat) (a : List Nd) (v : Value) (w : World) (hv : Nds w v a) (ha : isFm a = true) (hs : findS names9 s = (k : Int)) (hpl : plainL a = false) (hL : LaidS 1 names9 w) : Calls Tryz.prog 9 #[.string s, v] w (RetBC w false 5) := by
 have HF := hid (fun wz (k : Keeps w wz) => isFormula_any a v wz (hv.keeps k))
 have HS := hid (fun wz (kz : Keeps w wz) => intermediateAt_any s wz (hL.keeps kz))
 have HPL := hid (fun wz (k : Keeps w wz) => isPlain_any a v wz (hv.keeps k))
 rw [ha] at HF
 rw [hs] at HS
 rw [hpl] at HPL
 obtain ⟨p, cap, rfl, _⟩ := hv
 have hlz : ¬ ((k : Nat) : Int) < 0 := by omega
 clear ha hL hs hpl
 go_enter Tryz.func9, Tryz.ntmps9
 go_wp2_with fail
 refine (HF.out _ (Keeps.refl w)).mono ?_; rintro e w2 ⟨rfl, k2⟩
 go_wp2_with fail
 refine (HS.out _ k2).mono ?_; rintro e w' ⟨rfl, rfl⟩
 go_wp2_with fail
 refine (HPL.out _ k2).mono ?_; rintro e w3 ⟨rfl, k3⟩
 go_wp2_with fail
 go_ret2
 exact ⟨rfl, k2.trans k3⟩
theorem pow20H {n : Nat} (h : n ≤ 20) : 2 ^ n ≤ 1048576 := Nat.le_trans (Nat.pow_le_pow_right (by omega) h) (by decide)
theorem nix_0 : findS names9 ⟨#[66, 68, 50]⟩ = 0 := by decide +kernel
theorem nix_1 : findS names9 ⟨#[66, 68, 51]⟩ = 1 := by decide +kernel
theorem nix_2 : findS names9 ⟨#[66, 87, 50]⟩ = 2 := by decide +kernel
theorem nix_3 : findS names9 ⟨#[66, 87, 51]⟩ = 3 := by decide +kernel
theorem nix_4 : findS names9 ⟨#[67, 76]⟩ = 4 := by decide +kernel
theorem nix_5 : findS names9 ⟨#[73, 110, 116]⟩ = 5 := by decide +kernel
theorem nix_6 : findS names9 ⟨#[75, 67]⟩ = 6 := by decide +kernel
theorem nix_7 : findS names9 ⟨#[76, 67]⟩ = 7 := by decide +kernel
theorem nix_8 : findS names9 ⟨#[83, 109, 76]⟩ = 8 := by decide +kernel
set_option maxRecDepth 20000 in
set_option maxHeartbeats 1000000 in
theorem thI_b1 (t : Fm) (hw : t.wf) (v : Value) (w : World) (hv : Nds w v t.enc) (ha : isFm t.enc = true) (_hln : t.enc.length ≤ 40) (hpl : t.plain = true) (hL : LaidS 1 names9 w) :
  Calls Tryz.prog 9 #[.string ⟨#[66, 68, 51]⟩, v] w (RetBC w false 5) := by
 have HF := hid (fun wz (k : Keeps w wz) => isFormula_any t.enc v wz (hv.keeps k))
 have HS := hid (fun wz (kz : Keeps w wz) => intermediateAt_any ⟨#[66, 68, 51]⟩ wz (hL.keeps kz))
 have HPL := hid (fun wz (k : Keeps w wz) => isPlain_any t.enc v wz (hv.keeps k))
 have HVI := hid (fun w2 (k : Keeps w w2) => variablesIn_any [t.enc] _ _ (NdsL.lit1 (hv.keeps k)) (fun x hx => by rw [List.mem_singleton.1 hx]; exact List.all_eq_true.2 (okNd_enc hw)))
 rw [vmL_oneZ] at HVI
 have hvl := zs_length (varL t)
 rw [ha] at HF
 rw [show findS names9 ⟨#[66, 68, 51]⟩ = 1 from nix_1] at HS
 rw [plainL_encP, hpl] at HPL
 obtain ⟨p, cap, rfl, _⟩ := hv
 clear ha hL hpl hw
 go_enter Tryz.func9, Tryz.ntmps9
 go_wp2_with fail
 refine (HF.out _ (Keeps.refl w)).mono ?_; rintro e w2 ⟨rfl, k2⟩
 go_wp2_with fail
 refine (HS.out _ k2).mono ?_; rintro e w' ⟨rfl, rfl⟩
 go_wp2_with fail
 refine (HPL.out _ k2).mono ?_; rintro e w3 ⟨rfl, k3⟩
 have KW3 := hid (k2.trans k3)
 clear k2 k3
 go_wp2_with fail
 go_ret2
 exact ⟨rfl, KW3.out⟩
set_option maxRecDepth 20000 in
set_option maxHeartbeats 1000000 in
theorem thI_b2 (t : Fm) (hw : t.wf) (v : Value) (w : World) (hv : Nds w v t.enc) (ha : isFm t.enc = true) (_hln : t.enc.length ≤ 40) (hpl : t.plain = true) (hL : LaidS 1 names9 w) :
  Calls Tryz.prog 9 #[.string ⟨#[66, 87, 50]⟩, v] w (RetBC w false 5) := by
 have HF := hid (fun wz (k : Keeps w wz) => isFormula_any t.enc v wz (hv.keeps k))
 have HS := hid (fun wz (kz : Keeps w wz) => intermediateAt_any ⟨#[66, 87, 50]⟩ wz (hL.keeps kz))
 have HPL := hid (fun wz (k : Keeps w wz) => isPlain_any t.enc v wz (hv.keeps k))
 have HVI := hid (fun w2 (k : Keeps w w2) => variablesIn_any [t.enc] _ _ (NdsL.lit1 (hv.keeps k)) (fun x hx => by rw [List.mem_singleton.1 hx]; exact List.all_eq_true.2 (okNd_enc hw)))
 rw [vmL_oneZ] at HVI
 have hvl := zs_length (varL t)
 rw [ha] at HF
 rw [show findS names9 ⟨#[66, 87, 50]⟩ = 2 from nix_2] at HS
 rw [plainL_encP, hpl] at HPL
 obtain ⟨p, cap, rfl, _⟩ := hv
 clear ha hL hpl hw
 go_enter Tryz.func9, Tryz.ntmps9
 go_wp2_with fail
 refine (HF.out _ (Keeps.refl w)).mono ?_; rintro e w2 ⟨rfl, k2⟩
 go_wp2_with fail
 refine (HS.out _ k2).mono ?_; rintro e w' ⟨rfl, rfl⟩
 go_wp2_with fail
 refine (HPL.out _ k2).mono ?_; rintro e w3 ⟨rfl, k3⟩
 have KW3 := hid (k2.trans k3)
 clear k2 k3
 go_wp2_with fail
 go_ret2
 exact ⟨rfl, KW3.out⟩
set_option maxRecDepth 20000 in
set_option maxHeartbeats 1000000 in
theorem thI_b3 (t : Fm) (hw : t.wf) (v : Value) (w : World) (hv : Nds w v t.enc) (ha : isFm t.enc = true) (_hln : t.enc.length ≤ 40) (hpl : t.plain = true) (hL : LaidS 1 names9 w) :
  Calls Tryz.prog 9 #[.string ⟨#[66, 87, 51]⟩, v] w (RetBC w false 5) := by
 have HF := hid (fun wz (k : Keeps w wz) => isFormula_any t.enc v wz (hv.keeps k))
 have HS := hid (fun wz (kz : Keeps w wz) => intermediateAt_any ⟨#[66, 87, 51]⟩ wz (hL.keeps kz))
 have HPL := hid (fun wz (k : Keeps w wz) => isPlain_any t.enc v wz (hv.keeps k))
 have HVI := hid (fun w2 (k : Keeps w w2) => variablesIn_any [t.enc] _ _ (NdsL.lit1 (hv.keeps k)) (fun x hx => by rw [List.mem_singleton.1 hx]; exact List.all_eq_true.2 (okNd_enc hw)))
 rw [vmL_oneZ] at HVI
 have hvl := zs_length (varL t)
 rw [ha] at HF
 rw [show findS names9 ⟨#[66, 87, 51]⟩ = 3 from nix_3] at HS
 rw [plainL_encP, hpl] at HPL
 obtain ⟨p, cap, rfl, _⟩ := hv
 clear ha hL hpl hw
 go_enter Tryz.func9, Tryz.ntmps9
 go_wp2_with fail
 refine (HF.out _ (Keeps.refl w)).mono ?_; rintro e w2 ⟨rfl, k2⟩
 go_wp2_with fail
 refine (HS.out _ k2).mono ?_; rintro e w' ⟨rfl, rfl⟩
 go_wp2_with fail
 refine (HPL.out _ k2).mono ?_; rintro e w3 ⟨rfl, k3⟩
 have KW3 := hid (k2.trans k3)
 clear k2 k3
 go_wp2_with fail
 go_ret2
 exact ⟨rfl, KW3.out⟩
set_option maxRecDepth 20000 in
set_option maxHeartbeats 1000000 in
theorem thI_l5 (t : Fm) (hw : t.wf) (v : Value) (w : World) (hv : Nds w v t.enc) (ha : isFm t.enc = true) (hln : t.enc.length ≤ 40) (hpl : t.plain = true) (hlong : 20 < t.enc.length) (hL : LaidS 1 names9 w) :
  Calls Tryz.prog 9 #[.string ⟨#[73, 110, 116]⟩, v] w (RetBC w false 3) := by
 have HF := hid (fun wz (k : Keeps w wz) => isFormula_any t.enc v wz (hv.keeps k))
 have HS := hid (fun wz (kz : Keeps w wz) => intermediateAt_any ⟨#[73, 110, 116]⟩ wz (hL.keeps kz))
 have HPL := hid (fun wz (k : Keeps w wz) => isPlain_any t.enc v wz (hv.keeps k))
 have HVI := hid (fun w2 (k : Keeps w w2) => variablesIn_any [t.enc] _ _ (NdsL.lit1 (hv.keeps k)) (fun x hx => by rw [List.mem_singleton.1 hx]; exact List.all_eq_true.2 (okNd_enc hw)))
 rw [vmL_oneZ] at HVI
 have hvl := zs_length (varL t)
 rw [ha] at HF
 rw [show findS names9 ⟨#[73, 110, 116]⟩ = 5 from nix_5] at HS
 rw [plainL_encP, hpl] at HPL
 obtain ⟨p, cap, rfl, _⟩ := hv
 have hgt : (20 : Int) < (t.enc.length : Int) := by omega
 clear ha hL hpl hw hlong
 generalize varL t = V at *
 generalize t.enc.length = nn at *
 go_enter Tryz.func9, Tryz.ntmps9
 go_wp2_with fail
 refine (HF.out _ (Keeps.refl w)).mono ?_; rintro e w2 ⟨rfl, k2⟩
 go_wp2_with fail
 refine (HS.out _ k2).mono ?_; rintro e w' ⟨rfl, rfl⟩
 go_wp2_with fail
 refine (HPL.out _ k2).mono ?_; rintro e w3 ⟨rfl, k3⟩
 have KW3 := hid (k2.trans k3)
 clear k2 k3
 go_wp2_with fail
 refine (HVI.out _ KW3.out).mono ?_; rintro e w4 ⟨v4, rfl, hv4, k4⟩
 have KW4 := hid ((KW3.out.alloc _).trans k4)
 clear k4
 obtain ⟨p4, c4, rfl, -, -, -⟩ := At.of_own hv4
 clear hv4
 go_wp2_with fail
 go_ret2
 exact ⟨rfl, KW4.out⟩
set_option maxRecDepth 20000 in
set_option maxHeartbeats 1000000 in
theorem thI_l6 (t : Fm) (hw : t.wf) (v : Value) (w : World) (hv : Nds w v t.enc) (ha : isFm t.enc = true) (hln : t.enc.length ≤ 40) (hpl : t.plain = true) (hlong : 20 < t.enc.length) (hL : LaidS 1 names9 w) :
  Calls Tryz.prog 9 #[.string ⟨#[75, 67]⟩, v] w (RetBC w false 3) := by
 have HF := hid (fun wz (k : Keeps w wz) => isFormula_any t.enc v wz (hv.keeps k))
 have HS := hid (fun wz (kz : Keeps w wz) => intermediateAt_any ⟨#[75, 67]⟩ wz (hL.keeps kz))
 have HPL := hid (fun wz (k : Keeps w wz) => isPlain_any t.enc v wz (hv.keeps k))
 have HVI := hid (fun w2 (k : Keeps w w2) => variablesIn_any [t.enc] _ _ (NdsL.lit1 (hv.keeps k)) (fun x hx => by rw [List.mem_singleton.1 hx]; exact List.all_eq_true.2 (okNd_enc hw)))
 rw [vmL_oneZ] at HVI
 have hvl := zs_length (varL t)
 rw [ha] at HF
 rw [show findS names9 ⟨#[75, 67]⟩ = 6 from nix_6] at HS
 rw [plainL_encP, hpl] at HPL
 obtain ⟨p, cap, rfl, _⟩ := hv
 have hgt : (20 : Int) < (t.enc.length : Int) := by omega
 clear ha hL hpl hw hlong
 generalize varL t = V at *
 generalize t.enc.length = nn at *
 go_enter Tryz.func9, Tryz.ntmps9
 go_wp2_with fail
 refine (HF.out _ (Keeps.refl w)).mono ?_; rintro e w2 ⟨rfl, k2⟩
 go_wp2_with fail
 refine (HS.out _ k2).mono ?_; rintro e w' ⟨rfl, rfl⟩
 go_wp2_with fail
 refine (HPL.out _ k2).mono ?_; rintro e w3 ⟨rfl, k3⟩
 have KW3 := hid (k2.trans k3)
 clear k2 k3
 go_wp2_with fail
 refine (HVI.out _ KW3.out).mono ?_; rintro e w4 ⟨v4, rfl, hv4, k4⟩
 have KW4 := hid ((KW3.out.alloc _).trans k4)
 clear k4
 obtain ⟨p4, c4, rfl, -, -, -⟩ := At.of_own hv4
 clear hv4
 go_wp2_with fail
 go_ret2
 exact ⟨rfl, KW4.out⟩
set_option maxRecDepth 20000 in
set_option maxHeartbeats 1000000 in
theorem thI_s5 (t : Fm) (hw : t.wf) (v : Value) (w : World) (hv : Nds w v t.enc) (ha : isFm t.enc = true) (hln : t.enc.length ≤ 40) (hpl : t.plain = true) (hsh : t.enc.length ≤ 20) (hL : LaidS 1 names9 w) :
  Calls Tryz.prog 9 #[.string ⟨#[73, 110, 116]⟩, v] w (RetBC w (sqB [] t) 0) := by
 have hok : OkF t := ⟨hw, hpl⟩
 have hwt : wt t + 17 * 6 ≤ 50000000 := by
  have h1 := wt_le_pow t
  have h2 := pow20H hsh
  omega
 have hv6 := varL_six t
 have HW := hid (fun vz wz (hz : Ints wz vz (zs [])) => weakMiddles_any [] ((fun x hx => by cases hx)) (by simp) vz wz hz)
 have HT := hid (fun wz (kz : Keeps w wz) => text_any t hw (by omega) v wz (hv.keeps kz))
 have HP := hid (fun R (hR : ∀ a, a ∈ R ↔ a ∈ [].map wmF) (hwR : wts R ≤ wts ([].map wmF)) s u wz (hu : Left wz u R) (hs : bts s = t.body) => by
  have h1 := provable_any R t (fun a ha => wms_ok ((fun x hx => by cases hx)) a ((hR a).1 ha)) hok (by rw [wms_wts] at hwR; simp only [List.length_nil] at hwR; omega) s u wz hu hs
  rw [sqB_congr (sq_same hR)] at h1
  exact h1)
 clear hok hwt
 have HF := hid (fun wz (k : Keeps w wz) => isFormula_any t.enc v wz (hv.keeps k))
 have HS := hid (fun wz (kz : Keeps w wz) => intermediateAt_any ⟨#[73, 110, 116]⟩ wz (hL.keeps kz))
 have HPL := hid (fun wz (k : Keeps w wz) => isPlain_any t.enc v wz (hv.keeps k))
 have HVI := hid (fun w2 (k : Keeps w w2) => variablesIn_any [t.enc] _ _ (NdsL.lit1 (hv.keeps k)) (fun x hx => by rw [List.mem_singleton.1 hx]; exact List.all_eq_true.2 (okNd_enc hw)))
 rw [vmL_oneZ] at HVI
 have hvl := zs_length (varL t)
 rw [ha] at HF
 rw [show findS names9 ⟨#[73, 110, 116]⟩ = 5 from nix_5] at HS
 rw [plainL_encP, hpl] at HPL
 obtain ⟨p, cap, rfl, _⟩ := hv
 have hgt : ¬ (20 : Int) < (t.enc.length : Int) := by omega
 have HG : Hid (sqB ([].map wmF) t = sqB [] t) := hid rfl
 rw [HG.out] at HP
 clear ha hL hpl hw hsh HG hln
 generalize sqB [] t = res at *
 generalize t.enc.length = nn at *
 go_enter Tryz.func9, Tryz.ntmps9
 go_wp2_with fail
 refine (HF.out _ (Keeps.refl w)).mono ?_; rintro e w2 ⟨rfl, k2⟩
 go_wp2_with fail
 refine (HS.out _ k2).mono ?_; rintro e w' ⟨rfl, rfl⟩
 go_wp2_with fail
 refine (HPL.out _ k2).mono ?_; rintro e w3 ⟨rfl, k3⟩
 have KW3 := hid (k2.trans k3)
 clear k2 k3
 go_wp2_with fail
 refine (HVI.out _ KW3.out).mono ?_; rintro e w4 ⟨v4, rfl, hv4, k4⟩
 have KW4 := hid ((KW3.out.alloc _).trans k4)
 clear k4
 obtain ⟨p4, c4, rfl, -, -, -⟩ := At.of_own hv4
 clear hv4
 rw [hvl] at *
 go_wp2_with fail
 refine (HW.out _ _ (Ints.nilW w4)).mono ?_; rintro e w5 ⟨v5, R, rfl, hR, hm, hwR, k5⟩
 obtain ⟨p5, n5, c5, rfl⟩ := hR.shape
 have KW5 := hid (KW4.out.trans k5)
 go_wp2_with fail
 refine (HT.out _ KW5.out).mono ?_; rintro e w6 ⟨s6, rfl, hs6, k6⟩
 go_wp2_with fail
 refine (HP.out R hm hwR s6 _ w6 (hR.keeps k6) hs6).mono ?_; rintro e w7 ⟨rfl, k7⟩
 go_wp2_with fail
 go_ret2
 exact ⟨rfl, (KW5.out.trans k6).trans k7⟩
set_option maxRecDepth 20000 in
set_option maxHeartbeats 1000000 in
theorem thI_s6 (t : Fm) (hw : t.wf) (v : Value) (w : World) (hv : Nds w v t.enc) (ha : isFm t.enc = true) (hln : t.enc.length ≤ 40) (hpl : t.plain = true) (hsh : t.enc.length ≤ 20) (hL : LaidS 1 names9 w) :
  Calls Tryz.prog 9 #[.string ⟨#[75, 67]⟩, v] w (RetBC w (sqB (wmL t) t) 0) := by
 have hok : OkF t := ⟨hw, hpl⟩
 have hwt : wt t + 17 * 6 ≤ 50000000 := by
  have h1 := wt_le_pow t
  have h2 := pow20H hsh
  omega
 have hv6 := varL_six t
 have HW := hid (fun vz wz (hz : Ints wz vz (zs (varL t))) => weakMiddles_any (varL t) ((fun x hx => varL_lt hx)) (hv6) vz wz hz)
 have HT := hid (fun wz (kz : Keeps w wz) => text_any t hw (by omega) v wz (hv.keeps kz))
 have HP := hid (fun R (hR : ∀ a, a ∈ R ↔ a ∈ (varL t).map wmF) (hwR : wts R ≤ wts ((varL t).map wmF)) s u wz (hu : Left wz u R) (hs : bts s = t.body) => by
  have h1 := provable_any R t (fun a ha => wms_ok ((fun x hx => varL_lt hx)) a ((hR a).1 ha)) hok (by rw [wms_wts] at hwR; omega) s u wz hu hs
  rw [sqB_congr (sq_same hR)] at h1
  exact h1)
 clear hok hwt
 have HF := hid (fun wz (k : Keeps w wz) => isFormula_any t.enc v wz (hv.keeps k))
 have HS := hid (fun wz (kz : Keeps w wz) => intermediateAt_any ⟨#[75, 67]⟩ wz (hL.keeps kz))
 have HPL := hid (fun wz (k : Keeps w wz) => isPlain_any t.enc v wz (hv.keeps k))
 have HVI := hid (fun w2 (k : Keeps w w2) => variablesIn_any [t.enc] _ _ (NdsL.lit1 (hv.keeps k)) (fun x hx => by rw [List.mem_singleton.1 hx]; exact List.all_eq_true.2 (okNd_enc hw)))
 rw [vmL_oneZ] at HVI
 have hvl := zs_length (varL t)
 rw [ha] at HF
 rw [show findS names9 ⟨#[75, 67]⟩ = 6 from nix_6] at HS
 rw [plainL_encP, hpl] at HPL
 obtain ⟨p, cap, rfl, _⟩ := hv
 have hgt : ¬ (20 : Int) < (t.enc.length : Int) := by omega
 have HG : Hid (sqB ((varL t).map wmF) t = sqB (wmL t) t) := hid rfl
 rw [HG.out] at HP
 clear ha hL hpl hw hsh HG hln
 generalize sqB (wmL t) t = res at *
 generalize t.enc.length = nn at *
 go_enter Tryz.func9, Tryz.ntmps9
 go_wp2_with fail
 refine (HF.out _ (Keeps.refl w)).mono ?_; rintro e w2 ⟨rfl, k2⟩
 go_wp2_with fail
 refine (HS.out _ k2).mono ?_; rintro e w' ⟨rfl, rfl⟩
 go_wp2_with fail
 refine (HPL.out _ k2).mono ?_; rintro e w3 ⟨rfl, k3⟩
 have KW3 := hid (k2.trans k3)
 clear k2 k3
 go_wp2_with fail
 refine (HVI.out _ KW3.out).mono ?_; rintro e w4 ⟨v4, rfl, hv4, k4⟩
 have KW4 := hid ((KW3.out.alloc _).trans k4)
 clear k4
 have h4 := hv4.ints (by rw [hvl]; omega)
 obtain ⟨p4, c4, rfl, -, -, -⟩ := At.of_own hv4
 clear hv4
 rw [hvl] at *
 go_wp2_with fail
 refine (HW.out _ _ h4).mono ?_; rintro e w5 ⟨v5, R, rfl, hR, hm, hwR, k5⟩
 obtain ⟨p5, n5, c5, rfl⟩ := hR.shape
 have KW5 := hid (KW4.out.trans k5)
 go_wp2_with fail
 refine (HT.out _ KW5.out).mono ?_; rintro e w6 ⟨s6, rfl, hs6, k6⟩
 go_wp2_with fail
 refine (HP.out R hm hwR s6 _ w6 (hR.keeps k6) hs6).mono ?_; rintro e w7 ⟨rfl, k7⟩
 go_wp2_with fail
 go_ret2
 exact ⟨rfl, (KW5.out.trans k6).trans k7⟩
set_option maxRecDepth 20000 in
set_option maxHeartbeats 1000000 in
theorem thI_m0 (t : Fm) (hw : t.wf) (v : Value) (w : World) (hv : Nds w v t.enc) (ha : isFm t.enc = true) (_hln : t.enc.length ≤ 40) (hpl : t.plain = true) (h2 : 2 < (varL t).length) (hL : LaidS 1 names9 w) :
  Calls Tryz.prog 9 #[.string ⟨#[66, 68, 50]⟩, v] w (RetBC w false 3) := by
 have HF := hid (fun wz (k : Keeps w wz) => isFormula_any t.enc v wz (hv.keeps k))
 have HS := hid (fun wz (kz : Keeps w wz) => intermediateAt_any ⟨#[66, 68, 50]⟩ wz (hL.keeps kz))
 have HPL := hid (fun wz (k : Keeps w wz) => isPlain_any t.enc v wz (hv.keeps k))
 have HVI := hid (fun w2 (k : Keeps w w2) => variablesIn_any [t.enc] _ _ (NdsL.lit1 (hv.keeps k)) (fun x hx => by rw [List.mem_singleton.1 hx]; exact List.all_eq_true.2 (okNd_enc hw)))
 rw [vmL_oneZ] at HVI
 have hvl := zs_length (varL t)
 rw [ha] at HF
 rw [show findS names9 ⟨#[66, 68, 50]⟩ = 0 from nix_0] at HS
 rw [plainL_encP, hpl] at HPL
 obtain ⟨p, cap, rfl, _⟩ := hv
 have hgt : (2 : Int) < ((varL t).length : Int) := by omega
 clear ha hL hpl hw h2
 generalize varL t = V at *
 generalize t.enc.length = nn at *
 go_enter Tryz.func9, Tryz.ntmps9
 go_wp2_with fail
 refine (HF.out _ (Keeps.refl w)).mono ?_; rintro e w2 ⟨rfl, k2⟩
 go_wp2_with fail
 refine (HS.out _ k2).mono ?_; rintro e w' ⟨rfl, rfl⟩
 go_wp2_with fail
 refine (HPL.out _ k2).mono ?_; rintro e w3 ⟨rfl, k3⟩
 have KW3 := hid (k2.trans k3)
 clear k2 k3
 go_wp2_with fail
 refine (HVI.out _ KW3.out).mono ?_; rintro e w4 ⟨v4, rfl, hv4, k4⟩
 have KW4 := hid ((KW3.out.alloc _).trans k4)
 clear k4
 obtain ⟨p4, c4, rfl, -, -, -⟩ := At.of_own hv4
 clear hv4
 rw [hvl] at *
 go_wp2_with fail
 go_ret2
 exact ⟨rfl, KW4.out⟩
set_option maxRecDepth 20000 in
set_option maxHeartbeats 1000000 in
theorem thI_v0 (t : Fm) (hw : t.wf) (v : Value) (w : World) (hv : Nds w v t.enc) (ha : isFm t.enc = true) (hln : t.enc.length ≤ 40) (hpl : t.plain = true) (h2 : (varL t).length ≤ 2) (hL : LaidS 1 names9 w) :
  Calls Tryz.prog 9 #[.string ⟨#[66, 68, 50]⟩, v] w (RetBC w (capB (fkN (2 ^ (varL t).length)) t && vldR (fkN (2 ^ (varL t).length)) t) (if capB (fkN (2 ^ (varL t).length)) t then 0 else 3)) := by
 have hv6 := varL_six t
 have hpos : Pos (fkN (2 ^ (varL t).length)) := fk_Pos (by have : 2 ^ (varL t).length ≤ 2 ^ 2 := Nat.pow_le_pow_right (by omega) h2; omega)
 have HSZ := hid (fun vz wz (hz : Ints wz vz (zs (varL t))) => sizeI_any (zs (varL t)) vz wz hz)
 have HTP := hid (fun wz => tpI_bd ⟨#[66, 68, 50]⟩ (varL t).length wz (by omega) rfl h2)
 have HIV := hid (fun pv wz (kz : Keeps w wz) (hz : Ints wz pv (zs (fkN (2 ^ (varL t).length)))) => implIsPosetValid_any (fkN (2 ^ (varL t).length)) hpos t hw ha hln hpl pv v wz hz (hv.keeps kz))
 have hbl : (fkN (2 ^ (varL t).length)).length ≤ 8 := hpos.1
 have HF := hid (fun wz (k : Keeps w wz) => isFormula_any t.enc v wz (hv.keeps k))
 have HS := hid (fun wz (kz : Keeps w wz) => intermediateAt_any ⟨#[66, 68, 50]⟩ wz (hL.keeps kz))
 have HPL := hid (fun wz (k : Keeps w wz) => isPlain_any t.enc v wz (hv.keeps k))
 have HVI := hid (fun w2 (k : Keeps w w2) => variablesIn_any [t.enc] _ _ (NdsL.lit1 (hv.keeps k)) (fun x hx => by rw [List.mem_singleton.1 hx]; exact List.all_eq_true.2 (okNd_enc hw)))
 rw [vmL_oneZ] at HVI
 have hvl := zs_length (varL t)
 rw [ha] at HF
 rw [show findS names9 ⟨#[66, 68, 50]⟩ = 0 from nix_0] at HS
 rw [plainL_encP, hpl] at HPL
 obtain ⟨p, cap, rfl, _⟩ := hv
 have hgt : ¬ (2 : Int) < ((varL t).length : Int) := by omega
 have hbz := zs_length (fkN (2 ^ (varL t).length))
 rw [hvl] at HSZ
 clear ha hL hpl hw hln hpos h2
 generalize (capB (fkN (2 ^ (varL t).length)) t && vldR (fkN (2 ^ (varL t).length)) t) = r at *
 generalize (if capB (fkN (2 ^ (varL t).length)) t = true then (0 : Int) else 3) = vl at *
 generalize (fkN (2 ^ (varL t).length)) = B at *
 generalize varL t = V at *
 generalize t.enc.length = nn at *
 go_enter Tryz.func9, Tryz.ntmps9
 go_wp2_with fail
 refine (HF.out _ (Keeps.refl w)).mono ?_; rintro e w2 ⟨rfl, k2⟩
 go_wp2_with fail
 refine (HS.out _ k2).mono ?_; rintro e w' ⟨rfl, rfl⟩
 go_wp2_with fail
 refine (HPL.out _ k2).mono ?_; rintro e w3 ⟨rfl, k3⟩
 have KW3 := hid (k2.trans k3)
 clear k2 k3
 go_wp2_with fail
 refine (HVI.out _ KW3.out).mono ?_; rintro e w4 ⟨v4, rfl, hv4, k4⟩
 have KW4 := hid ((KW3.out.alloc _).trans k4)
 clear k4
 have h4 := hv4.ints (by rw [hvl]; omega)
 obtain ⟨p4, c4, rfl, -, -, -⟩ := At.of_own hv4
 clear hv4
 rw [hvl] at *
 go_wp2_with fail
 refine (HSZ.out _ _ h4).mono ?_; rintro e w' ⟨rfl, rfl⟩
 go_wp2_with fail
 refine (HTP.out _).mono ?_; rintro e w5 ⟨v5, rfl, hv5, k5⟩
 have h5 := hv5.ints (by rw [hbz]; omega)
 obtain ⟨p5, c5, rfl, -, -, -⟩ := At.of_own hv5
 clear hv5
 rw [hbz] at *
 have KW5 := hid (KW4.out.trans k5)
 go_wp2_with fail
 refine (HIV.out _ _ KW5.out h5).mono ?_; rintro e w6 ⟨rfl, k6⟩
 go_wp2_with fail
 go_ret2
 exact ⟨rfl, KW5.out.trans k6⟩
set_option maxRecDepth 20000 in
set_option maxHeartbeats 1000000 in
theorem thI_v4 (t : Fm) (hw : t.wf) (v : Value) (w : World) (hv : Nds w v t.enc) (ha : isFm t.enc = true) (hln : t.enc.length ≤ 40) (hpl : t.plain = true) (hL : LaidS 1 names9 w) :
  Calls Tryz.prog 9 #[.string ⟨#[67, 76]⟩, v] w (RetBC w (capB (chN 1) t && vldR (chN 1) t) (if capB (chN 1) t then 0 else 3)) := by
 have hv6 := varL_six t
 have hpos : Pos (chN 1) := ch1_Pos
 have HSZ := hid (fun vz wz (hz : Ints wz vz (zs (varL t))) => sizeI_any (zs (varL t)) vz wz hz)
 have HTP := hid (fun wz => tpI_cl ⟨#[67, 76]⟩ (varL t).length wz (by omega) (by decide) (by decide) rfl)
 have HIV := hid (fun pv wz (kz : Keeps w wz) (hz : Ints wz pv (zs (chN 1))) => implIsPosetValid_any (chN 1) hpos t hw ha hln hpl pv v wz hz (hv.keeps kz))
 have hbl : (chN 1).length ≤ 8 := hpos.1
 have HF := hid (fun wz (k : Keeps w wz) => isFormula_any t.enc v wz (hv.keeps k))
 have HS := hid (fun wz (kz : Keeps w wz) => intermediateAt_any ⟨#[67, 76]⟩ wz (hL.keeps kz))
 have HPL := hid (fun wz (k : Keeps w wz) => isPlain_any t.enc v wz (hv.keeps k))
 have HVI := hid (fun w2 (k : Keeps w w2) => variablesIn_any [t.enc] _ _ (NdsL.lit1 (hv.keeps k)) (fun x hx => by rw [List.mem_singleton.1 hx]; exact List.all_eq_true.2 (okNd_enc hw)))
 rw [vmL_oneZ] at HVI
 have hvl := zs_length (varL t)
 rw [ha] at HF
 rw [show findS names9 ⟨#[67, 76]⟩ = 4 from nix_4] at HS
 rw [plainL_encP, hpl] at HPL
 obtain ⟨p, cap, rfl, _⟩ := hv
 have hbz := zs_length (chN 1)
 rw [hvl] at HSZ
 clear ha hL hpl hw hln hpos
 generalize (capB (chN 1) t && vldR (chN 1) t) = r at *
 generalize (if capB (chN 1) t = true then (0 : Int) else 3) = vl at *
 generalize (chN 1) = B at *
 generalize varL t = V at *
 generalize t.enc.length = nn at *
 go_enter Tryz.func9, Tryz.ntmps9
 go_wp2_with fail
 refine (HF.out _ (Keeps.refl w)).mono ?_; rintro e w2 ⟨rfl, k2⟩
 go_wp2_with fail
 refine (HS.out _ k2).mono ?_; rintro e w' ⟨rfl, rfl⟩
 go_wp2_with fail
 refine (HPL.out _ k2).mono ?_; rintro e w3 ⟨rfl, k3⟩
 have KW3 := hid (k2.trans k3)
 clear k2 k3
 go_wp2_with fail
 refine (HVI.out _ KW3.out).mono ?_; rintro e w4 ⟨v4, rfl, hv4, k4⟩
 have KW4 := hid ((KW3.out.alloc _).trans k4)
 clear k4
 have h4 := hv4.ints (by rw [hvl]; omega)
 obtain ⟨p4, c4, rfl, -, -, -⟩ := At.of_own hv4
 clear hv4
 rw [hvl] at *
 go_wp2_with fail
 refine (HSZ.out _ _ h4).mono ?_; rintro e w' ⟨rfl, rfl⟩
 go_wp2_with fail
 refine (HTP.out _).mono ?_; rintro e w5 ⟨v5, rfl, hv5, k5⟩
 have h5 := hv5.ints (by rw [hbz]; omega)
 obtain ⟨p5, c5, rfl, -, -, -⟩ := At.of_own hv5
 clear hv5
 rw [hbz] at *
 have KW5 := hid (KW4.out.trans k5)
 go_wp2_with fail
 refine (HIV.out _ _ KW5.out h5).mono ?_; rintro e w6 ⟨rfl, k6⟩
 go_wp2_with fail
 go_ret2
 exact ⟨rfl, KW5.out.trans k6⟩
set_option maxRecDepth 20000 in
set_option maxHeartbeats 1000000 in
theorem thI_v7 (t : Fm) (hw : t.wf) (v : Value) (w : World) (hv : Nds w v t.enc) (ha : isFm t.enc = true) (hln : t.enc.length ≤ 40) (hpl : t.plain = true) (hL : LaidS 1 names9 w) :
  Calls Tryz.prog 9 #[.string ⟨#[76, 67]⟩, v] w (RetBC w (capB (chN ((varL t).length + 1)) t && vldR (chN ((varL t).length + 1)) t) (if capB (chN ((varL t).length + 1)) t then 0 else 3)) := by
 have hv6 := varL_six t
 have hpos : Pos (chN ((varL t).length + 1)) := ch_Pos (by omega)
 have HSZ := hid (fun vz wz (hz : Ints wz vz (zs (varL t))) => sizeI_any (zs (varL t)) vz wz hz)
 have HTP := hid (fun wz => tpI_lc ⟨#[76, 67]⟩ (varL t).length wz (by omega) rfl)
 have HIV := hid (fun pv wz (kz : Keeps w wz) (hz : Ints wz pv (zs (chN ((varL t).length + 1)))) => implIsPosetValid_any (chN ((varL t).length + 1)) hpos t hw ha hln hpl pv v wz hz (hv.keeps kz))
 have hbl : (chN ((varL t).length + 1)).length ≤ 8 := hpos.1
 have HF := hid (fun wz (k : Keeps w wz) => isFormula_any t.enc v wz (hv.keeps k))
 have HS := hid (fun wz (kz : Keeps w wz) => intermediateAt_any ⟨#[76, 67]⟩ wz (hL.keeps kz))
 have HPL := hid (fun wz (k : Keeps w wz) => isPlain_any t.enc v wz (hv.keeps k))
 have HVI := hid (fun w2 (k : Keeps w w2) => variablesIn_any [t.enc] _ _ (NdsL.lit1 (hv.keeps k)) (fun x hx => by rw [List.mem_singleton.1 hx]; exact List.all_eq_true.2 (okNd_enc hw)))
 rw [vmL_oneZ] at HVI
 have hvl := zs_length (varL t)
 rw [ha] at HF
 rw [show findS names9 ⟨#[76, 67]⟩ = 7 from nix_7] at HS
 rw [plainL_encP, hpl] at HPL
 obtain ⟨p, cap, rfl, _⟩ := hv
 have hbz := zs_length (chN ((varL t).length + 1))
 rw [hvl] at HSZ
 clear ha hL hpl hw hln hpos
 generalize (capB (chN ((varL t).length + 1)) t && vldR (chN ((varL t).length + 1)) t) = r at *
 generalize (if capB (chN ((varL t).length + 1)) t = true then (0 : Int) else 3) = vl at *
 generalize (chN ((varL t).length + 1)) = B at *
 generalize varL t = V at *
 generalize t.enc.length = nn at *
 go_enter Tryz.func9, Tryz.ntmps9
 go_wp2_with fail
 refine (HF.out _ (Keeps.refl w)).mono ?_; rintro e w2 ⟨rfl, k2⟩
 go_wp2_with fail
 refine (HS.out _ k2).mono ?_; rintro e w' ⟨rfl, rfl⟩
 go_wp2_with fail
 refine (HPL.out _ k2).mono ?_; rintro e w3 ⟨rfl, k3⟩
 have KW3 := hid (k2.trans k3)
 clear k2 k3
 go_wp2_with fail
 refine (HVI.out _ KW3.out).mono ?_; rintro e w4 ⟨v4, rfl, hv4, k4⟩
 have KW4 := hid ((KW3.out.alloc _).trans k4)
 clear k4
 have h4 := hv4.ints (by rw [hvl]; omega)
 obtain ⟨p4, c4, rfl, -, -, -⟩ := At.of_own hv4
 clear hv4
 rw [hvl] at *
 go_wp2_with fail
 refine (HSZ.out _ _ h4).mono ?_; rintro e w' ⟨rfl, rfl⟩
 go_wp2_with fail
 refine (HTP.out _).mono ?_; rintro e w5 ⟨v5, rfl, hv5, k5⟩
 have h5 := hv5.ints (by rw [hbz]; omega)
 obtain ⟨p5, c5, rfl, -, -, -⟩ := At.of_own hv5
 clear hv5
 rw [hbz] at *
 have KW5 := hid (KW4.out.trans k5)
 go_wp2_with fail
 refine (HIV.out _ _ KW5.out h5).mono ?_; rintro e w6 ⟨rfl, k6⟩
 go_wp2_with fail
 go_ret2
 exact ⟨rfl, KW5.out.trans k6⟩
set_option maxRecDepth 20000 in
set_option maxHeartbeats 1000000 in
theorem thI_v8 (t : Fm) (hw : t.wf) (v : Value) (w : World) (hv : Nds w v t.enc) (ha : isFm t.enc = true) (hln : t.enc.length ≤ 40) (hpl : t.plain = true) (hL : LaidS 1 names9 w) :
  Calls Tryz.prog 9 #[.string ⟨#[83, 109, 76]⟩, v] w (RetBC w (capB (chN 2) t && vldR (chN 2) t) (if capB (chN 2) t then 0 else 3)) := by
 have hv6 := varL_six t
 have hpos : Pos (chN 2) := ch2_Pos
 have HSZ := hid (fun vz wz (hz : Ints wz vz (zs (varL t))) => sizeI_any (zs (varL t)) vz wz hz)
 have HTP := hid (fun wz => tpI_sm ⟨#[83, 109, 76]⟩ (varL t).length wz (by omega) (by decide) rfl)
 have HIV := hid (fun pv wz (kz : Keeps w wz) (hz : Ints wz pv (zs (chN 2))) => implIsPosetValid_any (chN 2) hpos t hw ha hln hpl pv v wz hz (hv.keeps kz))
 have hbl : (chN 2).length ≤ 8 := hpos.1
 have HF := hid (fun wz (k : Keeps w wz) => isFormula_any t.enc v wz (hv.keeps k))
 have HS := hid (fun wz (kz : Keeps w wz) => intermediateAt_any ⟨#[83, 109, 76]⟩ wz (hL.keeps kz))
 have HPL := hid (fun wz (k : Keeps w wz) => isPlain_any t.enc v wz (hv.keeps k))
 have HVI := hid (fun w2 (k : Keeps w w2) => variablesIn_any [t.enc] _ _ (NdsL.lit1 (hv.keeps k)) (fun x hx => by rw [List.mem_singleton.1 hx]; exact List.all_eq_true.2 (okNd_enc hw)))
 rw [vmL_oneZ] at HVI
 have hvl := zs_length (varL t)
 rw [ha] at HF
 rw [show findS names9 ⟨#[83, 109, 76]⟩ = 8 from nix_8] at HS
 rw [plainL_encP, hpl] at HPL
 obtain ⟨p, cap, rfl, _⟩ := hv
 have hbz := zs_length (chN 2)
 rw [hvl] at HSZ
 clear ha hL hpl hw hln hpos
 generalize (capB (chN 2) t && vldR (chN 2) t) = r at *
 generalize (if capB (chN 2) t = true then (0 : Int) else 3) = vl at *
 generalize (chN 2) = B at *
 generalize varL t = V at *
 generalize t.enc.length = nn at *
 go_enter Tryz.func9, Tryz.ntmps9
 go_wp2_with fail
 refine (HF.out _ (Keeps.refl w)).mono ?_; rintro e w2 ⟨rfl, k2⟩
 go_wp2_with fail
 refine (HS.out _ k2).mono ?_; rintro e w' ⟨rfl, rfl⟩
 go_wp2_with fail
 refine (HPL.out _ k2).mono ?_; rintro e w3 ⟨rfl, k3⟩
 have KW3 := hid (k2.trans k3)
 clear k2 k3
 go_wp2_with fail
 refine (HVI.out _ KW3.out).mono ?_; rintro e w4 ⟨v4, rfl, hv4, k4⟩
 have KW4 := hid ((KW3.out.alloc _).trans k4)
 clear k4
 have h4 := hv4.ints (by rw [hvl]; omega)
 obtain ⟨p4, c4, rfl, -, -, -⟩ := At.of_own hv4
 clear hv4
 rw [hvl] at *
 go_wp2_with fail
 refine (HSZ.out _ _ h4).mono ?_; rintro e w' ⟨rfl, rfl⟩
 go_wp2_with fail
 refine (HTP.out _).mono ?_; rintro e w5 ⟨v5, rfl, hv5, k5⟩
 have h5 := hv5.ints (by rw [hbz]; omega)
 obtain ⟨p5, c5, rfl, -, -, -⟩ := At.of_own hv5
 clear hv5
 rw [hbz] at *
 have KW5 := hid (KW4.out.trans k5)
 go_wp2_with fail
 refine (HIV.out _ _ KW5.out h5).mono ?_; rintro e w6 ⟨rfl, k6⟩
 go_wp2_with fail
 go_ret2
 exact ⟨rfl, KW5.out.trans k6⟩
end Go.Proofs.YtikooimokfbffaaGreatDoor
