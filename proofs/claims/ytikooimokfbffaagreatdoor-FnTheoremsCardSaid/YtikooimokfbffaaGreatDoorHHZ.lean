import Derived.Test.YtikooimokfbffaaGreatDoorHHY
/- IsTheoremOf: the reference's side. -/
namespace Go.Proofs.YtikooimokfbffaaGreatDoor
open Go.RowKit
theorem tot_nine : ∀ V : List Nat, tot ((V.map wmF).map Fm.enc) ≤ 9 * V.length
 | [] => by simp [tot]
 | v :: V => by
  have h := tot_nine V
  simp only [List.map_cons, tot, List.length_cons, wmF_len]
  omega
set_option maxRecDepth 20000 in
set_option maxHeartbeats 1000000 in
theorem thS_3 (s : ByteArray) (k : Nat) (a : List Nd) (v : Value) (w : World) (hv : Nds w v a) (ha : isFm a = true) (hs : findS names9 s = (k : Int)) (hpl : plainL a = false) : Calls Tryz.prog 7 #[.string s, v] w (RetBC w false 5) := by
 have HF := hid (fun wz (k : Keeps w wz) => l02Is_any a v wz (hv.keeps k))
 have HS := hid (fun wz => l30Known_any s wz)
 have HPL := hid (fun wz (k : Keeps w wz) => l02Plain_any a v wz (hv.keeps k))
 rw [ha] at HF
 rw [hs, show decide ((0 : Int) ≤ (k : Int)) = true from by simp] at HS
 rw [hpl] at HPL
 obtain ⟨p, cap, rfl, _⟩ := hv
 clear ha hs hpl
 go_enter Tryz.func7, Tryz.ntmps7
 go_wp2_with fail
 refine (HF.out _ (Keeps.refl w)).mono ?_; rintro e w' ⟨rfl, rfl⟩
 go_wp2_with fail
 refine (HS.out _).mono ?_; rintro e w2 ⟨rfl, k2⟩
 go_wp2_with fail
 refine (HPL.out _ k2).mono ?_; rintro e w' ⟨rfl, rfl⟩
 go_wp2_with fail
 go_ret2
 exact ⟨rfl, k2⟩
set_option maxRecDepth 20000 in
set_option maxHeartbeats 1000000 in
theorem thS_b1 (t : Fm) (hw : t.wf) (v : Value) (w : World) (hv : Nds w v t.enc) (ha : isFm t.enc = true) (hpl : t.plain = true) :
  Calls Tryz.prog 7 #[.string ⟨#[66, 68, 51]⟩, v] w (RetBC w false 5) := by
 have HF := hid (fun wz (k : Keeps w wz) => l02Is_any t.enc v wz (hv.keeps k))
 have HS := hid (fun wz => l30Known_any ⟨#[66, 68, 51]⟩ wz)
 have HPL := hid (fun wz (k : Keeps w wz) => l02Plain_any t.enc v wz (hv.keeps k))
 have HVI := hid (fun w2 (k : Keeps w w2) => l02Variables_any t.enc v w2 (hv.keeps k) (List.all_eq_true.2 (okNd_enc hw)))
 rw [varL_mem] at HVI
 have hvl := zs_length (varL t)
 rw [ha] at HF
 rw [show decide ((0 : Int) ≤ findS names9 ⟨#[66, 68, 51]⟩) = true from by rw [nix_1]; decide] at HS
 rw [plainL_encP, hpl] at HPL
 obtain ⟨p, cap, rfl, _⟩ := hv
 clear ha hpl hw
 go_enter Tryz.func7, Tryz.ntmps7
 go_wp2_with fail
 refine (HF.out _ (Keeps.refl w)).mono ?_; rintro e w' ⟨rfl, rfl⟩
 go_wp2_with fail
 refine (HS.out _).mono ?_; rintro e w3 ⟨rfl, k3⟩
 go_wp2_with fail
 refine (HPL.out _ k3).mono ?_; rintro e w' ⟨rfl, rfl⟩
 have KW3 := hid k3
 clear k3
 go_wp2_with fail
 go_ret2
 exact ⟨rfl, KW3.out⟩
set_option maxRecDepth 20000 in
set_option maxHeartbeats 1000000 in
theorem thS_b2 (t : Fm) (hw : t.wf) (v : Value) (w : World) (hv : Nds w v t.enc) (ha : isFm t.enc = true) (hpl : t.plain = true) :
  Calls Tryz.prog 7 #[.string ⟨#[66, 87, 50]⟩, v] w (RetBC w false 5) := by
 have HF := hid (fun wz (k : Keeps w wz) => l02Is_any t.enc v wz (hv.keeps k))
 have HS := hid (fun wz => l30Known_any ⟨#[66, 87, 50]⟩ wz)
 have HPL := hid (fun wz (k : Keeps w wz) => l02Plain_any t.enc v wz (hv.keeps k))
 have HVI := hid (fun w2 (k : Keeps w w2) => l02Variables_any t.enc v w2 (hv.keeps k) (List.all_eq_true.2 (okNd_enc hw)))
 rw [varL_mem] at HVI
 have hvl := zs_length (varL t)
 rw [ha] at HF
 rw [show decide ((0 : Int) ≤ findS names9 ⟨#[66, 87, 50]⟩) = true from by rw [nix_2]; decide] at HS
 rw [plainL_encP, hpl] at HPL
 obtain ⟨p, cap, rfl, _⟩ := hv
 clear ha hpl hw
 go_enter Tryz.func7, Tryz.ntmps7
 go_wp2_with fail
 refine (HF.out _ (Keeps.refl w)).mono ?_; rintro e w' ⟨rfl, rfl⟩
 go_wp2_with fail
 refine (HS.out _).mono ?_; rintro e w3 ⟨rfl, k3⟩
 go_wp2_with fail
 refine (HPL.out _ k3).mono ?_; rintro e w' ⟨rfl, rfl⟩
 have KW3 := hid k3
 clear k3
 go_wp2_with fail
 go_ret2
 exact ⟨rfl, KW3.out⟩
set_option maxRecDepth 20000 in
set_option maxHeartbeats 1000000 in
theorem thS_b3 (t : Fm) (hw : t.wf) (v : Value) (w : World) (hv : Nds w v t.enc) (ha : isFm t.enc = true) (hpl : t.plain = true) :
  Calls Tryz.prog 7 #[.string ⟨#[66, 87, 51]⟩, v] w (RetBC w false 5) := by
 have HF := hid (fun wz (k : Keeps w wz) => l02Is_any t.enc v wz (hv.keeps k))
 have HS := hid (fun wz => l30Known_any ⟨#[66, 87, 51]⟩ wz)
 have HPL := hid (fun wz (k : Keeps w wz) => l02Plain_any t.enc v wz (hv.keeps k))
 have HVI := hid (fun w2 (k : Keeps w w2) => l02Variables_any t.enc v w2 (hv.keeps k) (List.all_eq_true.2 (okNd_enc hw)))
 rw [varL_mem] at HVI
 have hvl := zs_length (varL t)
 rw [ha] at HF
 rw [show decide ((0 : Int) ≤ findS names9 ⟨#[66, 87, 51]⟩) = true from by rw [nix_3]; decide] at HS
 rw [plainL_encP, hpl] at HPL
 obtain ⟨p, cap, rfl, _⟩ := hv
 clear ha hpl hw
 go_enter Tryz.func7, Tryz.ntmps7
 go_wp2_with fail
 refine (HF.out _ (Keeps.refl w)).mono ?_; rintro e w' ⟨rfl, rfl⟩
 go_wp2_with fail
 refine (HS.out _).mono ?_; rintro e w3 ⟨rfl, k3⟩
 go_wp2_with fail
 refine (HPL.out _ k3).mono ?_; rintro e w' ⟨rfl, rfl⟩
 have KW3 := hid k3
 clear k3
 go_wp2_with fail
 go_ret2
 exact ⟨rfl, KW3.out⟩
set_option maxRecDepth 20000 in
set_option maxHeartbeats 1000000 in
theorem thS_l5 (t : Fm) (hw : t.wf) (v : Value) (w : World) (hv : Nds w v t.enc) (ha : isFm t.enc = true) (hpl : t.plain = true) (hlong : 20 < t.enc.length) (h40 : t.enc.length ≤ 40) :
  Calls Tryz.prog 7 #[.string ⟨#[73, 110, 116]⟩, v] w (RetBC w false 3) := by
 have HF := hid (fun wz (k : Keeps w wz) => l02Is_any t.enc v wz (hv.keeps k))
 have HS := hid (fun wz => l30Known_any ⟨#[73, 110, 116]⟩ wz)
 have HPL := hid (fun wz (k : Keeps w wz) => l02Plain_any t.enc v wz (hv.keeps k))
 have HVI := hid (fun w2 (k : Keeps w w2) => l02Variables_any t.enc v w2 (hv.keeps k) (List.all_eq_true.2 (okNd_enc hw)))
 rw [varL_mem] at HVI
 have hvl := zs_length (varL t)
 rw [ha] at HF
 rw [show decide ((0 : Int) ≤ findS names9 ⟨#[73, 110, 116]⟩) = true from by rw [nix_5]; decide] at HS
 rw [plainL_encP, hpl] at HPL
 obtain ⟨p, cap, rfl, _⟩ := hv
 have hgt : (20 : Int) < (t.enc.length : Int) := by omega
 clear ha hpl hw hlong h40
 generalize varL t = V at *
 generalize t.enc.length = nn at *
 go_enter Tryz.func7, Tryz.ntmps7
 go_wp2_with fail
 refine (HF.out _ (Keeps.refl w)).mono ?_; rintro e w' ⟨rfl, rfl⟩
 go_wp2_with fail
 refine (HS.out _).mono ?_; rintro e w3 ⟨rfl, k3⟩
 go_wp2_with fail
 refine (HPL.out _ k3).mono ?_; rintro e w' ⟨rfl, rfl⟩
 have KW3 := hid k3
 clear k3
 go_wp2_with fail
 refine (HVI.out _ KW3.out).mono ?_; rintro e w4 ⟨v4, rfl, hv4, k4⟩
 have KW4 := hid (KW3.out.trans k4)
 clear k4
 obtain ⟨p4, c4, rfl, -, -, -⟩ := At.of_own hv4
 clear hv4
 go_wp2_with fail
 go_ret2
 exact ⟨rfl, KW4.out.alloc _⟩
set_option maxRecDepth 20000 in
set_option maxHeartbeats 1000000 in
theorem thS_l6 (t : Fm) (hw : t.wf) (v : Value) (w : World) (hv : Nds w v t.enc) (ha : isFm t.enc = true) (hpl : t.plain = true) (hlong : 20 < t.enc.length) (h40 : t.enc.length ≤ 40) :
  Calls Tryz.prog 7 #[.string ⟨#[75, 67]⟩, v] w (RetBC w false 3) := by
 have HF := hid (fun wz (k : Keeps w wz) => l02Is_any t.enc v wz (hv.keeps k))
 have HS := hid (fun wz => l30Known_any ⟨#[75, 67]⟩ wz)
 have HPL := hid (fun wz (k : Keeps w wz) => l02Plain_any t.enc v wz (hv.keeps k))
 have HVI := hid (fun w2 (k : Keeps w w2) => l02Variables_any t.enc v w2 (hv.keeps k) (List.all_eq_true.2 (okNd_enc hw)))
 rw [varL_mem] at HVI
 have hvl := zs_length (varL t)
 rw [ha] at HF
 rw [show decide ((0 : Int) ≤ findS names9 ⟨#[75, 67]⟩) = true from by rw [nix_6]; decide] at HS
 rw [plainL_encP, hpl] at HPL
 obtain ⟨p, cap, rfl, _⟩ := hv
 have hgt : (20 : Int) < (t.enc.length : Int) := by omega
 clear ha hpl hw hlong h40
 generalize varL t = V at *
 generalize t.enc.length = nn at *
 go_enter Tryz.func7, Tryz.ntmps7
 go_wp2_with fail
 refine (HF.out _ (Keeps.refl w)).mono ?_; rintro e w' ⟨rfl, rfl⟩
 go_wp2_with fail
 refine (HS.out _).mono ?_; rintro e w3 ⟨rfl, k3⟩
 go_wp2_with fail
 refine (HPL.out _ k3).mono ?_; rintro e w' ⟨rfl, rfl⟩
 have KW3 := hid k3
 clear k3
 go_wp2_with fail
 refine (HVI.out _ KW3.out).mono ?_; rintro e w4 ⟨v4, rfl, hv4, k4⟩
 have KW4 := hid (KW3.out.trans k4)
 clear k4
 obtain ⟨p4, c4, rfl, -, -, -⟩ := At.of_own hv4
 clear hv4
 go_wp2_with fail
 go_ret2
 exact ⟨rfl, KW4.out.alloc _⟩
set_option maxRecDepth 20000 in
set_option maxHeartbeats 1000000 in
theorem thS_s5 (t : Fm) (hw : t.wf) (v : Value) (w : World) (hv : Nds w v t.enc) (ha : isFm t.enc = true) (hpl : t.plain = true) (hsh : t.enc.length ≤ 20) :
  Calls Tryz.prog 7 #[.string ⟨#[73, 110, 116]⟩, v] w (RetBC w (sqB [] t) 0) := by
 have hwt : wt t + 17 * 6 ≤ 50000000 := by
  have h1 := wt_le_pow t
  have h2 := pow20H hsh
  omega
 have hv6 := varL_six t
 have HSR := hid (fun u wz (kz : Keeps w wz) (hu : FsL wz u []) => l23Search_any [] t (by simp only [wts]; omega) (by simp) hpl u v wz hu (hv.keeps kz))
 have HF := hid (fun wz (k : Keeps w wz) => l02Is_any t.enc v wz (hv.keeps k))
 have HS := hid (fun wz => l30Known_any ⟨#[73, 110, 116]⟩ wz)
 have HPL := hid (fun wz (k : Keeps w wz) => l02Plain_any t.enc v wz (hv.keeps k))
 have HVI := hid (fun w2 (k : Keeps w w2) => l02Variables_any t.enc v w2 (hv.keeps k) (List.all_eq_true.2 (okNd_enc hw)))
 rw [varL_mem] at HVI
 have hvl := zs_length (varL t)
 rw [ha] at HF
 rw [show decide ((0 : Int) ≤ findS names9 ⟨#[73, 110, 116]⟩) = true from by rw [nix_5]; decide] at HS
 rw [plainL_encP, hpl] at HPL
 obtain ⟨p, cap, rfl, _⟩ := hv
 have hgt : ¬ (20 : Int) < (t.enc.length : Int) := by omega
 clear ha hpl hw hsh hwt
 generalize sqB [] t = res at *
 generalize varL t = V at *
 generalize t.enc.length = nn at *
 go_enter Tryz.func7, Tryz.ntmps7
 go_wp2_with fail
 refine (HF.out _ (Keeps.refl w)).mono ?_; rintro e w' ⟨rfl, rfl⟩
 go_wp2_with fail
 refine (HS.out _).mono ?_; rintro e w3 ⟨rfl, k3⟩
 go_wp2_with fail
 refine (HPL.out _ k3).mono ?_; rintro e w' ⟨rfl, rfl⟩
 have KW3 := hid k3
 clear k3
 go_wp2_with fail
 refine (HVI.out _ KW3.out).mono ?_; rintro e w4 ⟨v4, rfl, hv4, k4⟩
 have KW4 := hid (KW3.out.trans k4)
 clear k4
 obtain ⟨p4, c4, rfl, -, -, -⟩ := At.of_own hv4
 rw [hvl] at *
 have hle : OwnL (w4.alloc (.cells #[] 26)) w4.heap.size (.slice (some ⟨w4.heap.size, 0, none⟩) 0 0) [] := OwnL.empty w4
 have HL := hid (show FsL (w4.alloc (.cells #[] 26)) (.slice (some ⟨w4.heap.size, 0, none⟩) 0 0) [] from hle.ndsL (by simp) (by simp [tot]))
 clear hv4 hle
 go_wp2_with fail
 go_loopw [7, 8] (fun r i' wr => r = .slice (some ⟨w4.heap.size, 0, none⟩) 0 0 ∧ i' = .int .i64 0 ∧ wr = w4.alloc (.cells #[] 26)) (fun _ _ _ => 0)
 case atStart => exact ⟨rfl, rfl, rfl⟩
 case round =>
  obtain ⟨rfl, rfl, rfl⟩ := hrel
  by_cases hvz : (0 : Int) < (V.length : Int)
  all_goals
   go_wp2_with fail
   refine (HSR.out _ _ (KW4.out.alloc _) HL.out).mono ?_; rintro e w5 ⟨rfl, k5⟩
   go_wp2_with fail
   go_ret2
   exact ⟨rfl, (KW4.out.alloc _).trans k5⟩
set_option maxRecDepth 20000 in
set_option maxHeartbeats 1000000 in
theorem thS_s6 (t : Fm) (hw : t.wf) (v : Value) (w : World) (hv : Nds w v t.enc) (ha : isFm t.enc = true) (hpl : t.plain = true) (hsh : t.enc.length ≤ 20) :
  Calls Tryz.prog 7 #[.string ⟨#[75, 67]⟩, v] w (RetBC w (sqB (wmL t) t) 0) := by
 have hwt : wt t + 17 * 6 ≤ 50000000 := by
  have h1 := wt_le_pow t
  have h2 := pow20H hsh
  omega
 have hv6 := varL_six t
 have HSR := hid (fun u wz (kz : Keeps w wz) (hu : FsL wz u (wmL t)) => l23Search_any (wmL t) t (by unfold wmL; rw [wms_wts]; omega) (fun a ha => (wms_ok (fun x hx => varL_lt hx) a ha).2) hpl u v wz hu (hv.keeps kz))
 have HW : Hid (∀ k, k ≤ (varL t).length → (((varL t).take k).map wmF).map Fm.enc = (((varL t).take k).map wmF).map Fm.enc) := hid fun _ _ => rfl
 have HE : Hid (((varL t).map wmF).map Fm.enc = (wmL t).map Fm.enc) := hid rfl
 have HX6 := hid (fun (x : Nat) (hx : x ∈ varL t) => varL_lt hx)
 have HF := hid (fun wz (k : Keeps w wz) => l02Is_any t.enc v wz (hv.keeps k))
 have HS := hid (fun wz => l30Known_any ⟨#[75, 67]⟩ wz)
 have HPL := hid (fun wz (k : Keeps w wz) => l02Plain_any t.enc v wz (hv.keeps k))
 have HVI := hid (fun w2 (k : Keeps w w2) => l02Variables_any t.enc v w2 (hv.keeps k) (List.all_eq_true.2 (okNd_enc hw)))
 rw [varL_mem] at HVI
 have hvl := zs_length (varL t)
 rw [ha] at HF
 rw [show decide ((0 : Int) ≤ findS names9 ⟨#[75, 67]⟩) = true from by rw [nix_6]; decide] at HS
 rw [plainL_encP, hpl] at HPL
 obtain ⟨p, cap, rfl, _⟩ := hv
 have hgt : ¬ (20 : Int) < (t.enc.length : Int) := by omega
 clear ha hpl hw hsh hwt
 generalize sqB (wmL t) t = res at *
 generalize wmL t = GL at *
 generalize varL t = V at *
 generalize t.enc.length = nn at *
 go_enter Tryz.func7, Tryz.ntmps7
 go_wp2_with fail
 refine (HF.out _ (Keeps.refl w)).mono ?_; rintro e w' ⟨rfl, rfl⟩
 go_wp2_with fail
 refine (HS.out _).mono ?_; rintro e w3 ⟨rfl, k3⟩
 go_wp2_with fail
 refine (HPL.out _ k3).mono ?_; rintro e w' ⟨rfl, rfl⟩
 have KW3 := hid k3
 clear k3
 go_wp2_with fail
 refine (HVI.out _ KW3.out).mono ?_; rintro e w4 ⟨v4, rfl, hv4, k4⟩
 have KW4 := hid (KW3.out.trans k4)
 clear k4
 have h4 := hv4.ints (by rw [hvl]; omega)
 obtain ⟨p4, c4, rfl, -, hmx4, -⟩ := At.of_own hv4
 unfold maxLen at hmx4
 rw [hvl] at *
 have HL := hid (OwnL.empty w4)
 have HV := hid h4
 have KA := KW4
 clear hv4 h4
 go_wp2_with fail
 go_loopw [7, 8] (fun r i' wr => ∃ k : Nat, k ≤ V.length ∧ i' = .int .i64 k ∧ OwnL wr w4.heap.size r (((V.take k).map wmF).map Fm.enc) ∧ Keeps w4 wr) (fun _ i _ => V.length - (intOf i).toNat)
 case atStart => exact ⟨0, by omega, rfl, HL.out, (Keeps.refl w4).alloc _⟩
 case round =>
  obtain ⟨k, hk, rfl, hown, kw⟩ := hrel
  have hsz := kw.size
  by_cases hlt : k < V.length
  ·have hlt' : (k : Int) < V.length := by omega
   obtain ⟨b, off, rfl, hc⟩ := (HV.out.keeps kw).zs_cell k hlt
   rw [show V.getD k 0 = V[k] by simp [List.getD_eq_getElem?_getD, hlt]] at hc
   have HTK : Hid (((V.take (k + 1)).map wmF).map Fm.enc = ((V.take k).map wmF).map Fm.enc ++ [(wmF V[k]).enc]) := hid (by rw [List.take_succ_eq_append_getElem hlt, List.map_append, List.map_append]; rfl)
   have hsl : (((V.take k).map wmF).map Fm.enc).length ≤ 6 := by simp; omega
   generalize ((V.take k).map wmF).map Fm.enc = L at *
   generalize V[k] = x at *
   have HVA := hid (l02Var_any x wr)
   have HNO := hid (fun vz wz (hz : Nds wz vz (Fm.var x).enc) => l02Not_any (.var x) vz wz hz (by simp [Fm.enc]))
   have HNN := hid (fun vz wz (hz : Nds wz vz (Fm.not (.var x)).enc) => l02Not_any (Fm.not (.var x)) vz wz hz (by simp [Fm.enc, Fm.not]))
   have HJO := hid (fun va vb wz (hva : Nds wz va (Fm.not (.var x)).enc) (hvb : Nds wz vb (Fm.not (Fm.not (.var x))).enc) => l02Pair_any 3 _ _ va vb wz hva hvb (by simp [Fm.enc, Fm.not]))
   have L1 : (Fm.var x).enc.length ≤ 2147483648 := by simp [Fm.enc]
   have L2 : (Fm.not (.var x)).enc.length ≤ 2147483648 := by simp [Fm.enc, Fm.not]
   have L3 : (Fm.not (Fm.not (.var x))).enc.length ≤ 2147483648 := by simp [Fm.enc, Fm.not]
   have EW : Hid ((⟨3, 0⟩ :: ((Fm.not (.var x)).enc ++ (Fm.not (Fm.not (.var x))).enc) : List Nd) = (wmF x).enc) := hid rfl
   go_wp2_with fail
   refine HVA.out.mono ?_; rintro e w5 ⟨v5, rfl, hv5, k5⟩
   obtain ⟨p5, n5, c5, rfl⟩ := hv5.shape0
   have h5 := hv5.nds L1
   go_wp2_with fail
   refine (HNO.out _ w5 h5).mono ?_; rintro e w6 ⟨v6, rfl, hv6, k6⟩
   obtain ⟨p6, n6, c6, rfl⟩ := hv6.shape0
   have h6 := hv6.nds L2
   go_wp2_with fail
   refine (HNN.out _ w6 h6).mono ?_; rintro e w7 ⟨v7, rfl, hv7, k7⟩
   obtain ⟨p7, n7, c7, rfl⟩ := hv7.shape0
   have h7 := hv7.nds L3
   go_wp2_with fail
   refine (HJO.out _ _ w7 (h6.keeps k7) h7).mono ?_; rintro e w8 ⟨v8, rfl, hv8, k8⟩
   obtain ⟨p8, n8, c8, rfl⟩ := hv8.shape0
   rw [EW.out] at hv8
   have K8 := ((k5.trans k6).trans k7).trans k8
   have k9 := K8.alloc (.cells #[.slice p8 n8 c8] 26)
   have hv9 := (hv8.mono ((k5.trans k6).trans k7).size).keeps ((Keeps.refl w8).alloc (.cells #[.slice p8 n8 c8] 26))
   have hat := At.lit1 w8 (.slice p8 n8 c8) 26
   clear hv5 hv6 hv7 hv8 h5 h6 h7
   go_wp2_with (at_builtin; refine appL rfl _ _ rfl w4.heap.size _ L rfl wr hown k9 _ _ hv9 hsz _ _ rfl hat (by omega) ?_; intro v10 w10 hv10 hg10 hr10; have k10 := (kw.trans k9).grown hg10 hr10)
   go_roundw
   case rel => exact ⟨k + 1, by omega, by go_num, by rw [HTK.out]; exact hv10, k10⟩
   case measure => simp [intOf]; omega
  ·obtain rfl : k = V.length := by omega
   have hlt' : ¬ ((V.length : Int) < V.length) := by omega
   have hF := hid (show FsL wr _ GL from by
    rw [List.take_length, HE.out] at hown
    exact hown.ndsL (by rw [← HE.out]; simp; omega) (by rw [← HE.out]; exact Nat.le_trans (tot_nine V) (by omega)))
   obtain ⟨pr, nr, cr, rfl⟩ := NdsL.shapeL hF.out
   clear hown
   go_wp2_with fail
   refine (HSR.out _ _ (KA.out.trans kw) hF.out).mono ?_; rintro e w5 ⟨rfl, k5⟩
   go_wp2_with fail
   go_ret2
   exact ⟨rfl, (KA.out.trans kw).trans k5⟩
set_option maxRecDepth 20000 in
set_option maxHeartbeats 1000000 in
theorem thS_m0 (t : Fm) (hw : t.wf) (v : Value) (w : World) (hv : Nds w v t.enc) (ha : isFm t.enc = true) (hpl : t.plain = true) (h2 : 2 < (varL t).length) :
  Calls Tryz.prog 7 #[.string ⟨#[66, 68, 50]⟩, v] w (RetBC w false 3) := by
 have HF := hid (fun wz (k : Keeps w wz) => l02Is_any t.enc v wz (hv.keeps k))
 have HS := hid (fun wz => l30Known_any ⟨#[66, 68, 50]⟩ wz)
 have HPL := hid (fun wz (k : Keeps w wz) => l02Plain_any t.enc v wz (hv.keeps k))
 have HVI := hid (fun w2 (k : Keeps w w2) => l02Variables_any t.enc v w2 (hv.keeps k) (List.all_eq_true.2 (okNd_enc hw)))
 rw [varL_mem] at HVI
 have hvl := zs_length (varL t)
 rw [ha] at HF
 rw [show decide ((0 : Int) ≤ findS names9 ⟨#[66, 68, 50]⟩) = true from by rw [nix_0]; decide] at HS
 rw [plainL_encP, hpl] at HPL
 obtain ⟨p, cap, rfl, _⟩ := hv
 have hgt : (2 : Int) < ((varL t).length : Int) := by omega
 have hv6 := varL_six t
 clear ha hpl hw h2
 generalize varL t = V at *
 generalize t.enc.length = nn at *
 go_enter Tryz.func7, Tryz.ntmps7
 go_wp2_with fail
 refine (HF.out _ (Keeps.refl w)).mono ?_; rintro e w' ⟨rfl, rfl⟩
 go_wp2_with fail
 refine (HS.out _).mono ?_; rintro e w3 ⟨rfl, k3⟩
 go_wp2_with fail
 refine (HPL.out _ k3).mono ?_; rintro e w' ⟨rfl, rfl⟩
 have KW3 := hid k3
 clear k3
 go_wp2_with fail
 refine (HVI.out _ KW3.out).mono ?_; rintro e w4 ⟨v4, rfl, hv4, k4⟩
 have KW4 := hid (KW3.out.trans k4)
 clear k4
 obtain ⟨p4, c4, rfl, -, -, -⟩ := At.of_own hv4
 clear hv4
 rw [hvl] at *
 go_wp2_with fail
 go_ret2
 exact ⟨rfl, KW4.out.alloc _⟩
set_option maxRecDepth 20000 in
set_option maxHeartbeats 1000000 in
theorem thS_v0 (t : Fm) (hw : t.wf) (v : Value) (w : World) (hv : Nds w v t.enc) (ha : isFm t.enc = true) (hpl : t.plain = true) (h2 : (varL t).length ≤ 2) (hcap : (upL (fkN (2 ^ (varL t).length))).length ^ (varL t).length ≤ 4096) :
  Calls Tryz.prog 7 #[.string ⟨#[66, 68, 50]⟩, v] w (RetBC w (vldR (fkN (2 ^ (varL t).length)) t) 0) := by
 have hv6 := varL_six t
 have hpos : Pos (fkN (2 ^ (varL t).length)) := fk_Pos (by have : 2 ^ (varL t).length ≤ 2 ^ 2 := Nat.pow_le_pow_right (by omega) h2; omega)
 have hul : (upL (fkN (2 ^ (varL t).length))).length ≤ 256 := Nat.le_trans (upK_len (fkN (2 ^ (varL t).length)) _) (two8 hpos.1)
 have HTP := hid (fun wz => tpS_bd ⟨#[66, 68, 50]⟩ (varL t).length wz (by omega) rfl h2)
 have HUP := hid (fun pv wz (hz : Ints wz pv (zs (fkN (2 ^ (varL t).length)))) => l16Upsets_any (fkN (2 ^ (varL t).length)) pv wz hz hpos.1 (bnd_mem hpos.2.1))
 have HPW := hid (fun wz => l17Power_any (upL (fkN (2 ^ (varL t).length))).length (varL t).length wz hul (by omega))
 have HIV := hid (fun pv wz (kz : Keeps w wz) (hz : Ints wz pv (zs (fkN (2 ^ (varL t).length)))) => l17Valid_any (fkN (2 ^ (varL t).length)) hpos.1 hpos.2.1 (bnd_mem hpos.2.1) t hw hpl hcap pv v wz hz (hv.keeps kz))
 have hpw : ¬ (4096 : Int) < ((powL (upL (fkN (2 ^ (varL t).length))).length (varL t).length : Nat) : Int) := by
  have := powL_eq (k := (varL t).length) (upL_pos (fkN (2 ^ (varL t).length)))
  omega
 have hbl : (fkN (2 ^ (varL t).length)).length ≤ 8 := hpos.1
 have HF := hid (fun wz (k : Keeps w wz) => l02Is_any t.enc v wz (hv.keeps k))
 have HS := hid (fun wz => l30Known_any ⟨#[66, 68, 50]⟩ wz)
 have HPL := hid (fun wz (k : Keeps w wz) => l02Plain_any t.enc v wz (hv.keeps k))
 have HVI := hid (fun w2 (k : Keeps w w2) => l02Variables_any t.enc v w2 (hv.keeps k) (List.all_eq_true.2 (okNd_enc hw)))
 rw [varL_mem] at HVI
 have hvl := zs_length (varL t)
 rw [ha] at HF
 rw [show decide ((0 : Int) ≤ findS names9 ⟨#[66, 68, 50]⟩) = true from by rw [nix_0]; decide] at HS
 rw [plainL_encP, hpl] at HPL
 obtain ⟨p, cap, rfl, _⟩ := hv
 have hgt : ¬ (2 : Int) < ((varL t).length : Int) := by omega
 have hbz := zs_length (fkN (2 ^ (varL t).length))
 have hub := zs_length (upL (fkN (2 ^ (varL t).length)))
 clear ha hpl hw hpos hcap h2
 generalize vldR (fkN (2 ^ (varL t).length)) t = vl at *
 generalize powL (upL (fkN (2 ^ (varL t).length))).length (varL t).length = pw at *
 generalize upL (fkN (2 ^ (varL t).length)) = U at *
 generalize (fkN (2 ^ (varL t).length)) = B at *
 generalize varL t = V at *
 generalize t.enc.length = nn at *
 go_enter Tryz.func7, Tryz.ntmps7
 go_wp2_with fail
 refine (HF.out _ (Keeps.refl w)).mono ?_; rintro e w' ⟨rfl, rfl⟩
 go_wp2_with fail
 refine (HS.out _).mono ?_; rintro e w3 ⟨rfl, k3⟩
 go_wp2_with fail
 refine (HPL.out _ k3).mono ?_; rintro e w' ⟨rfl, rfl⟩
 have KW3 := hid k3
 clear k3
 go_wp2_with fail
 refine (HVI.out _ KW3.out).mono ?_; rintro e w4 ⟨v4, rfl, hv4, k4⟩
 have KW4 := hid (KW3.out.trans k4)
 clear k4
 obtain ⟨p4, c4, rfl, -, -, -⟩ := At.of_own hv4
 clear hv4
 rw [hvl] at *
 go_wp2_with fail
 refine (HTP.out _).mono ?_; rintro e w5 ⟨v5, rfl, hv5, k5⟩
 have h5 := hv5.ints (by rw [hbz]; omega)
 obtain ⟨p5, c5, rfl, -, -, -⟩ := At.of_own hv5
 clear hv5
 rw [hbz] at *
 have KW5 := hid ((KW4.out.alloc (.cells #[] 26)).trans k5)
 have kA := (Keeps.refl w5).alloc (.cells #[.int .i64 B.length, .slice p5 B.length c5] 34)
 obtain ⟨c0, c1⟩ := BoxF.made w5 B.length (.slice p5 B.length c5) 34
 have h5' := h5.keeps kA
 go_wp2_with fail
 refine (HUP.out _ _ h5').mono ?_; rintro e w6 ⟨v6, rfl, hv6', k6⟩
 obtain ⟨p6, c6, rfl, -, -, -⟩ := At.of_own hv6'
 rw [hub] at *
 clear hv6'
 replace c0 := k6.cell c0
 replace c1 := k6.cell c1
 go_wp2_with fail
 refine (HPW.out _).mono ?_; rintro e w' ⟨rfl, rfl⟩
 go_wp2_with fail
 refine (HIV.out _ _ ((KW5.out.trans kA).trans k6) (h5'.keeps k6)).mono ?_; rintro e w7 ⟨rfl, k7⟩
 go_wp2_with fail
 go_ret2
 exact ⟨rfl, ((KW5.out.trans kA).trans k6).trans k7⟩
set_option maxRecDepth 20000 in
set_option maxHeartbeats 1000000 in
theorem thS_w0 (t : Fm) (hw : t.wf) (v : Value) (w : World) (hv : Nds w v t.enc) (ha : isFm t.enc = true) (hpl : t.plain = true) (h2 : (varL t).length ≤ 2) (hcap : ¬ (upL (fkN (2 ^ (varL t).length))).length ^ (varL t).length ≤ 4096) :
  Calls Tryz.prog 7 #[.string ⟨#[66, 68, 50]⟩, v] w (RetBC w false 3) := by
 have hv6 := varL_six t
 have hpos : Pos (fkN (2 ^ (varL t).length)) := fk_Pos (by have : 2 ^ (varL t).length ≤ 2 ^ 2 := Nat.pow_le_pow_right (by omega) h2; omega)
 have hul : (upL (fkN (2 ^ (varL t).length))).length ≤ 256 := Nat.le_trans (upK_len (fkN (2 ^ (varL t).length)) _) (two8 hpos.1)
 have HTP := hid (fun wz => tpS_bd ⟨#[66, 68, 50]⟩ (varL t).length wz (by omega) rfl h2)
 have HUP := hid (fun pv wz (hz : Ints wz pv (zs (fkN (2 ^ (varL t).length)))) => l16Upsets_any (fkN (2 ^ (varL t).length)) pv wz hz hpos.1 (bnd_mem hpos.2.1))
 have HPW := hid (fun wz => l17Power_any (upL (fkN (2 ^ (varL t).length))).length (varL t).length wz hul (by omega))
 have hpw : (4096 : Int) < ((powL (upL (fkN (2 ^ (varL t).length))).length (varL t).length : Nat) : Int) := by
  have := powL_eq (k := (varL t).length) (upL_pos (fkN (2 ^ (varL t).length)))
  omega
 have hbl : (fkN (2 ^ (varL t).length)).length ≤ 8 := hpos.1
 have HF := hid (fun wz (k : Keeps w wz) => l02Is_any t.enc v wz (hv.keeps k))
 have HS := hid (fun wz => l30Known_any ⟨#[66, 68, 50]⟩ wz)
 have HPL := hid (fun wz (k : Keeps w wz) => l02Plain_any t.enc v wz (hv.keeps k))
 have HVI := hid (fun w2 (k : Keeps w w2) => l02Variables_any t.enc v w2 (hv.keeps k) (List.all_eq_true.2 (okNd_enc hw)))
 rw [varL_mem] at HVI
 have hvl := zs_length (varL t)
 rw [ha] at HF
 rw [show decide ((0 : Int) ≤ findS names9 ⟨#[66, 68, 50]⟩) = true from by rw [nix_0]; decide] at HS
 rw [plainL_encP, hpl] at HPL
 obtain ⟨p, cap, rfl, _⟩ := hv
 have hgt : ¬ (2 : Int) < ((varL t).length : Int) := by omega
 have hbz := zs_length (fkN (2 ^ (varL t).length))
 have hub := zs_length (upL (fkN (2 ^ (varL t).length)))
 clear ha hpl hw hpos hcap h2
 generalize powL (upL (fkN (2 ^ (varL t).length))).length (varL t).length = pw at *
 generalize upL (fkN (2 ^ (varL t).length)) = U at *
 generalize (fkN (2 ^ (varL t).length)) = B at *
 generalize varL t = V at *
 generalize t.enc.length = nn at *
 go_enter Tryz.func7, Tryz.ntmps7
 go_wp2_with fail
 refine (HF.out _ (Keeps.refl w)).mono ?_; rintro e w' ⟨rfl, rfl⟩
 go_wp2_with fail
 refine (HS.out _).mono ?_; rintro e w3 ⟨rfl, k3⟩
 go_wp2_with fail
 refine (HPL.out _ k3).mono ?_; rintro e w' ⟨rfl, rfl⟩
 have KW3 := hid k3
 clear k3
 go_wp2_with fail
 refine (HVI.out _ KW3.out).mono ?_; rintro e w4 ⟨v4, rfl, hv4, k4⟩
 have KW4 := hid (KW3.out.trans k4)
 clear k4
 obtain ⟨p4, c4, rfl, -, -, -⟩ := At.of_own hv4
 clear hv4
 rw [hvl] at *
 go_wp2_with fail
 refine (HTP.out _).mono ?_; rintro e w5 ⟨v5, rfl, hv5, k5⟩
 have h5 := hv5.ints (by rw [hbz]; omega)
 obtain ⟨p5, c5, rfl, -, -, -⟩ := At.of_own hv5
 clear hv5
 rw [hbz] at *
 have KW5 := hid ((KW4.out.alloc (.cells #[] 26)).trans k5)
 have kA := (Keeps.refl w5).alloc (.cells #[.int .i64 B.length, .slice p5 B.length c5] 34)
 obtain ⟨c0, c1⟩ := BoxF.made w5 B.length (.slice p5 B.length c5) 34
 have h5' := h5.keeps kA
 go_wp2_with fail
 refine (HUP.out _ _ h5').mono ?_; rintro e w6 ⟨v6, rfl, hv6', k6⟩
 obtain ⟨p6, c6, rfl, -, -, -⟩ := At.of_own hv6'
 rw [hub] at *
 clear hv6'
 replace c0 := k6.cell c0
 replace c1 := k6.cell c1
 go_wp2_with fail
 refine (HPW.out _).mono ?_; rintro e w' ⟨rfl, rfl⟩
 go_wp2_with fail
 go_ret2
 exact ⟨rfl, (KW5.out.trans kA).trans k6⟩
set_option maxRecDepth 20000 in
set_option maxHeartbeats 1000000 in
theorem thS_v4 (t : Fm) (hw : t.wf) (v : Value) (w : World) (hv : Nds w v t.enc) (ha : isFm t.enc = true) (hpl : t.plain = true) (hcap : (upL (chN 1)).length ^ (varL t).length ≤ 4096) :
  Calls Tryz.prog 7 #[.string ⟨#[67, 76]⟩, v] w (RetBC w (vldR (chN 1) t) 0) := by
 have hv6 := varL_six t
 have hpos : Pos (chN 1) := ch1_Pos
 have hul : (upL (chN 1)).length ≤ 256 := Nat.le_trans (upK_len (chN 1) _) (two8 hpos.1)
 have HTP := hid (fun wz => tpS_cl ⟨#[67, 76]⟩ (varL t).length wz (by omega) rfl)
 have HUP := hid (fun pv wz (hz : Ints wz pv (zs (chN 1))) => l16Upsets_any (chN 1) pv wz hz hpos.1 (bnd_mem hpos.2.1))
 have HPW := hid (fun wz => l17Power_any (upL (chN 1)).length (varL t).length wz hul (by omega))
 have HIV := hid (fun pv wz (kz : Keeps w wz) (hz : Ints wz pv (zs (chN 1))) => l17Valid_any (chN 1) hpos.1 hpos.2.1 (bnd_mem hpos.2.1) t hw hpl hcap pv v wz hz (hv.keeps kz))
 have hpw : ¬ (4096 : Int) < ((powL (upL (chN 1)).length (varL t).length : Nat) : Int) := by
  have := powL_eq (k := (varL t).length) (upL_pos (chN 1))
  omega
 have hbl : (chN 1).length ≤ 8 := hpos.1
 have HF := hid (fun wz (k : Keeps w wz) => l02Is_any t.enc v wz (hv.keeps k))
 have HS := hid (fun wz => l30Known_any ⟨#[67, 76]⟩ wz)
 have HPL := hid (fun wz (k : Keeps w wz) => l02Plain_any t.enc v wz (hv.keeps k))
 have HVI := hid (fun w2 (k : Keeps w w2) => l02Variables_any t.enc v w2 (hv.keeps k) (List.all_eq_true.2 (okNd_enc hw)))
 rw [varL_mem] at HVI
 have hvl := zs_length (varL t)
 rw [ha] at HF
 rw [show decide ((0 : Int) ≤ findS names9 ⟨#[67, 76]⟩) = true from by rw [nix_4]; decide] at HS
 rw [plainL_encP, hpl] at HPL
 obtain ⟨p, cap, rfl, _⟩ := hv
 have hbz := zs_length (chN 1)
 have hub := zs_length (upL (chN 1))
 clear ha hpl hw hpos hcap
 generalize vldR (chN 1) t = vl at *
 generalize powL (upL (chN 1)).length (varL t).length = pw at *
 generalize upL (chN 1) = U at *
 generalize (chN 1) = B at *
 generalize varL t = V at *
 generalize t.enc.length = nn at *
 go_enter Tryz.func7, Tryz.ntmps7
 go_wp2_with fail
 refine (HF.out _ (Keeps.refl w)).mono ?_; rintro e w' ⟨rfl, rfl⟩
 go_wp2_with fail
 refine (HS.out _).mono ?_; rintro e w3 ⟨rfl, k3⟩
 go_wp2_with fail
 refine (HPL.out _ k3).mono ?_; rintro e w' ⟨rfl, rfl⟩
 have KW3 := hid k3
 clear k3
 go_wp2_with fail
 refine (HVI.out _ KW3.out).mono ?_; rintro e w4 ⟨v4, rfl, hv4, k4⟩
 have KW4 := hid (KW3.out.trans k4)
 clear k4
 obtain ⟨p4, c4, rfl, -, -, -⟩ := At.of_own hv4
 clear hv4
 rw [hvl] at *
 go_wp2_with fail
 refine (HTP.out _).mono ?_; rintro e w5 ⟨v5, rfl, hv5, k5⟩
 have h5 := hv5.ints (by rw [hbz]; omega)
 obtain ⟨p5, c5, rfl, -, -, -⟩ := At.of_own hv5
 clear hv5
 rw [hbz] at *
 have KW5 := hid ((KW4.out.alloc (.cells #[] 26)).trans k5)
 have kA := (Keeps.refl w5).alloc (.cells #[.int .i64 B.length, .slice p5 B.length c5] 34)
 obtain ⟨c0, c1⟩ := BoxF.made w5 B.length (.slice p5 B.length c5) 34
 have h5' := h5.keeps kA
 go_wp2_with fail
 refine (HUP.out _ _ h5').mono ?_; rintro e w6 ⟨v6, rfl, hv6', k6⟩
 obtain ⟨p6, c6, rfl, -, -, -⟩ := At.of_own hv6'
 rw [hub] at *
 clear hv6'
 replace c0 := k6.cell c0
 replace c1 := k6.cell c1
 go_wp2_with fail
 refine (HPW.out _).mono ?_; rintro e w' ⟨rfl, rfl⟩
 go_wp2_with fail
 refine (HIV.out _ _ ((KW5.out.trans kA).trans k6) (h5'.keeps k6)).mono ?_; rintro e w7 ⟨rfl, k7⟩
 go_wp2_with fail
 go_ret2
 exact ⟨rfl, ((KW5.out.trans kA).trans k6).trans k7⟩
set_option maxRecDepth 20000 in
set_option maxHeartbeats 1000000 in
theorem thS_w4 (t : Fm) (hw : t.wf) (v : Value) (w : World) (hv : Nds w v t.enc) (ha : isFm t.enc = true) (hpl : t.plain = true) (hcap : ¬ (upL (chN 1)).length ^ (varL t).length ≤ 4096) :
  Calls Tryz.prog 7 #[.string ⟨#[67, 76]⟩, v] w (RetBC w false 3) := by
 have hv6 := varL_six t
 have hpos : Pos (chN 1) := ch1_Pos
 have hul : (upL (chN 1)).length ≤ 256 := Nat.le_trans (upK_len (chN 1) _) (two8 hpos.1)
 have HTP := hid (fun wz => tpS_cl ⟨#[67, 76]⟩ (varL t).length wz (by omega) rfl)
 have HUP := hid (fun pv wz (hz : Ints wz pv (zs (chN 1))) => l16Upsets_any (chN 1) pv wz hz hpos.1 (bnd_mem hpos.2.1))
 have HPW := hid (fun wz => l17Power_any (upL (chN 1)).length (varL t).length wz hul (by omega))
 have hpw : (4096 : Int) < ((powL (upL (chN 1)).length (varL t).length : Nat) : Int) := by
  have := powL_eq (k := (varL t).length) (upL_pos (chN 1))
  omega
 have hbl : (chN 1).length ≤ 8 := hpos.1
 have HF := hid (fun wz (k : Keeps w wz) => l02Is_any t.enc v wz (hv.keeps k))
 have HS := hid (fun wz => l30Known_any ⟨#[67, 76]⟩ wz)
 have HPL := hid (fun wz (k : Keeps w wz) => l02Plain_any t.enc v wz (hv.keeps k))
 have HVI := hid (fun w2 (k : Keeps w w2) => l02Variables_any t.enc v w2 (hv.keeps k) (List.all_eq_true.2 (okNd_enc hw)))
 rw [varL_mem] at HVI
 have hvl := zs_length (varL t)
 rw [ha] at HF
 rw [show decide ((0 : Int) ≤ findS names9 ⟨#[67, 76]⟩) = true from by rw [nix_4]; decide] at HS
 rw [plainL_encP, hpl] at HPL
 obtain ⟨p, cap, rfl, _⟩ := hv
 have hbz := zs_length (chN 1)
 have hub := zs_length (upL (chN 1))
 clear ha hpl hw hpos hcap
 generalize powL (upL (chN 1)).length (varL t).length = pw at *
 generalize upL (chN 1) = U at *
 generalize (chN 1) = B at *
 generalize varL t = V at *
 generalize t.enc.length = nn at *
 go_enter Tryz.func7, Tryz.ntmps7
 go_wp2_with fail
 refine (HF.out _ (Keeps.refl w)).mono ?_; rintro e w' ⟨rfl, rfl⟩
 go_wp2_with fail
 refine (HS.out _).mono ?_; rintro e w3 ⟨rfl, k3⟩
 go_wp2_with fail
 refine (HPL.out _ k3).mono ?_; rintro e w' ⟨rfl, rfl⟩
 have KW3 := hid k3
 clear k3
 go_wp2_with fail
 refine (HVI.out _ KW3.out).mono ?_; rintro e w4 ⟨v4, rfl, hv4, k4⟩
 have KW4 := hid (KW3.out.trans k4)
 clear k4
 obtain ⟨p4, c4, rfl, -, -, -⟩ := At.of_own hv4
 clear hv4
 rw [hvl] at *
 go_wp2_with fail
 refine (HTP.out _).mono ?_; rintro e w5 ⟨v5, rfl, hv5, k5⟩
 have h5 := hv5.ints (by rw [hbz]; omega)
 obtain ⟨p5, c5, rfl, -, -, -⟩ := At.of_own hv5
 clear hv5
 rw [hbz] at *
 have KW5 := hid ((KW4.out.alloc (.cells #[] 26)).trans k5)
 have kA := (Keeps.refl w5).alloc (.cells #[.int .i64 B.length, .slice p5 B.length c5] 34)
 obtain ⟨c0, c1⟩ := BoxF.made w5 B.length (.slice p5 B.length c5) 34
 have h5' := h5.keeps kA
 go_wp2_with fail
 refine (HUP.out _ _ h5').mono ?_; rintro e w6 ⟨v6, rfl, hv6', k6⟩
 obtain ⟨p6, c6, rfl, -, -, -⟩ := At.of_own hv6'
 rw [hub] at *
 clear hv6'
 replace c0 := k6.cell c0
 replace c1 := k6.cell c1
 go_wp2_with fail
 refine (HPW.out _).mono ?_; rintro e w' ⟨rfl, rfl⟩
 go_wp2_with fail
 go_ret2
 exact ⟨rfl, (KW5.out.trans kA).trans k6⟩
set_option maxRecDepth 20000 in
set_option maxHeartbeats 1000000 in
theorem thS_v7 (t : Fm) (hw : t.wf) (v : Value) (w : World) (hv : Nds w v t.enc) (ha : isFm t.enc = true) (hpl : t.plain = true) (hcap : (upL (chN ((varL t).length + 1))).length ^ (varL t).length ≤ 4096) :
  Calls Tryz.prog 7 #[.string ⟨#[76, 67]⟩, v] w (RetBC w (vldR (chN ((varL t).length + 1)) t) 0) := by
 have hv6 := varL_six t
 have hpos : Pos (chN ((varL t).length + 1)) := ch_Pos (by omega)
 have hul : (upL (chN ((varL t).length + 1))).length ≤ 256 := Nat.le_trans (upK_len (chN ((varL t).length + 1)) _) (two8 hpos.1)
 have HTP := hid (fun wz => tpS_lc ⟨#[76, 67]⟩ (varL t).length wz (by omega) rfl)
 have HUP := hid (fun pv wz (hz : Ints wz pv (zs (chN ((varL t).length + 1)))) => l16Upsets_any (chN ((varL t).length + 1)) pv wz hz hpos.1 (bnd_mem hpos.2.1))
 have HPW := hid (fun wz => l17Power_any (upL (chN ((varL t).length + 1))).length (varL t).length wz hul (by omega))
 have HIV := hid (fun pv wz (kz : Keeps w wz) (hz : Ints wz pv (zs (chN ((varL t).length + 1)))) => l17Valid_any (chN ((varL t).length + 1)) hpos.1 hpos.2.1 (bnd_mem hpos.2.1) t hw hpl hcap pv v wz hz (hv.keeps kz))
 have hpw : ¬ (4096 : Int) < ((powL (upL (chN ((varL t).length + 1))).length (varL t).length : Nat) : Int) := by
  have := powL_eq (k := (varL t).length) (upL_pos (chN ((varL t).length + 1)))
  omega
 have hbl : (chN ((varL t).length + 1)).length ≤ 8 := hpos.1
 have HF := hid (fun wz (k : Keeps w wz) => l02Is_any t.enc v wz (hv.keeps k))
 have HS := hid (fun wz => l30Known_any ⟨#[76, 67]⟩ wz)
 have HPL := hid (fun wz (k : Keeps w wz) => l02Plain_any t.enc v wz (hv.keeps k))
 have HVI := hid (fun w2 (k : Keeps w w2) => l02Variables_any t.enc v w2 (hv.keeps k) (List.all_eq_true.2 (okNd_enc hw)))
 rw [varL_mem] at HVI
 have hvl := zs_length (varL t)
 rw [ha] at HF
 rw [show decide ((0 : Int) ≤ findS names9 ⟨#[76, 67]⟩) = true from by rw [nix_7]; decide] at HS
 rw [plainL_encP, hpl] at HPL
 obtain ⟨p, cap, rfl, _⟩ := hv
 have hbz := zs_length (chN ((varL t).length + 1))
 have hub := zs_length (upL (chN ((varL t).length + 1)))
 clear ha hpl hw hpos hcap
 generalize vldR (chN ((varL t).length + 1)) t = vl at *
 generalize powL (upL (chN ((varL t).length + 1))).length (varL t).length = pw at *
 generalize upL (chN ((varL t).length + 1)) = U at *
 generalize (chN ((varL t).length + 1)) = B at *
 generalize varL t = V at *
 generalize t.enc.length = nn at *
 go_enter Tryz.func7, Tryz.ntmps7
 go_wp2_with fail
 refine (HF.out _ (Keeps.refl w)).mono ?_; rintro e w' ⟨rfl, rfl⟩
 go_wp2_with fail
 refine (HS.out _).mono ?_; rintro e w3 ⟨rfl, k3⟩
 go_wp2_with fail
 refine (HPL.out _ k3).mono ?_; rintro e w' ⟨rfl, rfl⟩
 have KW3 := hid k3
 clear k3
 go_wp2_with fail
 refine (HVI.out _ KW3.out).mono ?_; rintro e w4 ⟨v4, rfl, hv4, k4⟩
 have KW4 := hid (KW3.out.trans k4)
 clear k4
 obtain ⟨p4, c4, rfl, -, -, -⟩ := At.of_own hv4
 clear hv4
 rw [hvl] at *
 go_wp2_with fail
 refine (HTP.out _).mono ?_; rintro e w5 ⟨v5, rfl, hv5, k5⟩
 have h5 := hv5.ints (by rw [hbz]; omega)
 obtain ⟨p5, c5, rfl, -, -, -⟩ := At.of_own hv5
 clear hv5
 rw [hbz] at *
 have KW5 := hid ((KW4.out.alloc (.cells #[] 26)).trans k5)
 have kA := (Keeps.refl w5).alloc (.cells #[.int .i64 B.length, .slice p5 B.length c5] 34)
 obtain ⟨c0, c1⟩ := BoxF.made w5 B.length (.slice p5 B.length c5) 34
 have h5' := h5.keeps kA
 go_wp2_with fail
 refine (HUP.out _ _ h5').mono ?_; rintro e w6 ⟨v6, rfl, hv6', k6⟩
 obtain ⟨p6, c6, rfl, -, -, -⟩ := At.of_own hv6'
 rw [hub] at *
 clear hv6'
 replace c0 := k6.cell c0
 replace c1 := k6.cell c1
 go_wp2_with fail
 refine (HPW.out _).mono ?_; rintro e w' ⟨rfl, rfl⟩
 go_wp2_with fail
 refine (HIV.out _ _ ((KW5.out.trans kA).trans k6) (h5'.keeps k6)).mono ?_; rintro e w7 ⟨rfl, k7⟩
 go_wp2_with fail
 go_ret2
 exact ⟨rfl, ((KW5.out.trans kA).trans k6).trans k7⟩
set_option maxRecDepth 20000 in
set_option maxHeartbeats 1000000 in
theorem thS_w7 (t : Fm) (hw : t.wf) (v : Value) (w : World) (hv : Nds w v t.enc) (ha : isFm t.enc = true) (hpl : t.plain = true) (hcap : ¬ (upL (chN ((varL t).length + 1))).length ^ (varL t).length ≤ 4096) :
  Calls Tryz.prog 7 #[.string ⟨#[76, 67]⟩, v] w (RetBC w false 3) := by
 have hv6 := varL_six t
 have hpos : Pos (chN ((varL t).length + 1)) := ch_Pos (by omega)
 have hul : (upL (chN ((varL t).length + 1))).length ≤ 256 := Nat.le_trans (upK_len (chN ((varL t).length + 1)) _) (two8 hpos.1)
 have HTP := hid (fun wz => tpS_lc ⟨#[76, 67]⟩ (varL t).length wz (by omega) rfl)
 have HUP := hid (fun pv wz (hz : Ints wz pv (zs (chN ((varL t).length + 1)))) => l16Upsets_any (chN ((varL t).length + 1)) pv wz hz hpos.1 (bnd_mem hpos.2.1))
 have HPW := hid (fun wz => l17Power_any (upL (chN ((varL t).length + 1))).length (varL t).length wz hul (by omega))
 have hpw : (4096 : Int) < ((powL (upL (chN ((varL t).length + 1))).length (varL t).length : Nat) : Int) := by
  have := powL_eq (k := (varL t).length) (upL_pos (chN ((varL t).length + 1)))
  omega
 have hbl : (chN ((varL t).length + 1)).length ≤ 8 := hpos.1
 have HF := hid (fun wz (k : Keeps w wz) => l02Is_any t.enc v wz (hv.keeps k))
 have HS := hid (fun wz => l30Known_any ⟨#[76, 67]⟩ wz)
 have HPL := hid (fun wz (k : Keeps w wz) => l02Plain_any t.enc v wz (hv.keeps k))
 have HVI := hid (fun w2 (k : Keeps w w2) => l02Variables_any t.enc v w2 (hv.keeps k) (List.all_eq_true.2 (okNd_enc hw)))
 rw [varL_mem] at HVI
 have hvl := zs_length (varL t)
 rw [ha] at HF
 rw [show decide ((0 : Int) ≤ findS names9 ⟨#[76, 67]⟩) = true from by rw [nix_7]; decide] at HS
 rw [plainL_encP, hpl] at HPL
 obtain ⟨p, cap, rfl, _⟩ := hv
 have hbz := zs_length (chN ((varL t).length + 1))
 have hub := zs_length (upL (chN ((varL t).length + 1)))
 clear ha hpl hw hpos hcap
 generalize powL (upL (chN ((varL t).length + 1))).length (varL t).length = pw at *
 generalize upL (chN ((varL t).length + 1)) = U at *
 generalize (chN ((varL t).length + 1)) = B at *
 generalize varL t = V at *
 generalize t.enc.length = nn at *
 go_enter Tryz.func7, Tryz.ntmps7
 go_wp2_with fail
 refine (HF.out _ (Keeps.refl w)).mono ?_; rintro e w' ⟨rfl, rfl⟩
 go_wp2_with fail
 refine (HS.out _).mono ?_; rintro e w3 ⟨rfl, k3⟩
 go_wp2_with fail
 refine (HPL.out _ k3).mono ?_; rintro e w' ⟨rfl, rfl⟩
 have KW3 := hid k3
 clear k3
 go_wp2_with fail
 refine (HVI.out _ KW3.out).mono ?_; rintro e w4 ⟨v4, rfl, hv4, k4⟩
 have KW4 := hid (KW3.out.trans k4)
 clear k4
 obtain ⟨p4, c4, rfl, -, -, -⟩ := At.of_own hv4
 clear hv4
 rw [hvl] at *
 go_wp2_with fail
 refine (HTP.out _).mono ?_; rintro e w5 ⟨v5, rfl, hv5, k5⟩
 have h5 := hv5.ints (by rw [hbz]; omega)
 obtain ⟨p5, c5, rfl, -, -, -⟩ := At.of_own hv5
 clear hv5
 rw [hbz] at *
 have KW5 := hid ((KW4.out.alloc (.cells #[] 26)).trans k5)
 have kA := (Keeps.refl w5).alloc (.cells #[.int .i64 B.length, .slice p5 B.length c5] 34)
 obtain ⟨c0, c1⟩ := BoxF.made w5 B.length (.slice p5 B.length c5) 34
 have h5' := h5.keeps kA
 go_wp2_with fail
 refine (HUP.out _ _ h5').mono ?_; rintro e w6 ⟨v6, rfl, hv6', k6⟩
 obtain ⟨p6, c6, rfl, -, -, -⟩ := At.of_own hv6'
 rw [hub] at *
 clear hv6'
 replace c0 := k6.cell c0
 replace c1 := k6.cell c1
 go_wp2_with fail
 refine (HPW.out _).mono ?_; rintro e w' ⟨rfl, rfl⟩
 go_wp2_with fail
 go_ret2
 exact ⟨rfl, (KW5.out.trans kA).trans k6⟩
set_option maxRecDepth 20000 in
set_option maxHeartbeats 1000000 in
theorem thS_v8 (t : Fm) (hw : t.wf) (v : Value) (w : World) (hv : Nds w v t.enc) (ha : isFm t.enc = true) (hpl : t.plain = true) (hcap : (upL (chN 2)).length ^ (varL t).length ≤ 4096) :
  Calls Tryz.prog 7 #[.string ⟨#[83, 109, 76]⟩, v] w (RetBC w (vldR (chN 2) t) 0) := by
 have hv6 := varL_six t
 have hpos : Pos (chN 2) := ch2_Pos
 have hul : (upL (chN 2)).length ≤ 256 := Nat.le_trans (upK_len (chN 2) _) (two8 hpos.1)
 have HTP := hid (fun wz => tpS_sm ⟨#[83, 109, 76]⟩ (varL t).length wz (by omega) (by decide) rfl)
 have HUP := hid (fun pv wz (hz : Ints wz pv (zs (chN 2))) => l16Upsets_any (chN 2) pv wz hz hpos.1 (bnd_mem hpos.2.1))
 have HPW := hid (fun wz => l17Power_any (upL (chN 2)).length (varL t).length wz hul (by omega))
 have HIV := hid (fun pv wz (kz : Keeps w wz) (hz : Ints wz pv (zs (chN 2))) => l17Valid_any (chN 2) hpos.1 hpos.2.1 (bnd_mem hpos.2.1) t hw hpl hcap pv v wz hz (hv.keeps kz))
 have hpw : ¬ (4096 : Int) < ((powL (upL (chN 2)).length (varL t).length : Nat) : Int) := by
  have := powL_eq (k := (varL t).length) (upL_pos (chN 2))
  omega
 have hbl : (chN 2).length ≤ 8 := hpos.1
 have HF := hid (fun wz (k : Keeps w wz) => l02Is_any t.enc v wz (hv.keeps k))
 have HS := hid (fun wz => l30Known_any ⟨#[83, 109, 76]⟩ wz)
 have HPL := hid (fun wz (k : Keeps w wz) => l02Plain_any t.enc v wz (hv.keeps k))
 have HVI := hid (fun w2 (k : Keeps w w2) => l02Variables_any t.enc v w2 (hv.keeps k) (List.all_eq_true.2 (okNd_enc hw)))
 rw [varL_mem] at HVI
 have hvl := zs_length (varL t)
 rw [ha] at HF
 rw [show decide ((0 : Int) ≤ findS names9 ⟨#[83, 109, 76]⟩) = true from by rw [nix_8]; decide] at HS
 rw [plainL_encP, hpl] at HPL
 obtain ⟨p, cap, rfl, _⟩ := hv
 have hbz := zs_length (chN 2)
 have hub := zs_length (upL (chN 2))
 clear ha hpl hw hpos hcap
 generalize vldR (chN 2) t = vl at *
 generalize powL (upL (chN 2)).length (varL t).length = pw at *
 generalize upL (chN 2) = U at *
 generalize (chN 2) = B at *
 generalize varL t = V at *
 generalize t.enc.length = nn at *
 go_enter Tryz.func7, Tryz.ntmps7
 go_wp2_with fail
 refine (HF.out _ (Keeps.refl w)).mono ?_; rintro e w' ⟨rfl, rfl⟩
 go_wp2_with fail
 refine (HS.out _).mono ?_; rintro e w3 ⟨rfl, k3⟩
 go_wp2_with fail
 refine (HPL.out _ k3).mono ?_; rintro e w' ⟨rfl, rfl⟩
 have KW3 := hid k3
 clear k3
 go_wp2_with fail
 refine (HVI.out _ KW3.out).mono ?_; rintro e w4 ⟨v4, rfl, hv4, k4⟩
 have KW4 := hid (KW3.out.trans k4)
 clear k4
 obtain ⟨p4, c4, rfl, -, -, -⟩ := At.of_own hv4
 clear hv4
 rw [hvl] at *
 go_wp2_with fail
 refine (HTP.out _).mono ?_; rintro e w5 ⟨v5, rfl, hv5, k5⟩
 have h5 := hv5.ints (by rw [hbz]; omega)
 obtain ⟨p5, c5, rfl, -, -, -⟩ := At.of_own hv5
 clear hv5
 rw [hbz] at *
 have KW5 := hid ((KW4.out.alloc (.cells #[] 26)).trans k5)
 have kA := (Keeps.refl w5).alloc (.cells #[.int .i64 B.length, .slice p5 B.length c5] 34)
 obtain ⟨c0, c1⟩ := BoxF.made w5 B.length (.slice p5 B.length c5) 34
 have h5' := h5.keeps kA
 go_wp2_with fail
 refine (HUP.out _ _ h5').mono ?_; rintro e w6 ⟨v6, rfl, hv6', k6⟩
 obtain ⟨p6, c6, rfl, -, -, -⟩ := At.of_own hv6'
 rw [hub] at *
 clear hv6'
 replace c0 := k6.cell c0
 replace c1 := k6.cell c1
 go_wp2_with fail
 refine (HPW.out _).mono ?_; rintro e w' ⟨rfl, rfl⟩
 go_wp2_with fail
 refine (HIV.out _ _ ((KW5.out.trans kA).trans k6) (h5'.keeps k6)).mono ?_; rintro e w7 ⟨rfl, k7⟩
 go_wp2_with fail
 go_ret2
 exact ⟨rfl, ((KW5.out.trans kA).trans k6).trans k7⟩
set_option maxRecDepth 20000 in
set_option maxHeartbeats 1000000 in
theorem thS_w8 (t : Fm) (hw : t.wf) (v : Value) (w : World) (hv : Nds w v t.enc) (ha : isFm t.enc = true) (hpl : t.plain = true) (hcap : ¬ (upL (chN 2)).length ^ (varL t).length ≤ 4096) :
  Calls Tryz.prog 7 #[.string ⟨#[83, 109, 76]⟩, v] w (RetBC w false 3) := by
 have hv6 := varL_six t
 have hpos : Pos (chN 2) := ch2_Pos
 have hul : (upL (chN 2)).length ≤ 256 := Nat.le_trans (upK_len (chN 2) _) (two8 hpos.1)
 have HTP := hid (fun wz => tpS_sm ⟨#[83, 109, 76]⟩ (varL t).length wz (by omega) (by decide) rfl)
 have HUP := hid (fun pv wz (hz : Ints wz pv (zs (chN 2))) => l16Upsets_any (chN 2) pv wz hz hpos.1 (bnd_mem hpos.2.1))
 have HPW := hid (fun wz => l17Power_any (upL (chN 2)).length (varL t).length wz hul (by omega))
 have hpw : (4096 : Int) < ((powL (upL (chN 2)).length (varL t).length : Nat) : Int) := by
  have := powL_eq (k := (varL t).length) (upL_pos (chN 2))
  omega
 have hbl : (chN 2).length ≤ 8 := hpos.1
 have HF := hid (fun wz (k : Keeps w wz) => l02Is_any t.enc v wz (hv.keeps k))
 have HS := hid (fun wz => l30Known_any ⟨#[83, 109, 76]⟩ wz)
 have HPL := hid (fun wz (k : Keeps w wz) => l02Plain_any t.enc v wz (hv.keeps k))
 have HVI := hid (fun w2 (k : Keeps w w2) => l02Variables_any t.enc v w2 (hv.keeps k) (List.all_eq_true.2 (okNd_enc hw)))
 rw [varL_mem] at HVI
 have hvl := zs_length (varL t)
 rw [ha] at HF
 rw [show decide ((0 : Int) ≤ findS names9 ⟨#[83, 109, 76]⟩) = true from by rw [nix_8]; decide] at HS
 rw [plainL_encP, hpl] at HPL
 obtain ⟨p, cap, rfl, _⟩ := hv
 have hbz := zs_length (chN 2)
 have hub := zs_length (upL (chN 2))
 clear ha hpl hw hpos hcap
 generalize powL (upL (chN 2)).length (varL t).length = pw at *
 generalize upL (chN 2) = U at *
 generalize (chN 2) = B at *
 generalize varL t = V at *
 generalize t.enc.length = nn at *
 go_enter Tryz.func7, Tryz.ntmps7
 go_wp2_with fail
 refine (HF.out _ (Keeps.refl w)).mono ?_; rintro e w' ⟨rfl, rfl⟩
 go_wp2_with fail
 refine (HS.out _).mono ?_; rintro e w3 ⟨rfl, k3⟩
 go_wp2_with fail
 refine (HPL.out _ k3).mono ?_; rintro e w' ⟨rfl, rfl⟩
 have KW3 := hid k3
 clear k3
 go_wp2_with fail
 refine (HVI.out _ KW3.out).mono ?_; rintro e w4 ⟨v4, rfl, hv4, k4⟩
 have KW4 := hid (KW3.out.trans k4)
 clear k4
 obtain ⟨p4, c4, rfl, -, -, -⟩ := At.of_own hv4
 clear hv4
 rw [hvl] at *
 go_wp2_with fail
 refine (HTP.out _).mono ?_; rintro e w5 ⟨v5, rfl, hv5, k5⟩
 have h5 := hv5.ints (by rw [hbz]; omega)
 obtain ⟨p5, c5, rfl, -, -, -⟩ := At.of_own hv5
 clear hv5
 rw [hbz] at *
 have KW5 := hid ((KW4.out.alloc (.cells #[] 26)).trans k5)
 have kA := (Keeps.refl w5).alloc (.cells #[.int .i64 B.length, .slice p5 B.length c5] 34)
 obtain ⟨c0, c1⟩ := BoxF.made w5 B.length (.slice p5 B.length c5) 34
 have h5' := h5.keeps kA
 go_wp2_with fail
 refine (HUP.out _ _ h5').mono ?_; rintro e w6 ⟨v6, rfl, hv6', k6⟩
 obtain ⟨p6, c6, rfl, -, -, -⟩ := At.of_own hv6'
 rw [hub] at *
 clear hv6'
 replace c0 := k6.cell c0
 replace c1 := k6.cell c1
 go_wp2_with fail
 refine (HPW.out _).mono ?_; rintro e w' ⟨rfl, rfl⟩
 go_wp2_with fail
 go_ret2
 exact ⟨rfl, (KW5.out.trans kA).trans k6⟩
end Go.Proofs.YtikooimokfbffaaGreatDoor
