/- RefutingPosetOf: the reference's side. -/
import Derived.Test.YtponaoefpicfpaaGreatDoorGHK
import Derived.Test.YtponaoefpicfpaaGreatDoorGOT
namespace Go.Proofs.YtponaoefpicfpaaGreatDoor
open Go.RowKit
theorem smallK_grow {q : List Nat → Bool} {n : Nat} (h : (smallK n).find? q = none) (g : (allR (n + 1)).find? q = none) : (smallK (n + 1)).find? q = none := by
  rw [smallK, List.find?_append, h, g]; rfl
theorem smallK_more (n : Nat) (hn : n ≤ 4) : ∃ B, smallR = smallK n ++ B := by
  unfold smallR
  have : n = 0 ∨ n = 1 ∨ n = 2 ∨ n = 3 ∨ n = 4 := by omega
  rcases this with rfl | rfl | rfl | rfl | rfl
  · exact ⟨_, rfl⟩
  · exact ⟨allR 2 ++ (allR 3 ++ allR 4), by simp only [smallK, List.append_assoc]⟩
  · exact ⟨allR 3 ++ allR 4, by simp only [smallK, List.append_assoc]⟩
  · exact ⟨allR 4, by simp only [smallK]⟩
  · exact ⟨[], by simp only [List.append_nil]⟩
theorem small_hit {q : List Nat → Bool} {n i : Nat} (hn : n < 4) (h : (smallK n).find? q = none) (hi : i < (allR (n + 1)).length) (hL : ∀ j (h : j < (allR (n + 1)).length), j < i → q (allR (n + 1))[j] = false) (hq : q (allR (n + 1))[i] = true) :
    smallR.find? q = some (allR (n + 1))[i] := by
  obtain ⟨B, hB⟩ := smallK_more (n + 1) (by omega)
  rw [hB, smallK, List.append_assoc]
  exact find_at hi h hL hq
theorem cap_ok {b : List Nat} {n : Nat} (h4 : b.length ≤ 4) (hn : n ≤ 3) : (upL b).length ^ n ≤ 4096 := by
  have h1 : (upL b).length ≤ 16 := Nat.le_trans (upK_len b _) (by
    have : 2 ^ b.length ≤ 2 ^ 4 := Nat.pow_le_pow_right (by omega) h4
    omega)
  have h2 : (upL b).length ^ n ≤ (upL b).length ^ 3 := Nat.pow_le_pow_right (upL_pos b) hn
  have h3 : (upL b).length ^ 3 ≤ 16 ^ 3 := Nat.pow_le_pow_left h1 3
  omega
theorem allR_l4 {n : Nat} {p : List Nat} (hn : n < 4) (h : p ∈ allR (n + 1)) : p.length ≤ 4 := by
  obtain ⟨B, hB⟩ := smallK_more (n + 1) (by omega)
  have : p ∈ smallR := by rw [hB, smallK]; simp [h]
  exact (small_pos this).2.1
--
theorem results_refS (tmps : Array Value) (W : World) (r : Nat) (h4 : tmps.getD 4 undef = .pointer (some ⟨r, 0, none⟩)) {v : Value} {n c : Int} (h5 : tmps.getD 5 undef = .int .i64 c)
    (ha : W.cell? ⟨r, 0, none⟩ = some (.int .i64 n)) (hb : W.cell? ⟨r, 1, none⟩ = some v) (hv : ∃ p m q, v = .slice p m q) :
    (results Tryz.f24 tmps).run Tryz.prog W = .ok (.tuple #[.agg #[.int .i64 n, v], .int .i64 c]) W := by
  have hr : Tryz.f24.results = #[.cell 4 32, .tmp 5] := rfl
  obtain ⟨p, m, q, rfl⟩ := hv
  unfold results
  rw [hr]
  rw [Array.getD_eq_getD_getElem?] at h4 h5
  simp [go_sem, loadVar, h4, h5, ha, hb]
set_option maxRecDepth 20000 in
set_option maxHeartbeats 1000000 in
theorem refS_1 (s : ByteArray) (a : List Nd) (v : Value) (w : World) (hv : Nds w v a) (ha : isFm a = false) : Calls Tryz.prog 24 #[.string s, v] w (RetPC w [] 1) := by
  have HF := hid (fun wz (k : Keeps w wz) => l02Is_any a v wz (hv.keeps k))
  rw [ha] at HF
  have hp := PB.made w
  have HP := hid hp
  have kA := hp.kp
  obtain ⟨p, cap, rfl, _⟩ := hv
  clear ha hp
  go_enter Tryz.func24, Tryz.ntmps24
  go_wp2_with fail
  refine (HF.out _ kA).mono ?_; rintro e w' ⟨rfl, rfl⟩
  have h2 := HP.out
  obtain ⟨-, d0, d1, e0, e1⟩ := id h2
  clear h2
  go_wp2_with fail
  refine bodyPost_ret (results_refS _ _ w.heap.size rfl rfl HP.out.c0 HP.out.c1 ⟨_, _, _, rfl⟩) rfl ?_
  exact ⟨_, rfl, OwnI.nil _ _, HP.out.kp⟩
set_option maxRecDepth 20000 in
set_option maxHeartbeats 1000000 in
theorem refS_2 (s : ByteArray) (a : List Nd) (v : Value) (w : World) (hv : Nds w v a) (ha : isFm a = true) (hs : findS names9 s = -1) : Calls Tryz.prog 24 #[.string s, v] w (RetPC w [] 4) := by
  have HF := hid (fun wz (k : Keeps w wz) => l02Is_any a v wz (hv.keeps k))
  have HS := hid (fun wz => l30Known_any s wz)
  rw [ha] at HF
  rw [hs, show decide ((0 : Int) ≤ -1) = false from rfl] at HS
  have hp := PB.made w
  have HP := hid hp
  have kA := hp.kp
  obtain ⟨p, cap, rfl, _⟩ := hv
  clear ha hp hs
  go_enter Tryz.func24, Tryz.ntmps24
  go_wp2_with fail
  refine (HF.out _ kA).mono ?_; rintro e w' ⟨rfl, rfl⟩
  go_wp2_with fail
  refine (HS.out _).mono ?_; rintro e w2 ⟨rfl, k2⟩
  have h2 := HP.out.keeps k2
  obtain ⟨-, d0, d1, e0, e1⟩ := id h2
  obtain ⟨x0, x1, x2, -⟩ := h2.fill (Nat.le_refl _) (.int .i64 0) (.slice none 0 0)
  have HX := hid (And.intro x0 (And.intro x1 x2))
  clear x0 x1 x2 h2
  go_wp2_with fail
  refine bodyPost_ret (results_refS _ _ w.heap.size rfl rfl HX.out.1 HX.out.2.1 ⟨_, _, _, rfl⟩) rfl ?_
  exact ⟨_, rfl, OwnI.nil _ _, HX.out.2.2⟩
set_option maxRecDepth 20000 in
set_option maxHeartbeats 1000000 in
theorem refS_3 (s : ByteArray) (k : Nat) (a : List Nd) (v : Value) (w : World) (hv : Nds w v a) (ha : isFm a = true) (hs : findS names9 s = (k : Int)) (hpl : plainL a = false) : Calls Tryz.prog 24 #[.string s, v] w (RetPC w [] 5) := by
  have HF := hid (fun wz (k : Keeps w wz) => l02Is_any a v wz (hv.keeps k))
  have HS := hid (fun wz => l30Known_any s wz)
  have HPL := hid (fun wz (k : Keeps w wz) => l02Plain_any a v wz (hv.keeps k))
  rw [ha] at HF
  rw [hs, show decide ((0 : Int) ≤ (k : Int)) = true from by simp] at HS
  rw [hpl] at HPL
  have hp := PB.made w
  have HP := hid hp
  have kA := hp.kp
  obtain ⟨p, cap, rfl, _⟩ := hv
  clear ha hp hs hpl
  go_enter Tryz.func24, Tryz.ntmps24
  go_wp2_with fail
  refine (HF.out _ kA).mono ?_; rintro e w' ⟨rfl, rfl⟩
  go_wp2_with fail
  refine (HS.out _).mono ?_; rintro e w2 ⟨rfl, k2⟩
  have h2 := HP.out.keeps k2
  have kw2 := h2.kp
  go_wp2_with fail
  refine (HPL.out _ kw2).mono ?_; rintro e w' ⟨rfl, rfl⟩
  obtain ⟨-, d0, d1, e0, e1⟩ := id h2
  obtain ⟨x0, x1, x2, -⟩ := h2.fill (Nat.le_refl _) (.int .i64 0) (.slice none 0 0)
  have HX := hid (And.intro x0 (And.intro x1 x2))
  clear x0 x1 x2 h2
  go_wp2_with fail
  refine bodyPost_ret (results_refS _ _ w.heap.size rfl rfl HX.out.1 HX.out.2.1 ⟨_, _, _, rfl⟩) rfl ?_
  exact ⟨_, rfl, OwnI.nil _ _, HX.out.2.2⟩
set_option maxRecDepth 20000 in
set_option maxHeartbeats 4000000 in
theorem refS_4 (s : ByteArray) (k : Nat) (hk : k < 9) (hsn : s = nameK k) (t : Fm) (hw : t.wf) (v : Value) (w : World) (hv : Nds w v t.enc) (ha : isFm t.enc = true) (hs : findS names9 s = (k : Int)) (hpl : t.plain = true) :
    Calls Tryz.prog 24 #[.string s, v] w (if 3 < (varL t).length then RetPC w [] 3 else RetF w (smallR.find? (rfQ k t))) := by
  have HF := hid (fun wz (k : Keeps w wz) => l02Is_any t.enc v wz (hv.keeps k))
  have HS := hid (fun wz => l30Known_any s wz)
  have HPL := hid (fun wz (k : Keeps w wz) => l02Plain_any t.enc v wz (hv.keeps k))
  have HVI := hid (fun w2 (k : Keeps w w2) => l02Variables_any t.enc v w2 (hv.keeps k) (List.all_eq_true.2 (okNd_enc hw)))
  rw [varL_mem] at HVI
  have hvl := zs_length (varL t)
  rw [ha] at HF
  rw [hs, show decide ((0 : Int) ≤ (k : Int)) = true from by simp] at HS
  rw [plainL_encP, hpl] at HPL
  have hp := PB.made w
  have HP := hid hp
  have kA := hp.kp
  have HAL := hid (fun n (hn : n ≤ 4) wz => l16All_any n hn wz)
  have HPO := hid (fun n p (hn : n < 4) (h : p ∈ allR (n + 1)) => And.intro (allC_Pos (by omega) h) (allR_l4 hn h))
  have HL24 := hid (fun n (hn : n ≤ 4) => allR_24 hn)
  have HO := hid (fun p (hp : Pos p) vz wz (hz : Ints wz vz (zs p)) => l30Of_any p hp k hk vz wz hz)
  rw [← hsn] at HO
  clear hsn
  by_cases h3 : 3 < (varL t).length
  · rw [if_pos h3]
    have h3' : (3 : Int) < ((varL t).length : Int) := by omega
    obtain ⟨p, cap, rfl, _⟩ := hv
    clear ha hp hs hw hpl HAL HPO HO
    generalize varL t = V at *
    generalize t.enc.length = nn at *
    go_enter Tryz.func24, Tryz.ntmps24
    go_wp2_with fail
    refine (HF.out _ kA).mono ?_; rintro e w' ⟨rfl, rfl⟩
    go_wp2_with fail
    refine (HS.out _).mono ?_; rintro e w2 ⟨rfl, k2⟩
    have h2 := HP.out.keeps k2
    have kw2 := h2.kp
    go_wp2_with fail
    refine (HPL.out _ kw2).mono ?_; rintro e w' ⟨rfl, rfl⟩
    go_wp2_with fail
    refine (HVI.out _ kw2).mono ?_; rintro e w4 ⟨v4, rfl, hv4, k4⟩
    replace h2 := h2.keeps k4
    have hww : w.heap.size < w4.heap.size := by have := World.block_lt_of_cell? _ _ h2.c0; simpa using this
    obtain ⟨p4, c4, rfl, -, -, -⟩ := At.of_own hv4
    rw [hvl] at *
    clear hv4 k4
    obtain ⟨-, d0, d1, e0, e1⟩ := id h2
    obtain ⟨x0, x1, x2, -⟩ := h2.fill (Nat.le_refl _) (.int .i64 0) (.slice none 0 0)
    have HX := hid (And.intro x0 (And.intro x1 x2))
    clear x0 x1 x2 h2
    go_wp2_with fail
    refine bodyPost_ret (results_refS _ _ w.heap.size rfl rfl HX.out.1 HX.out.2.1 ⟨_, _, _, rfl⟩) rfl ?_
    exact ⟨_, rfl, OwnI.nil _ _, HX.out.2.2⟩
  · rw [if_neg h3]
    have h3' : ¬ (3 : Int) < ((varL t).length : Int) := by omega
    have HIV := hid (fun p (hp : Pos p) (h4 : p.length ≤ 4) vz wz (kz : Keeps w wz) (hz : Ints wz vz (zs p)) => l17Valid_any p hp.1 hp.2.1 (bnd_mem hp.2.1) t hw hpl (cap_ok h4 (by omega)) vz v wz hz (hv.keeps kz))
    have HHIT := hid (fun n i (hn : n < 4) (h : (smallK n).find? (rfQ k t) = none) (hi : i < (allR (n + 1)).length) (hL : ∀ j (h : j < (allR (n + 1)).length), j < i → rfQ k t (allR (n + 1))[j] = false) (hq : rfQ k t (allR (n + 1))[i] = true) => small_hit hn h hi hL hq)
    have HGROW := hid (fun n (h : (smallK n).find? (rfQ k t) = none) (hL : ∀ j (h : j < (allR (n + 1)).length), rfQ k t (allR (n + 1))[j] = false) => smallK_grow h (find_end hL))
    have HEND : Hid ((smallK 4).find? (rfQ k t) = none → smallR.find? (rfQ k t) = none) := hid (fun h => h)
    have HST : Hid ((smallK 0).find? (rfQ k t) = none) := hid rfl
    have HQ : Hid (∀ b, rfQ k t b = (ofK b k && !vldR b t)) := hid fun _ => rfl
    obtain ⟨p, cap, rfl, _⟩ := hv
    clear ha hp hs hw hpl
    generalize smallR.find? (rfQ k t) = R at *
    obtain ⟨SK, hSK⟩ : ∃ SK : Nat → List (List Nat), ∀ n, SK n = smallK n := ⟨_, fun _ => rfl⟩
    obtain ⟨AR, hAR⟩ : ∃ AR : Nat → List (List Nat), ∀ n, AR n = allR n := ⟨_, fun _ => rfl⟩
    obtain ⟨Q, hQ⟩ : ∃ Q : List Nat → Bool, Q = rfQ k t := ⟨_, rfl⟩
    obtain ⟨P1, hP1⟩ : ∃ P : List Nat → Bool, P = fun p => ofK p k := ⟨_, rfl⟩
    obtain ⟨P2, hP2⟩ : ∃ P : List Nat → Bool, P = fun p => vldR p t := ⟨_, rfl⟩
    have f1 : ∀ p, ofK p k = P1 p := fun p => by rw [hP1]
    have f2 : ∀ p, vldR p t = P2 p := fun p => by rw [hP2]
    simp only [f1, f2, ← hQ, ← hSK, ← hAR] at *
    clear hQ hP1 hP2 f1 f2 hSK hAR
    generalize varL t = V at *
    generalize t.enc.length = nn at *
    go_enter Tryz.func24, Tryz.ntmps24
    go_wp2_with fail
    refine (HF.out _ kA).mono ?_; rintro e w' ⟨rfl, rfl⟩
    go_wp2_with fail
    refine (HS.out _).mono ?_; rintro e w2 ⟨rfl, k2⟩
    have h2 := HP.out.keeps k2
    have kw2 := h2.kp
    go_wp2_with fail
    refine (HPL.out _ kw2).mono ?_; rintro e w' ⟨rfl, rfl⟩
    go_wp2_with fail
    refine (HVI.out _ kw2).mono ?_; rintro e w4 ⟨v4, rfl, hv4, k4⟩
    replace h2 := h2.keeps k4
    have hww : w.heap.size < w4.heap.size := by have := World.block_lt_of_cell? _ _ h2.c0; simpa using this
    obtain ⟨p4, c4, rfl, -, -, -⟩ := At.of_own hv4
    rw [hvl] at *
    clear hv4 k4
    have HP5 := hid h2
    clear h2 kw2 k2
    go_wp2_with fail
    go_loopw [6] (fun s6 wr => ∃ n : Nat, n ≤ 4 ∧ s6 = .int .i64 ((n : Int) + 1) ∧ Hid ((SK n).find? Q = none) ∧ Keeps w4 wr) (fun s6 _ => 6 - (intOf s6).toNat)
    case atStart => exact ⟨0, by omega, rfl, HST, Keeps.refl w4⟩
    case round =>
      obtain ⟨n, hn, rfl, HI, kw⟩ := hrel
      by_cases hlt : n < 4
      · have hlt' : (n : Int) + 1 ≤ 4 := by omega
        have HA := hid (HAL.out (n + 1) (by omega) wr)
        have hcast : ((n + 1 : Nat) : Int) = (n : Int) + 1 := by push_cast; rfl
        rw [hcast] at HA
        clear hcast
        have hl24 := HL24.out (n + 1) (by omega)
        obtain ⟨L, hLd⟩ : ∃ L, L = AR (n + 1) := ⟨_, rfl⟩
        rw [← hLd] at HA hl24
        have HPn : Hid (∀ p, p ∈ L → Pos p ∧ p.length ≤ 4) := hid (by subst hLd; exact fun p h => HPO.out n p hlt h)
        have HHn : Hid (∀ i (hi : i < L.length), (∀ j (h : j < L.length), j < i → Q L[j] = false) → Q L[i] = true → R = some L[i]) := hid (by subst hLd; exact fun i hi h1 h2 => HHIT.out n i hlt HI.out hi h1 h2)
        have HGn : Hid ((∀ j (h : j < L.length), Q L[j] = false) → (SK (n + 1)).find? Q = none) := hid (by subst hLd; exact HGROW.out n HI.out)
        clear hLd
        have KW := hid kw; clear kw
        generalize hwo : wr = wo at *
        clear hwo
        go_wp2_with fail
        refine HA.out.mono ?_; rintro e w5 ⟨v5, rfl, hv5, k5⟩
        obtain ⟨p5, q5, rfl, hle5, hmx5⟩ := hv5.shape
        unfold maxLen at hmx5
        have HV5 := hid hv5; clear hv5
        have HK5 := hid (KW.out.trans k5)
        have hwo4 := KW.out.size
        clear k5
        go_wp2_with fail
        go_loopw [8] (fun s8 wx => ∃ i : Nat, i ≤ L.length ∧ s8 = .int .i64 i ∧ Hid (∀ j (h : j < L.length), j < i → Q L[j] = false) ∧ Keeps w5 wx) (fun s8 _ => L.length - (intOf s8).toNat)
        case atStart => exact ⟨0, by omega, rfl, hid (fun j _ h => by omega), Keeps.refl w5⟩
        case round =>
          obtain ⟨i, hi, rfl, HJ, kx⟩ := hrel
          by_cases hil : i < L.length
          · have hil' : (i : Int) < L.length := by omega
            have hg := (HV5.out.keeps kx).get i hil
            obtain ⟨b1, o1, u, rfl, c0, c1, hou⟩ := hg
            have hpx := HPn.out L[i] (List.getElem_mem hil)
            have hin := hou.ints (by rw [zs_length]; have := hpx.1.1; omega)
            have hpb := HP5.out.keeps (HK5.out.trans kx)
            have H1 := hid (HO.out L[i] hpx.1 u wr hin)
            have H2 := hid (fun wz (kz : Keeps wr wz) => HIV.out L[i] hpx.1 hpx.2 u wz (hpb.kp.trans kz) (hin.keeps kz))
            have HQi := hid (HQ.out L[i])
            have HFi := hid (fun (h : Q L[i] = true) => HHn.out i hil HJ.out h)
            have HNX := hid (fun (h : Q L[i] = false) j (hj : j < L.length) (hji : j < i + 1) => show Q L[j] = false by
              by_cases e : j = i
              · subst e; exact h
              · exact HJ.out j hj (by omega))
            have HOU := hid hou; clear hou
            have HPB := hid hpb
            obtain ⟨q1, c1', rfl, _⟩ := hin
            rw [zs_length] at *
            have KX := hid kx; clear kx
            clear hpx hpb
            generalize hx : L[i] = x at *
            clear hx
            generalize P1 x = r1 at *
            generalize P2 x = r2 at *
            generalize hqx : Q x = qx at *
            have HQX := hid hqx; clear hqx
            generalize hlx : x.length = lx at *
            have HLX := hid hlx; clear hlx
            cases r1
            · have hqt : Hid (qx = false) := hid (by rw [HQi.out]; rfl)
              go_wp2_with fail
              refine H1.out.mono ?_; rintro e w6 ⟨rfl, k6⟩
              go_wp2_with fail
              go_roundw
              case rel => exact ⟨i + 1, by omega, by go_num, hid (HNX.out hqt.out), KX.out.trans k6⟩
              case measure => simp [intOf] <;> omega
            · cases r2
              · have hqt : Hid (qx = true) := hid (by rw [HQi.out]; rfl)
                have HRR : Hid (R = some x) := hid (HFi.out hqt.out)
                go_wp2_with fail
                refine H1.out.mono ?_; rintro e w6 ⟨rfl, k6⟩
                replace c0 := k6.cell c0
                replace c1 := k6.cell c1
                go_wp2_with fail
                refine (H2.out _ k6).mono ?_; rintro e w7 ⟨rfl, k7⟩
                replace c0 := k7.cell c0
                replace c1 := k7.cell c1
                have h7 := HPB.out.keeps (k6.trans k7)
                obtain ⟨-, d0, d1, e0, e1⟩ := id h7
                obtain ⟨x0, x1, x2, x3⟩ := h7.fill (Nat.le_refl _) (.int .i64 (lx : Int)) (.slice q1 lx c1')
                have HX := hid (And.intro x0 (And.intro x1 (And.intro x2 x3)))
                have HOW := hid (HOU.out.keeps (k6.trans k7))
                clear x0 x1 x2 x3 h7
                go_wp2_with fail
                refine bodyPost_ret (results_refS _ _ w.heap.size rfl rfl HX.out.1 HX.out.2.1 ⟨_, _, _, rfl⟩) rfl ?_
                rw [HRR.out]
                exact ⟨_, by rw [HLX.out], (HOW.out.touch HX.out.2.2.2 (fun j hj e => by have := (HOW.out.len j hj).1; omega)).mono (by omega), HX.out.2.2.1⟩
              · have hqt : Hid (qx = false) := hid (by rw [HQi.out]; rfl)
                go_wp2_with fail
                refine H1.out.mono ?_; rintro e w6 ⟨rfl, k6⟩
                replace c0 := k6.cell c0
                replace c1 := k6.cell c1
                go_wp2_with fail
                refine (H2.out _ k6).mono ?_; rintro e w7 ⟨rfl, k7⟩
                go_wp2_with fail
                go_roundw
                case rel => exact ⟨i + 1, by omega, by go_num, hid (HNX.out hqt.out), KX.out.trans (k6.trans k7)⟩
                case measure => simp [intOf] <;> omega
          · have e : i = L.length := by omega
            have hil' : ¬ (i : Int) < L.length := by omega
            have HT := hid (HGn.out (fun j hj => HJ.out j hj (by omega)))
            go_wp2_with fail
            go_roundw
            case rel => exact ⟨n + 1, by omega, by go_num, HT, HK5.out.trans kx⟩
            case measure => simp [intOf] <;> omega
      · have e : n = 4 := by omega
        subst e
        have hlt' : ¬ ((4 : Nat) : Int) + 1 ≤ 4 := by omega
        have HRR : Hid (R = none) := hid (HEND.out HI.out)
        have hpb := HP5.out.keeps kw
        obtain ⟨-, d0, d1, e0, e1⟩ := id hpb
        obtain ⟨x0, x1, x2, -⟩ := hpb.fill (Nat.le_refl _) (.int .i64 0) (.slice none 0 0)
        have HX := hid (And.intro x0 (And.intro x1 x2))
        clear x0 x1 x2 hpb
        go_wp2_with fail
        refine bodyPost_ret (results_refS _ _ w.heap.size rfl rfl HX.out.1 HX.out.2.1 ⟨_, _, _, rfl⟩) rfl ?_
        rw [HRR.out]
        exact ⟨_, rfl, OwnI.nil _ _, HX.out.2.2⟩
end Go.Proofs.YtponaoefpicfpaaGreatDoor
