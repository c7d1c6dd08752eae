import Derived.Test.YtfmmajgkjkmghaaGreatDoorHQR
import Derived.Test.YtfmmajgkjkmghaaGreatDoorHQE0
import Derived.Test.YtfmmajgkjkmghaaGreatDoorHQ2
/- Widths and maximal elements of an order: both sides. -/
namespace Go.Proofs.YtfmmajgkjkmghaaGreatDoor
open Go.RowKit
theorem okW_sub {b : List Nat} {x s : Nat} (hx : x < b.length) (hs : inB s (b.getD x 0) = true) (ha : antiC b s = true) : okW b s = true := by
 unfold okW
 rw [ha, Bool.true_and, List.any_eq_true]
 exact ⟨x, by simpa using hx, hs⟩
theorem okW_anti {b : List Nat} {s : Nat} (h : okW b s = true) : antiC b s = true ∧ ∃ x, x < b.length ∧ inB s (b.getD x 0) = true := by
 unfold okW at h
 rw [Bool.and_eq_true, List.any_eq_true] at h
 obtain ⟨h1, x, hx, h2⟩ := h
 exact ⟨h1, x, by simpa using hx, h2⟩
set_option maxRecDepth 20000 in
set_option maxHeartbeats 2000000 in
theorem width_any (b : List Nat) (n : Int) (v : Value) (w : World) (hv : Ints w v (zs b)) (hb : b.length ≤ 8) (hbm : Bnd b.length b) :
  Calls Tryz.prog 50 #[.agg #[.int .i64 n, v]] w fun e w' => e = .returned (.int .i64 (widB b)) ∧ Keeps w w' := by
 have h256 := two8 hb
 have kA := (Keeps.refl w).alloc (.cells #[.int .i64 n, v] 26)
 obtain ⟨c0, c1⟩ := BoxF.made w n v 26
 have HSM := hid (fun m wz (hm : m < 256) => subMasksB_any m hm wz)
 have HAC := hid (fun s wz (k : Keeps w wz) (hs : s < 2 ^ b.length) => isAntichain_any b n s v wz (hv.keeps k) hb hbm hs)
 have HCM := hid (fun s wz (hs : s < 256) => countMembers_any s wz hs)
 have HBN : Hid (∀ i, b.getD i 0 < 2 ^ b.length) := hid hbm
 have HFIN := hid (fun v (h : WidAt b v) (ha : ∀ s, s < 256 → okW b s = true → cntB s ≤ v) => WidAt.eq h ha)
 have hv0 := hv
 obtain ⟨p, cap, rfl, hle, hmx, _, _⟩ := hv
 unfold maxLen at hmx
 rw [zs_length] at *
 have HRD := hid (fun x (hx : x < b.length) wz (k : Keeps w wz) => (hv0.keeps k).zs_cell x hx)
 clear hbm hv0
 go_enter Tryz.func50, Tryz.ntmps50
 go_wp2
 go_loopw [3, 11] (fun o i' wr => ∃ (x : Nat) (m : Nat), x ≤ b.length ∧ i' = .int .i64 x ∧ o = .int .i64 m ∧ m ≤ 8 ∧ WidAt b m ∧ (∀ y, y < x → ∀ s, inB s (b.getD y 0) = true → antiC b s = true → cntB s ≤ m) ∧ Keeps (w.alloc (.cells #[.int .i64 n, .slice p b.length cap] 26)) wr) (fun _ i' _ => b.length - (intOf i').toNat)
 case atStart => exact ⟨0, 0, by omega, rfl, rfl, by omega, .inl rfl, fun y h => by omega, Keeps.refl _⟩
 case round =>
  obtain ⟨x, m, hx, rfl, rfl, hm8, hwid, hall, kw⟩ := hrel
  have HW := hid hwid; clear hwid
  have HA := hid hall; clear hall
  have z0 := kw.cell c0
  have z1 := kw.cell c1
  by_cases hlt : x < b.length
  ·have hlt' : (x : Int) < b.length := by omega
   obtain ⟨b1, o1, rfl, h1⟩ := HRD.out x hlt wr (kA.trans kw)
   have hbx := HBN.out x
   have HS := hid (HSM.out (b.getD x 0) wr (by omega))
   have hml := subB_len (b.getD x 0) (b.getD x 0 + 1)
   have HMEM := hid (fun s (h : s ∈ subB (b.getD x 0) (b.getD x 0 + 1)) => (subB_mem.1 h).2)
   have HCV := hid (fun s (h : inB s (b.getD x 0) = true) => subB_mem.2 ⟨Nat.lt_succ_of_le (inB_le h), h⟩)
   have HOK := hid (fun s (h : inB s (b.getD x 0) = true) (ha : antiC b s = true) => okW_sub hlt h ha)
   have HLE := hid (fun s (h : inB s (b.getD x 0) = true) => Nat.lt_of_le_of_lt (inB_le h) hbx)
   generalize subB (b.getD x 0) (b.getD x 0 + 1) = l at *
   generalize hbxe : b.getD x 0 = bx at *
   have HBXE := hid hbxe; clear hbxe
   go_wp2_with fail
   refine HS.out.mono ?_; rintro e w2 ⟨v2, rfl, hv2, k2⟩
   have hv2i := hv2.ints (by rw [zs_length]; omega)
   obtain ⟨p2, c2, rfl, _, hm2, _, _⟩ := hv2.ints (by rw [zs_length]; omega)
   unfold maxLen at hm2
   rw [zs_length] at *
   have HV2 := hid hv2i
   clear hv2 hv2i
   go_wp2
   go_loopw [3, 18] (fun o j' wr' => ∃ (j : Nat) (m' : Nat), j ≤ l.length ∧ j' = .int .i64 j ∧ o = .int .i64 m' ∧ m' ≤ 8 ∧ m ≤ m' ∧ WidAt b m' ∧ (∀ t (h : t < l.length), t < j → antiC b l[t] = true → cntB l[t] ≤ m') ∧ Keeps w2 wr') (fun _ j' _ => l.length - (intOf j').toNat)
   case atStart => exact ⟨0, m, by omega, rfl, rfl, hm8, Nat.le_refl _, HW.out, fun t _ h => by omega, Keeps.refl _⟩
   case round =>
    obtain ⟨j, m', hj, rfl, rfl, hm8', hmm, hwid', hall', kv⟩ := hrel
    have HW' := hid hwid'; clear hwid'
    have HA' := hid hall'; clear hall'
    have k3 := k2.trans kv
    have y0 := k3.cell z0
    have y1 := k3.cell z1
    by_cases hjt : j < l.length
    ·have hjt' : (j : Int) < l.length := by omega
     obtain ⟨b2, o2, rfl, h2⟩ := (HV2.out.keeps kv).zs_cell j hjt
     rw [getD_get hjt] at h2
     have hin := HMEM.out l[j] (List.getElem_mem hjt)
     have hls := HLE.out l[j] hin
     have HACs := hid (HAC.out l[j] wr (kA.trans (kw.trans k3)) hls)
     have HCMs := hid (fun wz => HCM.out l[j] wz (by omega))
     have hc8 := cntB_le l[j]
     cases ha : antiC b l[j]
     ·rw [ha] at HACs
      have HN : Hid (∀ t (h : t < l.length), t < j + 1 → antiC b l[t] = true → cntB l[t] ≤ m') := hid (fun t h ht hat => by
       by_cases e : t = j
       ·subst e; rw [ha] at hat; cases hat
       ·exact HA'.out t h (by omega) hat)
      clear ha hin
      generalize l[j] = s at *
      go_wp2_with fail
      refine HACs.out.mono ?_; rintro e w4 ⟨rfl, k4⟩
      go_wp2_with fail
      go_roundw
      case rel => exact ⟨j + 1, m', by omega, by go_num, rfl, hm8', hmm, HW'.out, HN.out, kv.trans k4⟩
      case measure => simp [intOf]; omega
     ·rw [ha] at HACs
      have HN : Hid (∀ t (h : t < l.length), t < j + 1 → antiC b l[t] = true → cntB l[t] ≤ max m' (cntB l[j])) := hid (fun t h ht hat => by
       by_cases e : t = j
       ·subst e; omega
       ·have := HA'.out t h (by omega) hat; omega)
      have HW2 := hid (WidAt.max HW'.out (show l[j] < 256 by omega) (HOK.out _ hin ha))
      clear ha hin
      generalize l[j] = s at *
      generalize cntB s = cs at *
      go_wp2_with fail
      refine HACs.out.mono ?_; rintro e w4 ⟨rfl, k4⟩
      go_wp2_with fail
      refine (HCMs.out _).mono ?_; rintro e w5 ⟨rfl, rfl⟩
      go_wp2_with fail
      go_roundw
      case rel => exact ⟨j + 1, max m' cs, by omega, by go_num, by first | rfl | (congr 1; split <;> omega), by omega, by omega, HW2.out, HN.out, kv.trans k4⟩
      case measure => simp [intOf]; omega
    ·have hjt' : ¬ (j : Int) < l.length := by omega
     go_wp2_with fail
     go_roundw
     case rel =>
      refine ⟨x + 1, m', by omega, by go_num, rfl, hm8', HW'.out, fun y hy s hs ha => ?_, kw.trans k3⟩
      by_cases e : y = x
      ·subst e
       rw [HBXE.out] at hs
       obtain ⟨t, ht, rfl⟩ := List.getElem_of_mem (HCV.out s hs)
       exact HA'.out t ht (by omega) ha
      ·exact Nat.le_trans (HA.out y (by omega) s hs ha) hmm
     case measure => simp [intOf]; omega
  ·obtain rfl : x = b.length := by omega
   have hlt' : ¬ (b.length : Int) < b.length := by omega
   have he := HFIN.out m HW.out (fun s hs ho => by
    obtain ⟨ha, y, hy, hi⟩ := okW_anti ho
    exact HA.out y hy s hi ha)
   have HE := hid he; clear he
   go_wp2_with fail
   go_ret
   exact ⟨ret_int (by rw [HE.out]), kA.trans kw⟩
set_option maxRecDepth 20000 in
set_option maxHeartbeats 1000000 in
theorem maximal_any (b : List Nat) (n : Int) (v : Value) (w : World) (hv : Ints w v (zs b)) (hb : b.length ≤ 8) :
  Calls Tryz.prog 51 #[.agg #[.int .i64 n, v]] w fun e w' => e = .returned (.int .i64 (mxB b)) ∧ Keeps w w' := by
 have kA := (Keeps.refl w).alloc (.cells #[.int .i64 n, v] 26)
 obtain ⟨c0, c1⟩ := BoxF.made w n v 26
 have hv0 := hv.keeps kA
 obtain ⟨p, cap, rfl, hle, hmx, _, _⟩ := hv
 unfold maxLen at hmx
 rw [zs_length] at *
 have HL := hid (mxT_lt b)
 have HD : Hid (mxB b = mxT b b.length) := hid rfl
 go_enter Tryz.func51, Tryz.ntmps51
 go_wp2
 go_loop [3, 9] (fun o i' => ∃ i : Nat, i ≤ b.length ∧ i' = .int .i64 i ∧ o = .int .i64 (mxT b i)) (fun _ i => b.length - (intOf i).toNat)
 case atStart => exact ⟨0, by omega, rfl, rfl⟩
 case round =>
  obtain ⟨i, hi, rfl, rfl⟩ := hrel
  by_cases hlt : i < b.length
  ·obtain ⟨b1, o1, rfl, h1⟩ := hv0.zs_cell i hlt
   have hlt' : (i : Int) < b.length := by omega
   have hs : mxT b (i + 1) = if b.getD i 0 == 2 ^ i then mxT b i ||| 2 ^ i else mxT b i := rfl
   have hb1 := HL.out i
   have hb2 : 2 ^ i < 2 ^ 8 := Nat.pow_lt_pow_right (by omega) (by omega)
   have hb3 : 2 ^ i ≤ 2 ^ 8 := by omega
   have e1 := (pow63 i (by omega)).1
   have e2 : ((2 ^ i : Nat) : Int) = 2 ^ i := by push_cast; rfl
   have HS := hid hs; clear hs
   by_cases hc : b.getD i 0 = 2 ^ i
   ·have hor := orN (mxT b i) (b.getD i 0) (by omega) (by omega)
    have hd : (((b.getD i 0 : Nat) : Int) == 2 ^ i) = true := by rw [← e2, hc]; simp
    have HN : Hid (mxT b (i + 1) = mxT b i ||| b.getD i 0) := hid (by rw [HS.out, if_pos (by simpa using hc), hc])
    have HO := hid hor
    clear hor hc e2 hb1 hb2
    generalize b.getD i 0 = g at *
    generalize mxT b i = z at *
    go_wp2
    go_round
    case rel => exact ⟨i + 1, by omega, by go_num, by rw [HN.out, ← HO.out]⟩
    case measure => simp [intOf]; omega
   ·have hd : (((b.getD i 0 : Nat) : Int) == 2 ^ i) = false := by
     rw [← e2, beq_eq_false_iff_ne]
     intro e; exact hc (Int.ofNat.inj e)
    have HN : Hid (mxT b (i + 1) = mxT b i) := hid (by rw [HS.out, if_neg (by simpa using hc)])
    clear hc e2 hb1 hb2
    generalize b.getD i 0 = g at *
    generalize mxT b i = z at *
    go_wp2
    go_round
    case rel => exact ⟨i + 1, by omega, by go_num, by rw [HN.out]⟩
    case measure => simp [intOf]; omega
  ·obtain rfl : i = b.length := by omega
   have hlt' : ¬ (b.length : Int) < b.length := by omega
   go_wp2
   go_ret
   exact ⟨ret_int (by rw [HD.out]), kA⟩
set_option maxRecDepth 20000 in
set_option maxHeartbeats 1000000 in
theorem l16Maximal_any (b : List Nat) (v : Value) (w : World) (hv : Ints w v (zs b)) (hb : b.length ≤ 8) :
  Calls Tryz.prog 61 #[.agg #[.int .i64 b.length, v]] w fun e w' => e = .returned (.int .i64 (mxB b)) ∧ Keeps w w' := by
 have kA := (Keeps.refl w).alloc (.cells #[.int .i64 b.length, v] 26)
 obtain ⟨c0, c1⟩ := BoxF.made w b.length v 26
 have hv0 := hv.keeps kA
 obtain ⟨p, cap, rfl, hle, hmx, _, _⟩ := hv
 unfold maxLen at hmx
 rw [zs_length] at *
 have HL := hid (mxT_lt b)
 have HD : Hid (mxB b = mxT b b.length) := hid rfl
 have HONE := hid (fun (x : Nat) wz (h : x ≤ 62) => l01One_any (x : Int) wz (by omega) (by omega))
 simp only [Int.toNat_natCast] at HONE
 generalize hn : b.length = n at *
 have Hn := hid hn; clear hn
 go_enter Tryz.func61, Tryz.ntmps61
 go_wp2
 go_loopw [3, 4] (fun o i' wr => ∃ i : Nat, i ≤ n ∧ i' = .int .i64 i ∧ o = .int .i64 (mxT b i) ∧ Keeps (w.alloc (.cells #[.int .i64 n, .slice p n cap] 26)) wr) (fun _ i _ => n - (intOf i).toNat)
 case atStart => exact ⟨0, by omega, rfl, rfl, Keeps.refl _⟩
 case round =>
  obtain ⟨i, hi, rfl, rfl, kw⟩ := hrel
  have z0 := kw.cell c0
  have z1 := kw.cell c1
  by_cases hlt : i < n
  ·obtain ⟨b1, o1, rfl, h1⟩ := (hv0.keeps kw).zs_cell i (by rw [Hn.out]; exact hlt)
   have hlt' : (i : Int) < n := by omega
   have hs : mxT b (i + 1) = if b.getD i 0 == 2 ^ i then mxT b i ||| 2 ^ i else mxT b i := rfl
   have hb1 := HL.out i
   have hb2 : 2 ^ i < 2 ^ 8 := Nat.pow_lt_pow_right (by omega) (by omega)
   have e2 : ((2 ^ i : Nat) : Int) = 2 ^ i := by push_cast; rfl
   have HX := hid (fun wz => HONE.out i wz (by omega))
   have HS := hid hs; clear hs
   by_cases hc : b.getD i 0 = 2 ^ i
   ·have hor := orN (mxT b i) (2 ^ i) (by omega) (by omega)
    rw [e2] at hor
    have hd : (((b.getD i 0 : Nat) : Int) == 2 ^ i) = true := by rw [← e2, hc]; simp
    have HN : Hid (mxT b (i + 1) = mxT b i ||| 2 ^ i) := hid (by rw [HS.out, if_pos (by simpa using hc)])
    have HO := hid hor
    clear hor hc e2 hb1 hb2
    generalize b.getD i 0 = g at *
    generalize mxT b i = z at *
    generalize (2 : Int) ^ i = P at *
    go_wp2_with fail
    go_quiet (first | (go_at_call 91; refine quietS (HX.out _)))
    go_wp2_with fail
    refine (HX.out _).mono ?_; rintro e w' ⟨rfl, rfl⟩
    go_wp2_with fail
    go_roundw
    case rel => exact ⟨i + 1, by omega, by go_num, by rw [HN.out, ← HO.out], kw.drewN _⟩
    case measure => simp [intOf]; omega
   ·have hd : (((b.getD i 0 : Nat) : Int) == 2 ^ i) = false := by
     rw [← e2, beq_eq_false_iff_ne]
     intro e; exact hc (Int.ofNat.inj e)
    have HN : Hid (mxT b (i + 1) = mxT b i) := hid (by rw [HS.out, if_neg (by simpa using hc)])
    clear hc e2 hb1 hb2
    generalize b.getD i 0 = g at *
    generalize mxT b i = z at *
    generalize (2 : Int) ^ i = P at *
    go_wp2_with fail
    go_quiet (first | (go_at_call 91; refine quietS (HX.out _)))
    go_wp2_with fail
    go_roundw
    case rel => exact ⟨i + 1, by omega, by go_num, by rw [HN.out], kw.drewN _⟩
    case measure => simp [intOf]; omega
  ·obtain rfl : i = n := by omega
   have hlt' : ¬ (i : Int) < i := by omega
   go_wp2
   go_ret
   exact ⟨ret_int (by rw [HD.out]), kA.trans kw⟩
end Go.Proofs.YtfmmajgkjkmghaaGreatDoor
namespace Go.Proofs.YtfmmajgkjkmghaaGreatDoor
open Go.RowKit
set_option maxRecDepth 20000 in
set_option maxHeartbeats 1000000 in
theorem reflexive_id (b : List Nat) (v : Value) (w : World) (hv : Ints w v (zs b)) (hb : b.length ≤ 8) (hbm : Bnd b.length b) (hr : reflB b = true) :
  Calls Tryz.prog 188 #[v] w (RetI w (zs b)) := by
 have HC := hid (cloneI_any (zs b) v w hv)
 have HR := hid (fun x (h : x < b.length) => refl_of hr h)
 have h256 := two8 hb
 obtain ⟨p, cap, rfl, _⟩ := hv
 clear hr
 go_enter Tryz.func188, Tryz.ntmps188
 go_wp2_with fail
 refine HC.out.mono ?_; rintro e w1 ⟨v1, rfl, hown, k1⟩
 rcases Nat.eq_zero_or_pos b.length with hz | hpos
 ·obtain rfl : b = [] := List.length_eq_zero_iff.1 hz
  obtain ⟨p1, c1, rfl, _, hmx, _, _⟩ := hown.ints (by simp [zs])
  unfold maxLen at hmx
  simp only [zs, List.map_nil, List.length_nil] at *
  go_wp2
  go_loop [9] (fun j' => j' = .int .i64 0) (fun _ => 0)
  case atStart => rfl
  case round =>
   subst hrel
   go_wp2
   go_ret
   exact ⟨_, rfl, hown, k1⟩
 ·obtain ⟨g, c1, rfl, hg, _, _, hmx⟩ := hown.shape (by rw [zs_length]; omega)
  unfold maxLen at hmx
  rw [zs_length] at *
  have HN : Hid (∀ i, b.getD i 0 < 2 ^ b.length) := hid hbm
  clear hbm
  generalize hn : b.length = n at *
  have Hn := hid hn
  clear hn
  go_wp2
  go_loopw [9] (fun j' wr => ∃ j : Nat, j ≤ n ∧ j' = .int .i64 j ∧ OwnI wr w.heap.size (.slice (some ⟨g, 0, none⟩) n c1) (zs b) ∧ Keeps w wr) (fun j' _ => n - (intOf j').toNat)
  case atStart => exact ⟨0, by omega, rfl, hown, k1⟩
  case round =>
   obtain ⟨j, hj, rfl, hownj, kw⟩ := hrel
   clear hown k1
   by_cases hlt : j < n
   ·have hlt' : (j : Int) < n := by omega
    obtain ⟨ci, fi⟩ := hownj.cell j (by rw [zs_length, Hn.out]; omega)
    rw [zs_get, ← getD_get] at ci
    have bj := HN.out j
    have hst := OwnI.store (hownj.keeps (Keeps.refl wr).drew) j (by rw [zs_length, Hn.out]; omega) ((b.getD j 0 : Nat) : Int)
    rw [← zs_set, set_getD_self (by rw [Hn.out]; omega) rfl] at hst
    have hor := orN (b.getD j 0) (2 ^ j) (by omega) (by have : 2 ^ j < 2 ^ 8 := Nat.pow_lt_pow_right (by omega) (by omega); omega)
    rw [or_pow_self (HR.out j hlt)] at hor
    have e1 := (pow63 j (by omega)).1
    have e2 : ((2 ^ j : Nat) : Int) = 2 ^ j := by push_cast; rfl
    rw [e2] at hor
    have HST := hid hst; clear hst
    have KW := hid kw; clear kw
    clear hownj e2
    generalize b.getD j 0 = x at *
    go_wp2_with fail
    go_region
    go_wp2
    go_roundw
    case rel => exact ⟨j + 1, by omega, by go_num, by first | exact HST.out.1 | (rw [hor]; exact HST.out.1), by first | exact (Keeps.drew KW.out).grown HST.out.2 (fun k hk => by cases hk; exact hg) | (rw [hor]; exact (Keeps.drew KW.out).grown HST.out.2 (fun k hk => by cases hk; exact hg))⟩
    case measure => simp [intOf]; omega
   ·obtain rfl : j = n := by omega
    have hlt' : ¬ (j : Int) < j := by omega
    go_wp2_with fail
    go_ret
    exact ⟨_, rfl, hownj, kw⟩
set_option maxRecDepth 20000 in
theorem reachable_id (b : List Nat) (n : Int) (v : Value) (w : World) (hv : Ints w v (zs b)) (hb : b.length ≤ 8) (hbm : Bnd b.length b) (hr : reflB b = true) (ht : transB b = true) :
  Calls Tryz.prog 177 #[.agg #[.int .i64 n, v]] w (RetI w (zs b)) := by
 have kA := (Keeps.refl w).alloc (.cells #[.int .i64 n, v] 57)
 have HT := hid (transitive_any b v _ (hv.keeps kA) hb hbm)
 rw [closed_of hbm ht] at HT
 have HR := hid (fun v2 w2 (h : Ints w2 v2 (zs b)) => reflexive_id b v2 w2 h hb hbm hr)
 have hl : (zs b).length ≤ 2147483648 := by rw [zs_length]; omega
 obtain ⟨p, cap, rfl, _⟩ := hv
 clear hbm hr ht
 go_enter Tryz.func177, Tryz.ntmps177
 go_wp2_with fail
 refine HT.out.mono ?_; rintro e w2 ⟨v2, rfl, hv2, k2⟩
 go_wp2_with fail
 refine (HR.out _ _ (hv2.ints hl)).mono ?_; rintro e w3 ⟨v3, rfl, hv3, k3⟩
 have kz := (kA.trans k2).size
 go_wp2_with fail
 go_ret
 exact ⟨_, rfl, hv3.mono kz, kA.trans (k2.trans k3)⟩
def clRow (b : List Nat) (k : Nat) : List Int := zs (clS b k).1 ++ List.replicate (b.length - k) 0
theorem clRow_len {b : List Nat} {k : Nat} (h : k ≤ b.length) : (clRow b k).length = b.length := by
 unfold clRow
 rw [List.length_append, zs_length, clS_len, List.length_replicate]; omega
theorem clRow_set {b : List Nat} {k : Nat} (h : k < b.length) (x : Int) : (clRow b k).set k x = zs (clS b k).1 ++ x :: List.replicate (b.length - (k + 1)) 0 := by
 unfold clRow
 have hl : (zs (clS b k).1).length = k := by rw [zs_length, clS_len]
 rw [List.set_append_right _ _ (by omega), hl, Nat.sub_self]
 obtain ⟨d, hd⟩ : ∃ d, b.length - k = d + 1 := ⟨b.length - k - 1, by omega⟩
 rw [hd, List.replicate_succ, List.set_cons_zero, show b.length - (k + 1) = d by omega]
theorem clRow_next {b : List Nat} {k : Nat} (h : k < b.length) {x : Nat} (hx : (clS b (k + 1)).1 = (clS b k).1 ++ [x]) : (clRow b k).set k (x : Int) = clRow b (k + 1) := by
 rw [clRow_set h]
 unfold clRow
 rw [hx, zs_snoc, List.append_assoc]; rfl
theorem clRow_at {b : List Nat} {k j : Nat} (h : k < b.length) (hj : j < k) (x : Int) (h1 : j < ((clRow b k).set k x).length) : ((clRow b k).set k x)[j] = (((clS b k).1.getD j 0 : Nat) : Int) := by
 have e := clRow_set h x
 have hl : j < (clS b k).1.length := by rw [clS_len]; exact hj
 have : ∀ (r : List Int) (e : r = zs (clS b k).1 ++ x :: List.replicate (b.length - (k + 1)) 0) (h1 : j < r.length), r[j] = (((clS b k).1.getD j 0 : Nat) : Int) := by
  intro r e h1
  subst e
  rw [List.getElem_append_left (by rw [zs_length]; exact hl), zs_get, getD_get hl]
 exact this _ e h1
set_option maxRecDepth 20000 in
set_option maxHeartbeats 4000000 in
theorem clusters_any (b : List Nat) (v : Value) (w : World) (hv : Ints w v (zs b)) (hb : b.length ≤ 8) (hbm : Bnd b.length b) (hr : reflB b = true) (ht : transB b = true) :
  Calls Tryz.prog 178 #[.agg #[.int .i64 b.length, v]] w (RetI w (zs (clB b))) := by
 have kA := (Keeps.refl w).alloc (.cells #[.int .i64 b.length, v] 57)
 have HR := hid (reachable_id b b.length v _ (hv.keeps kA) hb hbm hr ht)
 have h256 := two8 hb
 have HN : Hid (∀ i, b.getD i 0 < 2 ^ b.length) := hid hbm
 obtain ⟨c0, c1⟩ := BoxF.made w b.length v 57
 obtain ⟨p, cap, rfl, _⟩ := hv
 rw [zs_length] at *
 clear hbm hr ht
 go_enter Tryz.func178, Tryz.ntmps178
 go_wp2_with fail
 refine HR.out.mono ?_; rintro e w1 ⟨v1, rfl, hv1, k1⟩
 have z0 := k1.cell c0
 obtain ⟨wm, hmk, hown0, km⟩ := run_makeI w1 b.length (by omega)
 have z1 := km.cell z0
 have h0 : List.replicate b.length (0 : Int) = clRow b 0 := by simp [clRow, clS, zs]
 rw [h0] at hown0
 clear h0
 have HO := hid hown0; clear hown0
 have KM := hid km; clear km
 have HV1 := hid hv1
 obtain ⟨p1, c1', rfl, hle1, hmx1, _, _⟩ := hv1.ints (by rw [zs_length]; omega)
 unfold maxLen at hmx1
 rw [zs_length] at *
 clear hv1
 have hk1 := kA.trans k1
 have HC : Hid (clB b = (clS b b.length).1) := hid rfl
 generalize hn : b.length = n at *
 have Hn := hid hn; clear hn
 go_wp2
 clear hmk
 go_loopw [5, 15] (fun c' x' wr => ∃ k : Nat, k ≤ n ∧ x' = .int .i64 k ∧ c' = .int .i64 ((clS b k).2 : Nat) ∧ OwnI wr w1.heap.size (.slice (some ⟨w1.heap.size, 0, none⟩) n n) (clRow b k) ∧ Keeps w1 wr) (fun _ x' _ => n - (intOf x').toNat)
 case atStart => exact ⟨0, by omega, rfl, rfl, HO.out, KM.out⟩
 case round =>
  obtain ⟨k, hk, rfl, rfl, hown, kw⟩ := hrel
  clear HO KM
  by_cases hlt : k < n
  ·have hlt' : (k : Int) < n := by omega
   have hlen := clRow_len (b := b) (k := k) (by rw [Hn.out]; omega)
   rw [Hn.out] at hlen
   have hst := OwnI.store hown k (by rw [hlen]; exact hlt) (-1)
   obtain ⟨x0, ck, fk⟩ : ∃ x0 : Int, wr.cell? ⟨w1.heap.size, k, none⟩ = some (.int .i64 x0) ∧ wr.frozen? ⟨w1.heap.size, k, none⟩ = false := by
    obtain ⟨c1, c2⟩ := hown.cell k (by rw [hlen]; exact hlt)
    exact ⟨_, c1, c2⟩
   have HST := hid hst.1
   have KW := hid (kw.grown hst.2 (fun i e => by cases e; omega))
   have HLEN := hid hlen
   clear hst hown
   have hcl := clS_le b k
   generalize hq : (clS b k).2 = q at *
   have Hq := hid hq; clear hq
   go_wp2_with fail
   go_loopw [22] (fun y' wr' => ∃ j : Nat, j ≤ k ∧ y' = .int .i64 j ∧ fstE b k j = none ∧ OwnI wr' w1.heap.size (.slice (some ⟨w1.heap.size, 0, none⟩) n n) ((clRow b k).set k (-1)) ∧ Keeps w1 wr') (fun y' _ => k - (intOf y').toNat)
   case atStart => exact ⟨0, by omega, rfl, rfl, HST.out, KW.out⟩
   case round =>
    obtain ⟨j, hj, rfl, hf, hown, kw'⟩ := hrel
    clear HST KW ck fk kw
    have HF := hid hf; clear hf
    have hlR : ((clRow b k).set k (-1)).length = n := by rw [List.length_set]; exact HLEN.out
    have hset : ∀ x : Int, ((clRow b k).set k (-1)).set k x = (clRow b k).set k x := fun x => by simp
    have hkb : k < b.length := by rw [Hn.out]; exact hlt
    have HSET := hid hset; clear hset
    have hRk : ((clRow b k).set k (-1))[k]'(by rw [hlR]; exact hlt) = -1 := by simp
    obtain ⟨ck, fk⟩ := hown.cell k (by rw [hlR]; exact hlt)
    rw [hRk] at ck
    clear hRk
    by_cases hjt : j < k
    ·have hjt' : (j : Int) < k := by omega
     obtain ⟨b1, o1, rfl, r1⟩ := ((HV1.out.keeps kw').ints (by rw [zs_length, Hn.out]; omega)).zs_cell k hkb
     obtain ⟨_, _, e1, r2⟩ := ((HV1.out.keeps kw').ints (by rw [zs_length, Hn.out]; omega)).zs_cell j (by omega)
     cases e1
     have m1 := HN.out k
     have m2 := HN.out j
     have HH1 := hid (hasB_any (b.getD k 0) j wr (by omega) (by omega))
     have HH2 := hid (hasB_any (b.getD j 0) k wr (by omega) (by omega))
     have hev : eqvB b k j = ((b.getD k 0).testBit j && (b.getD j 0).testBit k) := rfl
     have hfs : fstE b k (j + 1) = if eqvB b k j then some j else none := by
      show (match fstE b k j with | some y => some y | none => if eqvB b k j then some j else none) = _
      rw [HF.out]
     have HFS := hid hfs; clear hfs
     have HEV := hid hev; clear hev
     cases e1 : (b.getD k 0).testBit j
     ·rw [e1] at HH1 HEV
      have hn1 : fstE b k (j + 1) = none := by rw [HFS.out, HEV.out]; rfl
      have HN1 := hid hn1
      clear e1 HFS HEV hn1 HH2 m1 m2
      generalize b.getD k 0 = bk at *
      generalize b.getD j 0 = bj at *
      have HO := hid hown; clear hown
      go_wp2_with fail
      refine HH1.out.mono ?_; rintro e w' ⟨rfl, rfl⟩
      go_wp2_with fail
      go_roundw
      case rel => exact ⟨j + 1, by omega, by go_num, HN1.out, HO.out, kw'⟩
      case measure => simp [intOf]; omega
     ·rw [e1] at HH1 HEV
      cases e2 : (b.getD j 0).testBit k
      ·rw [e2] at HH2 HEV
       have hn1 : fstE b k (j + 1) = none := by rw [HFS.out, HEV.out]; rfl
       have HN1 := hid hn1
       clear e1 e2 HFS HEV hn1 m1 m2
       generalize b.getD k 0 = bk at *
       generalize b.getD j 0 = bj at *
       have HO := hid hown; clear hown
       go_wp2_with fail
       refine HH1.out.mono ?_; rintro e w' ⟨rfl, rfl⟩
       go_wp2_with fail
       refine HH2.out.mono ?_; rintro e w' ⟨rfl, rfl⟩
       go_wp2_with fail
       go_roundw
       case rel => exact ⟨j + 1, by omega, by go_num, HN1.out, HO.out, kw'⟩
       case measure => simp [intOf]; omega
      ·rw [e2] at HH2 HEV
       have hn1 : fstE b k (j + 1) = some j := by rw [HFS.out, HEV.out]; rfl
       have hn2 := fstE_stay (k - (j + 1)) hn1
       rw [show j + 1 + (k - (j + 1)) = k by omega] at hn2
       have hcs := clS_some hn2
       have hlj := clS_lt b k j hjt
       have hRj := clRow_at hkb hjt (-1) (by rw [hlR]; omega)
       obtain ⟨cj, fj⟩ := hown.cell j (by rw [hlR]; omega)
       rw [hRj] at cj
       have hst := OwnI.store hown k (by rw [hlR]; exact hlt) (((clS b k).1.getD j 0 : Nat) : Int)
       rw [HSET.out, clRow_next hkb (x := (clS b k).1.getD j 0) (by rw [hcs])] at hst
       have HST := hid hst.1
       have KW := hid (kw'.grown hst.2 (fun i e => by cases e; omega))
       have hc2 : (clS b (k + 1)).2 = q := by rw [hcs]; exact Hq.out
       have HC2 := hid hc2
       have hc5 : ∀ u, (wr.setCell ⟨w1.heap.size, k, none⟩ u).cell? ⟨w1.heap.size, k, none⟩ = some u := fun u => World.cell?_setCell_same (h := ck) ..
       clear e1 e2 HFS HEV hn1 hn2 hcs hlj hRj hst hc2 hown m1 m2 hjt'
       generalize b.getD k 0 = bk at *
       generalize b.getD j 0 = bj at *
       generalize (clS b k).1.getD j 0 = y at *
       have hy0 : ¬ ((y : Int) < 0) := by omega
       go_wp2_with fail
       refine HH1.out.mono ?_; rintro e w' ⟨rfl, rfl⟩
       go_wp2_with fail
       refine HH2.out.mono ?_; rintro e w' ⟨rfl, rfl⟩
       go_wp2_with fail
       go_roundw
       case rel => exact ⟨k + 1, by omega, by go_num, by rw [HC2.out], HST.out, KW.out⟩
       case measure => simp [intOf]; omega
    ·obtain rfl : j = k := by omega
     have hjt' : ¬ (j : Int) < j := by omega
     have hcs := clS_none HF.out
     have hst := OwnI.store hown j (by rw [hlR]; exact hlt) ((q : Nat) : Int)
     rw [HSET.out, clRow_next hkb (x := q) (by rw [hcs, Hq.out])] at hst
     have HST := hid hst.1
     have KW := hid (kw'.grown hst.2 (fun i e => by cases e; omega))
     have hc2 : (clS b (j + 1)).2 = q + 1 := by rw [hcs, Hq.out]
     have HC2 := hid hc2
     have hc5 : ∀ u, (wr.setCell ⟨w1.heap.size, j, none⟩ u).cell? ⟨w1.heap.size, j, none⟩ = some u := fun u => World.cell?_setCell_same (h := ck) ..
     clear hcs hst hc2 hown
     go_wp2_with fail
     go_roundw
     case rel => exact ⟨j + 1, by omega, by go_num, by rw [HC2.out]; push_cast; rfl, HST.out, KW.out⟩
     case measure => simp [intOf]; omega
  ·obtain rfl : k = n := by omega
   have hlt' : ¬ (k : Int) < k := by omega
   go_wp2_with fail
   go_ret
   have he : clRow b k = zs (clB b) := by rw [HC.out]; unfold clRow; rw [Hn.out]; simp
   rw [he] at hown
   exact ⟨_, rfl, hown.mono (by have := hk1.size; omega), hk1.trans kw⟩
end Go.Proofs.YtfmmajgkjkmghaaGreatDoor
