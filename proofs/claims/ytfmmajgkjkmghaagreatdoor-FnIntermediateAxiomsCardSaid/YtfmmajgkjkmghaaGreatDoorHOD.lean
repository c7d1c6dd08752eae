import Derived.Test.YtfmmajgkjkmghaaGreatDoorHOQ
import Derived.Test.YtfmmajgkjkmghaaGreatDoorHQJ
import Derived.Test.YtfmmajgkjkmghaaGreatDoorHAL
import Derived.Deep.RegionHeld3
/- The reference's antichains and widths; what it says of an order and a logic. -/
namespace Go.Proofs.YtfmmajgkjkmghaaGreatDoor
open Go.RowKit
theorem memB_intro {m x : Nat} (h : m.testBit x = true) (h8 : x < 8) : x ∈ memB m := by
 simp [memB, lowB, h, h8]
theorem antiC_true {b : List Nat} {s : Nat} (_hb : b.length ≤ 8) (hs : s < 2 ^ b.length) (h : ∀ j, j < b.length → s.testBit j = true → b.getD j 0 &&& s = 2 ^ j) : antiC b s = true := by
 unfold antiC
 rw [List.all_eq_true]
 intro x hx
 rw [beq_iff_eq]
 exact h x (memB_lt hs hx) (memB_mem hx).2
theorem antiC_false {b : List Nat} {s i : Nat} (hb : b.length ≤ 8) (hi : i < b.length) (ht : s.testBit i = true) (h : b.getD i 0 &&& s ≠ 2 ^ i) : antiC b s = false := by
 unfold antiC
 rw [Bool.eq_false_iff]
 intro h2
 have := List.all_eq_true.1 h2 i (memB_intro ht (by omega))
 rw [beq_iff_eq] at this
 exact h this
set_option maxRecDepth 20000 in
set_option maxHeartbeats 1000000 in
theorem l16Antichain_any (b : List Nat) (s : Nat) (v : Value) (w : World) (hv : Ints w v (zs b)) (hb : b.length ≤ 8) (hbm : Bnd b.length b) (hs : s < 2 ^ b.length) :
  Calls Tryz.prog 122 #[.agg #[.int .i64 b.length, v], .int .i64 s] w fun e w' => e = .returned (.bool (antiC b s)) ∧ Keeps w w' := by
 have h256 := two8 hb
 have kA := (Keeps.refl w).alloc (.cells #[.int .i64 b.length, v] 26)
 obtain ⟨c0, c1⟩ := BoxF.made w b.length v 26
 have hv0 := hv.keeps kA
 obtain ⟨p, cap, rfl, hle, hmx, _, _⟩ := hv
 unfold maxLen at hmx
 rw [zs_length] at *
 have HB : Hid (∀ i, b.getD i 0 < 256) := hid (fun i => Nat.lt_of_lt_of_le (hbm i) h256)
 have HBIT := hid (fun (i : Nat) wz (hi : i ≤ 8) => l01BitB_any s i wz (by omega) hi)
 have HONE := hid (fun (x : Nat) wz (h : x ≤ 62) => l01One_any (x : Int) wz (by omega) (by omega))
 simp only [Int.toNat_natCast] at HONE
 have HT := hid (antiC_true hb hs)
 have HF := hid (fun i => antiC_false (b := b) (s := s) (i := i) hb)
 clear hbm
 generalize hn : b.length = n at *
 have Hn := hid hn; clear hn
 go_enter Tryz.func122, Tryz.ntmps122
 go_wp2
 go_loopw [4, 5] (fun r i' wr => ∃ i : Nat, i ≤ n ∧ i' = .int .i64 i ∧ r = .bool false ∧ (∀ j, j < i → s.testBit j = true → b.getD j 0 &&& s = 2 ^ j) ∧ Keeps (w.alloc (.cells #[.int .i64 n, .slice p n cap] 26)) wr) (fun _ i _ => n - (intOf i).toNat)
 case atStart => exact ⟨0, by omega, rfl, rfl, fun j h => by omega, Keeps.refl _⟩
 case round =>
  obtain ⟨i, hi, rfl, rfl, hall, kw⟩ := hrel
  have HA := hid hall; clear hall
  have z0 := kw.cell c0
  have z1 := kw.cell c1
  by_cases hlt : i < n
  ·obtain ⟨b1, o1, rfl, h1⟩ := (hv0.keeps kw).zs_cell i (by rw [Hn.out]; exact hlt)
   have hlt' : (i : Int) < n := by omega
   have HX := hid (fun wz => HBIT.out i wz (by omega))
   have HO := hid (fun wz => HONE.out i wz (by omega))
   cases ht : s.testBit i
   ·rw [ht] at HX
    have HN : Hid (∀ j, j < i + 1 → s.testBit j = true → b.getD j 0 &&& s = 2 ^ j) := hid (fun j hj h => by
     by_cases e : j = i
     ·subst e; rw [ht] at h; cases h
     ·exact HA.out j (by omega) h)
    clear ht
    generalize b.getD i 0 = g at *
    go_wp2_with fail
    go_quiet (first | (go_at_call 150; refine quietS (HX.out _)))
    go_wp2_with fail
    go_roundw
    case rel => exact ⟨i + 1, by omega, by go_num, rfl, HN.out, kw.drewN _⟩
    case measure => simp [intOf]; omega
   ·rw [ht] at HX
    have hg := HB.out i
    have hand := andN (b.getD i 0) s (by omega) (by omega)
    have e2 : ((2 ^ i : Nat) : Int) = 2 ^ i := by push_cast; rfl
    by_cases hc : b.getD i 0 &&& s = 2 ^ i
    ·have hd : (bits .and .i64 ((b.getD i 0 : Nat) : Int) (s : Int) != 2 ^ i) = false := by rw [hand, ← e2, hc]; simp
     have HN : Hid (∀ j, j < i + 1 → s.testBit j = true → b.getD j 0 &&& s = 2 ^ j) := hid (fun j hj h => by
      by_cases e : j = i
      ·subst e; exact hc
      ·exact HA.out j (by omega) h)
     clear ht hc hand e2 hg
     generalize b.getD i 0 = g at *
     generalize (2 : Int) ^ i = P at *
     go_wp2_with fail
     go_quiet (first | (go_at_call 150; refine quietS (HX.out _)) | (go_at_call 91; refine quietS (HO.out _)))
     go_wp2_with fail
     go_roundw
     case rel => exact ⟨i + 1, by omega, by go_num, rfl, HN.out, kw.drewN _⟩
     case measure => simp [intOf]; omega
    ·have hd : (bits .and .i64 ((b.getD i 0 : Nat) : Int) (s : Int) != 2 ^ i) = true := by
      rw [hand, ← e2, bne_iff_ne]
      intro e; exact hc (Int.ofNat.inj e)
     have HN := hid (HF.out i hlt ht hc)
     clear ht hc hand e2 hg
     generalize b.getD i 0 = g at *
     generalize (2 : Int) ^ i = P at *
     go_wp2_with fail
     go_quiet (first | (go_at_call 150; refine quietS (HX.out _)) | (go_at_call 91; refine quietS (HO.out _)))
     go_wp2_with fail
     go_ret
     exact ⟨ret_bool (by rw [HN.out]), (kA.trans kw).drewN _⟩
  ·obtain rfl : i = n := by omega
   have hlt' : ¬ (i : Int) < i := by omega
   have HN := hid (HT.out HA.out)
   go_wp2_with fail
   go_ret
   exact ⟨ret_bool (by rw [HN.out]), kA.trans kw⟩
theorem okW_any {b : List Nat} {s : Nat} (ha : antiC b s = true) : okW b s = (List.range b.length).any fun x => inB s (b.getD x 0) := by
 unfold okW; rw [ha, Bool.true_and]
theorem okW_none {b : List Nat} {s : Nat} (ha : antiC b s = false) : okW b s = false := by
 unfold okW; rw [ha, Bool.false_and]
theorem anyR_succ (P : Nat → Bool) (k : Nat) : (List.range (k + 1)).any P = ((List.range k).any P || P k) := by
 rw [List.range_succ, List.any_append]; simp
set_option maxRecDepth 20000 in
set_option maxHeartbeats 2000000 in
theorem l16Width_any (b : List Nat) (v : Value) (w : World) (hv : Ints w v (zs b)) (hb : b.length ≤ 8) (hbm : Bnd b.length b) :
  Calls Tryz.prog 59 #[.agg #[.int .i64 b.length, v]] w fun e w' => e = .returned (.int .i64 (widB b)) ∧ Keeps w w' := by
 have h256 := two8 hb
 have kA := (Keeps.refl w).alloc (.cells #[.int .i64 b.length, v] 26)
 obtain ⟨c0, c1⟩ := BoxF.made w b.length v 26
 have HAC := hid (fun s wz (k : Keeps w wz) (hs : s < 2 ^ b.length) => l16Antichain_any b s v wz (hv.keeps k) hb hbm hs)
 have HCM := hid (fun s wz (hs : s < 256) => l01Bits_any s wz hs)
 have HFULL := hid (fun wz => l01Full_any (b.length : Int) wz (by omega) (by omega))
 simp only [Int.toNat_natCast] at HFULL
 have HBN : Hid (∀ i, b.getD i 0 < 2 ^ b.length) := hid hbm
 have HFIN := hid (fun v (h : WidAt b v) (ha : ∀ s, s < 2 ^ b.length → okW b s = true → cntB s ≤ v) => WidAt.eq h (fun s _ ho => ha s (okW_lt hbm ho) ho))
 have hv0 := hv
 obtain ⟨p, cap, rfl, hle, hmx, _, _⟩ := hv
 unfold maxLen at hmx
 rw [zs_length] at *
 have HRD := hid (fun x (hx : x < b.length) wz (k : Keeps w wz) => (hv0.keeps k).zs_cell x hx)
 clear hv0
 clear hbm
 have H00 : Hid (∀ s, s < 1 → cntB s ≤ 0) := hid (fun s hs => by
  obtain rfl : s = 0 := by omega
  decide)
 have h2pos : 0 < 2 ^ b.length := Nat.two_pow_pos _
 have e2 : ((2 : Int) ^ b.length - 1) = ((2 ^ b.length : Nat) : Int) - 1 := by push_cast; rfl
 rw [e2] at HFULL
 clear e2
 generalize hN : 2 ^ b.length = N at *
 have HNN := hid hN; clear hN
 generalize hn : b.length = n at *
 have Hn := hid hn; clear hn
 go_enter Tryz.func59, Tryz.ntmps59
 go_wp2
 go_loopw [3, 4, 5] (fun o m' x' wr => ∃ (m t : Nat), 1 ≤ m ∧ m ≤ N ∧ m' = .int .i64 m ∧ o = .int .i64 t ∧ t ≤ 8 ∧ WidAt b t ∧ (∀ s, s < m → okW b s = true → cntB s ≤ t) ∧ Keeps (w.alloc (.cells #[.int .i64 n, .slice p n cap] 26)) wr) (fun _ m' _ _ => N - (intOf m').toNat)
 case atStart => exact ⟨1, 0, by omega, by omega, rfl, rfl, by omega, .inl rfl, fun s hs _ => H00.out s hs, Keeps.refl _⟩
 case round =>
  obtain ⟨m, t, h1m, hmN, rfl, rfl, ht8, hwid, hall, kw⟩ := hrel
  have HW := hid hwid; clear hwid
  have HA := hid hall; clear hall
  have z0 := kw.cell c0
  have z1 := kw.cell c1
  by_cases hlt : m < N
  ·have hlt' : (m : Int) ≤ (N : Int) - 1 := by omega
   have HACs := hid (HAC.out m wr (kA.trans kw) hlt)
   have HCMs := hid (fun wz => HCM.out m wz (by omega))
   have hc8 := cntB_le m
   have HSK : Hid (okW b m = true → cntB m ≤ t → ∀ s, s < m + 1 → okW b s = true → cntB s ≤ t) := hid (fun _ hc s hs ho => by
    by_cases e : s = m
    ·subst e; exact hc
    ·exact HA.out s (by omega) ho)
   by_cases hle2 : cntB m ≤ t
   ·have hle3 : ((cntB m : Nat) : Int) ≤ t := by omega
    have HN : Hid (∀ s, s < m + 1 → okW b s = true → cntB s ≤ t) := hid (fun s hs ho => by
     by_cases e : s = m
     ·subst e; exact hle2
     ·exact HA.out s (by omega) ho)
    clear hle2 HSK
    generalize cntB m = cm at *
    go_wp2_with fail
    refine HFULL.out _ |>.mono ?_; rintro e w' ⟨rfl, rfl⟩
    go_wp2_with fail
    refine (HCMs.out _).mono ?_; rintro e w' ⟨rfl, rfl⟩
    go_wp2_with fail
    go_roundw
    case rel => exact ⟨m + 1, t, by omega, by omega, by go_num, rfl, ht8, HW.out, HN.out, kw⟩
    case measure => simp [intOf]; omega
   ·have hle3 : ¬ ((cntB m : Nat) : Int) ≤ t := by omega
    cases ha : antiC b m
    ·rw [ha] at HACs
     have HN : Hid (∀ s, s < m + 1 → okW b s = true → cntB s ≤ t) := hid (fun s hs ho => by
      by_cases e : s = m
      ·subst e; rw [okW_none ha] at ho; cases ho
      ·exact HA.out s (by omega) ho)
     clear ha hle2 HSK
     generalize cntB m = cm at *
     go_wp2_with fail
     refine HFULL.out _ |>.mono ?_; rintro e w' ⟨rfl, rfl⟩
     go_wp2_with fail
     refine (HCMs.out _).mono ?_; rintro e w' ⟨rfl, rfl⟩
     go_wp2_with fail
     refine HACs.out.mono ?_; rintro e w4 ⟨rfl, k4⟩
     go_wp2_with fail
     go_roundw
     case rel => exact ⟨m + 1, t, by omega, by omega, by go_num, rfl, ht8, HW.out, HN.out, kw.trans k4⟩
     case measure => simp [intOf]; omega
    ·rw [ha] at HACs
     have HOK := hid (okW_any (b := b) ha)
     rw [Hn.out] at HOK
     have HWM := hid (fun (ho : okW b m = true) => WidAt.max HW.out (show m < 256 by omega) ho)
     have HALL : Hid (∀ q, (okW b m = true → cntB m ≤ q) → t ≤ q → ∀ s, s < m + 1 → okW b s = true → cntB s ≤ q) := hid (fun q h1 h2 s hs ho => by
      by_cases e : s = m
      ·subst e; exact h1 ho
      ·have := HA.out s (by omega) ho; omega)
     clear ha HSK
     have HINB := hid (fun y (hy : b.getD y 0 < N) => withinN m (b.getD y 0) (by omega) (by omega))
     generalize okW b m = ok at *
     obtain ⟨G, hG⟩ : ∃ G : Nat → Bool, ∀ y, G y = inB m (b.getD y 0) := ⟨_, fun _ => rfl⟩
     have HOK2 : Hid (ok = (List.range n).any G) := hid (by rw [HOK.out]; congr 1; funext y; rw [hG])
     have HG := hid hG; clear hG HOK
     generalize cntB m = cm at *
     go_wp2_with fail
     refine HFULL.out _ |>.mono ?_; rintro e w' ⟨rfl, rfl⟩
     go_wp2_with fail
     refine (HCMs.out _).mono ?_; rintro e w' ⟨rfl, rfl⟩
     go_wp2_with fail
     refine HACs.out.mono ?_; rintro e w4 ⟨rfl, k4⟩
     have y0 := k4.cell z0
     have y1 := k4.cell z1
     have k5 := kw.trans k4
     go_wp2
     go_loopw [3, 5] (fun o x' wr' => ∃ x : Nat, x ≤ n ∧ x' = .int .i64 x ∧ o = .int .i64 (if (List.range x).any G then (cm : Int) else t) ∧ Keeps w4 wr') (fun _ x' _ => n - (intOf x').toNat)
     case atStart => exact ⟨0, by omega, rfl, rfl, Keeps.refl _⟩
     case round =>
      obtain ⟨x, hx, rfl, rfl, kv⟩ := hrel
      have k6 := k5.trans kv
      replace y0 := kv.cell y0
      replace y1 := kv.cell y1
      by_cases hxn : x < n
      ·have hxn' : (x : Int) < n := by omega
       obtain ⟨b1, o1, rfl, h1⟩ := HRD.out x hxn _ (kA.trans k6)
       have hbx := HBN.out x
       have hin := HINB.out x hbx
       rw [← HG.out x] at hin
       have HS := hid (anyR_succ G x)
       cases hgx : G x
       ·rw [hgx] at hin HS
        have HT : Hid ((if (List.range (x + 1)).any G then (cm : Int) else t) = if (List.range x).any G then (cm : Int) else t) := hid (by rw [HS.out, Bool.or_false])
        clear hgx
        generalize (if (List.range x).any G then (cm : Int) else t) = z at *
        generalize b.getD x 0 = g at *
        go_wp2_with fail
        go_roundw
        case rel => exact ⟨x + 1, by omega, by go_num, by rw [HT.out], kv⟩
        case measure => simp [intOf]; omega
       ·rw [hgx] at hin HS
        have HT : Hid ((if (List.range (x + 1)).any G then (cm : Int) else t) = cm) := hid (by rw [HS.out, Bool.or_true]; rfl)
        clear hgx
        generalize (if (List.range x).any G then (cm : Int) else t) = z at *
        generalize b.getD x 0 = g at *
        go_wp2_with fail
        refine (HCMs.out _).mono ?_; rintro e w' ⟨rfl, rfl⟩
        go_wp2_with fail
        go_roundw
        case rel => exact ⟨x + 1, by omega, by go_num, by rw [HT.out], kv⟩
        case measure => simp [intOf]; omega
      ·obtain rfl : x = n := by omega
       have hxn' : ¬ (x : Int) < x := by omega
       rw [← HOK2.out]
       clear HOK2
       cases ok
       ·go_wp2_with fail
        go_roundw
        case rel => exact ⟨m + 1, t, by omega, by omega, by go_num, rfl, ht8, HW.out, HALL.out t (fun h => by cases h) (Nat.le_refl _), k6⟩
        case measure => simp [intOf]; omega
       ·go_wp2_with fail
        go_roundw
        case rel =>
         refine ⟨m + 1, cm, by omega, by omega, by go_num, rfl, by omega, ?_, HALL.out cm (fun _ => Nat.le_refl _) (by omega), k6⟩
         have := HWM.out rfl
         rwa [show Max.max t cm = cm by omega] at this
        case measure => simp [intOf]; omega
  ·obtain rfl : m = N := by omega
   have hlt' : ¬ (m : Int) ≤ (m : Int) - 1 := by omega
   have HE := hid (HFIN.out t HW.out HA.out)
   go_wp2_with fail
   refine HFULL.out _ |>.mono ?_; rintro e w' ⟨rfl, rfl⟩
   go_wp2_with fail
   go_ret
   exact ⟨ret_int (by rw [HE.out]), kA.trans kw⟩
end Go.Proofs.YtfmmajgkjkmghaaGreatDoor
namespace Go.Proofs.YtfmmajgkjkmghaaGreatDoor
open Go.RowKit
theorem all_upto_false {b : List Nat} {P : Nat → Bool} {i : Nat} (hi : i < b.length) (h : P (b.getD i 0) = false) : b.all P = false := by
 rw [getD_get hi] at h
 exact all_false_at' hi h
theorem all_upto_true {b : List Nat} {P : Nat → Bool} (h : ∀ j, j < b.length → P (b.getD j 0) = true) : b.all P = true := by
 rw [List.all_eq_true]
 intro x hx
 obtain ⟨j, hj, rfl⟩ := List.getElem_of_mem hx
 rw [← getD_get hj]; exact h j hj
set_option maxRecDepth 20000 in
set_option maxHeartbeats 4000000 in
theorem l30Of_any (b : List Nat) (hp : Pos b) (k : Nat) (hk : k < 9) (v : Value) (w : World) (hv : Ints w v (zs b)) :
  Calls Tryz.prog 18 #[.agg #[.int .i64 b.length, v], .string (nameK k)] w fun e w' => e = .returned (.bool (ofK b k)) ∧ Keeps w w' := by
 obtain ⟨hb, hbm, hr, ht, ha⟩ := id hp
 have h256 := two8 hb
 have kA := (Keeps.refl w).alloc (.cells #[.int .i64 b.length, v] 26)
 obtain ⟨c0, c1⟩ := BoxF.made w b.length v 26
 have HD := hid (l16Depths_any b hp v _ (hv.keeps kA))
 have HWD := hid (fun wz (kz : Keeps w wz) => l16Width_any b v wz (hv.keeps kz) hb hbm)
 have HMX := hid (fun wz (kz : Keeps w wz) => l16Maximal_any b v wz (hv.keeps kz) hb)
 have HCM := hid (fun s wz (hs : s < 256) => l01Bits_any s wz hs)
 have HB : Hid (∀ i, b.getD i 0 < 256) := hid (fun i => Nat.lt_of_lt_of_le (hbm i) h256)
 have hmx8 : mxB b < 256 := Nat.lt_of_lt_of_le (mxT_lt b b.length) h256
 have HAND := hid (fun i => andN (b.getD i 0) (mxB b) (by have := hbm i; omega) (by omega))
 have HSTEP := hid (fun i => show maxTo (dptL b) (i + 1) = max (maxTo (dptL b) i) ((dptL b).getD i 0) from rfl)
 have hdl := dptL_len b
 have HDP : Hid (depB b = maxTo (dptL b) b.length) := hid rfl
 have HOF : Hid (∀ k, ofK b k = if k = 0 then decide (depB b ≤ 2) else if k = 1 then decide (depB b ≤ 3) else if k = 2 then decide (widB b ≤ 2) else if k = 3 then decide (widB b ≤ 3)
  else if k = 4 then decide (depB b ≤ 1) else if k = 6 then b.all (ofKC b) else if k = 7 then decide (widB b ≤ 1) else if k = 8 then b.all ofSmL else true) := hid (fun _ => rfl)
 have HT := hid (fun P => all_upto_true (b := b) (P := P))
 have HF := hid (fun P i => all_upto_false (b := b) (P := P) (i := i))
 have HKC := hid (fun m => show ofKC b m = (cntB (m &&& mxB b) == 1) from rfl)
 have HSM := hid (fun m => show ofSmL m = decide (cntB m ≤ 2) from rfl)
 have HLT : Hid (∀ i, b.getD i 0 &&& mxB b < 256) := hid (fun i => Nat.lt_of_le_of_lt Nat.and_le_right hmx8)
 have hv0 := hv
 obtain ⟨p, cap, rfl, hle, hmx, _, _⟩ := hv
 unfold maxLen at hmx
 rw [zs_length] at *
 have HRD := hid (fun x (hx : x < b.length) wz (kz : Keeps w wz) => (hv0.keeps kz).zs_cell x hx)
 clear hv0
 clear hbm hr ht ha hp
 obtain ⟨name, hname⟩ : ∃ name, name = nameK k := ⟨_, rfl⟩
 rw [← hname]
 have HNM := hid hname; clear hname
 generalize mxB b = mx at *
 generalize widB b = wd at *
 generalize depB b = dp at *
 generalize dptL b = dl at *
 generalize hn : b.length = n at *
 have Hn := hid hn; clear hn
 go_enter Tryz.func18, Tryz.ntmps18
 go_wp2_with fail
 refine HD.out.mono ?_; rintro e w2 ⟨vd, rfl, hvd, k2⟩
 have kk := kA.trans k2
 replace c0 := k2.cell c0
 replace c1 := k2.cell c1
 have hvdi := hvd.ints (by rw [zs_length]; omega)
 obtain ⟨pd, qd, rfl, _, hmd, _, _⟩ := hvd.ints (by rw [zs_length]; omega)
 unfold maxLen at hmd
 have HVD := hid (fun j (hj : j < n) => hvdi.zs_cell j (by omega))
 clear hvd hvdi
 rw [zs_length, hdl] at *
 clear hdl
 go_wp2
 go_loop [5, 7] (fun o i' => ∃ i : Nat, i ≤ n ∧ i' = .int .i64 i ∧ o = .int .i64 (maxTo dl i)) (fun _ i => n - (intOf i).toNat)
 case atStart => exact ⟨0, by omega, rfl, rfl⟩
 case round =>
  obtain ⟨i, hi, rfl, rfl⟩ := hrel
  by_cases hlt : i < n
  ·have hlt' : (i : Int) < n := by omega
   obtain ⟨b1, o1, e1, h1⟩ := HVD.out i hlt
   cases e1
   have hs : ((maxTo dl (i + 1) : Nat) : Int) = max ((maxTo dl i : Nat) : Int) ((dl.getD i 0 : Nat) : Int) := by
    rw [HSTEP.out]
    show ((max (maxTo dl i) (dl.getD i 0) : Nat) : Int) = _
    omega
   have HS := hid hs; clear hs
   generalize dl.getD i 0 = x at *
   generalize maxTo dl i = z at *
   go_wp2
   go_round
   case rel => exact ⟨i + 1, by omega, by go_num, by rw [HS.out]; first | rfl | (congr 1; omega)⟩
   case measure => simp [intOf]; omega
  ·obtain rfl : i = n := by omega
   have hlt' : ¬ (i : Int) < i := by omega
   rw [← HDP.out]
   have hk9 : k = 0 ∨ k = 1 ∨ k = 2 ∨ k = 3 ∨ k = 4 ∨ k = 5 ∨ k = 6 ∨ k = 7 ∨ k = 8 := by omega
   rcases hk9 with rfl | rfl | rfl | rfl | rfl | rfl | rfl | rfl | rfl
   ·obtain rfl : name = ⟨#[66, 68, 50]⟩ := HNM.out
    clear HNM
    go_wp2_with fail
    go_ret
    exact ⟨ret_bool (by rw [HOF.out]; first | (simp; done) | (simp; omega)), kk⟩
   ·obtain rfl : name = ⟨#[66, 68, 51]⟩ := HNM.out
    clear HNM
    go_wp2_with fail
    go_ret
    exact ⟨ret_bool (by rw [HOF.out]; first | (simp; done) | (simp; omega)), kk⟩
   ·obtain rfl : name = ⟨#[66, 87, 50]⟩ := HNM.out
    clear HNM
    go_wp2_with fail
    refine (HWD.out _ kk).mono ?_; rintro e w3 ⟨rfl, k3⟩
    go_wp2_with fail
    go_ret
    exact ⟨ret_bool (by rw [HOF.out]; first | (simp; done) | (simp; omega)), kk.trans k3⟩
   ·obtain rfl : name = ⟨#[66, 87, 51]⟩ := HNM.out
    clear HNM
    go_wp2_with fail
    refine (HWD.out _ kk).mono ?_; rintro e w3 ⟨rfl, k3⟩
    go_wp2_with fail
    go_ret
    exact ⟨ret_bool (by rw [HOF.out]; first | (simp; done) | (simp; omega)), kk.trans k3⟩
   ·obtain rfl : name = ⟨#[67, 76]⟩ := HNM.out
    clear HNM
    go_wp2_with fail
    go_ret
    exact ⟨ret_bool (by rw [HOF.out]; first | (simp; done) | (simp; omega)), kk⟩
   ·obtain rfl : name = ⟨#[73, 110, 116]⟩ := HNM.out
    clear HNM
    go_wp2_with fail
    go_ret
    exact ⟨ret_bool (by rw [HOF.out]; first | (simp; done) | (simp; omega)), kk⟩
   ·obtain rfl : name = ⟨#[75, 67]⟩ := HNM.out
    clear HNM HVD HSTEP
    have HO6 : Hid (ofK b 6 = b.all (ofKC b)) := hid (by rw [HOF.out]; simp)
    clear HOF
    go_wp2
    go_loopw [4, 8] (fun r x' wr => ∃ x : Nat, x ≤ i ∧ x' = .int .i64 x ∧ r = .bool false ∧ (∀ j, j < x → ofKC b (b.getD j 0) = true) ∧ Keeps w2 wr) (fun _ x' _ => i - (intOf x').toNat)
    case atStart => exact ⟨0, by omega, rfl, rfl, fun j h => by omega, Keeps.refl _⟩
    case round =>
     obtain ⟨x, hx, rfl, rfl, hall, kw⟩ := hrel
     have HA := hid hall; clear hall
     have k6 := kk.trans kw
     have z0 := kw.cell c0
     have z1 := kw.cell c1
     by_cases hxn : x < i
     ·have hxn' : (x : Int) < i := by omega
      obtain ⟨b1, o1, rfl, h1⟩ := HRD.out x hxn _ k6
      have kd := (Keeps.refl wr).drew
      have d0 := kd.cell z0
      have d1 := kd.cell z1
      have d2 := kd.cell h1
      have HMXd := hid (HMX.out wr.drew (k6.trans kd))
      have hand := HAND.out x
      have HBX := hid (fun wz => HCM.out (b.getD x 0 &&& mx) wz (HLT.out x))
      have hkc := HKC.out (b.getD x 0)
      have h8 := cntB_le (b.getD x 0 &&& mx)
      cases hc : ofKC b (b.getD x 0)
      ·rw [hc] at hkc
       have hd : (((cntB (b.getD x 0 &&& mx) : Nat) : Int) != 1) = true := by
        rw [bne_iff_ne]; intro e
        have : cntB (b.getD x 0 &&& mx) = 1 := by omega
        rw [this] at hkc; cases hkc
       have HN := hid (HF.out _ x hxn hc)
       clear hkc hc
       generalize b.getD x 0 = g at *
       generalize cntB (g &&& mx) = cg at *
       go_wp2_with fail
       go_region_held3 (fun w' => w'.cell? ⟨w.heap.size, 0, none⟩ = some (.int .i64 i) ∧ w'.cell? ⟨w.heap.size, 1, none⟩ = some (.slice (some ⟨b1, o1, none⟩) i cap) ∧ w'.cell? ⟨b1, o1 + x, none⟩ = some (.int .i64 g)) (first | exact ⟨d0, d1, d2⟩ | exact ⟨y0, y1, y2⟩) (first | (go_at_call 61; refine HMXd.out.mono ?_; rintro e w4 ⟨rfl, k4⟩; have y0 := k4.cell d0; have y1 := k4.cell d1; have y2 := k4.cell d2) | (go_at_call 60; refine (HBX.out _).mono ?_; rintro e w' ⟨rfl, rfl⟩))
       go_wp2_with fail
       go_ret
       exact ⟨ret_bool (by rw [HO6.out, HN.out]), (k6.trans kd).trans k4⟩
      ·rw [hc] at hkc
       have hd : (((cntB (b.getD x 0 &&& mx) : Nat) : Int) != 1) = false := by
        have : cntB (b.getD x 0 &&& mx) = 1 := beq_iff_eq.1 hkc.symm
        rw [this]; rfl
       have HN : Hid (∀ j, j < x + 1 → ofKC b (b.getD j 0) = true) := hid (fun j hj => by
        by_cases e : j = x
        ·subst e; exact hc
        ·exact HA.out j (by omega))
       clear hkc hc
       generalize b.getD x 0 = g at *
       generalize cntB (g &&& mx) = cg at *
       go_wp2_with fail
       go_region_held3 (fun w' => w'.cell? ⟨w.heap.size, 0, none⟩ = some (.int .i64 i) ∧ w'.cell? ⟨w.heap.size, 1, none⟩ = some (.slice (some ⟨b1, o1, none⟩) i cap) ∧ w'.cell? ⟨b1, o1 + x, none⟩ = some (.int .i64 g)) (first | exact ⟨d0, d1, d2⟩ | exact ⟨y0, y1, y2⟩) (first | (go_at_call 61; refine HMXd.out.mono ?_; rintro e w4 ⟨rfl, k4⟩; have y0 := k4.cell d0; have y1 := k4.cell d1; have y2 := k4.cell d2) | (go_at_call 60; refine (HBX.out _).mono ?_; rintro e w' ⟨rfl, rfl⟩))
       go_wp2_with fail
       go_roundw
       case rel => exact ⟨x + 1, by omega, by go_num, rfl, HN.out, (kw.trans kd).trans k4⟩
       case measure => simp [intOf]; omega
     ·obtain rfl : x = i := by omega
      have hxn' : ¬ (x : Int) < x := by omega
      have HN := hid (HT.out _ HA.out)
      go_wp2_with fail
      go_ret
      exact ⟨ret_bool (by rw [HO6.out, HN.out]), k6⟩
   ·obtain rfl : name = ⟨#[76, 67]⟩ := HNM.out
    clear HNM
    go_wp2_with fail
    refine (HWD.out _ kk).mono ?_; rintro e w3 ⟨rfl, k3⟩
    go_wp2_with fail
    go_ret
    exact ⟨ret_bool (by rw [HOF.out]; first | (simp; done) | (simp; omega)), kk.trans k3⟩
   ·obtain rfl : name = ⟨#[83, 109, 76]⟩ := HNM.out
    clear HNM HVD HSTEP
    have HO8 : Hid (ofK b 8 = b.all ofSmL) := hid (by rw [HOF.out]; simp)
    clear HOF
    go_wp2
    go_loop [4, 9] (fun r x' => ∃ x : Nat, x ≤ i ∧ x' = .int .i64 x ∧ r = .bool false ∧ (∀ j, j < x → ofSmL (b.getD j 0) = true)) (fun _ x' => i - (intOf x').toNat)
    case atStart => exact ⟨0, by omega, rfl, rfl, fun j h => by omega⟩
    case round =>
     obtain ⟨x, hx, rfl, rfl, hall⟩ := hrel
     have HA := hid hall; clear hall
     by_cases hxn : x < i
     ·have hxn' : (x : Int) < i := by omega
      obtain ⟨b1, o1, rfl, h1⟩ := HRD.out x hxn _ kk
      have HBX := hid (fun wz => HCM.out (b.getD x 0) wz (HB.out x))
      have hkc := HSM.out (b.getD x 0)
      cases hc : ofSmL (b.getD x 0)
      ·rw [hc] at hkc
       have hd : decide (((cntB (b.getD x 0) : Nat) : Int) > 2) = true := by
        have := of_decide_eq_false hkc.symm
        rw [decide_eq_true_eq]; omega
       have HN := hid (HF.out _ x hxn hc)
       clear hkc hc
       generalize b.getD x 0 = g at *
       generalize cntB g = cg at *
       go_wp2_with fail
       refine (HBX.out _).mono ?_; rintro e w' ⟨rfl, rfl⟩
       go_wp2_with fail
       go_ret
       exact ⟨ret_bool (by rw [HO8.out, HN.out]), kk⟩
      ·rw [hc] at hkc
       have hd : decide (((cntB (b.getD x 0) : Nat) : Int) > 2) = false := by
        have := of_decide_eq_true hkc.symm
        rw [decide_eq_false_iff_not]; omega
       have HN : Hid (∀ j, j < x + 1 → ofSmL (b.getD j 0) = true) := hid (fun j hj => by
        by_cases e : j = x
        ·subst e; exact hc
        ·exact HA.out j (by omega))
       clear hkc hc
       generalize b.getD x 0 = g at *
       generalize cntB g = cg at *
       go_wp2_with fail
       refine (HBX.out _).mono ?_; rintro e w' ⟨rfl, rfl⟩
       go_wp2_with fail
       go_round
       case rel => exact ⟨x + 1, by omega, by go_num, rfl, HN.out⟩
       case measure => simp [intOf]; omega
     ·obtain rfl : x = i := by omega
      have hxn' : ¬ (x : Int) < x := by omega
      have HN := hid (HT.out _ HA.out)
      go_wp2_with fail
      go_ret
      exact ⟨ret_bool (by rw [HO8.out, HN.out]), kk⟩
end Go.Proofs.YtfmmajgkjkmghaaGreatDoor
namespace Go.Proofs.YtfmmajgkjkmghaaGreatDoor
open Go.RowKit
def poC (n : Int) (a : List Int) (name : ByteArray) : Int := if isPos n a = true then (if 0 ≤ findS names9 name then 0 else 4) else 1
def poR (n : Int) (a : List Int) (name : ByteArray) : Bool := if isPos n a = true then (if 0 ≤ findS names9 name then ofK (a.map Int.toNat) (findS names9 name).toNat else false) else false
theorem pos_of {n : Int} {a : List Int} (h : isPos n a = true) : ∃ b : List Nat, a = zs b ∧ n = b.length ∧ Pos b := by
 obtain ⟨b, h1, h2, h3, h4, h5⟩ := (isPos_iff n a).1 h
 exact ⟨b, h1, h2, Pos.of h3 h4 h5⟩
set_option maxRecDepth 20000 in
theorem l30Code_any (n : Int) (a : List Int) (name : ByteArray) (v : Value) (w : World) (hv : Ints w v a) :
  Calls Tryz.prog 17 #[.agg #[.int .i64 n, v], .string name] w fun e w' => e = .returned (.int .i64 (poC n a name)) ∧ Keeps w w' := by
 have kA := (Keeps.refl w).alloc (.cells #[.int .i64 n, v] 26)
 obtain ⟨c0, c1⟩ := BoxF.made w n v 26
 have HI := hid (l16Is_any n a v _ (hv.keeps kA))
 have HK := hid (fun wz => l30Known_any name wz)
 have HC : Hid (poC n a name = if isPos n a = true then (if 0 ≤ findS names9 name then 0 else 4) else 1) := hid rfl
 obtain ⟨p, cap, rfl, _⟩ := hv
 generalize findS names9 name = k at *
 cases hi : isPos n a
 ·rw [hi] at HI HC
  clear hi
  go_enter Tryz.func17, Tryz.ntmps17
  go_wp2_with fail
  refine HI.out.mono ?_; rintro e w2 ⟨rfl, k2⟩
  go_wp2_with fail
  go_ret
  exact ⟨ret_int (by rw [HC.out]; simp), kA.trans k2⟩
 ·rw [hi] at HI HC
  clear hi
  by_cases hk : 0 ≤ k
  ·rw [decide_eq_true hk] at HK
   rw [if_pos rfl, if_pos hk] at HC
   clear hk
   go_enter Tryz.func17, Tryz.ntmps17
   go_wp2_with fail
   refine HI.out.mono ?_; rintro e w2 ⟨rfl, k2⟩
   go_wp2_with fail
   refine (HK.out _).mono ?_; rintro e w3 ⟨rfl, k3⟩
   go_wp2_with fail
   go_ret
   exact ⟨ret_int (by rw [HC.out]), (kA.trans k2).trans k3⟩
  ·rw [decide_eq_false hk] at HK
   rw [if_pos rfl, if_neg hk] at HC
   clear hk
   go_enter Tryz.func17, Tryz.ntmps17
   go_wp2_with fail
   refine HI.out.mono ?_; rintro e w2 ⟨rfl, k2⟩
   go_wp2_with fail
   refine (HK.out _).mono ?_; rintro e w3 ⟨rfl, k3⟩
   go_wp2_with fail
   go_ret
   exact ⟨ret_int (by rw [HC.out]), (kA.trans k2).trans k3⟩
set_option maxRecDepth 20000 in
theorem specIsPosetOf (n : Int) (a : List Int) (name : ByteArray) (v : Value) (w : World) (hv : Ints w v a) :
  Calls Tryz.prog 7 #[.agg #[.int .i64 n, v], .string name] w fun e w' => e = .returned (.tuple #[.bool (poR n a name), .int .i64 (poC n a name)]) ∧ Keeps w w' := by
 have kA := (Keeps.refl w).alloc (.cells #[.int .i64 n, v] 26)
 obtain ⟨c0, c1⟩ := BoxF.made w n v 26
 have HI := hid (l30Code_any n a name v _ (hv.keeps kA))
 have HR : Hid (poR n a name = if isPos n a = true then (if 0 ≤ findS names9 name then ofK (a.map Int.toNat) (findS names9 name).toNat else false) else false) := hid rfl
 have HC : Hid (poC n a name = if isPos n a = true then (if 0 ≤ findS names9 name then 0 else 4) else 1) := hid rfl
 by_cases hc : isPos n a = true ∧ 0 ≤ findS names9 name
 ·obtain ⟨b, rfl, rfl, hp⟩ := pos_of hc.1
  obtain ⟨k, hk⟩ := Int.eq_ofNat_of_zero_le hc.2
  obtain ⟨hk9, rfl⟩ := find9_name hk
  have HO := hid (fun wz (kz : Keeps w wz) => l30Of_any b hp k hk9 v wz (hv.keeps kz))
  have HR2 : Hid (poR b.length (zs b) (nameK k) = ofK b k) := hid (by rw [HR.out, if_pos hc.1, if_pos hc.2, zs_toNat, hk]; rfl)
  have HC2 : Hid (poC b.length (zs b) (nameK k) = 0) := hid (by rw [HC.out, if_pos hc.1, if_pos hc.2])
  rw [HC2.out] at HI
  obtain ⟨p, cap, rfl, _⟩ := hv
  clear hc HR HC hk hp
  rw [HC2.out, HR2.out]
  generalize ofK b k = r at *
  generalize nameK k = nm at *
  go_enter Tryz.func7, Tryz.ntmps7
  go_wp2_with fail
  refine HI.out.mono ?_; rintro e w2 ⟨rfl, k2⟩
  have z0 := k2.cell c0
  have z1 := k2.cell c1
  go_wp2_with fail
  refine (HO.out _ (kA.trans k2)).mono ?_; rintro e w3 ⟨rfl, k3⟩
  go_wp2_with fail
  go_ret2
  exact ⟨rfl, (kA.trans k2).trans k3⟩
 ·have hr : poR n a name = false := by
   rw [HR.out]
   by_cases h1 : isPos n a = true
   ·rw [if_pos h1, if_neg (fun h2 => hc ⟨h1, h2⟩)]
   ·rw [if_neg h1]
  have hcc : poC n a name = 1 ∨ poC n a name = 4 := by
   rw [HC.out]
   by_cases h1 : isPos n a = true
   ·rw [if_pos h1, if_neg (fun h2 => hc ⟨h1, h2⟩)]; exact .inr rfl
   ·rw [if_neg h1]; exact .inl rfl
  rw [hr]
  clear hc hr HR HC
  obtain ⟨p, cap, rfl, _⟩ := hv
  generalize poC n a name = c at *
  rcases hcc with rfl | rfl
  all_goals
   go_enter Tryz.func7, Tryz.ntmps7
   go_wp2_with fail
   refine HI.out.mono ?_; rintro e w2 ⟨rfl, k2⟩
   go_wp2_with fail
   go_ret2
   exact ⟨rfl, kA.trans k2⟩
set_option maxRecDepth 20000 in
theorem implIsPosetOf (n : Int) (a : List Int) (name : ByteArray) (v : Value) (w : World) (hv : Ints w v a) (hL : LaidS 1 names9 w) :
  Calls Tryz.prog 6 #[.agg #[.int .i64 n, v], .string name] w fun e w' => e = .returned (.tuple #[.bool (poR n a name), .int .i64 (poC n a name)]) ∧ Keeps w w' := by
 have kA := (Keeps.refl w).alloc (.cells #[.int .i64 n, v] 26)
 obtain ⟨c0, c1⟩ := BoxF.made w n v 26
 have HI := hid (isPoset_any n a v _ (hv.keeps kA))
 have HK := hid (fun wz (kz : Keeps w wz) => intermediateAt_any name wz (hL.keeps kz))
 have HR : Hid (poR n a name = if isPos n a = true then (if 0 ≤ findS names9 name then ofK (a.map Int.toNat) (findS names9 name).toNat else false) else false) := hid rfl
 have HC : Hid (poC n a name = if isPos n a = true then (if 0 ≤ findS names9 name then 0 else 4) else 1) := hid rfl
 clear hL
 by_cases hc : isPos n a = true
 ·rw [hc] at HI
  rw [if_pos hc] at HR HC
  obtain ⟨b, rfl, rfl, hp⟩ := pos_of hc
  clear hc
  by_cases hk0 : 0 ≤ findS names9 name
  ·obtain ⟨k, hk⟩ := Int.eq_ofNat_of_zero_le hk0
   rw [if_pos hk0] at HR HC
   obtain ⟨hk9, rfl⟩ := find9_name hk
   have HO := hid (fun wz (kz : Keeps w wz) => isOf_any b hp k hk9 v wz (hv.keeps kz))
   have HR2 : Hid (poR b.length (zs b) (nameK k) = ofK b k) := hid (by rw [HR.out, zs_toNat, hk]; rfl)
   rw [hk] at HK
   rw [HC.out, HR2.out]
   obtain ⟨p, cap, rfl, _⟩ := hv
   clear HR HC hk hp hk0
   generalize ofK b k = r at *
   generalize nameK k = nm at *
   go_enter Tryz.func6, Tryz.ntmps6
   go_wp2_with fail
   refine HI.out.mono ?_; rintro e w2 ⟨rfl, k2⟩
   have z0 := k2.cell c0
   have z1 := k2.cell c1
   go_wp2_with fail
   refine (HK.out _ (kA.trans k2)).mono ?_; rintro e w' ⟨rfl, rfl⟩
   go_wp2_with fail
   refine (HO.out _ (kA.trans k2)).mono ?_; rintro e w3 ⟨rfl, k3⟩
   go_wp2_with fail
   go_ret2
   exact ⟨rfl, (kA.trans k2).trans k3⟩
  ·rw [if_neg hk0] at HR HC
   have hm : findS names9 name = -1 := by
    rcases find9 name with h | ⟨k, _, h⟩
    ·exact h
    ·omega
   rw [hm] at HK
   rw [HC.out, HR.out]
   obtain ⟨p, cap, rfl, _⟩ := hv
   clear HR HC hk0 hm hp
   go_enter Tryz.func6, Tryz.ntmps6
   go_wp2_with fail
   refine HI.out.mono ?_; rintro e w2 ⟨rfl, k2⟩
   go_wp2_with fail
   refine (HK.out _ (kA.trans k2)).mono ?_; rintro e w' ⟨rfl, rfl⟩
   go_wp2_with fail
   go_ret2
   exact ⟨rfl, kA.trans k2⟩
 ·rw [if_neg hc] at HR HC
  rw [Bool.not_eq_true] at hc
  rw [hc] at HI
  rw [HC.out, HR.out]
  obtain ⟨p, cap, rfl, _⟩ := hv
  clear HR HC hc
  go_enter Tryz.func6, Tryz.ntmps6
  go_wp2_with fail
  refine HI.out.mono ?_; rintro e w2 ⟨rfl, k2⟩
  go_wp2_with fail
  go_ret2
  exact ⟨rfl, kA.trans k2⟩
end Go.Proofs.YtfmmajgkjkmghaaGreatDoor
