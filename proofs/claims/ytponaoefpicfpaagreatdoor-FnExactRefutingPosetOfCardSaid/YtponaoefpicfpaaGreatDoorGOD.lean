/- The reference: whether an order is one of a logic. -/
import Derived.Test.YtponaoefpicfpaaGreatDoorGOA
import Derived.Test.YtponaoefpicfpaaGreatDoorGAL
import Derived.Test.YtponaoefpicfpaaGreatDoorGQJ
import Derived.Deep.RegionHeld3
namespace Go.Proofs.YtponaoefpicfpaaGreatDoor
open Go.RowKit
theorem all_upto_false {b : List Nat} {P : Nat → Bool} {i : Nat} (hi : i < b.length) (h : P (b.getD i 0) = false) : b.all P = false := by
  rw [getD_get hi] at h
  exact all_false_at' hi h
theorem all_upto_true {b : List Nat} {P : Nat → Bool} (h : ∀ j, j < b.length → P (b.getD j 0) = true) : b.all P = true := by
  rw [List.all_eq_true]
  intro x hx
  obtain ⟨j, hj, rfl⟩ := List.getElem_of_mem hx
  rw [← getD_get hj]; exact h j hj
--
set_option maxRecDepth 20000 in
set_option maxHeartbeats 4000000 in
theorem l30Of_any (b : List Nat) (hp : Pos b) (k : Nat) (hk : k < 9) (v : Value) (w : World) (hv : Ints w v (zs b)) :
    Calls Tryz.prog 44 #[.agg #[.int .i64 b.length, v], .string (nameK k)] w fun e w' => e = .returned (.bool (ofK b k)) ∧ Keeps w w' := by
  obtain ⟨hb, hbm, hr, ht, ha⟩ := id hp
  have h256 := two8 hb
  have kA := (Keeps.refl w).alloc (.cells #[.int .i64 b.length, v] 32)
  obtain ⟨c0, c1⟩ := BoxF.made w b.length v 32
  have HD := hid (l16Depths_any b hp v _ (hv.keeps kA))
  have HWD := hid (fun wz (kz : Keeps w wz) => l16Width_any b v wz (hv.keeps kz) hb hbm)
  have HMX := hid (fun wz (kz : Keeps w wz) => l16Maximal_any b v wz (hv.keeps kz) hb)
  have HCM := hid (fun s wz (hs : s < 256) => l01Bits_any s wz hs)
  have HB : Hid (∀ i, b.getD i 0 < 256) := hid (fun i => Nat.lt_of_lt_of_le (hbm i) h256)
  have hmx8 : mxB b < 256 := Nat.lt_of_lt_of_le (mxT_lt b b.length) h256
  have HAND := hid (fun i => andN (b.getD i 0) (mxB b) (by have := hbm i; omega) (by omega))
  have HSTEP := hid (fun i => show maxTo (dptL b) (i + 1) = max (maxTo (dptL b) i) ((dptL b).getD i 0) from rfl)
  have hdl := dptL_len b
  have HDP : Hid (depB b = maxTo (dptL b) b.length) := hid rfl
  have HOF : Hid (∀ k, ofK b k = if k = 0 then decide (depB b ≤ 2) else if k = 1 then decide (depB b ≤ 3) else if k = 2 then decide (widB b ≤ 2) else if k = 3 then decide (widB b ≤ 3)
    else if k = 4 then decide (depB b ≤ 1) else if k = 6 then b.all (ofKC b) else if k = 7 then decide (widB b ≤ 1) else if k = 8 then b.all ofSmL else true) := hid (fun _ => rfl)
  have HT := hid (fun P => all_upto_true (b := b) (P := P))
  have HF := hid (fun P i => all_upto_false (b := b) (P := P) (i := i))
  have HKC := hid (fun m => show ofKC b m = (cntB (m &&& mxB b) == 1) from rfl)
  have HSM := hid (fun m => show ofSmL m = decide (cntB m ≤ 2) from rfl)
  have HLT : Hid (∀ i, b.getD i 0 &&& mxB b < 256) := hid (fun i => Nat.lt_of_le_of_lt Nat.and_le_right hmx8)
  have hv0 := hv
  obtain ⟨p, cap, rfl, hle, hmx, _, _⟩ := hv
  unfold maxLen at hmx
  rw [zs_length] at *
  have HRD := hid (fun x (hx : x < b.length) wz (kz : Keeps w wz) => (hv0.keeps kz).zs_cell x hx)
  clear hv0
  clear hbm hr ht ha hp
  obtain ⟨name, hname⟩ : ∃ name, name = nameK k := ⟨_, rfl⟩
  rw [← hname]
  have HNM := hid hname; clear hname
  generalize mxB b = mx at *
  generalize widB b = wd at *
  generalize depB b = dp at *
  generalize dptL b = dl at *
  generalize hn : b.length = n at *
  have Hn := hid hn; clear hn
  go_enter Tryz.func44, Tryz.ntmps44
  go_wp2_with fail
  refine HD.out.mono ?_; rintro e w2 ⟨vd, rfl, hvd, k2⟩
  have kk := kA.trans k2
  replace c0 := k2.cell c0
  replace c1 := k2.cell c1
  have hvdi := hvd.ints (by rw [zs_length]; omega)
  obtain ⟨pd, qd, rfl, _, hmd, _, _⟩ := hvd.ints (by rw [zs_length]; omega)
  unfold maxLen at hmd
  have HVD := hid (fun j (hj : j < n) => hvdi.zs_cell j (by omega))
  clear hvd hvdi
  rw [zs_length, hdl] at *
  clear hdl
  go_wp2
  go_loop [5, 7] (fun o i' => ∃ i : Nat, i ≤ n ∧ i' = .int .i64 i ∧ o = .int .i64 (maxTo dl i)) (fun _ i => n - (intOf i).toNat)
  case atStart => exact ⟨0, by omega, rfl, rfl⟩
  case round =>
    obtain ⟨i, hi, rfl, rfl⟩ := hrel
    by_cases hlt : i < n
    · have hlt' : (i : Int) < n := by omega
      obtain ⟨b1, o1, e1, h1⟩ := HVD.out i hlt
      cases e1
      have hs : ((maxTo dl (i + 1) : Nat) : Int) = max ((maxTo dl i : Nat) : Int) ((dl.getD i 0 : Nat) : Int) := by
        rw [HSTEP.out]
        show ((max (maxTo dl i) (dl.getD i 0) : Nat) : Int) = _
        omega
      have HS := hid hs; clear hs
      generalize dl.getD i 0 = x at *
      generalize maxTo dl i = z at *
      go_wp2
      go_round
      case rel => exact ⟨i + 1, by omega, by go_num, by rw [HS.out]; first | rfl | (congr 1; omega)⟩
      case measure => simp [intOf]; omega
    · obtain rfl : i = n := by omega
      have hlt' : ¬ (i : Int) < i := by omega
      rw [← HDP.out]
      have hk9 : k = 0 ∨ k = 1 ∨ k = 2 ∨ k = 3 ∨ k = 4 ∨ k = 5 ∨ k = 6 ∨ k = 7 ∨ k = 8 := by omega
      rcases hk9 with rfl | rfl | rfl | rfl | rfl | rfl | rfl | rfl | rfl
      · obtain rfl : name = ⟨#[66, 68, 50]⟩ := HNM.out
        clear HNM
        go_wp2_with fail
        go_ret
        exact ⟨ret_bool (by rw [HOF.out]; first | (simp; done) | (simp; omega)), kk⟩
      · obtain rfl : name = ⟨#[66, 68, 51]⟩ := HNM.out
        clear HNM
        go_wp2_with fail
        go_ret
        exact ⟨ret_bool (by rw [HOF.out]; first | (simp; done) | (simp; omega)), kk⟩
      · obtain rfl : name = ⟨#[66, 87, 50]⟩ := HNM.out
        clear HNM
        go_wp2_with fail
        refine (HWD.out _ kk).mono ?_; rintro e w3 ⟨rfl, k3⟩
        go_wp2_with fail
        go_ret
        exact ⟨ret_bool (by rw [HOF.out]; first | (simp; done) | (simp; omega)), kk.trans k3⟩
      · obtain rfl : name = ⟨#[66, 87, 51]⟩ := HNM.out
        clear HNM
        go_wp2_with fail
        refine (HWD.out _ kk).mono ?_; rintro e w3 ⟨rfl, k3⟩
        go_wp2_with fail
        go_ret
        exact ⟨ret_bool (by rw [HOF.out]; first | (simp; done) | (simp; omega)), kk.trans k3⟩
      · obtain rfl : name = ⟨#[67, 76]⟩ := HNM.out
        clear HNM
        go_wp2_with fail
        go_ret
        exact ⟨ret_bool (by rw [HOF.out]; first | (simp; done) | (simp; omega)), kk⟩
      · obtain rfl : name = ⟨#[73, 110, 116]⟩ := HNM.out
        clear HNM
        go_wp2_with fail
        go_ret
        exact ⟨ret_bool (by rw [HOF.out]; first | (simp; done) | (simp; omega)), kk⟩
      · obtain rfl : name = ⟨#[75, 67]⟩ := HNM.out
        clear HNM HVD HSTEP
        have HO6 : Hid (ofK b 6 = b.all (ofKC b)) := hid (by rw [HOF.out]; simp)
        clear HOF
        go_wp2
        go_loopw [4, 8] (fun r x' wr => ∃ x : Nat, x ≤ i ∧ x' = .int .i64 x ∧ r = .bool false ∧ (∀ j, j < x → ofKC b (b.getD j 0) = true) ∧ Keeps w2 wr) (fun _ x' _ => i - (intOf x').toNat)
        case atStart => exact ⟨0, by omega, rfl, rfl, fun j h => by omega, Keeps.refl _⟩
        case round =>
          obtain ⟨x, hx, rfl, rfl, hall, kw⟩ := hrel
          have HA := hid hall; clear hall
          have k6 := kk.trans kw
          have z0 := kw.cell c0
          have z1 := kw.cell c1
          by_cases hxn : x < i
          · have hxn' : (x : Int) < i := by omega
            obtain ⟨b1, o1, rfl, h1⟩ := HRD.out x hxn _ k6
            have kd := (Keeps.refl wr).drew
            have d0 := kd.cell z0
            have d1 := kd.cell z1
            have d2 := kd.cell h1
            have HMXd := hid (HMX.out wr.drew (k6.trans kd))
            have hand := HAND.out x
            have HBX := hid (fun wz => HCM.out (b.getD x 0 &&& mx) wz (HLT.out x))
            have hkc := HKC.out (b.getD x 0)
            have h8 := cntB_le (b.getD x 0 &&& mx)
            cases hc : ofKC b (b.getD x 0)
            · rw [hc] at hkc
              have hd : (((cntB (b.getD x 0 &&& mx) : Nat) : Int) != 1) = true := by
                rw [bne_iff_ne]; intro e
                have : cntB (b.getD x 0 &&& mx) = 1 := by omega
                rw [this] at hkc; cases hkc
              have HN := hid (HF.out _ x hxn hc)
              clear hkc hc
              generalize b.getD x 0 = g at *
              generalize cntB (g &&& mx) = cg at *
              go_wp2_with fail
              go_region_held3 (fun w' => w'.cell? ⟨w.heap.size, 0, none⟩ = some (.int .i64 i) ∧ w'.cell? ⟨w.heap.size, 1, none⟩ = some (.slice (some ⟨b1, o1, none⟩) i cap) ∧ w'.cell? ⟨b1, o1 + x, none⟩ = some (.int .i64 g)) (first | exact ⟨d0, d1, d2⟩ | exact ⟨y0, y1, y2⟩) (first | (go_at_call 113; refine HMXd.out.mono ?_; rintro e w4 ⟨rfl, k4⟩; have y0 := k4.cell d0; have y1 := k4.cell d1; have y2 := k4.cell d2) | (go_at_call 112; refine (HBX.out _).mono ?_; rintro e w' ⟨rfl, rfl⟩))
              go_wp2_with fail
              go_ret
              exact ⟨ret_bool (by rw [HO6.out, HN.out]), (k6.trans kd).trans k4⟩
            · rw [hc] at hkc
              have hd : (((cntB (b.getD x 0 &&& mx) : Nat) : Int) != 1) = false := by
                have : cntB (b.getD x 0 &&& mx) = 1 := beq_iff_eq.1 hkc.symm
                rw [this]; rfl
              have HN : Hid (∀ j, j < x + 1 → ofKC b (b.getD j 0) = true) := hid (fun j hj => by
                by_cases e : j = x
                · subst e; exact hc
                · exact HA.out j (by omega))
              clear hkc hc
              generalize b.getD x 0 = g at *
              generalize cntB (g &&& mx) = cg at *
              go_wp2_with fail
              go_region_held3 (fun w' => w'.cell? ⟨w.heap.size, 0, none⟩ = some (.int .i64 i) ∧ w'.cell? ⟨w.heap.size, 1, none⟩ = some (.slice (some ⟨b1, o1, none⟩) i cap) ∧ w'.cell? ⟨b1, o1 + x, none⟩ = some (.int .i64 g)) (first | exact ⟨d0, d1, d2⟩ | exact ⟨y0, y1, y2⟩) (first | (go_at_call 113; refine HMXd.out.mono ?_; rintro e w4 ⟨rfl, k4⟩; have y0 := k4.cell d0; have y1 := k4.cell d1; have y2 := k4.cell d2) | (go_at_call 112; refine (HBX.out _).mono ?_; rintro e w' ⟨rfl, rfl⟩))
              go_wp2_with fail
              go_roundw
              case rel => exact ⟨x + 1, by omega, by go_num, rfl, HN.out, (kw.trans kd).trans k4⟩
              case measure => simp [intOf]; omega
          · obtain rfl : x = i := by omega
            have hxn' : ¬ (x : Int) < x := by omega
            have HN := hid (HT.out _ HA.out)
            go_wp2_with fail
            go_ret
            exact ⟨ret_bool (by rw [HO6.out, HN.out]), k6⟩
      · obtain rfl : name = ⟨#[76, 67]⟩ := HNM.out
        clear HNM
        go_wp2_with fail
        refine (HWD.out _ kk).mono ?_; rintro e w3 ⟨rfl, k3⟩
        go_wp2_with fail
        go_ret
        exact ⟨ret_bool (by rw [HOF.out]; first | (simp; done) | (simp; omega)), kk.trans k3⟩
      · obtain rfl : name = ⟨#[83, 109, 76]⟩ := HNM.out
        clear HNM HVD HSTEP
        have HO8 : Hid (ofK b 8 = b.all ofSmL) := hid (by rw [HOF.out]; simp)
        clear HOF
        go_wp2
        go_loop [4, 9] (fun r x' => ∃ x : Nat, x ≤ i ∧ x' = .int .i64 x ∧ r = .bool false ∧ (∀ j, j < x → ofSmL (b.getD j 0) = true)) (fun _ x' => i - (intOf x').toNat)
        case atStart => exact ⟨0, by omega, rfl, rfl, fun j h => by omega⟩
        case round =>
          obtain ⟨x, hx, rfl, rfl, hall⟩ := hrel
          have HA := hid hall; clear hall
          by_cases hxn : x < i
          · have hxn' : (x : Int) < i := by omega
            obtain ⟨b1, o1, rfl, h1⟩ := HRD.out x hxn _ kk
            have HBX := hid (fun wz => HCM.out (b.getD x 0) wz (HB.out x))
            have hkc := HSM.out (b.getD x 0)
            cases hc : ofSmL (b.getD x 0)
            · rw [hc] at hkc
              have hd : decide (((cntB (b.getD x 0) : Nat) : Int) > 2) = true := by
                have := of_decide_eq_false hkc.symm
                rw [decide_eq_true_eq]; omega
              have HN := hid (HF.out _ x hxn hc)
              clear hkc hc
              generalize b.getD x 0 = g at *
              generalize cntB g = cg at *
              go_wp2_with fail
              refine (HBX.out _).mono ?_; rintro e w' ⟨rfl, rfl⟩
              go_wp2_with fail
              go_ret
              exact ⟨ret_bool (by rw [HO8.out, HN.out]), kk⟩
            · rw [hc] at hkc
              have hd : decide (((cntB (b.getD x 0) : Nat) : Int) > 2) = false := by
                have := of_decide_eq_true hkc.symm
                rw [decide_eq_false_iff_not]; omega
              have HN : Hid (∀ j, j < x + 1 → ofSmL (b.getD j 0) = true) := hid (fun j hj => by
                by_cases e : j = x
                · subst e; exact hc
                · exact HA.out j (by omega))
              clear hkc hc
              generalize b.getD x 0 = g at *
              generalize cntB g = cg at *
              go_wp2_with fail
              refine (HBX.out _).mono ?_; rintro e w' ⟨rfl, rfl⟩
              go_wp2_with fail
              go_round
              case rel => exact ⟨x + 1, by omega, by go_num, rfl, HN.out⟩
              case measure => simp [intOf]; omega
          · obtain rfl : x = i := by omega
            have hxn' : ¬ (x : Int) < x := by omega
            have HN := hid (HT.out _ HA.out)
            go_wp2_with fail
            go_ret
            exact ⟨ret_bool (by rw [HO8.out, HN.out]), kk⟩
end Go.Proofs.YtponaoefpicfpaaGreatDoor
/- The program: whether an order is one of a logic. -/
namespace Go.Proofs.YtponaoefpicfpaaGreatDoor
open Go.RowKit
--
set_option maxRecDepth 20000 in
theorem isOf_2_any (b : List Nat) (n : Int) (m B : Nat) (v : Value) (w : World) (hv : Ints w v (zs b)) (hb : b.length ≤ 8) (hm : m < 256)
    (c0 : w.cell? ⟨B, 0, none⟩ = some (.int .i64 n)) (c1 : w.cell? ⟨B, 1, none⟩ = some v) :
    Calls Tryz.prog 158 #[.int .i64 m, .pointer (some ⟨B, 0, none⟩)] w fun e w' => e = .returned (.bool (ofKC b m)) ∧ Keeps w w' := by
  have h256 := two8 hb
  have hmx8 : mxB b < 256 := Nat.lt_of_lt_of_le (mxT_lt b b.length) h256
  have HM := hid (maximal_any b n v w hv hb)
  have hand := andN m (mxB b) (by omega) (by omega)
  have HC := hid (fun wz => countMembers_any (m &&& mxB b) wz (Nat.lt_of_le_of_lt Nat.and_le_right hmx8))
  have h8 := cntB_le (m &&& mxB b)
  have HK : Hid (ofKC b m = (cntB (m &&& mxB b) == 1)) := hid rfl
  obtain ⟨p, cap, rfl, _⟩ := hv
  generalize mxB b = mx at *
  generalize hcg : cntB (m &&& mx) = cg at *
  have HCG := hid hcg; clear hcg
  go_enter Tryz.func158, Tryz.ntmps158
  go_wp2_with fail
  refine HM.out.mono ?_; rintro e w2 ⟨rfl, k2⟩
  go_wp2_with fail
  refine (HC.out _).mono ?_; rintro e w' ⟨rfl, rfl⟩
  go_wp2_with fail
  go_ret
  refine ⟨ret_bool ?_, k2⟩
  rw [HK.out, Bool.eq_iff_iff, beq_iff_eq, beq_iff_eq]
  omega
theorem enters_isOf_2 : Enters 158 := fun _ _ => by kernel_rfl
--
theorem isOf_3_any (m : Nat) (w : World) (hm : m < 256) :
    Calls Tryz.prog 160 #[.int .i64 m] w fun e w' => e = .returned (.bool (ofSmL m)) ∧ Keeps w w' := by
  have HC := hid (fun wz => countMembers_any m wz hm)
  have HK : Hid (ofSmL m = decide (cntB m ≤ 2)) := hid rfl
  generalize hcg : cntB m = cg at *
  have HCG := hid hcg; clear hcg
  go_enter Tryz.func160, Tryz.ntmps160
  go_wp2_with fail
  refine (HC.out _).mono ?_; rintro e w' ⟨rfl, rfl⟩
  go_wp2_with fail
  go_ret
  refine ⟨ret_bool ?_, Keeps.refl _⟩
  rw [HK.out, decide_eq_decide]
  omega
theorem enters_isOf_3 : Enters 160 := fun _ _ => by kernel_rfl
--
set_option maxRecDepth 20000 in
theorem isOf_1_1_any (P : Nat → Bool) (f : FuncId) (cp : Array Value) (m B : Nat) (w : World) (hcf : Enters f) (hc : w.cell? ⟨B, 0, none⟩ = some (.func (.func f) #[] cp))
    (hf : Calls Tryz.prog f (#[.int .i64 m] ++ cp) w fun e w2 => e = .returned (.bool (P m)) ∧ Keeps w w2) :
    Calls Tryz.prog 153 #[.int .i64 m, .pointer (some ⟨B, 0, none⟩)] w fun e w' => e = .returned (.bool (!P m)) ∧ Keeps w w' := by
  have HF := hid hf; clear hf
  have hcf' : ∀ args w, (callFunc f args).run Tryz.prog w = .ok (.enter f args) w := hcf
  clear hcf
  generalize P m = r at *
  go_enter Tryz.func153, Tryz.ntmps153
  go_wp2_with ((with_reducible refine HF.out.mono ?_); rintro e w2 ⟨rfl, k2⟩)
  go_ret
  exact ⟨rfl, k2⟩
theorem enters_isOf_1_1 : Enters 153 := fun _ _ => by kernel_rfl
set_option maxRecDepth 20000 in
theorem isOf_1_any (b : List Nat) (n : Int) (P : Nat → Bool) (f : FuncId) (cp : Array Value) (B : Nat) (v : Value) (w : World) (hv : Ints w v (zs b)) (hcf : Enters f)
    (c0 : w.cell? ⟨B, 0, none⟩ = some (.int .i64 n)) (c1 : w.cell? ⟨B, 1, none⟩ = some v)
    (hf : ∀ m w1, m ∈ b → Keeps w w1 → Calls Tryz.prog f (#[.int .i64 m] ++ cp) w1 fun e w2 => e = .returned (.bool (P m)) ∧ Keeps w1 w2) :
    Calls Tryz.prog 151 #[.func (.func f) #[] cp, .pointer (some ⟨B, 0, none⟩)] w fun e w' => e = .returned (.bool (b.all P)) ∧ Keeps w w' := by
  have kA := (Keeps.refl w).alloc (.cells #[.func (.func f) #[] cp] 128)
  have hc : (w.alloc (.cells #[.func (.func f) #[] cp] 128)).cell? ⟨w.heap.size, 0, none⟩ = some (.func (.func f) #[] cp) := by simp
  replace c0 := kA.cell c0
  replace c1 := kA.cell c1
  have HC := hid (containsFuncI (fun x => !P x.toNat) 153 #[.pointer (some ⟨w.heap.size, 0, none⟩)] (zs b) v (w.alloc (.cells #[.func (.func f) #[] cp] 128)) (hv.keeps kA) enters_isOf_1_1 (fun x w1 hx k1 => by
    unfold zs at hx
    obtain ⟨m, hm, rfl⟩ := List.mem_map.1 hx
    exact isOf_1_1_any P f cp m w.heap.size w1 hcf (k1.cell hc) (hf m w1 hm (kA.trans k1))))
  have he : (!((zs b).any fun x => !P x.toNat)) = b.all P := by
    rw [zs_any, not_any_not]; rfl
  have HE := hid he; clear he
  clear hc hf hcf
  obtain ⟨p, cap, rfl, _⟩ := hv
  go_enter Tryz.func151, Tryz.ntmps151
  go_wp2_with fail
  refine HC.out.mono ?_; rintro e w2 ⟨rfl, k2⟩
  go_wp2_with fail
  go_ret
  exact ⟨ret_bool HE.out, kA.trans k2⟩
theorem enters_isOf_1 : Enters 151 := fun _ _ => by kernel_rfl
--
theorem posetAll_any (b : List Nat) (v : Value) (w : World) (hv : Ints w v (zs b)) (hb : b.length ≤ 8) :
    Calls Tryz.prog 157 #[.agg #[.int .i64 b.length, v]] w fun e w' => e = .returned (.int .i64 ((2 ^ b.length - 1 : Nat) : Int)) ∧ Keeps w w' := by
  have kA := (Keeps.refl w).alloc (.cells #[.int .i64 b.length, v] 32)
  obtain ⟨c0, c1⟩ := BoxF.made w b.length v 32
  have hpos : 0 < 2 ^ b.length := Nat.two_pow_pos _
  have e2 : ((2 ^ b.length - 1 : Nat) : Int) = (2 : Int) ^ b.length - 1 := by
    rw [Int.ofNat_sub (by omega)]; push_cast; rfl
  obtain ⟨e3, e4⟩ := pow63 b.length (by omega)
  rw [e2]
  obtain ⟨p, cap, rfl, _⟩ := hv
  rw [zs_length] at *
  generalize hn : b.length = n at *
  have HN := hid hn; clear hn e2 hpos
  go_enter Tryz.func157, Tryz.ntmps157
  go_wp2_with fail
  go_ret
  exact ⟨rfl, kA⟩
--
set_option maxRecDepth 20000 in
set_option maxHeartbeats 4000000 in
theorem isOf_any (b : List Nat) (hp : Pos b) (k : Nat) (hk : k < 9) (v : Value) (w : World) (hv : Ints w v (zs b)) :
    Calls Tryz.prog 74 #[.agg #[.int .i64 b.length, v], .string (nameK k)] w fun e w' => e = .returned (.bool (ofK b k)) ∧ Keeps w w' := by
  obtain ⟨hb, hbm, hr, ht, ha⟩ := id hp
  have h256 := two8 hb
  have kA := (Keeps.refl w).alloc (.cells #[.int .i64 b.length, v] 32)
  obtain ⟨c0, c1⟩ := BoxF.made w b.length v 32
  have hm256 : ∀ m ∈ b, m < 256 := fun m hm => by
    obtain ⟨j, hj, rfl⟩ := List.getElem_of_mem hm
    have := hbm j
    rw [getD_get hj] at this
    omega
  have HD := hid (fun wz (kz : Keeps w wz) => posetDepth_any b hp v wz (hv.keeps kz))
  have HWD := hid (fun wz (kz : Keeps w wz) => width_any b b.length v wz (hv.keeps kz) hb hbm)
  have HMX := hid (fun wz (kz : Keeps w wz) => maximal_any b b.length v wz (hv.keeps kz) hb)
  have HAL := hid (fun wz (kz : Keeps w wz) => posetAll_any b v wz (hv.keeps kz) hb)
  have H6 := hid (fun wz (kz : Keeps (w.alloc (.cells #[.int .i64 b.length, v] 32)) wz) => isOf_1_any b b.length (ofKC b) 158 #[.pointer (some ⟨w.heap.size, 0, none⟩)] w.heap.size v wz (hv.keeps (kA.trans kz)) enters_isOf_2 (kz.cell c0) (kz.cell c1)
    (fun m w1 hm k1 => isOf_2_any b b.length m w.heap.size v w1 (hv.keeps ((kA.trans kz).trans k1)) hb (hm256 m hm) (k1.cell (kz.cell c0)) (k1.cell (kz.cell c1))))
  have H8 := hid (fun wz (kz : Keeps (w.alloc (.cells #[.int .i64 b.length, v] 32)) wz) => isOf_1_any b b.length ofSmL 160 #[] w.heap.size v wz (hv.keeps (kA.trans kz)) enters_isOf_3 (kz.cell c0) (kz.cell c1)
    (fun m w1 hm _ => isOf_3_any m w1 (hm256 m hm)))
  have h1' : ∀ args w, (callFunc 151 args).run Tryz.prog w = .ok (.enter 151 args) w := enters_isOf_1
  have HCL := hid (cl_eq hp)
  have HDP : Hid (depB b = maxTo (dptL b) b.length) := hid rfl
  have HOF : Hid (∀ k, ofK b k = if k = 0 then decide (depB b ≤ 2) else if k = 1 then decide (depB b ≤ 3) else if k = 2 then decide (widB b ≤ 2) else if k = 3 then decide (widB b ≤ 3)
    else if k = 4 then decide (depB b ≤ 1) else if k = 6 then b.all (ofKC b) else if k = 7 then decide (widB b ≤ 1) else if k = 8 then b.all ofSmL else true) := hid (fun _ => rfl)
  have kd := (Keeps.refl (w.alloc (.cells #[.int .i64 b.length, v] 32))).drew
  have d0 := kd.cell c0
  have d1 := kd.cell c1
  obtain ⟨p, cap, rfl, _⟩ := hv
  rw [zs_length] at *
  clear hbm hr ht ha hp hm256
  obtain ⟨name, hname⟩ : ∃ name, name = nameK k := ⟨_, rfl⟩
  rw [← hname]
  have HNM := hid hname; clear hname
  generalize mxB b = mx at *
  generalize widB b = wd at *
  rw [← HDP.out] at HD
  generalize depB b = dp at *
  generalize b.all (ofKC b) = r6 at *
  generalize b.all ofSmL = r8 at *
  generalize 2 ^ b.length - 1 = full at *
  generalize hn : b.length = n at *
  have Hn := hid hn; clear hn
  have hk9 : k = 0 ∨ k = 1 ∨ k = 2 ∨ k = 3 ∨ k = 4 ∨ k = 5 ∨ k = 6 ∨ k = 7 ∨ k = 8 := by omega
  rcases hk9 with rfl | rfl | rfl | rfl | rfl | rfl | rfl | rfl | rfl
  · obtain rfl : name = ⟨#[66, 68, 50]⟩ := HNM.out
    clear HNM
    go_enter Tryz.func74, Tryz.ntmps74
    go_wp2_with fail
    refine (HD.out _ kA).mono ?_; rintro e w3 ⟨rfl, k3⟩
    go_wp2_with fail
    go_ret
    exact ⟨ret_bool (by rw [HOF.out]; first | (simp; done) | (simp; omega)), kA.trans k3⟩
  · obtain rfl : name = ⟨#[66, 68, 51]⟩ := HNM.out
    clear HNM
    go_enter Tryz.func74, Tryz.ntmps74
    go_wp2_with fail
    refine (HD.out _ kA).mono ?_; rintro e w3 ⟨rfl, k3⟩
    go_wp2_with fail
    go_ret
    exact ⟨ret_bool (by rw [HOF.out]; first | (simp; done) | (simp; omega)), kA.trans k3⟩
  · obtain rfl : name = ⟨#[66, 87, 50]⟩ := HNM.out
    clear HNM
    go_enter Tryz.func74, Tryz.ntmps74
    go_wp2_with fail
    refine (HWD.out _ kA).mono ?_; rintro e w3 ⟨rfl, k3⟩
    go_wp2_with fail
    go_ret
    exact ⟨ret_bool (by rw [HOF.out]; first | (simp; done) | (simp; omega)), kA.trans k3⟩
  · obtain rfl : name = ⟨#[66, 87, 51]⟩ := HNM.out
    clear HNM
    go_enter Tryz.func74, Tryz.ntmps74
    go_wp2_with fail
    refine (HWD.out _ kA).mono ?_; rintro e w3 ⟨rfl, k3⟩
    go_wp2_with fail
    go_ret
    exact ⟨ret_bool (by rw [HOF.out]; first | (simp; done) | (simp; omega)), kA.trans k3⟩
  · obtain rfl : name = ⟨#[67, 76]⟩ := HNM.out
    clear HNM
    have kdA := kA.trans kd
    have HO4 : Hid (ofK b 4 = (mx == full)) := hid (by rw [HOF.out, HCL.out]; simp)
    clear HOF HCL
    have HMd := hid (HMX.out _ kdA)
    have HAd := hid (HAL.out _ kdA)
    have HMAd := hid (fun wz (kz : Keeps (w.alloc (.cells #[.int .i64 n, .slice p n cap] 32)).drew wz) => HMX.out wz (kdA.trans kz))
    have HAMd := hid (fun wz (kz : Keeps (w.alloc (.cells #[.int .i64 n, .slice p n cap] 32)).drew wz) => HAL.out wz (kdA.trans kz))
    go_enter Tryz.func74, Tryz.ntmps74
    go_wp2_with fail
    go_region_held3 (fun w' => Keeps (w.alloc (.cells #[.int .i64 n, .slice p n cap] 32)).drew w' ∧ w'.cell? ⟨w.heap.size, 0, none⟩ = some (.int .i64 n) ∧ w'.cell? ⟨w.heap.size, 1, none⟩ = some (.slice p n cap)) (first | exact ⟨Keeps.refl _, d0, d1⟩ | exact ⟨k4, y0, y1⟩ | exact ⟨k5, x0, x1⟩ | exact ⟨k46, t0, t1⟩) (first | (go_at_call 156; refine HMd.out.mono ?_; rintro e w4 ⟨rfl, k4⟩; have y0 := k4.cell d0; have y1 := k4.cell d1) | (go_at_call 157; refine (HAMd.out _ k4).mono ?_; rintro e w6 ⟨rfl, k6⟩; have k46 := k4.trans k6; have t0 := k6.cell y0; have t1 := k6.cell y1) | (go_at_call 157; refine HAd.out.mono ?_; rintro e w5 ⟨rfl, k5⟩; have x0 := k5.cell d0; have x1 := k5.cell d1) | (go_at_call 156; refine (HMAd.out _ k5).mono ?_; rintro e w6 ⟨rfl, k6⟩; have k46 := k5.trans k6; have t0 := k6.cell x0; have t1 := k6.cell x1))
    all_goals
      go_wp2_with fail
      go_ret
      refine ⟨ret_bool ?_, kdA.trans k46⟩
      rw [HO4.out, Bool.eq_iff_iff, beq_iff_eq, beq_iff_eq]
      omega
  · obtain rfl : name = ⟨#[73, 110, 116]⟩ := HNM.out
    clear HNM
    go_enter Tryz.func74, Tryz.ntmps74
    go_wp2_with fail
    go_ret
    exact ⟨ret_bool (by rw [HOF.out]; first | (simp; done) | (simp; omega)), kA⟩
  · obtain rfl : name = ⟨#[75, 67]⟩ := HNM.out
    clear HNM
    go_enter Tryz.func74, Tryz.ntmps74
    go_wp2_with fail
    refine (H6.out _ (Keeps.refl _)).mono ?_; rintro e w3 ⟨rfl, k3⟩
    go_wp2_with fail
    go_ret
    exact ⟨ret_bool (by rw [HOF.out]; first | (simp; done) | (simp; omega)), kA.trans k3⟩
  · obtain rfl : name = ⟨#[76, 67]⟩ := HNM.out
    clear HNM
    go_enter Tryz.func74, Tryz.ntmps74
    go_wp2_with fail
    refine (HWD.out _ kA).mono ?_; rintro e w3 ⟨rfl, k3⟩
    go_wp2_with fail
    go_ret
    exact ⟨ret_bool (by rw [HOF.out]; first | (simp; done) | (simp; omega)), kA.trans k3⟩
  · obtain rfl : name = ⟨#[83, 109, 76]⟩ := HNM.out
    clear HNM
    go_enter Tryz.func74, Tryz.ntmps74
    go_wp2_with fail
    refine (H8.out _ (Keeps.refl _)).mono ?_; rintro e w3 ⟨rfl, k3⟩
    go_wp2_with fail
    go_ret
    exact ⟨ret_bool (by rw [HOF.out]; first | (simp; done) | (simp; omega)), kA.trans k3⟩
end Go.Proofs.YtponaoefpicfpaaGreatDoor
/- IsPosetOf: both sides. -/
namespace Go.Proofs.YtponaoefpicfpaaGreatDoor
open Go.RowKit
/-- the error and the answer -/
def poC (n : Int) (a : List Int) (name : ByteArray) : Int := if isPos n a = true then (if 0 ≤ findS names9 name then 0 else 4) else 1
def poR (n : Int) (a : List Int) (name : ByteArray) : Bool := if isPos n a = true then (if 0 ≤ findS names9 name then ofK (a.map Int.toNat) (findS names9 name).toNat else false) else false
theorem pos_of {n : Int} {a : List Int} (h : isPos n a = true) : ∃ b : List Nat, a = zs b ∧ n = b.length ∧ Pos b := by
  obtain ⟨b, h1, h2, h3, h4, h5⟩ := (isPos_iff n a).1 h
  exact ⟨b, h1, h2, Pos.of h3 h4 h5⟩
--
set_option maxRecDepth 20000 in
theorem l30Code_any (n : Int) (a : List Int) (name : ByteArray) (v : Value) (w : World) (hv : Ints w v a) :
    Calls Tryz.prog 80 #[.agg #[.int .i64 n, v], .string name] w fun e w' => e = .returned (.int .i64 (poC n a name)) ∧ Keeps w w' := by
  have kA := (Keeps.refl w).alloc (.cells #[.int .i64 n, v] 32)
  obtain ⟨c0, c1⟩ := BoxF.made w n v 32
  have HI := hid (l16Is_any n a v _ (hv.keeps kA))
  have HK := hid (fun wz => l30Known_any name wz)
  have HC : Hid (poC n a name = if isPos n a = true then (if 0 ≤ findS names9 name then 0 else 4) else 1) := hid rfl
  obtain ⟨p, cap, rfl, _⟩ := hv
  generalize findS names9 name = k at *
  cases hi : isPos n a
  · rw [hi] at HI HC
    clear hi
    go_enter Tryz.func80, Tryz.ntmps80
    go_wp2_with fail
    refine HI.out.mono ?_; rintro e w2 ⟨rfl, k2⟩
    go_wp2_with fail
    go_ret
    exact ⟨ret_int (by rw [HC.out]; simp), kA.trans k2⟩
  · rw [hi] at HI HC
    clear hi
    by_cases hk : 0 ≤ k
    · rw [decide_eq_true hk] at HK
      rw [if_pos rfl, if_pos hk] at HC
      clear hk
      go_enter Tryz.func80, Tryz.ntmps80
      go_wp2_with fail
      refine HI.out.mono ?_; rintro e w2 ⟨rfl, k2⟩
      go_wp2_with fail
      refine (HK.out _).mono ?_; rintro e w3 ⟨rfl, k3⟩
      go_wp2_with fail
      go_ret
      exact ⟨ret_int (by rw [HC.out]), (kA.trans k2).trans k3⟩
    · rw [decide_eq_false hk] at HK
      rw [if_pos rfl, if_neg hk] at HC
      clear hk
      go_enter Tryz.func80, Tryz.ntmps80
      go_wp2_with fail
      refine HI.out.mono ?_; rintro e w2 ⟨rfl, k2⟩
      go_wp2_with fail
      refine (HK.out _).mono ?_; rintro e w3 ⟨rfl, k3⟩
      go_wp2_with fail
      go_ret
      exact ⟨ret_int (by rw [HC.out]), (kA.trans k2).trans k3⟩
--
set_option maxRecDepth 20000 in
theorem specIsPosetOf (n : Int) (a : List Int) (name : ByteArray) (v : Value) (w : World) (hv : Ints w v a) :
    Calls Tryz.prog 31 #[.agg #[.int .i64 n, v], .string name] w fun e w' => e = .returned (.tuple #[.bool (poR n a name), .int .i64 (poC n a name)]) ∧ Keeps w w' := by
  have kA := (Keeps.refl w).alloc (.cells #[.int .i64 n, v] 32)
  obtain ⟨c0, c1⟩ := BoxF.made w n v 32
  have HI := hid (l30Code_any n a name v _ (hv.keeps kA))
  have HR : Hid (poR n a name = if isPos n a = true then (if 0 ≤ findS names9 name then ofK (a.map Int.toNat) (findS names9 name).toNat else false) else false) := hid rfl
  have HC : Hid (poC n a name = if isPos n a = true then (if 0 ≤ findS names9 name then 0 else 4) else 1) := hid rfl
  by_cases hc : isPos n a = true ∧ 0 ≤ findS names9 name
  · obtain ⟨b, rfl, rfl, hp⟩ := pos_of hc.1
    obtain ⟨k, hk⟩ := Int.eq_ofNat_of_zero_le hc.2
    obtain ⟨hk9, rfl⟩ := find9_name hk
    have HO := hid (fun wz (kz : Keeps w wz) => l30Of_any b hp k hk9 v wz (hv.keeps kz))
    have HR2 : Hid (poR b.length (zs b) (nameK k) = ofK b k) := hid (by rw [HR.out, if_pos hc.1, if_pos hc.2, zs_toNat, hk]; rfl)
    have HC2 : Hid (poC b.length (zs b) (nameK k) = 0) := hid (by rw [HC.out, if_pos hc.1, if_pos hc.2])
    rw [HC2.out] at HI
    obtain ⟨p, cap, rfl, _⟩ := hv
    clear hc HR HC hk hp
    rw [HC2.out, HR2.out]
    generalize ofK b k = r at *
    generalize nameK k = nm at *
    go_enter Tryz.func31, Tryz.ntmps31
    go_wp2_with fail
    refine HI.out.mono ?_; rintro e w2 ⟨rfl, k2⟩
    have z0 := k2.cell c0
    have z1 := k2.cell c1
    go_wp2_with fail
    refine (HO.out _ (kA.trans k2)).mono ?_; rintro e w3 ⟨rfl, k3⟩
    go_wp2_with fail
    go_ret2
    exact ⟨rfl, (kA.trans k2).trans k3⟩
  · have hr : poR n a name = false := by
      rw [HR.out]
      by_cases h1 : isPos n a = true
      · rw [if_pos h1, if_neg (fun h2 => hc ⟨h1, h2⟩)]
      · rw [if_neg h1]
    have hcc : poC n a name = 1 ∨ poC n a name = 4 := by
      rw [HC.out]
      by_cases h1 : isPos n a = true
      · rw [if_pos h1, if_neg (fun h2 => hc ⟨h1, h2⟩)]; exact .inr rfl
      · rw [if_neg h1]; exact .inl rfl
    rw [hr]
    clear hc hr HR HC
    obtain ⟨p, cap, rfl, _⟩ := hv
    generalize poC n a name = c at *
    rcases hcc with rfl | rfl
    all_goals
      go_enter Tryz.func31, Tryz.ntmps31
      go_wp2_with fail
      refine HI.out.mono ?_; rintro e w2 ⟨rfl, k2⟩
      go_wp2_with fail
      go_ret2
      exact ⟨rfl, kA.trans k2⟩
--
set_option maxRecDepth 20000 in
theorem implIsPosetOf (n : Int) (a : List Int) (name : ByteArray) (v : Value) (w : World) (hv : Ints w v a) (hL : LaidS 1 names9 w) :
    Calls Tryz.prog 30 #[.agg #[.int .i64 n, v], .string name] w fun e w' => e = .returned (.tuple #[.bool (poR n a name), .int .i64 (poC n a name)]) ∧ Keeps w w' := by
  have kA := (Keeps.refl w).alloc (.cells #[.int .i64 n, v] 32)
  obtain ⟨c0, c1⟩ := BoxF.made w n v 32
  have HI := hid (isPoset_any n a v _ (hv.keeps kA))
  have HK := hid (fun wz (kz : Keeps w wz) => intermediateAt_any name wz (hL.keeps kz))
  have HR : Hid (poR n a name = if isPos n a = true then (if 0 ≤ findS names9 name then ofK (a.map Int.toNat) (findS names9 name).toNat else false) else false) := hid rfl
  have HC : Hid (poC n a name = if isPos n a = true then (if 0 ≤ findS names9 name then 0 else 4) else 1) := hid rfl
  clear hL
  by_cases hc : isPos n a = true
  · rw [hc] at HI
    rw [if_pos hc] at HR HC
    obtain ⟨b, rfl, rfl, hp⟩ := pos_of hc
    clear hc
    by_cases hk0 : 0 ≤ findS names9 name
    · obtain ⟨k, hk⟩ := Int.eq_ofNat_of_zero_le hk0
      rw [if_pos hk0] at HR HC
      obtain ⟨hk9, rfl⟩ := find9_name hk
      have HO := hid (fun wz (kz : Keeps w wz) => isOf_any b hp k hk9 v wz (hv.keeps kz))
      have HR2 : Hid (poR b.length (zs b) (nameK k) = ofK b k) := hid (by rw [HR.out, zs_toNat, hk]; rfl)
      rw [hk] at HK
      rw [HC.out, HR2.out]
      obtain ⟨p, cap, rfl, _⟩ := hv
      clear HR HC hk hp hk0
      generalize ofK b k = r at *
      generalize nameK k = nm at *
      go_enter Tryz.func30, Tryz.ntmps30
      go_wp2_with fail
      refine HI.out.mono ?_; rintro e w2 ⟨rfl, k2⟩
      have z0 := k2.cell c0
      have z1 := k2.cell c1
      go_wp2_with fail
      refine (HK.out _ (kA.trans k2)).mono ?_; rintro e w' ⟨rfl, rfl⟩
      go_wp2_with fail
      refine (HO.out _ (kA.trans k2)).mono ?_; rintro e w3 ⟨rfl, k3⟩
      go_wp2_with fail
      go_ret2
      exact ⟨rfl, (kA.trans k2).trans k3⟩
    · rw [if_neg hk0] at HR HC
      have hm : findS names9 name = -1 := by
        rcases find9 name with h | ⟨k, _, h⟩
        · exact h
        · omega
      rw [hm] at HK
      rw [HC.out, HR.out]
      obtain ⟨p, cap, rfl, _⟩ := hv
      clear HR HC hk0 hm hp
      go_enter Tryz.func30, Tryz.ntmps30
      go_wp2_with fail
      refine HI.out.mono ?_; rintro e w2 ⟨rfl, k2⟩
      go_wp2_with fail
      refine (HK.out _ (kA.trans k2)).mono ?_; rintro e w' ⟨rfl, rfl⟩
      go_wp2_with fail
      go_ret2
      exact ⟨rfl, kA.trans k2⟩
  · rw [if_neg hc] at HR HC
    rw [Bool.not_eq_true] at hc
    rw [hc] at HI
    rw [HC.out, HR.out]
    obtain ⟨p, cap, rfl, _⟩ := hv
    clear HR HC hc
    go_enter Tryz.func30, Tryz.ntmps30
    go_wp2_with fail
    refine HI.out.mono ?_; rintro e w2 ⟨rfl, k2⟩
    go_wp2_with fail
    go_ret2
    exact ⟨rfl, kA.trans k2⟩
end Go.Proofs.YtponaoefpicfpaaGreatDoor
