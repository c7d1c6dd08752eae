/- The reference's model of some types. -/
import Derived.Test.YtgnlfceloiilbaaGreatGEE
import Derived.Test.YtgnlfceloiilbaaGreatGEC
import Derived.Deep.RegionWith
namespace Go.Proofs.YtgnlfceloiilbaaGreat
open Go.RowKit
theorem zs_append (a b : List Nat) : zs (a ++ b) = zs a ++ zs b := by simp [zs]
/-- arrows and values while they are made -/
structure MeW (wA w : World) (o : Value) (gV : Nat) (A V : List Nat) : Prop where
  ra : OwnI w wA.heap.size o (zs A)
  rv : OwnI w wA.heap.size (.slice (some ⟨gV, 0, none⟩) 6 6) (zs V)
  ne : ∀ k, o.ownBlock = some k → k ≠ gV
  kp : Keeps wA w
  lv : V.length = 6
section
variable {wA w w' : World} {o o' : Value} {gV x : Nat} {A V : List Nat}
theorem MeW.keeps (h : MeW wA w o gV A V) (k : Keeps w w') : MeW wA w' o gV A V := ⟨h.ra.keeps k, h.rv.keeps k, h.ne, h.kp.trans k, h.lv⟩
theorem MeW.setV (h : MeW wA w o gV A V) (i x : Nat) (hi : i < 6) : MeW wA (w.setCell ⟨gV, i, none⟩ (.int .i64 (x : Int))) o gV A (V.set i x) := by
  have hs := OwnI.store h.rv i (by rw [zs_length, h.lv]; exact hi) (x : Int)
  rw [← zs_setM] at hs
  refine ⟨own_touch h.ra (Touch.grown hs.2) (fun k e hk => ?_), hs.1, h.ne, h.kp.grown hs.2 (fun k e => ?_), by simpa using h.lv⟩
  · have e2 : k = gV := by simpa [Value.ownBlock] using hk
    exact h.ne k e e2
  · cases e
    exact (h.rv.len _ rfl).1
theorem MeW.cellV (h : MeW wA w o gV A V) (i : Nat) (hi : i < 6) : w.cell? ⟨gV, i, none⟩ = some (.int .i64 (V.getD i 0 : Nat)) ∧ w.frozen? ⟨gV, i, none⟩ = false := by
  obtain ⟨a, b⟩ := h.rv.cell i (by rw [zs_length, h.lv]; exact hi)
  rw [zs_get, ← getD_get] at a
  exact ⟨a, b⟩
theorem MeW.app (h : MeW wA w o gV A V) (h1 : OwnI w' wA.heap.size o' (zs A ++ [(x : Int)])) (g : w.grownBy w' o.ownBlock) (hn : ∀ k, o'.ownBlock = some k → o.ownBlock = some k ∨ w.heap.size ≤ k) : MeW wA w' o' gV (A ++ [x]) V := by
  have hlt : gV < w.heap.size := (h.rv.len _ rfl).2
  refine ⟨by rw [zs_snoc]; exact h1, own_touch h.rv (Touch.grown g) (fun k e hk => ?_), fun k hk => ?_, h.kp.grown g (fun k e => (h.ra.len k e).1), h.lv⟩
  · have e2 : gV = k := by simpa [Value.ownBlock] using e
    exact h.ne k hk.symm e2.symm
  · rcases hn k hk with e | e
    · exact h.ne k e
    · omega
end
theorem me_start1 (wA : World) : MeW wA (mkI (wA.drew.alloc (.cells #[] 2)) 6) (.slice (some ⟨wA.heap.size, 0, none⟩) 0 0) (wA.heap.size + 1) [] (List.replicate 6 0) := by
  have k1 : Keeps wA (wA.drew.alloc (.cells #[] 2)) := (Keeps.refl wA).drew.alloc _
  have k2 := (Keeps.refl (wA.drew.alloc (.cells #[] 2))).mkI 6
  refine ⟨(OwnI.empty wA.drew).keeps k2, ?_, fun k e => ?_, k1.trans k2, by simp⟩
  · rw [← zs_repM]
    exact (own_mk (Keeps.refl _) (by simp) (by omega)).mono (by omega)
  · have : wA.heap.size = k := by simpa [Value.ownBlock] using e
    omega
theorem me_start2 (wA : World) : MeW wA ((mkI wA.drew 6).alloc (.cells #[] 2)) (.slice (some ⟨(mkI wA.drew 6).heap.size, 0, none⟩) 0 0) wA.heap.size [] (List.replicate 6 0) := by
  have k1 : Keeps wA (mkI wA.drew 6) := (Keeps.refl wA).drew.mkI 6
  have k2 := (Keeps.refl (mkI wA.drew 6)).alloc (.cells #[] 2)
  have hlt := mkI_lt wA.drew 6 (by omega)
  refine ⟨OwnI.mono (OwnI.empty (mkI wA.drew 6)) k1.size, ?_, fun k e => ?_, k1.trans k2, by simp⟩
  · rw [← zs_repM]
    exact (own_mk k2 rfl (by omega) : OwnI ((mkI wA.drew 6).alloc (.cells #[] 2)) wA.heap.size (.slice (some ⟨wA.heap.size, 0, none⟩) 6 6) (List.replicate 6 0))
  · have : (mkI wA.drew 6).heap.size = k := by simpa [Value.ownBlock] using e
    have hd : wA.drew.heap.size = wA.heap.size := rfl
    omega
--
set_option maxRecDepth 20000 in
set_option maxHeartbeats 16000000 in
theorem l12Model_any (r L N : Nat) (E : List Fm) (M : Nat → Nat) (ss : List ByteArray) (hTx : ∀ k (h1 : k < ss.length) (h2 : k < E.length), IsTx ss[k] E[k]) (W : List Nat) (hW8 : W.length ≤ 8) (hWN : ∀ t ∈ W, t < N) (v : Value) (w : World) (h : SpR w r L N E M ss) (hv : Ints w v (natI W)) :
    Calls Tryz.prog 54 #[.pointer (some ⟨r, 0, none⟩), v] w (RetMd w L E W) := by
  have h8 := h.h8
  have hN := h.hN
  have kA := (Keeps.refl w).alloc (.cells #[.int .i64 0, .slice none 0 0, .slice none 0 0] 30)
  have hbA := BoxG.made w 30 [.int .i64 0, .slice none 0 0, .slice none 0 0] (by simp) (by simp)
  have HA := hid (h.keeps kA)
  have HVA := hid (hv.keeps kA)
  have HBA := hid hbA
  obtain ⟨p1, c1, rfl, hle1, hmx1, -⟩ := hv
  unfold maxLen at hmx1
  rw [natI_len] at *
  clear h hbA
  go_enter Tryz.func54, Tryz.ntmps54
  go_upto_region 1 with fail
  generalize w.alloc (.cells #[.int .i64 0, .slice none 0 0, .slice none 0 0] 30) = wA at *
  go_cut [5, 6] from 13 to 14 (fun a b wx => ∃ gV, b = .slice (some ⟨gV, 0, none⟩) 6 6 ∧ MeW wA wx a gV [] (List.replicate 6 0))
  case first =>
    have HM2 : ∀ wz, (Instr.makeSlice 26 (.int .i64 6) (.int .i64 6)).run Tryz.prog wz = .ok (.slice (some ⟨wz.heap.size, 0, none⟩) 6 6) (mkI wz 6) := fun wz => (mkI_spec wz 6 (by omega)).1
    go_region
    all_goals
      go_wp2_with fail
      go_meet
      first | exact ⟨_, rfl, me_start1 wA⟩ | exact ⟨_, rfl, me_start2 wA⟩
  case rest =>
    obtain ⟨gV, rfl, hM⟩ := hcut
    have HM0 := hid hM
    clear hM
    have hs := HA.out.hs
    obtain ⟨v1, c1e, hv1⟩ := HA.out.c1
    obtain ⟨pe, qe, rfl, hce1, hce2, _⟩ := hv1.shape
    unfold maxLen at hce2
    have HTXS := hid hv1
    rw [hs] at c1e hce1
    have HSEW := hid (fun x y (hx : x < W.length) (hy : y < W.length) wz (kz : Keeps wA wz) => seeR r L N E M ss wA HA.out (W.getD x 0) (W.getD y 0) wz (hWN _ (by rw [List.getD_eq_getElem?_getD, List.getElem?_eq_getElem hx]; exact List.getElem_mem hx)) (hWN _ (by rw [List.getD_eq_getElem?_getD, List.getElem?_eq_getElem hy]; exact List.getElem_mem hy)) kz)
    have HKD := hid (fun k (hk : k < E.length) wz (kz : Keeps wA wz) => (HA.out.keeps kz).kind k hk)
    have HONE := hid (fun (x : Nat) wz (h : x ≤ 62) => l01One_any (x : Int) wz (by omega) (by omega))
    have HTX := hid hTx
    have HWN := hid hWN
    have HSS := hid hs
    have HAC : Hid (∀ x, x < W.length → zs ((List.range x).map (cmA L E W)) ++ [((cmA L E W x : Nat) : Int)] = zs ((List.range (x + 1)).map (cmA L E W))) := hid (fun x _ => by rw [List.range_succ, List.map_append, zs_append]; rfl)
    have hel := HA.out.hel
    have HEL := hid hel
    clear hTx hWN hs hv1 hel
    go_wp2_with fail
    go_loopw [5, 7] (fun o i' wr => ∃ x : Nat, x ≤ W.length ∧ i' = .int .i64 x ∧ MeW wA wr o gV ((List.range x).map (cmA L E W)) (cmV E W x)) (fun _ i' _ => W.length - (intOf i').toNat)
    case atStart => exact ⟨0, by omega, rfl, HM0.out⟩
    case round =>
      obtain ⟨x, hx, rfl, hM⟩ := hrel
      obtain ⟨p5, q5, rfl, hq5, hx5, -⟩ := At.of_own hM.ra
      unfold maxLen at hx5
      have hzl : (zs ((List.range x).map (cmA L E W))).length ≤ 8 := by rw [zs_length]; simp; omega
      have HM := hid hM
      clear hM HM0
      by_cases hlt : x < W.length
      · have hlt' : (x : Int) < W.length := by omega
        have HX := hid (fun y hy wz kz => HSEW.out x y hlt hy wz kz)
        have HACx := hid (HAC.out x hlt)
        have HMK : Hid (∀ y, mskB (fun k => seeB L E (W.getD x 0) (W.getD k 0)) (y + 1) = if seeB L E (W.getD x 0) (W.getD y 0) then mskB (fun k => seeB L E (W.getD x 0) (W.getD k 0)) y ||| 2 ^ y else mskB (fun k => seeB L E (W.getD x 0) (W.getD k 0)) y) := hid (fun y => rfl)
        have HMC : Hid (cmA L E W x = mskB (fun k => seeB L E (W.getD x 0) (W.getD k 0)) W.length) := hid rfl
        have HML : Hid (∀ y, y ≤ 8 → mskB (fun k => seeB L E (W.getD x 0) (W.getD k 0)) y < 256) := hid (fun y hy => msk_lt8 hy)
        have HV1 : Hid (∀ V k, cmVx E W V x (k + 1) = cmV1 E (W.getD x 0) x (cmVx E W V x k) k) := hid (fun V k => cmVx_next E W V x k)
        have HVB := hid (fun k => cmVx_both (E := E) (W := W) (V := cmV E W x) (x := x) (n := 8) (by omega) (cmV_both E W 8 x (by omega)).2 k)
        have HVE : Hid (cmVx E W (cmV E W x) x E.length = cmV E W (x + 1)) := hid rfl
        have HFN : Hid (W.getD x 0 < 256) := hid (by have := HWN.out (W.getD x 0) (by rw [List.getD_eq_getElem?_getD, List.getElem?_eq_getElem hlt]; exact List.getElem_mem hlt); omega)
        have HWX : Hid (∀ wz, Keeps wA wz → ∃ b o, p1 = some ⟨b, o, none⟩ ∧ wz.cell? ⟨b, o + x, none⟩ = some (.int .i64 (W.getD x 0 : Nat)) ∧ ∀ y, y < W.length → wz.cell? ⟨b, o + y, none⟩ = some (.int .i64 (W.getD y 0 : Nat))) := hid (fun wz kz => by
          obtain ⟨_, _, e, _, _, hat, _⟩ := HVA.out.keeps kz
          rw [natI_len] at e
          cases e
          obtain ⟨b1, o1, rfl, h1⟩ := hat.int x (by rw [natI_len]; exact hlt)
          rw [natI_get] at h1
          refine ⟨b1, o1, rfl, h1, fun y hy => ?_⟩
          obtain ⟨_, _, e, h2⟩ := hat.int y (by rw [natI_len]; exact hy)
          cases e
          rw [natI_get] at h2
          exact h2)
        generalize W.getD x 0 = fr at *
        have HAP : Hid ((List.range x).map (cmA L E W) ++ [cmA L E W x] = (List.range (x + 1)).map (cmA L E W)) := hid (by rw [List.range_succ, List.map_append]; rfl)
        generalize hal : zs ((List.range x).map (cmA L E W)) = AL at *
        have HAL := hid hal
        clear hal
        generalize cmA L E W x = ax at *
        generalize (fun k => seeB L E fr (W.getD k 0)) = pm at *
        obtain ⟨b1, o1, rfl, -, -⟩ := HWX.out wr HM.out.kp
        have HWX2 : Hid (∀ wz, Keeps wA wz → wz.cell? ⟨b1, o1 + x, none⟩ = some (.int .i64 fr) ∧ ∀ y, y < W.length → wz.cell? ⟨b1, o1 + y, none⟩ = some (.int .i64 (W.getD y 0 : Nat))) := hid (fun wz kz => by
          obtain ⟨b, o, e, h1, h2⟩ := HWX.out wz kz
          cases e
          exact ⟨h1, h2⟩)
        clear HWX HAC
        go_wp2_with fail
        generalize wr = wo at *
        go_loopw [8, 9] (fun m' y' wq => ∃ y : Nat, y ≤ W.length ∧ y' = .int .i64 y ∧ m' = .int .i64 (mskB pm y : Nat) ∧ Keeps wo wq) (fun _ y' _ => W.length - (intOf y').toNat)
        case atStart => exact ⟨0, by omega, rfl, rfl, Keeps.refl _⟩
        case round =>
          obtain ⟨y, hy, rfl, rfl, kq⟩ := hrel
          have HKQ := hid (HM.out.kp.trans kq)
          by_cases hyl : y < W.length
          · have hyl' : (y : Int) < W.length := by omega
            obtain ⟨g1, g2⟩ := HWX2.out _ (HKQ.out.drew)
            replace g2 := g2 y hyl
            have HK := hid (HX.out y hyl _ (HKQ.out.drew))
            have HMY := hid (HMK.out y)
            have hml := HML.out y (by omega)
            have HO := hid (fun wz => HONE.out y wz (by omega))
            generalize W.getD y 0 = t2 at *
            generalize seeB L E fr t2 = b at *
            generalize hmy : mskB pm y = my at *
            clear hmy
            go_wp2_with fail
            go_region_held3 (fun w' => w'.cell? ⟨b1, o1 + x, none⟩ = some (.int .i64 fr) ∧ w'.cell? ⟨b1, o1 + y, none⟩ = some (.int .i64 t2)) (first | exact ⟨g1, g2⟩ | exact ⟨z1, z2⟩) (first | (go_at_call 137; refine HK.out.mono ?_; rintro e w3 ⟨rfl, k3⟩; have z1 := k3.cell g1; have z2 := k3.cell g2))
            have kk := kq.trans ((Keeps.refl wr).drew.trans k3)
            cases b
            · go_wp2_with fail
              go_roundw
              case rel => exact ⟨y + 1, by omega, by go_num, by rw [HMY.out]; first | rfl | simp, kk⟩
              case measure => simp [intOf]; omega
            · have hor := orN my (2 ^ y) (by omega) (by have : 2 ^ y ≤ 2 ^ 8 := Nat.pow_le_pow_right (by omega) (by omega); omega)
              have e2 : ((2 ^ y : Nat) : Int) = 2 ^ y := by push_cast; rfl
              rw [e2] at hor
              go_wp2_with fail
              refine (HO.out _).mono ?_; rintro e w4 ⟨rfl, rfl⟩
              go_wp2_with fail
              go_roundw
              case rel => exact ⟨y + 1, by omega, by go_num, by rw [HMY.out]; first | rfl | simp | (simp [hor]), kk⟩
              case measure => simp [intOf]; omega
          · obtain rfl : y = W.length := by omega
            have hyl' : ¬ ((W.length : Int) < W.length) := by omega
            have HMC2 := hid HMC.out
            have hM2 := (HM.out.keeps kq).keeps ((Keeps.refl wr).alloc (.cells #[.int .i64 (mskB pm W.length : Nat)] 2))
            rw [← HMC2.out] at hM2
            have hra := hM2.ra
            rw [HAL.out] at hra
            have hs6 := hM2.kp.size
            rw [← HMC2.out]
            clear HX HMK HMC HML HKQ
            go_upto_region 12 with (at_builtin; refine appIL rfl _ _ rfl wA.heap.size _ AL rfl hra _ (ax : Int) rfl (Ints.lit1 wr ax) hs6 (by omega) ?_; intro v8 w8 hv8 hg8 hr8 hb8; have hM8 := hM2.app (by rw [HAL.out]; exact hv8) hg8 hb8; obtain ⟨p8, q8, rfl, -, -, -⟩ := At.of_own hM8.ra)
            rw [HAP.out] at hM8
            rw [HAP.out]
            have HM8 := hid hM8
            have hzl2 : (zs ((List.range (x + 1)).map (cmA L E W))).length ≤ 9 := by rw [zs_length]; simp; omega
            clear hM8 hv8 hg8 hr8 hb8 hra hM2 HMC2 HAL HACx HM
            generalize hA2 : (List.range (x + 1)).map (cmA L E W) = A2 at *
            have HA2 := hid hA2
            clear hA2
            have y1 := HM8.out.kp.cell c1e
            go_wp2_with fail
            clear y1
            go_loopw [10] (fun k' wr => ∃ k : Nat, k ≤ E.length ∧ k' = .int .i64 k ∧ MeW wA wr (.slice p8 (zs A2).length q8) gV A2 (cmVx E W (cmV E W x) x k)) (fun k' _ => E.length - (intOf k').toNat)
            case atStart => exact ⟨0, by omega, rfl, HM8.out⟩
            case round =>
              clear HM8
              obtain ⟨k, hk, rfl, hM⟩ := hrel
              have y1 := hM.kp.cell c1e
              have HM := hid hM
              clear hM
              by_cases hkl : k < E.length
              · have hkl' : (k : Int) < E.length := by omega
                obtain ⟨b3, o3, n3, c3, y2, hn3, hnc3, hc3, hk3, hcase⟩ := HKD.out k hkl wr HM.out.kp
                have hkn3 : (k : Int) < n3 := by omega
                unfold maxLen at hc3
                obtain ⟨g1, -⟩ := HWX2.out _ HM.out.kp
                have HVk := HV1.out (cmV E W x) k
                have hV1 : cmV1 E fr x (cmVx E W (cmV E W x) x k) k = if isVr (E.getD k .fls) && fr.testBit k then (cmVx E W (cmV E W x) x k).set (vrS (E.getD k .fls)) ((cmVx E W (cmV E W x) x k).getD (vrS (E.getD k .fls)) 0 ||| 2 ^ x) else cmVx E W (cmV E W x) x k := rfl
                rw [hV1] at HVk
                have HHV := hid HVk
                have HB := hid (fun wz => l01BitB_any fr k wz HFN.out (by omega))
                have hvl := HVB.out k
                rw [(cmV_both E W 8 x (by omega)).1] at hvl
                have htx := HTX.out k (by have := HSS.out; omega) hkl
                rw [show E[k] = E.getD k .fls from by rw [List.getD_eq_getElem?_getD, List.getElem?_eq_getElem hkl]; rfl] at htx
                have hel := HEL.out E[k] (List.getElem_mem hkl)
                rw [show E[k] = E.getD k .fls from by rw [List.getD_eq_getElem?_getD, List.getElem?_eq_getElem hkl]; rfl] at hel
                have hget := (HTXS.out.keeps HM.out.kp).get k (by have := HSS.out; omega)
                have hsk : k < ss.length := by have := HSS.out; omega
                have HG := hid (fun wz => l02GoodA ss[k] wz (by have := htx.small; omega))
                generalize ss[k] = s3 at *
                have HTK := hid htx
                clear hV1 HVk htx hsk
                generalize hNX : cmVx E W (cmV E W x) x (k + 1) = V2 at *
                have HNX := hid hNX
                clear hNX
                generalize cmVx E W (cmV E W x) x k = V at *
                generalize E.getD k .fls = t at *
                generalize fr.testBit k = b at *
                cases t with
                | var s =>
                  rw [show (Fm.var s).kind = 0 from rfl] at hk3
                  clear hcase
                  have hs6 : s < 6 := HTK.out.1
                  simp only [isVr, vrS, Bool.true_and] at HHV
                  obtain ⟨b4, o4, rfl, g4⟩ := hget
                  go_wp2_with fail
                  refine (HB.out _).mono ?_; rintro e w3 ⟨rfl, rfl⟩
                  cases b
                  · go_wp2_with fail
                    go_roundw
                    case rel => exact ⟨k + 1, by omega, by go_num, by rw [HNX.out, HHV.out, if_neg (by simp)]; exact HM.out⟩
                    case measure => simp [intOf]; omega
                  · go_wp2_with fail
                    refine (HG.out _).mono ?_; rintro e w4 ⟨v4, rfl, k4, hown⟩
                    have hnd := (hown _ HTK.out).nds (by have := HTK.out.2.2; omega)
                    obtain ⟨b6, o6, n6, c6, rfl, hn0, hn1, hn2, hn3', hc, hsy⟩ := hnd.root
                    rw [show (Fm.var s).sym = (s : Int) from rfl] at hsy
                    unfold maxLen at hn2
                    have HM4 := hid (HM.out.keeps k4)
                    obtain ⟨a0, a1⟩ := HM4.out.cellV s hs6
                    have hst := (HM4.out.keeps (Keeps.refl _).drew).setV s (V.getD s 0 ||| 2 ^ x) hs6
                    have hgt : V.getD s 0 < 256 := hvl.2 _ (by rw [List.getD_eq_getElem?_getD, List.getElem?_eq_getElem (by omega)]; exact List.getElem_mem _)
                    have hor := orN (V.getD s 0) (2 ^ x) (by omega) (by have : 2 ^ x ≤ 2 ^ 8 := Nat.pow_le_pow_right (by omega) (by omega); omega)
                    have e2 : ((2 ^ x : Nat) : Int) = 2 ^ x := by push_cast; rfl
                    rw [e2] at hor
                    have HO := hid (fun wz => HONE.out x wz (by omega))
                    have HST : Hid (MeW wA (w4.drew.setCell ⟨gV, s, none⟩ (.int .i64 (V.getD s 0 ||| 2 ^ x : Nat))) (.slice p8 (zs A2).length q8) gV A2 V2) := hid (by rw [HHV.out, if_pos trivial]; exact hst)
                    clear hst e2 hvl hnd hown
                    have hs6' : (s : Int) < 6 := by omega
                    generalize V.getD s 0 = z at *
                    go_wp2_with fail
                    go_region_with (first | (go_at_call 138; refine (HO.out _).mono ?_; rintro e w5 ⟨rfl, rfl⟩))
                    all_goals
                      go_wp2_with fail
                      go_roundw
                      case rel => exact ⟨k + 1, by omega, by go_num, by rw [HNX.out]; first | exact HST.out | (rw [hor]; exact HST.out)⟩
                      case measure => simp [intOf]; omega
                | box a =>
                  rw [show (Fm.box a).kind = 5 from rfl] at hk3
                  clear hcase
                  simp only [isVr, Bool.false_and] at HHV
                  go_wp2_with fail
                  go_roundw
                  case rel => exact ⟨k + 1, by omega, by go_num, by rw [HNX.out, HHV.out, if_neg (by simp)]; exact HM.out⟩
                  case measure => simp [intOf]; omega
                | dia a =>
                  rw [show (Fm.dia a).kind = 6 from rfl] at hk3
                  clear hcase
                  simp only [isVr, Bool.false_and] at HHV
                  go_wp2_with fail
                  go_roundw
                  case rel => exact ⟨k + 1, by omega, by go_num, by rw [HNX.out, HHV.out, if_neg (by simp)]; exact HM.out⟩
                  case measure => simp [intOf]; omega
                | fls => simp [isEl] at hel
                | and a c => simp [isEl] at hel
                | or a c => simp [isEl] at hel
                | imp a c => simp [isEl] at hel
              · obtain rfl : k = E.length := by omega
                have hkl' : ¬ ((E.length : Int) < E.length) := by omega
                go_wp2_with fail
                go_roundw
                case rel => exact ⟨x + 1, by omega, by go_num, by rw [HA2.out, ← HVE.out]; exact HM.out⟩
                case measure => simp [intOf]; omega
      · obtain rfl : x = W.length := by omega
        have hlt' : ¬ ((W.length : Int) < W.length) := by omega
        have hb := HBA.out.keeps HM.out.kp
        have n0 := hb.cell 0 (by simp)
        have n1 := hb.cell 1 (by simp)
        have n2 := hb.cell 2 (by simp)
        have f0 := hb.froz 0
        have f1 := hb.froz 1
        have f2 := hb.froz 2
        simp only [List.getElem_cons_succ, List.getElem_cons_zero] at n0 n1 n2
        have b3 := ((hb.set 0 (.int .i64 W.length)).set 1 (.slice p5 (zs ((List.range W.length).map (cmA L E W))).length q5)).set 2 (.slice (some ⟨gV, 0, none⟩) 6 6)
        have oA := boxed3 HM.out.ra hb (by decide) (.int .i64 W.length) (.slice p5 (zs ((List.range W.length).map (cmA L E W))).length q5) (.slice (some ⟨gV, 0, none⟩) 6 6)
        have oV := boxed3 HM.out.rv hb (by decide) (.int .i64 W.length) (.slice p5 (zs ((List.range W.length).map (cmA L E W))).length q5) (.slice (some ⟨gV, 0, none⟩) 6 6)
        have kF := (((kA.trans HM.out.kp).setCell (p := ⟨w.heap.size, 0, none⟩) (Nat.le_refl _) (.int .i64 W.length)).setCell (p := ⟨w.heap.size, 1, none⟩) (Nat.le_refl _) (.slice p5 (zs ((List.range W.length).map (cmA L E W))).length q5)).setCell (p := ⟨w.heap.size, 2, none⟩) (Nat.le_refl _) (.slice (some ⟨gV, 0, none⟩) 6 6)
        have z0 := b3.cell 0 (by simp)
        have z1 := b3.cell 1 (by simp)
        have z2 := b3.cell 2 (by simp)
        simp only [List.set_cons_zero, List.set_cons_succ, List.getElem_cons_succ, List.getElem_cons_zero] at z0 z1 z2
        have HF := hid (show RetMd w L E W (.returned (.agg #[.int .i64 W.length, .slice p5 (zs ((List.range W.length).map (cmA L E W))).length q5, .slice (some ⟨gV, 0, none⟩) 6 6])) _ from ⟨_, _, rfl, OwnI.mono oA kA.size, OwnI.mono oV kA.size, fun k e1 e2 => by
          have x2 : gV = k := by simpa [Value.ownBlock] using e2
          exact HM.out.ne k e1 x2.symm, kF⟩)
        clear oA oV kF b3 hb
        generalize (zs ((List.range W.length).map (cmA L E W))).length = nA at *
        go_wp2_with fail
        refine bodyPost_ret (v := .agg #[.int .i64 W.length, .slice p5 nA q5, .slice (some ⟨gV, 0, none⟩) 6 6]) (by simp [results, Tryz.results54, go_sem, z0, z1, z2]) rfl HF.out
end Go.Proofs.YtgnlfceloiilbaaGreat
