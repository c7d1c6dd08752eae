/- FnRulesBroken: the walk of the law. -/
import Derived.Test.YtpbbfoliabgkpaaGreatGD20
import Derived.Test.YtpbbfoliabgkpaaGreatGD19
import Derived.Test.YtpbbfoliabgkpaaGreatGD8
import Derived.Deep.CutBlock
import Derived.Deep.DeepCutAuto
namespace Go.Proofs.YtpbbfoliabgkpaaGreat
open Go.RowKit
/-- what holds while the images are decided -/
def AllImg (w : World) (H : List Fm) (a k' : Value) (wr : World) : Prop := ∃ k : Nat, k ≤ H.length ∧ a = .bool ((H.take k).all fun x => sqB [] x) ∧ k' = .int .i64 k ∧ Keeps w wr
theorem all_take (H : List Fm) (k : Nat) (h : k < H.length) : ((H.take (k + 1)).all fun x => sqB [] x) = (((H.take k).all fun x => sqB [] x) && sqB [] H[k]) := by
  rw [List.take_succ_eq_append_getElem h, List.all_append]
  simp
--
set_option maxRecDepth 20000 in
set_option maxHeartbeats 4000000 in
theorem lawRulesBroken (v : Value) (n : Nat) (w : World) (hv : Bts w v n) :
    Calls Tryz.prog 4 #[v] w fun e w' => e = .returned (.bool true) ∧ Keeps w w' := by
  have HBig := hid (big_any v n w hv)
  by_cases hn : 4096 < n
  · rw [decide_eq_true hn] at HBig
    go_enter Tryz.func4, Tryz.ntmps4
    go_wp2_with fail
    refine HBig.out.mono ?_; rintro e w' ⟨rfl, rfl⟩
    go_wp2_with fail
    go_ret
    exact ⟨rfl, Keeps.refl _⟩
  · rw [decide_eq_false hn] at HBig
    have HD := hid (drawBreaksRule_any v n w hv (by omega))
    have HDf := hid (fun w2 (k : Keeps w w2) => drawFindBreaking_any v n w2 (hv.keeps k) (by omega))
    obtain ⟨pv, cv, rfl, _⟩ := hv
    go_enter Tryz.func4, Tryz.ntmps4
    go_wp2_with fail
    refine HBig.out.mono ?_; rintro e w' ⟨rfl, rfl⟩
    go_wp2_with fail
    refine HD.out.mono ?_; rintro e w1 ⟨x, u, y, xs, c, ims, rfl, hx, hu, hy, hl1, hl2, hl3, hi1, hi2, k1⟩
    have hxN := hx.ndsL (by omega) (by omega)
    have huN := hu.nds (by omega)
    have hyN := hy.ndsL
    obtain ⟨p1, n1, q1, rfl, hn1⟩ := hx.shape4
    obtain ⟨p2, n2, q2, rfl⟩ := hu.own_shape
    obtain ⟨p3, n3, q3, rfl⟩ := hyN.shapeL
    have HN1 := hid hn1
    clear hx hu hy hn1
    obtain ⟨b, bad, ⟨hBS, hBI⟩, hBF⟩ := breaksFacts xs c ims
    obtain ⟨d, one, ⟨hDS, hDI⟩, hDF⟩ := derivFacts xs c
    have ka := (Keeps.refl w1).alloc (.cells #[.slice p1 n1 q1, .slice p2 n2 q2] 37)
    have ca := (cell_new2 (w := w1) (n := w1.heap.size) (u := .slice p1 n1 q1) (v := .slice p2 n2 q2) (T := 37) rfl).1
    have cb := (cell_new2 (w := w1) (n := w1.heap.size) (u := .slice p1 n1 q1) (v := .slice p2 n2 q2) (T := 37) rfl).2
    have HX := hid (hxN.keeps ka)
    have HU := hid (huN.keeps ka)
    have HY := hid (hyN.keeps ka)
    have KW := hid (k1.trans ka)
    have HBF := hid hBF
    have HDF := hid hDF
    have HBI := hid (hBI _ _ _ _ HX.out HU.out HY.out)
    have HBS := hid (fun w2 (k : Keeps (w1.alloc (.cells #[.slice p1 n1 q1, .slice p2 n2 q2] 37)) w2) => hBS _ _ _ w2 (HX.out.keeps k) (HU.out.keeps k) (HY.out.keeps k))
    have HDI := hid (fun w2 (k : Keeps (w1.alloc (.cells #[.slice p1 n1 q1, .slice p2 n2 q2] 37)) w2) => hDI _ _ w2 (HX.out.keeps k) (HU.out.keeps k))
    have HDS := hid (fun w2 (k : Keeps (w1.alloc (.cells #[.slice p1 n1 q1, .slice p2 n2 q2] 37)) w2) => hDS _ _ w2 (HX.out.keeps k) (HU.out.keeps k))
    have HIm := hid (fun w2 (k : Keeps (w1.alloc (.cells #[.slice p1 n1 q1, .slice p2 n2 q2] 37)) w2) => implImageOfRule_any xs c ims _ _ _ w2 (HX.out.keeps k) (HU.out.keeps k) (HY.out.keeps k))
    clear hxN huN hyN hBS hBI hBF hDS hDI hDF k1
    go_wp2_with fail
    refine HBI.out.mono ?_; rintro e w2 ⟨rfl, k2⟩
    obtain ⟨ca2, cb2⟩ := cells_keeps k2 (And.intro ca cb)
    go_wp2_with fail
    refine (HBS.out _ k2).mono ?_; rintro e w3 ⟨rfl, k3⟩
    obtain ⟨ca3, cb3⟩ := cells_keeps k3 (And.intro ca2 cb2)
    have k23 := k2.trans k3
    clear ca cb ca2 cb2
    go_wp2_with fail
    refine (HDI.out _ k23).mono ?_; rintro e w4 ⟨rfl, k4⟩
    obtain ⟨ca4, cb4⟩ := cells_keeps k4 (And.intro ca3 cb3)
    have k24 := k23.trans k4
    clear ca3 cb3
    go_wp2_with fail
    refine (HDS.out _ k24).mono ?_; rintro e w5 ⟨rfl, k5⟩
    obtain ⟨ca5, cb5⟩ := cells_keeps k5 (And.intro ca4 cb4)
    have k25 := k24.trans k5
    have KW5 := hid (KW.out.trans k25)
    clear ca4 cb4 HBI HBS HDI HDS k2 k3 k4 k5 k23 k24
    have e1 : (bad != bad) = false := by simp
    have e2 : (b != b) = false := by simp
    have e3 : (one != one) = false := by simp
    have e4 : (d != d) = false := by simp
    go_upto_region 10 with fail
    go_cut [89] (fun z wx => z = .bool false ∧ wx = w5)
    case first =>
      by_cases q1 : bad = 0
      · have p1 : (bad == 0) = true := by simp [q1]
        by_cases q2 : one = 0
        · have p2 : (one == 0) = true := by simp [q2]
          have hbd := brk_not_der (HBF.out q1) (HDF.out q2)
          clear q1 q2
          cases b with
          | false =>
            go_wp2_with fail
            go_meet
            exact ⟨rfl, rfl⟩
          | true =>
            have hd : d = false := by simpa using hbd
            subst hd
            go_wp2_with fail
            go_meet
            exact ⟨rfl, rfl⟩
        · have p2 : (one == 0) = false := by simp [q2]
          clear q1 q2
          go_wp2_with fail
          go_meet
          exact ⟨rfl, rfl⟩
      · have p1 : (bad == 0) = false := by simp [q1]
        clear q1
        go_wp2_with fail
        go_meet
        exact ⟨rfl, rfl⟩
    case rest =>
    obtain ⟨rfl, rfl⟩ := hcut
    go_upto_if 91 with fail
    go_cut [13, 14, 15, 16, 17, 18, 19, 20] (fun _ _ _ _ _ _ _ _ wx => Hid (Keeps w wx))
    case first =>
      by_cases q1 : bad = 0
      · obtain ⟨H, t, hi1', hi2', hi3', hH, ht, hHl, htl, hHn, hH6, hbH⟩ := brk_image (HBF.out q1)
        have HR := HIm.out _ k25
        rw [hi1', hi2', hi3'] at HR
        have HRh := hid HR
        have HH := hid hH
        have HT := hid ht
        have HHl := hid hHl
        have HTl := hid htl
        have HBH := hid hbH
        have hnn : n1 = H.length := by rw [hHn]; exact HN1.out
        subst hnn
        have p1 : (bad == 0) = true := by simp [q1]
        clear HR hH ht hHl htl hbH hi1' hi2' hi3' hHn q1
        go_wp2_with fail
        refine HRh.out.mono ?_; rintro e w6 ⟨x6, u6, rfl, hR6, k6⟩
        obtain ⟨hx6, hu6⟩ := hR6.parts
        have hx6N := hx6.ndsL (by simp; omega) (by have := tot_most (H.map Fm.enc) 20 (fun z hz => by obtain ⟨a, ha, rfl⟩ := List.mem_map.1 hz; exact HHl.out a ha); simp at this; omega)
        have hu6N := hu6.nds (by have := HTl.out; omega)
        obtain ⟨p6, q6, rfl, _, _⟩ := hx6.len1
        rw [List.length_map] at hx6N ⊢
        obtain ⟨p7, n7, q7, rfl⟩ := hu6.own_shape
        obtain ⟨ca6, cb6⟩ := cells_keeps k6 (And.intro ca5 cb5)
        have kb := (Keeps.refl w6).alloc (.cells #[.slice p6 H.length q6, .slice p7 n7 q7] 37)
        have cc := (cell_new2 (w := w6) (n := w6.heap.size) (u := .slice p6 H.length q6) (v := .slice p7 n7 q7) (T := 37) rfl).1
        have cd := (cell_new2 (w := w6) (n := w6.heap.size) (u := .slice p6 H.length q6) (v := .slice p7 n7 q7) (T := 37) rfl).2
        obtain ⟨ca7, cb7⟩ := cells_keeps kb (And.intro ca6 cb6)
        have HX6 := hid (hx6N.keeps kb)
        have HU6 := hid (hu6N.keeps kb)
        have KW6 := hid ((KW5.out.trans k6).trans kb)
        have hR0 : AllImg (w6.alloc (.cells #[.slice p6 H.length q6, .slice p7 n7 q7] 37)) H (.bool true) (.int .i64 0) (w6.alloc (.cells #[.slice p6 H.length q6, .slice p7 n7 q7] 37)) := ⟨0, by omega, by simp, rfl, Keeps.refl _⟩
        have HR0 := hid hR0
        clear hR6 hx6 hu6 hx6N hu6N ca5 cb5 ca6 cb6 hR0
        go_wp2_with fail
        generalize hw7 : w6.alloc (.cells #[.slice p6 H.length q6, .slice p7 n7 q7] 37) = w7 at *
        clear hw7
        go_loopw [15, 16] (fun a i' wr => AllImg w7 H a i' wr) (fun _ i _ => H.length - (intOf i).toNat)
        case atStart => exact HR0.out
        case round =>
          obtain ⟨k, hk, rfl, rfl, kw⟩ := hrel
          obtain ⟨cc1, cd1⟩ := cells_keeps kw (And.intro cc cd)
          clear cc cd
          by_cases hlt : k < H.length
          · have hlt' : (k : Int) < H.length := by omega
            obtain ⟨b0, off, u0, hp6, hcu, hnu⟩ := (HX6.out.keeps kw).get k (by simp; omega)
            subst hp6
            simp only [List.getElem_map] at hnu
            obtain ⟨p8, n8, q8, rfl⟩ := hnu.shape
            have HIT := hid (isIntTheorem_any H[k] (HH.out _ (List.getElem_mem _)) (HHl.out _ (List.getElem_mem _)) _ wr hnu)
            have HA := hid (all_take H k hlt)
            clear hnu
            go_wp2_with fail
            refine HIT.out.mono ?_; rintro e w8 ⟨rfl, k8⟩
            generalize hA : ((H.take k).all fun x => sqB [] x) = A at *
            generalize hS : sqB [] H[k] = S at *
            clear hA hS HIT
            cases A with
            | false =>
              go_wp2_with fail
              go_roundw
              case rel => exact ⟨k + 1, by omega, by rw [HA.out]; rfl, by go_num, kw.trans k8⟩
              case measure => simp [intOf]; omega
            | true =>
              cases S with
              | false =>
                go_wp2_with fail
                go_roundw
                case rel => exact ⟨k + 1, by omega, by rw [HA.out]; rfl, by go_num, kw.trans k8⟩
                case measure => simp [intOf]; omega
              | true =>
                go_wp2_with fail
                go_roundw
                case rel => exact ⟨k + 1, by omega, by rw [HA.out]; rfl, by go_num, kw.trans k8⟩
                case measure => simp [intOf]; omega
          · obtain rfl : k = H.length := by omega
            have HIT := hid (isIntTheorem_any t HT.out HTl.out _ wr (HU6.out.keeps kw))
            have KF := hid (KW6.out.trans kw)
            go_wp2_with fail
            refine HIT.out.mono ?_; rintro e w8 ⟨rfl, k8⟩
            simp only [List.take_length]
            have hb := HBH.out
            unfold brk at hb
            generalize hA : (H.all fun x => sqB [] x) = A at *
            generalize hS : sqB [] t = S at *
            clear hA hS HIT HBH
            subst hb
            cases A <;> cases S
            all_goals
              go_wp2_with fail
              go_meet
              exact hid (KF.out.trans k8)
      · have p1 : (bad == 0) = false := by simp [q1]
        clear q1
        go_wp2_with fail
        go_meet
        exact KW5
    case rest =>
    have KW6 := hcut
    clear hcut KW5 KW HIm HBF HDF HX HU HY k25 ca5 cb5 ka HD HBig e1 e2 e3 e4
    go_wp2_with fail
    refine (HDf.out wc KW6.out).mono ?_; rintro e v1 ⟨x, u, y, ys, c2, cs, rfl, hx, hu, hy, hm1, hm2, hm3, hj1, hj2, j1⟩
    have hxN := hx.ndsL (by omega) (by omega)
    have huN := hu.nds (by omega)
    have hyN := hy.ndsL
    obtain ⟨p1, m1, q1, rfl⟩ := hx.shape3
    obtain ⟨p2, m2, q2, rfl⟩ := hu.own_shape
    obtain ⟨p3, m3, q3, rfl⟩ := hyN.shapeL
    clear hx hu hy
    obtain ⟨r, k, hr1, hr2, ⟨hFS, hFI⟩, hFF⟩ := findRFacts ys c2 cs (by omega)
    obtain ⟨d2, nine, ⟨_, hDI⟩, hDF⟩ := derivFacts ys c2
    have ka := (Keeps.refl v1).alloc (.cells #[.slice p1 m1 q1, .slice p2 m2 q2] 37)
    have ca := (cell_new2 (w := v1) (n := v1.heap.size) (u := .slice p1 m1 q1) (v := .slice p2 m2 q2) (T := 37) rfl).1
    have cb := (cell_new2 (w := v1) (n := v1.heap.size) (u := .slice p1 m1 q1) (v := .slice p2 m2 q2) (T := 37) rfl).2
    have HX := hid (hxN.keeps ka)
    have HU := hid (huN.keeps ka)
    have HY := hid (hyN.keeps ka)
    have KW := hid ((KW6.out.trans j1).trans ka)
    have HFF := hid hFF
    have HDF := hid hDF
    have HFI := hid (hFI _ _ _ _ HX.out HU.out HY.out)
    have HFS := hid (fun w2 (k : Keeps (v1.alloc (.cells #[.slice p1 m1 q1, .slice p2 m2 q2] 37)) w2) => hFS _ _ _ w2 (HX.out.keeps k) (HU.out.keeps k) (HY.out.keeps k))
    have HDI := hid (fun w2 (k : Keeps (v1.alloc (.cells #[.slice p1 m1 q1, .slice p2 m2 q2] 37)) w2) => hDI _ _ w2 (HX.out.keeps k) (HU.out.keeps k))
    clear hxN huN hyN hFS hFI hFF hDI hDF j1
    have hkk : (k != k) = false := by simp
    go_wp2_with fail
    refine HFI.out.mono ?_; rintro e v2 ⟨z2, rfl, hz2, j2⟩
    have hz2N := hz2.ndsL (by omega) (by omega)
    obtain ⟨ca2, cb2⟩ := cells_keeps j2 (And.intro ca cb)
    go_wp2_with fail
    refine (HFS.out _ j2).mono ?_; rintro e v3 ⟨z3, rfl, hz3, j3⟩
    obtain ⟨ca3, cb3⟩ := cells_keeps j3 (And.intro ca2 cb2)
    have HZ2 := hid (hz2N.keeps j3)
    have HZ3 := hid hz3
    clear ca cb ca2 cb2 hz2 hz2N hz3
    go_wp2_with fail
    refine (likeL_same r z2 z3 v3 HZ2.out HZ3.out).mono ?_; rintro e v4 ⟨rfl, j4⟩
    obtain ⟨ca4, cb4⟩ := cells_keeps j4 (And.intro ca3 cb3)
    have j24 := (j2.trans j3).trans j4
    have HZ4 := hid (HZ3.out.keeps j4)
    have KW4 := hid (KW.out.trans j24)
    obtain ⟨pz, mz, qz, rfl⟩ := NdsL.shapeL HZ4.out
    clear ca3 cb3 HZ2 HZ3
    by_cases q1 : k = 0
    · obtain ⟨hy6, G, t, σ, rfl, rfl, hT, rfl, hSm, hok⟩ := HFF.out q1
      obtain ⟨⟨_, hBI⟩, hnd⟩ := found_breaks (by simpa using hy6) hT hSm hok
      have HB4 := hid (hBI _ _ _ v4 (HX.out.keeps j24) (HU.out.keeps j24) HZ4.out)
      have hd9 : nine = 0 → d2 = false := fun h9 => by
        obtain ⟨G', t', e1, e2, rfl⟩ := HDF.out h9
        rw [← enc_list_inj e1, ← enc_inj e2]
        exact hnd
      have HD9 := hid hd9
      subst q1
      clear hBI hnd hok hT hSm hd9 hkk HFF HDF
      go_wp2_with fail
      refine HB4.out.mono ?_; rintro e v5 ⟨rfl, j5⟩
      obtain ⟨ca5, cb5⟩ := cells_keeps j5 (And.intro ca4 cb4)
      clear ca4 cb4
      go_wp2_with fail
      refine (HDI.out _ (j24.trans j5)).mono ?_; rintro e v6 ⟨rfl, j6⟩
      by_cases q9 : nine = 0
      · have hd := HD9.out q9
        subst hd q9
        go_wp2_with fail
        go_ret
        exact ⟨rfl, (KW4.out.trans j5).trans j6⟩
      · have p9 : (nine != 0) = true := by simp [q9]
        clear q9
        go_wp2_with fail
        go_ret
        exact ⟨rfl, (KW4.out.trans j5).trans j6⟩
    · have p1' : (k != 0) = true := by simp [q1]
      clear q1
      go_wp2_with fail
      go_ret
      exact ⟨rfl, KW4.out⟩
end Go.Proofs.YtpbbfoliabgkpaaGreat
