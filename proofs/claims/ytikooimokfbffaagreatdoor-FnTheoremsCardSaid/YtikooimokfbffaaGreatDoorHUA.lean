import Derived.Test.YtikooimokfbffaaGreatDoorHU3
/- The reference search: some formula is taken apart (printed by mksearch.py). -/
namespace Go.Proofs.YtikooimokfbffaaGreatDoor
open Go.RowKit
set_option maxRecDepth 100000 in
set_option maxHeartbeats 8000000 in
theorem search_loose (n : Nat) (hn : n ≤ 1000000000) (ih : Srch n) (G : List Fm) (c : Fm) (hw : wts G + wt c ≤ n + 1) (hG : ∀ a ∈ G, a.plain = true) (hc : c.plain = true) (h1 : ¬ c ∈ G) (h2 : ¬ Fm.fls ∈ G) (hns : ¬ AllStk G)
  (v u : Value) (w : World) (hv : FsL w v G) (hu : Nds w u c.enc) :
  Calls Tryz.prog 27 #[v, u] w fun e w' => e = .returned (.bool (sqB G c)) ∧ Keeps w w' := by
 have hu0 := hu
 have hv0 := hv
 obtain ⟨p, m, cap, rfl⟩ := NdsL.shapeL hv
 obtain ⟨hm, hmc, hmx⟩ := FsL.len hv
 obtain ⟨bc, oc, nc, cc, rfl, _, _, _, _, hcC, _⟩ := hu.root
 have HM := hid hm; clear hm
 have hlen := len_le_wts G
 have hml : m ≤ 1000000000 := by have := HM.out; omega
 unfold maxLen at hmx
 have IH := hid ih; clear ih
 have HC := hid (has_fm G c _ _ w hv hu)
 have HF := hid (fun w1 (k : Keeps w w1) u1 (h : Nds w1 u1 Fm.fls.enc) => has_fm G .fls _ u1 w1 (hv.keeps k) h)
 rw [decide_eq_false h1] at HC
 have HNS := hid hns; clear hns
 rw [decide_eq_false h2] at HF
 have H1 := hid h1; clear h1
 have H2 := hid h2; clear h2
 have HG := hid hG; clear hG
 have HW := hid hw; clear hw
 clear hv hu
 go_enter Tryz.func27, Tryz.ntmps27
 go_wp2_with fail
 refine HC.out.mono ?_; rintro e w2 ⟨rfl, k2⟩
 go_wp2_with fail
 refine (l02False_any _).mono ?_; rintro e w3 ⟨v3, rfl, hv3, k3⟩
 go_wp2_with fail
 refine (HF.out w3 (k2.trans k3) _ (hv3.nds (by simp [Fm.enc]))).mono ?_; rintro e w4 ⟨rfl, k4⟩
 have k04 := (k2.trans k3).trans k4
 clear hv3 HC HF
 go_wp2
 go_loopw [4, 5] (fun r i' wr => ∃ k : Nat, k ≤ m ∧ i' = .int .i64 k ∧ r = .bool false ∧ (∀ j (hj : j < G.length), j < k → stk (rest G j) G[j]) ∧ Keeps w wr) (fun _ i _ => m - (intOf i).toNat)
 case atStart => exact ⟨0, by omega, rfl, rfl, fun j hj hk => by omega, k04⟩
 case round =>
  obtain ⟨k, hk, rfl, rfl, hst, kw⟩ := hrel
  have HS := hid hst; clear hst
  clear k04
  by_cases hlt : k < m
  ·have hltG : k < G.length := by have := HM.out; omega
   have hlt' : (k : Int) < m := by omega
   obtain ⟨b, off, u1, hp, hcell, ha1⟩ := (hv0.keeps kw).get k hltG
   subst hp
   have hvw := hv0.keeps kw
   obtain ⟨us, hat, hus⟩ := NdsL.vals hvw
   have hmr := hid (mem_rest hltG)
   have hwr := hid (wts_rest hltG)
   have hap := HG.out _ (List.getElem_mem hltG)
   generalize hga : G[k] = a at *
   have HGA := hid hga; clear hga
   obtain ⟨ba, oa, na, ca, rfl, _, _, _, _, hca, _⟩ := ha1.root
   obtain ⟨q, hq, hrun⟩ := tailL b off m cap (k + 1) ((k : Int) + 1) (by omega) (by omega) hmc
   have hql := hq wr us hat (by have := hus.1; simp at this; have := HM.out; omega)
   clear hq hvw
   have hcells := hus.1
   have HUS := hid hus; clear hus
   have HCE := hid hcells; clear hcells
   have hle1 : m - (k + 1) = ((G.map Fm.enc).drop (k + 1)).length := by have := HM.out; simp; omega
   have hle2 : k = ((G.map Fm.enc).take k).length := by have := HM.out; simp; omega
   have HLE1 := hid hle1; clear hle1
   have HLE2 := hid hle2; clear hle2
   have hszw := kw.size
   have hkc : (k : Int) ≤ cap := by omega
   have hk0 : (0 : Int) ≤ k := by omega
   have hkw : IntKind.i64.wrap ((k : Int) + 1) = (k : Int) + 1 := IntWalk.i64_in _ (by omega)
   go_wp2_with fail
   clear hcell
   go_region_law (first
    | (refine stepSh rfl (.tmp 33) (.tmp 36) rfl wr _ [] rfl ?_ (some ⟨b, off, none⟩) k cap (us.take k) ((G.map Fm.enc).take k) rfl HLE2.out ?_ (HUS.out.take k) ?_ ?_ ?_; (focus exact (ShL.empty wr (Nat.le_refl _))); (focus (refine At.keeps (hat.take k) ?_; (repeat (first | exact Keeps.refl _ | refine Keeps.alloc ?_ _ | refine Keeps.drew ?_)))); (focus first | (simp; done) | (simp; omega)); (focus (have := HM.out; simp; omega)); intro v5 w5 hv5 hg5 hr5; have k5 : Keeps wr w5 := Keeps.grown (by (repeat (first | exact Keeps.refl _ | refine Keeps.alloc ?_ _ | refine Keeps.drew ?_))) hg5 hr5; simp only [List.nil_append] at hv5)
    | (refine stepSh rfl (.tmp 37) (.tmp 41) rfl wr _ ((G.map Fm.enc).take k) rfl hv5 q (m - (k + 1)) (cap - (k + 1)) (us.drop (k + 1)) ((G.map Fm.enc).drop (k + 1)) rfl HLE1.out (hql.keeps k5) (HUS.out.drop (k + 1)) k5.size ?_ ?_; (focus (have := HM.out; simp; omega)); intro v6 w6 hv6 hg6 hr6; have k6 := k5.grown hg6 hr6))
   have hR : FsL w6 v6 (rest G k) := by
    have h := hv6.ndsL k6 (by have := HM.out; simp; omega)
    unfold FsL rest
    rw [List.map_append, List.map_take, List.map_drop]
    exact h
   obtain ⟨p6, n6, q6, rfl⟩ := NdsL.shapeL hR
   have hHp : ∀ z ∈ rest G k, z.plain = true := fun z hz => HG.out z ((hmr.out z).2 (.inr hz))
   clear hv5 hg5 hr5 hv6 hg6 hr6 k5 hql hrun hat HUS HCE HLE1 HLE2 hkc hkw
   generalize hrg : rest G k = H at *
   have HRG := hid hrg; clear hrg
   have hW0 := HW.out
   rw [hwr.out] at hW0
   have hga2 := wt_ge a
   have hgc2 := wt_ge c
   have HU := hid (l23Useless_any H a hap _ _ w6 hR (ha1.keeps k6))
   by_cases hus : useF H a = true
   ·skip
    rw [hus] at HU
    go_wp2_with fail
    refine HU.out.mono ?_; rintro e w7 ⟨rfl, k7⟩
    have k67 := k6.trans k7
    go_wp2_with fail
    refine (IH.out H c (by omega) hHp hc _ _ w7 (hR.keeps k7) (hu0.keeps (kw.trans k67))).mono ?_; rintro e w8 ⟨rfl, k8⟩
    go_wp2_with fail
    go_ret
    refine ⟨ret_bool (sqB_congr ?_), (kw.trans k67).trans k8⟩
    symm
    cases a with
    | or x y => exact sq_drop_or1 hmr.out (by simpa [useF] using hus)
    | imp x y => exact sq_drop_imp hmr.out (by simp only [useF, Bool.or_eq_true, decide_eq_true_eq] at hus; exact hus.imp (fun h => isFls_eq' h) id)
    | _ => cases hus
   ·simp only [Bool.not_eq_true] at hus
    rw [hus] at HU
    have k0w := kw
    cases a with
    | var v =>
     replace hca : wr.cell? ⟨ba, oa, none⟩ = some (.int .i64 0) := hca
     go_wp2_with fail
     refine HU.out.mono ?_; rintro e w7 ⟨rfl, k7⟩
     have k67 := k6.trans k7
     have hc7 := k67.cell hca
     have ha7 := ha1.keeps k67
     go_wp2
     go_roundw
     case rel =>
      refine ⟨k + 1, by omega, by go_num, rfl, fun j hj hk => ?_, kw.trans k67⟩
      by_cases e : j = k
      ·subst e
       rw [HGA.out, HRG.out]
       exact ⟨.inl ⟨v, rfl⟩, hus⟩
      ·exact HS.out j hj (by omega)
     case measure => simp [intOf]; omega
    | fls => exact absurd ((hmr.out _).2 (.inl rfl)) H2.out
    | box x => cases hap
    | dia x => cases hap
    | and x y =>
     replace hca : wr.cell? ⟨ba, oa, none⟩ = some (.int .i64 2) := hca
     have hdn := wt_and x y
     have hpl : x.plain = true ∧ y.plain = true := by simpa [Fm.plain] using hap
     go_wp2_with fail
     refine HU.out.mono ?_; rintro e w7 ⟨rfl, k7⟩
     have k67 := k6.trans k7
     have hc7 := k67.cell hca
     have ha7 := ha1.keeps k67
     go_wp2_with fail
     refine (l02Left_any _ _ x y.enc _ _ ha7 rfl).mono ?_; rintro e w' ⟨v8, rfl, hv8, rfl⟩
     go_wp2_with fail
     refine (l02Right_any _ _ x y _ _ ha7 rfl).mono ?_; rintro e w' ⟨v9, rfl, hv9, rfl⟩
     obtain ⟨p8, n8, q8, rfl⟩ := hv8.shape
     obtain ⟨p9, n9, q9, rfl⟩ := hv9.shape
     have kl := (Keeps.refl w7).alloc (.cells #[.slice p8 n8 q8, .slice p9 n9 q9] 26)
     have hlit : FsL (w7.alloc (.cells #[.slice p8 n8 q8, .slice p9 n9 q9] 26)) _ [x, y] := NdsL.lit2 (w := w7) hv8 hv9
     go_wp2_with fail
     refine (with_fm H [x, y] _ _ _ ((hR.keeps k7).keeps kl) hlit (by have := len_le_wts H; simp; omega)).mono ?_; rintro e w9 ⟨v12, rfl, hv12, k9⟩
     have hwl := wts_withL [x, y] H
     simp only [wts] at hwl
     have k79 := (kl).trans k9
     obtain ⟨p12, n12, q12, rfl⟩ := NdsL.shapeL hv12
     go_wp2_with fail
     refine (IH.out _ c (by omega) (fun z hz => by
      rcases (mem_withL _ _ _).1 hz with hz | hz
      ·simp only [List.mem_cons, List.not_mem_nil, or_false] at hz
       rcases hz with rfl | rfl; exact hpl.1; exact hpl.2
      ·exact hHp z hz) hc _ _ w9 hv12 (hu0.keeps ((kw.trans k67).trans k79))).mono ?_; rintro e w10 ⟨rfl, k10⟩
     go_wp2_with fail
     go_ret
     exact ⟨ret_bool (sqB_congr (sq_andL hmr.out (fun z => by rw [mem_withL]; simp)).symm), ((kw.trans k67).trans k79).trans k10⟩
    | or x y =>
     replace hca : wr.cell? ⟨ba, oa, none⟩ = some (.int .i64 3) := hca
     have hdn := wt_or x y
     have hpl : x.plain = true ∧ y.plain = true := by simpa [Fm.plain] using hap
     have hsq := sq_orL (c := c) (K := withL H [x]) (K' := withL H [y]) hmr.out (fun z => by rw [mem_withL]; simp) (fun z => by rw [mem_withL]; simp)
     have hwx := wts_withL [x] H
     have hwy := wts_withL [y] H
     simp only [wts] at hwx hwy
     have HX := hid (IH.out (withL H [x]) c (by omega) (fun z hz => by
      rcases (mem_withL _ _ _).1 hz with hz | hz
      ·obtain rfl : z = x := by simpa using hz
       exact hpl.1
      ·exact hHp z hz) hc)
     have HY := hid (IH.out (withL H [y]) c (by omega) (fun z hz => by
      rcases (mem_withL _ _ _).1 hz with hz | hz
      ·obtain rfl : z = y := by simpa using hz
       exact hpl.2
      ·exact hHp z hz) hc)
     cases hsx : sqB (withL H [x]) c
     ·have HSX := hid hsx; clear hsx
      go_wp2_with fail
      refine HU.out.mono ?_; rintro e w7 ⟨rfl, k7⟩
      have k67 := k6.trans k7
      have hc7 := k67.cell hca
      have ha7 := ha1.keeps k67
      go_wp2_with fail
      refine (l02Left_any _ _ x y.enc _ _ ha7 rfl).mono ?_; rintro e w' ⟨v8, rfl, hv8, rfl⟩
      obtain ⟨p8, n8, q8, rfl⟩ := hv8.shape
      have kl := (Keeps.refl w7).alloc (.cells #[.slice p8 n8 q8] 26)
      have hlit : FsL (w7.alloc (.cells #[.slice p8 n8 q8] 26)) _ [x] := NdsL.lit1 (w := w7) hv8
      go_wp2_with fail
      refine (with_fm H [x] _ _ _ ((hR.keeps k7).keeps kl) hlit (by have := len_le_wts H; simp; omega)).mono ?_; rintro e w9 ⟨v12, rfl, hv12, k9⟩
      obtain ⟨p12, n12, q12, rfl⟩ := NdsL.shapeL hv12
      have k79 := kl.trans k9
      go_wp2_with fail
      refine (HX.out _ _ w9 hv12 (hu0.keeps ((kw.trans k67).trans k79))).mono ?_; rintro e w10 ⟨rfl, k10⟩; rw [HSX.out]
      have k710 := k79.trans k10
      go_wp2_with fail
      go_ret
      exact ⟨ret_bool ((sqB_false (fun h => by have := sqB_true (hsq.1 h).1; rw [HSX.out] at this; cases this)).symm), (kw.trans k67).trans k710⟩
     ·have HSX := hid hsx; clear hsx
      go_wp2_with fail
      refine HU.out.mono ?_; rintro e w7 ⟨rfl, k7⟩
      have k67 := k6.trans k7
      have hc7 := k67.cell hca
      have ha7 := ha1.keeps k67
      go_wp2_with fail
      refine (l02Left_any _ _ x y.enc _ _ ha7 rfl).mono ?_; rintro e w' ⟨v8, rfl, hv8, rfl⟩
      obtain ⟨p8, n8, q8, rfl⟩ := hv8.shape
      have kl := (Keeps.refl w7).alloc (.cells #[.slice p8 n8 q8] 26)
      have hlit : FsL (w7.alloc (.cells #[.slice p8 n8 q8] 26)) _ [x] := NdsL.lit1 (w := w7) hv8
      go_wp2_with fail
      refine (with_fm H [x] _ _ _ ((hR.keeps k7).keeps kl) hlit (by have := len_le_wts H; simp; omega)).mono ?_; rintro e w9 ⟨v12, rfl, hv12, k9⟩
      obtain ⟨p12, n12, q12, rfl⟩ := NdsL.shapeL hv12
      have k79 := kl.trans k9
      go_wp2_with fail
      refine (HX.out _ _ w9 hv12 (hu0.keeps ((kw.trans k67).trans k79))).mono ?_; rintro e w10 ⟨rfl, k10⟩; rw [HSX.out]
      have k710 := k79.trans k10
      have ha10 := ha7.keeps k710
      go_wp2_with fail
      refine (l02Right_any _ _ x y _ _ ha10 rfl).mono ?_; rintro e w' ⟨v9, rfl, hv9, rfl⟩
      obtain ⟨p9, n9, q9, rfl⟩ := hv9.shape
      have kl2 := (Keeps.refl w10).alloc (.cells #[.slice p9 n9 q9] 26)
      have hlit2 : FsL (w10.alloc (.cells #[.slice p9 n9 q9] 26)) _ [y] := NdsL.lit1 (w := w10) hv9
      go_wp2_with fail
      refine (with_fm H [y] _ _ _ (((hR.keeps k7).keeps k710).keeps kl2) hlit2 (by have := len_le_wts H; simp; omega)).mono ?_; rintro e w11 ⟨v13, rfl, hv13, k11⟩
      obtain ⟨p13, n13, q13, rfl⟩ := NdsL.shapeL hv13
      have k711 := k710.trans (kl2.trans k11)
      go_wp2_with fail
      refine (HY.out _ _ w11 hv13 (hu0.keeps ((kw.trans k67).trans k711))).mono ?_; rintro e w12 ⟨rfl, k12⟩
      go_wp2_with fail
      go_ret
      exact ⟨ret_bool (sqB_congr ⟨fun h => hsq.2 ⟨sqB_iff.1 HSX.out, h⟩, fun h => (hsq.1 h).2⟩), ((kw.trans k67).trans k711).trans k12⟩
    | imp x y =>
     replace hca : wr.cell? ⟨ba, oa, none⟩ = some (.int .i64 4) := hca
     have hdn := wt_imp x y
     have hla := len_le_wt (Fm.imp x y)
     simp only [Fm.enc, List.length_cons, List.length_append] at hla
     have hpl : x.plain = true ∧ y.plain = true := by simpa [Fm.plain] using hap
     have hxf : x.isFls = false := by simp only [useF, Bool.or_eq_false_iff] at hus; exact hus.1
     cases x with
     | fls => cases hxf
     | box x1 => cases hpl.1
     | dia x1 => cases hpl.1
     | and x1 x2 =>
      have hdn2 := wt_andimp x1 x2 y
      have hpx : x1.plain = true ∧ x2.plain = true := by simpa [Fm.plain] using hpl.1
      simp only [Fm.enc, List.length_cons, List.length_append] at hla
      go_wp2_with fail
      refine HU.out.mono ?_; rintro e w7 ⟨rfl, k7⟩
      have k67 := k6.trans k7
      have hc7 := k67.cell hca
      have ha7 := ha1.keeps k67
      go_wp2_with fail
      refine (l02Left_any _ _ (Fm.and x1 x2) y.enc _ _ ha7 rfl).mono ?_; rintro e w' ⟨v8, rfl, hv8, rfl⟩
      go_wp2_with fail
      refine (l02Right_any _ _ (Fm.and x1 x2) y _ _ ha7 rfl).mono ?_; rintro e w' ⟨v9, rfl, hv9, rfl⟩
      obtain ⟨bx, ox, nx, cx, rfl, _, _, _, _, hcx, _⟩ := hv8.root
      obtain ⟨p9, n9, q9, rfl⟩ := hv9.shape
      replace hcx : w7.cell? ⟨bx, ox, none⟩ = some (.int .i64 2) := hcx
      go_wp2_with fail
      refine (l02Left_any _ _ x1 x2.enc _ _ hv8 rfl).mono ?_; rintro e w' ⟨v10, rfl, hv10, rfl⟩
      go_wp2_with fail
      refine (l02Right_any _ _ x1 x2 _ _ hv8 rfl).mono ?_; rintro e w' ⟨v11, rfl, hv11, rfl⟩
      go_wp2_with fail
      refine (l02Pair_any 4 _ _ _ _ _ hv11 hv9 (by omega)).mono ?_; rintro e w8 ⟨v14, rfl, hv14, k8⟩
      go_wp2_with fail
      refine (l02Pair_any 4 _ _ _ _ _ (hv10.keeps k8) (hv14.nds (by simp; omega)) (by simp; omega)).mono ?_; rintro e w81 ⟨v15, rfl, hv15, k81⟩
      have h15 : Nds w81 v15 (Fm.imp x1 (Fm.imp x2 y)).enc := hv15.nds (by simp; omega)
      obtain ⟨p15, n15, q15, rfl⟩ := h15.shape
      have kl := (k8.trans k81).alloc (.cells #[.slice p15 n15 q15] 26)
      have hlit : FsL (w81.alloc (.cells #[.slice p15 n15 q15] 26)) _ [Fm.imp x1 (Fm.imp x2 y)] := NdsL.lit1 (w := w81) h15
      go_wp2_with fail
      refine (with_fm H [Fm.imp x1 (Fm.imp x2 y)] _ _ _ ((hR.keeps k7).keeps kl) hlit (by have := len_le_wts H; simp; omega)).mono ?_; rintro e w9 ⟨v12, rfl, hv12, k9⟩
      have hwl := wts_withL [Fm.imp x1 (Fm.imp x2 y)] H
      simp only [wts] at hwl
      have k79 := (kl).trans k9
      obtain ⟨p12, n12, q12, rfl⟩ := NdsL.shapeL hv12
      go_wp2_with fail
      refine (IH.out _ c (by omega) (fun z hz => by
       rcases (mem_withL _ _ _).1 hz with hz | hz
       ·simp only [List.mem_cons, List.not_mem_nil, or_false] at hz
        subst hz; simp [Fm.plain, hpx.1, hpx.2, hpl.2]
       ·exact hHp z hz) hc _ _ w9 hv12 (hu0.keeps ((kw.trans k67).trans k79))).mono ?_; rintro e w10 ⟨rfl, k10⟩
      go_wp2_with fail
      go_ret
      exact ⟨ret_bool (sqB_congr (sq_andimpL hmr.out (fun z => by rw [mem_withL]; simp)).symm), ((kw.trans k67).trans k79).trans k10⟩
     | or x1 x2 =>
      have hdn2 := wt_orimp x1 x2 y
      have hpx : x1.plain = true ∧ x2.plain = true := by simpa [Fm.plain] using hpl.1
      simp only [Fm.enc, List.length_cons, List.length_append] at hla
      go_wp2_with fail
      refine HU.out.mono ?_; rintro e w7 ⟨rfl, k7⟩
      have k67 := k6.trans k7
      have hc7 := k67.cell hca
      have ha7 := ha1.keeps k67
      go_wp2_with fail
      refine (l02Left_any _ _ (Fm.or x1 x2) y.enc _ _ ha7 rfl).mono ?_; rintro e w' ⟨v8, rfl, hv8, rfl⟩
      go_wp2_with fail
      refine (l02Right_any _ _ (Fm.or x1 x2) y _ _ ha7 rfl).mono ?_; rintro e w' ⟨v9, rfl, hv9, rfl⟩
      obtain ⟨bx, ox, nx, cx, rfl, _, _, _, _, hcx, _⟩ := hv8.root
      obtain ⟨p9, n9, q9, rfl⟩ := hv9.shape
      replace hcx : w7.cell? ⟨bx, ox, none⟩ = some (.int .i64 3) := hcx
      go_wp2_with fail
      refine (l02Left_any _ _ x1 x2.enc _ _ hv8 rfl).mono ?_; rintro e w' ⟨v10, rfl, hv10, rfl⟩
      go_wp2_with fail
      refine (l02Pair_any 4 _ _ _ _ _ hv10 hv9 (by omega)).mono ?_; rintro e w8 ⟨v14, rfl, hv14, k8⟩
      go_wp2_with fail
      refine (l02Right_any _ _ x1 x2 _ _ (hv8.keeps k8) rfl).mono ?_; rintro e w' ⟨v11, rfl, hv11, rfl⟩
      go_wp2_with fail
      refine (l02Pair_any 4 _ _ _ _ _ hv11 (hv9.keeps k8) (by omega)).mono ?_; rintro e w81 ⟨v15, rfl, hv15, k81⟩
      have h14 : Nds w81 v14 (Fm.imp x1 y).enc := (hv14.keeps k81).nds (by simp; omega)
      have h15 : Nds w81 v15 (Fm.imp x2 y).enc := hv15.nds (by simp; omega)
      obtain ⟨p14, n14, q14, rfl⟩ := h14.shape
      obtain ⟨p15, n15, q15, rfl⟩ := h15.shape
      have kl := (k8.trans k81).alloc (.cells #[.slice p14 n14 q14, .slice p15 n15 q15] 26)
      have hlit : FsL (w81.alloc (.cells #[.slice p14 n14 q14, .slice p15 n15 q15] 26)) _ [Fm.imp x1 y, Fm.imp x2 y] := NdsL.lit2 (w := w81) h14 h15
      go_wp2_with fail
      refine (with_fm H [Fm.imp x1 y, Fm.imp x2 y] _ _ _ ((hR.keeps k7).keeps kl) hlit (by have := len_le_wts H; simp; omega)).mono ?_; rintro e w9 ⟨v12, rfl, hv12, k9⟩
      have hwl := wts_withL [Fm.imp x1 y, Fm.imp x2 y] H
      simp only [wts] at hwl
      have k79 := (kl).trans k9
      obtain ⟨p12, n12, q12, rfl⟩ := NdsL.shapeL hv12
      go_wp2_with fail
      refine (IH.out _ c (by omega) (fun z hz => by
       rcases (mem_withL _ _ _).1 hz with hz | hz
       ·simp only [List.mem_cons, List.not_mem_nil, or_false] at hz
        rcases hz with rfl | rfl <;> simp [Fm.plain, hpx.1, hpx.2, hpl.2]
       ·exact hHp z hz) hc _ _ w9 hv12 (hu0.keeps ((kw.trans k67).trans k79))).mono ?_; rintro e w10 ⟨rfl, k10⟩
      go_wp2_with fail
      go_ret
      exact ⟨ret_bool (sqB_congr (sq_orimpL hmr.out (fun z => by rw [mem_withL]; simp)).symm), ((kw.trans k67).trans k79).trans k10⟩
     | var p0 =>
      by_cases hin : (Fm.var p0) ∈ H
      ·have HIN := hid hin; clear hin
       go_wp2_with fail
       refine HU.out.mono ?_; rintro e w7 ⟨rfl, k7⟩
       have k67 := k6.trans k7
       have hc7 := k67.cell hca
       have ha7 := ha1.keeps k67
       go_wp2_with fail
       refine (l02Left_any _ _ (Fm.var p0) y.enc _ _ ha7 rfl).mono ?_; rintro e w' ⟨v8, rfl, hv8, rfl⟩
       go_wp2_with fail
       refine (l02Right_any _ _ (Fm.var p0) y _ _ ha7 rfl).mono ?_; rintro e w' ⟨v9, rfl, hv9, rfl⟩
       obtain ⟨bx, ox, nx, cx, rfl, _, _, _, _, hcx, _⟩ := hv8.root
       obtain ⟨p9, n9, q9, rfl⟩ := hv9.shape
       replace hcx : w7.cell? ⟨bx, ox, none⟩ = some (.int .i64 0) := hcx
       go_wp2_with fail
       refine (has_fm H (Fm.var p0) _ _ w7 (hR.keeps k7) hv8).mono ?_; rintro e w8 ⟨rfl, k8⟩
       rw [decide_eq_true HIN.out]
       have h9 := hv9.keeps k8
       have kl := k8.alloc (.cells #[.slice p9 n9 q9] 26)
       have hlit : FsL (w8.alloc (.cells #[.slice p9 n9 q9] 26)) _ [y] := NdsL.lit1 (w := w8) h9
       go_wp2_with fail
       refine (with_fm H [y] _ _ _ ((hR.keeps k7).keeps kl) hlit (by have := len_le_wts H; simp; omega)).mono ?_; rintro e w9 ⟨v12, rfl, hv12, k9⟩
       have hwl := wts_withL [y] H
       simp only [wts] at hwl
       have k79 := (kl).trans k9
       obtain ⟨p12, n12, q12, rfl⟩ := NdsL.shapeL hv12
       go_wp2_with fail
       refine (IH.out _ c (by omega) (fun z hz => by
        rcases (mem_withL _ _ _).1 hz with hz | hz
        ·simp only [List.mem_cons, List.not_mem_nil, or_false] at hz
         subst hz; exact hpl.2
        ·exact hHp z hz) hc _ _ w9 hv12 (hu0.keeps ((kw.trans k67).trans k79))).mono ?_; rintro e w10 ⟨rfl, k10⟩
       go_wp2_with fail
       go_ret
       exact ⟨ret_bool (sqB_congr (sq_impL hmr.out HIN.out (fun z => by rw [mem_withL]; simp)).symm), ((kw.trans k67).trans k79).trans k10⟩
      ·have HIN := hid hin; clear hin
       go_wp2_with fail
       refine HU.out.mono ?_; rintro e w7 ⟨rfl, k7⟩
       have k67 := k6.trans k7
       have hc7 := k67.cell hca
       have ha7 := ha1.keeps k67
       go_wp2_with fail
       refine (l02Left_any _ _ (Fm.var p0) y.enc _ _ ha7 rfl).mono ?_; rintro e w' ⟨v8, rfl, hv8, rfl⟩
       go_wp2_with fail
       refine (l02Right_any _ _ (Fm.var p0) y _ _ ha7 rfl).mono ?_; rintro e w' ⟨v9, rfl, hv9, rfl⟩
       obtain ⟨bx, ox, nx, cx, rfl, _, _, _, _, hcx, _⟩ := hv8.root
       obtain ⟨p9, n9, q9, rfl⟩ := hv9.shape
       replace hcx : w7.cell? ⟨bx, ox, none⟩ = some (.int .i64 0) := hcx
       go_wp2_with fail
       refine (has_fm H (Fm.var p0) _ _ w7 (hR.keeps k7) hv8).mono ?_; rintro e w8 ⟨rfl, k8⟩
       rw [decide_eq_false HIN.out]
       go_wp2
       go_roundw
       case rel =>
        refine ⟨k + 1, by omega, by go_num, rfl, fun j hj hk => ?_, (kw.trans k67).trans k8⟩
        by_cases e : j = k
        ·subst e
         rw [HGA.out, HRG.out]
         exact ⟨.inr (.inl ⟨p0, y, rfl, HIN.out⟩), hus⟩
        ·exact HS.out j hj (by omega)
       case measure => simp [intOf]; omega
     | imp x1 x2 =>
      by_cases hin : (Fm.imp x1 x2) ∈ H
      ·have HIN := hid hin; clear hin
       go_wp2_with fail
       refine HU.out.mono ?_; rintro e w7 ⟨rfl, k7⟩
       have k67 := k6.trans k7
       have hc7 := k67.cell hca
       have ha7 := ha1.keeps k67
       go_wp2_with fail
       refine (l02Left_any _ _ (Fm.imp x1 x2) y.enc _ _ ha7 rfl).mono ?_; rintro e w' ⟨v8, rfl, hv8, rfl⟩
       go_wp2_with fail
       refine (l02Right_any _ _ (Fm.imp x1 x2) y _ _ ha7 rfl).mono ?_; rintro e w' ⟨v9, rfl, hv9, rfl⟩
       obtain ⟨bx, ox, nx, cx, rfl, _, _, _, _, hcx, _⟩ := hv8.root
       obtain ⟨p9, n9, q9, rfl⟩ := hv9.shape
       replace hcx : w7.cell? ⟨bx, ox, none⟩ = some (.int .i64 4) := hcx
       go_wp2_with fail
       refine (has_fm H (Fm.imp x1 x2) _ _ w7 (hR.keeps k7) hv8).mono ?_; rintro e w8 ⟨rfl, k8⟩
       rw [decide_eq_true HIN.out]
       have h9 := hv9.keeps k8
       have kl := k8.alloc (.cells #[.slice p9 n9 q9] 26)
       have hlit : FsL (w8.alloc (.cells #[.slice p9 n9 q9] 26)) _ [y] := NdsL.lit1 (w := w8) h9
       go_wp2_with fail
       refine (with_fm H [y] _ _ _ ((hR.keeps k7).keeps kl) hlit (by have := len_le_wts H; simp; omega)).mono ?_; rintro e w9 ⟨v12, rfl, hv12, k9⟩
       have hwl := wts_withL [y] H
       simp only [wts] at hwl
       have k79 := (kl).trans k9
       obtain ⟨p12, n12, q12, rfl⟩ := NdsL.shapeL hv12
       go_wp2_with fail
       refine (IH.out _ c (by omega) (fun z hz => by
        rcases (mem_withL _ _ _).1 hz with hz | hz
        ·simp only [List.mem_cons, List.not_mem_nil, or_false] at hz
         subst hz; exact hpl.2
        ·exact hHp z hz) hc _ _ w9 hv12 (hu0.keeps ((kw.trans k67).trans k79))).mono ?_; rintro e w10 ⟨rfl, k10⟩
       go_wp2_with fail
       go_ret
       exact ⟨ret_bool (sqB_congr (sq_impL hmr.out HIN.out (fun z => by rw [mem_withL]; simp)).symm), ((kw.trans k67).trans k79).trans k10⟩
      ·have HIN := hid hin; clear hin
       go_wp2_with fail
       refine HU.out.mono ?_; rintro e w7 ⟨rfl, k7⟩
       have k67 := k6.trans k7
       have hc7 := k67.cell hca
       have ha7 := ha1.keeps k67
       go_wp2_with fail
       refine (l02Left_any _ _ (Fm.imp x1 x2) y.enc _ _ ha7 rfl).mono ?_; rintro e w' ⟨v8, rfl, hv8, rfl⟩
       go_wp2_with fail
       refine (l02Right_any _ _ (Fm.imp x1 x2) y _ _ ha7 rfl).mono ?_; rintro e w' ⟨v9, rfl, hv9, rfl⟩
       obtain ⟨bx, ox, nx, cx, rfl, _, _, _, _, hcx, _⟩ := hv8.root
       obtain ⟨p9, n9, q9, rfl⟩ := hv9.shape
       replace hcx : w7.cell? ⟨bx, ox, none⟩ = some (.int .i64 4) := hcx
       go_wp2_with fail
       refine (has_fm H (Fm.imp x1 x2) _ _ w7 (hR.keeps k7) hv8).mono ?_; rintro e w8 ⟨rfl, k8⟩
       rw [decide_eq_false HIN.out]
       go_wp2
       go_roundw
       case rel =>
        refine ⟨k + 1, by omega, by go_num, rfl, fun j hj hk => ?_, (kw.trans k67).trans k8⟩
        by_cases e : j = k
        ·subst e
         rw [HGA.out, HRG.out]
         exact ⟨.inr (.inr ⟨x1, x2, y, rfl, HIN.out⟩), hus⟩
        ·exact HS.out j hj (by omega)
       case measure => simp [intOf]; omega
  ·exact absurd (show AllStk G from fun j hj => HS.out j hj (by have := HM.out; omega)) HNS.out
end Go.Proofs.YtikooimokfbffaaGreatDoor
