import Derived.Test.YtikooimokfbffaaGreatDoorHU3
/- The reference search: none is taken apart, the right side is leaf (printed by mksearch.py). -/
namespace Go.Proofs.YtikooimokfbffaaGreatDoor
open Go.RowKit
set_option maxRecDepth 100000 in
set_option maxHeartbeats 8000000 in
theorem search_leaf (n : Nat) (hn : n ≤ 1000000000) (ih : Srch n) (G : List Fm) (c : Fm) (hw : wts G + wt c ≤ n + 1) (hG : ∀ a ∈ G, a.plain = true) (hc : c.plain = true) (h1 : ¬ c ∈ G) (h2 : ¬ Fm.fls ∈ G) (hst : AllStk G) (hlf : (∃ p, c = .var p ∧ Fm.var p ∉ G) ∨ c = .fls ∨ ∃ x y, c = .or x y) (hor : ¬ ∃ x y, c = .or x y) (kd : Int) (hkc : (c.kind : Int) = kd) (hk2 : (kd == 2) = false) (hk3 : (kd == 3) = false) (hk4 : (kd == 4) = false)
  (v u : Value) (w : World) (hv : FsL w v G) (hu : Nds w u c.enc) :
  Calls Tryz.prog 27 #[v, u] w fun e w' => e = .returned (.bool (sqB G c)) ∧ Keeps w w' := by
 have hu0 := hu
 have hv0 := hv
 obtain ⟨p, m, cap, rfl⟩ := NdsL.shapeL hv
 obtain ⟨hm, hmc, hmx⟩ := FsL.len hv
 obtain ⟨bc, oc, nc, cc, rfl, _, _, _, _, hcC, _⟩ := hu.root
 have HM := hid hm; clear hm
 have hlen := len_le_wts G
 have hml : m ≤ 1000000000 := by have := HM.out; omega
 unfold maxLen at hmx
 have IH := hid ih; clear ih
 have HC := hid (has_fm G c _ _ w hv hu)
 have HF := hid (fun w1 (k : Keeps w w1) u1 (h : Nds w1 u1 Fm.fls.enc) => has_fm G .fls _ u1 w1 (hv.keeps k) h)
 rw [decide_eq_false h1] at HC
 have HST := hid hst; clear hst
 have HLF := hid hlf; clear hlf
 have HOR := hid hor; clear hor
 rw [decide_eq_false h2] at HF
 have H1 := hid h1; clear h1
 have H2 := hid h2; clear h2
 have HG := hid hG; clear hG
 have HW := hid hw; clear hw
 clear hv hu
 go_enter Tryz.func27, Tryz.ntmps27
 go_wp2_with fail
 refine HC.out.mono ?_; rintro e w2 ⟨rfl, k2⟩
 go_wp2_with fail
 refine (l02False_any _).mono ?_; rintro e w3 ⟨v3, rfl, hv3, k3⟩
 go_wp2_with fail
 refine (HF.out w3 (k2.trans k3) _ (hv3.nds (by simp [Fm.enc]))).mono ?_; rintro e w4 ⟨rfl, k4⟩
 have k04 := (k2.trans k3).trans k4
 clear hv3 HC HF
 go_wp2
 go_loopw [4, 5] (fun r i' wr => ∃ k : Nat, k ≤ m ∧ i' = .int .i64 k ∧ r = .bool false ∧ Keeps w wr) (fun _ i _ => m - (intOf i).toNat)
 case atStart => exact ⟨0, by omega, rfl, rfl, k04⟩
 case round =>
  obtain ⟨k, hk, rfl, rfl, kw⟩ := hrel
  clear k04
  by_cases hlt : k < m
  ·have hltG : k < G.length := by have := HM.out; omega
   have hlt' : (k : Int) < m := by omega
   obtain ⟨b, off, u1, hp, hcell, ha1⟩ := (hv0.keeps kw).get k hltG
   subst hp
   have hvw := hv0.keeps kw
   obtain ⟨us, hat, hus⟩ := NdsL.vals hvw
   have hmr := hid (mem_rest hltG)
   have hwr := hid (wts_rest hltG)
   have hap := HG.out _ (List.getElem_mem hltG)
   have hst := HST.out k hltG
   generalize hga : G[k] = a at *
   have HGA := hid hga; clear hga
   obtain ⟨ba, oa, na, ca, rfl, _, _, _, _, hca, _⟩ := ha1.root
   obtain ⟨q, hq, hrun⟩ := tailL b off m cap (k + 1) ((k : Int) + 1) (by omega) (by omega) hmc
   have hql := hq wr us hat (by have := hus.1; simp at this; have := HM.out; omega)
   clear hq hvw
   have hcells := hus.1
   have HUS := hid hus; clear hus
   have HCE := hid hcells; clear hcells
   have hle1 : m - (k + 1) = ((G.map Fm.enc).drop (k + 1)).length := by have := HM.out; simp; omega
   have hle2 : k = ((G.map Fm.enc).take k).length := by have := HM.out; simp; omega
   have HLE1 := hid hle1; clear hle1
   have HLE2 := hid hle2; clear hle2
   have hszw := kw.size
   have hkc : (k : Int) ≤ cap := by omega
   have hk0 : (0 : Int) ≤ k := by omega
   have hkw : IntKind.i64.wrap ((k : Int) + 1) = (k : Int) + 1 := IntWalk.i64_in _ (by omega)
   go_wp2_with fail
   clear hcell
   go_region_law (first
    | (refine stepSh rfl (.tmp 33) (.tmp 36) rfl wr _ [] rfl ?_ (some ⟨b, off, none⟩) k cap (us.take k) ((G.map Fm.enc).take k) rfl HLE2.out ?_ (HUS.out.take k) ?_ ?_ ?_; (focus exact (ShL.empty wr (Nat.le_refl _))); (focus (refine At.keeps (hat.take k) ?_; (repeat (first | exact Keeps.refl _ | refine Keeps.alloc ?_ _ | refine Keeps.drew ?_)))); (focus first | (simp; done) | (simp; omega)); (focus (have := HM.out; simp; omega)); intro v5 w5 hv5 hg5 hr5; have k5 : Keeps wr w5 := Keeps.grown (by (repeat (first | exact Keeps.refl _ | refine Keeps.alloc ?_ _ | refine Keeps.drew ?_))) hg5 hr5; simp only [List.nil_append] at hv5)
    | (refine stepSh rfl (.tmp 37) (.tmp 41) rfl wr _ ((G.map Fm.enc).take k) rfl hv5 q (m - (k + 1)) (cap - (k + 1)) (us.drop (k + 1)) ((G.map Fm.enc).drop (k + 1)) rfl HLE1.out (hql.keeps k5) (HUS.out.drop (k + 1)) k5.size ?_ ?_; (focus (have := HM.out; simp; omega)); intro v6 w6 hv6 hg6 hr6; have k6 := k5.grown hg6 hr6))
   have hR : FsL w6 v6 (rest G k) := by
    have h := hv6.ndsL k6 (by have := HM.out; simp; omega)
    unfold FsL rest
    rw [List.map_append, List.map_take, List.map_drop]
    exact h
   obtain ⟨p6, n6, q6, rfl⟩ := NdsL.shapeL hR
   have hHp : ∀ z ∈ rest G k, z.plain = true := fun z hz => HG.out z ((hmr.out z).2 (.inr hz))
   clear hv5 hg5 hr5 hv6 hg6 hr6 k5 hql hrun hat HUS HCE HLE1 HLE2 hkc hkw
   generalize hrg : rest G k = H at *
   have HRG := hid hrg; clear hrg
   obtain ⟨hsta, hus⟩ := hst
   have HU := hid (l23Useless_any H a hap _ _ w6 hR (ha1.keeps k6))
   rw [hus] at HU
   clear hus
   rcases hsta with ⟨v, rfl⟩ | ⟨p0, y, rfl, hin⟩ | ⟨x1, x2, y, rfl, hin⟩
   ·replace hca : wr.cell? ⟨ba, oa, none⟩ = some (.int .i64 0) := hca
    go_wp2_with fail
    refine HU.out.mono ?_; rintro e w7 ⟨rfl, k7⟩
    have k67 := k6.trans k7
    have hc7 := k67.cell hca
    have ha7 := ha1.keeps k67
    go_wp2
    go_roundw
    case rel => exact ⟨k + 1, by omega, by go_num, rfl, kw.trans k67⟩
    case measure => simp [intOf]; omega
   ·replace hca : wr.cell? ⟨ba, oa, none⟩ = some (.int .i64 4) := hca
    have HIN := hid hin; clear hin
    go_wp2_with fail
    refine HU.out.mono ?_; rintro e w7 ⟨rfl, k7⟩
    have k67 := k6.trans k7
    have hc7 := k67.cell hca
    have ha7 := ha1.keeps k67
    go_wp2_with fail
    refine (l02Left_any _ _ (Fm.var p0) y.enc _ _ ha7 rfl).mono ?_; rintro e w' ⟨v8, rfl, hv8, rfl⟩
    go_wp2_with fail
    refine (l02Right_any _ _ (Fm.var p0) y _ _ ha7 rfl).mono ?_; rintro e w' ⟨v9, rfl, hv9, rfl⟩
    obtain ⟨bx, ox, nx, cx, rfl, _, _, _, _, hcx, _⟩ := hv8.root
    obtain ⟨p9, n9, q9, rfl⟩ := hv9.shape
    replace hcx : w7.cell? ⟨bx, ox, none⟩ = some (.int .i64 0) := hcx
    go_wp2_with fail
    refine (has_fm H (Fm.var p0) _ _ w7 (hR.keeps k7) hv8).mono ?_; rintro e w8 ⟨rfl, k8⟩
    rw [decide_eq_false HIN.out]
    go_wp2
    go_roundw
    case rel => exact ⟨k + 1, by omega, by go_num, rfl, (kw.trans k67).trans k8⟩
    case measure => simp [intOf]; omega
   ·replace hca : wr.cell? ⟨ba, oa, none⟩ = some (.int .i64 4) := hca
    have HIN := hid hin; clear hin
    go_wp2_with fail
    refine HU.out.mono ?_; rintro e w7 ⟨rfl, k7⟩
    have k67 := k6.trans k7
    have hc7 := k67.cell hca
    have ha7 := ha1.keeps k67
    go_wp2_with fail
    refine (l02Left_any _ _ (Fm.imp x1 x2) y.enc _ _ ha7 rfl).mono ?_; rintro e w' ⟨v8, rfl, hv8, rfl⟩
    go_wp2_with fail
    refine (l02Right_any _ _ (Fm.imp x1 x2) y _ _ ha7 rfl).mono ?_; rintro e w' ⟨v9, rfl, hv9, rfl⟩
    obtain ⟨bx, ox, nx, cx, rfl, _, _, _, _, hcx, _⟩ := hv8.root
    obtain ⟨p9, n9, q9, rfl⟩ := hv9.shape
    replace hcx : w7.cell? ⟨bx, ox, none⟩ = some (.int .i64 4) := hcx
    go_wp2_with fail
    refine (has_fm H (Fm.imp x1 x2) _ _ w7 (hR.keeps k7) hv8).mono ?_; rintro e w8 ⟨rfl, k8⟩
    rw [decide_eq_false HIN.out]
    go_wp2
    go_roundw
    case rel => exact ⟨k + 1, by omega, by go_num, rfl, (kw.trans k67).trans k8⟩
    case measure => simp [intOf]; omega
  ·have hfin := final_of H2.out (fun j hj => (HST.out j hj).stuck)
   have HFIN := hid hfin; clear hfin
   clear hk
   have hcw := kw.cell hcC
   clear hcC
   have hvw := hv0.keeps kw
   have huw := hu0.keeps kw
   have hgc2 := wt_ge c
   have hW0 := HW.out
   have kA := kw
   rw [hkc] at hcw
   have HNO := hid (fun h : Sq G c => (final_complete HFIN.out HLF.out h).resolve_left (fun ⟨d, e, he, _⟩ => HOR.out ⟨d, e, he⟩))
   clear hvw huw
   go_wp2
   clear hcw kw hlt
   go_loopw [4, 10] (fun r i' wr => ∃ k : Nat, k ≤ m ∧ i' = .int .i64 k ∧ r = .bool false ∧ (∀ j (hj : j < G.length), j < k → ∀ x y b, G[j] = Fm.imp (Fm.imp x y) b → ¬ Way G c x y b) ∧ Keeps w wr) (fun _ i _ => m - (intOf i).toNat)
   case atStart => exact ⟨0, by omega, rfl, rfl, fun j hj hk => by omega, kA⟩
   case round =>
    as_aux_lemma =>
     obtain ⟨k, hk, rfl, rfl, hst, kw⟩ := hrel
     have HS := hid hst; clear hst
     clear kA
     by_cases hlt : k < m
     ·have hltG : k < G.length := by have := HM.out; omega
      have hlt' : (k : Int) < m := by omega
      obtain ⟨b, off, u1, hp, hcell, ha1⟩ := (hv0.keeps kw).get k hltG
      subst hp
      have hvw := hv0.keeps kw
      have hmr := hid (mem_rest hltG)
      have hwr := hid (wts_rest hltG)
      have hap := HG.out _ (List.getElem_mem hltG)
      have hform := HFIN.out.forms _ (List.getElem_mem hltG)
      generalize hga : G[k] = a at *
      have HGA := hid hga; clear hga
      obtain ⟨ba, oa, na, ca, rfl, _, _, _, _, hca, _⟩ := ha1.root
      rcases hform with ⟨p0, rfl⟩ | ⟨p0, y, rfl, hp0⟩ | ⟨y, rfl⟩ | ⟨x, y, z, rfl⟩
      ·replace hca : wr.cell? ⟨ba, oa, none⟩ = some (.int .i64 0) := hca
       go_wp2
       go_roundw
       case rel =>
        refine ⟨k + 1, by omega, by go_num, rfl, fun j hj hk => ?_, kw⟩
        by_cases e : j = k
        ·subst e
         rw [HGA.out]
         intro x y b h; cases h
        ·exact HS.out j hj (by omega)
       case measure => simp [intOf]; omega
      ·replace hca : wr.cell? ⟨ba, oa, none⟩ = some (.int .i64 4) := hca
       clear hp0
       go_wp2_with fail
       refine (l02Left_any _ _ (Fm.var p0) y.enc _ _ ha1 rfl).mono ?_; rintro e w' ⟨v8, rfl, hv8, rfl⟩
       obtain ⟨bx, ox, nx, cx, rfl, _, _, _, _, hcx, _⟩ := hv8.root
       replace hcx : wr.cell? ⟨bx, ox, none⟩ = some (.int .i64 0) := hcx
       go_wp2
       go_roundw
       case rel =>
        refine ⟨k + 1, by omega, by go_num, rfl, fun j hj hk => ?_, kw⟩
        by_cases e : j = k
        ·subst e
         rw [HGA.out]
         intro x y b h; cases h
        ·exact HS.out j hj (by omega)
       case measure => simp [intOf]; omega
      ·replace hca : wr.cell? ⟨ba, oa, none⟩ = some (.int .i64 4) := hca
       go_wp2_with fail
       refine (l02Left_any _ _ Fm.fls y.enc _ _ ha1 rfl).mono ?_; rintro e w' ⟨v8, rfl, hv8, rfl⟩
       obtain ⟨bx, ox, nx, cx, rfl, _, _, _, _, hcx, _⟩ := hv8.root
       replace hcx : wr.cell? ⟨bx, ox, none⟩ = some (.int .i64 1) := hcx
       go_wp2
       go_roundw
       case rel =>
        refine ⟨k + 1, by omega, by go_num, rfl, fun j hj hk => ?_, kw⟩
        by_cases e : j = k
        ·subst e
         rw [HGA.out]
         intro x y b h; cases h
        ·exact HS.out j hj (by omega)
       case measure => simp [intOf]; omega
      ·replace hca : wr.cell? ⟨ba, oa, none⟩ = some (.int .i64 4) := hca
       obtain ⟨us, hat, hus⟩ := NdsL.vals hvw
       obtain ⟨q, hq, hrun⟩ := tailL b off m cap (k + 1) ((k : Int) + 1) (by omega) (by omega) hmc
       have hql := hq wr us hat (by have := hus.1; simp at this; have := HM.out; omega)
       clear hq hvw
       have hcells := hus.1
       have HUS := hid hus; clear hus
       have HCE := hid hcells; clear hcells
       have hle1 : m - (k + 1) = ((G.map Fm.enc).drop (k + 1)).length := by have := HM.out; simp; omega
       have hle2 : k = ((G.map Fm.enc).take k).length := by have := HM.out; simp; omega
       have HLE1 := hid hle1; clear hle1
       have HLE2 := hid hle2; clear hle2
       have hszw := kw.size
       have hkc : (k : Int) ≤ cap := by omega
       have hk0 : (0 : Int) ≤ k := by omega
       have hkw : IntKind.i64.wrap ((k : Int) + 1) = (k : Int) + 1 := IntWalk.i64_in _ (by omega)
       go_wp2_with fail
       refine (l02Left_any _ _ (Fm.imp x y) z.enc _ _ ha1 rfl).mono ?_; rintro e w' ⟨v3, rfl, hv3, rfl⟩
       obtain ⟨bx, ox, nx, cx, rfl, _, _, _, _, hcx, _⟩ := hv3.root
       replace hcx : wr.cell? ⟨bx, ox, none⟩ = some (.int .i64 4) := hcx
       go_wp2_with fail
       clear hcell hcx hv3
       go_region_law (first
        | (refine stepSh rfl (.tmp 205) (.tmp 208) rfl wr _ [] rfl ?_ (some ⟨b, off, none⟩) k cap (us.take k) ((G.map Fm.enc).take k) rfl HLE2.out ?_ (HUS.out.take k) ?_ ?_ ?_; (focus exact (ShL.empty wr (Nat.le_refl _))); (focus (refine At.keeps (hat.take k) ?_; (repeat (first | exact Keeps.refl _ | refine Keeps.alloc ?_ _ | refine Keeps.drew ?_)))); (focus first | (simp; done) | (simp; omega)); (focus (have := HM.out; simp; omega)); intro v5 w5 hv5 hg5 hr5; have k5 : Keeps wr w5 := Keeps.grown (by (repeat (first | exact Keeps.refl _ | refine Keeps.alloc ?_ _ | refine Keeps.drew ?_))) hg5 hr5; simp only [List.nil_append] at hv5)
        | (refine stepSh rfl (.tmp 209) (.tmp 213) rfl wr _ ((G.map Fm.enc).take k) rfl hv5 q (m - (k + 1)) (cap - (k + 1)) (us.drop (k + 1)) ((G.map Fm.enc).drop (k + 1)) rfl HLE1.out (hql.keeps k5) (HUS.out.drop (k + 1)) k5.size ?_ ?_; (focus (have := HM.out; simp; omega)); intro v6 w6 hv6 hg6 hr6; have k6 := k5.grown hg6 hr6))
       have hR : FsL w6 v6 (rest G k) := by
        have h := hv6.ndsL k6 (by have := HM.out; simp; omega)
        unfold FsL rest
        rw [List.map_append, List.map_take, List.map_drop]
        exact h
       obtain ⟨p6, n6, q6, rfl⟩ := NdsL.shapeL hR
       have hHp : ∀ t ∈ rest G k, t.plain = true := fun t ht => HG.out t ((hmr.out t).2 (.inr ht))
       clear hv5 hg5 hr5 hv6 hg6 hr6 k5 hql hrun hat HUS HCE HLE1 HLE2 hkc hkw
       generalize hrg : rest G k = H at *
       have HRG := hid hrg; clear hrg
       have hW0 := HW.out
       rw [hwr.out] at hW0
       have hgc2 := wt_ge c
       have hgy2 := wt_ge y
       have hdn := wt_impimp x y z
       have hdn2 := wt_imp (Fm.imp x y) z
       have hla := len_le_wt (Fm.imp (Fm.imp x y) z)
       simp only [Fm.enc, List.length_cons, List.length_append] at hla
       have hpl : (x.plain = true ∧ y.plain = true) ∧ z.plain = true := by simpa [Fm.plain] using hap
       have hway := way_iff (c := c) (K := withL H [Fm.imp y z, x]) (L := withL H [z]) hmr.out (fun t => by rw [mem_withL]; simp) (fun t => by rw [mem_withL]; simp)
       have hmem : Fm.imp (Fm.imp x y) z ∈ G := (hmr.out _).2 (.inl rfl)
       have hw1 := wts_withL [Fm.imp y z, x] H
       have hw2 := wts_withL [z] H
       simp only [wts] at hw1 hw2
       have HX := hid (IH.out (withL H [Fm.imp y z, x]) y (by omega) (fun t ht => by
        rcases (mem_withL _ _ _).1 ht with ht | ht
        ·simp only [List.mem_cons, List.not_mem_nil, or_false] at ht
         rcases ht with rfl | rfl
         ·simp [Fm.plain, hpl.1.2, hpl.2]
         ·exact hpl.1.1
        ·exact hHp t ht) hpl.1.2)
       have HY := hid (IH.out (withL H [z]) c (by omega) (fun t ht => by
        rcases (mem_withL _ _ _).1 ht with ht | ht
        ·obtain rfl : t = z := by simpa using ht
         exact hpl.2
        ·exact hHp t ht) hc)
       have HWAY := hid hway; clear hway
       have HMEM := hid hmem; clear hmem
       cases hsx : sqB (withL H [Fm.imp y z, x]) y
       ·have HSX := hid hsx; clear hsx
        have ha6 := ha1.keeps k6
        go_wp2_with fail
        refine (l02Left_any _ _ (Fm.imp x y) z.enc _ _ ha6 rfl).mono ?_; rintro e w' ⟨v8, rfl, hv8, rfl⟩
        go_wp2_with fail
        refine (l02Right_any _ _ (Fm.imp x y) z _ _ ha6 rfl).mono ?_; rintro e w' ⟨v9, rfl, hv9, rfl⟩
        obtain ⟨p8, n8, q8, rfl⟩ := hv8.shape
        obtain ⟨p9, n9, q9, rfl⟩ := hv9.shape
        go_wp2_with fail
        refine (l02Right_any _ _ x y _ _ hv8 rfl).mono ?_; rintro e w' ⟨v10, rfl, hv10, rfl⟩
        go_wp2_with fail
        refine (l02Pair_any 4 _ _ _ _ _ hv10 hv9 (by omega)).mono ?_; rintro e w8 ⟨v14, rfl, hv14, k8⟩
        go_wp2_with fail
        refine (l02Left_any _ _ x y.enc _ _ (hv8.keeps k8) rfl).mono ?_; rintro e w' ⟨v11, rfl, hv11, rfl⟩
        have h14 : Nds w8 v14 (Fm.imp y z).enc := hv14.nds (by simp; omega)
        obtain ⟨p14, n14, q14, rfl⟩ := h14.shape
        obtain ⟨p11, n11, q11, rfl⟩ := hv11.shape
        have kl := k8.alloc (.cells #[.slice p14 n14 q14, .slice p11 n11 q11] 26)
        have hlit : FsL (w8.alloc (.cells #[.slice p14 n14 q14, .slice p11 n11 q11] 26)) _ [Fm.imp y z, x] := NdsL.lit2 (w := w8) h14 hv11
        go_wp2_with fail
        refine (with_fm H [Fm.imp y z, x] _ _ _ (hR.keeps kl) hlit (by have := len_le_wts H; simp; omega)).mono ?_; rintro e w9 ⟨v12, rfl, hv12, k9⟩
        obtain ⟨p12, n12, q12, rfl⟩ := NdsL.shapeL hv12
        have k69 := kl.trans k9
        go_wp2_with fail
        refine (l02Right_any _ _ x y _ _ (hv8.keeps k69) rfl).mono ?_; rintro e w' ⟨v16, rfl, hv16, rfl⟩
        go_wp2_with fail
        refine (HX.out _ _ w9 hv12 hv16).mono ?_; rintro e w10 ⟨rfl, k10⟩; rw [HSX.out]
        have k610 := k69.trans k10
        go_wp2
        go_roundw
        case rel =>
         refine ⟨k + 1, by omega, by go_num, rfl, fun j hj hk => ?_, (kw.trans k6).trans k610⟩
         by_cases e : j = k
         ·subst e
          rw [HGA.out]
          intro x' y' z' h hwy; cases h; have h1 := sqB_true (HWAY.out.1 hwy).1; rw [HSX.out] at h1; cases h1
         ·exact HS.out j hj (by omega)
        case measure => simp [intOf]; omega
       ·have HSX := hid hsx; clear hsx
        have ha6 := ha1.keeps k6
        go_wp2_with fail
        refine (l02Left_any _ _ (Fm.imp x y) z.enc _ _ ha6 rfl).mono ?_; rintro e w' ⟨v8, rfl, hv8, rfl⟩
        go_wp2_with fail
        refine (l02Right_any _ _ (Fm.imp x y) z _ _ ha6 rfl).mono ?_; rintro e w' ⟨v9, rfl, hv9, rfl⟩
        obtain ⟨p8, n8, q8, rfl⟩ := hv8.shape
        obtain ⟨p9, n9, q9, rfl⟩ := hv9.shape
        go_wp2_with fail
        refine (l02Right_any _ _ x y _ _ hv8 rfl).mono ?_; rintro e w' ⟨v10, rfl, hv10, rfl⟩
        go_wp2_with fail
        refine (l02Pair_any 4 _ _ _ _ _ hv10 hv9 (by omega)).mono ?_; rintro e w8 ⟨v14, rfl, hv14, k8⟩
        go_wp2_with fail
        refine (l02Left_any _ _ x y.enc _ _ (hv8.keeps k8) rfl).mono ?_; rintro e w' ⟨v11, rfl, hv11, rfl⟩
        have h14 : Nds w8 v14 (Fm.imp y z).enc := hv14.nds (by simp; omega)
        obtain ⟨p14, n14, q14, rfl⟩ := h14.shape
        obtain ⟨p11, n11, q11, rfl⟩ := hv11.shape
        have kl := k8.alloc (.cells #[.slice p14 n14 q14, .slice p11 n11 q11] 26)
        have hlit : FsL (w8.alloc (.cells #[.slice p14 n14 q14, .slice p11 n11 q11] 26)) _ [Fm.imp y z, x] := NdsL.lit2 (w := w8) h14 hv11
        go_wp2_with fail
        refine (with_fm H [Fm.imp y z, x] _ _ _ (hR.keeps kl) hlit (by have := len_le_wts H; simp; omega)).mono ?_; rintro e w9 ⟨v12, rfl, hv12, k9⟩
        obtain ⟨p12, n12, q12, rfl⟩ := NdsL.shapeL hv12
        have k69 := kl.trans k9
        go_wp2_with fail
        refine (l02Right_any _ _ x y _ _ (hv8.keeps k69) rfl).mono ?_; rintro e w' ⟨v16, rfl, hv16, rfl⟩
        go_wp2_with fail
        refine (HX.out _ _ w9 hv12 hv16).mono ?_; rintro e w10 ⟨rfl, k10⟩; rw [HSX.out]
        have k610 := k69.trans k10
        have kl2 := (Keeps.refl w10).alloc (.cells #[.slice p9 n9 q9] 26)
        have hlit2 : FsL (w10.alloc (.cells #[.slice p9 n9 q9] 26)) _ [z] := NdsL.lit1 (w := w10) (hv9.keeps k610)
        go_wp2_with fail
        refine (with_fm H [z] _ _ _ ((hR.keeps k610).keeps kl2) hlit2 (by have := len_le_wts H; simp; omega)).mono ?_; rintro e w11 ⟨v13, rfl, hv13, k11⟩
        obtain ⟨p13, n13, q13, rfl⟩ := NdsL.shapeL hv13
        have k611 := k610.trans (kl2.trans k11)
        go_wp2_with fail
        refine (HY.out _ _ w11 hv13 (hu0.keeps ((kw.trans k6).trans k611))).mono ?_; rintro e w12 ⟨rfl, k12⟩
        cases hsy : sqB (withL H [z]) c
        ·have HSY := hid hsy; clear hsy
         go_wp2
         go_roundw
         case rel =>
          refine ⟨k + 1, by omega, by go_num, rfl, fun j hj hk => ?_, ((kw.trans k6).trans k611).trans k12⟩
          by_cases e : j = k
          ·subst e
           rw [HGA.out]
           intro x' y' z' h hwy; cases h; have h1 := sqB_true (HWAY.out.1 hwy).2; rw [HSY.out] at h1; cases h1
          ·exact HS.out j hj (by omega)
         case measure => simp [intOf]; omega
        ·have HSY := hid hsy; clear hsy
         go_wp2_with fail
         go_ret
         exact ⟨ret_bool (sqB_true (way_sound HMEM.out (HWAY.out.2 ⟨sqB_iff.1 HSX.out, sqB_iff.1 HSY.out⟩))).symm, ((kw.trans k6).trans k611).trans k12⟩
     ·go_wp2
      go_ret
      refine ⟨ret_bool (sqB_false (fun h => ?_)).symm, kw⟩
      obtain ⟨x, y, z, hm', hwy⟩ := HNO.out h
      obtain ⟨j, hj, e⟩ := List.getElem_of_mem hm'
      exact HS.out j hj (by have := HM.out; omega) x y z e hwy
end Go.Proofs.YtikooimokfbffaaGreatDoor
