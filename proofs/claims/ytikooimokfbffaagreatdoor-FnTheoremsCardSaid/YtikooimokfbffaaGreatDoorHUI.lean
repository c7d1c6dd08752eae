import Derived.Test.YtikooimokfbffaaGreatDoorHU3
/- The reference search: none is taken apart, the right side is and (printed by mksearch.py). -/
namespace Go.Proofs.YtikooimokfbffaaGreatDoor
open Go.RowKit
set_option maxRecDepth 100000 in
set_option maxHeartbeats 8000000 in
theorem search_and (n : Nat) (hn : n ≤ 1000000000) (ih : Srch n) (G : List Fm) (c : Fm) (hw : wts G + wt c ≤ n + 1) (hG : ∀ a ∈ G, a.plain = true) (hc : c.plain = true) (h1 : ¬ c ∈ G) (h2 : ¬ Fm.fls ∈ G) (hst : AllStk G) (x y : Fm) (hd : Fm.and x y = c)
  (v u : Value) (w : World) (hv : FsL w v G) (hu : Nds w u c.enc) :
  Calls Tryz.prog 27 #[v, u] w fun e w' => e = .returned (.bool (sqB G c)) ∧ Keeps w w' := by
 have hu0 := hu
 have hv0 := hv
 obtain ⟨p, m, cap, rfl⟩ := NdsL.shapeL hv
 obtain ⟨hm, hmc, hmx⟩ := FsL.len hv
 obtain ⟨bc, oc, nc, cc, rfl, _, _, _, _, hcC, _⟩ := hu.root
 have HM := hid hm; clear hm
 have hlen := len_le_wts G
 have hml : m ≤ 1000000000 := by have := HM.out; omega
 unfold maxLen at hmx
 have IH := hid ih; clear ih
 have HC := hid (has_fm G c _ _ w hv hu)
 have HF := hid (fun w1 (k : Keeps w w1) u1 (h : Nds w1 u1 Fm.fls.enc) => has_fm G .fls _ u1 w1 (hv.keeps k) h)
 rw [decide_eq_false h1] at HC
 have HST := hid hst; clear hst
 rw [decide_eq_false h2] at HF
 have H1 := hid h1; clear h1
 have H2 := hid h2; clear h2
 have HG := hid hG; clear hG
 have HW := hid hw; clear hw
 clear hv hu
 go_enter Tryz.func27, Tryz.ntmps27
 go_wp2_with fail
 refine HC.out.mono ?_; rintro e w2 ⟨rfl, k2⟩
 go_wp2_with fail
 refine (l02False_any _).mono ?_; rintro e w3 ⟨v3, rfl, hv3, k3⟩
 go_wp2_with fail
 refine (HF.out w3 (k2.trans k3) _ (hv3.nds (by simp [Fm.enc]))).mono ?_; rintro e w4 ⟨rfl, k4⟩
 have k04 := (k2.trans k3).trans k4
 clear hv3 HC HF
 go_wp2
 go_loopw [4, 5] (fun r i' wr => ∃ k : Nat, k ≤ m ∧ i' = .int .i64 k ∧ r = .bool false ∧ Keeps w wr) (fun _ i _ => m - (intOf i).toNat)
 case atStart => exact ⟨0, by omega, rfl, rfl, k04⟩
 case round =>
  obtain ⟨k, hk, rfl, rfl, kw⟩ := hrel
  clear k04
  by_cases hlt : k < m
  ·have hltG : k < G.length := by have := HM.out; omega
   have hlt' : (k : Int) < m := by omega
   obtain ⟨b, off, u1, hp, hcell, ha1⟩ := (hv0.keeps kw).get k hltG
   subst hp
   have hvw := hv0.keeps kw
   obtain ⟨us, hat, hus⟩ := NdsL.vals hvw
   have hmr := hid (mem_rest hltG)
   have hwr := hid (wts_rest hltG)
   have hap := HG.out _ (List.getElem_mem hltG)
   have hst := HST.out k hltG
   generalize hga : G[k] = a at *
   have HGA := hid hga; clear hga
   obtain ⟨ba, oa, na, ca, rfl, _, _, _, _, hca, _⟩ := ha1.root
   obtain ⟨q, hq, hrun⟩ := tailL b off m cap (k + 1) ((k : Int) + 1) (by omega) (by omega) hmc
   have hql := hq wr us hat (by have := hus.1; simp at this; have := HM.out; omega)
   clear hq hvw
   have hcells := hus.1
   have HUS := hid hus; clear hus
   have HCE := hid hcells; clear hcells
   have hle1 : m - (k + 1) = ((G.map Fm.enc).drop (k + 1)).length := by have := HM.out; simp; omega
   have hle2 : k = ((G.map Fm.enc).take k).length := by have := HM.out; simp; omega
   have HLE1 := hid hle1; clear hle1
   have HLE2 := hid hle2; clear hle2
   have hszw := kw.size
   have hkc : (k : Int) ≤ cap := by omega
   have hk0 : (0 : Int) ≤ k := by omega
   have hkw : IntKind.i64.wrap ((k : Int) + 1) = (k : Int) + 1 := IntWalk.i64_in _ (by omega)
   go_wp2_with fail
   clear hcell
   go_region_law (first
    | (refine stepSh rfl (.tmp 33) (.tmp 36) rfl wr _ [] rfl ?_ (some ⟨b, off, none⟩) k cap (us.take k) ((G.map Fm.enc).take k) rfl HLE2.out ?_ (HUS.out.take k) ?_ ?_ ?_; (focus exact (ShL.empty wr (Nat.le_refl _))); (focus (refine At.keeps (hat.take k) ?_; (repeat (first | exact Keeps.refl _ | refine Keeps.alloc ?_ _ | refine Keeps.drew ?_)))); (focus first | (simp; done) | (simp; omega)); (focus (have := HM.out; simp; omega)); intro v5 w5 hv5 hg5 hr5; have k5 : Keeps wr w5 := Keeps.grown (by (repeat (first | exact Keeps.refl _ | refine Keeps.alloc ?_ _ | refine Keeps.drew ?_))) hg5 hr5; simp only [List.nil_append] at hv5)
    | (refine stepSh rfl (.tmp 37) (.tmp 41) rfl wr _ ((G.map Fm.enc).take k) rfl hv5 q (m - (k + 1)) (cap - (k + 1)) (us.drop (k + 1)) ((G.map Fm.enc).drop (k + 1)) rfl HLE1.out (hql.keeps k5) (HUS.out.drop (k + 1)) k5.size ?_ ?_; (focus (have := HM.out; simp; omega)); intro v6 w6 hv6 hg6 hr6; have k6 := k5.grown hg6 hr6))
   have hR : FsL w6 v6 (rest G k) := by
    have h := hv6.ndsL k6 (by have := HM.out; simp; omega)
    unfold FsL rest
    rw [List.map_append, List.map_take, List.map_drop]
    exact h
   obtain ⟨p6, n6, q6, rfl⟩ := NdsL.shapeL hR
   have hHp : ∀ z ∈ rest G k, z.plain = true := fun z hz => HG.out z ((hmr.out z).2 (.inr hz))
   clear hv5 hg5 hr5 hv6 hg6 hr6 k5 hql hrun hat HUS HCE HLE1 HLE2 hkc hkw
   generalize hrg : rest G k = H at *
   have HRG := hid hrg; clear hrg
   obtain ⟨hsta, hus⟩ := hst
   have HU := hid (l23Useless_any H a hap _ _ w6 hR (ha1.keeps k6))
   rw [hus] at HU
   clear hus
   rcases hsta with ⟨v, rfl⟩ | ⟨p0, y, rfl, hin⟩ | ⟨x1, x2, y, rfl, hin⟩
   ·replace hca : wr.cell? ⟨ba, oa, none⟩ = some (.int .i64 0) := hca
    go_wp2_with fail
    refine HU.out.mono ?_; rintro e w7 ⟨rfl, k7⟩
    have k67 := k6.trans k7
    have hc7 := k67.cell hca
    have ha7 := ha1.keeps k67
    go_wp2
    go_roundw
    case rel => exact ⟨k + 1, by omega, by go_num, rfl, kw.trans k67⟩
    case measure => simp [intOf]; omega
   ·replace hca : wr.cell? ⟨ba, oa, none⟩ = some (.int .i64 4) := hca
    have HIN := hid hin; clear hin
    go_wp2_with fail
    refine HU.out.mono ?_; rintro e w7 ⟨rfl, k7⟩
    have k67 := k6.trans k7
    have hc7 := k67.cell hca
    have ha7 := ha1.keeps k67
    go_wp2_with fail
    refine (l02Left_any _ _ (Fm.var p0) y.enc _ _ ha7 rfl).mono ?_; rintro e w' ⟨v8, rfl, hv8, rfl⟩
    go_wp2_with fail
    refine (l02Right_any _ _ (Fm.var p0) y _ _ ha7 rfl).mono ?_; rintro e w' ⟨v9, rfl, hv9, rfl⟩
    obtain ⟨bx, ox, nx, cx, rfl, _, _, _, _, hcx, _⟩ := hv8.root
    obtain ⟨p9, n9, q9, rfl⟩ := hv9.shape
    replace hcx : w7.cell? ⟨bx, ox, none⟩ = some (.int .i64 0) := hcx
    go_wp2_with fail
    refine (has_fm H (Fm.var p0) _ _ w7 (hR.keeps k7) hv8).mono ?_; rintro e w8 ⟨rfl, k8⟩
    rw [decide_eq_false HIN.out]
    go_wp2
    go_roundw
    case rel => exact ⟨k + 1, by omega, by go_num, rfl, (kw.trans k67).trans k8⟩
    case measure => simp [intOf]; omega
   ·replace hca : wr.cell? ⟨ba, oa, none⟩ = some (.int .i64 4) := hca
    have HIN := hid hin; clear hin
    go_wp2_with fail
    refine HU.out.mono ?_; rintro e w7 ⟨rfl, k7⟩
    have k67 := k6.trans k7
    have hc7 := k67.cell hca
    have ha7 := ha1.keeps k67
    go_wp2_with fail
    refine (l02Left_any _ _ (Fm.imp x1 x2) y.enc _ _ ha7 rfl).mono ?_; rintro e w' ⟨v8, rfl, hv8, rfl⟩
    go_wp2_with fail
    refine (l02Right_any _ _ (Fm.imp x1 x2) y _ _ ha7 rfl).mono ?_; rintro e w' ⟨v9, rfl, hv9, rfl⟩
    obtain ⟨bx, ox, nx, cx, rfl, _, _, _, _, hcx, _⟩ := hv8.root
    obtain ⟨p9, n9, q9, rfl⟩ := hv9.shape
    replace hcx : w7.cell? ⟨bx, ox, none⟩ = some (.int .i64 4) := hcx
    go_wp2_with fail
    refine (has_fm H (Fm.imp x1 x2) _ _ w7 (hR.keeps k7) hv8).mono ?_; rintro e w8 ⟨rfl, k8⟩
    rw [decide_eq_false HIN.out]
    go_wp2
    go_roundw
    case rel => exact ⟨k + 1, by omega, by go_num, rfl, (kw.trans k67).trans k8⟩
    case measure => simp [intOf]; omega
  ·have hfin := final_of H2.out (fun j hj => (HST.out j hj).stuck)
   have HFIN := hid hfin; clear hfin
   clear hk
   have hcw := kw.cell hcC
   clear hcC
   have hvw := hv0.keeps kw
   have huw := hu0.keeps kw
   have hgc2 := wt_ge c
   have hW0 := HW.out
   have kA := kw
   subst hd
   replace hcw : wr.cell? ⟨bc, oc, none⟩ = some (.int .i64 2) := hcw
   have hdn := wt_and x y
   have hpl : x.plain = true ∧ y.plain = true := by simpa [Fm.plain] using hc
   have hgx := wt_ge x
   have hgy := wt_ge y
   have HX := hid (IH.out G x (by omega) HG.out hpl.1)
   have HY := hid (IH.out G y (by omega) HG.out hpl.2)
   cases hsx : sqB G x
   ·have HSX := hid hsx; clear hsx
    go_wp2_with fail
    refine (l02Left_any _ _ x y.enc _ _ huw rfl).mono ?_; rintro e w' ⟨v8, rfl, hv8, rfl⟩
    go_wp2_with fail
    refine (HX.out _ _ wr hvw hv8).mono ?_; rintro e w5 ⟨rfl, k5⟩; rw [HSX.out]
    go_wp2_with fail
    go_ret
    exact ⟨ret_bool ((sqB_false (fun h => by have h1 := sqB_true (sq_and.1 h).1; rw [HSX.out] at h1; cases h1)).symm), kw.trans k5⟩
   ·have HSX := hid hsx; clear hsx
    go_wp2_with fail
    refine (l02Left_any _ _ x y.enc _ _ huw rfl).mono ?_; rintro e w' ⟨v8, rfl, hv8, rfl⟩
    go_wp2_with fail
    refine (HX.out _ _ wr hvw hv8).mono ?_; rintro e w5 ⟨rfl, k5⟩; rw [HSX.out]
    go_wp2_with fail
    refine (l02Right_any _ _ x y _ _ (huw.keeps k5) rfl).mono ?_; rintro e w' ⟨v9, rfl, hv9, rfl⟩
    go_wp2_with fail
    refine (HY.out _ _ w5 (hvw.keeps k5) hv9).mono ?_; rintro e w6 ⟨rfl, k6⟩
    go_wp2_with fail
    go_ret
    exact ⟨ret_bool (sqB_congr ⟨fun h => sq_and.2 ⟨sqB_iff.1 HSX.out, h⟩, fun h => (sq_and.1 h).2⟩), (kw.trans k5).trans k6⟩
end Go.Proofs.YtikooimokfbffaaGreatDoor
namespace Go.Proofs.YtikooimokfbffaaGreatDoor
open Go.RowKit
set_option maxRecDepth 100000 in
set_option maxHeartbeats 8000000 in
theorem search_imp (n : Nat) (hn : n ≤ 1000000000) (ih : Srch n) (G : List Fm) (c : Fm) (hw : wts G + wt c ≤ n + 1) (hG : ∀ a ∈ G, a.plain = true) (hc : c.plain = true) (h1 : ¬ c ∈ G) (h2 : ¬ Fm.fls ∈ G) (hst : AllStk G) (x y : Fm) (hd : Fm.imp x y = c)
  (v u : Value) (w : World) (hv : FsL w v G) (hu : Nds w u c.enc) :
  Calls Tryz.prog 27 #[v, u] w fun e w' => e = .returned (.bool (sqB G c)) ∧ Keeps w w' := by
 have hu0 := hu
 have hv0 := hv
 obtain ⟨p, m, cap, rfl⟩ := NdsL.shapeL hv
 obtain ⟨hm, hmc, hmx⟩ := FsL.len hv
 obtain ⟨bc, oc, nc, cc, rfl, _, _, _, _, hcC, _⟩ := hu.root
 have HM := hid hm; clear hm
 have hlen := len_le_wts G
 have hml : m ≤ 1000000000 := by have := HM.out; omega
 unfold maxLen at hmx
 have IH := hid ih; clear ih
 have HC := hid (has_fm G c _ _ w hv hu)
 have HF := hid (fun w1 (k : Keeps w w1) u1 (h : Nds w1 u1 Fm.fls.enc) => has_fm G .fls _ u1 w1 (hv.keeps k) h)
 rw [decide_eq_false h1] at HC
 have HST := hid hst; clear hst
 rw [decide_eq_false h2] at HF
 have H1 := hid h1; clear h1
 have H2 := hid h2; clear h2
 have HG := hid hG; clear hG
 have HW := hid hw; clear hw
 clear hv hu
 go_enter Tryz.func27, Tryz.ntmps27
 go_wp2_with fail
 refine HC.out.mono ?_; rintro e w2 ⟨rfl, k2⟩
 go_wp2_with fail
 refine (l02False_any _).mono ?_; rintro e w3 ⟨v3, rfl, hv3, k3⟩
 go_wp2_with fail
 refine (HF.out w3 (k2.trans k3) _ (hv3.nds (by simp [Fm.enc]))).mono ?_; rintro e w4 ⟨rfl, k4⟩
 have k04 := (k2.trans k3).trans k4
 clear hv3 HC HF
 go_wp2
 go_loopw [4, 5] (fun r i' wr => ∃ k : Nat, k ≤ m ∧ i' = .int .i64 k ∧ r = .bool false ∧ Keeps w wr) (fun _ i _ => m - (intOf i).toNat)
 case atStart => exact ⟨0, by omega, rfl, rfl, k04⟩
 case round =>
  obtain ⟨k, hk, rfl, rfl, kw⟩ := hrel
  clear k04
  by_cases hlt : k < m
  ·have hltG : k < G.length := by have := HM.out; omega
   have hlt' : (k : Int) < m := by omega
   obtain ⟨b, off, u1, hp, hcell, ha1⟩ := (hv0.keeps kw).get k hltG
   subst hp
   have hvw := hv0.keeps kw
   obtain ⟨us, hat, hus⟩ := NdsL.vals hvw
   have hmr := hid (mem_rest hltG)
   have hwr := hid (wts_rest hltG)
   have hap := HG.out _ (List.getElem_mem hltG)
   have hst := HST.out k hltG
   generalize hga : G[k] = a at *
   have HGA := hid hga; clear hga
   obtain ⟨ba, oa, na, ca, rfl, _, _, _, _, hca, _⟩ := ha1.root
   obtain ⟨q, hq, hrun⟩ := tailL b off m cap (k + 1) ((k : Int) + 1) (by omega) (by omega) hmc
   have hql := hq wr us hat (by have := hus.1; simp at this; have := HM.out; omega)
   clear hq hvw
   have hcells := hus.1
   have HUS := hid hus; clear hus
   have HCE := hid hcells; clear hcells
   have hle1 : m - (k + 1) = ((G.map Fm.enc).drop (k + 1)).length := by have := HM.out; simp; omega
   have hle2 : k = ((G.map Fm.enc).take k).length := by have := HM.out; simp; omega
   have HLE1 := hid hle1; clear hle1
   have HLE2 := hid hle2; clear hle2
   have hszw := kw.size
   have hkc : (k : Int) ≤ cap := by omega
   have hk0 : (0 : Int) ≤ k := by omega
   have hkw : IntKind.i64.wrap ((k : Int) + 1) = (k : Int) + 1 := IntWalk.i64_in _ (by omega)
   go_wp2_with fail
   clear hcell
   go_region_law (first
    | (refine stepSh rfl (.tmp 33) (.tmp 36) rfl wr _ [] rfl ?_ (some ⟨b, off, none⟩) k cap (us.take k) ((G.map Fm.enc).take k) rfl HLE2.out ?_ (HUS.out.take k) ?_ ?_ ?_; (focus exact (ShL.empty wr (Nat.le_refl _))); (focus (refine At.keeps (hat.take k) ?_; (repeat (first | exact Keeps.refl _ | refine Keeps.alloc ?_ _ | refine Keeps.drew ?_)))); (focus first | (simp; done) | (simp; omega)); (focus (have := HM.out; simp; omega)); intro v5 w5 hv5 hg5 hr5; have k5 : Keeps wr w5 := Keeps.grown (by (repeat (first | exact Keeps.refl _ | refine Keeps.alloc ?_ _ | refine Keeps.drew ?_))) hg5 hr5; simp only [List.nil_append] at hv5)
    | (refine stepSh rfl (.tmp 37) (.tmp 41) rfl wr _ ((G.map Fm.enc).take k) rfl hv5 q (m - (k + 1)) (cap - (k + 1)) (us.drop (k + 1)) ((G.map Fm.enc).drop (k + 1)) rfl HLE1.out (hql.keeps k5) (HUS.out.drop (k + 1)) k5.size ?_ ?_; (focus (have := HM.out; simp; omega)); intro v6 w6 hv6 hg6 hr6; have k6 := k5.grown hg6 hr6))
   have hR : FsL w6 v6 (rest G k) := by
    have h := hv6.ndsL k6 (by have := HM.out; simp; omega)
    unfold FsL rest
    rw [List.map_append, List.map_take, List.map_drop]
    exact h
   obtain ⟨p6, n6, q6, rfl⟩ := NdsL.shapeL hR
   have hHp : ∀ z ∈ rest G k, z.plain = true := fun z hz => HG.out z ((hmr.out z).2 (.inr hz))
   clear hv5 hg5 hr5 hv6 hg6 hr6 k5 hql hrun hat HUS HCE HLE1 HLE2 hkc hkw
   generalize hrg : rest G k = H at *
   have HRG := hid hrg; clear hrg
   obtain ⟨hsta, hus⟩ := hst
   have HU := hid (l23Useless_any H a hap _ _ w6 hR (ha1.keeps k6))
   rw [hus] at HU
   clear hus
   rcases hsta with ⟨v, rfl⟩ | ⟨p0, y, rfl, hin⟩ | ⟨x1, x2, y, rfl, hin⟩
   ·replace hca : wr.cell? ⟨ba, oa, none⟩ = some (.int .i64 0) := hca
    go_wp2_with fail
    refine HU.out.mono ?_; rintro e w7 ⟨rfl, k7⟩
    have k67 := k6.trans k7
    have hc7 := k67.cell hca
    have ha7 := ha1.keeps k67
    go_wp2
    go_roundw
    case rel => exact ⟨k + 1, by omega, by go_num, rfl, kw.trans k67⟩
    case measure => simp [intOf]; omega
   ·replace hca : wr.cell? ⟨ba, oa, none⟩ = some (.int .i64 4) := hca
    have HIN := hid hin; clear hin
    go_wp2_with fail
    refine HU.out.mono ?_; rintro e w7 ⟨rfl, k7⟩
    have k67 := k6.trans k7
    have hc7 := k67.cell hca
    have ha7 := ha1.keeps k67
    go_wp2_with fail
    refine (l02Left_any _ _ (Fm.var p0) y.enc _ _ ha7 rfl).mono ?_; rintro e w' ⟨v8, rfl, hv8, rfl⟩
    go_wp2_with fail
    refine (l02Right_any _ _ (Fm.var p0) y _ _ ha7 rfl).mono ?_; rintro e w' ⟨v9, rfl, hv9, rfl⟩
    obtain ⟨bx, ox, nx, cx, rfl, _, _, _, _, hcx, _⟩ := hv8.root
    obtain ⟨p9, n9, q9, rfl⟩ := hv9.shape
    replace hcx : w7.cell? ⟨bx, ox, none⟩ = some (.int .i64 0) := hcx
    go_wp2_with fail
    refine (has_fm H (Fm.var p0) _ _ w7 (hR.keeps k7) hv8).mono ?_; rintro e w8 ⟨rfl, k8⟩
    rw [decide_eq_false HIN.out]
    go_wp2
    go_roundw
    case rel => exact ⟨k + 1, by omega, by go_num, rfl, (kw.trans k67).trans k8⟩
    case measure => simp [intOf]; omega
   ·replace hca : wr.cell? ⟨ba, oa, none⟩ = some (.int .i64 4) := hca
    have HIN := hid hin; clear hin
    go_wp2_with fail
    refine HU.out.mono ?_; rintro e w7 ⟨rfl, k7⟩
    have k67 := k6.trans k7
    have hc7 := k67.cell hca
    have ha7 := ha1.keeps k67
    go_wp2_with fail
    refine (l02Left_any _ _ (Fm.imp x1 x2) y.enc _ _ ha7 rfl).mono ?_; rintro e w' ⟨v8, rfl, hv8, rfl⟩
    go_wp2_with fail
    refine (l02Right_any _ _ (Fm.imp x1 x2) y _ _ ha7 rfl).mono ?_; rintro e w' ⟨v9, rfl, hv9, rfl⟩
    obtain ⟨bx, ox, nx, cx, rfl, _, _, _, _, hcx, _⟩ := hv8.root
    obtain ⟨p9, n9, q9, rfl⟩ := hv9.shape
    replace hcx : w7.cell? ⟨bx, ox, none⟩ = some (.int .i64 4) := hcx
    go_wp2_with fail
    refine (has_fm H (Fm.imp x1 x2) _ _ w7 (hR.keeps k7) hv8).mono ?_; rintro e w8 ⟨rfl, k8⟩
    rw [decide_eq_false HIN.out]
    go_wp2
    go_roundw
    case rel => exact ⟨k + 1, by omega, by go_num, rfl, (kw.trans k67).trans k8⟩
    case measure => simp [intOf]; omega
  ·have hfin := final_of H2.out (fun j hj => (HST.out j hj).stuck)
   have HFIN := hid hfin; clear hfin
   clear hk
   have hcw := kw.cell hcC
   clear hcC
   have hvw := hv0.keeps kw
   have huw := hu0.keeps kw
   have hgc2 := wt_ge c
   have hW0 := HW.out
   have kA := kw
   subst hd
   replace hcw : wr.cell? ⟨bc, oc, none⟩ = some (.int .i64 4) := hcw
   have hdn := wt_imp x y
   have hpl : x.plain = true ∧ y.plain = true := by simpa [Fm.plain] using hc
   have hwl := wts_withL [x] G
   simp only [wts] at hwl
   go_wp2_with fail
   refine (l02Left_any _ _ x y.enc _ _ huw rfl).mono ?_; rintro e w' ⟨v8, rfl, hv8, rfl⟩
   obtain ⟨p8, n8, q8, rfl⟩ := hv8.shape
   have kl := (Keeps.refl wr).alloc (.cells #[.slice p8 n8 q8] 26)
   have hlit : FsL (wr.alloc (.cells #[.slice p8 n8 q8] 26)) _ [x] := NdsL.lit1 (w := wr) hv8
   go_wp2_with fail
   refine (with_fm G [x] _ _ _ (hvw.keeps kl) hlit (by have := len_le_wts G; simp; omega)).mono ?_; rintro e w9 ⟨v12, rfl, hv12, k9⟩
   obtain ⟨p12, n12, q12, rfl⟩ := NdsL.shapeL hv12
   have k49 := kl.trans k9
   go_wp2_with fail
   refine (l02Right_any _ _ x y _ _ (huw.keeps k49) rfl).mono ?_; rintro e w' ⟨v9, rfl, hv9, rfl⟩
   go_wp2_with fail
   refine (IH.out _ y (by omega) (fun t ht => by
    rcases (mem_withL _ _ _).1 ht with ht | ht
    ·obtain rfl : t = x := by simpa using ht
     exact hpl.1
    ·exact HG.out t ht) hpl.2 _ _ w9 hv12 hv9).mono ?_; rintro e w10 ⟨rfl, k10⟩
   go_wp2_with fail
   go_ret
   exact ⟨ret_bool (sqB_congr (sq_impR (fun t => by rw [mem_withL]; simp)).symm), (kw.trans k49).trans k10⟩
end Go.Proofs.YtikooimokfbffaaGreatDoor
