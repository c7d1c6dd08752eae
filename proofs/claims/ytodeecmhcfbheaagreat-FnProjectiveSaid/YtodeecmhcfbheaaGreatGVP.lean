/- taken: the premises of the rule that takes a formula of the left side apart. -/
import Derived.Test.YtodeecmhcfbheaaGreatGVJ
import Derived.Test.YtodeecmhcfbheaaGreatGV6
namespace Go.Proofs.YtodeecmhcfbheaaGreat
open Go.RowKit
set_option maxRecDepth 20000 in
set_option maxHeartbeats 2000000 in
theorem taken_any (G : List Fm) (c t : Fm) (x s : ByteArray) (hx : bts x = t.body) (hs : bts s = c.body) (hm : t ∈ G) (hG : OkL G) (hc : OkF c) (hl : wts G + wt c ≤ 50000000)
    (p : Option Addr) (n q : Nat) (va : Value) (w : World) (hv : Left w (.slice p n q) G) (hva : Nds w va t.enc) :
    Calls Tryz.prog 255 #[.agg #[.slice p n q, .string s], .string x, va] w fun e w' => ∃ u ok, e = .returned (.tuple #[u, .bool ok]) ∧ Keeps w w' ∧ (ok = true → ∃ gs, GoalL w' u gs ∧ Prem G c gs) ∧ (ok = false → Left4 G t) := by
  have hOk := hG t hm
  have hwt := wts_mem hm
  have hlt := len_le_wt t
  obtain ⟨b0, off, na, ca, rfl, h0, h1, h2, h3, hk, _⟩ := hva.root
  have kA := (Keeps.refl w).alloc (.cells #[.slice p n q, .string s] 183)
  have pa : (w.alloc (.cells #[.slice p n q, .string s] 183)).cell? ⟨w.heap.size, 0, none⟩ = some (.slice p n q) := by simp
  have pb' : (w.alloc (.cells #[.slice p n q, .string s] 183)).cell? ⟨w.heap.size, 1, none⟩ = some (.string s) := by simp
  have q0 := And.intro pa pb'
  have HI := hid (fun (T : List Fm) (u : Value) (w2 : World) (k : Keeps w w2) (hu : Left w2 u T) (hT : OkL T) (hl2 : wts T ≤ 50000000) => instead_any G T t x hx hm p n q s u w2 (hv.keeps k) hu hG hT (by omega))
  have HPT := hid (partTexts_any t hOk.1 (by omega) _ _ (hva.keeps kA))
  have HX := hid hx; have HV := hid hv; have HVA := hid hva
  clear hv hx hva
  cases t with
  | var i =>
    replace hk := kA.cell (show w.cell? ⟨b0, off, none⟩ = some (.int .i64 0) from hk)
    go_enter Tryz.func255, Tryz.ntmps255
    go_wp2_with fail
    refine HPT.out.mono ?_; rintro e w2 ⟨u, ss, rfl, hss, htx, k2⟩
    replace hk := k2.cell hk
    go_wp2_with fail
    go_ret2
    exact ⟨_, false, rfl, kA.trans k2, (fun h => by cases h), (fun _ => .inr (.inl ⟨_, rfl⟩))⟩
  | fls =>
    replace hk := kA.cell (show w.cell? ⟨b0, off, none⟩ = some (.int .i64 1) from hk)
    go_enter Tryz.func255, Tryz.ntmps255
    go_wp2_with fail
    refine HPT.out.mono ?_; rintro e w2 ⟨u, ss, rfl, hss, htx, k2⟩
    replace hk := k2.cell hk
    go_wp2_with fail
    go_ret2
    exact ⟨_, false, rfl, kA.trans k2, (fun h => by cases h), (fun _ => .inl rfl)⟩
  | box a1 => exact absurd hOk.2 (by simp [Fm.plain])
  | dia a1 => exact absurd hOk.2 (by simp [Fm.plain])
  | and a1 a2 =>
    obtain ⟨ho1, ho2⟩ := OkF.and hOk
    have hwT : wts [a1, a2] ≤ 50000000 := by have := wt_and a1 a2; simp only [wts]; omega
    replace hk := kA.cell (show w.cell? ⟨b0, off, none⟩ = some (.int .i64 2) from hk)
    go_enter Tryz.func255, Tryz.ntmps255
    go_wp2_with fail
    refine HPT.out.mono ?_; rintro e w2 ⟨u, ss, rfl, hss, htx, k2⟩
    have hleft : Left w2 u [a1, a2] := hss.left htx (by simp)
    obtain ⟨p2, n2, c2, rfl⟩ := hleft.shape
    replace hk := k2.cell hk
    obtain ⟨hq1, hq2⟩ := cells_keeps k2 q0
    have HLf := hid hleft; clear hleft hss htx
    go_wp2_with fail
    refine (HI.out [a1, a2] _ _ (kA.trans k2) HLf.out (okL_two ho1 ho2) hwT).mono ?_; rintro e w3 ⟨p3, n3, c3, R, rfl, hR, hmem, hwR, k3⟩
    go_wp2_with fail
    go_ret2
    exact ⟨_, true, rfl, ((kA.trans k2).trans k3).alloc _, (fun _ => ⟨_, GoalL.lit1 hR hs, prem_and hG hc hm hmem hwR rfl rfl ho1 ho2⟩), (fun h => by cases h)⟩
  | or a1 a2 =>
    obtain ⟨ho1, ho2⟩ := OkF.or hOk
    have hw0 := wt_or a1 a2
    have hwT1 : wts [a1] ≤ 50000000 := by simp only [wts]; omega
    have hwT2 : wts [a2] ≤ 50000000 := by simp only [wts]; omega
    replace hk := kA.cell (show w.cell? ⟨b0, off, none⟩ = some (.int .i64 3) from hk)
    go_enter Tryz.func255, Tryz.ntmps255
    go_wp2_with fail
    refine HPT.out.mono ?_; rintro e w2 ⟨u, ss, rfl, hss, htx, k2⟩
    have hln : ss.length = 2 := by rw [htx.length]; rfl
    have hst := hss.strs (by omega)
    obtain ⟨p2, c2, rfl, hcap, hcm, _, _⟩ := hst.at
    obtain ⟨b2, o2, rfl, hc1⟩ := hst.get 0 (by omega)
    obtain ⟨b3, o3, e, hc2⟩ := hst.get 1 (by omega)
    cases e
    have hs1 : bts ss[0] = a1.body := htx.get 0 (by omega) (by simp [partsL])
    have hs2 : bts ss[1] = a2.body := htx.get 1 (by omega) (by simp [partsL])
    unfold maxLen at hcm
    rw [hln] at hcap ⊢
    rw [Nat.add_zero] at hc1
    generalize ss[0] = s1 at *
    generalize ss[1] = s2 at *
    clear hst hss htx
    replace hk := k2.cell hk
    have q2 := And.intro (cells_keeps k2 q0) (And.intro hc1 hc2)
    obtain ⟨hq1, hq2⟩ := q2.1
    have kw := kA.trans k2
    have qd := hid (cells4_keeps ((Keeps.refl w2).drew) q2)
    have qg := hid (fun o => cells4_keeps ((Keeps.refl (w2.alloc o)).drew) (cells4_alloc o q2))
    have qg2 := hid (fun o o' => cells4_keeps ((Keeps.refl ((w2.alloc o).alloc o')).drew) (cells4_alloc o' (cells4_alloc o q2)))
    have L1A := hid ((Left.lit1 w2 hs1).keeps ((Keeps.refl _).drew))
    have L1B := hid (((Left.lit1 w2 hs1).keeps ((Keeps.refl _).alloc (.cells #[.string s2] 9))).keeps ((Keeps.refl _).drew))
    have L2B := hid ((Left.lit1N (N := w2.heap.size + 1) (w2.alloc (.cells #[.string s1] 9)) (by simp) hs2).keeps ((Keeps.refl _).drew))
    have L2C := hid (((Left.lit1 w2 hs2).keeps ((Keeps.refl _).alloc (.cells #[.string s1] 9))).keeps ((Keeps.refl _).drew))
    have L1C := hid ((Left.lit1N (N := w2.heap.size + 1) (w2.alloc (.cells #[.string s2] 9)) (by simp) hs1).keeps ((Keeps.refl _).drew))
    clear q2
    go_wp2_with fail
    go_region_held3 (fun w' => (w'.cell? ⟨w.heap.size, 0, none⟩ = some (.slice p n q) ∧ w'.cell? ⟨w.heap.size, 1, none⟩ = some (.string s)) ∧ (w'.cell? ⟨b2, o2, none⟩ = some (.string s1) ∧ w'.cell? ⟨b2, o2 + 1, none⟩ = some (.string s2))) (first | exact qd.out | exact qg.out _ | exact qg2.out _ _ | exact q3 | exact cells4_alloc _ q3 | exact q4 | exact cells4_alloc _ q4) (first
      | (go_at_call 269; first
          | ((with_reducible refine (HI.out [a1] _ _ (kw.alloc _).drew L1A.out (okL_one ho1) hwT1).mono ?_); rintro e w3 ⟨p3, n3, c3, R, rfl, hR, hmem, hwR, k3⟩; have q3 := cells4_keeps k3 (qg.out _); have k03 := (kw.alloc (.cells #[.string s1] 9)).drew.trans k3)
          | ((with_reducible refine (HI.out [a1] _ _ ((kw.alloc _).alloc _).drew L1B.out (okL_one ho1) hwT1).mono ?_); rintro e w3 ⟨p3, n3, c3, R, rfl, hR, hmem, hwR, k3⟩; have q3 := cells4_keeps k3 (qg2.out _ _); have k03 := ((kw.alloc (.cells #[.string s1] 9)).alloc (.cells #[.string s2] 9)).drew.trans k3; have hX := L2B.out.keeps k3)
          | ((with_reducible refine (HI.out [a1] _ _ ((kw.alloc _).alloc _).drew L1C.out (okL_one ho1) hwT1).mono ?_); rintro e w3 ⟨p3, n3, c3, R, rfl, hR, hmem, hwR, k3⟩; have q3 := cells4_keeps k3 (qg2.out _ _); have k03 := ((kw.alloc (.cells #[.string s2] 9)).alloc (.cells #[.string s1] 9)).drew.trans k3; have hX := L2C.out.keeps k3)
          | ((with_reducible refine (HI.out [a2] _ _ k03 hX (okL_one ho2) hwT2).mono ?_); rintro e w4 ⟨p4, n4, c4, R', rfl, hR', hmem', hwR', k4⟩; have q4 := cells4_keeps k4 q3; have k04 := k03.trans k4; have kk := k4)
          | ((with_reducible refine (HI.out [a2] _ _ (k03.alloc _) (Left.lit1 w3 hs2) (okL_one ho2) hwT2).mono ?_); rintro e w4 ⟨p4, n4, c4, R', rfl, hR', hmem', hwR', k4⟩; have q4 := cells4_keeps k4 (cells4_alloc _ q3); have k04 := (k03.alloc _).trans k4; have kk := ((Keeps.refl w3).alloc _).trans k4)))
    all_goals
      go_wp2
      go_ret2
      exact ⟨_, true, rfl, k04.alloc _, (fun _ => ⟨_, GoalL.lit2 (hR.keeps kk) hs hR' hs, prem_or hG hc hm rfl ho1 ho2 hmem hwR hmem' hwR'⟩), (fun h => by cases h)⟩
  | imp a1 a2 =>
    replace hk := kA.cell (show w.cell? ⟨b0, off, none⟩ = some (.int .i64 4) from hk)
    go_enter Tryz.func255, Tryz.ntmps255
    go_wp2_with fail
    refine HPT.out.mono ?_; rintro e w2 ⟨u, ss, rfl, hss, htx, k2⟩
    obtain ⟨p2, c2, rfl, _⟩ := At.of_own hss
    clear hss htx
    replace hk := k2.cell hk
    have q2 := cells_keeps k2 q0
    obtain ⟨hq1, hq2⟩ := q2
    have qd : w2.drew.cell? ⟨w.heap.size, 0, none⟩ = some (.slice p n q) ∧ w2.drew.cell? ⟨w.heap.size, 1, none⟩ = some (.string s) := ⟨hq1, hq2⟩
    have kW := (kA.trans k2).drew
    have HF := hid (first_any _ _ a1 a2.enc _ _ (HVA.out.keeps kW) rfl)
    have HS := hid (second_any _ _ a1 a2 _ _ (HVA.out.keeps kW) rfl)
    have HIm := hid (fun v1 v2 (g1 : Nds w2.drew v1 a1.enc) (g2 : Nds w2.drew v2 a2.enc) => implied_any G c a1 a2 _ x s rfl HX.out hs hm hG hc hl p n q v1 v2 w2.drew (HV.out.keeps kW) g1 g2)
    go_wp2_with fail
    go_region_held3 (fun w' => w'.cell? ⟨w.heap.size, 0, none⟩ = some (.slice p n q) ∧ w'.cell? ⟨w.heap.size, 1, none⟩ = some (.string s)) (first | exact qd | exact q3) (first
      | (go_at_call 145; refine HF.out.mono ?_; rintro e w' ⟨v1, rfl, hv1, rfl⟩)
      | (go_at_call 146; refine HS.out.mono ?_; rintro e w' ⟨v2, rfl, hv2, rfl⟩)
      | (go_at_call 270; refine (HIm.out v1 v2 hv1 hv2).mono ?_; rintro e w3 ⟨u3, ok, rfl, k3, hok, hno⟩; have q3 := cells_keeps k3 qd; replace hok := hid hok; replace hno := hid hno))
    go_wp2
    go_ret2
    exact ⟨_, _, rfl, kW.trans k3, hok.out, hno.out⟩
end Go.Proofs.YtodeecmhcfbheaaGreat
