/- FnKnownAdmissible: the walk of the law. -/
import Derived.Test.YtpbbfoliabgkpaaGreatGD16
import Derived.Test.YtpbbfoliabgkpaaGreatGD8
import Derived.Test.YtpbbfoliabgkpaaGreatGSC
import Derived.Deep.CutBlock
import Derived.Deep.DeepCutAuto
namespace Go.Proofs.YtpbbfoliabgkpaaGreat
open Go.RowKit
theorem likeF_same (a : List Nd) (v v' : Value) (w : World) (hv : Nds w v a) (hv' : Nds w v' a) :
    Calls Tryz.prog 40 #[v, v'] w fun e w' => e = .returned (.bool true) ∧ Keeps w w' := by
  have h := likeFormula5_any a a v v' w hv hv'
  rw [decide_eq_true rfl] at h
  exact h
theorem fF : (Fm.fls).wf ∧ bts ⟨#[70]⟩ = (Fm.fls).body ∧ (Fm.fls).enc.length ≤ 40 := ⟨trivial, by decide, by decide⟩
theorem fT : (Fm.imp .fls .fls).wf ∧ bts ⟨#[84]⟩ = (Fm.imp .fls .fls).body ∧ (Fm.imp .fls .fls).enc.length ≤ 40 := ⟨⟨trivial, trivial⟩, by decide, by decide⟩
theorem fP : (Fm.var 0).wf ∧ bts ⟨#[112]⟩ = (Fm.var 0).body ∧ (Fm.var 0).enc.length ≤ 40 := ⟨(by show 0 < 6; decide), by decide, by decide⟩
theorem fQ : (Fm.var 1).wf ∧ bts ⟨#[113]⟩ = (Fm.var 1).body ∧ (Fm.var 1).enc.length ≤ 40 := ⟨(by show 1 < 6; decide), by decide, by decide⟩
theorem fN : (Fm.not (.var 0)).wf ∧ bts ⟨#[126, 112]⟩ = (Fm.not (.var 0)).body ∧ (Fm.not (.var 0)).enc.length ≤ 40 := ⟨⟨(by show 0 < 6; decide), trivial⟩, by decide, by decide⟩
/-- what holds while images are drawn -/
def SmRel (w : World) (B : Nat) (o i' : Value) (wr : World) : Prop := ∃ k : Nat, k ≤ 4 ∧ i' = .int .i64 k ∧ ∃ σ : List Fm, Sm σ ∧ OwnL wr w.heap.size o (σ.map Fm.enc) ∧ Dr B w wr
/-- what holds while the identity is filled in -/
def IdRel (w : World) (B : Nat) (o i' : Value) (wr : World) : Prop := ∃ k : Nat, k ≤ 6 ∧ i' = .int .i64 k ∧ OwnL wr w.heap.size o (idL k) ∧ Keeps w wr ∧ Src wr B
theorem Sm.totS {σ : List Fm} (h : Sm σ) : tot (σ.map Fm.enc) ≤ 2147483648 := by
  have := tot_most (σ.map Fm.enc) 40 (fun x hx => by obtain ⟨y, hy, rfl⟩ := List.mem_map.1 hx; exact h.2.2 y hy)
  rw [List.length_map, h.1] at this
  omega
theorem Sm.set {σ : List Fm} (h : Sm σ) (k : Nat) {t : Fm} (ht : OkF t) (hl : t.enc.length ≤ 40) : Sm (σ.set k t) :=
  ⟨by simp [h.1], fun x hx => (List.mem_or_eq_of_mem_set hx).elim (h.2.1 x) (fun e => e ▸ ht), fun x hx => (List.mem_or_eq_of_mem_set hx).elim (h.2.2 x) (fun e => e ▸ hl)⟩
theorem lit5_cells {w wb : World} {B : Nat} {a b c d e : Value} {T : TypeId} (k : Dr B (w.alloc (.cells #[a, b, c, d, e] T)) wb) (hB : B < w.heap.size) :
    wb.cell? ⟨w.heap.size, 0, none⟩ = some a ∧ wb.cell? ⟨w.heap.size, 1, none⟩ = some b ∧ wb.cell? ⟨w.heap.size, 2, none⟩ = some c ∧ wb.cell? ⟨w.heap.size, 3, none⟩ = some d ∧ wb.cell? ⟨w.heap.size, 4, none⟩ = some e := by
  have h := (k.1.cell (b := w.heap.size) (by simp) (by omega)).1
  refine ⟨?_, ?_, ?_, ?_, ?_⟩ <;> rw [h] <;> simp
--
set_option maxRecDepth 20000 in
set_option maxHeartbeats 4000000 in
theorem lawKnownAdmissible (v : Value) (n : Nat) (w : World) (hv : Bts w v n) :
    Calls Tryz.prog 6 #[v] w fun e w' => e = .returned (.bool true) ∧ Keeps w w' := by
  have HBig := hid (big_any v n w hv)
  by_cases hn : 4096 < n
  · rw [decide_eq_true hn] at HBig
    go_enter Tryz.func6, Tryz.ntmps6
    go_wp2_with fail
    refine HBig.out.mono ?_; rintro e w' ⟨rfl, rfl⟩
    go_wp2_with fail
    go_ret
    exact ⟨rfl, Keeps.refl _⟩
  · rw [decide_eq_false hn] at HBig
    have HD := hid (drawFindUnifier_any v n w hv (by omega))
    have HDs := hid (fun w2 (k : Keeps w w2) => drawSplitRule_any v n w2 (hv.keeps k) (by omega))
    have HRo := hid (fun w2 (k : Keeps w w2) => roll_any v n 3104 w2 (hv.keeps k) (by omega) (by omega))
    obtain ⟨pv, cv, rfl, _⟩ := hv
    go_enter Tryz.func6, Tryz.ntmps6
    go_wp2_with fail
    refine HBig.out.mono ?_; rintro e w' ⟨rfl, rfl⟩
    go_wp2_with fail
    refine HD.out.mono ?_; rintro e w1 ⟨va, vl, a, l, rfl, hva, hvl, hla, hll, hlt, k1⟩
    obtain ⟨r1, c1, h1, h2, ⟨hS, hI⟩, hc⟩ := findUBoth a l (by omega)
    have HI := hid (hI va vl w1 hva hvl)
    have HS := hid (fun w2 (k : Keeps w1 w2) => hS va vl w2 (hva.keeps k) (hvl.keeps k))
    have HU := hid (fun (h0 : c1 = 0) u w2 (k : Keeps w1 w2) (hu : NdsL w2 u r1) => hc h0 va u w2 (hva.keeps k) hu)
    clear hS hI hc hva hvl HD HBig
    have hcc : (c1 != c1) = false := by simp
    go_wp2_with fail
    refine HI.out.mono ?_; rintro e w2 ⟨v2, rfl, hv2, k2⟩
    have hL2 := hv2.ndsL (by omega) (by omega)
    go_wp2_with fail
    refine (HS.out w2 k2).mono ?_; rintro e w3 ⟨v3, rfl, hv3, k3⟩
    have HL2 := hid (hL2.keeps k3)
    have HL3 := hid hv3
    clear hv2 hv3 hL2
    go_wp2_with fail
    refine (likeL_same r1 v2 v3 w3 HL2.out HL3.out).mono ?_; rintro e w4 ⟨rfl, k4⟩
    have HL4 := hid (HL3.out.keeps k4)
    have k14 := (k2.trans k3).trans k4
    have KW4 := hid (k1.trans k14)
    go_upto_if 64 with fail
    go_cut [9, 10] (fun _ _ wx => Hid (Keeps w wx))
    case first =>
      by_cases h0 : c1 = 0
      · have hU := hid (HU.out h0 v3 w4 k14 HL4.out)
        subst h0
        go_wp2_with fail
        refine hU.out.mono ?_; rintro e w5 ⟨rfl, k5⟩
        have KW5 := hid (KW4.out.trans k5)
        go_wp2_with fail
        go_meet
        exact KW5
      · have hne : (c1 == 0) = false := by simp [h0]
        go_wp2_with fail
        go_meet
        exact KW4
    case rest =>
      have KW5 := hcut
      clear HU HL2 HL3 HL4 HI HS k14 KW4 k1 k2 k3 k4 hcut
      go_wp2_with fail
      refine (HDs.out _ KW5.out).mono ?_; rintro e w6 ⟨vb, b, rfl, hvb, hlb, k6⟩
      have KW6 := hid (KW5.out.trans k6)
      have hnb := hvb.nds (by omega)
      obtain ⟨pb, nb, qb, rfl⟩ := hnb.shape
      have HNB := hid hnb
      obtain ⟨hsl1, hsl2⟩ := spl_len b
      have HSI := hid (implSplit b _ w6 hnb)
      have HSS := hid (fun w2 (k : Keeps w6 w2) => specSplit b _ w2 (hnb.keeps k))
      have HNI := hid (fun w2 (k : Keeps w6 w2) => implNot_any b _ w2 (hnb.keeps k))
      have HNS := hid (fun w2 (k : Keeps w6 w2) => specNot_any b _ w2 (hnb.keeps k))
      clear hvb hnb
      go_wp2_with fail
      refine HSI.out.mono ?_; rintro e w7 ⟨x7, u7, rfl, hR7, k7⟩
      have hx7 := hR7.ndsL (by omega) (by omega)
      have hu7 := hR7.nds (by omega)
      obtain ⟨p7, n7, q7, rfl⟩ := NdsL.shapeL hx7
      obtain ⟨p8, n8, q8, rfl⟩ := hu7.shape
      clear hR7
      have kb7 : Keeps w7 (w7.alloc (.cells #[.slice p7 n7 q7, .slice p8 n8 q8] 37)) := (Keeps.refl w7).alloc _
      have ca7 := (cell_new2 (w := w7) (n := w7.heap.size) (u := .slice p7 n7 q7) (v := .slice p8 n8 q8) (T := 37) rfl).1
      have cb7 := (cell_new2 (w := w7) (n := w7.heap.size) (u := .slice p7 n7 q7) (v := .slice p8 n8 q8) (T := 37) rfl).2
      go_wp2_with fail
      refine (HSS.out _ (k7.trans kb7)).mono ?_; rintro e w8 ⟨x8, u8, rfl, hx8, hu8, k8⟩
      obtain ⟨p9, n9, q9, rfl⟩ := NdsL.shapeL hx8
      obtain ⟨pA, nA, qA, rfl⟩ := hu8.shape
      have kb8 : Keeps w8 (w8.alloc (.cells #[.slice p9 n9 q9, .slice pA nA qA] 37)) := (Keeps.refl w8).alloc _
      have ca8 := (cell_new2 (w := w8) (n := w8.heap.size) (u := .slice p9 n9 q9) (v := .slice pA nA qA) (T := 37) rfl).1
      have cb8 := (cell_new2 (w := w8) (n := w8.heap.size) (u := .slice p9 n9 q9) (v := .slice pA nA qA) (T := 37) rfl).2
      have k78 := k8.trans kb8
      obtain ⟨ca7', cb7'⟩ := cells_keeps k78 (And.intro ca7 cb7)
      have HX7 := hid (hx7.keeps (kb7.trans k78))
      have HU7 := hid (hu7.keeps (kb7.trans k78))
      have HX8 := hid (hx8.keeps kb8)
      have HU8 := hid (hu8.keeps kb8)
      have hee : (splE b != splE b) = false := by simp
      have K68 := hid ((k7.trans kb7).trans k78)
      clear hx7 hu7 hx8 hu8 ca7 cb7
      go_wp2_with fail
      refine (likeL_same (splP b) _ _ _ HX7.out HX8.out).mono ?_; rintro e w9 ⟨rfl, k9⟩
      obtain ⟨ca7, cb7⟩ := cells_keeps k9 (And.intro ca7' cb7')
      obtain ⟨da8, db8⟩ := cells_keeps k9 (And.intro ca8 cb8)
      go_wp2_with fail
      refine (likeF_same (splC b) _ _ _ (HU7.out.keeps k9) (HU8.out.keeps k9)).mono ?_; rintro e w10 ⟨rfl, k10⟩
      have K610 := hid (K68.out.trans (k9.trans k10))
      clear ca7 cb7 ca7' cb7' ca8 cb8 da8 db8 HX7 HU7 HX8 HU8
      go_wp2_with fail
      refine (read5_any .fls fF.1 _ _ fF.2.1 fF.2.2).mono ?_; rintro e w11 ⟨v11, rfl, hv11, k11⟩
      obtain ⟨pB, nB, qB, rfl⟩ := hv11.own_shape
      go_wp2_with fail
      refine (read5_any (.imp .fls .fls) fT.1 _ _ fT.2.1 fT.2.2).mono ?_; rintro e w12 ⟨v12, rfl, hv12, k12⟩
      obtain ⟨pC, nC, qC, rfl⟩ := hv12.own_shape
      go_wp2_with fail
      refine (read5_any (.var 0) fP.1 _ _ fP.2.1 fP.2.2).mono ?_; rintro e w13 ⟨v13, rfl, hv13, k13⟩
      obtain ⟨pD, nD, qD, rfl⟩ := hv13.own_shape
      have hfew : NdsL (w13.alloc (.cells #[.slice pB nB qB, .slice pC nC qC, .slice pD nD qD] 24)) (.slice (some ⟨w13.heap.size, 0, none⟩) 3 3) [(Fm.fls).enc, (Fm.imp .fls .fls).enc, (Fm.var 0).enc] :=
        NdsL.lit3 ((hv11.nds (by decide)).keeps (k12.trans k13)) ((hv12.nds (by decide)).keeps k13) (hv13.nds (by decide))
      have kb13 : Keeps w13 (w13.alloc (.cells #[.slice pB nB qB, .slice pC nC qC, .slice pD nD qD] 24)) := (Keeps.refl w13).alloc _
      have K613 := hid (((K610.out.trans (k11.trans k12)).trans k13).trans kb13)
      have HFew := hid hfew
      clear hv11 hv12 hv13 hfew
      go_wp2_with fail
      refine (HNI.out _ K613.out).mono ?_; rintro e w14 ⟨v14, rfl, hv14, k14'⟩
      go_wp2_with fail
      refine (HNS.out _ (K613.out.trans k14')).mono ?_; rintro e w15 ⟨v15, rfl, hv15, k15⟩
      have HV14 := hid (hv14.keeps k15)
      have HV15 := hid hv15
      have K615 := hid ((K613.out.trans k14').trans k15)
      have HFew15 := hid (HFew.out.keeps (k14'.trans k15))
      have HSN := hid (specSplit (notR b) v15 w15 hv15)
      obtain ⟨hnl1, hnl2⟩ := spl_len (notR b)
      clear hv14 hv15 HFew
      go_wp2_with fail
      refine HSN.out.mono ?_; rintro e w16 ⟨x16, u16, rfl, hx16, hu16, k16⟩
      obtain ⟨pE, nE, qE, rfl⟩ := NdsL.shapeL hx16
      obtain ⟨pF, nF, qF, rfl⟩ := hu16.shape
      have kb16 : Keeps w16 (w16.alloc (.cells #[.slice pE nE qE, .slice pF nF qF] 37)) := (Keeps.refl w16).alloc _
      have ca16 := (cell_new2 (w := w16) (n := w16.heap.size) (u := .slice pE nE qE) (v := .slice pF nF qF) (T := 37) rfl).1
      have cb16 := (cell_new2 (w := w16) (n := w16.heap.size) (u := .slice pE nE qE) (v := .slice pF nF qF) (T := 37) rfl).2
      have HX16 := hid (hx16.keeps kb16)
      have HU16 := hid (hu16.keeps kb16)
      have hnn : (notE b != notE b) = false := by simp
      have k156 := k16.trans kb16
      have HV14b := hid (HV14.out.keeps k156)
      have HV15b := hid (HV15.out.keeps k156)
      clear hx16 hu16 HV14 HV15
      go_wp2_with fail
      refine (likeF_same (notR b) _ _ _ HV14b.out HV15b.out).mono ?_; rintro e w17 ⟨rfl, k17⟩
      obtain ⟨da16, db16⟩ := cells_keeps k17 (And.intro ca16 cb16)
      have HX17 := hid (HX16.out.keeps k17)
      have HU17 := hid (HU16.out.keeps k17)
      have HF17 := hid (HFew15.out.keeps (k156.trans k17))
      have KW17 := hid ((KW6.out.trans K615.out).trans (k156.trans k17))
      clear HV14b HV15b HX16 HU16 ca16 cb16 HFew15
      go_upto_region 23 with fail
      go_cut [145] (fun c wx => c = .bool (decide (splE b = 0 ∧ notE b = 0 ∧ splE (notR b) = 0)) ∧ wx = w17)
      case first =>
        by_cases q1 : splE b = 0
        · have p1 : (splE b == 0) = true := by simp [q1]
          by_cases q2 : notE b = 0
          · have p2 : (notE b == 0) = true := by simp [q2]
            by_cases q3 : splE (notR b) = 0
            · have p3 : (splE (notR b) == 0) = true := by simp [q3]
              go_wp2_with fail
              go_meet
              exact ⟨by simp [q1, q2, q3], rfl⟩
            · have p3 : (splE (notR b) == 0) = false := by simp [q3]
              go_wp2_with fail
              go_meet
              exact ⟨by simp [q1, q2, q3], rfl⟩
          · have p2 : (notE b == 0) = false := by simp [q2]
            go_wp2_with fail
            go_meet
            exact ⟨by simp [q1, q2], rfl⟩
        · have p1 : (splE b == 0) = false := by simp [q1]
          go_wp2_with fail
          go_meet
          exact ⟨by simp [q1], rfl⟩
      case rest =>
      obtain ⟨rfl, rfl⟩ := hcut
      go_upto_if 145 with fail
      go_cut [23, 24] from 35 to 153 (fun _ _ wx => Hid (Keeps w wx))
      case first =>
        by_cases hf : splE b = 0 ∧ notE b = 0 ∧ splE (notR b) = 0
        · rw [decide_eq_true hf]
          obtain ⟨hf1, hf2, hf3⟩ := hf
          obtain ⟨r18, k18', hk18, hr18, ht18, _, hI18⟩ := split_find b [(Fm.fls).enc, (Fm.imp .fls .fls).enc, (Fm.var 0).enc] (by decide) hf2 hf3
          have HFb := hid (hI18 _ _ _ _ HX17.out HU17.out HF17.out)
          have hkk : (k18' == 0) = false := by simp [hk18]
          clear hI18 hf1 hf2 hf3
          go_wp2_with fail
          refine HFb.out.mono ?_; rintro e w18 ⟨v18, rfl, hv18, k18⟩
          have KW18 := hid (KW17.out.trans k18)
          clear hv18
          go_wp2_with fail
          go_meet
          exact KW18
        · rw [decide_eq_false hf]
          clear hf
          go_wp2_with fail
          go_meet
          exact KW17
      case rest =>
      have KW18 := hcut
      clear HX17 HU17 HF17 KW17 KW5 KW6 K68 K610 K613 K615 HSI HSS HNI HNS HSN HNB hcut
      obtain ⟨hvl1, hvl2⟩ := vis_len 1
      have HVI := hid (implVisserRule_any 1)
      have HVS := hid (specVisserRule_any 1)
      go_wp2_with fail
      refine (HVI.out _).mono ?_; rintro e w19 ⟨x19, u19, rfl, hR19, k19⟩
      have hx19 := hR19.ndsL (by omega) (by omega)
      have hu19 := hR19.nds (by omega)
      obtain ⟨pG, nG, qG, rfl⟩ := NdsL.shapeL hx19
      obtain ⟨pH, nH, qH, rfl⟩ := hu19.shape
      clear hR19
      have kb19 : Keeps w19 (w19.alloc (.cells #[.slice pG nG qG, .slice pH nH qH] 37)) := (Keeps.refl w19).alloc _
      have ca19 := (cell_new2 (w := w19) (n := w19.heap.size) (u := .slice pG nG qG) (v := .slice pH nH qH) (T := 37) rfl).1
      have cb19 := (cell_new2 (w := w19) (n := w19.heap.size) (u := .slice pG nG qG) (v := .slice pH nH qH) (T := 37) rfl).2
      have K19 := hid ((KW18.out.trans k19).trans kb19)
      go_wp2_with fail
      refine (HVS.out _).mono ?_; rintro e w20 ⟨x20, u20, rfl, hR20, k20⟩
      have hx20 := hR20.ndsL (by omega) (by omega)
      have hu20 := hR20.nds (by omega)
      obtain ⟨pI, nI, qI, rfl⟩ := NdsL.shapeL hx20
      obtain ⟨pJ, nJ, qJ, rfl⟩ := hu20.shape
      clear hR20
      have kb20 : Keeps w20 (w20.alloc (.cells #[.slice pI nI qI, .slice pJ nJ qJ] 37)) := (Keeps.refl w20).alloc _
      have ca20 := (cell_new2 (w := w20) (n := w20.heap.size) (u := .slice pI nI qI) (v := .slice pJ nJ qJ) (T := 37) rfl).1
      have cb20 := (cell_new2 (w := w20) (n := w20.heap.size) (u := .slice pI nI qI) (v := .slice pJ nJ qJ) (T := 37) rfl).2
      have k20b := k20.trans kb20
      obtain ⟨ca19', cb19'⟩ := cells_keeps k20b (And.intro ca19 cb19)
      have HX19 := hid (hx19.keeps (kb19.trans k20b))
      have HU19 := hid (hu19.keeps (kb19.trans k20b))
      have HX20 := hid (hx20.keeps kb20)
      have HU20 := hid (hu20.keeps kb20)
      have K20 := hid (K19.out.trans k20b)
      clear hx19 hu19 hx20 hu20 ca19 cb19
      rw [show visE 1 = 0 from rfl]
      go_wp2_with fail
      refine (likeL_same (visP 1) _ _ _ HX19.out HX20.out).mono ?_; rintro e w21 ⟨rfl, k21⟩
      obtain ⟨ca19, cb19⟩ := cells_keeps k21 (And.intro ca19' cb19')
      obtain ⟨da20, db20⟩ := cells_keeps k21 (And.intro ca20 cb20)
      go_wp2_with fail
      refine (likeF_same (visC 1) _ _ _ (HU19.out.keeps k21) (HU20.out.keeps k21)).mono ?_; rintro e w22 ⟨rfl, k22⟩
      obtain ⟨ea20, eb20⟩ := cells_keeps k22 (And.intro da20 db20)
      have HX22 := hid (HX20.out.keeps (k21.trans k22))
      have HU22 := hid (HU20.out.keeps (k21.trans k22))
      have K22 := hid (K20.out.trans (k21.trans k22))
      clear ca19 cb19 ca19' cb19' ca20 cb20 da20 db20 HX19 HU19 HX20 HU20
      go_wp2_with fail
      refine (HRo.out _ K22.out).mono ?_; rintro e w23 ⟨B, rfl, hB, hs, k23⟩
      obtain ⟨ca23, cb23⟩ := cells_keeps k23 (And.intro ea20 eb20)
      have HX23 := hid (HX22.out.keeps k23)
      have HU23 := hid (HU22.out.keeps k23)
      have K23 := hid (K22.out.trans k23)
      have hBl := hs.lt
      have hOw := OwnL.empty w23
      have hks := (Keeps.refl w23).alloc (.cells #[] 24)
      have hs0 := hs.keeps hks
      go_wp2_with fail
      go_loopw [30, 31] (fun o i' wr => IdRel w23 B o i' wr) (fun _ i _ => 6 - (intOf i).toNat)
      case atStart => exact ⟨0, by omega, rfl, hOw, hks, hs0⟩
      case round =>
        obtain ⟨k, hk, rfl, hown, kr, hsr⟩ := hrel
        clear hOw hks hs0
        have hszr := kr.size
        have hll := idL_len k
        by_cases hlt : k < 6
        · have hlt' : (k : Int) < 6 := by omega
          have hu1 : OwnN (wr.alloc (.cells #[.int .i64 (0 : Int), .int .i64 (k : Int)] 55)) wr.heap.size (.slice (some ⟨wr.heap.size, 0, none⟩) 1 1) (Fm.var k).enc := OwnN.lit1 wr ⟨0, k⟩
          have ka := ((Keeps.refl wr).alloc (.cells #[.int .i64 (0 : Int), .int .i64 (k : Int)] 55)).alloc (.cells #[.slice (some ⟨wr.heap.size, 0, none⟩) 1 1] 24)
          have hu2 := hu1.keeps ((Keeps.refl _).alloc (.cells #[.slice (some ⟨wr.heap.size, 0, none⟩) 1 1] 24))
          have hat := At.lit1 (wr.alloc (.cells #[.int .i64 (0 : Int), .int .i64 (k : Int)] 55)) (.slice (some ⟨wr.heap.size, 0, none⟩) 1 1) 24
          have hx1 : (wr.alloc (.cells #[.int .i64 (0 : Int), .int .i64 (k : Int)] 55)).heap.size = wr.heap.size + 1 := by simp
          rw [hx1] at hat
          clear hu1
          go_wp2_with (at_builtin; go_loud (refine appL rfl _ _ rfl w23.heap.size _ (idL k) rfl wr hown ka _ _ hu2 hszr _ _ rfl hat (by omega) ?_); intro v8 w8 hv8 hg8 hr8)
          have kk := (kr.trans ka).grown hg8 hr8
          have hs8 : Src w8 B := ((Dr.of hs (kr.trans ka)).grown hg8 (fun i e => by have := hr8 i e; omega)).2
          go_roundw
          case rel => exact ⟨k + 1, by omega, by go_num, by rw [idL_succ]; exact hv8, kk, hs8⟩
          case measure => simp [intOf]; omega
        · obtain rfl : k = 6 := by omega
          obtain ⟨g30, q30, e30, hg30, _⟩ := hown.shape (by rw [hll]; omega)
          rw [hll] at e30
          subst e30
          have hS0 : ∃ σ : List Fm, Sm σ ∧ OwnL wr w23.heap.size (.slice (some ⟨g30, 0, none⟩) 6 q30) (σ.map Fm.enc) ∧ Dr B w23 wr := ⟨idF, Sm.of (cs := []) rfl (by intro x hx; cases hx) (by intro x hx; cases hx) (fun x hx => .inl hx), hown, Dr.of hs kr⟩
          obtain ⟨ca24, cb24⟩ := cells_keeps kr (And.intro ca23 cb23)
          clear hown hsr kr
          go_wp2_with fail
          go_loopw [32] (fun i' wr => SmRel w23 B (.slice (some ⟨g30, 0, none⟩) 6 q30) i' wr) (fun i _ => 4 - (intOf i).toNat)
          case atStart => exact ⟨0, by omega, rfl, hS0⟩
          case round =>
            obtain ⟨k, hk, rfl, σ, hS, hown, D⟩ := hrel
            by_cases hlt : k < 4
            · have hlt' : (k : Int) < 4 := by omega
              go_wp2_with fail
              refine (read5_any .fls fF.1 _ _ fF.2.1 fF.2.2).mono ?_; rintro e wr0 ⟨vr0, rfl, hvr0, kr0⟩
              obtain ⟨pr0, nr0, qr0, rfl⟩ := hvr0.own_shape
              go_wp2_with fail
              refine (read5_any (.imp .fls .fls) fT.1 _ _ fT.2.1 fT.2.2).mono ?_; rintro e wr1 ⟨vr1, rfl, hvr1, kr1⟩
              obtain ⟨pr1, nr1, qr1, rfl⟩ := hvr1.own_shape
              go_wp2_with fail
              refine (read5_any (.var 0) fP.1 _ _ fP.2.1 fP.2.2).mono ?_; rintro e wr2 ⟨vr2, rfl, hvr2, kr2⟩
              obtain ⟨pr2, nr2, qr2, rfl⟩ := hvr2.own_shape
              go_wp2_with fail
              refine (read5_any (.var 1) fQ.1 _ _ fQ.2.1 fQ.2.2).mono ?_; rintro e wr3 ⟨vr3, rfl, hvr3, kr3⟩
              obtain ⟨pr3, nr3, qr3, rfl⟩ := hvr3.own_shape
              go_wp2_with fail
              refine (read5_any (.not (.var 0)) fN.1 _ _ fN.2.1 fN.2.2).mono ?_; rintro e wr4 ⟨vr4, rfl, hvr4, kr4⟩
              obtain ⟨pr4, nr4, qr4, rfl⟩ := hvr4.own_shape
              have klit := ((((kr0.trans kr1).trans kr2).trans kr3).trans kr4).alloc (.cells #[.slice pr0 nr0 qr0, .slice pr1 nr1 qr1, .slice pr2 nr2 qr2, .slice pr3 nr3 qr3, .slice pr4 nr4 qr4] 24)
              have DL := D.keeps klit
              go_wp2_with fail
              refine (below_any 5 B _ DL.2 (by omega)).mono ?_; rintro e wb ⟨r, rfl, hr, db⟩
              have s0 := kr0.size; have s1 := kr1.size; have s2 := kr2.size; have s3 := kr3.size; have s4 := kr4.size
              have hBl' : B < wr.heap.size := by have := D.size; omega
              have kl : Keeps wr4 (wr4.alloc (.cells #[.slice pr0 nr0 qr0, .slice pr1 nr1 qr1, .slice pr2 nr2 qr2, .slice pr3 nr3 qr3, .slice pr4 nr4 qr4] 24)) := (Keeps.refl wr4).alloc _
              have HU0 := hid ((hvr0.keeps (((kr1.trans kr2).trans (kr3.trans kr4)).trans kl)).dr db hBl')
              have HU1 := hid (((hvr1.keeps ((kr2.trans (kr3.trans kr4)).trans kl)).dr db (by omega)).mono (B' := wr.heap.size) (by omega))
              have HU2 := hid (((hvr2.keeps ((kr3.trans kr4).trans kl)).dr db (by omega)).mono (B' := wr.heap.size) (by omega))
              have HU3 := hid (((hvr3.keeps (kr4.trans kl)).dr db (by omega)).mono (B' := wr.heap.size) (by omega))
              have HU4 := hid (((hvr4.keeps kl).dr db (by omega)).mono (B' := wr.heap.size) (by omega))
              have TB : Touch wr wb (fun i => i = B) := (Touch.of_keeps klit _).trans db.1
              have DB := DL.trans db
              have hl5 := lit5_cells (w := wr4) (a := .slice pr0 nr0 qr0) (b := .slice pr1 nr1 qr1) (c := .slice pr2 nr2 qr2) (d := .slice pr3 nr3 qr3) (e := .slice pr4 nr4 qr4) (T := 24) db (by omega)
              clear hvr0 hvr1 hvr2 hvr3 hvr4 kr0 kr1 kr2 kr3 kr4 kl klit DL
              obtain ⟨x, t, hxt, hx5, hlc, HUX⟩ : ∃ x t, OkF t ∧ t.enc.length ≤ 40 ∧ wb.cell? ⟨wr4.heap.size, r, none⟩ = some x ∧ Hid (OwnN wb wr.heap.size x t.enc) := by
                rcases (by omega : r = 0 ∨ r = 1 ∨ r = 2 ∨ r = 3 ∨ r = 4) with rfl | rfl | rfl | rfl | rfl
                · exact ⟨_, .fls, ⟨fF.1, rfl⟩, fF.2.2, hl5.1, HU0⟩
                · exact ⟨_, .imp .fls .fls, ⟨fT.1, rfl⟩, fT.2.2, hl5.2.1, HU1⟩
                · exact ⟨_, .var 0, ⟨fP.1, rfl⟩, fP.2.2, hl5.2.2.1, HU2⟩
                · exact ⟨_, .var 1, ⟨fQ.1, rfl⟩, fQ.2.2, hl5.2.2.2.1, HU3⟩
                · exact ⟨_, .not (.var 0), ⟨fN.1, rfl⟩, fN.2.2, hl5.2.2.2.2, HU4⟩
              clear HU0 HU1 HU2 HU3 HU4 hl5
              obtain ⟨px, nx, qx, rfl⟩ := HUX.out.own_shape
              obtain ⟨g, cap, c, ev, hBg, hgl, hcell, hfz, hst, hgr⟩ := OwnL.storeT hown TB hBl HUX.out D.size k (by rw [List.length_map, hS.1]; omega)
              have hln : (σ.map Fm.enc).length = 6 := by simp [hS.1]
              rw [hln] at ev
              cases ev
              have hk6 : (k : Int) < 6 := by omega
              have hrI : (r : Int) < 5 := by omega
              clear hown HUX TB
              go_wp2_with fail
              go_roundw
              case rel => (repeat apply Exists.intro); exact ⟨⟨k + 1, by omega, by go_num, σ.set k t, hS.set k hxt hx5, by rw [List.map_set]; exact hst, DB.grown hgr (fun i e => by cases e; exact ⟨by omega, hBg⟩)⟩, rfl⟩
              case measure => simp [intOf]; omega
            · obtain rfl : k = 4 := by omega
              have K2 := Dr.keepsOf k23 hB D
              obtain ⟨ca25, cb25⟩ := cells_keeps K2 (And.intro ea20 eb20)
              obtain ⟨bk, six, ⟨_, hVI⟩, h36⟩ := visser_breaks σ hS
              have hNL := hown.ndsL (by simp [hS.1]) (hS.totS)
              have HBr := hid (hVI _ _ _ _ (HX22.out.keeps K2) (HU22.out.keeps K2) hNL)
              have KF := hid (K22.out.trans K2)
              clear hVI hown
              rcases h36 with rfl | ⟨rfl, rfl⟩
              all_goals go_wp2_with fail
              all_goals refine HBr.out.mono ?_; rintro e wz ⟨rfl, kz⟩
              all_goals go_wp2_with fail
              all_goals go_ret
              all_goals exact ⟨rfl, KF.out.trans kz⟩
end Go.Proofs.YtpbbfoliabgkpaaGreat
