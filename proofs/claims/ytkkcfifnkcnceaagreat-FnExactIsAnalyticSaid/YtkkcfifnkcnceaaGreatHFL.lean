import Derived.Test.YtkkcfifnkcnceaaGreatHFK
/- The program's premise of a modal rule. -/
namespace Go.Proofs.YtkkcfifnkcnceaaGreat
open Go.RowKit
theorem put1_any (X : List ByteArray) (hX : Asc (X.map bts)) (v : Value) (y : ByteArray) (w : World) (hv : StrsP w v X) (hl : X.length ≤ 100000) :
  Calls Tryz.prog 64 #[v, .slice (some ⟨w.heap.size, 0, none⟩) 1 1] (w.alloc (.cells #[.string y] 9)) fun e w' => ∃ v', e = .returned v' ∧ StrsP w' v' (insS X y) ∧ Keeps w w' := by
 have k := (Keeps.refl w).alloc (.cells #[.string y] 9)
 refine (put_any X [y] v _ _ (hv.1.keeps k) (Strs.lit1 w y) (by simp; omega)).mono ?_
 rintro e w' ⟨v', rfl, h, k'⟩
 rw [putL_ins hX] at h
 have := (insS_len X y).1
 exact ⟨v', rfl, h.strsP (by omega), k.trans k'⟩
def kdMp (B b0 : Nat) (lg main : ByteArray) (L R L' R' : List ByteArray) (s : Nat) : Kq :=
 if s = 0 ∨ s = 10 ∨ s = 15 then .val (.string lg) else if s = 2 ∨ s = 13 ∨ s = 18 then .val (.string main) else if s = 4 ∨ s = 11 then .val (.pointer (some ⟨b0, 0, none⟩)) else if s = 16 then .val (.pointer (some ⟨b0, 1, none⟩)) else
 if s = 12 then .strs L else if s = 17 then .strs R else if s = 14 then .strs L' else if s = 19 then .strs R' else if s = 20 then .sq L' R' else if s = 7 then boxK B else .any
theorem cell_next {w : World} {r i g o : Nat} {x : Value} (h : g ≠ r) : (w.setCell ⟨r, i, none⟩ x).cell? ⟨g, o, none⟩ = w.cell? ⟨g, o, none⟩ := by
 rw [World.cell?_setCell_other]
 intro e
 injection e with e1
 exact h e1.symm
theorem enters_carried : Enters 112 := fun _ _ => by kernel_rfl
set_option maxRecDepth 20000 in
set_option maxHeartbeats 4000000 in
theorem modalPremise_any (lg main : ByteArray) (ss tt : List ByteArray) (hs : Side ss) (ht : Side tt) (a b : Value) (w : World) (ha : StrsP w a ss) (hb : StrsP w b tt) (hl : ss.length ≤ 1000 ∧ tt.length ≤ 1000) (hm : main = ⟨#[]⟩ ∨ ∃ t, IsTx main t ∧ (t.kind = 5 ∨ t.kind = 6)) :
  Calls Tryz.prog 63 #[.string lg, .agg #[a, b], .string main] w (RetQ w (mdQ (lgN lg) ss tt main).1 (mdQ (lgN lg) ss tt main).2) := by
 obtain ⟨p, n, c, rfl⟩ := ha.sh
 obtain ⟨q, m, d, rfl⟩ := hb.sh
 have k1 := (Keeps.refl w).alloc (.cells #[.slice p n c, .slice q m d] 26)
 have b1 := BoxG.made w 26 [.slice p n c, .slice q m d] (by simp) (by simp)
 have hz1 : (w.alloc (.cells #[.slice p n c, .slice q m d] 26)).heap.size = w.heap.size + 1 := by simp
 have k2 := (Keeps.refl (w.alloc (.cells #[.slice p n c, .slice q m d] 26))).alloc (.cells #[.slice none 0 0, .slice none 0 0] 26)
 have b2 := BoxG.made (w.alloc (.cells #[.slice p n c, .slice q m d] 26)) 26 [.slice none 0 0, .slice none 0 0] (by simp) (by simp)
 rw [hz1] at b2
 have hz2 : ((w.alloc (.cells #[.slice p n c, .slice q m d] 26)).alloc (.cells #[.slice none 0 0, .slice none 0 0] 26)).heap.size = w.heap.size + 2 := by simp
 have K2 := k1.trans k2
 have HB1 := hid (b1.keeps k2)
 have HB2 := hid b2
 have HA := hid (ha.keeps K2)
 have HC := hid (hb.keeps K2)
 have HS := hid hs
 have HT := hid ht
 have HM := hid hm
 have HZ := hid hz2
 clear ha hb b1 b2 k1 k2 hs ht hm hz1 hz2
 go_enter Tryz.func63, Tryz.ntmps63
 go_upto_region 1 with fail
 generalize (w.alloc (.cells #[.slice p n c, .slice q m d] 26)).alloc (.cells #[.slice none 0 0, .slice none 0 0] 26) = w1 at *
 go_cut [7] from 10 to 20 (fun p7 wx => ∃ r x y, p7 = .pointer (some ⟨r, 0, none⟩) ∧ w.heap.size + 2 ≤ r ∧ BoxG wx r 26 [x, y] ∧ StrsP wx x (mopL (lgN lg) ss main) ∧ StrsP wx y (mopR (lgN lg) tt main) ∧ BoxG wx (w.heap.size + 1) 26 [.slice none 0 0, .slice none 0 0] ∧ Keeps w wx)
 case first =>
  have kd := (Keeps.refl w1).drew
  have c0 := (HB1.out.keeps kd).cell 0 (by simp)
  have c1 := (HB1.out.keeps kd).cell 1 (by simp)
  simp only [List.getElem_cons_zero, List.getElem_cons_succ] at c0 c1
  refine wp_region_last (L := 12) (nt := 70) (ins := [0, 2, 4]) (ds := [10, 11, 12, 13, 14, 15, 16, 17, 18, 19, 20, 7]) (by kernel_rfl) (by kernel_rfl) (fun s v w' => (kdMp (w.heap.size + 2) w.heap.size lg main ss tt (mopL (lgN lg) ss main) (mopR (lgN lg) tt main) s).holds v w') (fun _ _ _ _ h hv => Kq.keeps h hv)
   (fun f w' => ∃ r x y, f 7 = .pointer (some ⟨r, 0, none⟩) ∧ w.heap.size + 2 ≤ r ∧ BoxG w' r 26 [x, y] ∧ StrsP w' x (mopL (lgN lg) ss main) ∧ StrsP w' y (mopR (lgN lg) tt main) ∧ BoxG w' (w.heap.size + 1) 26 [.slice none 0 0, .slice none 0 0] ∧ Keeps w w') ?_ (by kernel_rfl) rfl ?_ ?_
  ·have hd2 := Nat.le_trans (Nat.le_of_eq HZ.out.symm) kd.size
   refine lF (by decide) (kMove 0 (.inl rfl) rfl (by kernel_rfl) (fun d hd => by cases hd; rfl)) ?_
   refine lF (by decide) (kPure1 4 (.pointer (some ⟨w.heap.size, 0, none⟩)) (.pointer (some ⟨w.heap.size, 0, none⟩)) rfl (by kernel_rfl) rfl (fun a w1 h1 => by unfold execOp; simp only [h1, Sem.run_bind, run_fieldQ0 w.heap.size]; rfl) (fun d hd => by cases hd; rfl)) ?_
   refine lF (by decide) (kLoadS 11 _ _ _ rfl rfl (by kernel_rfl) rfl c0 (HA.out.keeps kd) (fun d hd => by cases hd; rfl)) ?_
   refine lF (by decide) (kMove 2 (.inl rfl) rfl (by kernel_rfl) (fun d hd => by cases hd; rfl)) ?_
   refine lF (by decide) (kCall 112 _ _ rfl enters_carried rfl (fun a w1 h1 hv1 => ?_)) ?_
   ·have g1 : a.eval (.tmp 10) = .string lg := hv1 10 (by kernel_rfl)
    have g2 : StrsP w1 (a.eval (.tmp 12)) ss := hv1 12 (by kernel_rfl)
    have g3 : a.eval (.tmp 13) = .string main := hv1 13 (by kernel_rfl)
    have g4 : a.eval (.const (.int .i64 5)) = .int .i64 5 := rfl
    rw [map4, g1, g3, g4]
    refine (carried_any lg ss HS.out _ 5 (.inl rfl) main w1 g2.1 hl.1).mono ?_
    rintro e w2 ⟨v3, rfl, h3, k3⟩
    exact ⟨_, rfl, k3, fun d hd => by cases hd; rw [isKd_bx] at h3; exact h3⟩
   refine lF (by decide) (kMove 0 (.inl rfl) rfl (by kernel_rfl) (fun d hd => by cases hd; rfl)) ?_
   refine lF (by decide) (kPure1 4 (.pointer (some ⟨w.heap.size, 0, none⟩)) (.pointer (some ⟨w.heap.size, 1, none⟩)) rfl (by kernel_rfl) rfl (fun a w1 h1 => by unfold execOp; simp only [h1, Sem.run_bind, run_fieldQ1 w.heap.size]; rfl) (fun d hd => by cases hd; rfl)) ?_
   refine lF (by decide) (kLoadS 16 _ _ _ rfl rfl (by kernel_rfl) rfl c1 (HC.out.keeps kd) (fun d hd => by cases hd; rfl)) ?_
   refine lF (by decide) (kMove 2 (.inl rfl) rfl (by kernel_rfl) (fun d hd => by cases hd; rfl)) ?_
   refine lF (by decide) (kCall 112 _ _ rfl enters_carried rfl (fun a w1 h1 hv1 => ?_)) ?_
   ·have g1 : a.eval (.tmp 15) = .string lg := hv1 15 (by kernel_rfl)
    have g2 : StrsP w1 (a.eval (.tmp 17)) tt := hv1 17 (by kernel_rfl)
    have g3 : a.eval (.tmp 18) = .string main := hv1 18 (by kernel_rfl)
    have g4 : a.eval (.const (.int .i64 6)) = .int .i64 6 := rfl
    rw [map4, g1, g3, g4]
    refine (carried_any lg tt HT.out _ 6 (.inr rfl) main w1 g2.1 hl.2).mono ?_
    rintro e w2 ⟨v3, rfl, h3, k3⟩
    exact ⟨_, rfl, k3, fun d hd => by cases hd; rw [isKd_di] at h3; exact h3⟩
   refine lF (by decide) (kBuild 14 19 (mopL (lgN lg) ss main) (mopR (lgN lg) tt main) rfl rfl (by kernel_rfl) (by kernel_rfl) rfl rfl (fun d hd => by cases hd; rfl)) ?_
   refine lF (by decide) (kBox (w.heap.size + 2) rfl rfl hd2 (fun d hd => by cases hd; rfl)) ?_
   refine lG ?_
   intro a w2 K hsa h1 hds hK
   have h7 : ∃ r, a.eval (.tmp 7) = .pointer (some ⟨r, 0, none⟩) ∧ w.heap.size + 2 ≤ r ∧ BoxG w2 r 26 [.slice none 0 0, .slice none 0 0] := hds 7 (by decide)
   have h21 : ∃ x y, a.eval (.tmp 20) = .agg #[x, y] ∧ StrsP w2 x (mopL (lgN lg) ss main) ∧ StrsP w2 y (mopR (lgN lg) tt main) := hds 20 (by decide)
   obtain ⟨r, e7, hr, hbx⟩ := h7
   obtain ⟨x, y, e21, hx, hy⟩ := h21
   obtain ⟨px, nx, cx, rfl⟩ := hx.sh
   obtain ⟨py, ny, cy, rfl⟩ := hy.sh
   have b3 := hbx.set 0 (.slice px nx cx)
   have b4 := b3.set 1 (.slice py ny cy)
   have hrb := (HB2.out.keeps kd).keeps h1
   have hne : w.heap.size + 1 ≠ r := by omega
   unfold Oper.wp execOp
   simp only [e7, e21, Sem.run_bind, run_storeQ2 r _ _ px py nx cx ny cy w2 hbx, Result.andThen_ok]
   show K (a.put none undef) _
   refine hK undef _ ⟨r, _, _, by simpa using e7, hr, b4, (hx.box hbx (i := 0) (by simp) ⟨_, _, _, rfl⟩).box b3 (i := 1) (by simp) ⟨_, _, _, rfl⟩, (hy.box hbx (i := 0) (by simp) ⟨_, _, _, rfl⟩).box b3 (i := 1) (by simp) ⟨_, _, _, rfl⟩, (hrb.next hbx hne).next b3 hne, ?_⟩
   exact (((K2.trans kd).trans h1).setCell (p := ⟨r, 0, none⟩) (by show w.heap.size ≤ r; omega) _).setCell (p := ⟨r, 1, none⟩) (by show w.heap.size ≤ r; omega) _
  ·intro s hs
   have : s = 0 ∨ s = 2 ∨ s = 4 := by simpa using hs
   rcases this with rfl | rfl | rfl <;> rfl
  ·intro f w' hF
   obtain ⟨r, x, y, e7, hr, j1, j2, j3, j4, j5⟩ := hF
   have HJ := hid (And.intro hr (And.intro j1 (And.intro j2 (And.intro j3 (And.intro j4 j5)))))
   clear hr j1 j2 j3 j4 j5
   simp only [putAll, Act.put, List.setIfInBounds_toArray, List.set_cons_zero, List.set_cons_succ, e7]
   go_wp2_with fail
   go_meet
   exact ⟨r, x, y, rfl, HJ.out⟩
 case rest =>
  obtain ⟨r, x, y, rfl, hr, j1, j2, j3, j4, j5⟩ := hcut
  obtain ⟨px, nx, cx, rfl⟩ := j2.sh
  obtain ⟨py, ny, cy, rfl⟩ := j3.sh
  have HD2 : Hid (mdQ (lgN lg) ss tt main = if main = ⟨#[]⟩ then (mopL (lgN lg) ss main, mopR (lgN lg) tt main) else if isBx (txF main) then moBx (lgN lg) ss tt main else moDi (lgN lg) ss tt main) := hid rfl
  generalize mdQ (lgN lg) ss tt main = R at *
  have hB0 : MoB w wc r (.slice px nx cx) (.slice py ny cy) (mopL (lgN lg) ss main) (mopR (lgN lg) tt main) := ⟨j1, j2, j3, j4, j5, hr⟩
  have l1 : (mopL (lgN lg) ss main).length ≤ 2000 := by have := kepS_len (lgN lg) isBx ss main; unfold mopL; omega
  have l2 : (mopR (lgN lg) tt main).length ≤ 2000 := by have := kepS_len (lgN lg) isDi tt main; unfold mopR; omega
  have HAX := hid (show Asc ((mopL (lgN lg) ss main).map bts) from (kepS_side HS.out).2)
  have HAY := hid (show Asc ((mopR (lgN lg) tt main).map bts) from (kepS_side HT.out).2)
  have HRL := hid (World.ownsRow.lt j1 r rfl).2
  have HB := hid hB0
  clear j1 j2 j3 j4 j5 HB1 HB2 HA HC HS HT HZ hB0
  rcases HM.out with h0 | ⟨t, ht, hk⟩
  ·subst h0
   rw [if_pos rfl] at HD2
   obtain ⟨c0, c1, f0, f1⟩ := HB.out.cells
   obtain ⟨d0, d1, g0, g1⟩ := HB.out.rcells
   go_wp2_with fail
   obtain ⟨⟨y0, y1⟩, hR⟩ := HB.out.fin
   refine bodyPost_ret (v := .agg #[.slice px nx cx, .slice py ny cy]) (by simp [results, Tryz.results63, go_sem, y0, y1]) rfl ?_
   rw [HD2.out]
   exact hR
  ·have hne : main ≠ ⟨#[]⟩ := fun e => by
    subst e
    have h1 := ht.2.1
    have h2 := body_pos t
    rw [← h1] at h2
    exact absurd h2 (by decide)
   rw [if_neg hne] at HD2
   have hne2 := toL_ne hne
   have HG := hid (fun wz => parsedT t main wz ht)
   have HTT := hid ht
   have HK := hid hk
   clear ht hk hne
   have e2 := nmGL lg
   have HPI : Hid (paI main = txS (below t)) := hid (by rw [← txF_eq HTT.out]; rfl)
   have HBX : Hid (isBx (txF main) = isBx t) := hid (by rw [txF_eq HTT.out])
   unfold moBx moDi at HD2
   rw [HPI.out, HBX.out] at HD2
   clear HPI HBX
   have HFI : Hid (∀ v wz, Nds wz v t.enc → Calls Tryz.prog 113 #[v] wz fun e w' => ∃ v, e = .returned v ∧ Nds wz v (below t).enc ∧ wz = w') := hid (fun v wz hz => by
    have hkk := HK.out
    cases t with
    | box x =>
     refine (first_any _ ⟨5, 0⟩ x [] _ _ hz (by simp [Fm.enc])).mono ?_
     rintro e w' ⟨v1, rfl, hv1, rfl⟩
     exact ⟨v1, rfl, hv1, rfl⟩
    | dia x =>
     refine (first_any _ ⟨6, 0⟩ x [] _ _ hz (by simp [Fm.enc])).mono ?_
     rintro e w' ⟨v1, rfl, hv1, rfl⟩
     exact ⟨v1, rfl, hv1, rfl⟩
    | _ => simp [Fm.kind] at hkk)
   have HTX := hid (fun v wz (hz : Nds wz v (below t).enc) => text_any (below t) (below_wf HTT.out.1) (by have := HTT.out.2.2; have := below_le (t := t); omega) v wz hz)
   generalize mopL (lgN lg) ss main = X at *
   generalize mopR (lgN lg) tt main = Y at *
   clear hl HM
   go_wp2_with fail
   refine (HG.out _).mono ?_; rintro e w2 ⟨v2, rfl, hv2, k2⟩
   have h0 : 0 < t.enc.length := by cases t <;> simp [Fm.enc]
   obtain ⟨g, cap, rfl, _, _, hc1, hc2⟩ := hv2.shape h0
   have HNE : Hid (g ≠ r) := hid (by have a := (World.ownsRow.lt hv2 g rfl).1; have b := HRL.out; omega)
   have hn2 := hv2.nds (by have := HTT.out.2.2; omega)
   obtain ⟨b9, o9, n9, c9, e9, g0, g1, g2, g3, z0, _⟩ := hn2.root
   cases e9
   have HF2 := hid (HFI.out _ _ hn2)
   unfold maxLen at hc2
   have HB2 := hid (HB.out.keeps k2)
   clear HB hv2 hn2 HG HFI
   go_wp2_with fail
   refine HF2.out.mono ?_; rintro e w3 ⟨v3, rfl, hv3, rfl⟩
   have HTX2 := hid (HTX.out _ _ hv3)
   obtain ⟨p3, n3, c3, rfl⟩ := hv3.shape
   clear hv3 HTX HF2
   go_wp2_with fail
   refine HTX2.out.mono ?_; rintro e w3 ⟨s3, rfl, hs3, k3⟩
   obtain rfl := txS_eq hs3
   have HB3 := hid (HB2.out.keeps k3)
   have z3 := k3.cell z0
   clear hs3 HB2 z0 HTX2
   generalize txS (below t) = pt at *
   rcases HK.out with h5 | h6
   ·have hbx : isBx t = true := by cases t <;> simp [Fm.kind] at h5 <;> rfl
    rw [if_pos hbx] at HD2
    rw [h5] at z3
    clear hbx h5 HK
    obtain ⟨c0, c1, f0, f1⟩ := HB3.out.cells
    have HI := hid (put1_any Y HAY.out _ pt w3 HB3.out.sy (by omega))
    go_wp2_with fail
    refine HI.out.mono ?_; rintro e w4 ⟨v4, rfl, hv4, k4⟩
    obtain ⟨p4, n4, c4, rfl⟩ := hv4.sh
    clear c0 c1 f0 f1
    have hB4 := HB3.out.keeps k4
    obtain ⟨c0, c1, f0, f1⟩ := hB4.cells
    have HB5 := hid (hB4.set1 hv4)
    have z4 : (w4.setCell ⟨r, 1, none⟩ (.slice p4 n4 c4)).cell? ⟨g, 0, none⟩ = some (.int .i64 5) := by rw [cell_next HNE.out]; exact k4.cell z3
    clear hB4 hv4 HI HB3 z3 k4
    by_cases hgl : lgN lg = 5
    ·rw [decide_eq_true hgl] at e2
     rw [if_pos hgl] at HD2
     clear hgl
     go_upto_region 9 with fail
     clear c0 c1 f0 f1
     generalize w4.setCell ⟨r, 1, none⟩ (.slice p4 n4 c4) = w5 at *
     obtain ⟨c0, c1, f0, f1⟩ := HB5.out.cells
     have HI := hid (put1_any X HAX.out _ main w5 HB5.out.sx (by omega))
     go_wp2_with fail
     refine HI.out.mono ?_; rintro e w6 ⟨v6, rfl, hv6, k6⟩
     obtain ⟨p6, n6, c6, rfl⟩ := hv6.sh
     clear c0 c1 f0 f1 z4
     have hB6 := HB5.out.keeps k6
     obtain ⟨c0, c1, f0, f1⟩ := hB6.cells
     have HBZ := hid (hB6.set0 hv6)
     clear hB6 hv6 HI HB5 k6
     go_upto_region 13 with fail
     clear c0 c1 f0 f1
     generalize w6.setCell ⟨r, 0, none⟩ (.slice p6 n6 c6) = w7 at *
     obtain ⟨c0, c1, f0, f1⟩ := HBZ.out.cells
     obtain ⟨d0, d1, g0, g1⟩ := HBZ.out.rcells
     go_wp2_with fail
     obtain ⟨⟨y0, y1⟩, hR⟩ := HBZ.out.fin
     refine bodyPost_ret (v := .agg #[.slice p6 n6 c6, .slice p4 n4 c4]) (by simp [results, Tryz.results63, go_sem, y0, y1]) rfl ?_
     rw [HD2.out]
     exact hR
    ·rw [decide_eq_false hgl] at e2
     rw [if_neg hgl] at HD2
     clear hgl
     go_upto_region 9 with fail
     clear c0 c1 f0 f1 z4
     generalize w4.setCell ⟨r, 1, none⟩ (.slice p4 n4 c4) = w5 at *
     have HBZ := hid HB5.out
     clear HB5
     obtain ⟨c0, c1, f0, f1⟩ := HBZ.out.cells
     obtain ⟨d0, d1, g0, g1⟩ := HBZ.out.rcells
     go_wp2_with fail
     obtain ⟨⟨y0, y1⟩, hR⟩ := HBZ.out.fin
     refine bodyPost_ret (v := .agg #[.slice px nx cx, .slice p4 n4 c4]) (by simp [results, Tryz.results63, go_sem, y0, y1]) rfl ?_
     rw [HD2.out]
     exact hR
   ·have hbx : isBx t = false := by cases t <;> simp [Fm.kind] at h6 <;> rfl
    rw [if_neg (by rw [hbx]; simp)] at HD2
    rw [h6] at z3
    clear hbx h6 HK
    obtain ⟨c0, c1, f0, f1⟩ := HB3.out.cells
    have HI := hid (put1_any X HAX.out _ pt w3 HB3.out.sx (by omega))
    go_wp2_with fail
    refine HI.out.mono ?_; rintro e w4 ⟨v4, rfl, hv4, k4⟩
    obtain ⟨p4, n4, c4, rfl⟩ := hv4.sh
    clear c0 c1 f0 f1
    have hB4 := HB3.out.keeps k4
    obtain ⟨c0, c1, f0, f1⟩ := hB4.cells
    have HB5 := hid (hB4.set0 hv4)
    have z4 : (w4.setCell ⟨r, 0, none⟩ (.slice p4 n4 c4)).cell? ⟨g, 0, none⟩ = some (.int .i64 6) := by rw [cell_next HNE.out]; exact k4.cell z3
    clear hB4 hv4 HI HB3 z3 k4
    by_cases hgl : lgN lg = 5
    ·rw [decide_eq_true hgl] at e2
     rw [if_pos hgl] at HD2
     clear hgl
     go_upto_region 9 with fail
     clear c0 c1 f0 f1
     generalize w4.setCell ⟨r, 0, none⟩ (.slice p4 n4 c4) = w5 at *
     obtain ⟨c0, c1, f0, f1⟩ := HB5.out.cells
     have HI := hid (put1_any Y HAY.out _ main w5 HB5.out.sy (by omega))
     go_wp2_with fail
     refine HI.out.mono ?_; rintro e w6 ⟨v6, rfl, hv6, k6⟩
     obtain ⟨p6, n6, c6, rfl⟩ := hv6.sh
     clear c0 c1 f0 f1 z4
     have hB6 := HB5.out.keeps k6
     obtain ⟨c0, c1, f0, f1⟩ := hB6.cells
     have HBZ := hid (hB6.set1 hv6)
     clear hB6 hv6 HI HB5 k6
     go_upto_region 13 with fail
     clear c0 c1 f0 f1
     generalize w6.setCell ⟨r, 1, none⟩ (.slice p6 n6 c6) = w7 at *
     obtain ⟨c0, c1, f0, f1⟩ := HBZ.out.cells
     obtain ⟨d0, d1, g0, g1⟩ := HBZ.out.rcells
     go_wp2_with fail
     obtain ⟨⟨y0, y1⟩, hR⟩ := HBZ.out.fin
     refine bodyPost_ret (v := .agg #[.slice p4 n4 c4, .slice p6 n6 c6]) (by simp [results, Tryz.results63, go_sem, y0, y1]) rfl ?_
     rw [HD2.out]
     exact hR
    ·rw [decide_eq_false hgl] at e2
     rw [if_neg hgl] at HD2
     clear hgl
     go_upto_region 9 with fail
     clear c0 c1 f0 f1 z4
     generalize w4.setCell ⟨r, 0, none⟩ (.slice p4 n4 c4) = w5 at *
     have HBZ := hid HB5.out
     clear HB5
     obtain ⟨c0, c1, f0, f1⟩ := HBZ.out.cells
     obtain ⟨d0, d1, g0, g1⟩ := HBZ.out.rcells
     go_wp2_with fail
     obtain ⟨⟨y0, y1⟩, hR⟩ := HBZ.out.fin
     refine bodyPost_ret (v := .agg #[.slice p4 n4 c4, .slice py ny cy]) (by simp [results, Tryz.results63, go_sem, y0, y1]) rfl ?_
     rw [HD2.out]
     exact hR
end Go.Proofs.YtkkcfifnkcnceaaGreat
namespace Go.Proofs.YtkkcfifnkcnceaaGreat
open Go.RowKit
noncomputable def lpR (L r : Nat) (ss tt : List ByteArray) (main : ByteArray) : Option (List Sq2) :=
 if r = 3 then (if isAn (txF main) then some [(insS (insS (remS ss main) (pa1 main)) (pa2 main), tt)] else none)
 else if r = 5 then (if isOr (txF main) then some [(insS (remS ss main) (pa1 main), tt), (insS (remS ss main) (pa2 main), tt)] else none)
 else if r = 7 then (if isIm (txF main) then some [(remS ss main, insS tt (pa1 main)), (insS (remS ss main) (pa2 main), tt)] else none)
 else if r = 9 then (if isBx (txF main) && rfL L then some [(insS ss (paI main), tt)] else none)
 else if r = 11 then (if isDi (txF main) then some [((mdQ L ss tt main).1, (mdQ L ss tt main).2)] else none)
 else none
noncomputable def rpR (L r : Nat) (ss tt : List ByteArray) (main : ByteArray) : Option (List Sq2) :=
 if r = 4 then (if isAn (txF main) then some [(ss, insS (remS tt main) (pa1 main)), (ss, insS (remS tt main) (pa2 main))] else none)
 else if r = 6 then (if isOr (txF main) then some [(ss, insS (insS (remS tt main) (pa1 main)) (pa2 main))] else none)
 else if r = 8 then (if isIm (txF main) then some [(insS ss (pa1 main), insS (remS tt main) (pa2 main))] else none)
 else if r = 10 then (if isDi (txF main) && rfL L then some [(ss, insS tt (paI main))] else none)
 else if r = 11 then (if isBx (txF main) then some [((mdQ L ss tt main).1, (mdQ L ss tt main).2)] else none)
 else none
theorem names7_lg {s : ByteArray} (h : s ∈ names7) : isLg s = true := by
 unfold isLg
 refine @decide_eq_true _ (Classical.propDecidable _) ?_
 rw [show names8 = names7 ++ [lgS 7] from rfl]
 exact List.mem_append_left _ h
theorem parts_two {t : Fm} (h : t.kind = 2 ∨ t.kind = 3 ∨ t.kind = 4) : partsL t = [fst2 t, snd2 t] := by
 cases t <;> simp [Fm.kind] at h <;> rfl
theorem parts_one {t : Fm} (h : t.kind = 5 ∨ t.kind = 6) : partsL t = [below t] := by
 cases t <;> simp [Fm.kind] at h <;> rfl
section
variable {md : Region.Mode} {ops : Array Oper} {Q : Exit → Act → World → Prop} {nt : Nat} {ins : List Nat} {kd : Nat → Kq} {w0 : World} {o : Oper}
theorem kTextM (s : Nat) (t : Fm) (main : ByteArray) (ho : o.op = .call { callee := .value (.func 92), args := #[.tmp s], argTypes := #[95] }) (hg : o.guard = none) (h : availK md ops ins o s = true) (hs : kd s = .nd t) (hm : IsTx main t) (hk : ∀ d, o.dst = some d → kd d = .val (.string main)) : StQ md ops Q nt ins kd w0 o :=
 kText s t ho hg h hs hm.1 (by have := hm.2.2; omega) (fun d hd => by rw [hk d hd, ← txS_eq hm.2.1])
theorem enters_mp : Enters 63 := fun _ _ => by kernel_rfl
theorem kModal (s1 s2 s3 : Nat) (lg main : ByteArray) (ss tt : List ByteArray) (ho : o.op = .call { callee := .value (.func 63), args := #[.tmp s1, .tmp s2, .tmp s3], argTypes := #[9, 26, 9] }) (hg : o.guard = none) (h1 : availK md ops ins o s1 = true) (h2 : availK md ops ins o s2 = true) (h3 : availK md ops ins o s3 = true)
  (e1 : kd s1 = .val (.string lg)) (e2 : kd s2 = .sq ss tt) (e3 : kd s3 = .val (.string main)) (hs : Side ss) (ht : Side tt) (hl : ss.length ≤ 1000 ∧ tt.length ≤ 1000) (hm : main = ⟨#[]⟩ ∨ ∃ t, IsTx main t ∧ (t.kind = 5 ∨ t.kind = 6)) (hk : ∀ d, o.dst = some d → kd d = .sq (mdQ (lgN lg) ss tt main).1 (mdQ (lgN lg) ss tt main).2) : StQ md ops Q nt ins kd w0 o :=
 kCall 63 _ _ ho enters_mp hg (fun a w1 _ hv => by
  have g1 := hv s1 h1
  have g2 := hv s2 h2
  have g3 := hv s3 h3
  rw [e1] at g1
  rw [e2] at g2
  rw [e3] at g3
  have g1 : a.eval (.tmp s1) = .string lg := g1
  have g3 : a.eval (.tmp s3) = .string main := g3
  obtain ⟨x, y, g2, hx, hy⟩ := g2
  rw [show (#[.tmp s1, .tmp s2, .tmp s3] : Array Operand).map a.eval = #[a.eval (.tmp s1), a.eval (.tmp s2), a.eval (.tmp s3)] by simp, g1, g2, g3]
  refine (modalPremise_any lg main ss tt hs ht x y w1 hx hy hl hm).mono ?_
  rintro e w2 ⟨u, v, rfl, h3, h4, k3⟩
  exact ⟨_, rfl, k3, fun d hd => by rw [hk d hd]; exact ⟨u, v, rfl, h3, h4⟩⟩)
end
set_option maxRecDepth 100000 in
set_option maxHeartbeats 8000000 in
theorem leftPremises_any (lg : ByteArray) (r : Int) (main : ByteArray) (t : Fm) (hlg : lg ∈ names7) (htx : IsTx main t) (ss tt : List ByteArray) (hs : Side ss) (ht : Side tt) (a b v : Value) (w : World) (ha : StrsP w a ss) (hb : StrsP w b tt) (hv : Nds w v t.enc) (hl : ss.length ≤ 1000 ∧ tt.length ≤ 1000) :
  Calls Tryz.prog 66 #[.string lg, .int .i64 r, .agg #[a, b], v] w (RetPre w (lpR (lgN lg) r.toNat ss tt main)) := by
 obtain ⟨p, n, c, rfl⟩ := ha.sh
 obtain ⟨q, m, d, rfl⟩ := hb.sh
 have k1 := (Keeps.refl w).alloc (.cells #[.slice p n c, .slice q m d] 26)
 have b1 := BoxG.made w 26 [.slice p n c, .slice q m d] (by simp) (by simp)
 have HB1 := hid b1
 have HA := hid (ha.keeps k1)
 have HC := hid (hb.keeps k1)
 have HS := hid hs
 have HT := hid ht
 have HTT := hid htx
 have HVV := hid (hv.keeps k1)
 have HLG := hid hlg
 have HTF : Hid (txF main = t) := hid (txF_eq htx)
 obtain ⟨bv, ov, nv, cv, rfl, v0, v1, v2, v3, -, -⟩ := hv.root
 obtain ⟨l1, l2⟩ := hl
 clear ha hb b1 hs ht htx hv hlg
 have l3 := remS_len ss main
 have l4 := remS_len tt main
 go_enter Tryz.func66, Tryz.ntmps66
 go_upto_region 1 with fail
 generalize w.alloc (.cells #[.slice p n c, .slice q m d] 26) = w1 at *
 go_cut [10, 11] from 12 to 18 (fun v10 v11 wx => StrsP wx v10 (remS ss main) ∧ StrsP wx v11 ((partsL t).map txS) ∧ Keeps w1 wx)
 case first =>
  have kd := (Keeps.refl w1).drew
  have c0 := (HB1.out.keeps kd).cell 0 (by simp)
  have c1 := (HB1.out.keeps kd).cell 1 (by simp)
  simp only [List.getElem_cons_zero, List.getElem_cons_succ] at c0 c1
  have h0 := HA.out.keeps kd
  have h1 := HC.out.keeps kd
  have i3 := HVV.out.keeps kd
  refine wp_region_kinds (L := 9) (nt := 135) (ins := [3, 6]) (ds := [12, 13, 14, 15, 16, 17, 18, 10, 11]) (by kernel_rfl) (by kernel_rfl) (fun s v w' => ((fun s => if s = 3 then .nd t else if s = 6 then .val (.pointer (some ⟨w.heap.size, 0, none⟩)) else if s = 10 then .strs (remS ss main) else if s = 11 then .strs ((partsL t).map txS) else if s = 12 then .val (.pointer (some ⟨w.heap.size, 0, none⟩)) else if s = 13 then .strs (ss) else if s = 14 then .nd t else if s = 15 then .val (.string main) else if s = 16 then .strs (remS ss main) else if s = 17 then .nd t else if s = 18 then .strs ((partsL t).map txS) else .any : Nat → Kq) s).holds v w') (fun _ _ _ _ h hv => Kq.keeps h hv) ?_ (by kernel_rfl) rfl ?_ ?_
  ·refine lK (kPure1 6 (.pointer (some ⟨w.heap.size, 0, none⟩)) (.pointer (some ⟨w.heap.size, 0, none⟩)) rfl (by kernel_rfl) rfl (fun a w1 h1 => by unfold execOp; simp only [h1, Sem.run_bind, run_fieldQ0 w.heap.size]; rfl) (fun d hd => by cases hd; rfl)) ?_
   refine lK (kLoadS 12 _ _ _ rfl rfl (by kernel_rfl) rfl c0 h0 (fun d hd => by cases hd; rfl)) ?_
   refine lK (kMove 3 (.inl rfl) rfl (by kernel_rfl) (fun d hd => by cases hd; rfl)) ?_
   refine lK (kTextM 14 t main rfl rfl (by kernel_rfl) rfl HTT.out (fun d hd => by cases hd; rfl)) ?_
   refine lK (kDropP 13 15 (ss) (main) rfl rfl (by kernel_rfl) (by kernel_rfl) rfl rfl (by omega) (fun d hd => by cases hd; rfl)) ?_
   refine lK (kMove 3 (.inl rfl) rfl (by kernel_rfl) (fun d hd => by cases hd; rfl)) ?_
   refine lK (kPartT 17 t rfl rfl (by kernel_rfl) rfl HTT.out.1 (by have := HTT.out.2.2; omega) (fun d hd => by cases hd; rfl)) ?_
   refine lK (kMove 16 (.inr rfl) rfl (by kernel_rfl) (fun d hd => by cases hd; rfl)) ?_
   refine lK (kMove 18 (.inr rfl) rfl (by kernel_rfl) (fun d hd => by cases hd; rfl)) True.intro
  ·intro s hs
   have : s = 3 ∨ s = 6 := by simpa using hs
   rcases this with rfl | rfl
   ·exact i3
   ·exact rfl
  ·intro f w' hk hv
   have g10 : StrsP w' (f 10) (remS ss main) := hv 10 (by decide)
   have g11 : StrsP w' (f 11) ((partsL t).map txS) := hv 11 (by decide)
   have G10 := hid g10
   have G11 := hid g11
   clear g10 g11 hv
   simp only [putAll, Act.put, List.setIfInBounds_toArray, List.set_cons_zero, List.set_cons_succ]
   go_wp2_with fail
   go_meet
   exact ⟨G10.out, G11.out, kd.trans hk⟩
 case rest =>
  obtain ⟨g10, g11, kc⟩ := hcut
  have HXL := hid g10
  have HXP := hid g11
  clear g10 g11
  obtain ⟨b9, o9, n9, c9, e9, -, -, -, -, z0, -⟩ := (HVV.out.keeps kc).root
  cases e9
  have HLN := hid (lgN_spec (names7_lg HLG.out))
  by_cases e3 : r = 3
  ·subst e3
   have HP : Hid (lpR (lgN lg) (3 : Int).toNat ss tt main = if (isAn (txF main)) = true then some [(insS (insS (remS ss main) (pa1 main)) (pa2 main), tt)] else none) := hid rfl
   rw [HTF.out, ← kind_an] at HP
   by_cases hk : t.kind = 2
   ·rw [decide_eq_true hk] at HP
    rw [hk] at z0
    have HPL : Hid ((partsL t).map txS = [pa1 main, pa2 main]) := hid (by rw [parts_two (by omega), pa1, pa2, HTF.out]; rfl)
    clear hk
    go_upto_region 3 with fail
    have kd := kc.trans (Keeps.refl wc).drew
    have hbx := HB1.out.keeps kd
    have c0 := hbx.cell 0 (by simp)
    have c1 := hbx.cell 1 (by simp)
    simp only [List.getElem_cons_zero, List.getElem_cons_succ] at c0 c1
    have h0 := HA.out.keeps kd
    have h1 := HC.out.keeps kd
    have i10 := HXL.out.keeps (Keeps.refl wc).drew
    have i11 := HXP.out.keeps (Keeps.refl wc).drew
    rw [HPL.out] at i11
    refine wp_region_kinds (L := 9) (nt := 135) (ins := [6, 10, 11]) (ds := [29, 30, 31, 32, 33, 34, 35, 8, 9]) (by kernel_rfl) (by kernel_rfl) (fun s v w' => ((fun s => if s = 6 then .val (.pointer (some ⟨w.heap.size, 0, none⟩)) else if s = 8 then .sqs [(insS (insS (remS ss main) (pa1 main)) (pa2 main), tt)] else if s = 9 then .val (.bool true) else if s = 10 then .strs (remS ss main) else if s = 11 then .strs [pa1 main, pa2 main] else if s = 29 then .strs (remS ss main) else if s = 30 then .strs [pa1 main, pa2 main] else if s = 31 then .strs (insS (insS (remS ss main) (pa1 main)) (pa2 main)) else if s = 32 then .val (.pointer (some ⟨w.heap.size, 1, none⟩)) else if s = 33 then .strs (tt) else if s = 34 then .sq (insS (insS (remS ss main) (pa1 main)) (pa2 main)) (tt) else if s = 35 then .sqs [(insS (insS (remS ss main) (pa1 main)) (pa2 main), tt)] else .any : Nat → Kq) s).holds v w') (fun _ _ _ _ h hv => Kq.keeps h hv) ?_ (by kernel_rfl) rfl ?_ ?_
    ·refine lK (kMove 10 (.inl rfl) rfl (by kernel_rfl) (fun d hd => by cases hd; rfl)) ?_
     refine lK (kMove 11 (.inl rfl) rfl (by kernel_rfl) (fun d hd => by cases hd; rfl)) ?_
     refine lK (kPut2 29 30 (remS ss main) (pa1 main) (pa2 main) rfl rfl (by kernel_rfl) (by kernel_rfl) rfl rfl (by omega) (remS_side HS.out).2 (fun d hd => by cases hd; rfl)) ?_
     refine lK (kPure1 6 (.pointer (some ⟨w.heap.size, 0, none⟩)) (.pointer (some ⟨w.heap.size, 1, none⟩)) rfl (by kernel_rfl) rfl (fun a w1 h1 => by unfold execOp; simp only [h1, Sem.run_bind, run_fieldQ1 w.heap.size]; rfl) (fun d hd => by cases hd; rfl)) ?_
     refine lK (kLoadS 32 _ _ _ rfl rfl (by kernel_rfl) rfl c1 h1 (fun d hd => by cases hd; rfl)) ?_
     refine lK (kBuild 31 33 (insS (insS (remS ss main) (pa1 main)) (pa2 main)) (tt) rfl rfl (by kernel_rfl) (by kernel_rfl) rfl rfl (fun d hd => by cases hd; rfl)) ?_
     refine lK (kRow1 34 (insS (insS (remS ss main) (pa1 main)) (pa2 main)) (tt) rfl rfl (by kernel_rfl) rfl (fun d hd => by cases hd; rfl)) ?_
     refine lK (kMove 35 (.inr rfl) rfl (by kernel_rfl) (fun d hd => by cases hd; rfl)) ?_
     refine lK (kConst (.bool true) (.inr rfl) rfl (fun d hd => by cases hd; rfl)) True.intro
    ·intro s hs
     have : s = 6 ∨ s = 10 ∨ s = 11 := by simpa using hs
     rcases this with rfl | rfl | rfl
     ·exact rfl
     ·exact i10
     ·exact i11
    ·intro f w' hk hv
     have g8 : SqL w' (f 8) [(insS (insS (remS ss main) (pa1 main)) (pa2 main), tt)] := hv 8 (by decide)
     have g9 : f 9 = .bool true := hv 9 (by decide)
     obtain ⟨p6, c6, e6, _⟩ := g8.shape
     rw [e6] at g8
     have G8 := hid g8
     clear g8 hv
     simp only [putAll, Act.put, List.setIfInBounds_toArray, List.set_cons_zero, List.set_cons_succ, e6, g9]
     go_wp2_with fail
     refine bodyPost_ret (v := .tuple #[.slice p6 1 c6, .bool true]) (by simp [results, Tryz.results66, go_sem]) rfl ?_
     exact RetPre.mk HP.out (fun e => rfl) G8.out ((k1.trans kd).trans hk)
   ·rw [decide_eq_false hk] at HP
    have hk' : (t.kind == 2) = false := by simpa using hk
    generalize t.kind = kk at *
    clear hk
    go_wp2_with fail
    refine bodyPost_ret (v := .tuple #[.slice none 0 0, .bool false]) (by simp [results, Tryz.results66, go_sem]) rfl ?_
    exact RetPre.mk (ps := []) (b := false) (ps' := []) (by rw [HP.out]; rfl) (fun e => by cases e) (SqL.none0 _ _) (k1.trans kc)
  by_cases e5 : r = 5
  ·subst e5
   have HP : Hid (lpR (lgN lg) (5 : Int).toNat ss tt main = if (isOr (txF main)) = true then some [(insS (remS ss main) (pa1 main), tt), (insS (remS ss main) (pa2 main), tt)] else none) := hid rfl
   rw [HTF.out, ← kind_or] at HP
   by_cases hk : t.kind = 3
   ·rw [decide_eq_true hk] at HP
    rw [hk] at z0
    have HPL : Hid ((partsL t).map txS = [pa1 main, pa2 main]) := hid (by rw [parts_two (by omega), pa1, pa2, HTF.out]; rfl)
    clear hk
    go_upto_region 5 with fail
    have kd := kc.trans (Keeps.refl wc).drew
    have hbx := HB1.out.keeps kd
    have c0 := hbx.cell 0 (by simp)
    have c1 := hbx.cell 1 (by simp)
    simp only [List.getElem_cons_zero, List.getElem_cons_succ] at c0 c1
    have h0 := HA.out.keeps kd
    have h1 := HC.out.keeps kd
    have i10 := HXL.out.keeps (Keeps.refl wc).drew
    have i11 := HXP.out.keeps (Keeps.refl wc).drew
    rw [HPL.out] at i11
    refine wp_region_kinds (L := 21) (nt := 135) (ins := [6, 10, 11]) (ds := [46, 47, 48, 49, 50, 51, 52, 53, 54, 55, 56, 57, 58, 59, 60, 61, 62, 63, 64, 8, 9]) (by kernel_rfl) (by kernel_rfl) (fun s v w' => ((fun s => if s = 6 then .val (.pointer (some ⟨w.heap.size, 0, none⟩)) else if s = 8 then .sqs [(insS (remS ss main) (pa1 main), tt), (insS (remS ss main) (pa2 main), tt)] else if s = 9 then .val (.bool true) else if s = 10 then .strs (remS ss main) else if s = 11 then .strs [pa1 main, pa2 main] else if s = 46 then .strs (remS ss main) else if s = 47 then .strs [pa1 main, pa2 main] else if s = 48 then tptr (pa1 main) else if s = 49 then .val (.string (pa1 main)) else if s = 50 then .strs [pa1 main] else if s = 51 then .strs (insS (remS ss main) (pa1 main)) else if s = 52 then .val (.pointer (some ⟨w.heap.size, 1, none⟩)) else if s = 53 then .strs (tt) else if s = 54 then .sq (insS (remS ss main) (pa1 main)) (tt) else if s = 55 then .strs (remS ss main) else if s = 56 then .strs [pa1 main, pa2 main] else if s = 57 then tptr (pa2 main) else if s = 58 then .val (.string (pa2 main)) else if s = 59 then .strs [pa2 main] else if s = 60 then .strs (insS (remS ss main) (pa2 main)) else if s = 61 then .val (.pointer (some ⟨w.heap.size, 1, none⟩)) else if s = 62 then .strs (tt) else if s = 63 then .sq (insS (remS ss main) (pa2 main)) (tt) else if s = 64 then .sqs [(insS (remS ss main) (pa1 main), tt), (insS (remS ss main) (pa2 main), tt)] else .any : Nat → Kq) s).holds v w') (fun _ _ _ _ h hv => Kq.keeps h hv) ?_ (by kernel_rfl) rfl ?_ ?_
    ·refine lK (kMove 10 (.inl rfl) rfl (by kernel_rfl) (fun d hd => by cases hd; rfl)) ?_
     refine lK (kMove 11 (.inl rfl) rfl (by kernel_rfl) (fun d hd => by cases hd; rfl)) ?_
     refine lK (kIdx 47 0 [pa1 main, pa2 main] (pa1 main) rfl rfl (by kernel_rfl) rfl rfl (fun d hd => by cases hd; rfl)) ?_
     refine lK (kLoadX 48 (pa1 main) rfl rfl (by kernel_rfl) rfl (fun d hd => by cases hd; rfl)) ?_
     refine lK (kOne 49 (pa1 main) rfl rfl (by kernel_rfl) rfl (fun d hd => by cases hd; rfl)) ?_
     refine lK (kPut1 46 50 (remS ss main) (pa1 main) rfl rfl (by kernel_rfl) (by kernel_rfl) rfl rfl (by omega) (remS_side HS.out).2 (fun d hd => by cases hd; rfl)) ?_
     refine lK (kPure1 6 (.pointer (some ⟨w.heap.size, 0, none⟩)) (.pointer (some ⟨w.heap.size, 1, none⟩)) rfl (by kernel_rfl) rfl (fun a w1 h1 => by unfold execOp; simp only [h1, Sem.run_bind, run_fieldQ1 w.heap.size]; rfl) (fun d hd => by cases hd; rfl)) ?_
     refine lK (kLoadS 52 _ _ _ rfl rfl (by kernel_rfl) rfl c1 h1 (fun d hd => by cases hd; rfl)) ?_
     refine lK (kBuild 51 53 (insS (remS ss main) (pa1 main)) (tt) rfl rfl (by kernel_rfl) (by kernel_rfl) rfl rfl (fun d hd => by cases hd; rfl)) ?_
     refine lK (kMove 10 (.inl rfl) rfl (by kernel_rfl) (fun d hd => by cases hd; rfl)) ?_
     refine lK (kMove 11 (.inl rfl) rfl (by kernel_rfl) (fun d hd => by cases hd; rfl)) ?_
     refine lK (kIdx 56 1 [pa1 main, pa2 main] (pa2 main) rfl rfl (by kernel_rfl) rfl rfl (fun d hd => by cases hd; rfl)) ?_
     refine lK (kLoadX 57 (pa2 main) rfl rfl (by kernel_rfl) rfl (fun d hd => by cases hd; rfl)) ?_
     refine lK (kOne 58 (pa2 main) rfl rfl (by kernel_rfl) rfl (fun d hd => by cases hd; rfl)) ?_
     refine lK (kPut1 55 59 (remS ss main) (pa2 main) rfl rfl (by kernel_rfl) (by kernel_rfl) rfl rfl (by omega) (remS_side HS.out).2 (fun d hd => by cases hd; rfl)) ?_
     refine lK (kPure1 6 (.pointer (some ⟨w.heap.size, 0, none⟩)) (.pointer (some ⟨w.heap.size, 1, none⟩)) rfl (by kernel_rfl) rfl (fun a w1 h1 => by unfold execOp; simp only [h1, Sem.run_bind, run_fieldQ1 w.heap.size]; rfl) (fun d hd => by cases hd; rfl)) ?_
     refine lK (kLoadS 61 _ _ _ rfl rfl (by kernel_rfl) rfl c1 h1 (fun d hd => by cases hd; rfl)) ?_
     refine lK (kBuild 60 62 (insS (remS ss main) (pa2 main)) (tt) rfl rfl (by kernel_rfl) (by kernel_rfl) rfl rfl (fun d hd => by cases hd; rfl)) ?_
     refine lK (kRow2 54 63 (insS (remS ss main) (pa1 main)) (tt) (insS (remS ss main) (pa2 main)) (tt) rfl rfl (by kernel_rfl) (by kernel_rfl) rfl rfl (fun d hd => by cases hd; rfl)) ?_
     refine lK (kMove 64 (.inr rfl) rfl (by kernel_rfl) (fun d hd => by cases hd; rfl)) ?_
     refine lK (kConst (.bool true) (.inr rfl) rfl (fun d hd => by cases hd; rfl)) True.intro
    ·intro s hs
     have : s = 6 ∨ s = 10 ∨ s = 11 := by simpa using hs
     rcases this with rfl | rfl | rfl
     ·exact rfl
     ·exact i10
     ·exact i11
    ·intro f w' hk hv
     have g8 : SqL w' (f 8) [(insS (remS ss main) (pa1 main), tt), (insS (remS ss main) (pa2 main), tt)] := hv 8 (by decide)
     have g9 : f 9 = .bool true := hv 9 (by decide)
     obtain ⟨p6, c6, e6, _⟩ := g8.shape
     rw [e6] at g8
     have G8 := hid g8
     clear g8 hv
     simp only [putAll, Act.put, List.setIfInBounds_toArray, List.set_cons_zero, List.set_cons_succ, e6, g9]
     go_wp2_with fail
     refine bodyPost_ret (v := .tuple #[.slice p6 2 c6, .bool true]) (by simp [results, Tryz.results66, go_sem]) rfl ?_
     exact RetPre.mk HP.out (fun e => rfl) G8.out ((k1.trans kd).trans hk)
   ·rw [decide_eq_false hk] at HP
    have hk' : (t.kind == 3) = false := by simpa using hk
    generalize t.kind = kk at *
    clear hk
    go_wp2_with fail
    refine bodyPost_ret (v := .tuple #[.slice none 0 0, .bool false]) (by simp [results, Tryz.results66, go_sem]) rfl ?_
    exact RetPre.mk (ps := []) (b := false) (ps' := []) (by rw [HP.out]; rfl) (fun e => by cases e) (SqL.none0 _ _) (k1.trans kc)
  by_cases e7 : r = 7
  ·subst e7
   have HP : Hid (lpR (lgN lg) (7 : Int).toNat ss tt main = if (isIm (txF main)) = true then some [(remS ss main, insS tt (pa1 main)), (insS (remS ss main) (pa2 main), tt)] else none) := hid rfl
   rw [HTF.out, ← kind_im] at HP
   by_cases hk : t.kind = 4
   ·rw [decide_eq_true hk] at HP
    rw [hk] at z0
    have HPL : Hid ((partsL t).map txS = [pa1 main, pa2 main]) := hid (by rw [parts_two (by omega), pa1, pa2, HTF.out]; rfl)
    clear hk
    go_upto_region 7 with fail
    have kd := kc.trans (Keeps.refl wc).drew
    have hbx := HB1.out.keeps kd
    have c0 := hbx.cell 0 (by simp)
    have c1 := hbx.cell 1 (by simp)
    simp only [List.getElem_cons_zero, List.getElem_cons_succ] at c0 c1
    have h0 := HA.out.keeps kd
    have h1 := HC.out.keeps kd
    have i10 := HXL.out.keeps (Keeps.refl wc).drew
    have i11 := HXP.out.keeps (Keeps.refl wc).drew
    rw [HPL.out] at i11
    refine wp_region_kinds (L := 21) (nt := 135) (ins := [6, 10, 11]) (ds := [75, 76, 77, 78, 79, 80, 81, 82, 83, 84, 85, 86, 87, 88, 89, 90, 91, 92, 93, 8, 9]) (by kernel_rfl) (by kernel_rfl) (fun s v w' => ((fun s => if s = 6 then .val (.pointer (some ⟨w.heap.size, 0, none⟩)) else if s = 8 then .sqs [(remS ss main, insS tt (pa1 main)), (insS (remS ss main) (pa2 main), tt)] else if s = 9 then .val (.bool true) else if s = 10 then .strs (remS ss main) else if s = 11 then .strs [pa1 main, pa2 main] else if s = 75 then .strs (remS ss main) else if s = 76 then .val (.pointer (some ⟨w.heap.size, 1, none⟩)) else if s = 77 then .strs (tt) else if s = 78 then .strs [pa1 main, pa2 main] else if s = 79 then tptr (pa1 main) else if s = 80 then .val (.string (pa1 main)) else if s = 81 then .strs [pa1 main] else if s = 82 then .strs (insS tt (pa1 main)) else if s = 83 then .sq (remS ss main) (insS tt (pa1 main)) else if s = 84 then .strs (remS ss main) else if s = 85 then .strs [pa1 main, pa2 main] else if s = 86 then tptr (pa2 main) else if s = 87 then .val (.string (pa2 main)) else if s = 88 then .strs [pa2 main] else if s = 89 then .strs (insS (remS ss main) (pa2 main)) else if s = 90 then .val (.pointer (some ⟨w.heap.size, 1, none⟩)) else if s = 91 then .strs (tt) else if s = 92 then .sq (insS (remS ss main) (pa2 main)) (tt) else if s = 93 then .sqs [(remS ss main, insS tt (pa1 main)), (insS (remS ss main) (pa2 main), tt)] else .any : Nat → Kq) s).holds v w') (fun _ _ _ _ h hv => Kq.keeps h hv) ?_ (by kernel_rfl) rfl ?_ ?_
    ·refine lK (kMove 10 (.inl rfl) rfl (by kernel_rfl) (fun d hd => by cases hd; rfl)) ?_
     refine lK (kPure1 6 (.pointer (some ⟨w.heap.size, 0, none⟩)) (.pointer (some ⟨w.heap.size, 1, none⟩)) rfl (by kernel_rfl) rfl (fun a w1 h1 => by unfold execOp; simp only [h1, Sem.run_bind, run_fieldQ1 w.heap.size]; rfl) (fun d hd => by cases hd; rfl)) ?_
     refine lK (kLoadS 76 _ _ _ rfl rfl (by kernel_rfl) rfl c1 h1 (fun d hd => by cases hd; rfl)) ?_
     refine lK (kMove 11 (.inl rfl) rfl (by kernel_rfl) (fun d hd => by cases hd; rfl)) ?_
     refine lK (kIdx 78 0 [pa1 main, pa2 main] (pa1 main) rfl rfl (by kernel_rfl) rfl rfl (fun d hd => by cases hd; rfl)) ?_
     refine lK (kLoadX 79 (pa1 main) rfl rfl (by kernel_rfl) rfl (fun d hd => by cases hd; rfl)) ?_
     refine lK (kOne 80 (pa1 main) rfl rfl (by kernel_rfl) rfl (fun d hd => by cases hd; rfl)) ?_
     refine lK (kPut1 77 81 (tt) (pa1 main) rfl rfl (by kernel_rfl) (by kernel_rfl) rfl rfl (by omega) HT.out.2 (fun d hd => by cases hd; rfl)) ?_
     refine lK (kBuild 75 82 (remS ss main) (insS tt (pa1 main)) rfl rfl (by kernel_rfl) (by kernel_rfl) rfl rfl (fun d hd => by cases hd; rfl)) ?_
     refine lK (kMove 10 (.inl rfl) rfl (by kernel_rfl) (fun d hd => by cases hd; rfl)) ?_
     refine lK (kMove 11 (.inl rfl) rfl (by kernel_rfl) (fun d hd => by cases hd; rfl)) ?_
     refine lK (kIdx 85 1 [pa1 main, pa2 main] (pa2 main) rfl rfl (by kernel_rfl) rfl rfl (fun d hd => by cases hd; rfl)) ?_
     refine lK (kLoadX 86 (pa2 main) rfl rfl (by kernel_rfl) rfl (fun d hd => by cases hd; rfl)) ?_
     refine lK (kOne 87 (pa2 main) rfl rfl (by kernel_rfl) rfl (fun d hd => by cases hd; rfl)) ?_
     refine lK (kPut1 84 88 (remS ss main) (pa2 main) rfl rfl (by kernel_rfl) (by kernel_rfl) rfl rfl (by omega) (remS_side HS.out).2 (fun d hd => by cases hd; rfl)) ?_
     refine lK (kPure1 6 (.pointer (some ⟨w.heap.size, 0, none⟩)) (.pointer (some ⟨w.heap.size, 1, none⟩)) rfl (by kernel_rfl) rfl (fun a w1 h1 => by unfold execOp; simp only [h1, Sem.run_bind, run_fieldQ1 w.heap.size]; rfl) (fun d hd => by cases hd; rfl)) ?_
     refine lK (kLoadS 90 _ _ _ rfl rfl (by kernel_rfl) rfl c1 h1 (fun d hd => by cases hd; rfl)) ?_
     refine lK (kBuild 89 91 (insS (remS ss main) (pa2 main)) (tt) rfl rfl (by kernel_rfl) (by kernel_rfl) rfl rfl (fun d hd => by cases hd; rfl)) ?_
     refine lK (kRow2 83 92 (remS ss main) (insS tt (pa1 main)) (insS (remS ss main) (pa2 main)) (tt) rfl rfl (by kernel_rfl) (by kernel_rfl) rfl rfl (fun d hd => by cases hd; rfl)) ?_
     refine lK (kMove 93 (.inr rfl) rfl (by kernel_rfl) (fun d hd => by cases hd; rfl)) ?_
     refine lK (kConst (.bool true) (.inr rfl) rfl (fun d hd => by cases hd; rfl)) True.intro
    ·intro s hs
     have : s = 6 ∨ s = 10 ∨ s = 11 := by simpa using hs
     rcases this with rfl | rfl | rfl
     ·exact rfl
     ·exact i10
     ·exact i11
    ·intro f w' hk hv
     have g8 : SqL w' (f 8) [(remS ss main, insS tt (pa1 main)), (insS (remS ss main) (pa2 main), tt)] := hv 8 (by decide)
     have g9 : f 9 = .bool true := hv 9 (by decide)
     obtain ⟨p6, c6, e6, _⟩ := g8.shape
     rw [e6] at g8
     have G8 := hid g8
     clear g8 hv
     simp only [putAll, Act.put, List.setIfInBounds_toArray, List.set_cons_zero, List.set_cons_succ, e6, g9]
     go_wp2_with fail
     refine bodyPost_ret (v := .tuple #[.slice p6 2 c6, .bool true]) (by simp [results, Tryz.results66, go_sem]) rfl ?_
     exact RetPre.mk HP.out (fun e => rfl) G8.out ((k1.trans kd).trans hk)
   ·rw [decide_eq_false hk] at HP
    have hk' : (t.kind == 4) = false := by simpa using hk
    generalize t.kind = kk at *
    clear hk
    go_wp2_with fail
    refine bodyPost_ret (v := .tuple #[.slice none 0 0, .bool false]) (by simp [results, Tryz.results66, go_sem]) rfl ?_
    exact RetPre.mk (ps := []) (b := false) (ps' := []) (by rw [HP.out]; rfl) (fun e => by cases e) (SqL.none0 _ _) (k1.trans kc)
  by_cases e9 : r = 9
  ·subst e9
   have HP : Hid (lpR (lgN lg) (9 : Int).toNat ss tt main = if (isBx (txF main) && rfL (lgN lg)) = true then some [(insS ss (paI main), tt)] else none) := hid rfl
   rw [HTF.out, ← kind_bx] at HP
   by_cases hk : t.kind = 5
   ·rw [decide_eq_true hk] at HP
    rw [hk] at z0
    have HPL : Hid ((partsL t).map txS = [paI main]) := hid (by rw [parts_one (by omega), paI, HTF.out]; rfl)
    clear hk
    have HRF := hid (fun wz => isReflexive_any (lgN lg) HLN.out.1 wz)
    rw [← HLN.out.2] at HRF
    rw [Bool.true_and, show rfL (lgN lg) = decide (lgN lg = 2 ∨ lgN lg = 4 ∨ lgN lg = 6) from rfl] at HP
    generalize decide (lgN lg = 2 ∨ lgN lg = 4 ∨ lgN lg = 6) = rf at *
    skip
    go_wp2_with fail
    refine (HRF.out _).mono ?_; rintro e w' ⟨rfl, rfl⟩
    cases rf
    ·go_wp2_with fail
     refine bodyPost_ret (v := .tuple #[.slice none 0 0, .bool false]) (by simp [results, Tryz.results66, go_sem]) rfl ?_
     exact RetPre.mk (ps := []) HP.out (fun e => by cases e) (SqL.none0 _ _) (k1.trans kc)
    ·go_upto_region 9 with fail
     have kd := kc.trans (Keeps.refl wc).drew
     have hbx := HB1.out.keeps kd
     have c0 := hbx.cell 0 (by simp)
     have c1 := hbx.cell 1 (by simp)
     simp only [List.getElem_cons_zero, List.getElem_cons_succ] at c0 c1
     have h0 := HA.out.keeps kd
     have h1 := HC.out.keeps kd
     have i10 := HXL.out.keeps (Keeps.refl wc).drew
     have i11 := HXP.out.keeps (Keeps.refl wc).drew
     rw [HPL.out] at i11
     refine wp_region_kinds (L := 13) (nt := 135) (ins := [6, 11]) (ds := [108, 109, 110, 111, 112, 113, 114, 115, 116, 117, 118, 8, 9]) (by kernel_rfl) (by kernel_rfl) (fun s v w' => ((fun s => if s = 6 then .val (.pointer (some ⟨w.heap.size, 0, none⟩)) else if s = 8 then .sqs [(insS ss (paI main), tt)] else if s = 9 then .val (.bool true) else if s = 11 then .strs [paI main] else if s = 108 then .val (.pointer (some ⟨w.heap.size, 0, none⟩)) else if s = 109 then .strs (ss) else if s = 110 then .strs [paI main] else if s = 111 then tptr (paI main) else if s = 112 then .val (.string (paI main)) else if s = 113 then .strs [paI main] else if s = 114 then .strs (insS ss (paI main)) else if s = 115 then .val (.pointer (some ⟨w.heap.size, 1, none⟩)) else if s = 116 then .strs (tt) else if s = 117 then .sq (insS ss (paI main)) (tt) else if s = 118 then .sqs [(insS ss (paI main), tt)] else .any : Nat → Kq) s).holds v w') (fun _ _ _ _ h hv => Kq.keeps h hv) ?_ (by kernel_rfl) rfl ?_ ?_
     ·refine lK (kPure1 6 (.pointer (some ⟨w.heap.size, 0, none⟩)) (.pointer (some ⟨w.heap.size, 0, none⟩)) rfl (by kernel_rfl) rfl (fun a w1 h1 => by unfold execOp; simp only [h1, Sem.run_bind, run_fieldQ0 w.heap.size]; rfl) (fun d hd => by cases hd; rfl)) ?_
      refine lK (kLoadS 108 _ _ _ rfl rfl (by kernel_rfl) rfl c0 h0 (fun d hd => by cases hd; rfl)) ?_
      refine lK (kMove 11 (.inl rfl) rfl (by kernel_rfl) (fun d hd => by cases hd; rfl)) ?_
      refine lK (kIdx 110 0 [paI main] (paI main) rfl rfl (by kernel_rfl) rfl rfl (fun d hd => by cases hd; rfl)) ?_
      refine lK (kLoadX 111 (paI main) rfl rfl (by kernel_rfl) rfl (fun d hd => by cases hd; rfl)) ?_
      refine lK (kOne 112 (paI main) rfl rfl (by kernel_rfl) rfl (fun d hd => by cases hd; rfl)) ?_
      refine lK (kPut1 109 113 (ss) (paI main) rfl rfl (by kernel_rfl) (by kernel_rfl) rfl rfl (by omega) HS.out.2 (fun d hd => by cases hd; rfl)) ?_
      refine lK (kPure1 6 (.pointer (some ⟨w.heap.size, 0, none⟩)) (.pointer (some ⟨w.heap.size, 1, none⟩)) rfl (by kernel_rfl) rfl (fun a w1 h1 => by unfold execOp; simp only [h1, Sem.run_bind, run_fieldQ1 w.heap.size]; rfl) (fun d hd => by cases hd; rfl)) ?_
      refine lK (kLoadS 115 _ _ _ rfl rfl (by kernel_rfl) rfl c1 h1 (fun d hd => by cases hd; rfl)) ?_
      refine lK (kBuild 114 116 (insS ss (paI main)) (tt) rfl rfl (by kernel_rfl) (by kernel_rfl) rfl rfl (fun d hd => by cases hd; rfl)) ?_
      refine lK (kRow1 117 (insS ss (paI main)) (tt) rfl rfl (by kernel_rfl) rfl (fun d hd => by cases hd; rfl)) ?_
      refine lK (kMove 118 (.inr rfl) rfl (by kernel_rfl) (fun d hd => by cases hd; rfl)) ?_
      refine lK (kConst (.bool true) (.inr rfl) rfl (fun d hd => by cases hd; rfl)) True.intro
     ·intro s hs
      have : s = 6 ∨ s = 11 := by simpa using hs
      rcases this with rfl | rfl
      ·exact rfl
      ·exact i11
     ·intro f w' hk hv
      have g8 : SqL w' (f 8) [(insS ss (paI main), tt)] := hv 8 (by decide)
      have g9 : f 9 = .bool true := hv 9 (by decide)
      obtain ⟨p6, c6, e6, _⟩ := g8.shape
      rw [e6] at g8
      have G8 := hid g8
      clear g8 hv
      simp only [putAll, Act.put, List.setIfInBounds_toArray, List.set_cons_zero, List.set_cons_succ, e6, g9]
      go_wp2_with fail
      refine bodyPost_ret (v := .tuple #[.slice p6 1 c6, .bool true]) (by simp [results, Tryz.results66, go_sem]) rfl ?_
      exact RetPre.mk HP.out (fun e => rfl) G8.out ((k1.trans kd).trans hk)
   ·rw [decide_eq_false hk] at HP
    have hk' : (t.kind == 5) = false := by simpa using hk
    generalize t.kind = kk at *
    clear hk
    go_wp2_with fail
    refine bodyPost_ret (v := .tuple #[.slice none 0 0, .bool false]) (by simp [results, Tryz.results66, go_sem]) rfl ?_
    exact RetPre.mk (ps := []) (b := false) (ps' := []) (by rw [HP.out]; rfl) (fun e => by cases e) (SqL.none0 _ _) (k1.trans kc)
  by_cases e11 : r = 11
  ·subst e11
   have HP : Hid (lpR (lgN lg) (11 : Int).toNat ss tt main = if (isDi (txF main)) = true then some [((mdQ (lgN lg) ss tt main).1, (mdQ (lgN lg) ss tt main).2)] else none) := hid rfl
   rw [HTF.out, ← kind_di] at HP
   by_cases hk : t.kind = 6
   ·rw [decide_eq_true hk] at HP
    rw [hk] at z0
    have HPL : Hid ((partsL t).map txS = [paI main]) := hid (by rw [parts_one (by omega), paI, HTF.out]; rfl)
    have HMK : Hid (t.kind = 5 ∨ t.kind = 6) := hid (by omega)
    clear hk
    go_upto_region 11 with fail
    have kd := kc.trans (Keeps.refl wc).drew
    have hbx := HB1.out.keeps kd
    have h0 := HA.out.keeps kd
    have h1 := HC.out.keeps kd
    have i3 := HVV.out.keeps kd
    refine wp_region_kinds (L := 8) (nt := 135) (ins := [0, 3, 6]) (ds := [129, 130, 131, 132, 133, 134, 8, 9]) (by kernel_rfl) (by kernel_rfl) (fun s v w' => ((fun s => if s = 0 then .val (.string lg) else if s = 3 then .nd t else if s = 6 then .val (.pointer (some ⟨w.heap.size, 0, none⟩)) else if s = 8 then .sqs [((mdQ (lgN lg) ss tt main).1, (mdQ (lgN lg) ss tt main).2)] else if s = 9 then .val (.bool true) else if s = 129 then .val (.string lg) else if s = 130 then .sq (ss) (tt) else if s = 131 then .nd t else if s = 132 then .val (.string main) else if s = 133 then .sq ((mdQ (lgN lg) ss tt main).1) ((mdQ (lgN lg) ss tt main).2) else if s = 134 then .sqs [((mdQ (lgN lg) ss tt main).1, (mdQ (lgN lg) ss tt main).2)] else .any : Nat → Kq) s).holds v w') (fun _ _ _ _ h hv => Kq.keeps h hv) ?_ (by kernel_rfl) rfl ?_ ?_
    ·refine lK (kMove 0 (.inl rfl) rfl (by kernel_rfl) (fun d hd => by cases hd; rfl)) ?_
     refine lK (kLoadQ 6 (w.heap.size) _ _ (ss) (tt) rfl rfl (by kernel_rfl) rfl hbx h0 h1 (fun d hd => by cases hd; rfl)) ?_
     refine lK (kMove 3 (.inl rfl) rfl (by kernel_rfl) (fun d hd => by cases hd; rfl)) ?_
     refine lK (kTextM 131 t main rfl rfl (by kernel_rfl) rfl HTT.out (fun d hd => by cases hd; rfl)) ?_
     refine lK (kModal 129 130 132 lg main ss tt rfl rfl (by kernel_rfl) (by kernel_rfl) (by kernel_rfl) rfl rfl rfl HS.out HT.out ⟨by omega, by omega⟩ (.inr ⟨t, HTT.out, HMK.out⟩) (fun d hd => by cases hd; rfl)) ?_
     refine lK (kRow1 133 ((mdQ (lgN lg) ss tt main).1) ((mdQ (lgN lg) ss tt main).2) rfl rfl (by kernel_rfl) rfl (fun d hd => by cases hd; rfl)) ?_
     refine lK (kMove 134 (.inr rfl) rfl (by kernel_rfl) (fun d hd => by cases hd; rfl)) ?_
     refine lK (kConst (.bool true) (.inr rfl) rfl (fun d hd => by cases hd; rfl)) True.intro
    ·intro s hs
     have : s = 0 ∨ s = 3 ∨ s = 6 := by simpa using hs
     rcases this with rfl | rfl | rfl
     ·exact rfl
     ·exact i3
     ·exact rfl
    ·intro f w' hk hv
     have g8 : SqL w' (f 8) [((mdQ (lgN lg) ss tt main).1, (mdQ (lgN lg) ss tt main).2)] := hv 8 (by decide)
     have g9 : f 9 = .bool true := hv 9 (by decide)
     obtain ⟨p6, c6, e6, _⟩ := g8.shape
     rw [e6] at g8
     have G8 := hid g8
     clear g8 hv
     simp only [putAll, Act.put, List.setIfInBounds_toArray, List.set_cons_zero, List.set_cons_succ, e6, g9]
     go_wp2_with fail
     refine bodyPost_ret (v := .tuple #[.slice p6 1 c6, .bool true]) (by simp [results, Tryz.results66, go_sem]) rfl ?_
     exact RetPre.mk HP.out (fun e => rfl) G8.out ((k1.trans kd).trans hk)
   ·rw [decide_eq_false hk] at HP
    have hk' : (t.kind == 6) = false := by simpa using hk
    generalize t.kind = kk at *
    clear hk
    go_wp2_with fail
    refine bodyPost_ret (v := .tuple #[.slice none 0 0, .bool false]) (by simp [results, Tryz.results66, go_sem]) rfl ?_
    exact RetPre.mk (ps := []) (b := false) (ps' := []) (by rw [HP.out]; rfl) (fun e => by cases e) (SqL.none0 _ _) (k1.trans kc)
  have HP : Hid (lpR (lgN lg) r.toNat ss tt main = none) := hid (by
   unfold lpR
   rw [if_neg (by omega), if_neg (by omega), if_neg (by omega), if_neg (by omega), if_neg (by omega)])
  have q3 : (r == 3) = false := by simpa using e3
  have q5 : (r == 5) = false := by simpa using e5
  have q7 : (r == 7) = false := by simpa using e7
  have q9 : (r == 9) = false := by simpa using e9
  have q11 : (r == 11) = false := by simpa using e11
  clear e3 e5 e7 e9 e11
  go_wp2_with fail
  refine bodyPost_ret (v := .tuple #[.slice none 0 0, .bool false]) (by simp [results, Tryz.results66, go_sem]) rfl ?_
  exact RetPre.mk (ps := []) (b := false) (ps' := []) (by rw [HP.out]; rfl) (fun e => by cases e) (SqL.none0 _ _) (k1.trans kc)
set_option maxRecDepth 100000 in
set_option maxHeartbeats 8000000 in
theorem rightPremises_any (lg : ByteArray) (r : Int) (main : ByteArray) (t : Fm) (hlg : lg ∈ names7) (htx : IsTx main t) (ss tt : List ByteArray) (hs : Side ss) (ht : Side tt) (a b v : Value) (w : World) (ha : StrsP w a ss) (hb : StrsP w b tt) (hv : Nds w v t.enc) (hl : ss.length ≤ 1000 ∧ tt.length ≤ 1000) :
  Calls Tryz.prog 68 #[.string lg, .int .i64 r, .agg #[a, b], v] w (RetPre w (rpR (lgN lg) r.toNat ss tt main)) := by
 obtain ⟨p, n, c, rfl⟩ := ha.sh
 obtain ⟨q, m, d, rfl⟩ := hb.sh
 have k1 := (Keeps.refl w).alloc (.cells #[.slice p n c, .slice q m d] 26)
 have b1 := BoxG.made w 26 [.slice p n c, .slice q m d] (by simp) (by simp)
 have HB1 := hid b1
 have HA := hid (ha.keeps k1)
 have HC := hid (hb.keeps k1)
 have HS := hid hs
 have HT := hid ht
 have HTT := hid htx
 have HVV := hid (hv.keeps k1)
 have HLG := hid hlg
 have HTF : Hid (txF main = t) := hid (txF_eq htx)
 obtain ⟨bv, ov, nv, cv, rfl, v0, v1, v2, v3, -, -⟩ := hv.root
 obtain ⟨l1, l2⟩ := hl
 clear ha hb b1 hs ht htx hv hlg
 have l3 := remS_len ss main
 have l4 := remS_len tt main
 go_enter Tryz.func68, Tryz.ntmps68
 go_upto_region 1 with fail
 generalize w.alloc (.cells #[.slice p n c, .slice q m d] 26) = w1 at *
 go_cut [10, 11] from 12 to 18 (fun v10 v11 wx => StrsP wx v10 (remS tt main) ∧ StrsP wx v11 ((partsL t).map txS) ∧ Keeps w1 wx)
 case first =>
  have kd := (Keeps.refl w1).drew
  have c0 := (HB1.out.keeps kd).cell 0 (by simp)
  have c1 := (HB1.out.keeps kd).cell 1 (by simp)
  simp only [List.getElem_cons_zero, List.getElem_cons_succ] at c0 c1
  have h0 := HA.out.keeps kd
  have h1 := HC.out.keeps kd
  have i3 := HVV.out.keeps kd
  refine wp_region_kinds (L := 9) (nt := 131) (ins := [3, 6]) (ds := [12, 13, 14, 15, 16, 17, 18, 10, 11]) (by kernel_rfl) (by kernel_rfl) (fun s v w' => ((fun s => if s = 3 then .nd t else if s = 6 then .val (.pointer (some ⟨w.heap.size, 0, none⟩)) else if s = 10 then .strs (remS tt main) else if s = 11 then .strs ((partsL t).map txS) else if s = 12 then .val (.pointer (some ⟨w.heap.size, 1, none⟩)) else if s = 13 then .strs (tt) else if s = 14 then .nd t else if s = 15 then .val (.string main) else if s = 16 then .strs (remS tt main) else if s = 17 then .nd t else if s = 18 then .strs ((partsL t).map txS) else .any : Nat → Kq) s).holds v w') (fun _ _ _ _ h hv => Kq.keeps h hv) ?_ (by kernel_rfl) rfl ?_ ?_
  ·refine lK (kPure1 6 (.pointer (some ⟨w.heap.size, 0, none⟩)) (.pointer (some ⟨w.heap.size, 1, none⟩)) rfl (by kernel_rfl) rfl (fun a w1 h1 => by unfold execOp; simp only [h1, Sem.run_bind, run_fieldQ1 w.heap.size]; rfl) (fun d hd => by cases hd; rfl)) ?_
   refine lK (kLoadS 12 _ _ _ rfl rfl (by kernel_rfl) rfl c1 h1 (fun d hd => by cases hd; rfl)) ?_
   refine lK (kMove 3 (.inl rfl) rfl (by kernel_rfl) (fun d hd => by cases hd; rfl)) ?_
   refine lK (kTextM 14 t main rfl rfl (by kernel_rfl) rfl HTT.out (fun d hd => by cases hd; rfl)) ?_
   refine lK (kDropP 13 15 (tt) (main) rfl rfl (by kernel_rfl) (by kernel_rfl) rfl rfl (by omega) (fun d hd => by cases hd; rfl)) ?_
   refine lK (kMove 3 (.inl rfl) rfl (by kernel_rfl) (fun d hd => by cases hd; rfl)) ?_
   refine lK (kPartT 17 t rfl rfl (by kernel_rfl) rfl HTT.out.1 (by have := HTT.out.2.2; omega) (fun d hd => by cases hd; rfl)) ?_
   refine lK (kMove 16 (.inr rfl) rfl (by kernel_rfl) (fun d hd => by cases hd; rfl)) ?_
   refine lK (kMove 18 (.inr rfl) rfl (by kernel_rfl) (fun d hd => by cases hd; rfl)) True.intro
  ·intro s hs
   have : s = 3 ∨ s = 6 := by simpa using hs
   rcases this with rfl | rfl
   ·exact i3
   ·exact rfl
  ·intro f w' hk hv
   have g10 : StrsP w' (f 10) (remS tt main) := hv 10 (by decide)
   have g11 : StrsP w' (f 11) ((partsL t).map txS) := hv 11 (by decide)
   have G10 := hid g10
   have G11 := hid g11
   clear g10 g11 hv
   simp only [putAll, Act.put, List.setIfInBounds_toArray, List.set_cons_zero, List.set_cons_succ]
   go_wp2_with fail
   go_meet
   exact ⟨G10.out, G11.out, kd.trans hk⟩
 case rest =>
  obtain ⟨g10, g11, kc⟩ := hcut
  have HXL := hid g10
  have HXP := hid g11
  clear g10 g11
  obtain ⟨b9, o9, n9, c9, e9, -, -, -, -, z0, -⟩ := (HVV.out.keeps kc).root
  cases e9
  have HLN := hid (lgN_spec (names7_lg HLG.out))
  by_cases e4 : r = 4
  ·subst e4
   have HP : Hid (rpR (lgN lg) (4 : Int).toNat ss tt main = if (isAn (txF main)) = true then some [(ss, insS (remS tt main) (pa1 main)), (ss, insS (remS tt main) (pa2 main))] else none) := hid rfl
   rw [HTF.out, ← kind_an] at HP
   by_cases hk : t.kind = 2
   ·rw [decide_eq_true hk] at HP
    rw [hk] at z0
    have HPL : Hid ((partsL t).map txS = [pa1 main, pa2 main]) := hid (by rw [parts_two (by omega), pa1, pa2, HTF.out]; rfl)
    clear hk
    go_upto_region 3 with fail
    have kd := kc.trans (Keeps.refl wc).drew
    have hbx := HB1.out.keeps kd
    have c0 := hbx.cell 0 (by simp)
    have c1 := hbx.cell 1 (by simp)
    simp only [List.getElem_cons_zero, List.getElem_cons_succ] at c0 c1
    have h0 := HA.out.keeps kd
    have h1 := HC.out.keeps kd
    have i10 := HXL.out.keeps (Keeps.refl wc).drew
    have i11 := HXP.out.keeps (Keeps.refl wc).drew
    rw [HPL.out] at i11
    refine wp_region_kinds (L := 21) (nt := 131) (ins := [6, 10, 11]) (ds := [29, 30, 31, 32, 33, 34, 35, 36, 37, 38, 39, 40, 41, 42, 43, 44, 45, 46, 47, 8, 9]) (by kernel_rfl) (by kernel_rfl) (fun s v w' => ((fun s => if s = 6 then .val (.pointer (some ⟨w.heap.size, 0, none⟩)) else if s = 8 then .sqs [(ss, insS (remS tt main) (pa1 main)), (ss, insS (remS tt main) (pa2 main))] else if s = 9 then .val (.bool true) else if s = 10 then .strs (remS tt main) else if s = 11 then .strs [pa1 main, pa2 main] else if s = 29 then .val (.pointer (some ⟨w.heap.size, 0, none⟩)) else if s = 30 then .strs (ss) else if s = 31 then .strs (remS tt main) else if s = 32 then .strs [pa1 main, pa2 main] else if s = 33 then tptr (pa1 main) else if s = 34 then .val (.string (pa1 main)) else if s = 35 then .strs [pa1 main] else if s = 36 then .strs (insS (remS tt main) (pa1 main)) else if s = 37 then .sq (ss) (insS (remS tt main) (pa1 main)) else if s = 38 then .val (.pointer (some ⟨w.heap.size, 0, none⟩)) else if s = 39 then .strs (ss) else if s = 40 then .strs (remS tt main) else if s = 41 then .strs [pa1 main, pa2 main] else if s = 42 then tptr (pa2 main) else if s = 43 then .val (.string (pa2 main)) else if s = 44 then .strs [pa2 main] else if s = 45 then .strs (insS (remS tt main) (pa2 main)) else if s = 46 then .sq (ss) (insS (remS tt main) (pa2 main)) else if s = 47 then .sqs [(ss, insS (remS tt main) (pa1 main)), (ss, insS (remS tt main) (pa2 main))] else .any : Nat → Kq) s).holds v w') (fun _ _ _ _ h hv => Kq.keeps h hv) ?_ (by kernel_rfl) rfl ?_ ?_
    ·refine lK (kPure1 6 (.pointer (some ⟨w.heap.size, 0, none⟩)) (.pointer (some ⟨w.heap.size, 0, none⟩)) rfl (by kernel_rfl) rfl (fun a w1 h1 => by unfold execOp; simp only [h1, Sem.run_bind, run_fieldQ0 w.heap.size]; rfl) (fun d hd => by cases hd; rfl)) ?_
     refine lK (kLoadS 29 _ _ _ rfl rfl (by kernel_rfl) rfl c0 h0 (fun d hd => by cases hd; rfl)) ?_
     refine lK (kMove 10 (.inl rfl) rfl (by kernel_rfl) (fun d hd => by cases hd; rfl)) ?_
     refine lK (kMove 11 (.inl rfl) rfl (by kernel_rfl) (fun d hd => by cases hd; rfl)) ?_
     refine lK (kIdx 32 0 [pa1 main, pa2 main] (pa1 main) rfl rfl (by kernel_rfl) rfl rfl (fun d hd => by cases hd; rfl)) ?_
     refine lK (kLoadX 33 (pa1 main) rfl rfl (by kernel_rfl) rfl (fun d hd => by cases hd; rfl)) ?_
     refine lK (kOne 34 (pa1 main) rfl rfl (by kernel_rfl) rfl (fun d hd => by cases hd; rfl)) ?_
     refine lK (kPut1 31 35 (remS tt main) (pa1 main) rfl rfl (by kernel_rfl) (by kernel_rfl) rfl rfl (by omega) (remS_side HT.out).2 (fun d hd => by cases hd; rfl)) ?_
     refine lK (kBuild 30 36 (ss) (insS (remS tt main) (pa1 main)) rfl rfl (by kernel_rfl) (by kernel_rfl) rfl rfl (fun d hd => by cases hd; rfl)) ?_
     refine lK (kPure1 6 (.pointer (some ⟨w.heap.size, 0, none⟩)) (.pointer (some ⟨w.heap.size, 0, none⟩)) rfl (by kernel_rfl) rfl (fun a w1 h1 => by unfold execOp; simp only [h1, Sem.run_bind, run_fieldQ0 w.heap.size]; rfl) (fun d hd => by cases hd; rfl)) ?_
     refine lK (kLoadS 38 _ _ _ rfl rfl (by kernel_rfl) rfl c0 h0 (fun d hd => by cases hd; rfl)) ?_
     refine lK (kMove 10 (.inl rfl) rfl (by kernel_rfl) (fun d hd => by cases hd; rfl)) ?_
     refine lK (kMove 11 (.inl rfl) rfl (by kernel_rfl) (fun d hd => by cases hd; rfl)) ?_
     refine lK (kIdx 41 1 [pa1 main, pa2 main] (pa2 main) rfl rfl (by kernel_rfl) rfl rfl (fun d hd => by cases hd; rfl)) ?_
     refine lK (kLoadX 42 (pa2 main) rfl rfl (by kernel_rfl) rfl (fun d hd => by cases hd; rfl)) ?_
     refine lK (kOne 43 (pa2 main) rfl rfl (by kernel_rfl) rfl (fun d hd => by cases hd; rfl)) ?_
     refine lK (kPut1 40 44 (remS tt main) (pa2 main) rfl rfl (by kernel_rfl) (by kernel_rfl) rfl rfl (by omega) (remS_side HT.out).2 (fun d hd => by cases hd; rfl)) ?_
     refine lK (kBuild 39 45 (ss) (insS (remS tt main) (pa2 main)) rfl rfl (by kernel_rfl) (by kernel_rfl) rfl rfl (fun d hd => by cases hd; rfl)) ?_
     refine lK (kRow2 37 46 (ss) (insS (remS tt main) (pa1 main)) (ss) (insS (remS tt main) (pa2 main)) rfl rfl (by kernel_rfl) (by kernel_rfl) rfl rfl (fun d hd => by cases hd; rfl)) ?_
     refine lK (kMove 47 (.inr rfl) rfl (by kernel_rfl) (fun d hd => by cases hd; rfl)) ?_
     refine lK (kConst (.bool true) (.inr rfl) rfl (fun d hd => by cases hd; rfl)) True.intro
    ·intro s hs
     have : s = 6 ∨ s = 10 ∨ s = 11 := by simpa using hs
     rcases this with rfl | rfl | rfl
     ·exact rfl
     ·exact i10
     ·exact i11
    ·intro f w' hk hv
     have g8 : SqL w' (f 8) [(ss, insS (remS tt main) (pa1 main)), (ss, insS (remS tt main) (pa2 main))] := hv 8 (by decide)
     have g9 : f 9 = .bool true := hv 9 (by decide)
     obtain ⟨p6, c6, e6, _⟩ := g8.shape
     rw [e6] at g8
     have G8 := hid g8
     clear g8 hv
     simp only [putAll, Act.put, List.setIfInBounds_toArray, List.set_cons_zero, List.set_cons_succ, e6, g9]
     go_wp2_with fail
     refine bodyPost_ret (v := .tuple #[.slice p6 2 c6, .bool true]) (by simp [results, Tryz.results68, go_sem]) rfl ?_
     exact RetPre.mk HP.out (fun e => rfl) G8.out ((k1.trans kd).trans hk)
   ·rw [decide_eq_false hk] at HP
    have hk' : (t.kind == 2) = false := by simpa using hk
    generalize t.kind = kk at *
    clear hk
    go_wp2_with fail
    refine bodyPost_ret (v := .tuple #[.slice none 0 0, .bool false]) (by simp [results, Tryz.results68, go_sem]) rfl ?_
    exact RetPre.mk (ps := []) (b := false) (ps' := []) (by rw [HP.out]; rfl) (fun e => by cases e) (SqL.none0 _ _) (k1.trans kc)
  by_cases e6 : r = 6
  ·subst e6
   have HP : Hid (rpR (lgN lg) (6 : Int).toNat ss tt main = if (isOr (txF main)) = true then some [(ss, insS (insS (remS tt main) (pa1 main)) (pa2 main))] else none) := hid rfl
   rw [HTF.out, ← kind_or] at HP
   by_cases hk : t.kind = 3
   ·rw [decide_eq_true hk] at HP
    rw [hk] at z0
    have HPL : Hid ((partsL t).map txS = [pa1 main, pa2 main]) := hid (by rw [parts_two (by omega), pa1, pa2, HTF.out]; rfl)
    clear hk
    go_upto_region 5 with fail
    have kd := kc.trans (Keeps.refl wc).drew
    have hbx := HB1.out.keeps kd
    have c0 := hbx.cell 0 (by simp)
    have c1 := hbx.cell 1 (by simp)
    simp only [List.getElem_cons_zero, List.getElem_cons_succ] at c0 c1
    have h0 := HA.out.keeps kd
    have h1 := HC.out.keeps kd
    have i10 := HXL.out.keeps (Keeps.refl wc).drew
    have i11 := HXP.out.keeps (Keeps.refl wc).drew
    rw [HPL.out] at i11
    refine wp_region_kinds (L := 9) (nt := 131) (ins := [6, 10, 11]) (ds := [58, 59, 60, 61, 62, 63, 64, 8, 9]) (by kernel_rfl) (by kernel_rfl) (fun s v w' => ((fun s => if s = 6 then .val (.pointer (some ⟨w.heap.size, 0, none⟩)) else if s = 8 then .sqs [(ss, insS (insS (remS tt main) (pa1 main)) (pa2 main))] else if s = 9 then .val (.bool true) else if s = 10 then .strs (remS tt main) else if s = 11 then .strs [pa1 main, pa2 main] else if s = 58 then .val (.pointer (some ⟨w.heap.size, 0, none⟩)) else if s = 59 then .strs (ss) else if s = 60 then .strs (remS tt main) else if s = 61 then .strs [pa1 main, pa2 main] else if s = 62 then .strs (insS (insS (remS tt main) (pa1 main)) (pa2 main)) else if s = 63 then .sq (ss) (insS (insS (remS tt main) (pa1 main)) (pa2 main)) else if s = 64 then .sqs [(ss, insS (insS (remS tt main) (pa1 main)) (pa2 main))] else .any : Nat → Kq) s).holds v w') (fun _ _ _ _ h hv => Kq.keeps h hv) ?_ (by kernel_rfl) rfl ?_ ?_
    ·refine lK (kPure1 6 (.pointer (some ⟨w.heap.size, 0, none⟩)) (.pointer (some ⟨w.heap.size, 0, none⟩)) rfl (by kernel_rfl) rfl (fun a w1 h1 => by unfold execOp; simp only [h1, Sem.run_bind, run_fieldQ0 w.heap.size]; rfl) (fun d hd => by cases hd; rfl)) ?_
     refine lK (kLoadS 58 _ _ _ rfl rfl (by kernel_rfl) rfl c0 h0 (fun d hd => by cases hd; rfl)) ?_
     refine lK (kMove 10 (.inl rfl) rfl (by kernel_rfl) (fun d hd => by cases hd; rfl)) ?_
     refine lK (kMove 11 (.inl rfl) rfl (by kernel_rfl) (fun d hd => by cases hd; rfl)) ?_
     refine lK (kPut2 60 61 (remS tt main) (pa1 main) (pa2 main) rfl rfl (by kernel_rfl) (by kernel_rfl) rfl rfl (by omega) (remS_side HT.out).2 (fun d hd => by cases hd; rfl)) ?_
     refine lK (kBuild 59 62 (ss) (insS (insS (remS tt main) (pa1 main)) (pa2 main)) rfl rfl (by kernel_rfl) (by kernel_rfl) rfl rfl (fun d hd => by cases hd; rfl)) ?_
     refine lK (kRow1 63 (ss) (insS (insS (remS tt main) (pa1 main)) (pa2 main)) rfl rfl (by kernel_rfl) rfl (fun d hd => by cases hd; rfl)) ?_
     refine lK (kMove 64 (.inr rfl) rfl (by kernel_rfl) (fun d hd => by cases hd; rfl)) ?_
     refine lK (kConst (.bool true) (.inr rfl) rfl (fun d hd => by cases hd; rfl)) True.intro
    ·intro s hs
     have : s = 6 ∨ s = 10 ∨ s = 11 := by simpa using hs
     rcases this with rfl | rfl | rfl
     ·exact rfl
     ·exact i10
     ·exact i11
    ·intro f w' hk hv
     have g8 : SqL w' (f 8) [(ss, insS (insS (remS tt main) (pa1 main)) (pa2 main))] := hv 8 (by decide)
     have g9 : f 9 = .bool true := hv 9 (by decide)
     obtain ⟨p6, c6, e6, _⟩ := g8.shape
     rw [e6] at g8
     have G8 := hid g8
     clear g8 hv
     simp only [putAll, Act.put, List.setIfInBounds_toArray, List.set_cons_zero, List.set_cons_succ, e6, g9]
     go_wp2_with fail
     refine bodyPost_ret (v := .tuple #[.slice p6 1 c6, .bool true]) (by simp [results, Tryz.results68, go_sem]) rfl ?_
     exact RetPre.mk HP.out (fun e => rfl) G8.out ((k1.trans kd).trans hk)
   ·rw [decide_eq_false hk] at HP
    have hk' : (t.kind == 3) = false := by simpa using hk
    generalize t.kind = kk at *
    clear hk
    go_wp2_with fail
    refine bodyPost_ret (v := .tuple #[.slice none 0 0, .bool false]) (by simp [results, Tryz.results68, go_sem]) rfl ?_
    exact RetPre.mk (ps := []) (b := false) (ps' := []) (by rw [HP.out]; rfl) (fun e => by cases e) (SqL.none0 _ _) (k1.trans kc)
  by_cases e8 : r = 8
  ·subst e8
   have HP : Hid (rpR (lgN lg) (8 : Int).toNat ss tt main = if (isIm (txF main)) = true then some [(insS ss (pa1 main), insS (remS tt main) (pa2 main))] else none) := hid rfl
   rw [HTF.out, ← kind_im] at HP
   by_cases hk : t.kind = 4
   ·rw [decide_eq_true hk] at HP
    rw [hk] at z0
    have HPL : Hid ((partsL t).map txS = [pa1 main, pa2 main]) := hid (by rw [parts_two (by omega), pa1, pa2, HTF.out]; rfl)
    clear hk
    go_upto_region 7 with fail
    have kd := kc.trans (Keeps.refl wc).drew
    have hbx := HB1.out.keeps kd
    have c0 := hbx.cell 0 (by simp)
    have c1 := hbx.cell 1 (by simp)
    simp only [List.getElem_cons_zero, List.getElem_cons_succ] at c0 c1
    have h0 := HA.out.keeps kd
    have h1 := HC.out.keeps kd
    have i10 := HXL.out.keeps (Keeps.refl wc).drew
    have i11 := HXP.out.keeps (Keeps.refl wc).drew
    rw [HPL.out] at i11
    refine wp_region_kinds (L := 17) (nt := 131) (ins := [6, 10, 11]) (ds := [75, 76, 77, 78, 79, 80, 81, 82, 83, 84, 85, 86, 87, 88, 89, 8, 9]) (by kernel_rfl) (by kernel_rfl) (fun s v w' => ((fun s => if s = 6 then .val (.pointer (some ⟨w.heap.size, 0, none⟩)) else if s = 8 then .sqs [(insS ss (pa1 main), insS (remS tt main) (pa2 main))] else if s = 9 then .val (.bool true) else if s = 10 then .strs (remS tt main) else if s = 11 then .strs [pa1 main, pa2 main] else if s = 75 then .val (.pointer (some ⟨w.heap.size, 0, none⟩)) else if s = 76 then .strs (ss) else if s = 77 then .strs [pa1 main, pa2 main] else if s = 78 then tptr (pa1 main) else if s = 79 then .val (.string (pa1 main)) else if s = 80 then .strs [pa1 main] else if s = 81 then .strs (insS ss (pa1 main)) else if s = 82 then .strs (remS tt main) else if s = 83 then .strs [pa1 main, pa2 main] else if s = 84 then tptr (pa2 main) else if s = 85 then .val (.string (pa2 main)) else if s = 86 then .strs [pa2 main] else if s = 87 then .strs (insS (remS tt main) (pa2 main)) else if s = 88 then .sq (insS ss (pa1 main)) (insS (remS tt main) (pa2 main)) else if s = 89 then .sqs [(insS ss (pa1 main), insS (remS tt main) (pa2 main))] else .any : Nat → Kq) s).holds v w') (fun _ _ _ _ h hv => Kq.keeps h hv) ?_ (by kernel_rfl) rfl ?_ ?_
    ·refine lK (kPure1 6 (.pointer (some ⟨w.heap.size, 0, none⟩)) (.pointer (some ⟨w.heap.size, 0, none⟩)) rfl (by kernel_rfl) rfl (fun a w1 h1 => by unfold execOp; simp only [h1, Sem.run_bind, run_fieldQ0 w.heap.size]; rfl) (fun d hd => by cases hd; rfl)) ?_
     refine lK (kLoadS 75 _ _ _ rfl rfl (by kernel_rfl) rfl c0 h0 (fun d hd => by cases hd; rfl)) ?_
     refine lK (kMove 11 (.inl rfl) rfl (by kernel_rfl) (fun d hd => by cases hd; rfl)) ?_
     refine lK (kIdx 77 0 [pa1 main, pa2 main] (pa1 main) rfl rfl (by kernel_rfl) rfl rfl (fun d hd => by cases hd; rfl)) ?_
     refine lK (kLoadX 78 (pa1 main) rfl rfl (by kernel_rfl) rfl (fun d hd => by cases hd; rfl)) ?_
     refine lK (kOne 79 (pa1 main) rfl rfl (by kernel_rfl) rfl (fun d hd => by cases hd; rfl)) ?_
     refine lK (kPut1 76 80 (ss) (pa1 main) rfl rfl (by kernel_rfl) (by kernel_rfl) rfl rfl (by omega) HS.out.2 (fun d hd => by cases hd; rfl)) ?_
     refine lK (kMove 10 (.inl rfl) rfl (by kernel_rfl) (fun d hd => by cases hd; rfl)) ?_
     refine lK (kMove 11 (.inl rfl) rfl (by kernel_rfl) (fun d hd => by cases hd; rfl)) ?_
     refine lK (kIdx 83 1 [pa1 main, pa2 main] (pa2 main) rfl rfl (by kernel_rfl) rfl rfl (fun d hd => by cases hd; rfl)) ?_
     refine lK (kLoadX 84 (pa2 main) rfl rfl (by kernel_rfl) rfl (fun d hd => by cases hd; rfl)) ?_
     refine lK (kOne 85 (pa2 main) rfl rfl (by kernel_rfl) rfl (fun d hd => by cases hd; rfl)) ?_
     refine lK (kPut1 82 86 (remS tt main) (pa2 main) rfl rfl (by kernel_rfl) (by kernel_rfl) rfl rfl (by omega) (remS_side HT.out).2 (fun d hd => by cases hd; rfl)) ?_
     refine lK (kBuild 81 87 (insS ss (pa1 main)) (insS (remS tt main) (pa2 main)) rfl rfl (by kernel_rfl) (by kernel_rfl) rfl rfl (fun d hd => by cases hd; rfl)) ?_
     refine lK (kRow1 88 (insS ss (pa1 main)) (insS (remS tt main) (pa2 main)) rfl rfl (by kernel_rfl) rfl (fun d hd => by cases hd; rfl)) ?_
     refine lK (kMove 89 (.inr rfl) rfl (by kernel_rfl) (fun d hd => by cases hd; rfl)) ?_
     refine lK (kConst (.bool true) (.inr rfl) rfl (fun d hd => by cases hd; rfl)) True.intro
    ·intro s hs
     have : s = 6 ∨ s = 10 ∨ s = 11 := by simpa using hs
     rcases this with rfl | rfl | rfl
     ·exact rfl
     ·exact i10
     ·exact i11
    ·intro f w' hk hv
     have g8 : SqL w' (f 8) [(insS ss (pa1 main), insS (remS tt main) (pa2 main))] := hv 8 (by decide)
     have g9 : f 9 = .bool true := hv 9 (by decide)
     obtain ⟨p6, c6, e6, _⟩ := g8.shape
     rw [e6] at g8
     have G8 := hid g8
     clear g8 hv
     simp only [putAll, Act.put, List.setIfInBounds_toArray, List.set_cons_zero, List.set_cons_succ, e6, g9]
     go_wp2_with fail
     refine bodyPost_ret (v := .tuple #[.slice p6 1 c6, .bool true]) (by simp [results, Tryz.results68, go_sem]) rfl ?_
     exact RetPre.mk HP.out (fun e => rfl) G8.out ((k1.trans kd).trans hk)
   ·rw [decide_eq_false hk] at HP
    have hk' : (t.kind == 4) = false := by simpa using hk
    generalize t.kind = kk at *
    clear hk
    go_wp2_with fail
    refine bodyPost_ret (v := .tuple #[.slice none 0 0, .bool false]) (by simp [results, Tryz.results68, go_sem]) rfl ?_
    exact RetPre.mk (ps := []) (b := false) (ps' := []) (by rw [HP.out]; rfl) (fun e => by cases e) (SqL.none0 _ _) (k1.trans kc)
  by_cases e10 : r = 10
  ·subst e10
   have HP : Hid (rpR (lgN lg) (10 : Int).toNat ss tt main = if (isDi (txF main) && rfL (lgN lg)) = true then some [(ss, insS tt (paI main))] else none) := hid rfl
   rw [HTF.out, ← kind_di] at HP
   by_cases hk : t.kind = 6
   ·rw [decide_eq_true hk] at HP
    rw [hk] at z0
    have HPL : Hid ((partsL t).map txS = [paI main]) := hid (by rw [parts_one (by omega), paI, HTF.out]; rfl)
    clear hk
    have HRF := hid (fun wz => isReflexive_any (lgN lg) HLN.out.1 wz)
    rw [← HLN.out.2] at HRF
    rw [Bool.true_and, show rfL (lgN lg) = decide (lgN lg = 2 ∨ lgN lg = 4 ∨ lgN lg = 6) from rfl] at HP
    generalize decide (lgN lg = 2 ∨ lgN lg = 4 ∨ lgN lg = 6) = rf at *
    skip
    go_wp2_with fail
    refine (HRF.out _).mono ?_; rintro e w' ⟨rfl, rfl⟩
    cases rf
    ·go_wp2_with fail
     refine bodyPost_ret (v := .tuple #[.slice none 0 0, .bool false]) (by simp [results, Tryz.results68, go_sem]) rfl ?_
     exact RetPre.mk (ps := []) HP.out (fun e => by cases e) (SqL.none0 _ _) (k1.trans kc)
    ·go_upto_region 9 with fail
     have kd := kc.trans (Keeps.refl wc).drew
     have hbx := HB1.out.keeps kd
     have c0 := hbx.cell 0 (by simp)
     have c1 := hbx.cell 1 (by simp)
     simp only [List.getElem_cons_zero, List.getElem_cons_succ] at c0 c1
     have h0 := HA.out.keeps kd
     have h1 := HC.out.keeps kd
     have i10 := HXL.out.keeps (Keeps.refl wc).drew
     have i11 := HXP.out.keeps (Keeps.refl wc).drew
     rw [HPL.out] at i11
     refine wp_region_kinds (L := 13) (nt := 131) (ins := [6, 11]) (ds := [104, 105, 106, 107, 108, 109, 110, 111, 112, 113, 114, 8, 9]) (by kernel_rfl) (by kernel_rfl) (fun s v w' => ((fun s => if s = 6 then .val (.pointer (some ⟨w.heap.size, 0, none⟩)) else if s = 8 then .sqs [(ss, insS tt (paI main))] else if s = 9 then .val (.bool true) else if s = 11 then .strs [paI main] else if s = 104 then .val (.pointer (some ⟨w.heap.size, 0, none⟩)) else if s = 105 then .strs (ss) else if s = 106 then .val (.pointer (some ⟨w.heap.size, 1, none⟩)) else if s = 107 then .strs (tt) else if s = 108 then .strs [paI main] else if s = 109 then tptr (paI main) else if s = 110 then .val (.string (paI main)) else if s = 111 then .strs [paI main] else if s = 112 then .strs (insS tt (paI main)) else if s = 113 then .sq (ss) (insS tt (paI main)) else if s = 114 then .sqs [(ss, insS tt (paI main))] else .any : Nat → Kq) s).holds v w') (fun _ _ _ _ h hv => Kq.keeps h hv) ?_ (by kernel_rfl) rfl ?_ ?_
     ·refine lK (kPure1 6 (.pointer (some ⟨w.heap.size, 0, none⟩)) (.pointer (some ⟨w.heap.size, 0, none⟩)) rfl (by kernel_rfl) rfl (fun a w1 h1 => by unfold execOp; simp only [h1, Sem.run_bind, run_fieldQ0 w.heap.size]; rfl) (fun d hd => by cases hd; rfl)) ?_
      refine lK (kLoadS 104 _ _ _ rfl rfl (by kernel_rfl) rfl c0 h0 (fun d hd => by cases hd; rfl)) ?_
      refine lK (kPure1 6 (.pointer (some ⟨w.heap.size, 0, none⟩)) (.pointer (some ⟨w.heap.size, 1, none⟩)) rfl (by kernel_rfl) rfl (fun a w1 h1 => by unfold execOp; simp only [h1, Sem.run_bind, run_fieldQ1 w.heap.size]; rfl) (fun d hd => by cases hd; rfl)) ?_
      refine lK (kLoadS 106 _ _ _ rfl rfl (by kernel_rfl) rfl c1 h1 (fun d hd => by cases hd; rfl)) ?_
      refine lK (kMove 11 (.inl rfl) rfl (by kernel_rfl) (fun d hd => by cases hd; rfl)) ?_
      refine lK (kIdx 108 0 [paI main] (paI main) rfl rfl (by kernel_rfl) rfl rfl (fun d hd => by cases hd; rfl)) ?_
      refine lK (kLoadX 109 (paI main) rfl rfl (by kernel_rfl) rfl (fun d hd => by cases hd; rfl)) ?_
      refine lK (kOne 110 (paI main) rfl rfl (by kernel_rfl) rfl (fun d hd => by cases hd; rfl)) ?_
      refine lK (kPut1 107 111 (tt) (paI main) rfl rfl (by kernel_rfl) (by kernel_rfl) rfl rfl (by omega) HT.out.2 (fun d hd => by cases hd; rfl)) ?_
      refine lK (kBuild 105 112 (ss) (insS tt (paI main)) rfl rfl (by kernel_rfl) (by kernel_rfl) rfl rfl (fun d hd => by cases hd; rfl)) ?_
      refine lK (kRow1 113 (ss) (insS tt (paI main)) rfl rfl (by kernel_rfl) rfl (fun d hd => by cases hd; rfl)) ?_
      refine lK (kMove 114 (.inr rfl) rfl (by kernel_rfl) (fun d hd => by cases hd; rfl)) ?_
      refine lK (kConst (.bool true) (.inr rfl) rfl (fun d hd => by cases hd; rfl)) True.intro
     ·intro s hs
      have : s = 6 ∨ s = 11 := by simpa using hs
      rcases this with rfl | rfl
      ·exact rfl
      ·exact i11
     ·intro f w' hk hv
      have g8 : SqL w' (f 8) [(ss, insS tt (paI main))] := hv 8 (by decide)
      have g9 : f 9 = .bool true := hv 9 (by decide)
      obtain ⟨p6, c6, e6, _⟩ := g8.shape
      rw [e6] at g8
      have G8 := hid g8
      clear g8 hv
      simp only [putAll, Act.put, List.setIfInBounds_toArray, List.set_cons_zero, List.set_cons_succ, e6, g9]
      go_wp2_with fail
      refine bodyPost_ret (v := .tuple #[.slice p6 1 c6, .bool true]) (by simp [results, Tryz.results68, go_sem]) rfl ?_
      exact RetPre.mk HP.out (fun e => rfl) G8.out ((k1.trans kd).trans hk)
   ·rw [decide_eq_false hk] at HP
    have hk' : (t.kind == 6) = false := by simpa using hk
    generalize t.kind = kk at *
    clear hk
    go_wp2_with fail
    refine bodyPost_ret (v := .tuple #[.slice none 0 0, .bool false]) (by simp [results, Tryz.results68, go_sem]) rfl ?_
    exact RetPre.mk (ps := []) (b := false) (ps' := []) (by rw [HP.out]; rfl) (fun e => by cases e) (SqL.none0 _ _) (k1.trans kc)
  by_cases e11 : r = 11
  ·subst e11
   have HP : Hid (rpR (lgN lg) (11 : Int).toNat ss tt main = if (isBx (txF main)) = true then some [((mdQ (lgN lg) ss tt main).1, (mdQ (lgN lg) ss tt main).2)] else none) := hid rfl
   rw [HTF.out, ← kind_bx] at HP
   by_cases hk : t.kind = 5
   ·rw [decide_eq_true hk] at HP
    rw [hk] at z0
    have HPL : Hid ((partsL t).map txS = [paI main]) := hid (by rw [parts_one (by omega), paI, HTF.out]; rfl)
    have HMK : Hid (t.kind = 5 ∨ t.kind = 6) := hid (by omega)
    clear hk
    go_upto_region 11 with fail
    have kd := kc.trans (Keeps.refl wc).drew
    have hbx := HB1.out.keeps kd
    have h0 := HA.out.keeps kd
    have h1 := HC.out.keeps kd
    have i3 := HVV.out.keeps kd
    refine wp_region_kinds (L := 8) (nt := 131) (ins := [0, 3, 6]) (ds := [125, 126, 127, 128, 129, 130, 8, 9]) (by kernel_rfl) (by kernel_rfl) (fun s v w' => ((fun s => if s = 0 then .val (.string lg) else if s = 3 then .nd t else if s = 6 then .val (.pointer (some ⟨w.heap.size, 0, none⟩)) else if s = 8 then .sqs [((mdQ (lgN lg) ss tt main).1, (mdQ (lgN lg) ss tt main).2)] else if s = 9 then .val (.bool true) else if s = 125 then .val (.string lg) else if s = 126 then .sq (ss) (tt) else if s = 127 then .nd t else if s = 128 then .val (.string main) else if s = 129 then .sq ((mdQ (lgN lg) ss tt main).1) ((mdQ (lgN lg) ss tt main).2) else if s = 130 then .sqs [((mdQ (lgN lg) ss tt main).1, (mdQ (lgN lg) ss tt main).2)] else .any : Nat → Kq) s).holds v w') (fun _ _ _ _ h hv => Kq.keeps h hv) ?_ (by kernel_rfl) rfl ?_ ?_
    ·refine lK (kMove 0 (.inl rfl) rfl (by kernel_rfl) (fun d hd => by cases hd; rfl)) ?_
     refine lK (kLoadQ 6 (w.heap.size) _ _ (ss) (tt) rfl rfl (by kernel_rfl) rfl hbx h0 h1 (fun d hd => by cases hd; rfl)) ?_
     refine lK (kMove 3 (.inl rfl) rfl (by kernel_rfl) (fun d hd => by cases hd; rfl)) ?_
     refine lK (kTextM 127 t main rfl rfl (by kernel_rfl) rfl HTT.out (fun d hd => by cases hd; rfl)) ?_
     refine lK (kModal 125 126 128 lg main ss tt rfl rfl (by kernel_rfl) (by kernel_rfl) (by kernel_rfl) rfl rfl rfl HS.out HT.out ⟨by omega, by omega⟩ (.inr ⟨t, HTT.out, HMK.out⟩) (fun d hd => by cases hd; rfl)) ?_
     refine lK (kRow1 129 ((mdQ (lgN lg) ss tt main).1) ((mdQ (lgN lg) ss tt main).2) rfl rfl (by kernel_rfl) rfl (fun d hd => by cases hd; rfl)) ?_
     refine lK (kMove 130 (.inr rfl) rfl (by kernel_rfl) (fun d hd => by cases hd; rfl)) ?_
     refine lK (kConst (.bool true) (.inr rfl) rfl (fun d hd => by cases hd; rfl)) True.intro
    ·intro s hs
     have : s = 0 ∨ s = 3 ∨ s = 6 := by simpa using hs
     rcases this with rfl | rfl | rfl
     ·exact rfl
     ·exact i3
     ·exact rfl
    ·intro f w' hk hv
     have g8 : SqL w' (f 8) [((mdQ (lgN lg) ss tt main).1, (mdQ (lgN lg) ss tt main).2)] := hv 8 (by decide)
     have g9 : f 9 = .bool true := hv 9 (by decide)
     obtain ⟨p6, c6, e6, _⟩ := g8.shape
     rw [e6] at g8
     have G8 := hid g8
     clear g8 hv
     simp only [putAll, Act.put, List.setIfInBounds_toArray, List.set_cons_zero, List.set_cons_succ, e6, g9]
     go_wp2_with fail
     refine bodyPost_ret (v := .tuple #[.slice p6 1 c6, .bool true]) (by simp [results, Tryz.results68, go_sem]) rfl ?_
     exact RetPre.mk HP.out (fun e => rfl) G8.out ((k1.trans kd).trans hk)
   ·rw [decide_eq_false hk] at HP
    have hk' : (t.kind == 5) = false := by simpa using hk
    generalize t.kind = kk at *
    clear hk
    go_wp2_with fail
    refine bodyPost_ret (v := .tuple #[.slice none 0 0, .bool false]) (by simp [results, Tryz.results68, go_sem]) rfl ?_
    exact RetPre.mk (ps := []) (b := false) (ps' := []) (by rw [HP.out]; rfl) (fun e => by cases e) (SqL.none0 _ _) (k1.trans kc)
  have HP : Hid (rpR (lgN lg) r.toNat ss tt main = none) := hid (by
   unfold rpR
   rw [if_neg (by omega), if_neg (by omega), if_neg (by omega), if_neg (by omega), if_neg (by omega)])
  have q4 : (r == 4) = false := by simpa using e4
  have q6 : (r == 6) = false := by simpa using e6
  have q8 : (r == 8) = false := by simpa using e8
  have q10 : (r == 10) = false := by simpa using e10
  have q11 : (r == 11) = false := by simpa using e11
  clear e4 e6 e8 e10 e11
  go_wp2_with fail
  refine bodyPost_ret (v := .tuple #[.slice none 0 0, .bool false]) (by simp [results, Tryz.results68, go_sem]) rfl ?_
  exact RetPre.mk (ps := []) (b := false) (ps' := []) (by rw [HP.out]; rfl) (fun e => by cases e) (SqL.none0 _ _) (k1.trans kc)
end Go.Proofs.YtkkcfifnkcnceaaGreat
