/- The reference's space: l12Make. -/
import Derived.Test.YtkkcfifnkcnceaaGreatHXB
import Derived.Test.YtkkcfifnkcnceaaGreatHPR
import Derived.Test.YtkkcfifnkcnceaaGreatHNJ
import Derived.Test.YtkkcfifnkcnceaaGreatHNL
import Derived.Test.YtkkcfifnkcnceaaGreatHHL
namespace Go.Proofs.YtkkcfifnkcnceaaGreat
open Go.RowKit
theorem OwnI.shapeV {w : World} {B : Nat} {v : Value} {a : List Int} (h : OwnI w B v a) : ∃ p c, v = .slice p a.length c ∧ a.length ≤ c ∧ c ≤ maxLen := by
 obtain ⟨p, c, e, h1, h2, _⟩ := At.of_own h
 exact ⟨p, c, e, h1, h2⟩
def lenV : Value → Nat
 | .slice _ n _ => n
 | _ => 0
theorem Sp1.start (w2 : World) (lg pv : Value) :
  Sp1 w2 (((w2.alloc (.cells #[] 2)).alloc (.cells #[] 95)).alloc (.cells #[lg, pv, .slice (some ⟨w2.heap.size, 0, none⟩) 0 0, .slice (some ⟨w2.heap.size + 1, 0, none⟩) 0 0, .slice none 0 0, .slice none 0 0, .slice none 0 0, .slice none 0 0] 103)) (w2.heap.size + 1 + 1) lg pv (.slice (some ⟨w2.heap.size, 0, none⟩) 0 0) (.slice (some ⟨w2.heap.size + 1, 0, none⟩) 0 0) [] [] := by
 have h1 := OwnI.empty w2
 have h2 := InnL.empty (w2.alloc (.cells #[] 2))
 have h3 := BoxG.made ((w2.alloc (.cells #[] 2)).alloc (.cells #[] 95)) 103 [lg, pv, .slice (some ⟨w2.heap.size, 0, none⟩) 0 0, .slice (some ⟨w2.heap.size + 1, 0, none⟩) 0 0, .slice none 0 0, .slice none 0 0, .slice none 0 0, .slice none 0 0] (by simp) (by simp)
 rw [size1] at h2
 rw [size1, size1] at h3
 have k2 := ((Keeps.refl (w2.alloc (.cells #[] 2))).alloc (.cells #[] 95)).alloc (.cells #[lg, pv, .slice (some ⟨w2.heap.size, 0, none⟩) 0 0, .slice (some ⟨w2.heap.size + 1, 0, none⟩) 0 0, .slice none 0 0, .slice none 0 0, .slice none 0 0, .slice none 0 0] 103)
 have k3 := (Keeps.refl ((w2.alloc (.cells #[] 2)).alloc (.cells #[] 95))).alloc (.cells #[lg, pv, .slice (some ⟨w2.heap.size, 0, none⟩) 0 0, .slice (some ⟨w2.heap.size + 1, 0, none⟩) 0 0, .slice none 0 0, .slice none 0 0, .slice none 0 0, .slice none 0 0] 103)
 exact ⟨h3, h1.keeps k2, (h2.mono (by omega)).keeps k3, ((Keeps.refl w2).alloc _).trans k2, by omega⟩
theorem Sp2.start {w2 wr : World} {r : Nat} {lg pv v2 v3 : Value} {ks : List Int} {ts : List Fm} (h : Sp1 w2 wr r lg pv v2 v3 ks ts) : Sp2 wr (wr.alloc (.cells #[] 2)) r lg pv v2 v3 (.slice none 0 0) (.slice (some ⟨wr.heap.size, 0, none⟩) 0 0) [] [] :=
 ⟨h.box.keeps ((Keeps.refl wr).alloc _), OwnI.nil _ _, OwnI.empty wr, fun k e => by simp [Value.ownBlock] at e, Touch.of_keeps ((Keeps.refl wr).alloc _) _⟩
structure SpF (w : World) (r L : Nat) (E : List Fm) (ss : List ByteArray) (N : Nat) (c0 c1 c2 c3 c4 c5 : Value) : Prop where
 box : BoxG w r 103 [c0, c1, c2, c3, c4, c5, .slice none 0 0, .slice none 0 0]
 e0 : c0 = .string (lgS L)
 p1 : ∀ w', Touch w w' (fun i => i = r) → Strs w' c1 ss
 p2 : ∀ w', Touch w w' (fun i => i = r) → Ints w' c2 (E.map fun t => (t.kind : Int))
 p4 : ∀ w', Touch w w' (fun i => i = r) → Ints w' c4 ((List.range N).map fun m => ((mskM E m : Nat) : Int))
 p5 : ∀ w', Touch w w' (fun i => i = r) → Ints w' c5 (natI (livL L E N))
set_option maxRecDepth 100000 in
set_option maxHeartbeats 8000000 in
theorem l12Make_any (L : Nat) (hL : L < 8) (ss tt : List ByteArray) (v u : Value) (w : World) (hv : Strs w v ss) (hu : Strs w u tt) (hs : Side ss) (ht : Side tt) (h16 : ss.length ≤ 16) (h16' : tt.length ≤ 16) (h8 : (seE ss tt).length ≤ 8) :
  Calls Tryz.prog 73 #[.string (lgS L), .agg #[v, u]] w fun e w' => ∃ r c0 c1 c2 c3 c4 c5, e = .returned (.pointer (some ⟨r, 0, none⟩)) ∧ Keeps w w' ∧ w.heap.size ≤ r ∧ SpF w' r L (seE ss tt) (elT (fmL (ss ++ tt))) (seN ss tt) c0 c1 c2 c3 c4 c5 := by
 have kA := (Keeps.refl w).alloc (.cells #[v, u] 26)
 obtain ⟨c0, c1⟩ := BoxQ.made w v u 26
 have HEL := hid (l12Elementary_any ss tt v u _ (hv.keeps kA) (hu.keeps kA) hs ht h16 h16')
 obtain ⟨p, c, rfl, _⟩ := hv.shape
 obtain ⟨q, c2, rfl, _⟩ := hu.shape
 clear hv hu
 have hG : Fine (fmL (ss ++ tt)) := by rw [fmL_append]; exact (fmL_fine hs).append (fmL_fine ht)
 have HLEN : Hid (seE ss tt = elF (fmL (ss ++ tt))) := hid rfl
 have HEL2 := hid (elF_len (fmL (ss ++ tt)))
 have HTX : Hid (∀ i (h : i < (elT (fmL (ss ++ tt))).length), IsTx (elT (fmL (ss ++ tt)))[i] ((seE ss tt).getD i .fls)) := hid (fun i h => by
  have h1 := elT_tx hG (List.getElem_mem h)
  have h2 : (seE ss tt).getD i .fls = txF (elT (fmL (ss ++ tt)))[i] := by
   have hi : i < (elF (fmL (ss ++ tt))).length := by rw [elF_len]; exact h
   show (elF (fmL (ss ++ tt))).getD i .fls = _
   rw [List.getD_eq_getElem?_getD, List.getElem?_eq_getElem hi]
   exact elF_get hi
  rw [h2]; exact h1)
 have HEC : Hid (∀ i, i < (seE ss tt).length → isEl ((seE ss tt).getD i .fls) = true) := hid (fun i hi => elF_isEl hG (getD_mem hi))
 have HFN : Hid (∀ x ∈ seE ss tt, x.wf ∧ x.enc.length ≤ 40) := hid (fun x hx => elF_fine hG x hx)
 have HSUB : Hid (∀ i, i < (seE ss tt).length → isMo ((seE ss tt).getD i .fls) = true → ∀ x ∈ subs (below ((seE ss tt).getD i .fls)), isEl x = true → x ∈ seE ss tt) := hid (fun i hi hm x hx he => elF_sub hG (getD_mem hi) hm hx he)
 have HTT : Hid (Txts (elT (fmL (ss ++ tt))) (seE ss tt)) := hid (elF_txts hG)
 have hNd : seN ss tt = 2 ^ (seE ss tt).length := rfl
 clear hG hs ht
 rw [← HLEN.out] at HEL2
 clear HLEN
 generalize seE ss tt = E at *
 generalize elT (fmL (ss ++ tt)) = sE at *
 generalize seN ss tt = N at *
 have hN256 : N ≤ 256 := by rw [hNd]; exact two8 h8
 have HN := hid hNd; clear hNd
 have hs8 : sE.length ≤ 8 := by rw [← HEL2.out]; exact h8
 have HEN : Hid (∀ i, i < sE.length → i < E.length) := hid (fun i hi => by rw [HEL2.out]; exact hi)
 have HONE : Hid ((2 : Int) ^ ((sE.length : Int)).toNat = (N : Int)) := hid (by rw [HN.out, HEL2.out]; simp)
 have HTK : Hid (∀ i, i < sE.length → E.take (i + 1) = E.take i ++ [E.getD i .fls]) := hid (fun i hi => by
  have h := HEN.out i hi
  rw [List.take_succ_eq_append_getElem h, List.getD_eq_getElem?_getD, List.getElem?_eq_getElem h]
  rfl)
 have HTL : Hid (∀ i, i ≤ sE.length → (E.take i).length = i) := hid (fun i hi => by rw [List.length_take, HEL2.out]; omega)
 have HTE : Hid (E.take sE.length = E) := hid (by rw [← HEL2.out, List.take_length])
 generalize hlg : lgS L = lg at *
 have HLG := hid hlg; clear hlg
 go_enter Tryz.func73, Tryz.ntmps73
 go_wp2_with fail
 refine HEL.out.mono ?_; rintro e w2 ⟨pv, rfl, hpv, k2⟩
 obtain ⟨pp, c3, rfl, hn3, hn2, -⟩ := (hpv.strs (by omega)).shape
 unfold maxLen at hn2
 have HPV := hid hpv; clear hpv
 have HS1 := hid (Sp1.start w2 (.string lg) (.slice pp sE.length c3))
 have hrw : w.heap.size < w2.heap.size := by have := k2.size; simp at this; omega
 go_wp2_with fail
 generalize ((w2.alloc (.cells #[] 2)).alloc (.cells #[] 95)).alloc (.cells #[.string lg, .slice pp sE.length c3, .slice (some ⟨w2.heap.size, 0, none⟩) 0 0, .slice (some ⟨w2.heap.size + 1, 0, none⟩) 0 0, .slice none 0 0, .slice none 0 0, .slice none 0 0, .slice none 0 0] 103) = w3 at *
 generalize hr : w2.heap.size + 1 + 1 = r at *
 have hrr : w2.heap.size + 2 = r := by omega
 clear hr
 go_loopw [6] (fun i' wr => ∃ (i : Nat) (v2 v3 : Value), i ≤ sE.length ∧ i' = .int .i64 i ∧ Sp1 w2 wr r (.string lg) (.slice pp sE.length c3) v2 v3 ((E.take i).map fun t => (t.kind : Int)) (E.take i)) (fun i' _ => sE.length - (intOf i').toNat)
 case atStart => exact ⟨0, _, _, by omega, rfl, by simpa using HS1.out⟩
 case round =>
  obtain ⟨i, v2, v3, hi, rfl, h1⟩ := hrel
  clear HS1
  have x1 := h1.box.cell 1 (by simp)
  have H1 := hid h1
  by_cases hlt : i < sE.length
  ·have hlt' : (i : Int) < sE.length := by omega
   have hiE := HEN.out i hlt
   obtain ⟨b1, o1, rfl, hs1⟩ := ((HPV.out.keeps h1.kp).strs (by omega)).get i hlt
   have htx := HTX.out i hlt
   have HP := hid (l02GoodA sE[i] wr (by have := htx.small; omega))
   unfold GoodR at HP
   have h40 := htx.2.2
   have hix := isTx_iff.2 ⟨_, htx⟩
   have HTX1 := hid htx
   have HTKi := hid (HTK.out i hlt)
   have hli := HTL.out i hi
   clear htx
   generalize sE[i] = x at *
   generalize E.getD i .fls = t at *
   generalize hTi : E.take i = Ti at *
   have HTI := hid hTi; clear hTi
   obtain ⟨p2, q2, rfl, hq2, hx2⟩ := h1.kd.shapeV
   obtain ⟨p3, q3, rfl, hq3, hx3⟩ := h1.inn.shape
   rw [List.length_map] at *
   clear h1
   go_wp2_with fail
   refine HP.out.mono ?_; rintro e w5 ⟨v5, rfl, k5, hg5⟩
   have hv5 := hg5 t HTX1.out
   rw [hix]
   obtain ⟨g5, c5, rfl, hBg, hgl, hcg, hcm⟩ := hv5.shape (Fm.enc_pos t)
   have hnd := hv5.nds (by omega)
   obtain ⟨bb, oo, nn, cc, ee, hn0, hn1, hn2', hn3', hc, _⟩ := hnd.root
   cases ee
   have HV5 := hid hv5
   have H15 := hid (H1.out.keeps k5)
   have y2 := H15.out.box.cell 2 (by simp)
   have y3 := H15.out.box.cell 3 (by simp)
   simp only [List.getElem_cons_succ, List.getElem_cons_zero] at y2 y3
   clear hnd hv5 hg5 hix x1 hs1
   unfold maxLen at hcm
   generalize hkd : t.kind = kd at *
   have HKD := hid hkd; clear hkd
   have HLI := hid hli; clear hli
   have HY6 : Hid (∀ wz, Keeps w5 wz → wz.cell? ⟨r, 2, none⟩ = some (.slice p2 Ti.length q2) ∧ wz.cell? ⟨g5, 0, none⟩ = some (.int .i64 kd)) := hid (fun wz kz => ⟨kz.cell y2, kz.cell hc⟩)
   have HN52 : Hid (¬ some g5 = (Value.slice p2 Ti.length q2).ownBlock) := hid (fun e => type_ne H15.out.kd HV5.out (by decide) e.symm rfl)
   have hs25 : w2.heap.size ≤ w5.heap.size := H15.out.kp.size
   have hs2r : w2.heap.size ≤ wr.heap.size := H1.out.kp.size
   clear y2 y3 hc
   go_wp2_with fail
   refine wp_region_noPanic ?_
   refine wp_region_L (L := 13) (S := (fun w' => w'.cell? ⟨r, 2, none⟩ = some (.slice p2 Ti.length q2) ∧ w'.cell? ⟨g5, 0, none⟩ = some (.int .i64 kd))) (by kernel_rfl) (HY6.out _ (Keeps.refl w5).drew) (fun hHeld => ?_)
   generalize hwd : w5.drew = wd at *
   have kd1 : Keeps w5 wd := by rw [← hwd]; exact (Keeps.refl w5).drew
   clear hwd
   have ka := kd1.alloc (.cells #[.int .i64 kd] 2)
   have h5a := H15.out.keeps ka
   have hv5a := HV5.out.keeps ka
   refine wpAnyL_pure (i := 0) (oi := ⟨some 42, _, _, _, _, none⟩) (v := ?v0k6) rfl (by kernel_rfl) (by kernel_rfl) (by kernel_rfl) (by kernel_rfl) (by kernel_rfl) (fun _ _ _ h => h) (Or.inl ⟨by rfl, ?h0k6⟩) (by assumption) ?r0k6
   case h0k6 => (intro w hSw; clear hSw; go_simp; try with_reducible rfl)
   try simp only [Act.put, List.setIfInBounds_toArray, List.set_cons_zero, List.set_cons_succ]
   refine wpAnyL_pure (i := 1) (oi := ⟨some 43, _, _, _, _, none⟩) (v := ?v1k6) rfl (by kernel_rfl) (by kernel_rfl) (by kernel_rfl) (by kernel_rfl) (by kernel_rfl) (fun _ _ _ h => h) (Or.inl ⟨by rfl, ?h1k6⟩) (by assumption) ?r1k6
   case h1k6 => (intro w hSw; clear hSw; go_simp; try with_reducible rfl)
   try simp only [Act.put, List.setIfInBounds_toArray, List.set_cons_zero, List.set_cons_succ]
   refine wpAnyL_pure (i := 2) (oi := ⟨some 44, _, _, _, _, none⟩) (v := ?v2k6) rfl (by kernel_rfl) (by kernel_rfl) (by kernel_rfl) (by kernel_rfl) (by kernel_rfl) (fun _ _ _ h => h) (Or.inl ⟨by rfl, ?h2k6⟩) (by assumption) ?r2k6
   case h2k6 => (intro w hSw; clear hSw; go_simp; try with_reducible rfl)
   try simp only [Act.put, List.setIfInBounds_toArray, List.set_cons_zero, List.set_cons_succ]
   refine wpAnyL_pure (i := 3) (oi := ⟨some 45, _, _, _, _, none⟩) (v := ?v3k6) rfl (by kernel_rfl) (by kernel_rfl) (by kernel_rfl) (by kernel_rfl) (by kernel_rfl) (fun _ _ _ h => h) (Or.inl ⟨by rfl, ?h3k6⟩) (by assumption) ?r3k6
   case h3k6 => (intro w hSw; clear hSw; go_simp; try with_reducible rfl)
   try simp only [Act.put, List.setIfInBounds_toArray, List.set_cons_zero, List.set_cons_succ]
   refine wpAnyL_take (i := 4) (oi := ⟨some 46, _, _, _, _, none⟩) (v := ?v4k6) rfl (by kernel_rfl) (by kernel_rfl) (by kernel_rfl) (by kernel_rfl) (by kernel_rfl) (by kernel_rfl) (fun _ _ _ h => h) (Or.inl ⟨by rfl, ?h4k6⟩) (by assumption) ?r4k6
   case h4k6 => (intro w hSw; (try dsimp only at hSw); go_simp; try with_reducible rfl)
   try simp only [Act.put, List.setIfInBounds_toArray, List.set_cons_zero, List.set_cons_succ]
   refine wpAnyL_pure (i := 5) (oi := ⟨some 47, _, _, _, _, none⟩) (v := ?v5k6) rfl (by kernel_rfl) (by kernel_rfl) (by kernel_rfl) (by kernel_rfl) (by kernel_rfl) (fun _ _ _ h => h) (Or.inl ⟨by rfl, ?h5k6⟩) (by assumption) ?r5k6
   case h5k6 => (intro w hSw; clear hSw; go_simp; try with_reducible rfl)
   try simp only [Act.put, List.setIfInBounds_toArray, List.set_cons_zero, List.set_cons_succ]
   refine wpAnyL_pure (i := 6) (oi := ⟨some 48, _, _, _, _, none⟩) (v := ?v6k6) rfl (by kernel_rfl) (by kernel_rfl) (by kernel_rfl) (by kernel_rfl) (by kernel_rfl) (fun _ _ _ h => h) (Or.inl ⟨by rfl, ?h6k6⟩) (by assumption) ?r6k6
   case h6k6 => (intro w hSw; clear hSw; go_simp; try with_reducible rfl)
   try simp only [Act.put, List.setIfInBounds_toArray, List.set_cons_zero, List.set_cons_succ]
   refine wpAnyL_pure (i := 7) (oi := ⟨some 49, _, _, _, _, none⟩) (v := ?v7k6) rfl (by kernel_rfl) (by kernel_rfl) (by kernel_rfl) (by kernel_rfl) (by kernel_rfl) (fun _ _ _ h => h) (Or.inl ⟨by rfl, ?h7k6⟩) (by assumption) ?r7k6
   case h7k6 => (intro w hSw; clear hSw; go_simp; try with_reducible rfl)
   try simp only [Act.put, List.setIfInBounds_toArray, List.set_cons_zero, List.set_cons_succ]
   refine wpAnyL_take (i := 8) (oi := ⟨some 50, _, _, _, _, none⟩) (v := ?v8k6) rfl (by kernel_rfl) (by kernel_rfl) (by kernel_rfl) (by kernel_rfl) (by kernel_rfl) (by kernel_rfl) (fun _ _ _ h => h) (Or.inl ⟨by rfl, ?h8k6⟩) (by assumption) ?r8k6
   case h8k6 => (intro w hSw; (try dsimp only at hSw); go_simp; try with_reducible rfl)
   try simp only [Act.put, List.setIfInBounds_toArray, List.set_cons_zero, List.set_cons_succ]
   refine wpAnyL_one (i := 9) (o := ⟨some 51, _, _, _, _, none⟩) (by kernel_rfl) rfl (fun K hK => ?_)
   go_simp
   refine hK.out _ _ (HY6.out _ ka) (fun hHeld => ?_)
   clear hK K
   try simp only [Act.put, List.setIfInBounds_toArray, List.set_cons_zero, List.set_cons_succ]
   refine wpAnyL_one (i := 10) (o := ⟨some 52, _, _, _, _, none⟩) (by kernel_rfl) rfl (fun K hK => ?_)
   refine stepI rfl (.tmp 46) (.tmp 51) rfl w2.heap.size (.slice p2 Ti.length q2) (Ti.map fun t => (t.kind : Int)) rfl h5a.kd _ [kd] rfl (Ints.lit1 wd kd) (by have := ka.size; omega) (by have := HLI.out; simp; omega) ?_
   intro v7 w7 hv7 hg7 hr7
   have hb7 := h5a.boxK hg7
   have z2 := hb7.cell 2 (by simp)
   have zf := hb7.froz 2
   have yg := (Touch.grown hg7).cellOf HN52.out (HY6.out _ ka).2
   simp only [List.getElem_cons_succ, List.getElem_cons_zero] at z2
   obtain ⟨p7, q7, rfl, hq7, hx7⟩ := hv7.shapeV
   refine hK.out _ _ (And.intro z2 yg) (fun hHeld => ?_)
   clear hK K
   try simp only [Act.put, List.setIfInBounds_toArray, List.set_cons_zero, List.set_cons_succ]
   refine wpAnyL_pure (i := 11) (oi := ⟨some 53, _, _, _, _, none⟩) (v := ?v11k6) rfl (by kernel_rfl) (by kernel_rfl) (by kernel_rfl) (by kernel_rfl) (by kernel_rfl) (fun _ _ _ h => h) (Or.inl ⟨by rfl, ?h11k6⟩) (by assumption) ?r11k6
   case h11k6 => (intro w hSw; clear hSw; go_simp; try with_reducible rfl)
   try simp only [Act.put, List.setIfInBounds_toArray, List.set_cons_zero, List.set_cons_succ]
   refine wpAnyL_pure (i := 12) (oi := ⟨some 54, _, _, _, _, none⟩) (v := ?v12k6) rfl (by kernel_rfl) (by kernel_rfl) (by kernel_rfl) (by kernel_rfl) (by kernel_rfl) (fun _ _ _ h => h) (Or.inl ⟨by rfl, ?h12k6⟩) (by assumption) ?r12k6
   case h12k6 => (intro w hSw; clear hSw; go_simp; try with_reducible rfl)
   try simp only [Act.put, List.setIfInBounds_toArray, List.set_cons_zero, List.set_cons_succ]
   refine wpAnyL_last (o := ⟨none, _, _, _, _, none⟩) (by kernel_rfl) rfl (of_decide_eq_true (by kernel_rfl)) (fun K hK => ?_)
   go_simp
   refine hK.out _ _ ?_
   clear hK K
   try simp only [Act.put, List.setIfInBounds_toArray, List.set_cons_zero, List.set_cons_succ]
   refine wpAnyL_done (by kernel_rfl) ?_ _
   refine NoPanic.normal ?_
   have hP := h5a.pushK hg7 hv7
   have hv7b : OwnN (w7.setCell ⟨r, 2, none⟩ (.slice p7 (List.map (fun t => (t.kind : Int)) Ti ++ [kd]).length q7)) wr.heap.size (.slice (some ⟨g5, 0, none⟩) t.enc.length c5) t.enc :=
    own_boxed (hv5a.touch (Touch.grown hg7) (fun i e hi => type_ne h5a.kd hv5a (by decide) hi.symm e)) hb7 (by decide)
   simp only [List.length_append, List.length_map, List.length_cons, List.length_nil, Nat.zero_add] at hP hv7b
   have HP6 := hid hP
   have HV7 := hid (hv7b.mono hs2r)
   have hgn := hgl
   clear hP hv7b hb7 hv7 h5a hv5a z2 zf yg ka hg7 hr7 hHeld hq7 hx7
   go_wp2_with fail
   generalize w7.setCell ⟨r, 2, none⟩ (.slice p7 (Ti.length + 1) q7) = wB at *
   have hsl := fun wx => slice1 g5 t.enc.length c5 (Fm.enc_pos t) hcg wx
   obtain ⟨pq, m1, c1', hq⟩ : ∃ pq m1 c1', tlV (.slice (some ⟨g5, 0, none⟩) t.enc.length c5) = .slice pq m1 c1' := ⟨_, _, _, rfl⟩
   rw [hq] at hsl
   have HQ := hid hq; clear hq
   have y3 := HP6.out.box.cell 3 (by simp)
   simp only [List.getElem_cons_succ, List.getElem_cons_zero] at y3
   have HY7 : Hid (∀ wz, Keeps wB wz → wz.cell? ⟨r, 3, none⟩ = some (.slice p3 Ti.length q3)) := hid (fun wz kz => kz.cell y3)
   have hs2B : w2.heap.size ≤ wB.heap.size := HP6.out.kp.size
   clear y3
   refine wp_region_noPanic ?_
   refine wp_region_L (L := 11) (S := (fun w' => w'.cell? ⟨r, 3, none⟩ = some (.slice p3 Ti.length q3))) (by kernel_rfl) (HY7.out _ (Keeps.refl wB).drew) (fun hHeld => ?_)
   generalize hwd : wB.drew = wd at *
   have kd1 : Keeps wB wd := by rw [← hwd]; exact (Keeps.refl wB).drew
   clear hwd
   have ka := kd1.alloc (.cells #[.slice pq m1 c1'] 95)
   have hBa := HP6.out.keeps ka
   have HAT : Hid (At (wd.alloc (.cells #[.slice pq m1 c1'] 95)) (some ⟨wd.heap.size, 0, none⟩) [tlV (.slice (some ⟨g5, 0, none⟩) t.enc.length c5)]) := hid (by rw [HQ.out]; exact At.lit1 wd _ _)
   refine wpAnyL_pure (i := 0) (oi := ⟨some 55, _, _, _, _, none⟩) (v := ?v0k7) rfl (by kernel_rfl) (by kernel_rfl) (by kernel_rfl) (by kernel_rfl) (by kernel_rfl) (fun _ _ _ h => h) (Or.inl ⟨by rfl, ?h0k7⟩) (by assumption) ?r0k7
   case h0k7 => (intro w hSw; clear hSw; go_simp; try with_reducible rfl)
   try simp only [Act.put, List.setIfInBounds_toArray, List.set_cons_zero, List.set_cons_succ]
   refine wpAnyL_pure (i := 1) (oi := ⟨some 56, _, _, _, _, none⟩) (v := ?v1k7) rfl (by kernel_rfl) (by kernel_rfl) (by kernel_rfl) (by kernel_rfl) (by kernel_rfl) (fun _ _ _ h => h) (Or.inl ⟨by rfl, ?h1k7⟩) (by assumption) ?r1k7
   case h1k7 => (intro w hSw; clear hSw; go_simp; try with_reducible rfl)
   try simp only [Act.put, List.setIfInBounds_toArray, List.set_cons_zero, List.set_cons_succ]
   refine wpAnyL_pure (i := 2) (oi := ⟨some 57, _, _, _, _, none⟩) (v := ?v2k7) rfl (by kernel_rfl) (by kernel_rfl) (by kernel_rfl) (by kernel_rfl) (by kernel_rfl) (fun _ _ _ h => h) (Or.inl ⟨by rfl, ?h2k7⟩) (by assumption) ?r2k7
   case h2k7 => (intro w hSw; clear hSw; go_simp; try with_reducible rfl)
   try simp only [Act.put, List.setIfInBounds_toArray, List.set_cons_zero, List.set_cons_succ]
   refine wpAnyL_pure (i := 3) (oi := ⟨some 58, _, _, _, _, none⟩) (v := ?v3k7) rfl (by kernel_rfl) (by kernel_rfl) (by kernel_rfl) (by kernel_rfl) (by kernel_rfl) (fun _ _ _ h => h) (Or.inl ⟨by rfl, ?h3k7⟩) (by assumption) ?r3k7
   case h3k7 => (intro w hSw; clear hSw; go_simp; try with_reducible rfl)
   try simp only [Act.put, List.setIfInBounds_toArray, List.set_cons_zero, List.set_cons_succ]
   refine wpAnyL_take (i := 4) (oi := ⟨some 59, _, _, _, _, none⟩) (v := ?v4k7) rfl (by kernel_rfl) (by kernel_rfl) (by kernel_rfl) (by kernel_rfl) (by kernel_rfl) (by kernel_rfl) (fun _ _ _ h => h) (Or.inl ⟨by rfl, ?h4k7⟩) (by assumption) ?r4k7
   case h4k7 => (intro w hSw; (try dsimp only at hSw); go_simp; try with_reducible rfl)
   try simp only [Act.put, List.setIfInBounds_toArray, List.set_cons_zero, List.set_cons_succ]
   refine wpAnyL_pure (i := 5) (oi := ⟨some 60, _, _, _, _, none⟩) (v := ?v5k7) rfl (by kernel_rfl) (by kernel_rfl) (by kernel_rfl) (by kernel_rfl) (by kernel_rfl) (fun _ _ _ h => h) (Or.inl ⟨by rfl, ?h5k7⟩) (by assumption) ?r5k7
   case h5k7 => (intro w hSw; clear hSw; go_simp; try with_reducible rfl)
   try simp only [Act.put, List.setIfInBounds_toArray, List.set_cons_zero, List.set_cons_succ]
   refine wpAnyL_pure (i := 6) (oi := ⟨some 61, _, _, _, _, none⟩) (v := ?v6k7) rfl (by kernel_rfl) (by kernel_rfl) (by kernel_rfl) (by kernel_rfl) (by kernel_rfl) (fun _ _ _ h => h) (Or.inl ⟨by rfl, ?h6k7⟩) (by assumption) ?r6k7
   case h6k7 => (intro w hSw; clear hSw; go_simp; try with_reducible rfl)
   try simp only [Act.put, List.setIfInBounds_toArray, List.set_cons_zero, List.set_cons_succ]
   refine wpAnyL_one (i := 7) (o := ⟨some 62, _, _, _, _, none⟩) (by kernel_rfl) rfl (fun K hK => ?_)
   go_simp
   refine hK.out _ _ (HY7.out _ ka) (fun hHeld => ?_)
   clear hK K
   try simp only [Act.put, List.setIfInBounds_toArray, List.set_cons_zero, List.set_cons_succ]
   refine wpAnyL_one (i := 8) (o := ⟨some 63, _, _, _, _, none⟩) (by kernel_rfl) rfl (fun K hK => ?_)
   refine stepInn rfl (.tmp 59) (.tmp 62) rfl w2.heap.size (.slice p3 Ti.length q3) Ti rfl hBa.inn g5 t.enc.length c5 t (HV7.out.keeps ka) (by have := ka.size; omega) (some ⟨wd.heap.size, 0, none⟩) 1 rfl HAT.out (by have := HLI.out; omega) ?_
   intro v8 w8 hv8 hg8 hr8
   have hb8 := hBa.boxI hg8
   have z3 := hb8.cell 3 (by simp)
   have zf := hb8.froz 3
   simp only [List.getElem_cons_succ, List.getElem_cons_zero] at z3
   obtain ⟨p8, q8, rfl, hq8, hx8⟩ := hv8.shape
   refine hK.out _ _ (z3) (fun hHeld => ?_)
   clear hK K
   try simp only [Act.put, List.setIfInBounds_toArray, List.set_cons_zero, List.set_cons_succ]
   refine wpAnyL_pure (i := 9) (oi := ⟨some 64, _, _, _, _, none⟩) (v := ?v9k7) rfl (by kernel_rfl) (by kernel_rfl) (by kernel_rfl) (by kernel_rfl) (by kernel_rfl) (fun _ _ _ h => h) (Or.inl ⟨by rfl, ?h9k7⟩) (by assumption) ?r9k7
   case h9k7 => (intro w hSw; clear hSw; go_simp; try with_reducible rfl)
   try simp only [Act.put, List.setIfInBounds_toArray, List.set_cons_zero, List.set_cons_succ]
   refine wpAnyL_pure (i := 10) (oi := ⟨some 65, _, _, _, _, none⟩) (v := ?v10k7) rfl (by kernel_rfl) (by kernel_rfl) (by kernel_rfl) (by kernel_rfl) (by kernel_rfl) (fun _ _ _ h => h) (Or.inl ⟨by rfl, ?h10k7⟩) (by assumption) ?r10k7
   case h10k7 => (intro w hSw; clear hSw; go_simp; try with_reducible rfl)
   try simp only [Act.put, List.setIfInBounds_toArray, List.set_cons_zero, List.set_cons_succ]
   refine wpAnyL_last (o := ⟨none, _, _, _, _, none⟩) (by kernel_rfl) rfl (of_decide_eq_true (by kernel_rfl)) (fun K hK => ?_)
   go_simp
   refine hK.out _ _ ?_
   clear hK K
   try simp only [Act.put, List.setIfInBounds_toArray, List.set_cons_zero, List.set_cons_succ]
   refine wpAnyL_done (by kernel_rfl) ?_ _
   refine NoPanic.normal ?_
   have hP := hBa.pushI hg8 hv8
   simp only [List.length_append, List.length_cons, List.length_nil, Nat.zero_add] at hP
   have HP7 := hid hP
   clear hP hb8 hv8 hBa z3 zf
   go_wp2_with fail
   go_roundw
   case rel => exact ⟨i + 1, _, _, by omega, by go_num, by rw [HTKi.out, List.map_append, List.map_cons, List.map_nil, HKD.out]; exact HP7.out⟩
   case measure => simp [intOf]; omega
  ·obtain rfl : i = sE.length := by omega
   have hlt' : ¬ ((sE.length : Int) < sE.length) := by omega
   rw [HTE.out] at h1 H1
   generalize wr = w5 at *
   obtain ⟨p2, q2, rfl, hq2, hx2⟩ := h1.kd.shapeV
   obtain ⟨p3, q3, rfl, hq3, hx3⟩ := h1.inn.shape
   rw [List.length_map] at h1 H1 hq2
   have hb1 := h1.box
   have HSE := hid HEL2.out.symm
   have HPV5 := hid (fun wz (t : Touch w5 wz (fun i => i = r)) => OwnS.strs (own_touch (HPV.out.keeps h1.kp) t (fun i e hi => type_ne hb1 (HPV.out.keeps h1.kp) (by decide) (k := i) (by rw [show i = r from hi]; rfl) e)) (by omega))
   have HKD5 : Hid (∀ wz, Touch w5 wz (fun i => i = r) → Ints wz (.slice p2 E.length q2) (E.map fun t => (t.kind : Int))) := hid (fun wz t => OwnI.ints (own_touch h1.kd t (fun i e hi => type_ne hb1 h1.kd (by decide) (k := i) (by rw [show i = r from hi]; rfl) e)) (by rw [List.length_map]; omega))
   have HIN5 := hid (fun wz (t : Touch w5 wz (fun i => i = r)) => h1.inn.touchR hb1 (by decide) (by decide) t)
   have HGT : Hid (∀ i (h : i < E.length), E[i] = E.getD i .fls) := hid (fun i h => by rw [List.getD_eq_getElem?_getD, List.getElem?_eq_getElem h]; rfl)
   have HLEN40 : Hid (∀ t ∈ E, t.enc.length ≤ 1000) := hid (fun t ht => by have := (HFN.out t ht).2; omega)
   have HSPR := hid (fun n (hn : n ≤ N) wz v4 vt T (h : Sp2 w5 wz r (.string lg) (.slice pp sE.length c3) (.slice p2 E.length q2) (.slice p3 E.length q3) v4 vt ((List.range n).map fun m => ((mskM E m : Nat) : Int)) T) =>
    (⟨by rw [HLG.out]; exact h.box.cell 0 (by simp), ⟨_, h.box.cell 1 (by simp), HPV5.out wz h.to⟩, ⟨_, h.box.cell 2 (by simp), HKD5.out wz h.to⟩, ⟨_, h.box.cell 4 (by simp), h.r4.ints (by simp; omega)⟩, HEL2.out.symm, h8, hL, by omega,
     fun t ht => (by obtain ⟨i, hi, rfl⟩ := List.getElem_of_mem ht; rw [HGT.out i hi]; exact HEC.out i hi), fun m _ => mskM_lt h8 m, fun m _ i hi hm => mskM_bit hi hm⟩ : SpR wz r L n E (mskM E) sE))
   have HTRU := hid (fun (i : Nat) (hi : i < E.length) (hm : isMo (E.getD i .fls) = true) (m : Nat) (hmm : m < 256) (v' : Value) (wz : World) (hz : Nds wz v' (below (E.getD i .fls)).enc) (hc : wz.cell? ⟨r, 1, none⟩ = some (.slice pp sE.length c3)) (t : Touch w5 wz (fun i => i = r)) =>
    l12True_any E sE HTT.out (fun t ht => (HFN.out t ht).1) h8 m hmm r _ (below (E.getD i .fls)) v' wz (subs_wf (HFN.out _ (getD_mem hi)).1 _ (below_sub hm (subs_self _))) (by have := subs_le _ (below_sub hm (subs_self (below (E.getD i .fls)))); have := (HFN.out _ (getD_mem hi)).2; omega) (HSUB.out i hi hm) hz hc (HPV5.out wz t))
   have hIB : ∀ i k, valB E k (below (E.getD i .fls)) = innB E i k := fun i k => rfl
   simp only [hIB] at HTRU
   clear hIB
   have h2 := Sp2.start h1
   have H2 := hid h2
   have hw25 : w2.heap.size ≤ w5.heap.size := h1.kp.size
   have hrlt : r < w5.heap.size := hb1.lt
   unfold maxLen at hx2 hx3
   clear h1 h2 hb1 hi hlt HEN HTK HTL
   simp only [List.getElem_cons_succ, List.getElem_cons_zero] at x1
   go_wp2_with fail
   go_loopw [9, 10] (fun vt t' wr => ∃ (t : Nat) (v4 : Value), t ≤ N ∧ t' = .int .i64 t ∧ Sp2 w5 wr r (.string lg) (.slice pp sE.length c3) (.slice p2 E.length q2) (.slice p3 E.length q3) v4 vt ((List.range t).map fun m => ((mskM E m : Nat) : Int)) (natI ((List.range t).filter (alwB L E)))) (fun _ t' _ => N - (intOf t').toNat)
   case atStart => exact ⟨0, _, by omega, rfl, H2.out⟩
   case round =>
    obtain ⟨t, v4, ht, rfl, h2⟩ := hrel
    rename_i vt _
    clear H2
    have x1 := h2.box.cell 1 (by simp)
    simp only [List.getElem_cons_succ, List.getElem_cons_zero] at x1
    have HO := hid (l01One_any (sE.length : Int) wr (by omega) (by omega))
    rw [HONE.out] at HO
    have H2 := hid h2
    obtain ⟨p4, q4, rfl, hq4, hx4⟩ := h2.r4.shapeV
    obtain ⟨pt, qt, rfl, hqt, hxt⟩ := h2.rt.shapeV
    rw [List.length_map, List.length_range] at *
    by_cases htN : t < N
    ·have htN' : (t : Int) < N := by omega
     have HM0 : Hid (mskT E t 0 = 0) := hid rfl
     have HMY := hid (fun i (h : (isMo (E.getD i .fls) && innB E i t) = true) => mskT_yes h)
     have HMN := hid (fun i (h : (isMo (E.getD i .fls) && innB E i t) = false) => mskT_no h)
     have HML := hid (fun i (h : i ≤ E.length) => Nat.lt_of_lt_of_le (mskT_lt E t i) (two8 (by omega : i ≤ 8)))
     have HME : Hid (mskT E t E.length = mskM E t) := hid rfl
     clear h2
     go_wp2_with fail
     refine HO.out.mono ?_; rintro e w' ⟨rfl, rfl⟩
     go_wp2_with fail
     generalize wr = wo at *
     go_loopw [11, 12] (fun mk i' wr => ∃ (i : Nat), i ≤ E.length ∧ i' = .int .i64 i ∧ mk = .int .i64 ((mskT E t i : Nat) : Int) ∧ Keeps wo wr) (fun _ i' _ => E.length - (intOf i').toNat)
     case atStart => exact ⟨0, by omega, rfl, by rw [HM0.out]; rfl, Keeps.refl wo⟩
     case round =>
      obtain ⟨i, hi, rfl, rfl, kq⟩ := hrel
      have H2q := hid (H2.out.keeps kq)
      have y3 := H2q.out.box.cell 3 (by simp)
      have y2 := H2q.out.box.cell 2 (by simp)
      have y1 := H2q.out.box.cell 1 (by simp)
      simp only [List.getElem_cons_succ, List.getElem_cons_zero] at y1 y2 y3
      by_cases hlt : i < E.length
      ·have hlt' : (i : Int) < E.length := by omega
       obtain ⟨b3, o3, x3, rfl, hx3c, hnd⟩ := (HIN5.out wr H2q.out.to).get i hlt HLEN40.out
       obtain ⟨_, _, e2, _, _, hat, _⟩ := HKD5.out wr H2q.out.to
       rw [List.length_map] at e2
       cases e2
       obtain ⟨b4, o4, rfl, hkc⟩ := hat.int i (by rw [List.length_map]; exact hlt)
       rw [List.getElem_map, HGT.out i hlt] at hkc
       rw [HGT.out i hlt] at hnd
       have HMYi := hid (HMY.out i)
       have HMNi := hid (HMN.out i)
       have hml := HML.out i hi
       have hml2 := HML.out (i + 1) (by omega)
       have hO2 := hid (l01One_any (i : Int) wr (by omega) (by omega))
       clear hat
       rcases el_case (HEC.out i hlt) with ⟨hm, hk⟩ | ⟨hm, hk, hkd, hx⟩
       ·rw [hk] at hkc
        have HMO := hid hm
        clear hm hk hnd
        go_wp2_with fail
        go_roundw
        case rel => exact ⟨i + 1, by omega, by go_num, by rw [HMNi.out (by rw [HMO.out]; rfl)], kq⟩
        case measure => simp [intOf]; omega
       ·obtain ⟨x, hx⟩ := hx
        rw [hx] at hnd
        have hnd2 : Nds wr x3 (below (E.getD i .fls)).enc := by simpa using hnd
        have HT := hid (HTRU.out i hlt hm t (by omega) x3 wr hnd2 y1 H2q.out.to)
        obtain ⟨px, nx, cx, rfl⟩ := hnd2.shape
        have hk0 : ¬ (E.getD i .fls).kind = 0 := by rcases hk with h | h <;> rw [h] <;> decide
        have HMO := hid hm
        clear hnd hnd2 hx hm hk hkd
        generalize (E.getD i .fls).kind = kd at *
        generalize hib : innB E i t = ib at *
        have HIB := hid hib; clear hib
        go_wp2_with fail
        refine HT.out.mono ?_; rintro e w3 ⟨rfl, k3⟩
        cases ib
        ·go_wp2_with fail
         go_roundw
         case rel => exact ⟨i + 1, by omega, by go_num, by rw [HMNi.out (by rw [HMO.out]; rfl)], kq.trans k3⟩
         case measure => simp [intOf]; omega
        ·have hO3 := hid (l01One_any (i : Int) w3 (by omega) (by omega))
         have hy := HMYi.out (by rw [HMO.out]; rfl)
         rw [hy] at hml2
         have HOR := hid (orN (mskT E t i) (2 ^ i) (by omega) (by have : 2 ^ i ≤ 2 ^ 8 := Nat.pow_le_pow_right (by omega) (by omega); omega))
         have HPW : Hid ((2 : Int) ^ ((i : Int)).toNat = ((2 ^ i : Nat) : Int)) := hid (by simp)
         rw [HPW.out] at hO3
         have HYY := hid hy
         clear hy hml2
         generalize mskT E t i = mi at *
         generalize 2 ^ i = pi at *
         go_wp2_with fail
         refine hO3.out.mono ?_; rintro e w4 ⟨rfl, rfl⟩
         go_wp2_with fail
         go_roundw
         case rel => exact ⟨i + 1, by omega, by go_num, by rw [HYY.out]; exact congrArg (Value.int .i64) HOR.out, kq.trans k3⟩
         case measure => simp [intOf]; omega
      ·obtain rfl : i = E.length := by omega
       have hlt' : ¬ ((E.length : Int) < E.length) := by omega
       rw [HME.out] at *
       have y4 := H2q.out.box.cell 4 (by simp)
       simp only [List.getElem_cons_succ, List.getElem_cons_zero] at y4
       have ka := (Keeps.refl wr).alloc (.cells #[.int .i64 ((mskM E t : Nat) : Int)] 2)
       have H2a := hid (H2q.out.keeps ka)
       have HMP : Hid (((List.range (t + 1)).map fun m => ((mskM E m : Nat) : Int)) = ((List.range t).map fun m => ((mskM E m : Nat) : Int)) ++ [((mskM E t : Nat) : Int)]) := hid (map_range_next _ t)
       have hbl : ((List.range t).map fun m => ((mskM E m : Nat) : Int)).length = t := by simp
       have HBL := hid hbl; clear hbl
       have hs5 : w5.heap.size ≤ wr.heap.size := H2q.out.to.size
       clear hi hlt HMY HMN HML
       generalize hMl : ((List.range t).map fun m => ((mskM E m : Nat) : Int)) = Ml at *
       generalize ((mskM E t : Nat) : Int) = mk at *
       go_wp2_with (at_builtin; refine appIL rfl _ _ rfl w5.heap.size _ Ml rfl H2a.out.r4 _ mk rfl (Ints.lit1 wr mk) (by simp; omega) (by have := HBL.out; omega) ?_; intro v7 w7 hv7 hg7 hr7 hn7; have hb7 := H2a.out.box4 hg7; have z4 := hb7.cell 4 (by simp); have zf := hb7.froz 4; simp only [List.getElem_cons_succ, List.getElem_cons_zero] at z4; obtain ⟨p7, q7, rfl, hq7, hx7⟩ := hv7.shapeV)
       have hP := H2a.out.push4 hg7 hv7 hn7
       simp only [List.length_append, List.length_cons, List.length_nil, Nat.zero_add] at hP
       rw [← HMP.out] at hP
       have HP := hid hP
       have HTY := hid (l12Type_any r L (t + 1) E (mskM E) sE t (by omega) _ (HSPR.out (t + 1) (by omega) _ _ _ _ hP))
       clear hP hb7 hv7 z4 zf hg7 hr7 hn7 ka hq7 hx7
       generalize w7.setCell ⟨r, 4, none⟩ (.slice p7 (Ml.length + 1) q7) = wB at *
       refine HTY.out.mono ?_; rintro e w8 ⟨rfl, k8⟩
       have HP8 := hid (HP.out.keeps k8)
       cases hal : alwB L E t
       ·have HFT : Hid ((List.range (t + 1)).filter (alwB L E) = (List.range t).filter (alwB L E)) := hid (by rw [range_take, if_neg (by rw [hal]; simp), List.append_nil])
        clear hal
        go_wp2_with fail
        go_roundw
        case rel => exact ⟨t + 1, _, by omega, by go_num, by rw [HFT.out]; exact HP8.out⟩
        case measure => simp [intOf]; omega
       ·have HFT : Hid ((List.range (t + 1)).filter (alwB L E) = (List.range t).filter (alwB L E) ++ [t]) := hid (by rw [range_take, if_pos hal])
        have HTL : Hid ((natI ((List.range t).filter (alwB L E))).length ≤ 256) := hid (by
         have := List.length_filter_le (alwB L E) (List.range t)
         simp [natI] at *; omega)
        clear hal
        generalize hNl : natI ((List.range t).filter (alwB L E)) = Nl at *
        have HNL := hid hNl; clear hNl
        have ka := (Keeps.refl w8).alloc (.cells #[.int .i64 t] 2)
        have H8a := hid (HP8.out.keeps ka)
        have hs8 : w5.heap.size ≤ w8.heap.size := HP8.out.to.size
        go_wp2_with (at_builtin; refine appIL rfl _ _ rfl w5.heap.size _ Nl rfl H8a.out.rt _ (t : Int) rfl (Ints.lit1 w8 t) (by simp; omega) (by have := HTL.out; omega) ?_; intro v9 w9 hv9 hg9 hr9 hn9; have hP9 := H8a.out.pushT hg9 hv9 hn9)
        have HP9 := hid hP9
        clear hP9 hv9 hg9 hr9 hn9
        go_roundw
        case rel => exact ⟨t + 1, _, by omega, by go_num, by rw [HFT.out, natI_map, HNL.out]; exact HP9.out⟩
        case measure => simp [intOf]; omega
    ·obtain rfl : t = N := by omega
     have htN' : ¬ ((t : Int) < t) := by omega
     have HSP := hid (HSPR.out t (Nat.le_refl _) wr _ _ _ h2)
     have HL0 := hid h2.rt
     have HST := hid (fun wz (kz : Keeps wr wz) l (hl : ∀ x ∈ l, x < t) v m (hm : m < t) (hv : Ints wz v (natI l)) => l12Stays_any r L t E (mskM E) sE l hl v m hm wz (HSP.out.keeps kz) hv)
     clear h2
     go_wp2_with fail
     refine HO.out.mono ?_; rintro e w' ⟨rfl, rfl⟩
     go_wp2_with fail
     generalize wr = w8 at *
     have hs58 : w5.heap.size ≤ w8.heap.size := H2.out.to.size
     have HRS := hid (RndS.start L E t)
     go_loopw [9] (fun vt wr => ∃ (l : List Nat), RndS L E t l ∧ OwnI wr w5.heap.size vt (natI l) ∧ Keeps w8 wr) (fun vt _ => lenV vt)
     case atStart => exact ⟨_, HRS.out, HL0.out, Keeps.refl _⟩
     case round =>
      obtain ⟨l, hrs, ho, kw⟩ := hrel
      rename_i vt0 _
      clear HRS HL0
      obtain ⟨pt, qt, rfl, hqt, hxt⟩ := ho.shapeV
      have hnl : (natI l).length = l.length := by simp [natI]
      rw [hnl] at ho hqt ⊢
      have hll := hrs.len
      have HRS := hid hrs
      have HO2 := hid ho
      have HLT := hid hrs.lt
      have hE0 := OwnI.empty wr
      have kA1 := (Keeps.refl wr).alloc (.cells #[] 2)
      have HE0 := hid hE0
      have HNZ : Hid (natI ((l.take 0).filter (stayB L E l)) = []) := hid (by simp [natI])
      have HNY : Hid (∀ k (h : k < l.length), stayB L E l l[k] = true → (l.take (k + 1)).filter (stayB L E l) = (l.take k).filter (stayB L E l) ++ [l[k]]) := hid (fun k h hs => by rw [filter_take _ _ _ h, if_pos hs])
      have HNN : Hid (∀ k (h : k < l.length), stayB L E l l[k] = false → (l.take (k + 1)).filter (stayB L E l) = (l.take k).filter (stayB L E l)) := hid (fun k h hs => by rw [filter_take _ _ _ h, if_neg (by rw [hs]; simp), List.append_nil])
      have HNL : Hid (∀ k, (natI ((l.take k).filter (stayB L E l))).length ≤ l.length) := hid (fun k => by
       have h1 := List.length_filter_le (stayB L E l) (l.take k)
       rw [List.length_take] at h1
       simp [natI]; omega)
      have HNE : Hid ((l.take l.length).filter (stayB L E l) = l.filter (stayB L E l)) := hid (by rw [List.take_length])
      clear hrs ho hE0 hnl
      generalize wr = wo at *
      go_wp2_with fail
      go_loopw [13, 14] (fun o k' wr => ∃ k : Nat, k ≤ l.length ∧ k' = .int .i64 k ∧ OwnI wr wo.heap.size o (natI ((l.take k).filter (stayB L E l))) ∧ Keeps wo wr) (fun _ k' _ => l.length - (intOf k').toNat)
      case atStart => exact ⟨0, by omega, rfl, by rw [HNZ.out]; exact HE0.out, kA1⟩
      case round =>
       obtain ⟨k, hk, rfl, hown, kq⟩ := hrel
       clear HE0 kA1
       have HVT := hid ((HO2.out.keeps kq).ints (by simp [natI]; omega))
       by_cases hkl : k < l.length
       ·have hkl' : (k : Int) < l.length := by omega
        obtain ⟨_, _, e0, _, _, hat, _⟩ := HVT.out
        simp only [Value.slice.injEq] at e0
        obtain ⟨rfl, -, rfl⟩ := e0
        obtain ⟨b3, o3, rfl, e3⟩ := hat.int k (by simpa [natI] using hkl)
        rw [show (natI l)[k]'(by simpa [natI] using hkl) = ((l[k] : Nat) : Int) by simp [natI]] at e3
        have HS := hid (HST.out wr (kw.trans kq) l HLT.out _ l[k] (HLT.out _ (List.getElem_mem hkl)) HVT.out)
        have HYk := hid (HNY.out k hkl)
        have HNk := hid (HNN.out k hkl)
        have hnk := HNL.out k
        clear hat
        generalize l[k] = lk at *
        generalize hst : stayB L E l lk = st at *
        have HSTK := hid hst; clear hst
        generalize hnl : natI ((l.take k).filter (stayB L E l)) = nl at *
        have HNLQ := hid hnl; clear hnl
        go_wp2_with fail
        refine HS.out.mono ?_; rintro e w3 ⟨rfl, k3⟩
        have e4 := k3.cell e3
        cases st
        ·go_wp2_with fail
         go_roundw
         case rel => exact ⟨k + 1, by omega, by go_num, by rw [HNk.out (by trivial), HNLQ.out]; exact hown.keeps k3, kq.trans k3⟩
         case measure => simp [intOf]; omega
        ·have hsq := kq.size
         have hs3 := k3.size
         go_wp2_with (at_builtin; refine appI rfl _ _ rfl wo.heap.size _ nl rfl ((hown.keeps k3).keeps ((Keeps.refl w3).alloc _)) _ [(lk : Int)] rfl (Ints.lit1 w3 lk) (by simp; omega) (by simp; omega) ?_; intro v7 w7 hv7 hg7 hr7; have k7 := ((kq.trans k3).alloc (.cells #[.int .i64 lk] 2)).grown hg7 (fun q hq => hr7 q hq))
         go_roundw
         case rel => exact ⟨k + 1, by omega, by go_num, by rw [HYk.out (by trivial), natI_map, HNLQ.out]; exact hv7, k7⟩
         case measure => simp [intOf]; omega
       ·obtain rfl : k = l.length := by omega
        have hkl' : ¬ ((l.length : Int) < l.length) := by omega
        rw [HNE.out] at hown
        obtain ⟨p9, q9, rfl, hq9, hx9⟩ := hown.shapeV
        have hn9 : (natI (l.filter (stayB L E l))).length = (l.filter (stayB L E l)).length := by simp [natI]
        rw [hn9] at hown hq9 ⊢
        have HON := hid hown
        by_cases he : (l.filter (stayB L E l)).length = l.length
        ·have HDN := hid (HRS.out.done he)
         have H2f := H2.out.keeps (kw.trans kq)
         have hb := H2f.box
         have xf := hb.froz 5
         have x5 := hb.cell 5 (by simp)
         simp only [List.getElem_cons_succ, List.getElem_cons_zero] at x5
         have HF := hid H2f
         have HVO := hid (HO2.out.keeps kq)
         rw [he]
         have HE := hid he
         clear he hown H2f hn9 hb hkl hk HNY HNN HNL HNE HLT
         go_wp2_with fail
         go_ret
         have hb := HF.out.box
         have hb5 := hb.set 5 (.slice pt l.length qt)
         have hto := HF.out.to.ofBox (i := 5) (x := .slice pt l.length qt) hb rfl
         refine ⟨r, rfl, ?_, by omega, _, _, _, _, _, _, ⟨hb5, by rw [HLG.out], fun w' t' => HPV5.out w' (hto.trans t'), fun w' t' => HKD5.out w' (hto.trans t'), fun w' t' => ?_, fun w' t' => ?_⟩⟩
         ·exact (((kA.trans k2).trans H1.out.kp).touch hto (fun i hi => by have : i = r := hi; omega))
         ·exact OwnI.ints (own_touch (own_boxed HF.out.r4 hb (by decide)) t' (fun i e hi => type_ne hb5 (own_boxed HF.out.r4 hb (by decide)) (by decide) (k := i) (by rw [show i = r from hi]; rfl) e)) (by simp; omega)
         ·rw [← HDN.out]
          exact OwnI.ints (own_touch (own_boxed HVO.out hb (by decide)) t' (fun i e hi => type_ne hb5 (own_boxed HVO.out hb (by decide)) (by decide) (k := i) (by rw [show i = r from hi]; rfl) e)) (by simp [natI]; omega)
        ·have HLS := hid (RndS.less he)
         have he' : ¬ (((l.filter (stayB L E l)).length : Int) = l.length) := by omega
         have hso := kw.size
         clear hown hn9 hkl hk HNY HNN HNL HNE HLT he
         go_wp2_with fail
         go_roundw
         case rel => exact ⟨_, HRS.out.next, HON.out.mono (by omega), kw.trans kq⟩
         case measure => simpa [lenV] using HLS.out
end Go.Proofs.YtkkcfifnkcnceaaGreat
