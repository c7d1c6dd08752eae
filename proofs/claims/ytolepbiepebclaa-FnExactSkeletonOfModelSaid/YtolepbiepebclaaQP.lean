/- The skeleton of a model: the reference's side. -/
import Derived.Test.YtolepbiepebclaaQO
import Derived.Deep.RegionLaw
namespace Go.Proofs.Ytolepbiepebclaa
open Go.RowKit
theorem own_ne {w : World} {B : Nat} {v : Value} {a : List Int} (h : OwnI w B v a) {k : Nat} {cs : Array Value} {t : TypeId} {fr : Nat × Nat} (hb : w.heap[k]? = some (.cells cs t fr)) (ht : t ≠ 2) : some k ≠ v.ownBlock := by
  rcases h.2 with ⟨rfl, _⟩ | ⟨g, cap, cur, rfl, _, hg, _⟩
  · intro e; cases e
  · intro e
    have e2 : k = g := by injection e
    subst e2
    rw [hb] at hg
    injection hg with hg
    injection hg with _ h2 _
    exact ht h2
theorem cell_block {w : World} {g : Nat} {cs : Array Value} {t : TypeId} {fr : Nat × Nat} (h : w.heap[g]? = some (.cells cs t fr)) (i : Nat) : w.cell? ⟨g, i, none⟩ = cs[i]? := by simp [World.cell?, h]
--
set_option maxRecDepth 20000 in
set_option maxHeartbeats 4000000 in
theorem specSkeleton_any (n : Int) (a vs : List Int) (v u : Value) (w : World) (hv : Ints w v a) (hu : Ints w u vs) :
    Calls Try.prog 18 #[.agg #[.int .i64 n, v, u]] w (RetSk w (skP n a vs) (skV n a vs) (skC n a vs) (skE n a vs)) := by
  have kA := ((Keeps.refl w).alloc (.cells #[.int .i64 n, v, u] 29)).alloc (.cells #[.int .i64 0, .slice none 0 0] 32)
  have HP := hid (l06Is_any n a vs v u _ (hv.keeps kA) (hu.keeps kA))
  obtain ⟨c0, c1, c2⟩ := (BoxM.made w n v u 29).keeps ((Keeps.refl _).alloc (.cells #[.int .i64 0, .slice none 0 0] 32))
  cases h1 : isMod n a vs
  · rw [h1] at HP
    simp only [skP, skV, skC, skE, skOk, h1, Bool.false_and, Bool.false_eq_true, if_false]
    clear h1
    obtain ⟨p, cap, rfl, _⟩ := hv
    obtain ⟨q, cap2, rfl, _⟩ := hu
    go_enter Try.func18, Try.ntmps18
    go_wp2_with fail
    refine HP.out.mono ?_; rintro e w2 ⟨rfl, k2⟩
    have e0 : w2.cell? ⟨w.heap.size + 1, 0, none⟩ = some (.int .i64 0) := k2.cell (by simp)
    have e1 : w2.cell? ⟨w.heap.size + 1, 1, none⟩ = some (.slice none 0 0) := k2.cell (by simp)
    obtain ⟨hc2, hf2⟩ := k2.both
    go_wp2_with fail
    refine bodyPost_ret (v := .tuple #[.agg #[.int .i64 0, .slice none 0 0], .slice none 0 0, .slice none 0 0, .int .i64 1]) (by simp [results, Try.results18, go_sem, e0, e1]) rfl ?_
    exact ⟨_, _, _, rfl, OwnI.nil _ _, OwnI.nil _ _, OwnI.nil _ _, Sep.nil _, Sep.nil _, Sep.nil _, ((kA.trans k2).setCell (by simp) _).setCell (by simp) _⟩
  · rw [h1] at HP
    have h1' := h1
    unfold isMod at h1'
    rw [Bool.and_eq_true, Bool.and_eq_true, decide_eq_true_eq] at h1'
    obtain ⟨hfr, h6, hall⟩ := h1'
    obtain ⟨b, rfl, rfl, h8, hbm⟩ := (isFra_iff n a).1 hfr
    rw [zs_length] at hall
    obtain ⟨c, rfl, hc⟩ := all_masks hall
    rw [zs_length] at h6
    have H0 := hid (fun w1 (k : Keeps w w1) => l05Flag0_any b v w1 (hv.keeps k) h8 hbm)
    have H2 := hid (fun w1 (k : Keeps w w1) => l05Flag2_any b v w1 (hv.keeps k) h8 hbm)
    simp only [skP, skV, skC, skE, skOk, h1, Bool.true_and, zs_toNat, if_true]
    have hpre : preB b = (reflB b && transB b) := rfl
    clear h1 hfr hall
    cases hr : reflB b
    · rw [hr] at H0 hpre
      simp only [hpre, Bool.false_and, Bool.false_eq_true, if_false]
      obtain ⟨p, cap, rfl, _⟩ := hv
      obtain ⟨q, cap2, rfl, _⟩ := hu
      rw [zs_length] at *
      clear hbm hr hpre hc
      go_enter Try.func18, Try.ntmps18
      go_wp2_with fail
      refine HP.out.mono ?_; rintro e w2 ⟨rfl, k2⟩
      have z0 := k2.cell c0
      have z1 := k2.cell c1
      go_wp2_with fail
      refine (H0.out _ (kA.trans k2)).mono ?_; rintro e w3 ⟨rfl, k3⟩
      have k23 := k2.trans k3
      have e0 : w3.cell? ⟨w.heap.size + 1, 0, none⟩ = some (.int .i64 0) := k23.cell (by simp)
      have e1 : w3.cell? ⟨w.heap.size + 1, 1, none⟩ = some (.slice none 0 0) := k23.cell (by simp)
      obtain ⟨hc2, hf2⟩ := k23.both
      go_wp2_with fail
      refine bodyPost_ret (v := .tuple #[.agg #[.int .i64 0, .slice none 0 0], .slice none 0 0, .slice none 0 0, .int .i64 5]) (by simp [results, Try.results18, go_sem, e0, e1]) rfl ?_
      exact ⟨_, _, _, rfl, OwnI.nil _ _, OwnI.nil _ _, OwnI.nil _ _, Sep.nil _, Sep.nil _, Sep.nil _, ((kA.trans k23).setCell (by simp) _).setCell (by simp) _⟩
    · cases ht : transB b
      · rw [hr] at H0
        rw [ht] at H2
        rw [hr, ht] at hpre
        simp only [hpre, Bool.and_false, Bool.false_eq_true, if_false]
        obtain ⟨p, cap, rfl, _⟩ := hv
        obtain ⟨q, cap2, rfl, _⟩ := hu
        rw [zs_length] at *
        clear hbm hr ht hpre hc
        go_enter Try.func18, Try.ntmps18
        go_wp2_with fail
        refine HP.out.mono ?_; rintro e w2 ⟨rfl, k2⟩
        have z0 := k2.cell c0
        have z1 := k2.cell c1
        go_wp2_with fail
        refine (H0.out _ (kA.trans k2)).mono ?_; rintro e w3 ⟨rfl, k3⟩
        have y0 := k3.cell z0
        have y1 := k3.cell z1
        clear z0 z1
        go_wp2_with fail
        refine (H2.out _ (kA.trans (k2.trans k3))).mono ?_; rintro e w4 ⟨rfl, k4⟩
        have k23 := k2.trans (k3.trans k4)
        have e0 : w4.cell? ⟨w.heap.size + 1, 0, none⟩ = some (.int .i64 0) := k23.cell (by simp)
        have e1 : w4.cell? ⟨w.heap.size + 1, 1, none⟩ = some (.slice none 0 0) := k23.cell (by simp)
        obtain ⟨hc2, hf2⟩ := k23.both
        go_wp2_with fail
        refine bodyPost_ret (v := .tuple #[.agg #[.int .i64 0, .slice none 0 0], .slice none 0 0, .slice none 0 0, .int .i64 5]) (by simp [results, Try.results18, go_sem, e0, e1]) rfl ?_
        exact ⟨_, _, _, rfl, OwnI.nil _ _, OwnI.nil _ _, OwnI.nil _ _, Sep.nil _, Sep.nil _, Sep.nil _, ((kA.trans k23).setCell (by simp) _).setCell (by simp) _⟩
      · have HCL := hid (fun w1 (k : Keeps w w1) => l05Clusters_any b v w1 (hv.keeps k) h8 hbm hr ht)
        have HQ := hid (fun u1 w1 (k : Keeps w w1) (h : Ints w1 u1 (zs (clB b))) => l21Quotient_any b b.length v u1 w1 (hv.keeps k) h h8 hbm)
        have HBX := hid (fun m w1 (k : Keeps w w1) (hm : m < 256) => l01Box_any b m v w1 (hv.keeps k) h8 hbm hm)
        have hcl := clB_len b
        have HMM := hid (fun m u1 w1 (hm : m < 2 ^ b.length) (h : Ints w1 u1 (zs (clB b))) => l21Images_any (clB b) m u1 w1 h (by rw [hcl]; exact h8) (clB_lt8 h8) (by rw [hcl]; exact hm))
        have hu0 := hu
        have h256 := two8 h8
        have HCM : Hid (∀ i, c.getD i 0 < 256) := hid (fun i => Nat.lt_of_lt_of_le (hc i) h256)
        have HBB := hid (fun m => boxB_lt b m b.length)
        have HST := hid (fun i (hi : i < c.length) => map_take_succ (f := skM b) hi)
        have HSK : Hid (∀ m, skM b m = mapM (clB b) (boxB b m b.length)) := hid (fun _ => rfl)
        have HEND : Hid ((c.take 6).map (skM b) = c.map (skM b)) := hid (by rw [List.take_of_length_le (by omega)])
        have HLN := hid (fun i (hi : i ≤ 6) => show (zs ((c.take i).map (skM b))).length = i by rw [zs_length, List.length_map, List.length_take]; omega)
        have hQL : (qL b b.length).length ≤ 8 := by rw [qL_len]; have := clS_le b b.length; omega
        rw [hr] at H0
        rw [ht] at H2
        rw [hr, ht] at hpre
        simp only [hpre, Bool.and_self, if_true]
        obtain ⟨p, cap, rfl, _, hmx, _⟩ := hv
        obtain ⟨q, cap2, rfl, _, hmx2, _⟩ := hu
        unfold maxLen at hmx hmx2
        have HC := hid (fun i (hi : i < c.length) (w1 : World) (k : Keeps w w1) => (hu0.keeps k).zs_cell i hi)
        clear hu0
        rw [zs_length c] at *
        rw [zs_length b] at *
        rw [h6] at *
        clear hbm hr ht hpre hc h6
        go_enter Try.func18, Try.ntmps18
        go_wp2_with fail
        refine HP.out.mono ?_; rintro e w2 ⟨rfl, k2⟩
        have z0 := k2.cell c0
        have z1 := k2.cell c1
        go_wp2_with fail
        refine (H0.out _ (kA.trans k2)).mono ?_; rintro e w3 ⟨rfl, k3⟩
        have y0 := k3.cell z0
        have y1 := k3.cell z1
        clear z0 z1
        go_wp2_with fail
        refine (H2.out _ (kA.trans (k2.trans k3))).mono ?_; rintro e w4 ⟨rfl, k4⟩
        have k24 := k2.trans (k3.trans k4)
        have z0 := k4.cell y0
        have z1 := k4.cell y1
        clear y0 y1
        go_wp2_with fail
        refine (HCL.out _ (kA.trans k24)).mono ?_; rintro e w5 ⟨vc, rfl, hvc, k5⟩
        have k25 := k24.trans k5
        have y0 := k5.cell z0
        have y1 := k5.cell z1
        obtain ⟨pc, mc, qc, rfl⟩ := hvc.shape0
        have HVC := hid hvc
        have hvi := hvc.ints (by rw [zs_length, hcl]; omega)
        have HVI := hid hvi
        clear hvi hvc z0 z1
        go_wp2_with fail
        refine (HQ.out _ _ (kA.trans k25) HVI.out).mono ?_; rintro e w6 ⟨vq, rfl, hvq, k6⟩
        rw [zs_length]
        obtain ⟨pq, mq, qq, rfl⟩ := hvq.shape0
        have hs2 : Sep (.slice pq mq qq) (.slice pc mc qc) := Sep.symm (Sep.of HVC.out hvq (Nat.le_refl _))
        have HVQ := hid hvq
        clear hvq y0 y1
        have k26 := k25.trans k6
        have k56 := k6.alloc (.cells #[] 2)
        have k5b := k56.alloc (.cells #[.int .i64 (qL b b.length).length, .slice pq mq qq] 32)
        have y1 := (k25.trans k5b).cell c1
        have y2 := (k25.trans k5b).cell c2
        have kb1 := ((Keeps.refl w6).alloc (.cells #[] 2)).alloc (.cells #[.int .i64 (qL b b.length).length, .slice pq mq qq] 32)
        have g0 : ((w6.alloc (.cells #[] 2)).alloc (.cells #[.int .i64 (qL b b.length).length, .slice pq mq qq] 32)).cell? ⟨w6.heap.size + 1, 0, none⟩ = some (.int .i64 (qL b b.length).length) := by simp
        have g1 : ((w6.alloc (.cells #[] 2)).alloc (.cells #[.int .i64 (qL b b.length).length, .slice pq mq qq] 32)).cell? ⟨w6.heap.size + 1, 1, none⟩ = some (.slice pq mq qq) := by simp
        have hE := (OwnI.empty w6).keeps ((Keeps.refl (w6.alloc (.cells #[] 2))).alloc (.cells #[.int .i64 (qL b b.length).length, .slice pq mq qq] 32))
        have HE := hid hE; clear hE
        go_wp2_with fail
        have hbk : ((w6.alloc (.cells #[] 2)).alloc (.cells #[.int .i64 (qL b b.length).length, .slice pq mq qq] 32)).heap[w6.heap.size + 1]? = some (.cells #[.int .i64 (qL b b.length).length, .slice pq mq qq] 32) := by
          have := heap_alloc_new (w6.alloc (.cells #[] 2)) (.cells #[.int .i64 (qL b b.length).length, .slice pq mq qq] 32)
          simpa using this
        have HBK := hid hbk; clear hbk
        clear g0 g1 y1 y2 k5b k56
        go_loopw [8, 9] (fun o i' wr => ∃ i : Nat, i ≤ 6 ∧ i' = .int .i64 i ∧ OwnI wr w6.heap.size o (zs ((c.take i).map (skM b))) ∧ Keeps w6 wr ∧ wr.heap[w6.heap.size + 1]? = some (.cells #[.int .i64 (qL b b.length).length, .slice pq mq qq] 32)) (fun _ i' _ => 6 - (intOf i').toNat)
        case atStart => exact ⟨0, by omega, rfl, by simpa [zs] using HE.out, kb1, HBK.out⟩
        case round =>
          obtain ⟨i, hi, rfl, hown, kw, hbl⟩ := hrel
          clear HBK HE kb1
          have HBL := hid hbl; clear hbl
          have x1 := (k26.trans kw).cell c1
          have x2 := (k26.trans kw).cell c2
          by_cases hlt : i < 6
          · have hlt' : (i : Int) < 6 := by omega
            obtain ⟨b2, o2, rfl, h2⟩ := HC.out i (by first | exact hlt | omega) wr (kA.trans (k26.trans kw))
            have hci := HCM.out i
            have HB := hid (fun wz (k' : Keeps wr wz) => HBX.out (c.getD i 0) wz (kA.trans ((k26.trans kw).trans k')) hci)
            have HM := hid (fun wz (k' : Keeps wr wz) => HMM.out (boxB b (c.getD i 0) b.length) _ wz (HBB.out _) (HVI.out.keeps (k6.trans (kw.trans k'))))
            have hst := HST.out i (by first | exact hlt | omega)
            rw [HSK.out] at hst
            have HSTi := hid hst; clear hst
            have hll := HLN.out i hi
            have hB0 := kw.size
            have HO := hid hown; clear hown
            generalize mapM (clB b) (boxB b (c.getD i 0) b.length) = M at *
            generalize boxB b (c.getD i 0) b.length = X at *
            generalize c.getD i 0 = ci at *
            generalize hL : zs ((c.take i).map (skM b)) = L at *
            have HL := hid hL; clear hL
            have kr1 := (Keeps.refl wr).drew
            have HAP := hid (fun (w9 v1 : _) (w10 : World) (hk : Keeps wr w9) (hg1 : w9.grownBy w10 (Value.ownBlock v1)) (ho : OwnI w9 w6.heap.size v1 L) => show w10.heap[w6.heap.size + 1]? = some (.cells #[.int .i64 (qL b b.length).length, .slice pq mq qq] 32) by
              have h9 : w9.heap[w6.heap.size + 1]? = some (.cells #[.int .i64 (qL b b.length).length, .slice pq mq qq] 32) := (hk.block (Array.getElem?_eq_some_iff.1 HBL.out).1).trans HBL.out
              exact (hg1.block _ (Array.getElem?_eq_some_iff.1 h9).1 (own_ne ho h9 (by decide))).trans h9)
            go_wp2_with fail
            go_region_law (first | (go_simp; go_at_call 39; refine (HB.out _ kr1).mono ?_; rintro e w7 ⟨rfl, k7⟩) | (go_simp; go_at_call 38; refine (HM.out _ (kr1.trans k7)).mono ?_; rintro e w8 ⟨rfl, k8⟩; have k78 := kr1.trans (k7.trans k8)) | (refine stepI rfl _ _ rfl w6.heap.size _ L rfl (HO.out.keeps (k78.alloc _)) _ [(M : Int)] rfl (Ints.lit1 w8 M) (by have h1 := k78.size; simp; omega) (by simp; omega) ?_; intro v1 w9 hv1 hg1 hr1))
            all_goals
              have k9 := ((kw.trans k78).alloc (.cells #[.int .i64 M] 2)).grown hg1 (by simpa using hr1)
              have hb9 := HAP.out _ _ _ (k78.alloc _) hg1 (HO.out.keeps (k78.alloc _))
              have HB9 := hid hb9; clear hb9
              go_wp2_with fail
              go_roundw
              case rel => exact ⟨i + 1, by omega, by go_num, by rw [HSTi.out, zs_snoc, HL.out]; exact hv1, k9, HB9.out⟩
              case measure => simp [intOf]; omega
          · obtain rfl : i = 6 := by omega
            have hlt' : ¬ ((6 : Nat) : Int) < 6 := by omega
            rw [HEND.out] at hown
            have HO := hid hown; clear hown
            obtain ⟨po, mo, qo, rfl⟩ := HO.out.shape0
            have g0 : wr.cell? ⟨w6.heap.size + 1, 0, none⟩ = some (.int .i64 (qL b b.length).length) := by rw [cell_block HBL.out]; rfl
            have g1 : wr.cell? ⟨w6.heap.size + 1, 1, none⟩ = some (.slice pq mq qq) := by rw [cell_block HBL.out]; rfl
            have kall := k26.trans kw
            have e0 : wr.cell? ⟨w.heap.size + 1, 0, none⟩ = some (.int .i64 0) := kall.cell (by simp)
            have e1 : wr.cell? ⟨w.heap.size + 1, 1, none⟩ = some (.slice none 0 0) := kall.cell (by simp)
            obtain ⟨hc2, hf2⟩ := kall.both
            have hs1 : Sep (.slice pq mq qq) (.slice po mo qo) := Sep.of HVQ.out HO.out (Nat.le_refl _)
            have hs3 : Sep (.slice po mo qo) (.slice pc mc qc) := Sep.symm (Sep.of HVC.out HO.out k6.size)
            have r0 := HVQ.out.keeps kw
            have r1 := HO.out
            have r2 := HVC.out.keeps (k6.trans kw)
            have s1 := kw.size
            have s2 := k5.size
            have s3 := k24.size
            have s4 := k6.size
            simp at s3
            clear x1 x2
            go_wp2_with fail
            refine bodyPost_ret (v := .tuple #[.agg #[.int .i64 (qL b b.length).length, .slice pq mq qq], .slice po mo qo, .slice pc mc qc, .int .i64 0]) (by simp [results, Try.results18, go_sem, e0, e1]) rfl ?_
            exact ⟨_, _, _, by rw [zs_length], ((r0.setBelow (by omega) _).setBelow (by omega) _).mono (by omega), ((r1.setBelow (by omega) _).setBelow (by omega) _).mono (by omega), ((r2.setBelow (by omega) _).setBelow (by omega) _).mono (by omega), hs1, hs2, hs3, ((kA.trans kall).setCell (by simp) _).setCell (by simp) _⟩
end Go.Proofs.Ytolepbiepebclaa
