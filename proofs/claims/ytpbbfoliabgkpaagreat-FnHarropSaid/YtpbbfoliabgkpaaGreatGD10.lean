/- The laws' dice; formulas that are held against each other. -/
import Derived.Test.YtpbbfoliabgkpaaGreatGD4
import Derived.Test.YtpbbfoliabgkpaaGreatGD6
import Derived.Test.YtpbbfoliabgkpaaGreatGYB
import Derived.Test.YtpbbfoliabgkpaaGreatGPH
import Derived.Test.YtpbbfoliabgkpaaGreatGY6
import Derived.Test.YtpbbfoliabgkpaaGreatGM1
namespace Go.Proofs.YtpbbfoliabgkpaaGreat
open Go.RowKit
--
set_option maxRecDepth 20000 in
set_option maxHeartbeats 1000000 in
theorem below_any (n : Int) (B : Nat) (w : World) (hs : Src w B) (hn : n ≤ 1000000) : Calls Tryz.prog 33 #[.pointer (some ⟨B, 0, none⟩), .int .i64 n] w fun e w' => ∃ r : Nat, e = .returned (.int .i64 r) ∧ ((r : Int) < n ∨ r = 0) ∧ Dr B w w' := by
  by_cases h1 : n < 1
  · go_enter Tryz.func33, Tryz.ntmps33
    go_wp2
    go_ret
    exact ⟨0, rfl, .inr rfl, Dr.of hs (Keeps.refl w)⟩
  · obtain ⟨v, m, a, h, c0, c1, c2, f1, f2, ha, hb⟩ := hs
    obtain ⟨p, cap, rfl, hmc, hmx, hbt⟩ := hb
    unfold maxLen at hmx
    have HB := hid hbt
    go_enter Tryz.func33, Tryz.ntmps33
    go_wp2
    obtain ⟨y, hy, hyl⟩ := and24 (IntKind.u64.wrap (IntKind.u64.wrap (h * 6364136223846793005) + 1442695040888963407) / 8589934592)
    have hwy : wrap64 (y : Int) = y := by unfold wrap64; omega
    rw [hy, hwy]
    clear hy hwy
    generalize IntKind.u64.wrap (IntKind.u64.wrap (h * 6364136223846793005) + 1442695040888963407) = h2
    have t2 : Touch w (w.setCell ⟨B, 2, none⟩ (.int .u64 h2)) (fun i => i = B) := (Touch.grown (grown_set B 2 _)).mono (fun k e => by cases e; rfl)
    have d0 : (w.setCell ⟨B, 2, none⟩ (.int .u64 h2)).cell? ⟨B, 0, none⟩ = some (.slice p m cap) := by rw [World.cell?_setCell_other _ _ _ _ (by simp)]; exact c0
    have d1 : (w.setCell ⟨B, 2, none⟩ (.int .u64 h2)).cell? ⟨B, 1, none⟩ = some (.int .i64 a) := by rw [World.cell?_setCell_other _ _ _ _ (by simp)]; exact c1
    have d2 : (w.setCell ⟨B, 2, none⟩ (.int .u64 h2)).cell? ⟨B, 2, none⟩ = some (.int .u64 h2) := World.cell?_setCell_same _ _ _ c2
    have g1 : (w.setCell ⟨B, 2, none⟩ (.int .u64 h2)).frozen? ⟨B, 1, none⟩ = false := by simpa using f1
    have g2 : (w.setCell ⟨B, 2, none⟩ (.int .u64 h2)).frozen? ⟨B, 2, none⟩ = false := by simpa using f2
    have hb2 : BtsB (w.setCell ⟨B, 2, none⟩ (.int .u64 h2)) (.slice p m cap) m B := BtsB.touch ⟨p, cap, rfl, hmc, hmx, HB.out⟩ t2
    have T2 := hid t2; clear t2
    generalize w.setCell ⟨B, 2, none⟩ (.int .u64 h2) = w2 at *
    clear c0 c1 c2 f1 f2 hbt
    by_cases hlt : a < m
    · have hlt' : (a : Int) < m := by omega
      obtain ⟨b, off, x, rfl, hx, hx8, hbB⟩ : ∃ b off, ∃ x : Nat, p = some ⟨b, off, none⟩ ∧ w2.cell? ⟨b, off + a, none⟩ = some (.int .u8 x) ∧ x < 256 ∧ b < B := by
        obtain ⟨p', cap', e, _, _, h3⟩ := hb2
        cases e
        exact h3 a hlt
      go_quiet (fail)
      go_wp2_with fail
      go_quiet (fail)
      go_wp2_with fail
      go_ret
      have hr0 : 0 ≤ ((y : Int) + x) % n := Int.emod_nonneg _ (by omega)
      have hr1 : ((y : Int) + x) % n < n := Int.emod_lt_of_pos _ (by omega)
      have t3 : ∀ z, Touch w2 ((w2.drewN z).setCell ⟨B, 1, none⟩ (.int .i64 ((a : Int) + 1))) (fun i => i = B) := fun z => (Touch.of_keeps ((Keeps.refl w2).drewN z) _).trans ((Touch.grown (grown_set B 1 _)).mono (fun k e => by cases e; rfl))
      refine ⟨(((y : Int) + x) % n).toNat, ret_int (by omega), .inl (by omega), T2.out.trans (t3 _), _, m, a + 1, h2, ?_, ?_, ?_, ?_, ?_, by omega, hb2.touch (t3 _)⟩
      · rw [World.cell?_setCell_other _ _ _ _ (by simp)]; exact d0
      · refine (World.cell?_setCell_same _ _ _ (u := .int .i64 a) ?_).trans ?_
        · exact d1
        · simp
      · rw [World.cell?_setCell_other _ _ _ _ (by simp)]; exact d2
      · simpa using g1
      · simpa using g2
    · have hlt' : ¬ (a : Int) < m := by omega
      go_quiet (fail)
      go_wp2_with fail
      go_ret
      have hr0 : 0 ≤ (y : Int) % n := Int.emod_nonneg _ (by omega)
      have hr1 : (y : Int) % n < n := Int.emod_lt_of_pos _ (by omega)
      have t3 := Touch.of_keeps ((Keeps.refl w2).drewN nq) (fun i => i = B)
      exact ⟨((y : Int) % n).toNat, ret_int (by omega), .inl (by omega), T2.out.trans t3, _, m, a, h2, d0, d1, d2, g1, g2, ha, hb2.touch t3⟩
set_option maxRecDepth 20000 in
set_option maxHeartbeats 1000000 in
theorem roll_any (v : Value) (n : Nat) (seed : Nat) (w : World) (hv : Bts w v n) (hn : n ≤ 4096) (hseed : seed ≤ 100000) : Calls Tryz.prog 32 #[v, .int .u64 seed] w fun e w' => ∃ B, e = .returned (.pointer (some ⟨B, 0, none⟩)) ∧ w.heap.size ≤ B ∧ Src w' B ∧ Keeps w w' := by
  have hv0 := hv
  obtain ⟨p, cap, rfl, hmc, hmx, hbt⟩ := hv
  unfold maxLen at hmx
  have HB := hid hv0; clear hv0 hbt
  go_enter Tryz.func32, Tryz.ntmps32
  go_wp2
  have hk0 : Keeps w (w.alloc (.cells #[.slice p n cap, .int .i64 0, .int .u64 ((seed : Int) * 7681 + (n : Int))] 119)) := (Keeps.refl w).alloc _
  go_loopw [6] (fun i' wr => ∃ k : Nat, k ≤ n ∧ i' = .int .i64 k ∧ FromRel w (.slice p n cap) wr) (fun i _ => n - (intOf i).toNat)
  case atStart => exact ⟨0, by omega, rfl, hk0, ((seed : Int) * 7681 + (n : Int)), by simp, by simp, by simp, by simp, by simp⟩
  case round =>
    obtain ⟨k, hk, rfl, kw, h, c0, c1, c2, f1, f2⟩ := hrel
    clear hk0
    by_cases hlt : k < n
    · have hlt' : (k : Int) < n := by omega
      obtain ⟨b, off, x, rfl, hx, hx8, hbB⟩ : ∃ b off, ∃ x : Nat, p = some ⟨b, off, none⟩ ∧ wr.cell? ⟨b, off + k, none⟩ = some (.int .u8 x) ∧ x < 256 ∧ b < w.heap.size := by
        obtain ⟨p', cap', e, _, _, h3⟩ := HB.out.low kw
        cases e
        exact h3 k hlt
      go_wp2_with fail
      go_region
      go_wp2_with fail
      go_roundw
      case rel => exact ⟨k + 1, by omega, by go_num, FromRel.step ⟨kw, h, c0, c1, c2, f1, f2⟩ _⟩
      case measure => simp [intOf]; omega
    · have hlt' : ¬ (k : Int) < n := by omega
      go_wp2_with fail
      go_ret
      exact ⟨_, rfl, Nat.le_refl _, ⟨_, n, 0, h, c0, c1, c2, f1, f2, by omega, HB.out.low kw⟩, kw⟩
--
set_option maxRecDepth 20000 in
set_option maxHeartbeats 1000000 in
theorem likeFormula5_any (a b : List Nd) (va vb : Value) (w : World) (hva : Nds w va a) (hvb : Nds w vb b) :
    Calls Tryz.prog 40 #[va, vb] w fun e w' => e = .returned (.bool (decide (a = b))) ∧ Keeps w w' := by
  have hva0 := hva
  have hvb0 := hvb
  obtain ⟨pa, ca, rfl, hlea, hmxa, _, hlena⟩ := hva
  obtain ⟨pb, cb, rfl, hleb, hmxb, _, hlenb⟩ := hvb
  unfold maxLen at hmxa hmxb
  by_cases hl : a.length = b.length
  · have hl' : ((a.length : Int) != (b.length : Int)) = false := by simp [hl]
    have HL := hid hl; clear hl
    go_enter Tryz.func40, Tryz.ntmps40
    go_wp2
    go_loopw [4, 5] (fun r i' wr => ∃ k : Nat, k ≤ a.length ∧ a.take k = b.take k ∧ Keeps w wr ∧ i' = .int .i64 k ∧ r = .bool false) (fun _ i _ => a.length - (intOf i).toNat)
    case atStart => exact ⟨0, by omega, rfl, Keeps.refl w, rfl, rfl⟩
    case round =>
      obtain ⟨k, hk, htk, kw, rfl, rfl⟩ := hrel
      have HT := hid htk; clear htk
      clear hl'
      by_cases hlt : k < a.length
      · have hltb : k < b.length := by have := HL.out; omega
        obtain ⟨_, _, e1, _, _, hata, _⟩ := hva0.keeps kw.drew
        obtain ⟨_, _, e2, _, _, hatb, _⟩ := hvb0.keeps kw.drew
        cases e1; cases e2
        obtain ⟨b1, o1, rfl, h1, h2⟩ := hata.nd k hlt
        obtain ⟨b2, o2, rfl, h3, h4⟩ := hatb.nd k hltb
        clear hata hatb hva0 hvb0
        have hlt' : (k : Int) < a.length := by omega
        have hltb' : (k : Int) < b.length := by omega
        by_cases he : a[k] = b[k]
        · have hk2 : a[k].k = b[k].k := by rw [he]
          have hs2 : a[k].s = b[k].s := by rw [he]
          rw [hk2] at h1
          rw [hs2] at h2
          have HE := hid he; clear he hk2 hs2
          go_wp2_with fail
          go_region
          go_wp2
          go_roundw
          case rel => exact ⟨k + 1, by omega, by rw [List.take_succ_eq_append_getElem hlt, List.take_succ_eq_append_getElem hltb, HT.out, HE.out], kw.drew, by go_num, rfl⟩
          case measure => simp [intOf]; omega
        · have hne : decide (a = b) = false := by rw [decide_eq_false_iff_not]; rintro rfl; exact he rfl
          have HN := hid hne; clear hne
          have hks : ¬ (a[k].k = b[k].k ∧ a[k].s = b[k].s) := fun ⟨g1, g2⟩ => he (by cases hx : a[k]; cases hy : b[k]; simp [hx, hy] at g1 g2; simp [g1, g2])
          clear he
          generalize a[k].k = x1 at *
          generalize a[k].s = x2 at *
          generalize b[k].k = y1 at *
          generalize b[k].s = y2 at *
          by_cases hx : x1 = y1
          · have hx2 : ¬ x2 = y2 := fun e => hks ⟨hx, e⟩
            subst hx
            clear hks
            go_wp2_with fail
            go_region
            go_wp2
            go_ret
            exact ⟨ret_bool HN.out.symm, kw.drew⟩
          · clear hks
            go_wp2_with fail
            go_region
            go_wp2
            go_ret
            exact ⟨ret_bool HN.out.symm, kw.drew⟩
      · go_wp2
        go_ret
        refine ⟨ret_bool ?_, kw⟩
        symm; rw [decide_eq_true_eq]
        have h1 := HL.out; have h2 := HT.out
        rw [List.take_of_length_le (by omega), List.take_of_length_le (by omega)] at h2
        exact h2
  · have hl' : ((a.length : Int) != (b.length : Int)) = true := by simp; omega
    have HL := hid hl; clear hl
    go_enter Tryz.func40, Tryz.ntmps40
    go_wp2
    go_ret
    refine ⟨ret_bool ?_, Keeps.refl _⟩
    symm; rw [decide_eq_false_iff_not]
    rintro rfl; exact HL.out rfl
--
set_option maxRecDepth 20000 in
set_option maxHeartbeats 1000000 in
theorem likeFormulas5_any (a b : List (List Nd)) (va vb : Value) (w : World) (hva : NdsL w va a) (hvb : NdsL w vb b) :
    Calls Tryz.prog 25 #[va, vb] w fun e w' => e = .returned (.bool (decide (a = b))) ∧ Keeps w w' := by
  have hva0 := hva
  have hvb0 := hvb
  obtain ⟨pa, ca, rfl, hlea, hmxa, hlena, _⟩ := hva
  obtain ⟨pb, cb, rfl, hleb, hmxb, hlenb, _⟩ := hvb
  unfold maxLen at hmxa hmxb
  by_cases hl : a.length = b.length
  · have hl' : ((a.length : Int) != (b.length : Int)) = false := by simp [hl]
    have HL := hid hl; clear hl
    go_enter Tryz.func25, Tryz.ntmps25
    go_wp2
    go_loopw [4, 5] (fun r i' wr => ∃ k : Nat, k ≤ a.length ∧ a.take k = b.take k ∧ Keeps w wr ∧ i' = .int .i64 k ∧ r = .bool false) (fun _ i _ => a.length - (intOf i).toNat)
    case atStart => exact ⟨0, by omega, rfl, Keeps.refl w, rfl, rfl⟩
    case round =>
      obtain ⟨k, hk, htk, kw, rfl, rfl⟩ := hrel
      have HT := hid htk; clear htk
      clear hl'
      by_cases hlt : k < a.length
      · have hltb : k < b.length := by have := HL.out; omega
        obtain ⟨b1, o1, u1, rfl, c1, h1⟩ := (hva0.keeps kw).get k hlt
        obtain ⟨b2, o2, u2, rfl, c2, h2⟩ := (hvb0.keeps kw).get k hltb
        clear hva0 hvb0
        have hlt' : (k : Int) < a.length := by omega
        have hltb' : (k : Int) < b.length := by omega
        have h1 := h1.keeps (Keeps.refl wr).drew
        have h2 := h2.keeps (Keeps.refl wr).drew
        obtain ⟨p1, n1, q1, rfl⟩ := h1.shape
        obtain ⟨p2, n2, q2, rfl⟩ := h2.shape
        go_wp2_with fail
        go_still_tail 8, (by kernel_rfl)
        by_cases he : a[k] = b[k]
        · have hd : decide (a[k] = b[k]) = true := by simp [he]
          have HE := hid he; clear he
          go_wp2_with (go_at_call 40; refine (likeFormula5_any a[k] b[k] _ _ _ h1 h2).mono ?_; rintro e w2 ⟨rfl, k2⟩; rw [hd])
          go_roundw
          case rel => exact ⟨k + 1, by omega, by rw [List.take_succ_eq_append_getElem hlt, List.take_succ_eq_append_getElem hltb, HT.out, HE.out], kw.drew.trans k2, by go_num, rfl⟩
          case measure => simp [intOf]; omega
        · have hd : decide (a[k] = b[k]) = false := by simp [he]
          have HE := hid he; clear he
          go_wp2_with (go_at_call 40; refine (likeFormula5_any a[k] b[k] _ _ _ h1 h2).mono ?_; rintro e w2 ⟨rfl, k2⟩; rw [hd])
          go_ret
          refine ⟨ret_bool ?_, kw.drew.trans k2⟩
          symm; rw [decide_eq_false_iff_not]
          rintro rfl; exact HE.out rfl
      · go_wp2
        go_ret
        refine ⟨ret_bool ?_, kw⟩
        symm; rw [decide_eq_true_eq]
        have h1 := HL.out; have h2 := HT.out
        rw [List.take_of_length_le (by omega), List.take_of_length_le (by omega)] at h2
        exact h2
  · have hl' : ((a.length : Int) != (b.length : Int)) = true := by simp; omega
    have HL := hid hl; clear hl
    go_enter Tryz.func25, Tryz.ntmps25
    go_wp2
    go_ret
    refine ⟨ret_bool ?_, Keeps.refl _⟩
    symm; rw [decide_eq_false_iff_not]
    rintro rfl; exact HL.out rfl
end Go.Proofs.YtpbbfoliabgkpaaGreat
/- FnProjective: the law. -/
namespace Go.Proofs.YtpbbfoliabgkpaaGreat
open Go.RowKit
--
theorem big_any (v : Value) (n : Nat) (w : World) (hv : Bts w v n) : Calls Tryz.prog 8 #[v] w fun e w' => e = .returned (.bool (decide (4096 < n))) ∧ w = w' := by
  obtain ⟨p, c, rfl, hc, hm, _⟩ := hv
  unfold maxLen at hm
  go_enter Tryz.func8, Tryz.ntmps8
  go_wp2
  go_ret
  exact ⟨ret_bool (by rw [Bool.eq_iff_iff]; simp; omega), rfl⟩
theorem Bts.keeps {w w' : World} {v : Value} {n : Nat} (h : Bts w v n) (k : Keeps w w') : Bts w' v n := (BtsB.low h k).up k.size
/-- what is asked of a projective formula's lifted substitution -/
structure ProjOk (t : Fm) (b : Nat) : Prop where
  lift : ∃ L : List (List Nd), L.length = 6 ∧ tot L ≤ 1000 ∧ BothLift t.enc b L 0 ∧
    (∃ yes three, OneTwo 31 t.enc L yes three ∧ ((three = 3 ∧ yes = false) ∨ (three = 0 ∧ yes = true))) ∧
    ∀ r, r < 3 → ∃ d four bk six, BothRule 19 18 [t.enc] (Fm.var r).enc d four ∧
      (∀ (v u vi : Value) (w : World), NdsL w v [t.enc] → Nds w u (Fm.var r).enc → NdsL w vi L → Calls Tryz.prog 16 #[.agg #[v, u], vi] w (fun e w' => e = .returned (.tuple #[.bool bk, .int .i64 six]) ∧ Keeps w w')) ∧
      (four = 3 ∨ (four = 0 ∧ six = 3) ∨ (four = 0 ∧ six = 0 ∧ bk = !d))
theorem fm_err {t : Fm} (ht : OkF t) (hl : t.enc.length ≤ 40) : plainErr t.enc = 0 := by
  unfold plainErr
  have h1 : isFm t.enc = true := by unfold isFm; rw [isTree_of_enc ht.1, decide_eq_true hl]; rfl
  rw [if_pos h1, plainL_enc, if_pos ht.2]
theorem fms_err {G : List Fm} (hG : OkL G) (hl : ∀ a ∈ G, a.enc.length ≤ 40) : plainErrs (G.map Fm.enc) = 0 := by
  have h1 : allFm (G.map Fm.enc) = true := by
    unfold allFm
    rw [Bool.not_eq_true', List.any_eq_false]
    intro x hx
    obtain ⟨y, hy, rfl⟩ := List.mem_map.1 hx
    simp [isFm, isTree_of_enc (hG y hy).1, hl y hy]
  have h2 : allPlainL (G.map Fm.enc) = false := by
    unfold allPlainL
    rw [List.any_eq_false]
    intro x hx
    obtain ⟨y, hy, rfl⟩ := List.mem_map.1 hx
    simp [plainL_enc, (hG y hy).2]
  unfold plainErrs
  rw [if_pos h1, h2]; rfl
theorem img_ok {σ : List Fm} (h6 : σ.length = 6) (hσ : OkL σ) (hl : ∀ a ∈ σ, a.enc.length ≤ 40) : imgErr 0 (σ.map Fm.enc) = 0 := by
  have h := fms_err hσ hl
  unfold plainErrs at h
  unfold imgErr isSub
  split at h
  · rename_i h1
    split at h
    · omega
    · rename_i h2
      rw [if_neg (by simp [h1, h6]), if_neg (by simpa using h2)]
  · omega
theorem projOk (t : Fm) (ht : OkF t) (hl : t.enc.length ≤ 20) (b : Nat) (hb : b < 64) (hp : PB t b = true) : ProjOk t b := by
  obtain ⟨σ, e, hσ, h6⟩ := lift_fm t ht b
  have hle := lift_len t b
  have hσ40 : ∀ a ∈ σ, a.enc.length ≤ 22 := fun a ha => by
    have := hle a.enc (by rw [e]; exact List.mem_map.2 ⟨a, ha, rfl⟩)
    omega
  have hpe := fm_err ht (by omega)
  have hsg : sub (liftL t.enc b) t.enc = (sg σ t).enc := by rw [e]; exact sub_sg σ h6 t ht
  rw [PB_eq hsg, Bool.and_eq_true, decide_eq_true_iff, sqB_iff] at hp
  have hoku := sg_ok hσ t ht
  have hL6 : (liftL t.enc b).length = 6 := by rw [e, List.length_map, h6]
  have hbig : bigL (liftL t.enc b) = false := by
    unfold bigL
    rw [List.any_eq_false]
    intro x hx
    have := hle x hx
    simp; omega
  have himg : imgErr 0 (liftL t.enc b) = 0 := by rw [e]; exact img_ok h6 hσ (fun a ha => by have := hσ40 a ha; omega)
  refine ⟨liftL t.enc b, hL6, ?_, ?_, ?_, fun r hr => ?_⟩
  · have := tot_most (liftL t.enc b) 22 (fun x hx => by have := hle x hx; omega)
    rw [hL6] at this; omega
  · have := bothLift_ok t.enc b hpe hb
    rw [hbig] at this
    exact this
  · have h := unifies_ok_i t (by omega) hpe (liftL t.enc b) (by rw [hpe]; exact himg) (sg σ t) hsg hoku
    refine ⟨_, _, h, ?_⟩
    by_cases h20 : 20 < (sg σ t).enc.length
    · rw [if_pos h20, if_pos h20]; exact .inl ⟨rfl, rfl⟩
    · rw [if_neg h20, if_neg h20]; exact .inr ⟨rfl, sqB_true hp.2⟩
  · have hv : OkF (.var r) := ⟨by show r < 6; omega, rfl⟩
    have hre : ruleErr [t.enc] (Fm.var r).enc = 0 := by
      unfold ruleErr
      rw [if_neg (by simp)]
      exact fms_err (G := [t, .var r]) (fun x hx => by simp at hx; rcases hx with rfl | rfl; exact ht; exact hv) (fun x hx => by simp at hx; rcases hx with rfl | rfl; omega; simp [Fm.enc])
    have hbr := breaks_ok [t.enc] (Fm.var r).enc (liftL t.enc b) (by rw [hre]; exact himg) [sg σ t] (sg σ (.var r)) (fun x hx => by rw [List.mem_singleton.1 hx]; exact hoku) (sg_ok hσ _ hv) (by simp [hsg]) (by rw [e]; exact sub_sg σ h6 _ hv)
    by_cases h20 : 20 < tot [t.enc, (Fm.var r).enc]
    · exact ⟨_, _, _, _, derivable_big _ _ hre h20, hbr.2, .inl rfl⟩
    · refine ⟨_, _, _, _, derivable_ok [t] (.var r) (fun x hx => by rw [List.mem_singleton.1 hx]; exact ht) hv hre (by simpa using h20), hbr.2, .inr ?_⟩
      by_cases hany : (([sg σ t] ++ [sg σ (.var r)]).any fun a => decide (20 < a.enc.length)) = true
      · rw [if_pos hany]; exact .inl ⟨rfl, rfl⟩
      · rw [if_neg hany, if_neg hany]
        refine .inr ⟨rfl, rfl, ?_⟩
        unfold brk
        rw [lift_law t ht b r (by omega) σ e h6 hp.2]
        simp [sqB_true hp.2]
end Go.Proofs.YtpbbfoliabgkpaaGreat
/- FindUnifier and FindBreaking, with what is found told. -/
namespace Go.Proofs.YtpbbfoliabgkpaaGreat
open Go.RowKit
theorem findUBoth (a : List Nd) (cs : List (List Nd)) (hcl : cs.length ≤ 2000000) : ∃ r c, r.length ≤ 1000 ∧ tot r ≤ 1000 ∧ ListTwo 36 35 a cs r c ∧ (c = 0 → OneTwo 31 a r true 0) := by
  by_cases hE : plainErrs ([a] ++ cs) = 0
  · have hE2 : plainErrs (cs ++ [a]) = 0 := by rw [plainErrs_comm]; exact hE
    obtain ⟨t, hw, rfl, hpl, hl⟩ := plain_tree (plain_each hE a (by simp))
    have hcp := fun x hx => plain_each hE x (List.mem_append.2 (.inr hx))
    have hc40 : ∀ x ∈ cs, x.length ≤ 40 := fun x hx => by obtain ⟨_, _, _, _, h⟩ := plain_tree (hcp x hx); exact h
    obtain ⟨C, rfl, hC⟩ := list_trees hcp
    have hC40 : ∀ c ∈ C, c.enc.length ≤ 40 := fun c hc => hc40 _ (List.mem_map.2 ⟨c, hc, rfl⟩)
    have hnd : ∀ x ∈ [t.enc], x.all okNd = true := fun x hx => by rw [List.mem_singleton.1 hx]; exact List.all_eq_true.2 (okNd_enc hw)
    have hs : decide (tot [t.enc] ≤ 20) = decide (t.enc.length ≤ 20) := by rw [tot_one]
    by_cases hD : candE (C.map Fm.enc).length (mem (vmL [t.enc])).length (decide (t.enc.length ≤ 20)) = 0
    · obtain ⟨h8, hN, h20⟩ := cand_zero hD
      rw [List.length_map] at h8 hN
      have h20' : t.enc.length ≤ 20 := by simpa using h20
      have hb := found_len (P := okU t) (vs := mem (vmL [t.enc])) hC hC40 (fun v hv => by obtain ⟨k, _, rfl⟩ := mem_range _ v hv; omega)
      refine ⟨_, (if (firstC (okU t) C (mem (vmL [t.enc])) idF).isSome then 0 else 4), hb.1, hb.2, ⟨fun v u w hv hu => specFindU _ _ _ _ (fun v u w hv hu => ?_) v u w hv hu, fun v u w hv hu => ?_⟩, fun hc => ?_⟩
      · exact l31Search_U t (fun x hx => by rw [List.mem_singleton.1 hx]; exact ⟨hw, hpl⟩) (by rw [tot_one]; exact h20') C hC hC40 h8 hE hN _ _ rfl rfl v u w hv hu
      · exact implFindU_ok t ⟨hw, hpl⟩ hl C hC hC40 hE2 hD _ _ rfl rfl v u w hv hu hcl
      · have hpos : ∀ v ∈ mem (vmL [t.enc]), (0 : Int) ≤ v := fun v hv => by obtain ⟨k, _, rfl⟩ := mem_range _ v hv; omega
        cases hf : firstC (okU t) C (mem (vmL [t.enc])) idF with
        | none => rw [hf] at hc; simp at hc
        | some σ =>
          have hs := Sm.found hC hC40 hpos hf
          have hok := (firstC_out _ _ _ hpos _ _ hf).2
          unfold okU at hok
          rw [Bool.and_eq_true, decide_eq_true_iff] at hok
          have hpe : plainErr t.enc = 0 := fm_err ⟨hw, hpl⟩ hl
          have h := unifies_ok_i t hl hpe (σ.map Fm.enc) (by rw [hpe]; exact img_ok hs.1 hs.2.1 hs.2.2) (sg σ t) (sub_sg σ hs.1 t ⟨hw, hpl⟩) (sg_ok hs.2.1 t ⟨hw, hpl⟩)
          rw [if_neg (by omega), if_neg (by omega), hok.2] at h
          simpa using h
    · refine ⟨[], candE (C.map Fm.enc).length (mem (vmL [t.enc])).length (decide (t.enc.length ≤ 20)), by simp, by simp [tot], ⟨fun v u w hv hu => specFindU _ _ _ _ (fun v u w hv hu => ?_) v u w hv hu, fun v u w hv hu => ?_⟩, fun hc => absurd hc hD⟩
      · have h := l31Search_lim [t.enc] (C.map Fm.enc) true hE hnd (by rw [tot_one]; omega) (by rw [hs]; exact hD) v u w hv hu
        rw [hs] at h
        exact h
      · exact implFindU_lim t ⟨hw, hpl⟩ hl _ hE2 _ rfl hD v u w hv hu hcl
  · refine ⟨[], plainErrs ([a] ++ cs), by simp, by simp [tot], ⟨fun v u w hv hu => specFindU _ _ _ _ (fun v u w hv hu => l31Search_err [a] cs true hE v u w hv hu) v u w hv hu, fun v u w hv hu => ?_⟩, fun hc => absurd hc hE⟩
    exact implFindU_err a cs _ (plainErrs_comm _ _) hE v u w hv hu hcl
theorem findRBoth (xs : List (List Nd)) (c : List Nd) (cs : List (List Nd)) (hcl : cs.length ≤ 2000000) : ∃ r k, r.length ≤ 1000 ∧ tot r ≤ 1000 ∧ ListRL 24 23 xs c cs r k ∧ (k = 0 → ∃ (G : List Fm) (t : Fm) (σ : List Fm), xs = G.map Fm.enc ∧ c = t.enc ∧ OkL (G ++ [t]) ∧ r = σ.map Fm.enc ∧ Sm σ ∧ okB G t σ = true) := by
  by_cases h6 : 6 < xs.length
  · exact ⟨[], 1, by simp, by simp [tot], ⟨fun v u x w hv hu hx => specFindB_six xs c cs h6 v u x w hv hu hx, fun v u x w hv hu hx => implFindB_err xs c cs 1 (by rw [ruleErrX, if_pos h6]) (by decide) v u x w hv hu hx hcl⟩, fun h => by omega⟩
  have hre : ruleErrX xs c cs = plainErrs ((xs ++ [c]) ++ cs) := by rw [ruleErrX, if_neg h6]
  by_cases hE : plainErrs ((xs ++ [c]) ++ cs) = 0
  · have hall := fun x hx => plain_each hE x (List.mem_append.2 (.inl hx))
    obtain ⟨G, rfl, hG⟩ := list_trees (l := xs) (fun x hx => hall x (List.mem_append.2 (.inl hx)))
    obtain ⟨t, hw, rfl, hpl, hl⟩ := plain_tree (hall c (by simp))
    have hcp := fun x hx => plain_each hE x (List.mem_append.2 (.inr hx))
    have hc40 : ∀ x ∈ cs, x.length ≤ 40 := fun x hx => by obtain ⟨_, _, _, _, h⟩ := plain_tree (hcp x hx); exact h
    obtain ⟨C, rfl, hC⟩ := list_trees hcp
    have hC40 : ∀ c ∈ C, c.enc.length ≤ 40 := fun c hc => hc40 _ (List.mem_map.2 ⟨c, hc, rfl⟩)
    have hT : OkL (G ++ [t]) := fun a ha => (List.mem_append.1 ha).elim (hG a) (fun h => by rw [List.mem_singleton.1 h]; exact ⟨hw, hpl⟩)
    have hl40 : ∀ a ∈ G ++ [t], a.enc.length ≤ 40 := fun a ha => by
      have : a.enc ∈ G.map Fm.enc ++ [t.enc] := by simpa using List.mem_map.2 ⟨a, ha, rfl⟩
      obtain ⟨_, _, _, _, h⟩ := plain_tree (hall _ this)
      exact h
    have hx6 : G.length ≤ 6 := by simp at h6; exact h6
    have hmp : (G ++ [t]).map Fm.enc = G.map Fm.enc ++ [t.enc] := by simp
    have hnd : ∀ a ∈ G.map Fm.enc ++ [t.enc], a.all okNd = true := fun a ha => enc_node hT a (by rw [hmp]; exact ha)
    have htt : tot (G.map Fm.enc ++ [t.enc]) ≤ 1000 := by
      have := tot_most (G.map Fm.enc ++ [t.enc]) 40 (fun x hx => by rw [← hmp] at hx; obtain ⟨y, hy, rfl⟩ := List.mem_map.1 hx; exact hl40 y hy)
      rw [List.length_append, List.length_map, List.length_singleton] at this
      omega
    by_cases hD : candE (C.map Fm.enc).length (mem (vmL (G.map Fm.enc ++ [t.enc]))).length (decide (tot (G.map Fm.enc ++ [t.enc]) ≤ 20)) = 0
    · obtain ⟨h8, hN, h20⟩ := cand_zero hD
      rw [List.length_map] at h8 hN
      have h20' : tot (G.map Fm.enc ++ [t.enc]) ≤ 20 := by simpa using h20
      have hb := found_len (P := okB G t) (vs := mem (vmL (G.map Fm.enc ++ [t.enc]))) hC hC40 (fun v hv => by obtain ⟨k, _, rfl⟩ := mem_range _ v hv; omega)
      refine ⟨_, (if (firstC (okB G t) C (mem (vmL (G.map Fm.enc ++ [t.enc]))) idF).isSome then 0 else 4), hb.1, hb.2, ⟨fun v u x w hv hu hx => specFindB _ _ _ h6 _ _ (fun v u w hv hu => ?_) v u x w hv hu hx, fun v u x w hv hu hx => ?_⟩, fun hk => ?_⟩
      · rw [← hmp] at hv hE hN h20' ⊢
        exact l31Search_B G t hT hx6 h20' C hC hC40 h8 hE hN _ _ rfl rfl v u w hv hu
      · exact implFindB_ok G t hT hl40 hx6 C hC hC40 (by rw [hre]; exact hE) hD htt _ _ rfl rfl v u x w hv hu hx hcl
      · have hpos : ∀ v ∈ mem (vmL (G.map Fm.enc ++ [t.enc])), (0 : Int) ≤ v := fun v hv => by obtain ⟨k, _, rfl⟩ := mem_range _ v hv; omega
        cases hf : firstC (okB G t) C (mem (vmL (G.map Fm.enc ++ [t.enc]))) idF with
        | none => rw [hf] at hk; simp at hk
        | some σ => exact ⟨G, t, σ, rfl, rfl, hT, rfl, Sm.found hC hC40 hpos hf, (firstC_out _ _ _ hpos _ _ hf).2⟩
    · refine ⟨[], candE (C.map Fm.enc).length (mem (vmL (G.map Fm.enc ++ [t.enc]))).length (decide (tot (G.map Fm.enc ++ [t.enc]) ≤ 20)), by simp, by simp [tot], ⟨fun v u x w hv hu hx => specFindB _ _ _ h6 _ _ (fun v u w hv hu => ?_) v u x w hv hu hx, fun v u x w hv hu hx => ?_⟩, fun hk => absurd hk hD⟩
      · exact l31Search_lim (G.map Fm.enc ++ [t.enc]) (C.map Fm.enc) false hE hnd htt hD v u w hv hu
      · exact implFindB_lim _ _ _ (by rw [hre]; exact hE) (by simpa using hx6) hnd htt _ rfl hD v u x w hv hu hx hcl
  · exact ⟨[], plainErrs ((xs ++ [c]) ++ cs), by simp, by simp [tot], ⟨fun v u x w hv hu hx => specFindB _ _ _ h6 _ _ (fun v u w hv hu => l31Search_err _ cs false hE v u w hv hu) v u x w hv hu hx, fun v u x w hv hu hx => implFindB_err xs c cs _ hre hE v u x w hv hu hx hcl⟩, fun hk => absurd hk hE⟩
end Go.Proofs.YtpbbfoliabgkpaaGreat
/- Draws of lists of formulas. -/
namespace Go.Proofs.YtpbbfoliabgkpaaGreat
open Go.RowKit
theorem OwnL.dr {w w' : World} {B b : Nat} {v : Value} {xs : List (List Nd)} (h : OwnL w b v xs) (k : Dr B w w') (hB : B < b) : OwnL w' b v xs := h.touched k.1 (fun i hi => by omega)
theorem OwnL.snocT {w0 w w' : World} {B B0 : Nat} {v v' u : Value} {xs : List (List Nd)} {x : List Nd} {vs : List Value} (hr : RowsN w0 B vs xs) (ha : Apart vs) (ho : w.ownsRow B 24 1 v xs.length vs) (k : Touch w0 w (fun i => i = B0)) (hB0 : B0 < B) (hu : OwnN w w0.heap.size u x) (hB : B ≤ w0.heap.size)
    (ho' : w'.ownsRow B 24 1 v' (xs.length + 1) (vs ++ [u])) (hg : w.grownBy w' v.ownBlock) : OwnL w' B v' (xs ++ [x]) := by
  have hrw := hr.touch k (fun i hi e => by have := (hr.lt hi).1; omega)
  have hoff := off_rows ho hrw
  have hr' : RowsN w' B vs xs := hrw.touch (Touch.grown hg) (fun i hb e => hoff.not_blk e.symm hb)
  have hu' : OwnN w' B u x := (hu.touch (Touch.grown hg) (fun i hi e => type_ne ho hu tyne e.symm hi)).mono hB
  have hrows := RowsN.snoc hu' hr'
  refine ⟨vs ++ [u], by simpa using ho', hrows, Apart.snoc (fun i hi hb => ?_) ha, off_rows ho' hrows⟩
  have := (hu.len i hi).1
  have := (hr.lt hb).2
  omega
/-- an append of a row that was made while a source was drawn from -/
theorem appLT {w : World} {ops : Array Oper} {rest : List Oper} {o : Oper} {a : Act} {Q : Exit → Act → World → Prop} (hgd : o.guard = none) (s x : Operand)
    (ho : o.op = .call { callee := .builtin .append, args := #[s, x], argTypes := #[35, 35] }) (base : Nat) (v : Value) (xs : List (List Nd)) (hs : a.eval s = v)
    (w0 : World) (B0 : Nat) (hown : OwnL w0 base v xs) (k : Touch w0 w (fun i => i = B0)) (hB0 : B0 < base) (u : Value) (y : List Nd) (hu : OwnN w w0.heap.size u y) (hbase : base ≤ w0.heap.size)
    (p : Option Addr) (c : Nat) (hx : a.eval x = .slice p 1 c) (hat : At w p [u]) (hlen : xs.length ≤ 2147483648)
    (h : ∀ v' w', OwnL w' base v' (xs ++ [y]) → w.grownBy w' v.ownBlock → (∀ k, v.ownBlock = some k → base ≤ k) → wpList Tryz.prog ops Q rest (a.put o.dst v') w') : wpList Tryz.prog ops Q (o :: rest) a w :=
  wpList_plain hgd fun _ hK => by
    obtain ⟨i0, hi, hz0, hz1, hz2⟩ := info_parts infoL
    obtain ⟨vs, hrow, hr, ha, hf⟩ := hown
    have hone : ∀ z ∈ [u], z.oneCell' = true := by
      intro z hz
      simp at hz; subst hz
      obtain ⟨p, c, e, _⟩ := At.of_own hu
      rw [e]; rfl
    have hrow' := own_touch hrow k (fun i e h => by have := (World.ownsRow.lt hrow i e).1; omega)
    refine wp_append_at s x _ ho _ i0 _ 1 24 Tryz.underlying35 hi hz0 hz1 hz2 rfl (by decide) base v _ _ hs hrow' p 1 c [u] hx (by simp) hat hone (by unfold maxLen; omega) (by omega) (by have := k.size; omega) ?_
    intro v' w' h1 h2 h3
    exact hK _ _ (h v' w' (OwnL.snocT hr ha hrow' k hB0 hu hbase h1 h2) h2 h3)
/-- a row of the call's own has grown -/
theorem Dr.grown {B : Nat} {a b c : World} {row : Option Nat} (h : Dr B a b) (k : b.grownBy c row) (hr : ∀ i, row = some i → B < i ∧ a.heap.size ≤ i) : Dr B a c := by
  cases row with
  | none => exact h.keeps ((Keeps.refl b).grown k (fun i e => by cases e))
  | some g =>
    obtain ⟨h1, h2⟩ := hr g rfl
    exact h.beside ((Touch.grown k).mono (fun j e => by cases e; rfl)) h1 h2
/-- a list of lists is drawn -/
def DrawL (B m t : Nat) (w : World) (e : Ending) (w' : World) : Prop := ∃ v, ∃ l : List (List Nd), e = .returned v ∧ OwnL w' w.heap.size v l ∧ l.length ≤ m ∧ tot l ≤ t ∧ Dr B w w'
/-- what holds while a list is drawn -/
def CandRel (w : World) (B m t : Nat) (o : Value) (wr : World) : Prop := ∃ l : List (List Nd), OwnL wr w.heap.size o l ∧ l.length ≤ m ∧ tot l ≤ t ∧ Dr B w wr
/-- what holds while a list is filled up -/
def CandNine (w : World) (B : Nat) (o : Value) (wr : World) : Prop := ∃ l : List (List Nd), OwnL wr w.heap.size o l ∧ l.length ≤ 9 ∧ tot l ≤ 100 + l.length ∧ Dr B w wr
theorem OwnL.len1 {w : World} {B : Nat} {v : Value} {xs : List (List Nd)} (h : OwnL w B v xs) : ∃ p c, v = .slice p xs.length c ∧ xs.length ≤ c ∧ c ≤ maxLen := by
  obtain ⟨vs, ho, _⟩ := h
  obtain ⟨p, c, e, h1, h2, _⟩ := At.of_own ho
  exact ⟨p, c, e, h1, h2⟩
theorem tot_snoc (l : List (List Nd)) (x : List Nd) : tot (l ++ [x]) = tot l + x.length := by rw [tot_append]; simp [tot]
--
set_option maxRecDepth 20000 in
set_option maxHeartbeats 4000000 in
theorem l31Candidates_any (B : Nat) (w : World) (hs : Src w B) : Calls Tryz.prog 98 #[.pointer (some ⟨B, 0, none⟩)] w (DrawL B 20 1000 w) := by
  have hB := hs.lt
  go_enter Tryz.func98, Tryz.ntmps98
  go_wp2_with fail
  refine (l02False_any w).mono ?_; rintro e w1 ⟨v1, rfl, hv1, k1⟩
  obtain ⟨p1, n1, q1, rfl⟩ := hv1.own_shape
  go_wp2_with fail
  refine (l02True_any w1).mono ?_; rintro e w2 ⟨v2, rfl, hv2, k2⟩
  obtain ⟨p2, n2, q2, rfl⟩ := hv2.own_shape
  have k3 : Keeps w (w2.alloc (.cells #[.slice p1 n1 q1, .slice p2 n2 q2] 24)) := (k1.trans k2).alloc _
  have hL : OwnL (w2.alloc (.cells #[.slice p1 n1 q1, .slice p2 n2 q2] 24)) w.heap.size (.slice (some ⟨w2.heap.size, 0, none⟩) 2 2) [Fm.fls.enc, (Fm.imp .fls .fls).enc] := by
    have ha1 := (hv1.keeps k2).keeps ((Keeps.refl w2).alloc (.cells #[.slice p1 n1 q1, .slice p2 n2 q2] 24))
    have ha2 := hv2.keeps ((Keeps.refl w2).alloc (.cells #[.slice p1 n1 q1, .slice p2 n2 q2] 24))
    have hrows : RowsN (w2.alloc (.cells #[.slice p1 n1 q1, .slice p2 n2 q2] 24)) w.heap.size [.slice p1 n1 q1, .slice p2 n2 q2] [Fm.fls.enc, (Fm.imp .fls .fls).enc] :=
      RowsN.cons ha1 (RowsN.cons (ha2.mono k1.size) (RowsN.nil _ _))
    have hown : (w2.alloc (.cells #[.slice p1 n1 q1, .slice p2 n2 q2] 24)).ownsRow w.heap.size 24 1 (.slice (some ⟨w2.heap.size, 0, none⟩) 2 2) 2 [.slice p1 n1 q1, .slice p2 n2 q2] :=
      ⟨by simp, .inr ⟨w2.heap.size, 2, _, rfl, (k1.trans k2).size, heap_alloc_new w2 _, by simp, by simp [maxLen], by simp, by simp⟩⟩
    refine ⟨_, hown, hrows, Apart.cons (fun i hi k hk e => ?_) (Apart.cons (Off.nil _) Apart.nil), off_rows hown hrows⟩
    obtain rfl : i = 0 := by simp at hi; omega
    have h1 := (hv1.len k hk).2
    have h2 := (hv2.len k (by simpa using e)).1
    omega
  have D3 := Dr.of hs k3
  have htt : tot [Fm.fls.enc, (Fm.imp .fls .fls).enc] = 4 := rfl
  go_wp2_with fail
  refine (l01Next_any 3 B _ D3.2 (by omega)).mono ?_; rintro e w4 ⟨r, rfl, hr, d4⟩
  have D4 := D3.trans d4
  have hL4 := hL.dr d4 hB
  clear hL hv1 hv2
  have hr3 : r < 3 := by omega
  go_wp2_with fail
  go_loopw [3, 4] (fun o i' wr => ∃ k : Nat, k ≤ r ∧ i' = .int .i64 k ∧ CandRel w B (5 - k) (100 - 10 * k) o wr) (fun _ i _ => (intOf i).toNat)
  case atStart => exact ⟨r, by omega, rfl, _, hL4, by simp; omega, by rw [htt]; omega, D4⟩
  case round =>
    obtain ⟨k, hk, rfl, l, hl, hlm, hlt, D⟩ := hrel
    clear hL4
    obtain ⟨p5, c5, rfl, _, hmx5⟩ := hl.len1
    unfold maxLen at hmx5
    by_cases h0 : 0 < k
    · have h0' : (0 : Int) < k := by omega
      go_wp2_with fail
      refine (l01Next_any 3 B wr D.2 (by omega)).mono ?_; rintro e w5 ⟨r5, rfl, hr5, d5⟩
      have D5 := D.trans d5
      have HD := hid (l02Draw_any B 2 (by omega) false (1 + r5) (by omega) w5 D5.2)
      have hc5 : ((1 + r5 : Nat) : Int) = 1 + (r5 : Int) := by omega
      rw [hc5] at HD
      go_wp2_with fail
      refine HD.out.mono ?_; rintro e w6 ⟨v6, t6, rfl, hv6, hl6, d6⟩
      have D6 := D5.trans d6
      obtain ⟨p6, n6, q6, rfl⟩ := hv6.own_shape
      have ka := (Keeps.refl w6).alloc (.cells #[.slice p6 n6 q6] 24)
      have hv7 := hv6.keeps ka
      have hat := At.lit1 w6 (.slice p6 n6 q6) 24
      have hsz := D.size
      have tt := ((d5.trans d6).keeps ka).1
      have D7 := D6.keeps ka
      clear hv6
      go_wp2_with (at_builtin; refine appLT rfl _ _ rfl w.heap.size _ l rfl wr B hl tt hB _ _ (hv7.mono d5.size) hsz _ _ rfl hat (by omega) ?_; intro v8 w8 hv8 hg8 hr8)
      have D8 := D7.grown hg8 (fun i e => by have := hr8 i e; omega)
      have hll : l.length + 1 ≤ 5 - (k - 1) := by omega
      have htl : tot l + t6.enc.length ≤ 100 - 10 * (k - 1) := by omega
      go_roundw
      case rel => exact ⟨k - 1, by omega, by go_num, l ++ [t6.enc], hv8, by simpa using hll, by rw [tot_snoc]; exact htl, D8⟩
      case measure => simp [intOf]; omega
    · obtain rfl : k = 0 := by omega
      go_wp2_with fail
      refine (l01Next_any 30 B wr D.2 (by omega)).mono ?_; rintro e w5 ⟨r5, rfl, hr5, d5⟩
      have D5 := D.trans d5
      have hl5 := hl.dr d5 hB
      have hr5' : r5 = 0 ∨ r5 = 1 ∨ r5 = 2 ∨ 2 < r5 := by omega
      clear hr5 hl
      rcases hr5' with rfl | rfl | rfl | h3
      · go_wp2_with fail
        go_loopw [3] (fun o wr => CandNine w B o wr) (fun o _ => 9 - lenV o)
        case atStart => exact ⟨l, hl5, by omega, by omega, D5⟩
        case round =>
          obtain ⟨m, hm, hml, hmt, D⟩ := hrel
          clear hl5
          obtain ⟨p6, c6, rfl, _, hmx6⟩ := hm.len1
          unfold maxLen at hmx6
          by_cases h9 : m.length < 9
          · have h9' : (m.length : Int) < 9 := by omega
            go_wp2_with fail
            refine (l02Var_any 0 _).mono ?_; rintro e w6 ⟨v6, rfl, hv6, k6⟩
            obtain ⟨p7, n7, q7, rfl⟩ := hv6.own_shape
            have ka := (Keeps.refl w6).alloc (.cells #[.slice p7 n7 q7] 24)
            have hv7 := hv6.keeps ka
            have hat := At.lit1 w6 (.slice p7 n7 q7) 24
            have hsz := D.size
            have tt := Touch.of_keeps (k6.trans ka) (fun i => i = B)
            have D7 := D.keeps (k6.trans ka)
            have hl1 : (Fm.var 0).enc.length = 1 := rfl
            clear hv6
            go_wp2_with (at_builtin; refine appLT rfl _ _ rfl w.heap.size _ m rfl _ B hm tt hB _ _ hv7 hsz _ _ rfl hat (by omega) ?_; intro v8 w8 hv8 hg8 hr8)
            have D8 := D7.grown hg8 (fun i e => by have := hr8 i e; omega)
            obtain ⟨p9, c9, rfl, _, _⟩ := hv8.len1
            rw [show (m ++ [(Fm.var 0).enc]).length = m.length + 1 by simp] at hv8 ⊢
            go_roundw
            case rel => exact ⟨m ++ [(Fm.var 0).enc], hv8, by simp; omega, by rw [tot_snoc, hl1]; simp; omega, D8⟩
            case measure => simp [lenV]; omega
          · have h9' : ¬ (m.length : Int) < 9 := by omega
            go_wp2_with fail
            go_ret
            exact ⟨_, m, rfl, hm, by omega, by omega, D⟩
      · go_wp2_with fail
        go_ret
        exact ⟨_, [], rfl, (OwnL.empty w5).mono D5.size, by simp, by simp [tot], D5.keeps ((Keeps.refl w5).alloc _)⟩
      · go_wp2_with fail
        refine (l02Var_any 0 _).mono ?_; rintro e w6 ⟨v6, rfl, hv6, k6⟩
        have hl1 : (Fm.var 0).enc.length = 1 := rfl
        obtain ⟨p7, n7, q7, rfl⟩ := hv6.own_shape
        have HPr := hid (l02Pre_any 5 _ _ w6 (hv6.nds (by omega)) (by omega))
        go_wp2_with fail
        refine HPr.out.mono ?_; rintro e w7 ⟨v7, rfl, hv7, k7⟩
        obtain ⟨p8, n8, q8, rfl⟩ := hv7.own_shape
        have ka := (Keeps.refl w7).alloc (.cells #[.slice p8 n8 q8] 24)
        have hv8 := (hv7.keeps ka).mono k6.size
        have hat := At.lit1 w7 (.slice p8 n8 q8) 24
        have hsz := D5.size
        have tt := Touch.of_keeps ((k6.trans k7).trans ka) (fun i => i = B)
        have D7 := D5.keeps ((k6.trans k7).trans ka)
        clear hv6 hv7
        go_wp2_with (at_builtin; refine appLT rfl _ _ rfl w.heap.size _ l rfl _ B hl5 tt hB _ _ hv8 hsz _ _ rfl hat (by omega) ?_; intro v9 w9 hv9 hg9 hr9)
        have D8 := D7.grown hg9 (fun i e => by have := hr9 i e; omega)
        go_ret
        exact ⟨_, _, rfl, hv9, by simp; omega, by rw [tot_snoc]; simp; omega, D8⟩
      · have e0 : ((r5 : Nat) : Int) ≠ 0 := by omega
        have e1 : ((r5 : Nat) : Int) ≠ 1 := by omega
        have e2 : ((r5 : Nat) : Int) ≠ 2 := by omega
        go_wp2_with fail
        go_ret
        exact ⟨_, l, rfl, hl5, by omega, by omega, D5⟩
end Go.Proofs.YtpbbfoliabgkpaaGreat
/- What FnKnownAdmissible asks: negations on both sides, texts that are read, its draws. -/
namespace Go.Proofs.YtpbbfoliabgkpaaGreat
open Go.RowKit
def notL (a : List Nd) : List Nd := ⟨4, 0⟩ :: (a ++ [⟨1, 0⟩])
theorem notL_enc (t : Fm) : notL t.enc = (Fm.not t).enc := rfl
def notE (a : List Nd) : Int := if isFm a then (madeL (notL a)).2 else 1
def notR (a : List Nd) : List Nd := if isFm a then (madeL (notL a)).1 else []
theorem isFm_tree {a : List Nd} (h : isFm a = true) : ∃ t : Fm, t.wf ∧ a = t.enc ∧ a.length ≤ 40 := by
  unfold isFm at h
  rw [Bool.and_eq_true, decide_eq_true_iff] at h
  obtain ⟨t, h1, h2⟩ := isTree_enc h.2
  exact ⟨t, h1, h2, h.1⟩
theorem nds_none (w : World) : Nds w (.slice none 0 0) [] := (OwnN.nil w 0).nds (by simp)
theorem made_nds {w : World} {v : Value} {a : List Nd} (h : Nds w v a) : Nds w (if a.length ≤ 40 then v else .slice none 0 0) (madeL a).1 := by
  unfold madeL
  split
  · exact h
  · exact nds_none w
/-- a list of nodes and an error come back -/
def NdE (w : World) (r : List Nd) (c : Int) (e : Ending) (w' : World) : Prop := ∃ u, e = .returned (.tuple #[u, .int .i64 c]) ∧ Nds w' u r ∧ Keeps w w'
--
set_option maxRecDepth 20000 in
set_option maxHeartbeats 1000000 in
theorem implNot_any (a : List Nd) (v : Value) (w : World) (hv : Nds w v a) : Calls Tryz.prog 42 #[v] w (NdE w (notR a) (notE a)) := by
  have HF := hid (isFormula_any a v w hv)
  obtain ⟨p, n, c, rfl⟩ := hv.shape
  cases h : isFm a with
  | false =>
    rw [h] at HF
    have e1 : notE a = 1 := by unfold notE; rw [h]; rfl
    have e2 : notR a = [] := by unfold notR; rw [h]; rfl
    rw [e1, e2]
    clear h e1 e2
    go_enter Tryz.func42, Tryz.ntmps42
    go_wp2_with fail
    refine HF.out.mono ?_; rintro e w2 ⟨rfl, k2⟩
    go_wp2_with fail
    go_ret2
    exact ⟨_, rfl, nds_none _, k2⟩
  | true =>
    rw [h] at HF
    obtain ⟨t, hw, rfl, hl⟩ := isFm_tree h
    have e1 : notE t.enc = (madeL (Fm.not t).enc).2 := by unfold notE; rw [h]; rfl
    have e2 : notR t.enc = (madeL (Fm.not t).enc).1 := by unfold notR; rw [h]; rfl
    rw [e1, e2]
    have HNg := hid (fun w2 (k : Keeps w w2) => negation_any t _ w2 (hv.keeps k) (by omega))
    have hlen : (Fm.not t).enc.length ≤ 100 := by simp [Fm.not, Fm.enc]; omega
    have HLi := hid (fun x w2 (hx : Nds w2 x (Fm.not t).enc) => limited_any (Fm.not t).enc x w2 hx)
    clear h e1 e2 hv
    generalize Fm.not t = u at *
    go_enter Tryz.func42, Tryz.ntmps42
    go_wp2_with fail
    refine HF.out.mono ?_; rintro e w2 ⟨rfl, k2⟩
    go_wp2_with fail
    refine (HNg.out w2 k2).mono ?_; rintro e w3 ⟨v3, rfl, hv3, k3⟩
    have hn3 := hv3.nds (by omega)
    go_wp2_with fail
    refine (HLi.out v3 w3 hn3).mono ?_; rintro e w4 ⟨rfl, rfl⟩
    have hm := made_nds hn3
    generalize (if u.enc.length ≤ 40 then v3 else .slice none 0 0) = x at *
    go_wp2_with fail
    go_ret2
    exact ⟨_, rfl, hm, k2.trans k3⟩
--
set_option maxRecDepth 20000 in
set_option maxHeartbeats 1000000 in
theorem specNot_any (a : List Nd) (v : Value) (w : World) (hv : Nds w v a) : Calls Tryz.prog 43 #[v] w (NdE w (notR a) (notE a)) := by
  have HF := hid (l02Is_any a v w hv)
  obtain ⟨p, n, c, rfl⟩ := hv.shape
  cases h : isFm a with
  | false =>
    rw [h] at HF
    have e1 : notE a = 1 := by unfold notE; rw [h]; rfl
    have e2 : notR a = [] := by unfold notR; rw [h]; rfl
    rw [e1, e2]
    clear h e1 e2
    go_enter Tryz.func43, Tryz.ntmps43
    go_wp2_with fail
    refine HF.out.mono ?_; rintro e w2 ⟨rfl, rfl⟩
    go_wp2_with fail
    go_ret2
    exact ⟨_, rfl, nds_none _, Keeps.refl _⟩
  | true =>
    rw [h] at HF
    obtain ⟨t, hw, rfl, hl⟩ := isFm_tree h
    have e1 : notE t.enc = (madeL (Fm.not t).enc).2 := by unfold notE; rw [h]; rfl
    have e2 : notR t.enc = (madeL (Fm.not t).enc).1 := by unfold notR; rw [h]; rfl
    rw [e1, e2]
    have HNg := hid (l02Not_any t _ w hv (by omega))
    have hlen : (Fm.not t).enc.length ≤ 100 := by simp [Fm.not, Fm.enc]; omega
    have HLi := hid (fun x w2 (hx : Nds w2 x (Fm.not t).enc) => l02Made_any (Fm.not t).enc x w2 hx)
    clear h e1 e2 hv
    generalize Fm.not t = u at *
    go_enter Tryz.func43, Tryz.ntmps43
    go_wp2_with fail
    refine HF.out.mono ?_; rintro e w2 ⟨rfl, rfl⟩
    go_wp2_with fail
    refine HNg.out.mono ?_; rintro e w3 ⟨v3, rfl, hv3, k3⟩
    have hn3 := hv3.nds (by omega)
    go_wp2_with fail
    refine (HLi.out v3 w3 hn3).mono ?_; rintro e w4 ⟨rfl, rfl⟩
    have hm := made_nds hn3
    generalize (if u.enc.length ≤ 40 then v3 else .slice none 0 0) = x at *
    go_wp2_with fail
    go_ret2
    exact ⟨_, rfl, hm, k3⟩
--
set_option maxRecDepth 20000 in
theorem read5_any (t : Fm) (hw : t.wf) (s : ByteArray) (w : World) (hb : bts s = t.body) (hl : t.enc.length ≤ 40) : Calls Tryz.prog 41 #[.string s] w (RetN w t.enc) := by
  have HR := hid (specParse_any t hw s w hb hl)
  go_enter Tryz.func41, Tryz.ntmps41
  go_wp2_with fail
  refine HR.out.mono ?_; rintro e w2 ⟨v2, rfl, hv2, k2⟩
  go_wp2_with fail
  go_ret
  exact ⟨_, rfl, hv2, k2⟩
--
set_option maxRecDepth 20000 in
set_option maxHeartbeats 1000000 in
theorem drawFindUnifier_any (v : Value) (n : Nat) (w : World) (hv : Bts w v n) (hn : n ≤ 4096) : Calls Tryz.prog 34 #[v] w fun e w' => ∃ x y, ∃ a : List Nd, ∃ l : List (List Nd), e = .returned (.tuple #[x, y]) ∧ Nds w' x a ∧ NdsL w' y l ∧ a.length ≤ 1000 ∧ l.length ≤ 20 ∧ tot l ≤ 1000 ∧ Keeps w w' := by
  have HF := hid (l01From_any v n w hv hn)
  obtain ⟨p, c, rfl, _⟩ := hv
  go_enter Tryz.func34, Tryz.ntmps34
  go_wp2_with fail
  refine HF.out.mono ?_; rintro e w0 ⟨B, rfl, hB, hs, k0⟩
  go_wp2_with fail
  refine (l31Formula_any B w0 hs).mono ?_; rintro e w1 ⟨v1, a, rfl, hv1, hl1, d1⟩
  go_wp2_with fail
  refine (l31Candidates_any B w1 d1.2).mono ?_; rintro e w2 ⟨v2, l, rfl, hv2, hl2, ht2, d2⟩
  have h1 := (hv1.dr d2 hs.lt).nds (by omega)
  have h2 := hv2.ndsL (by omega) (by omega)
  go_wp2_with fail
  go_ret2
  exact ⟨_, _, a, l, rfl, h1, h2, hl1, hl2, ht2, Dr.keepsOf k0 hB (d1.trans d2)⟩
--
set_option maxRecDepth 20000 in
set_option maxHeartbeats 1000000 in
theorem drawSplitRule_any (v : Value) (n : Nat) (w : World) (hv : Bts w v n) (hn : n ≤ 4096) : Calls Tryz.prog 37 #[v] w (DrawnA 1000 w) := by
  have HF := hid (l01From_any v n w hv hn)
  obtain ⟨p, c, rfl, _⟩ := hv
  go_enter Tryz.func37, Tryz.ntmps37
  go_wp2_with fail
  refine HF.out.mono ?_; rintro e w0 ⟨B, rfl, hB, hs, k0⟩
  go_wp2_with fail
  refine (l01Next_any 8 B w0 hs (by omega)).mono ?_; rintro e w1 ⟨r, rfl, hr, d1⟩
  have hsz := k0.size
  by_cases h0 : r = 0
  · subst h0
    have HD := hid (l02Draw_any B 6 (by omega) false 6 (by omega) w1 d1.2)
    go_wp2_with fail
    refine HD.out.mono ?_; rintro e w4 ⟨v4, t4, rfl, hv4, hl4, d4⟩
    go_wp2_with fail
    go_ret
    exact ⟨_, t4.enc, rfl, hv4.mono (Nat.le_trans hsz d1.size), by omega, Dr.keepsOf k0 hB (d1.trans d4)⟩
  · have h0' : ((r : Nat) : Int) ≠ 0 := by omega
    have HA := hid (l31Formula_any B w1 d1.2)
    go_wp2_with fail
    refine HA.out.mono ?_; rintro e w2 ⟨v2, a2, rfl, hv2, hl2, d2⟩
    go_wp2_with fail
    go_ret
    exact ⟨_, a2, rfl, hv2.mono (Nat.le_trans hsz d1.size), hl2, Dr.keepsOf k0 hB (d1.trans d2)⟩
end Go.Proofs.YtpbbfoliabgkpaaGreat
