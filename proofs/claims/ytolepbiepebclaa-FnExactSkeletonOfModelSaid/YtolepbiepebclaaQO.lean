/- The skeleton of a model: both sides. -/
import Derived.Test.YtolepbiepebclaaQN
namespace Go.Proofs.Ytolepbiepebclaa
open Go.RowKit
theorem Sep.symm {va vb : Value} (h : Sep va vb) : Sep vb va := fun k e1 e2 => h k e2 e1
theorem Sep.nil (v : Value) : Sep (.slice none 0 0) v := fun k e => by cases e
/-- a value's image on the skeleton -/
def skM (b : List Nat) (m : Nat) : Nat := mapM (clB b) (boxB b m b.length)
def preB (b : List Nat) : Bool := reflB b && transB b
def skOk (n : Int) (a vs : List Int) : Bool := isMod n a vs && preB (a.map Int.toNat)
def skP (n : Int) (a vs : List Int) : List Int := if skOk n a vs then zs (qL (a.map Int.toNat) (a.map Int.toNat).length) else []
def skV (n : Int) (a vs : List Int) : List Int := if skOk n a vs then zs ((vs.map Int.toNat).map (skM (a.map Int.toNat))) else []
def skC (n : Int) (a vs : List Int) : List Int := if skOk n a vs then zs (clB (a.map Int.toNat)) else []
def skE (n : Int) (a vs : List Int) : Int := if isMod n a vs then (if preB (a.map Int.toNat) then 0 else 5) else 1
/-- three fresh rows come back -/
def RetSk (w : World) (x y z : List Int) (c : Int) (e : Ending) (w' : World) : Prop :=
  ∃ r0 r1 r2, e = .returned (.tuple #[.agg #[.int .i64 x.length, r0], r1, r2, .int .i64 c]) ∧ OwnI w' w.heap.size r0 x ∧ OwnI w' w.heap.size r1 y ∧ OwnI w' w.heap.size r2 z ∧ Sep r0 r1 ∧ Sep r0 r2 ∧ Sep r1 r2 ∧ Keeps w w'
theorem boxB_256 (b : List Nat) (hb : b.length ≤ 8) (m : Nat) : boxB b m b.length < 2 ^ b.length := boxB_lt b m _
theorem all_masks {b : List Nat} {vs : List Int} (h : vs.all (isM b.length) = true) : ∃ c : List Nat, vs = zs c ∧ ∀ i, c.getD i 0 < 2 ^ b.length := by
  obtain ⟨c, e, hc⟩ := all_isM h
  exact ⟨c, e, fun i => getD_lt hc i⟩
theorem map_take_succ {c : List Nat} {f : Nat → Nat} {i : Nat} (h : i < c.length) : (c.take (i + 1)).map f = (c.take i).map f ++ [f (c.getD i 0)] := by
  rw [List.take_succ_eq_append_getElem h, List.map_append, getD_get h]; rfl
--
set_option maxRecDepth 20000 in
set_option maxHeartbeats 4000000 in
theorem implSkeleton_any (n : Int) (a vs : List Int) (v u : Value) (w : World) (hv : Ints w v a) (hu : Ints w u vs) :
    Calls Try.prog 20 #[.agg #[.int .i64 n, v, u]] w (RetSk w (skP n a vs) (skV n a vs) (skC n a vs) (skE n a vs)) := by
  have kA := ((Keeps.refl w).alloc (.cells #[.int .i64 n, v, u] 29)).alloc (.cells #[.int .i64 0, .slice none 0 0] 32)
  have HP := hid (isModel_any n a vs v u _ (hv.keeps kA) (hu.keeps kA))
  obtain ⟨c0, c1, c2⟩ := (BoxM.made w n v u 29).keeps ((Keeps.refl _).alloc (.cells #[.int .i64 0, .slice none 0 0] 32))
  cases h1 : isMod n a vs
  · rw [h1] at HP
    simp only [skP, skV, skC, skE, skOk, h1, Bool.false_and, Bool.false_eq_true, if_false]
    clear h1
    obtain ⟨p, cap, rfl, _⟩ := hv
    obtain ⟨q, cap2, rfl, _⟩ := hu
    go_enter Try.func20, Try.ntmps20
    go_wp2_with fail
    refine HP.out.mono ?_; rintro e w2 ⟨rfl, k2⟩
    have e0 : w2.cell? ⟨w.heap.size + 1, 0, none⟩ = some (.int .i64 0) := k2.cell (by simp)
    have e1 : w2.cell? ⟨w.heap.size + 1, 1, none⟩ = some (.slice none 0 0) := k2.cell (by simp)
    obtain ⟨hc2, hf2⟩ := k2.both
    go_wp2_with fail
    refine bodyPost_ret (v := .tuple #[.agg #[.int .i64 0, .slice none 0 0], .slice none 0 0, .slice none 0 0, .int .i64 1]) (by simp [results, Try.results20, go_sem, e0, e1]) rfl ?_
    exact ⟨_, _, _, rfl, OwnI.nil _ _, OwnI.nil _ _, OwnI.nil _ _, Sep.nil _, Sep.nil _, Sep.nil _, ((kA.trans k2).setCell (by simp) _).setCell (by simp) _⟩
  · rw [h1] at HP
    have h1' := h1
    unfold isMod at h1'
    rw [Bool.and_eq_true, Bool.and_eq_true, decide_eq_true_eq] at h1'
    obtain ⟨hfr, h6, hall⟩ := h1'
    obtain ⟨b, rfl, rfl, h8, hbm⟩ := (isFra_iff n a).1 hfr
    rw [zs_length] at hall
    obtain ⟨c, rfl, hc⟩ := all_masks hall
    rw [zs_length] at h6
    have H0 := hid (fun w1 (k : Keeps w w1) => hasFlag0_any b v w1 (hv.keeps k) h8 hbm)
    have H2 := hid (fun w1 (k : Keeps w w1) => hasFlag2_any b v w1 (hv.keeps k) h8 hbm)
    simp only [skP, skV, skC, skE, skOk, h1, Bool.true_and, zs_toNat, if_true]
    have hpre : preB b = (reflB b && transB b) := rfl
    clear h1 hfr hall
    cases hr : reflB b
    · rw [hr] at H0 hpre
      simp only [hpre, Bool.false_and, Bool.false_eq_true, if_false]
      obtain ⟨p, cap, rfl, _⟩ := hv
      obtain ⟨q, cap2, rfl, _⟩ := hu
      rw [zs_length] at *
      clear hbm hr hpre hc
      go_enter Try.func20, Try.ntmps20
      go_wp2_with fail
      refine HP.out.mono ?_; rintro e w2 ⟨rfl, k2⟩
      have z0 := k2.cell c0
      have z1 := k2.cell c1
      go_wp2_with fail
      refine (H0.out _ (kA.trans k2)).mono ?_; rintro e w3 ⟨rfl, k3⟩
      have k23 := k2.trans k3
      have e0 : w3.cell? ⟨w.heap.size + 1, 0, none⟩ = some (.int .i64 0) := k23.cell (by simp)
      have e1 : w3.cell? ⟨w.heap.size + 1, 1, none⟩ = some (.slice none 0 0) := k23.cell (by simp)
      obtain ⟨hc2, hf2⟩ := k23.both
      go_wp2_with fail
      refine bodyPost_ret (v := .tuple #[.agg #[.int .i64 0, .slice none 0 0], .slice none 0 0, .slice none 0 0, .int .i64 5]) (by simp [results, Try.results20, go_sem, e0, e1]) rfl ?_
      exact ⟨_, _, _, rfl, OwnI.nil _ _, OwnI.nil _ _, OwnI.nil _ _, Sep.nil _, Sep.nil _, Sep.nil _, ((kA.trans k23).setCell (by simp) _).setCell (by simp) _⟩
    · cases ht : transB b
      · rw [hr] at H0
        rw [ht] at H2
        rw [hr, ht] at hpre
        simp only [hpre, Bool.and_false, Bool.false_eq_true, if_false]
        obtain ⟨p, cap, rfl, _⟩ := hv
        obtain ⟨q, cap2, rfl, _⟩ := hu
        rw [zs_length] at *
        clear hbm hr ht hpre hc
        go_enter Try.func20, Try.ntmps20
        go_wp2_with fail
        refine HP.out.mono ?_; rintro e w2 ⟨rfl, k2⟩
        have z0 := k2.cell c0
        have z1 := k2.cell c1
        go_wp2_with fail
        refine (H0.out _ (kA.trans k2)).mono ?_; rintro e w3 ⟨rfl, k3⟩
        have y0 := k3.cell z0
        have y1 := k3.cell z1
        clear z0 z1
        go_wp2_with fail
        refine (H2.out _ (kA.trans (k2.trans k3))).mono ?_; rintro e w4 ⟨rfl, k4⟩
        have k23 := k2.trans (k3.trans k4)
        have e0 : w4.cell? ⟨w.heap.size + 1, 0, none⟩ = some (.int .i64 0) := k23.cell (by simp)
        have e1 : w4.cell? ⟨w.heap.size + 1, 1, none⟩ = some (.slice none 0 0) := k23.cell (by simp)
        obtain ⟨hc2, hf2⟩ := k23.both
        go_wp2_with fail
        refine bodyPost_ret (v := .tuple #[.agg #[.int .i64 0, .slice none 0 0], .slice none 0 0, .slice none 0 0, .int .i64 5]) (by simp [results, Try.results20, go_sem, e0, e1]) rfl ?_
        exact ⟨_, _, _, rfl, OwnI.nil _ _, OwnI.nil _ _, OwnI.nil _ _, Sep.nil _, Sep.nil _, Sep.nil _, ((kA.trans k23).setCell (by simp) _).setCell (by simp) _⟩
      · have HCL := hid (fun w1 (k : Keeps w w1) => clusters_any b v w1 (hv.keeps k) h8 hbm hr ht)
        have HQ := hid (fun u1 w1 (k : Keeps w w1) (h : Ints w1 u1 (zs (clB b))) => quotient_any b v u1 w1 (hv.keeps k) h h8 hbm ht)
        have HBX := hid (fun m w1 (k : Keeps w w1) (hm : m < 256) => box_any b m v w1 (hv.keeps k) h8 hbm hm)
        have hcl := clB_len b
        have HMM := hid (fun m u1 w1 (hm : m < 2 ^ b.length) (h : Ints w1 u1 (zs (clB b))) => mapMask_any (clB b) m u1 w1 h (by rw [hcl]; exact h8) (clB_lt8 h8) (by rw [hcl]; exact hm))
        have hu0 := hu
        have h256 := two8 h8
        have HCM : Hid (∀ i, c.getD i 0 < 256) := hid (fun i => Nat.lt_of_lt_of_le (hc i) h256)
        have HBB := hid (fun m => boxB_lt b m b.length)
        have HST := hid (fun i (hi : i < c.length) => map_take_succ (f := skM b) hi)
        have HSK : Hid (∀ m, skM b m = mapM (clB b) (boxB b m b.length)) := hid (fun _ => rfl)
        have HEND : Hid ((c.take 6).map (skM b) = c.map (skM b)) := hid (by rw [List.take_of_length_le (by omega)])
        have HLN := hid (fun i (hi : i ≤ 6) => show (zs ((c.take i).map (skM b))).length = i by rw [zs_length, List.length_map, List.length_take]; omega)
        have hQL : (qL b b.length).length ≤ 8 := by rw [qL_len]; have := clS_le b b.length; omega
        rw [hr] at H0
        rw [ht] at H2
        rw [hr, ht] at hpre
        simp only [hpre, Bool.and_self, if_true]
        obtain ⟨p, cap, rfl, _, hmx, _⟩ := hv
        obtain ⟨q, cap2, rfl, _, hmx2, _⟩ := hu
        unfold maxLen at hmx hmx2
        have HC := hid (fun i (hi : i < c.length) (w1 : World) (k : Keeps w w1) => (hu0.keeps k).zs_cell i hi)
        clear hu0
        rw [zs_length c] at *
        rw [zs_length b] at *
        rw [h6] at *
        clear hbm hr ht hpre hc h6
        go_enter Try.func20, Try.ntmps20
        go_wp2_with fail
        refine HP.out.mono ?_; rintro e w2 ⟨rfl, k2⟩
        have z0 := k2.cell c0
        have z1 := k2.cell c1
        go_wp2_with fail
        refine (H0.out _ (kA.trans k2)).mono ?_; rintro e w3 ⟨rfl, k3⟩
        have y0 := k3.cell z0
        have y1 := k3.cell z1
        clear z0 z1
        go_wp2_with fail
        refine (H2.out _ (kA.trans (k2.trans k3))).mono ?_; rintro e w4 ⟨rfl, k4⟩
        have k24 := k2.trans (k3.trans k4)
        have z0 := k4.cell y0
        have z1 := k4.cell y1
        clear y0 y1
        go_wp2_with fail
        refine (HCL.out _ (kA.trans k24)).mono ?_; rintro e w5 ⟨vc, rfl, hvc, k5⟩
        have k25 := k24.trans k5
        have y1 := k25.cell c1
        have y2 := k25.cell c2
        obtain ⟨pc, mc, qc, rfl⟩ := hvc.shape0
        have HVC := hid hvc
        have hvi := hvc.ints (by rw [zs_length, hcl]; omega)
        have HVI := hid hvi
        clear hvi hvc z0 z1
        go_wp2_with fail
        go_loopw [7, 33] (fun o i' wr => ∃ i : Nat, i ≤ 6 ∧ i' = .int .i64 i ∧ OwnI wr w5.heap.size o (zs ((c.take i).map (skM b))) ∧ Keeps w5 wr) (fun _ i' _ => 6 - (intOf i').toNat)
        case atStart => exact ⟨0, by omega, rfl, by simpa [zs] using OwnI.nil w5 w5.heap.size, Keeps.refl _⟩
        case round =>
          obtain ⟨i, hi, rfl, hown, kw⟩ := hrel
          have x1 := kw.cell y1
          have x2 := kw.cell y2
          by_cases hlt : i < 6
          · have hlt' : (i : Int) < 6 := by omega
            obtain ⟨b2, o2, rfl, h2⟩ := HC.out i (by first | exact hlt | omega) wr (kA.trans (k25.trans kw))
            have hci := HCM.out i
            have HB := hid (HBX.out (c.getD i 0) wr (kA.trans (k25.trans kw)) hci)
            have HM := hid (HMM.out (boxB b (c.getD i 0) b.length) _ wr (HBB.out _) (HVI.out.keeps kw))
            have hst := HST.out i (by first | exact hlt | omega)
            rw [HSK.out] at hst
            have HSTi := hid hst; clear hst
            have hll := HLN.out i hi
            have HO := hid hown; clear hown
            generalize mapM (clB b) (boxB b (c.getD i 0) b.length) = M at *
            generalize boxB b (c.getD i 0) b.length = X at *
            generalize c.getD i 0 = ci at *
            generalize hL : zs ((c.take i).map (skM b)) = L at *
            have HL := hid hL; clear hL
            go_wp2_with (first | (go_at_call 45; refine HB.out.mono ?_; rintro e w' ⟨rfl, rfl⟩) | (go_at_call 44; refine HM.out.mono ?_; rintro e w6 ⟨rfl, k6⟩) | (at_builtin; refine appI rfl _ _ rfl w5.heap.size _ L rfl (HO.out.keeps (k6.alloc _)) _ [(M : Int)] rfl (Ints.lit1 w6 M) (by have h1 := k6.size; have h2 := kw.size; simp; omega) (by simp; omega) ?_; intro v1 w7 hv1 hg1 hr1; have k7 := ((kw.trans k6).alloc (.cells #[.int .i64 M] 2)).grown hg1 (by simpa using hr1)))
            go_roundw
            case rel => exact ⟨i + 1, by omega, by go_num, by rw [HSTi.out, zs_snoc, HL.out]; exact hv1, k7⟩
            case measure => simp [intOf]; omega
          · obtain rfl : i = 6 := by omega
            have hlt' : ¬ ((6 : Nat) : Int) < 6 := by omega
            rw [HEND.out] at hown
            have HO := hid hown; clear hown
            have HVw := hid (HVI.out.keeps kw)
            have kk := kA.trans (k25.trans kw)
            go_wp2_with fail
            refine (HQ.out _ _ kk HVw.out).mono ?_; rintro e w6 ⟨vq, rfl, hvq, k6⟩
            have hvqi := hvq.ints (by rw [zs_length]; omega)
            go_wp2_with fail
            refine (posetOf_any _ _ _ hvqi).mono ?_; rintro e w7 ⟨rfl, k7⟩
            rw [zs_length]
            obtain ⟨pq, mq, qq, rfl⟩ := hvq.shape0
            obtain ⟨po, mo, qo, rfl⟩ := HO.out.shape0
            have k67 := k6.trans k7
            have kall := k25.trans (kw.trans k67)
            have e0 : w7.cell? ⟨w.heap.size + 1, 0, none⟩ = some (.int .i64 0) := kall.cell (by simp)
            have e1 : w7.cell? ⟨w.heap.size + 1, 1, none⟩ = some (.slice none 0 0) := kall.cell (by simp)
            obtain ⟨hc2, hf2⟩ := kall.both
            have hs1 : Sep (.slice pq mq qq) (.slice po mo qo) := Sep.symm (Sep.of HO.out hvq (Nat.le_refl _))
            have hs2 : Sep (.slice pq mq qq) (.slice pc mc qc) := Sep.symm (Sep.of (HVC.out.keeps kw) hvq (Nat.le_refl _))
            have hs3 : Sep (.slice po mo qo) (.slice pc mc qc) := Sep.symm (Sep.of HVC.out HO.out (Nat.le_refl _))
            have r0 := hvq.keeps k7
            have r1 := HO.out.keeps k67
            have r2 := HVC.out.keeps (kw.trans k67)
            have s1 := kw.size
            have s2 := k5.size
            have s3 := k24.size
            simp at s3
            go_wp2_with fail
            refine bodyPost_ret (v := .tuple #[.agg #[.int .i64 (qL b b.length).length, .slice pq mq qq], .slice po mo qo, .slice pc mc qc, .int .i64 0]) (by simp [results, Try.results20, go_sem, e0, e1]) rfl ?_
            exact ⟨_, _, _, by rw [zs_length], ((r0.setBelow (by omega) _).setBelow (by omega) _).mono (by omega), ((r1.setBelow (by omega) _).setBelow (by omega) _).mono (by omega), ((r2.setBelow (by omega) _).setBelow (by omega) _).mono (by omega), hs1, hs2, hs3, ((kA.trans kall).setCell (by simp) _).setCell (by simp) _⟩
end Go.Proofs.Ytolepbiepebclaa
