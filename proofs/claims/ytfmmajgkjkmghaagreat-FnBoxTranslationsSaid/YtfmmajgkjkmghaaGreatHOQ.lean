import Derived.Test.YtfmmajgkjkmghaaGreatHQN
import Derived.Test.YtfmmajgkjkmghaaGreatHQG
import Derived.Test.YtfmmajgkjkmghaaGreatHK3
import Derived.Test.YtfmmajgkjkmghaaGreatHQI
import Derived.Test.YtfmmajgkjkmghaaGreatHP3
import Derived.Test.YtfmmajgkjkmghaaGreatHD4
import Derived.Test.YtfmmajgkjkmghaaGreatHP6
import Derived.Test.YtfmmajgkjkmghaaGreatHOG
/- The skeleton of a model: both sides. -/
namespace Go.Proofs.YtfmmajgkjkmghaaGreat
open Go.RowKit
theorem Sep.symm {va vb : Value} (h : Sep va vb) : Sep vb va := fun k e1 e2 => h k e2 e1
theorem Sep.nil (v : Value) : Sep (.slice none 0 0) v := fun k e => by cases e
def skM (b : List Nat) (m : Nat) : Nat := mapM (clB b) (boxB b m b.length)
def preB (b : List Nat) : Bool := reflB b && transB b
def skOk (n : Int) (a vs : List Int) : Bool := isMod n a vs && preB (a.map Int.toNat)
def skP (n : Int) (a vs : List Int) : List Int := if skOk n a vs then zs (qL (a.map Int.toNat) (a.map Int.toNat).length) else []
def skV (n : Int) (a vs : List Int) : List Int := if skOk n a vs then zs ((vs.map Int.toNat).map (skM (a.map Int.toNat))) else []
def skC (n : Int) (a vs : List Int) : List Int := if skOk n a vs then zs (clB (a.map Int.toNat)) else []
def skE (n : Int) (a vs : List Int) : Int := if isMod n a vs then (if preB (a.map Int.toNat) then 0 else 5) else 1
def RetSk (w : World) (x y z : List Int) (c : Int) (e : Ending) (w' : World) : Prop :=
 ∃ r0 r1 r2, e = .returned (.tuple #[.agg #[.int .i64 x.length, r0], r1, r2, .int .i64 c]) ∧ OwnI w' w.heap.size r0 x ∧ OwnI w' w.heap.size r1 y ∧ OwnI w' w.heap.size r2 z ∧ Sep r0 r1 ∧ Sep r0 r2 ∧ Sep r1 r2 ∧ Keeps w w'
theorem all_masks {b : List Nat} {vs : List Int} (h : vs.all (isM b.length) = true) : ∃ c : List Nat, vs = zs c ∧ ∀ i, c.getD i 0 < 2 ^ b.length := by
 obtain ⟨c, e, hc⟩ := all_isM h
 exact ⟨c, e, fun i => getD_lt hc i⟩
theorem map_take_succ {c : List Nat} {f : Nat → Nat} {i : Nat} (h : i < c.length) : (c.take (i + 1)).map f = (c.take i).map f ++ [f (c.getD i 0)] := by
 rw [List.take_succ_eq_append_getElem h, List.map_append, getD_get h]; rfl
set_option maxRecDepth 20000 in
set_option maxHeartbeats 4000000 in
theorem implSkeleton_any (n : Int) (a vs : List Int) (v u : Value) (w : World) (hv : Ints w v a) (hu : Ints w u vs) :
  Calls Tryz.prog 15 #[.agg #[.int .i64 n, v, u]] w (RetSk w (skP n a vs) (skV n a vs) (skC n a vs) (skE n a vs)) := by
 have kA := ((Keeps.refl w).alloc (.cells #[.int .i64 n, v, u] 37)).alloc (.cells #[.int .i64 0, .slice none 0 0] 31)
 have HP := hid (isModel_any n a vs v u _ (hv.keeps kA) (hu.keeps kA))
 obtain ⟨c0, c1, c2⟩ := (BoxM.made w n v u 37).keeps ((Keeps.refl _).alloc (.cells #[.int .i64 0, .slice none 0 0] 31))
 cases h1 : isMod n a vs
 ·rw [h1] at HP
  simp only [skP, skV, skC, skE, skOk, h1, Bool.false_and, Bool.false_eq_true, if_false]
  clear h1
  obtain ⟨p, cap, rfl, _⟩ := hv
  obtain ⟨q, cap2, rfl, _⟩ := hu
  go_enter Tryz.func15, Tryz.ntmps15
  go_wp2_with fail
  refine HP.out.mono ?_; rintro e w2 ⟨rfl, k2⟩
  have e0 : w2.cell? ⟨w.heap.size + 1, 0, none⟩ = some (.int .i64 0) := k2.cell (by simp)
  have e1 : w2.cell? ⟨w.heap.size + 1, 1, none⟩ = some (.slice none 0 0) := k2.cell (by simp)
  obtain ⟨hc2, hf2⟩ := k2.both
  go_wp2_with fail
  refine bodyPost_ret (v := .tuple #[.agg #[.int .i64 0, .slice none 0 0], .slice none 0 0, .slice none 0 0, .int .i64 1]) (by simp [results, Tryz.results15, go_sem, e0, e1]) rfl ?_
  exact ⟨_, _, _, rfl, OwnI.nil _ _, OwnI.nil _ _, OwnI.nil _ _, Sep.nil _, Sep.nil _, Sep.nil _, ((kA.trans k2).setCell (by simp) _).setCell (by simp) _⟩
 ·rw [h1] at HP
  have h1' := h1
  unfold isMod at h1'
  rw [Bool.and_eq_true, Bool.and_eq_true, decide_eq_true_eq] at h1'
  obtain ⟨hfr, h6, hall⟩ := h1'
  obtain ⟨b, rfl, rfl, h8, hbm⟩ := (isFra_iff n a).1 hfr
  rw [zs_length] at hall
  obtain ⟨c, rfl, hc⟩ := all_masks hall
  rw [zs_length] at h6
  have H0 := hid (fun w1 (k : Keeps w w1) => hasFlag0_any b v w1 (hv.keeps k) h8 hbm)
  have H2 := hid (fun w1 (k : Keeps w w1) => hasFlag2_any b v w1 (hv.keeps k) h8 hbm)
  simp only [skP, skV, skC, skE, skOk, h1, Bool.true_and, zs_toNat, if_true]
  have hpre : preB b = (reflB b && transB b) := rfl
  clear h1 hfr hall
  cases hr : reflB b
  ·rw [hr] at H0 hpre
   simp only [hpre, Bool.false_and, Bool.false_eq_true, if_false]
   obtain ⟨p, cap, rfl, _⟩ := hv
   obtain ⟨q, cap2, rfl, _⟩ := hu
   rw [zs_length] at *
   clear hbm hr hpre hc
   go_enter Tryz.func15, Tryz.ntmps15
   go_wp2_with fail
   refine HP.out.mono ?_; rintro e w2 ⟨rfl, k2⟩
   have z0 := k2.cell c0
   have z1 := k2.cell c1
   go_wp2_with fail
   refine (H0.out _ (kA.trans k2)).mono ?_; rintro e w3 ⟨rfl, k3⟩
   have k23 := k2.trans k3
   have e0 : w3.cell? ⟨w.heap.size + 1, 0, none⟩ = some (.int .i64 0) := k23.cell (by simp)
   have e1 : w3.cell? ⟨w.heap.size + 1, 1, none⟩ = some (.slice none 0 0) := k23.cell (by simp)
   obtain ⟨hc2, hf2⟩ := k23.both
   go_wp2_with fail
   refine bodyPost_ret (v := .tuple #[.agg #[.int .i64 0, .slice none 0 0], .slice none 0 0, .slice none 0 0, .int .i64 5]) (by simp [results, Tryz.results15, go_sem, e0, e1]) rfl ?_
   exact ⟨_, _, _, rfl, OwnI.nil _ _, OwnI.nil _ _, OwnI.nil _ _, Sep.nil _, Sep.nil _, Sep.nil _, ((kA.trans k23).setCell (by simp) _).setCell (by simp) _⟩
  ·cases ht : transB b
   ·rw [hr] at H0
    rw [ht] at H2
    rw [hr, ht] at hpre
    simp only [hpre, Bool.and_false, Bool.false_eq_true, if_false]
    obtain ⟨p, cap, rfl, _⟩ := hv
    obtain ⟨q, cap2, rfl, _⟩ := hu
    rw [zs_length] at *
    clear hbm hr ht hpre hc
    go_enter Tryz.func15, Tryz.ntmps15
    go_wp2_with fail
    refine HP.out.mono ?_; rintro e w2 ⟨rfl, k2⟩
    have z0 := k2.cell c0
    have z1 := k2.cell c1
    go_wp2_with fail
    refine (H0.out _ (kA.trans k2)).mono ?_; rintro e w3 ⟨rfl, k3⟩
    have y0 := k3.cell z0
    have y1 := k3.cell z1
    clear z0 z1
    go_wp2_with fail
    refine (H2.out _ (kA.trans (k2.trans k3))).mono ?_; rintro e w4 ⟨rfl, k4⟩
    have k23 := k2.trans (k3.trans k4)
    have e0 : w4.cell? ⟨w.heap.size + 1, 0, none⟩ = some (.int .i64 0) := k23.cell (by simp)
    have e1 : w4.cell? ⟨w.heap.size + 1, 1, none⟩ = some (.slice none 0 0) := k23.cell (by simp)
    obtain ⟨hc2, hf2⟩ := k23.both
    go_wp2_with fail
    refine bodyPost_ret (v := .tuple #[.agg #[.int .i64 0, .slice none 0 0], .slice none 0 0, .slice none 0 0, .int .i64 5]) (by simp [results, Tryz.results15, go_sem, e0, e1]) rfl ?_
    exact ⟨_, _, _, rfl, OwnI.nil _ _, OwnI.nil _ _, OwnI.nil _ _, Sep.nil _, Sep.nil _, Sep.nil _, ((kA.trans k23).setCell (by simp) _).setCell (by simp) _⟩
   ·have HCL := hid (fun w1 (k : Keeps w w1) => clusters_any b v w1 (hv.keeps k) h8 hbm hr ht)
    have HQ := hid (fun u1 w1 (k : Keeps w w1) (h : Ints w1 u1 (zs (clB b))) => quotient_any b v u1 w1 (hv.keeps k) h h8 hbm ht)
    have HBX := hid (fun m w1 (k : Keeps w w1) (hm : m < 256) => box_any b m v w1 (hv.keeps k) h8 hbm hm)
    have hcl := clB_len b
    have HMM := hid (fun m u1 w1 (hm : m < 2 ^ b.length) (h : Ints w1 u1 (zs (clB b))) => mapMask_any (clB b) m u1 w1 h (by rw [hcl]; exact h8) (clB_lt8 h8) (by rw [hcl]; exact hm))
    have hu0 := hu
    have h256 := two8 h8
    have HCM : Hid (∀ i, c.getD i 0 < 256) := hid (fun i => Nat.lt_of_lt_of_le (hc i) h256)
    have HBB := hid (fun m => boxB_lt b m b.length)
    have HST := hid (fun i (hi : i < c.length) => map_take_succ (f := skM b) hi)
    have HSK : Hid (∀ m, skM b m = mapM (clB b) (boxB b m b.length)) := hid (fun _ => rfl)
    have HEND : Hid ((c.take 6).map (skM b) = c.map (skM b)) := hid (by rw [List.take_of_length_le (by omega)])
    have HLN := hid (fun i (hi : i ≤ 6) => show (zs ((c.take i).map (skM b))).length = i by rw [zs_length, List.length_map, List.length_take]; omega)
    have hQL : (qL b b.length).length ≤ 8 := by rw [qL_len]; have := clS_le b b.length; omega
    rw [hr] at H0
    rw [ht] at H2
    rw [hr, ht] at hpre
    simp only [hpre, Bool.and_self, if_true]
    obtain ⟨p, cap, rfl, _, hmx, _⟩ := hv
    obtain ⟨q, cap2, rfl, _, hmx2, _⟩ := hu
    unfold maxLen at hmx hmx2
    have HC := hid (fun i (hi : i < c.length) (w1 : World) (k : Keeps w w1) => (hu0.keeps k).zs_cell i hi)
    clear hu0
    rw [zs_length c] at *
    rw [zs_length b] at *
    rw [h6] at *
    clear hbm hr ht hpre hc h6
    go_enter Tryz.func15, Tryz.ntmps15
    go_wp2_with fail
    refine HP.out.mono ?_; rintro e w2 ⟨rfl, k2⟩
    have z0 := k2.cell c0
    have z1 := k2.cell c1
    go_wp2_with fail
    refine (H0.out _ (kA.trans k2)).mono ?_; rintro e w3 ⟨rfl, k3⟩
    have y0 := k3.cell z0
    have y1 := k3.cell z1
    clear z0 z1
    go_wp2_with fail
    refine (H2.out _ (kA.trans (k2.trans k3))).mono ?_; rintro e w4 ⟨rfl, k4⟩
    have k24 := k2.trans (k3.trans k4)
    have z0 := k4.cell y0
    have z1 := k4.cell y1
    clear y0 y1
    go_wp2_with fail
    refine (HCL.out _ (kA.trans k24)).mono ?_; rintro e w5 ⟨vc, rfl, hvc, k5⟩
    have k25 := k24.trans k5
    have y1 := k25.cell c1
    have y2 := k25.cell c2
    obtain ⟨pc, mc, qc, rfl⟩ := hvc.shape0
    have HVC := hid hvc
    have hvi := hvc.ints (by rw [zs_length, hcl]; omega)
    have HVI := hid hvi
    clear hvi hvc z0 z1
    go_wp2_with fail
    go_loopw [7, 33] (fun o i' wr => ∃ i : Nat, i ≤ 6 ∧ i' = .int .i64 i ∧ OwnI wr w5.heap.size o (zs ((c.take i).map (skM b))) ∧ Keeps w5 wr) (fun _ i' _ => 6 - (intOf i').toNat)
    case atStart => exact ⟨0, by omega, rfl, by simpa [zs] using OwnI.nil w5 w5.heap.size, Keeps.refl _⟩
    case round =>
     obtain ⟨i, hi, rfl, hown, kw⟩ := hrel
     have x1 := kw.cell y1
     have x2 := kw.cell y2
     by_cases hlt : i < 6
     ·have hlt' : (i : Int) < 6 := by omega
      obtain ⟨b2, o2, rfl, h2⟩ := HC.out i (by first | exact hlt | omega) wr (kA.trans (k25.trans kw))
      have hci := HCM.out i
      have HB := hid (HBX.out (c.getD i 0) wr (kA.trans (k25.trans kw)) hci)
      have HM := hid (HMM.out (boxB b (c.getD i 0) b.length) _ wr (HBB.out _) (HVI.out.keeps kw))
      have hst := HST.out i (by first | exact hlt | omega)
      rw [HSK.out] at hst
      have HSTi := hid hst; clear hst
      have hll := HLN.out i hi
      have HO := hid hown; clear hown
      generalize mapM (clB b) (boxB b (c.getD i 0) b.length) = M at *
      generalize boxB b (c.getD i 0) b.length = X at *
      generalize c.getD i 0 = ci at *
      generalize hL : zs ((c.take i).map (skM b)) = L at *
      have HL := hid hL; clear hL
      go_wp2_with (first | (go_at_call 58; refine HB.out.mono ?_; rintro e w' ⟨rfl, rfl⟩) | (go_at_call 57; refine HM.out.mono ?_; rintro e w6 ⟨rfl, k6⟩) | (at_builtin; refine appI rfl _ _ rfl w5.heap.size _ L rfl (HO.out.keeps (k6.alloc _)) _ [(M : Int)] rfl (Ints.lit1 w6 M) (by have h1 := k6.size; have h2 := kw.size; simp; omega) (by simp; omega) ?_; intro v1 w7 hv1 hg1 hr1; have k7 := ((kw.trans k6).alloc (.cells #[.int .i64 M] 2)).grown hg1 (by simpa using hr1)))
      go_roundw
      case rel => exact ⟨i + 1, by omega, by go_num, by rw [HSTi.out, zs_snoc, HL.out]; exact hv1, k7⟩
      case measure => simp [intOf]; omega
     ·obtain rfl : i = 6 := by omega
      have hlt' : ¬ ((6 : Nat) : Int) < 6 := by omega
      rw [HEND.out] at hown
      have HO := hid hown; clear hown
      have HVw := hid (HVI.out.keeps kw)
      have kk := kA.trans (k25.trans kw)
      go_wp2_with fail
      refine (HQ.out _ _ kk HVw.out).mono ?_; rintro e w6 ⟨vq, rfl, hvq, k6⟩
      have hvqi := hvq.ints (by rw [zs_length]; omega)
      go_wp2_with fail
      refine (posetOf_any _ _ _ hvqi).mono ?_; rintro e w7 ⟨rfl, k7⟩
      rw [zs_length]
      obtain ⟨pq, mq, qq, rfl⟩ := hvq.shape0
      obtain ⟨po, mo, qo, rfl⟩ := HO.out.shape0
      have k67 := k6.trans k7
      have kall := k25.trans (kw.trans k67)
      have e0 : w7.cell? ⟨w.heap.size + 1, 0, none⟩ = some (.int .i64 0) := kall.cell (by simp)
      have e1 : w7.cell? ⟨w.heap.size + 1, 1, none⟩ = some (.slice none 0 0) := kall.cell (by simp)
      obtain ⟨hc2, hf2⟩ := kall.both
      have hs1 : Sep (.slice pq mq qq) (.slice po mo qo) := Sep.symm (Sep.of HO.out hvq (Nat.le_refl _))
      have hs2 : Sep (.slice pq mq qq) (.slice pc mc qc) := Sep.symm (Sep.of (HVC.out.keeps kw) hvq (Nat.le_refl _))
      have hs3 : Sep (.slice po mo qo) (.slice pc mc qc) := Sep.symm (Sep.of HVC.out HO.out (Nat.le_refl _))
      have r0 := hvq.keeps k7
      have r1 := HO.out.keeps k67
      have r2 := HVC.out.keeps (kw.trans k67)
      have s1 := kw.size
      have s2 := k5.size
      have s3 := k24.size
      simp at s3
      go_wp2_with fail
      refine bodyPost_ret (v := .tuple #[.agg #[.int .i64 (qL b b.length).length, .slice pq mq qq], .slice po mo qo, .slice pc mc qc, .int .i64 0]) (by simp [results, Tryz.results15, go_sem, e0, e1]) rfl ?_
      exact ⟨_, _, _, by rw [zs_length], ((r0.setBelow (by omega) _).setBelow (by omega) _).mono (by omega), ((r1.setBelow (by omega) _).setBelow (by omega) _).mono (by omega), ((r2.setBelow (by omega) _).setBelow (by omega) _).mono (by omega), hs1, hs2, hs3, ((kA.trans kall).setCell (by simp) _).setCell (by simp) _⟩
end Go.Proofs.YtfmmajgkjkmghaaGreat
namespace Go.Proofs.YtfmmajgkjkmghaaGreat
open Go.RowKit
theorem isFm_of {t : Fm} (hw : t.wf) (hl : t.enc.length ≤ 40) : isFm t.enc = true := by unfold isFm; rw [isTree_of_enc hw, decide_eq_true hl]; rfl
theorem madeL_ok {a : List Nd} (h : (madeL a).2 = 0) : a.length ≤ 40 ∧ (madeL a).1 = a := by
 unfold madeL at *
 by_cases hl : a.length ≤ 40
 ·rw [if_pos hl]; exact ⟨hl, rfl⟩
 ·rw [if_neg hl] at h; simp at h
theorem madeL_code (a : List Nd) : (madeL a).2 = 0 ∨ (madeL a).2 = 3 := by
 unfold madeL
 by_cases hl : a.length ≤ 40
 ·rw [if_pos hl]; exact .inl rfl
 ·rw [if_neg hl]; exact .inr rfl
theorem bxt_wf : ∀ t : Fm, t.wf → (bxt t).wf
 | .var v, h => by simpa [bxt, Fm.wf] using h
 | .fls, _ => trivial
 | .and a b, h => ⟨bxt_wf a h.1, bxt_wf b h.2⟩
 | .or a b, h => ⟨bxt_wf a h.1, bxt_wf b h.2⟩
 | .imp a b, h => ⟨bxt_wf a h.1, bxt_wf b h.2⟩
 | .box a, _ => by simp [bxt, Fm.wf]
 | .dia a, _ => by simp [bxt, Fm.wf]
theorem outr_wf : ∀ t : Fm, t.wf → (outr t).wf
 | .var v, h => by simpa [outr, Fm.wf] using h
 | .fls, _ => trivial
 | .and a b, h => ⟨outr_wf a h.1, outr_wf b h.2⟩
 | .or a b, h => ⟨outr_wf a h.1, outr_wf b h.2⟩
 | .imp a b, h => ⟨outr_wf a h.1, outr_wf b h.2⟩
 | .box a, _ => by simp [outr, Fm.wf]
 | .dia a, _ => by simp [outr, Fm.wf]
theorem val_is {n : Int} {a vs : List Int} (h : isVal n a vs = true) : ∃ b c : List Nat, a = zs b ∧ n = b.length ∧ vs = zs c ∧ Pos b ∧ c.length = 6 ∧ Bnd b.length c ∧ ∀ p, c.getD p 0 ∈ upL b := by
 unfold isVal at h
 rw [Bool.and_eq_true, Bool.and_eq_true, decide_eq_true_eq] at h
 obtain ⟨h1, h6, h3⟩ := h
 obtain ⟨b, rfl, rfl, h8, hbm, hp⟩ := (isPos_iff n a).1 h1
 rw [zs_toNat] at h3
 have hm : vs.all (isM b.length) = true := by
  rw [List.all_eq_true] at h3 ⊢
  intro x hx
  have := h3 x hx
  unfold isUpI at this
  rw [Bool.and_eq_true] at this
  exact this.1
 obtain ⟨c, rfl, hc⟩ := all_isM hm
 have hup : ∀ x ∈ c, x ∈ upL b := fun x hx => by
  have := List.all_eq_true.1 h3 (x : Int) (by unfold zs; exact List.mem_map.2 ⟨x, hx, rfl⟩)
  unfold isUpI at this
  rw [Bool.and_eq_true, decide_eq_true_eq, Int.toNat_natCast] at this
  unfold upL upK
  rw [List.mem_filter, List.mem_range]
  refine ⟨hc x hx, ?_⟩
  unfold isUp
  rw [beq_iff_eq]
  exact_mod_cast this.2
 refine ⟨b, c, rfl, rfl, rfl, Pos.of h8 hbm hp, by rw [zs_length] at h6; exact h6, mem_bnd hc, fun p => ?_⟩
 by_cases hpl : p < c.length
 ·rw [getD_get hpl]; exact hup _ (List.getElem_mem hpl)
 ·rw [List.getD_eq_getElem?_getD, List.getElem?_eq_none (by omega)]
  exact (mem_upL (Pos.of h8 hbm hp).2.2.1).2 ⟨Nat.two_pow_pos _, fun x y _ hx => by simp at hx⟩
theorem pos_isPos {b : List Nat} (hp : Pos b) : isPos b.length (zs b) = true := (isPos_iff _ _).2 ⟨b, rfl, rfl, hp.1, hp.2.1, by
 obtain ⟨_, _, hr, ht, ha⟩ := hp
 unfold posB
 rw [hr, ht, ha]
 rfl⟩
theorem is_val {b c : List Nat} (hp : Pos b) (h6 : c.length = 6) (hc : ∀ x ∈ c, x ∈ upL b) : isVal b.length (zs b) (zs c) = true := by
 unfold isVal
 rw [pos_isPos hp, zs_toNat, decide_eq_true (show (zs c).length = 6 by rw [zs_length]; exact h6), Bool.true_and, Bool.true_and, List.all_eq_true]
 intro x hx
 unfold zs at hx
 obtain ⟨m, hm, rfl⟩ := List.mem_map.1 hx
 have h := hc m hm
 unfold upL upK at h
 rw [List.mem_filter, List.mem_range] at h
 unfold isUpI
 rw [Bool.and_eq_true, decide_eq_true_eq, isM_iff]
 refine ⟨⟨m, rfl, h.1⟩, ?_⟩
 have h2 := h.2
 unfold isUp at h2
 rw [beq_iff_eq] at h2
 exact congrArg (fun k : Nat => (k : Int)) h2
theorem is_mod {b c : List Nat} (h8 : b.length ≤ 8) (hb : Bnd b.length b) (h6 : c.length = 6) (hc : Bnd b.length c) : isMod b.length (zs b) (zs c) = true := by
 unfold isMod
 rw [(isFra_iff _ _).2 ⟨b, rfl, rfl, h8, hb⟩, decide_eq_true (show (zs c).length = 6 by rw [zs_length]; exact h6), Bool.true_and, Bool.true_and, zs_length]
 exact isM_all (bnd_mem hc)
theorem mod_is {n : Int} {a vs : List Int} (h : isMod n a vs = true) : ∃ b c : List Nat, a = zs b ∧ n = b.length ∧ vs = zs c ∧ b.length ≤ 8 ∧ Bnd b.length b ∧ c.length = 6 ∧ Bnd b.length c := by
 unfold isMod at h
 rw [Bool.and_eq_true, Bool.and_eq_true, decide_eq_true_eq] at h
 obtain ⟨h1, h6, h3⟩ := h
 obtain ⟨b, rfl, rfl, h8, hbm⟩ := (isFra_iff n a).1 h1
 rw [zs_length] at h3
 obtain ⟨c, rfl, hc⟩ := all_isM h3
 exact ⟨b, c, rfl, rfl, rfl, h8, hbm, by rw [zs_length] at h6; exact h6, mem_bnd hc⟩
theorem sk_is {n : Int} {a vs : List Int} (h : skE n a vs = 0) : ∃ b c : List Nat, a = zs b ∧ n = b.length ∧ vs = zs c ∧ b.length ≤ 8 ∧ Bnd b.length b ∧ c.length = 6 ∧ Bnd b.length c ∧ reflB b = true ∧ transB b = true ∧
  skP n a vs = zs (qL b b.length) ∧ skV n a vs = zs (c.map fun m => mapM (clB b) (boxB b m b.length)) ∧ skC n a vs = zs (clB b) := by
 unfold skE at h
 by_cases hm : isMod n a vs = true
 ·rw [if_pos hm] at h
  obtain ⟨b, c, rfl, rfl, rfl, h8, hb, h6, hc⟩ := mod_is hm
  rw [zs_toNat] at h
  by_cases hp : preB b = true
  ·have hok : skOk b.length (zs b) (zs c) = true := by unfold skOk; rw [hm, zs_toNat, hp]; rfl
   have hp' := hp
   unfold preB at hp'
   rw [Bool.and_eq_true] at hp'
   refine ⟨b, c, rfl, rfl, rfl, h8, hb, h6, hc, hp'.1, hp'.2, ?_, ?_, ?_⟩
   ·unfold skP; rw [if_pos hok, zs_toNat]
   ·unfold skV; rw [if_pos hok, zs_toNat, zs_toNat]; rfl
   ·unfold skC; rw [if_pos hok, zs_toNat]
  ·rw [if_neg hp] at h; simp at h
 ·rw [if_neg hm] at h; simp at h
end Go.Proofs.YtfmmajgkjkmghaaGreat
namespace Go.Proofs.YtfmmajgkjkmghaaGreat
namespace Ax
def p : Fm := .var 0
def q : Fm := .var 1
def r : Fm := .var 2
end Ax
end Go.Proofs.YtfmmajgkjkmghaaGreat
namespace Go.Proofs.YtfmmajgkjkmghaaGreat
open Go.RowKit
def texts12 : List ByteArray := [⟨#[112, 124, 126, 112]⟩, ⟨#[126, 126, 112, 62, 112]⟩, ⟨#[40, 40, 112, 62, 113, 41, 62, 112, 41, 62, 112]⟩, ⟨#[126, 126, 40, 112, 124, 126, 112, 41]⟩, ⟨#[40, 112, 62, 113, 41, 124, 40, 113, 62, 112, 41]⟩,
 ⟨#[126, 40, 112, 38, 113, 41, 62, 126, 112, 124, 126, 113]⟩, ⟨#[126, 112, 124, 126, 126, 112]⟩, ⟨#[112, 62, 126, 126, 112]⟩, ⟨#[40, 112, 62, 113, 41, 62, 126, 113, 62, 126, 112]⟩, ⟨#[126, 126, 40, 112, 62, 113, 41, 62, 126, 126, 112, 62, 126, 126, 113]⟩,
 ⟨#[40, 126, 112, 62, 113, 124, 114, 41, 62, 40, 126, 112, 62, 113, 41, 124, 40, 126, 112, 62, 114, 41]⟩, ⟨#[112, 38, 40, 113, 124, 114, 41, 62, 112, 38, 113, 124, 112, 38, 114]⟩]
def ngF (a : Fm) : Fm := .imp a .fls
open Ax in
def forms12 : List Fm := [.or p (ngF p), .imp (ngF (ngF p)) p, .imp (.imp (.imp p q) p) p, ngF (ngF (.or p (ngF p))), .or (.imp p q) (.imp q p), .imp (ngF (.and p q)) (.or (ngF p) (ngF q)), .or (ngF p) (ngF (ngF p)),
 .imp p (ngF (ngF p)), .imp (.imp p q) (.imp (ngF q) (ngF p)), .imp (ngF (ngF (.imp p q))) (.imp (ngF (ngF p)) (ngF (ngF q))), .imp (.imp (ngF p) (.or q r)) (.or (.imp (ngF p) q) (.imp (ngF p) r)), .imp (.and p (.or q r)) (.or (.and p q) (.and p r))]
theorem forms12_ok : ∀ k, k < 12 → bts (texts12.getD k ⟨#[]⟩) = (forms12.getD k .fls).body ∧ (texts12.getD k ⟨#[]⟩).size ≤ 200 ∧ (forms12.getD k .fls).enc.length ≤ 40 := by
 decide +kernel
theorem forms12_wf : ∀ k, k < 12 → (forms12.getD k .fls).wf := by
 intro k h
 have : k = 0 ∨ k = 1 ∨ k = 2 ∨ k = 3 ∨ k = 4 ∨ k = 5 ∨ k = 6 ∨ k = 7 ∨ k = 8 ∨ k = 9 ∨ k = 10 ∨ k = 11 := by omega
 rcases this with rfl | rfl | rfl | rfl | rfl | rfl | rfl | rfl | rfl | rfl | rfl | rfl <;> simp [forms12, ngF, Fm.wf, Ax.p, Ax.q, Ax.r]
theorem StrsG.dr {w w' : World} {B b n c : Nat} {ss : List ByteArray} (h : Strs w (.slice (some ⟨b, 0, none⟩) n c) ss) (k : Dr B w w') (hb : b ≠ B) (hlt : b < w.heap.size) : Strs w' (.slice (some ⟨b, 0, none⟩) n c) ss := by
 obtain ⟨p, cap, e, h1, h2, hat, h3⟩ := h.at
 cases e
 refine Strs.ofAt h1 h2 (fun j hj => ?_) h3
 obtain ⟨b', off', hp, hc⟩ := hat j hj
 cases hp
 exact ⟨b, 0, rfl, by rw [(k.1.cell hlt hb).1]; exact hc⟩
set_option maxRecDepth 20000 in
theorem l17PlainN_any (B N V : Nat) (hN : N ≤ 100) (hV : V ≤ 1000) (w : World) (hs : Src w B) : Calls Tryz.prog 82 #[.pointer (some ⟨B, 0, none⟩), .int .i64 N, .int .i64 V] w (DrawA B 1000 w) := by
 go_enter Tryz.func82, Tryz.ntmps82
 go_wp2_with fail
 refine (l01Next_any 30 B w hs (by omega)).mono ?_; rintro e w1 ⟨r1, rfl, hr1, d1⟩
 have HA := hid (fun m => l02Any_any B V N hV hN m w1 d1.2)
 go_wp2_with fail
 refine (HA.out _).mono ?_; rintro e w2 ⟨v2, a2, rfl, hv2, hl2, d2⟩
 go_wp2_with fail
 go_ret
 exact ⟨v2, a2, rfl, hv2.mono d1.size, hl2, d1.trans d2⟩
set_option maxRecDepth 20000 in
set_option maxHeartbeats 1000000 in
theorem l23SmallN_any (B N : Nat) (hN : N ≤ 100) (w : World) (hs : Src w B) : Calls Tryz.prog 81 #[.pointer (some ⟨B, 0, none⟩), .int .i64 N] w (DrawA B 1000 w) := by
 have hB := hs.lt
 have hT : Strs (w.alloc (.cells (texts12.map Value.string).toArray 9)) (.slice (some ⟨w.heap.size, 0, none⟩) 12 12) texts12 := Strs.lit (w := w) texts12 (by simp [texts12])
 have d0 := Dr.of hs ((Keeps.refl w).alloc (.cells (texts12.map Value.string).toArray 9))
 have hsz0 : w.heap.size < (w.alloc (.cells (texts12.map Value.string).toArray 9)).heap.size := by simp
 have HT := hid hT; clear hT
 have HNX := hid (l01Next_any 4 B _ d0.2 (by omega))
 have HR := hid (fun k (hk : k < 12) wz => l02Read_any (forms12.getD k .fls) (forms12_wf k hk) (texts12.getD k ⟨#[]⟩) wz (forms12_ok k hk).1 (by have := (forms12_ok k hk).2.1; omega) (by have := (forms12_ok k hk).2.2; omega))
 have HLN := hid (fun k (hk : k < 12) => (forms12_ok k hk).2.2)
 have hg : ∀ k (h : k < 12), texts12[k]'h = texts12.getD k ⟨#[]⟩ := fun k h => by rw [List.getD_eq_getElem?_getD, List.getElem?_eq_getElem (show k < texts12.length from h)]; rfl
 have HG := hid hg; clear hg
 go_enter Tryz.func81, Tryz.ntmps81
 go_wp2_with fail
 refine HNX.out.mono ?_; rintro e w1 ⟨r1, rfl, hr1, d1⟩
 have D1 := d0.trans d1
 have hT1 := StrsG.dr HT.out d1 (by omega) hsz0
 have hsz1 := d1.size
 by_cases hz1 : r1 = 0
 ·subst hz1
  go_wp2_with fail
  refine (l01Next_any 12 B _ D1.2 (by omega)).mono ?_; rintro e w3 ⟨r3, rfl, hr3, d3⟩
  have D3 := D1.trans d3
  have hr : r3 < 12 := by omega
  have hr' : (r3 : Int) < 12 := by omega
  obtain ⟨b, o, e9, hc⟩ := (StrsG.dr hT1 d3 (by omega) (by omega)).get r3 hr
  cases e9
  rw [Nat.zero_add, HG.out r3 hr] at hc
  have HRk := hid (HR.out r3 hr)
  have hln := HLN.out r3 hr
  clear hT1
  generalize texts12.getD r3 ⟨#[]⟩ = x at *
  generalize (forms12.getD r3 .fls).enc = L at *
  go_wp2_with fail
  refine (HRk.out w3).mono ?_; rintro e w4 ⟨v4, rfl, hv4, k4⟩
  obtain ⟨p4, n4, c4, rfl⟩ := hv4.own_shape
  go_wp2_with fail
  go_ret
  exact ⟨_, L, rfl, hv4.mono D3.size, by omega, D3.keeps k4⟩
 ·have hz' : ((r1 : Nat) : Int) ≠ 0 := by omega
  clear hT1
  go_wp2_with fail
  refine (l17PlainN_any B N 3 hN (by omega) w1 D1.2).mono ?_; rintro e w2 ⟨v2, a2, rfl, hv2, hl2, d2⟩
  obtain ⟨p2, n2, c2, rfl⟩ := hv2.own_shape
  go_wp2_with fail
  go_ret
  exact ⟨_, a2, rfl, hv2.mono D1.size, hl2, D1.trans d2⟩
end Go.Proofs.YtfmmajgkjkmghaaGreat
namespace Go.Proofs.YtfmmajgkjkmghaaGreat
open Go.RowKit
set_option maxRecDepth 20000 in
set_option maxHeartbeats 1000000 in
theorem l29Draw_any (B : Nat) (w : World) (hs : Src w B) : Calls Tryz.prog 31 #[.pointer (some ⟨B, 0, none⟩)] w (DrawA B 1000 w) := by
 have HS := hid (fun wz (hz : Src wz B) => l23SmallN_any B 10 (by omega) wz hz)
 have HP := hid (fun wz (hz : Src wz B) => l17PlainN_any B 8 3 (by omega) (by omega) wz hz)
 have HQ := hid (fun wz (hz : Src wz B) => l17PlainN_any B 20 4 (by omega) (by omega) wz hz)
 go_enter Tryz.func31, Tryz.ntmps31
 go_wp2_with fail
 refine (l01Next_any 3 B w hs (by omega)).mono ?_; rintro e w1 ⟨r1, rfl, hr1, d1⟩
 obtain rfl | rfl | rfl : r1 = 0 ∨ r1 = 1 ∨ r1 = 2 := by omega
 ·go_wp2_with fail
  refine (HS.out w1 d1.2).mono ?_; rintro e w2 ⟨v2, a2, rfl, hv2, hl2, d2⟩
  obtain ⟨p2, n2, c2, rfl⟩ := hv2.own_shape
  go_wp2_with fail
  go_ret
  exact ⟨_, a2, rfl, hv2.mono d1.size, hl2, d1.trans d2⟩
 ·go_wp2_with fail
  refine (HP.out w1 d1.2).mono ?_; rintro e w2 ⟨v2, a2, rfl, hv2, hl2, d2⟩
  obtain ⟨p2, n2, c2, rfl⟩ := hv2.own_shape
  go_wp2_with fail
  go_ret
  exact ⟨_, a2, rfl, hv2.mono d1.size, hl2, d1.trans d2⟩
 ·go_wp2_with fail
  refine (HQ.out w1 d1.2).mono ?_; rintro e w2 ⟨v2, a2, rfl, hv2, hl2, d2⟩
  obtain ⟨p2, n2, c2, rfl⟩ := hv2.own_shape
  go_wp2_with fail
  go_ret
  exact ⟨_, a2, rfl, hv2.mono d1.size, hl2, d1.trans d2⟩
set_option maxRecDepth 20000 in
theorem drawBoxTranslation_any (v : Value) (n : Nat) (w : World) (hv : Bts w v n) (hn : n ≤ 4096) : Calls Tryz.prog 6 #[v] w (DrawnA 1000 w) := by
 have HF := hid (l01From_any v n w hv hn)
 obtain ⟨p, c, rfl, _⟩ := hv
 go_enter Tryz.func6, Tryz.ntmps6
 go_wp2_with fail
 refine HF.out.mono ?_; rintro e w0 ⟨B, rfl, hB, hs, k0⟩
 go_wp2_with fail
 refine (l29Draw_any B w0 hs).mono ?_; rintro e w1 ⟨v1, a, rfl, hv1, hl1, d1⟩
 have hsz := k0.size
 go_wp2_with fail
 go_ret
 exact ⟨_, a, rfl, hv1.mono hsz, hl1, Dr.keepsOf k0 hB d1⟩
end Go.Proofs.YtfmmajgkjkmghaaGreat
namespace Go.Proofs.YtfmmajgkjkmghaaGreat
open Go.RowKit
set_option maxRecDepth 20000 in
theorem l05Squeeze_any (o : List Nat) (m : Nat) (v : Value) (w : World) (hv : Ints w v (zs o)) (h8 : o.length ≤ 8) (ho : ∀ i, o.getD i 0 ≤ 8) (hm : m < 256) :
  Calls Tryz.prog 216 #[v, .int .i64 m] w fun e w' => e = .returned (.int .i64 (sqz o m o.length : Nat)) ∧ w = w' := by
 have hv0 := hv
 obtain ⟨p, cap, rfl, _, hmx, _, _⟩ := hv
 unfold maxLen at hmx
 rw [zs_length o] at *
 have HC := hid (fun i (hi : i < o.length) => hv0.zs_cell i hi)
 clear hv0
 have HB := hid (fun i => l01BitB_any m (o.getD i 0) w hm (ho i))
 have HO := hid (fun (i : Nat) (hi : i ≤ 8) => l01One_any (i : Int) w (by omega) (by omega))
 have HS : Hid (∀ k, sqz o m (k + 1) = sqz o m k ||| (if m.testBit (o.getD k 0) then 2 ^ k else 0)) := hid fun _ => rfl
 have HL := hid (sqz_lt o m)
 have H0 : Hid (sqz o m 0 = 0) := hid rfl
 obtain ⟨Z, hZ⟩ : ∃ Z : Nat → Nat, ∀ i, Z i = sqz o m i := ⟨_, fun _ => rfl⟩
 obtain ⟨G, hG⟩ : ∃ G : Nat → Nat, ∀ i, G i = o.getD i 0 := ⟨fun i => o.getD i 0, fun _ => rfl⟩
 simp only [← hG] at HC HB HS
 simp only [← hZ] at HS HL H0 ⊢
 clear hG hZ ho
 generalize o.length = n at *
 go_enter Tryz.func216, Tryz.ntmps216
 go_wp2_with fail
 go_loopw [5, 6] (fun s5 s6 wr => ∃ i : Nat, i ≤ n ∧ s5 = .int .i64 (Z i : Nat) ∧ s6 = .int .i64 i ∧ w = wr) (fun _ s6 _ => n - (intOf s6).toNat)
 case atStart => exact ⟨0, by omega, by rw [H0.out]; rfl, rfl, rfl⟩
 case round =>
  obtain ⟨i, hi, rfl, rfl, rfl⟩ := hrel
  by_cases hlt : i < n
  ·have hlt' : (i : Int) < n := by omega
   obtain ⟨b1, o1, rfl, h1⟩ := HC.out i hlt
   have HBI := hid (HB.out i)
   have HOI := HO.out i (by omega)
   have hone : (2 : Int) ^ (i : Int).toNat = ((2 ^ i : Nat) : Int) := by rw [Int.toNat_natCast]; push_cast; rfl
   rw [hone] at HOI
   have HOI2 := hid HOI; clear HOI hone
   have hs := HS.out i
   have hlz := HL.out i
   have h2i : 2 ^ i ≤ 2 ^ 8 := Nat.pow_le_pow_right (by omega) (by omega)
   have hor := orN (Z i) (2 ^ i) (by omega) (by omega)
   clear hlz h2i
   generalize 2 ^ i = P at *
   generalize G i = y at *
   cases hb : m.testBit y
   ·rw [hb] at HBI
    have HZ2 : Hid (Z (i + 1) = Z i) := hid (by rw [hs, hb]; simp)
    clear hb hs
    generalize hz : Z i = z at *
    have HZI := hid hz; clear hz
    go_wp2_with fail
    refine HBI.out.mono ?_; rintro e w' ⟨rfl, rfl⟩
    go_wp2_with fail
    go_roundw
    case rel => exact ⟨i + 1, by omega, by rw [HZ2.out], by go_num, trivial⟩
    case measure => simp [intOf]; omega
   ·rw [hb] at HBI
    have HZ2 : Hid (Z (i + 1) = Z i ||| P) := hid (by rw [hs, hb]; simp)
    clear hb hs
    generalize hz : Z i = z at *
    have HZI := hid hz; clear hz
    go_wp2_with fail
    refine HBI.out.mono ?_; rintro e w' ⟨rfl, rfl⟩
    go_wp2_with fail
    refine HOI2.out.mono ?_; rintro e w' ⟨rfl, rfl⟩
    go_wp2_with fail
    go_roundw
    case rel => exact ⟨i + 1, by omega, by rw [HZ2.out], by go_num, trivial⟩
    case measure => simp [intOf]; omega
  ·have e : n = i := by omega
   subst e
   have hlt' : ¬ (n : Int) < n := by omega
   go_wp2_with fail
   go_ret
   exact ⟨rfl, rfl⟩
set_option maxRecDepth 20000 in
set_option maxHeartbeats 1000000 in
theorem l05Renumber_any (a o : List Nat) (va vo : Value) (w : World) (hva : Ints w va (zs a)) (hvo : Ints w vo (zs o)) (hn8 : o.length ≤ 8) (hal : a.length = o.length) (hlo : ∀ x ∈ o, x < o.length) (hab : Bnd o.length a) :
  Calls Tryz.prog 198 #[va, vo] w (RetI w (zs (renP a o))) := by
 have h256 := two8 hn8
 have ho8 : ∀ i, o.getD i 0 ≤ 8 := fun i => by
  by_cases hi : i < o.length
  ·rw [getD_get hi]; have := hlo _ (List.getElem_mem hi); omega
  ·rw [List.getD_eq_getElem?_getD, List.getElem?_eq_none (by omega)]; simp
 have HLO : Hid (∀ i, i < o.length → o.getD i 0 < o.length) := hid fun i hi => by rw [getD_get hi]; exact hlo _ (List.getElem_mem hi)
 have HSQ := hid (fun i w2 (k : Keeps w w2) => l05Squeeze_any o (a.getD i 0) vo w2 (hvo.keeps k) hn8 ho8 (Nat.lt_of_lt_of_le (hab i) h256))
 have hva0 := hva
 have hvo0 := hvo
 obtain ⟨p, cap, rfl, _, hmx, _, _⟩ := hva
 obtain ⟨q, cap2, rfl, _, hmx2, _, _⟩ := hvo
 unfold maxLen at hmx hmx2
 rw [zs_length a] at *
 rw [zs_length o] at *
 have hvc := hid (fun i (hi : i < o.length) wr (k : Keeps w wr) => (hvo0.keeps k).zs_cell i hi)
 have hva2 := hid (fun i (hi : i < a.length) wr (k : Keeps w wr) => (hva0.keeps k).zs_cell i hi)
 clear hva0 hvo0
 rw [hal] at *
 obtain ⟨F, hF⟩ : ∃ F : Nat → Nat, ∀ i, F i = sqz o (a.getD i 0) o.length := ⟨_, fun _ => rfl⟩
 have HR : Hid (∀ k, k < o.length → (renP a o).take (k + 1) = (renP a o).take k ++ [F (o.getD k 0)]) := hid fun k hk => by
  have hk2 : k < (renP a o).length := by rw [renP_len]; exact hk
  rw [List.take_succ_eq_append_getElem hk2]
  congr 1
  simp only [renP, List.getElem_map]
  rw [hF, getD_get hk]
 have HRE : Hid ((renP a o).take o.length = renP a o) := hid (List.take_of_length_le (by rw [renP_len]; omega))
 have HRL : Hid (∀ k, ((renP a o).take k).length ≤ k) := hid fun k => by rw [List.length_take]; omega
 have HR0 : Hid ((renP a o).take 0 = []) := hid rfl
 generalize renP a o = R at *
 obtain ⟨G, hG⟩ : ∃ G : Nat → Nat, ∀ i, G i = o.getD i 0 := ⟨fun i => o.getD i 0, fun _ => rfl⟩
 obtain ⟨A, hA⟩ : ∃ A : Nat → Nat, ∀ i, A i = a.getD i 0 := ⟨fun i => a.getD i 0, fun _ => rfl⟩
 simp only [← hF] at HSQ
 simp only [← hA] at hva2 HSQ
 simp only [← hG] at hvc HR HLO
 clear hF hG hA hlo hab ho8 hal
 generalize o.length = n at *
 go_enter Tryz.func198, Tryz.ntmps198
 go_wp2_with fail
 go_loopw [5, 6] (fun s5 s6 wr => ∃ i : Nat, i ≤ n ∧ s6 = .int .i64 i ∧ OwnI wr w.heap.size s5 (zs (R.take i)) ∧ Keeps w wr) (fun _ s6 _ => n - (intOf s6).toNat)
 case atStart => exact ⟨0, by omega, rfl, by rw [HR0.out]; exact OwnI.empty w, (Keeps.refl w).alloc _⟩
 case round =>
  obtain ⟨i, hi, rfl, hown, kw⟩ := hrel
  by_cases hlt : i < n
  ·have hlt' : (i : Int) < n := by omega
   obtain ⟨b1, o1, e1, h1⟩ := hvc.out i hlt wr kw
   have hx := HLO.out i hlt
   have hx' : (G i : Int) < n := by omega
   obtain ⟨b2, o2, e2, h2⟩ := hva2.out (G i) hx wr kw
   have HS2 := hid (HSQ.out (G i) wr kw)
   have HRI := hid (HR.out i hlt)
   have hrl := HRL.out i
   have hzl := zs_length (R.take i)
   subst e1 e2
   generalize G i = x at *
   generalize A x = ax at *
   generalize F x = fx at *
   have hsz := kw.size
   have kA := (Keeps.refl wr).alloc (.cells #[.int .i64 (fx : Int)] 2)
   have KW := hid kw; clear kw
   go_wp2_with fail
   refine HS2.out.mono ?_; rintro e w' ⟨rfl, rfl⟩
   go_wp2_with (at_builtin; refine appI rfl _ _ rfl w.heap.size _ (zs (R.take i)) rfl (hown.keeps kA) _ [(fx : Int)] rfl (Ints.lit1 wr fx) (by simp; omega) (by rw [hzl]; simp; omega) ?_; intro v1 w1 hv1 hg1 hr1)
   go_roundw
   case rel => exact ⟨i + 1, by omega, by go_num, by rw [HRI.out, zs_snoc]; exact hv1, (KW.out.trans kA).grown hg1 hr1⟩
   case measure => simp [intOf]; omega
  ·have e : n = i := by omega
   subst e
   have hlt' : ¬ (n : Int) < n := by omega
   rw [HRE.out] at hown
   go_wp2_with fail
   go_ret
   exact ⟨_, rfl, hown, kw⟩
end Go.Proofs.YtfmmajgkjkmghaaGreat
