import Derived.Test.YtfmmajgkjkmghaaGreatDoorHS2
import Derived.Test.YtfmmajgkjkmghaaGreatDoorHKC
import Derived.Test.YtfmmajgkjkmghaaGreatDoorHHQ
import Derived.Test.YtfmmajgkjkmghaaGreatDoorHAL
import Derived.Test.YtfmmajgkjkmghaaGreatDoorHQR
/- Plain: an axiom of an intermediate logic is valid on an order exactly if the order is one of the logic. -/
namespace Go.Proofs.YtfmmajgkjkmghaaGreatDoor
theorem lst_two {l : List Nat} (h : 2 ≤ l.length) (hn : l.Nodup) : ∃ x y, x ∈ l ∧ y ∈ l ∧ x ≠ y := by
 match l, h with
 | a :: b :: l, _ =>
  have := List.nodup_cons.1 hn
  exact ⟨a, b, by simp, by simp, fun e => this.1 (by simp [e])⟩
theorem lst_three {l : List Nat} (h : 3 ≤ l.length) (hn : l.Nodup) : ∃ x y z, x ∈ l ∧ y ∈ l ∧ z ∈ l ∧ x ≠ y ∧ x ≠ z ∧ y ≠ z := by
 match l, h with
 | a :: l, h =>
  obtain ⟨h1, h2⟩ := List.nodup_cons.1 hn
  obtain ⟨y, z, hy, hz, hne⟩ := lst_two (by simpa using h) h2
  exact ⟨a, y, z, by simp, by simp [hy], by simp [hz], fun e => h1 (by rw [e]; exact hy), fun e => h1 (by rw [e]; exact hz), hne⟩
theorem lst_four {l : List Nat} (h : 4 ≤ l.length) (hn : l.Nodup) : ∃ x y z v, x ∈ l ∧ y ∈ l ∧ z ∈ l ∧ v ∈ l ∧ x ≠ y ∧ x ≠ z ∧ x ≠ v ∧ y ≠ z ∧ y ≠ v ∧ z ≠ v := by
 match l, h with
 | a :: l, h =>
  obtain ⟨h1, h2⟩ := List.nodup_cons.1 hn
  obtain ⟨y, z, v, hy, hz, hv, n1, n2, n3⟩ := lst_three (by simpa using h) h2
  exact ⟨a, y, z, v, by simp, by simp [hy], by simp [hz], by simp [hv], fun e => h1 (by rw [e]; exact hy), fun e => h1 (by rw [e]; exact hz), fun e => h1 (by rw [e]; exact hv), n1, n2, n3⟩
theorem memB_nodup (m : Nat) : (memB m).Nodup := by
 unfold memB lowB
 exact List.nodup_range.filter _
theorem sub_len : ∀ (l m : List Nat), l.Nodup → (∀ x ∈ l, x ∈ m) → l.length ≤ m.length
 | [], _, _, _ => by simp
 | a :: l, m, hn, hs => by
  obtain ⟨h1, h2⟩ := List.nodup_cons.1 hn
  have ha := hs a (by simp)
  have := sub_len l (m.erase a) h2 (fun x hx => (List.mem_erase_of_ne (fun e => h1 (by rw [← e]; exact hx))).2 (hs x (by simp [hx])))
  rw [List.length_erase_of_mem ha] at this
  have hp := List.length_pos_of_mem ha
  simp only [List.length_cons]
  omega
def mskL (l : List Nat) : Nat := l.foldl (fun acc x => acc ||| 2 ^ x) 0
theorem mskL_fold : ∀ (l : List Nat) (acc i : Nat), (l.foldl (fun acc x => acc ||| 2 ^ x) acc).testBit i = true ↔ acc.testBit i = true ∨ i ∈ l
 | [], acc, i => by simp
 | x :: l, acc, i => by
  rw [List.foldl_cons, mskL_fold l, Nat.testBit_or, Bool.or_eq_true, Nat.testBit_two_pow, decide_eq_true_eq]
  constructor
  ·rintro ((h | h) | h)
   ·exact .inl h
   ·exact .inr (by simp [h])
   ·exact .inr (by simp [h])
  ·rintro (h | h)
   ·exact .inl (.inl h)
   ·rcases List.mem_cons.1 h with rfl | h
    ·exact .inl (.inr rfl)
    ·exact .inr h
theorem mskL_bit (l : List Nat) (i : Nat) : (mskL l).testBit i = true ↔ i ∈ l := by
 unfold mskL
 rw [mskL_fold]; simp
theorem mskL_lt {l : List Nat} (h : ∀ x ∈ l, x < 8) : mskL l < 256 := by
 have : ∀ (l : List Nat) (acc : Nat), (∀ x ∈ l, x < 8) → acc < 2 ^ 8 → l.foldl (fun acc x => acc ||| 2 ^ x) acc < 2 ^ 8 := by
  intro l
  induction l with
  | nil => intro acc _ h; exact h
  | cons x l ih => intro acc hl ha; exact ih _ (fun y hy => hl y (by simp [hy])) (Nat.or_lt_two_pow ha (Nat.pow_lt_pow_right (by omega) (hl x (by simp))))
 exact this l 0 h (by decide)
theorem wid_ge {b : List Nat} (hp : Pos b) {l : List Nat} (hn : l.Nodup) {x : Nat} (hx : x < b.length) (hl : ∀ y ∈ l, (b.getD x 0).testBit y = true) (hi : ∀ y ∈ l, ∀ z ∈ l, (b.getD y 0).testBit z = true → y = z) : l.length ≤ widB b := by
 have h8 : ∀ y ∈ l, y < 8 := fun y hy => (hp.lt8 (hl y hy)).2
 have ho : okW b (mskL l) = true := by
  unfold okW
  rw [Bool.and_eq_true]
  constructor
  ·unfold antiC
   rw [List.all_eq_true]
   intro y hy
   have hy2 := (mskL_bit l y).1 (memB_mem hy).2
   rw [beq_iff_eq]
   apply Nat.eq_of_testBit_eq
   intro i
   rw [Bool.eq_iff_iff, Nat.testBit_and, Bool.and_eq_true, mskL_bit, Nat.testBit_two_pow, decide_eq_true_eq]
   constructor
   ·rintro ⟨h1, h2⟩; exact hi y hy2 i h2 h1
   ·rintro rfl; exact ⟨refl_of hp.2.2.1 (hp.lt8 (hl y hy2)).1, hy2⟩
  ·rw [List.any_eq_true]
   exact ⟨x, by simpa using hx, (inB_iff _ _).2 fun i hi => hl i ((mskL_bit l i).1 hi)⟩
 have h1 := widT_ge (mskL_lt h8) ho
 have h2 := sub_len l (memB (mskL l)) hn (fun y hy => mem_memB ((mskL_bit l y).2 hy) (h8 y hy))
 unfold widB
 unfold cntB at h1
 omega
theorem wid_more {b : List Nat} (hp : Pos b) {k : Nat} (h : k < widB b) : ∃ x s, x < b.length ∧ k < (memB s).length ∧ (∀ y ∈ memB s, (b.getD x 0).testBit y = true) ∧ ∀ y ∈ memB s, ∀ z ∈ memB s, (b.getD y 0).testBit z = true → y = z := by
 apply Classical.byContradiction
 intro hno
 have : widB b ≤ k := widT_le 256 fun s _ ho => by
  apply Classical.byContradiction
  intro hc
  unfold okW at ho
  rw [Bool.and_eq_true, List.any_eq_true] at ho
  obtain ⟨ha, x, hx, hin⟩ := ho
  have hx' : x < b.length := by simpa using hx
  rw [inB_iff] at hin
  refine hno ⟨x, s, hx', by unfold cntB at hc; omega, fun y hy => hin y (memB_mem hy).2, fun y hy z hz hyz => ?_⟩
  unfold antiC at ha
  have h1 := List.all_eq_true.1 ha y hy
  rw [beq_iff_eq] at h1
  have h2 := congrArg (fun m => m.testBit z) h1
  simp only [Nat.testBit_and, hyz, (memB_mem hz).2, Bool.and_self, Nat.testBit_two_pow] at h2
  exact of_decide_eq_true h2.symm
 have _ := hp
 omega
theorem dep_step {b : List Nat} (hp : Pos b) {x d : Nat} (hx : x < b.length) (h : dptB b x = d + 2) : ∃ y, y < b.length ∧ (b.getD x 0).testBit y = true ∧ y ≠ x ∧ dptB b y = d + 1 := by
 obtain ⟨hb, hbm, hr, ht, ha⟩ := hp
 have h1 := dptB_eq hb hbm hr ht ha hx
 rcases supD_met (f := dptB b) (m := b.getD x 0) (x := x) 8 with h2 | ⟨y, _, h3, h4, h5⟩
 ·omega
 ·exact ⟨y, bit_lt hbm h3, h3, h4, by omega⟩
theorem dep_more {b : List Nat} {d : Nat} (h : d < depB b) : ∃ x, x < b.length ∧ d < dptB b x := by
 apply Classical.byContradiction
 intro hno
 have : depB b ≤ d := by
  have h9 := maxTo_le (c := dptL b) (n := d + 1) b.length (fun i hi => by
   rw [dptL_get hi]
   have h7 : ¬ d < dptB b i := fun h => hno ⟨i, hi, h⟩
   omega) (by omega)
  unfold depB
  omega
 omega
theorem dep_down {b : List Nat} (hp : Pos b) : ∀ (e x d : Nat), x < b.length → dptB b x = d + 1 + e → ∃ y, y < b.length ∧ dptB b y = d + 1
 | 0, x, d, hx, h => ⟨x, hx, h⟩
 | e + 1, x, d, hx, h => by
  obtain ⟨y, hy, _, _, h1⟩ := dep_step hp hx (d := d + e) (by omega)
  exact dep_down hp e y d hy (by omega)
theorem dep_at {b : List Nat} (hp : Pos b) {d : Nat} (h : d < depB b) : ∃ x, x < b.length ∧ dptB b x = d + 1 := by
 obtain ⟨x, hx, h1⟩ := dep_more h
 exact dep_down hp (dptB b x - d - 1) x d hx (by omega)
theorem max_above {b : List Nat} (hp : Pos b) : ∀ (d x : Nat), x < b.length → dptB b x ≤ d → ∃ m, (b.getD x 0).testBit m = true ∧ m < b.length ∧ b.getD m 0 = 2 ^ m
 | 0, x, hx, h => by
  obtain ⟨hb, hbm, hr, ht, ha⟩ := hp
  have := dptB_pos hb hbm hr ht ha hx
  omega
 | d + 1, x, hx, h => by
  by_cases h1 : dptB b x ≤ 1
  ·exact ⟨x, refl_of hp.2.2.1 hx, hx, (dpt_one hp hx).1 h1⟩
  ·obtain ⟨y, hy, h2, _, h4⟩ := dep_step hp hx (d := dptB b x - 2) (by omega)
   obtain ⟨m, h5, h6, h7⟩ := max_above hp d y hy (by omega)
   exact ⟨m, trans_of hp.2.1 hp.2.2.2.1 hx h2 h5, h6, h7⟩
def upV (b ys : List Nat) (x p : Nat) : Prop := (b.getD (ys.getD p b.length) 0).testBit x = true
theorem upV_lt {b ys : List Nat} {x p : Nat} (h : upV b ys x p) : ys.getD p b.length < b.length := by
 by_cases hl : ys.getD p b.length < b.length
 ·exact hl
 ·unfold upV at h
  rw [List.getD_eq_getElem?_getD (l := b), List.getElem?_eq_none (by omega)] at h
  simp at h
theorem upV_mono {b : List Nat} (hp : Pos b) (ys : List Nat) : ∀ x y p, x < b.length → (b.getD x 0).testBit y = true → upV b ys x p → upV b ys y p :=
 fun _ _ _ _ hxy h => trans_of hp.2.1 hp.2.2.2.1 (upV_lt h) h hxy
def fA (b : List Nat) (A : Nat → Nat → Prop) : Nat → Fm → Prop
 | x, .var p => A x p
 | _, .fls => False
 | x, .and s t => fA b A x s ∧ fA b A x t
 | x, .or s t => fA b A x s ∨ fA b A x t
 | x, .imp s t => ∀ u, (b.getD x 0).testBit u = true → fA b A u s → fA b A u t
 | _, .box _ => False
 | _, .dia _ => False
theorem fA_km {b : List Nat} (hp : Pos b) (A : Nat → Nat → Prop) (hA) : ∀ (t : Fm) (x : Nat) (hx : x < b.length), (kmA b hp A hA).forces ⟨x, hx⟩ t ↔ fA b A x t
 | .var _, _, _ => Iff.rfl
 | .fls, _, _ => Iff.rfl
 | .and s t, x, hx => and_congr (fA_km hp A hA s x hx) (fA_km hp A hA t x hx)
 | .or s t, x, hx => or_congr (fA_km hp A hA s x hx) (fA_km hp A hA t x hx)
 | .imp s t, x, hx => by
  constructor
  ·intro h u hu hs
   have hul := bit_lt hp.2.1 hu
   exact (fA_km hp A hA t u hul).1 (h ⟨u, hul⟩ hu ((fA_km hp A hA s u hul).2 hs))
  ·rintro h ⟨u, hul⟩ hu hs
   exact (fA_km hp A hA t u hul).2 (h u hu ((fA_km hp A hA s u hul).1 hs))
 | .box _, _, _ => Iff.rfl
 | .dia _, _, _ => Iff.rfl
def GrowA (b : List Nat) (A : Nat → Nat → Prop) : Prop := ∀ x y p, x < b.length → (b.getD x 0).testBit y = true → A x p → A y p
theorem vld_fA {b : List Nat} (hp : Pos b) {t : Fm} (hw : t.wf) : vldR b t = true ↔ ∀ A, GrowA b A → ∀ x, x < b.length → fA b A x t := by
 rw [vld_km b hp t hw]
 constructor
 ·intro h A hA x hx; exact (fA_km hp A hA t x hx).1 (h A hA x hx)
 ·intro h A hA x hx; exact (fA_km hp A hA t x hx).2 (h A hA x hx)
theorem anti_ne {b : List Nat} (hp : Pos b) {x y : Nat} (hx : x < b.length) (h : (b.getD x 0).testBit y = true) (hne : y ≠ x) : ¬ (b.getD y 0).testBit x = true :=
 fun k => hne (anti_of hp.2.2.2.2 (hp.lt8 h).1 hx k h)
open Ax
theorem ax_cl {b : List Nat} (hp : Pos b) : vldR b (.or p (.imp p .fls)) = decide (depB b ≤ 1) := by
 rw [Bool.eq_iff_iff, decide_eq_true_eq, vld_fA hp (by simp [Fm.wf, p])]
 constructor
 ·intro h
  apply Classical.byContradiction
  intro hd
  obtain ⟨x, hx, h1⟩ := dep_at hp (d := 1) (by omega)
  obtain ⟨y, hy, h2, h3, _⟩ := dep_step hp hx (d := 0) h1
  rcases h (upV b [y]) (upV_mono hp _) x hx with k | k
  ·exact anti_ne hp hx h2 h3 k
  ·exact k y h2 (refl_of hp.2.2.1 hy)
 ·intro hd A hA x hx
  by_cases k : A x 0
  ·exact .inl k
  ·refine .inr fun u hle k2 => ?_
   rw [dep_flat hp hd hx hle] at k2
   exact k k2
theorem ax_bd2 {b : List Nat} (hp : Pos b) : vldR b (.or p (.imp p (.or q (.imp q .fls)))) = decide (depB b ≤ 2) := by
 rw [Bool.eq_iff_iff, decide_eq_true_eq, vld_fA hp (by simp [Fm.wf, p, q])]
 constructor
 ·intro h
  apply Classical.byContradiction
  intro hd
  obtain ⟨x, hx, h1⟩ := dep_at hp (d := 2) (by omega)
  obtain ⟨y, hy, h2, h3, h4⟩ := dep_step hp hx (d := 1) h1
  obtain ⟨z, hz, h5, h6, _⟩ := dep_step hp hy (d := 0) h4
  rcases h (upV b [y, z]) (upV_mono hp _) x hx with k | k
  ·exact anti_ne hp hx h2 h3 k
  ·rcases k y h2 (refl_of hp.2.2.1 hy) with k | k
   ·exact anti_ne hp hy h5 h6 k
   ·exact k z h5 (refl_of hp.2.2.1 hz)
 ·intro hd A hA x hx
  by_cases k : A x 0
  ·exact .inl k
  ·refine .inr fun u hu k2 => ?_
   have hne : u ≠ x := fun e => k (by rw [← e]; exact k2)
   by_cases k3 : A u 1
   ·exact .inl k3
   ·refine .inr fun v hv k4 => ?_
    rw [dep_two hp hd hx hu hne hv] at k4
    exact k3 k4
theorem dep_three {b : List Nat} (hp : Pos b) (h : depB b ≤ 3) {x y z v : Nat} (hx : x < b.length) (hxy : (b.getD x 0).testBit y = true) (hne : y ≠ x) (hyz : (b.getD y 0).testBit z = true) (hne2 : z ≠ y) (hzv : (b.getD z 0).testBit v = true) : v = z := by
 obtain ⟨hb, hbm, hr, ht, ha⟩ := hp
 have hy := bit_lt hbm hxy
 have hz := bit_lt hbm hyz
 have hv := bit_lt hbm hzv
 by_cases e : v = z
 ·exact e
 ·have h1 := dptB_above hb hbm hr ht ha hx hxy hne
  have h2 := dptB_above hb hbm hr ht ha hy hyz hne2
  have h5 := dptB_above hb hbm hr ht ha hz hzv e
  have h3 := dptB_pos hb hbm hr ht ha hv
  have h4 := le_maxTo (c := dptL b) hx
  rw [dptL_get hx] at h4
  unfold depB at h
  omega
theorem ax_bd3 {b : List Nat} (hp : Pos b) : vldR b (.or p (.imp p (.or q (.imp q (.or r (.imp r .fls)))))) = decide (depB b ≤ 3) := by
 rw [Bool.eq_iff_iff, decide_eq_true_eq, vld_fA hp (by simp [Fm.wf, p, q, r])]
 constructor
 ·intro h
  apply Classical.byContradiction
  intro hd
  obtain ⟨x, hx, h1⟩ := dep_at hp (d := 3) (by omega)
  obtain ⟨y, hy, h2, h3, h4⟩ := dep_step hp hx (d := 2) h1
  obtain ⟨z, hz, h5, h6, h7⟩ := dep_step hp hy (d := 1) h4
  obtain ⟨v, hv, h8, h9, _⟩ := dep_step hp hz (d := 0) h7
  rcases h (upV b [y, z, v]) (upV_mono hp _) x hx with k | k
  ·exact anti_ne hp hx h2 h3 k
  ·rcases k y h2 (refl_of hp.2.2.1 hy) with k | k
   ·exact anti_ne hp hy h5 h6 k
   ·rcases k z h5 (refl_of hp.2.2.1 hz) with k | k
    ·exact anti_ne hp hz h8 h9 k
    ·exact k v h8 (refl_of hp.2.2.1 hv)
 ·intro hd A hA x hx
  by_cases k : A x 0
  ·exact .inl k
  ·refine .inr fun u hu k2 => ?_
   have hne : u ≠ x := fun e => k (by rw [← e]; exact k2)
   by_cases k3 : A u 1
   ·exact .inl k3
   ·refine .inr fun v hv k4 => ?_
    have hne2 : v ≠ u := fun e => k3 (by rw [← e]; exact k4)
    by_cases k5 : A v 2
    ·exact .inl k5
    ·refine .inr fun z hz k6 => ?_
     rw [dep_three hp hd hx hu hne hv hne2 hz] at k6
     exact k5 k6
theorem ax_lc {b : List Nat} (hp : Pos b) : vldR b (.or (.imp p q) (.imp q p)) = decide (widB b ≤ 1) := by
 rw [Bool.eq_iff_iff, decide_eq_true_eq, vld_fA hp (by simp [Fm.wf, p, q])]
 constructor
 ·intro h
  apply Classical.byContradiction
  intro hd
  obtain ⟨x, s, hx, hs, hin, hi⟩ := wid_more hp (k := 1) (by omega)
  obtain ⟨y, z, hy, hz, hne⟩ := lst_two hs (memB_nodup s)
  have ry := refl_of hp.2.2.1 (hp.lt8 (hin y hy)).1
  have rz := refl_of hp.2.2.1 (hp.lt8 (hin z hz)).1
  rcases h (upV b [y, z]) (upV_mono hp _) x hx with k | k
  ·exact hne (hi z hz y hy (k y (hin y hy) ry)).symm
  ·exact hne (hi y hy z hz (k z (hin z hz) rz))
 ·intro hd A hA x hx
  apply Classical.byContradiction
  intro hno
  have h1 : ¬ ∀ u, (b.getD x 0).testBit u = true → A u 0 → A u 1 := fun h => hno (.inl h)
  have h2 : ¬ ∀ u, (b.getD x 0).testBit u = true → A u 1 → A u 0 := fun h => hno (.inr h)
  simp only [Classical.not_forall] at h1 h2
  obtain ⟨u, hu, u1, u2⟩ := h1
  obtain ⟨v, hv, v1, v2⟩ := h2
  rcases wid_lin hp hd hx hu hv with h | h
  ·exact v2 (hA u v 0 (hp.lt8 hu).1 h u1)
  ·exact u2 (hA v u 1 (hp.lt8 hv).1 h v1)
theorem ax_bw2 {b : List Nat} (hp : Pos b) : vldR b (.or (.or (.imp p (.or q r)) (.imp q (.or p r))) (.imp r (.or p q))) = decide (widB b ≤ 2) := by
 rw [Bool.eq_iff_iff, decide_eq_true_eq, vld_fA hp (by simp [Fm.wf, p, q, r])]
 constructor
 ·intro h
  apply Classical.byContradiction
  intro hd
  obtain ⟨x, s, hx, hs, hin, hi⟩ := wid_more hp (k := 2) (by omega)
  obtain ⟨y, z, v, hy, hz, hv, n1, n2, n3⟩ := lst_three hs (memB_nodup s)
  have ry := refl_of hp.2.2.1 (hp.lt8 (hin y hy)).1
  have rz := refl_of hp.2.2.1 (hp.lt8 (hin z hz)).1
  have rv := refl_of hp.2.2.1 (hp.lt8 (hin v hv)).1
  rcases h (upV b [y, z, v]) (upV_mono hp _) x hx with (k | k) | k
  ·rcases k y (hin y hy) ry with k | k
   ·exact n1 (hi z hz y hy k).symm
   ·exact n2 (hi v hv y hy k).symm
  ·rcases k z (hin z hz) rz with k | k
   ·exact n1 (hi y hy z hz k)
   ·exact n3 (hi v hv z hz k).symm
  ·rcases k v (hin v hv) rv with k | k
   ·exact n2 (hi y hy v hv k)
   ·exact n3 (hi z hz v hv k)
 ·intro hd A hA x hx
  apply Classical.byContradiction
  intro hno
  have h1 : ¬ ∀ u, (b.getD x 0).testBit u = true → A u 0 → A u 1 ∨ A u 2 := fun h => hno (.inl (.inl h))
  have h2 : ¬ ∀ u, (b.getD x 0).testBit u = true → A u 1 → A u 0 ∨ A u 2 := fun h => hno (.inl (.inr h))
  have h3 : ¬ ∀ u, (b.getD x 0).testBit u = true → A u 2 → A u 0 ∨ A u 1 := fun h => hno (.inr h)
  simp only [Classical.not_forall, not_or] at h1 h2 h3
  obtain ⟨u, hu, u1, u2, u3⟩ := h1
  obtain ⟨v, hv, v1, v2, v3⟩ := h2
  obtain ⟨z, hz, z1, z2, z3⟩ := h3
  have huv : u ≠ v := fun e => u2 (by rw [e]; exact v1)
  have huz : u ≠ z := fun e => u3 (by rw [e]; exact z1)
  have hvz : v ≠ z := fun e => v3 (by rw [e]; exact z1)
  have g : ∀ {a c i}, (b.getD x 0).testBit a = true → A a i → ¬ A c i → (b.getD a 0).testBit c = true → False := fun ha h1 h2 h => h2 (hA _ _ _ (hp.lt8 ha).1 h h1)
  have hl := wid_ge hp (l := [u, v, z]) (by simp [huv, huz, hvz]) hx (by
   simp only [List.mem_cons, List.not_mem_nil, or_false]
   rintro a (rfl | rfl | rfl) <;> assumption) (by
   simp only [List.mem_cons, List.not_mem_nil, or_false]
   rintro a (rfl | rfl | rfl) c (rfl | rfl | rfl) h
   ·rfl
   ·exact (g hu u1 v2 h).elim
   ·exact (g hu u1 z2 h).elim
   ·exact (g hv v1 u2 h).elim
   ·rfl
   ·exact (g hv v1 z3 h).elim
   ·exact (g hz z1 u3 h).elim
   ·exact (g hz z1 v3 h).elim
   ·rfl)
  simp only [List.length_cons, List.length_nil] at hl
  omega
theorem ax_bw3 {b : List Nat} (hp : Pos b) : vldR b (.or (.or (.or (.imp p (.or (.or q r) s)) (.imp q (.or (.or p r) s))) (.imp r (.or (.or p q) s))) (.imp s (.or (.or p q) r))) = decide (widB b ≤ 3) := by
 rw [Bool.eq_iff_iff, decide_eq_true_eq, vld_fA hp (by simp [Fm.wf, p, q, r, s])]
 constructor
 ·intro h
  apply Classical.byContradiction
  intro hd
  obtain ⟨x, m, hx, hs, hin, hi⟩ := wid_more hp (k := 3) (by omega)
  obtain ⟨y, z, v, t, hy, hz, hv, ht, n1, n2, n3, n4, n5, n6⟩ := lst_four hs (memB_nodup m)
  have ry := refl_of hp.2.2.1 (hp.lt8 (hin y hy)).1
  have rz := refl_of hp.2.2.1 (hp.lt8 (hin z hz)).1
  have rv := refl_of hp.2.2.1 (hp.lt8 (hin v hv)).1
  have rt := refl_of hp.2.2.1 (hp.lt8 (hin t ht)).1
  rcases h (upV b [y, z, v, t]) (upV_mono hp _) x hx with ((k | k) | k) | k
  ·rcases k y (hin y hy) ry with (k | k) | k
   ·exact n1 (hi z hz y hy k).symm
   ·exact n2 (hi v hv y hy k).symm
   ·exact n3 (hi t ht y hy k).symm
  ·rcases k z (hin z hz) rz with (k | k) | k
   ·exact n1 (hi y hy z hz k)
   ·exact n4 (hi v hv z hz k).symm
   ·exact n5 (hi t ht z hz k).symm
  ·rcases k v (hin v hv) rv with (k | k) | k
   ·exact n2 (hi y hy v hv k)
   ·exact n4 (hi z hz v hv k)
   ·exact n6 (hi t ht v hv k).symm
  ·rcases k t (hin t ht) rt with (k | k) | k
   ·exact n3 (hi y hy t ht k)
   ·exact n5 (hi z hz t ht k)
   ·exact n6 (hi v hv t ht k)
 ·intro hd A hA x hx
  apply Classical.byContradiction
  intro hno
  have h1 : ¬ ∀ u, (b.getD x 0).testBit u = true → A u 0 → (A u 1 ∨ A u 2) ∨ A u 3 := fun h => hno (.inl (.inl (.inl h)))
  have h2 : ¬ ∀ u, (b.getD x 0).testBit u = true → A u 1 → (A u 0 ∨ A u 2) ∨ A u 3 := fun h => hno (.inl (.inl (.inr h)))
  have h3 : ¬ ∀ u, (b.getD x 0).testBit u = true → A u 2 → (A u 0 ∨ A u 1) ∨ A u 3 := fun h => hno (.inl (.inr h))
  have h4 : ¬ ∀ u, (b.getD x 0).testBit u = true → A u 3 → (A u 0 ∨ A u 1) ∨ A u 2 := fun h => hno (.inr h)
  simp only [Classical.not_forall, not_or] at h1 h2 h3 h4
  obtain ⟨u, hu, u1, ⟨u2, u3⟩, u4⟩ := h1
  obtain ⟨v, hv, v1, ⟨v2, v3⟩, v4⟩ := h2
  obtain ⟨z, hz, z1, ⟨z2, z3⟩, z4⟩ := h3
  obtain ⟨t, ht, t1, ⟨t2, t3⟩, t4⟩ := h4
  have huv : u ≠ v := fun e => u2 (by rw [e]; exact v1)
  have huz : u ≠ z := fun e => u3 (by rw [e]; exact z1)
  have hut : u ≠ t := fun e => u4 (by rw [e]; exact t1)
  have hvz : v ≠ z := fun e => v3 (by rw [e]; exact z1)
  have hvt : v ≠ t := fun e => v4 (by rw [e]; exact t1)
  have hzt : z ≠ t := fun e => z4 (by rw [e]; exact t1)
  have g : ∀ {a c i}, (b.getD x 0).testBit a = true → A a i → ¬ A c i → (b.getD a 0).testBit c = true → False := fun ha h1 h2 h => h2 (hA _ _ _ (hp.lt8 ha).1 h h1)
  have hl := wid_ge hp (l := [u, v, z, t]) (by simp [huv, huz, hut, hvz, hvt, hzt]) hx (by
   simp only [List.mem_cons, List.not_mem_nil, or_false]
   rintro a (rfl | rfl | rfl | rfl) <;> assumption) (by
   simp only [List.mem_cons, List.not_mem_nil, or_false]
   rintro a (rfl | rfl | rfl | rfl) c (rfl | rfl | rfl | rfl) h
   ·rfl
   ·exact (g hu u1 v2 h).elim
   ·exact (g hu u1 z2 h).elim
   ·exact (g hu u1 t2 h).elim
   ·exact (g hv v1 u2 h).elim
   ·rfl
   ·exact (g hv v1 z3 h).elim
   ·exact (g hv v1 t3 h).elim
   ·exact (g hz z1 u3 h).elim
   ·exact (g hz z1 v3 h).elim
   ·rfl
   ·exact (g hz z1 t4 h).elim
   ·exact (g ht t1 u4 h).elim
   ·exact (g ht t1 v4 h).elim
   ·exact (g ht t1 z4 h).elim
   ·rfl)
  simp only [List.length_cons, List.length_nil] at hl
  omega
theorem ax_kc {b : List Nat} (hp : Pos b) : vldR b (.or (.imp p .fls) (.imp (.imp p .fls) .fls)) = b.all (ofKC b) := by
 rw [Bool.eq_iff_iff, vld_fA hp (by simp [Fm.wf, p])]
 constructor
 ·intro h
  rw [List.all_eq_true]
  intro m hm
  obtain ⟨x, hx, rfl⟩ := List.getElem_of_mem hm
  have hg : b[x] = b.getD x 0 := by simp [List.getD_eq_getElem?_getD, hx]
  rw [hg]
  unfold ofKC
  rw [beq_iff_eq]
  obtain ⟨z, hz, hzl, hzm⟩ := max_above hp _ x hx (Nat.le_refl _)
  have hall : ∀ y, y ∈ memB (b.getD x 0 &&& mxB b) → y = z := by
   intro y hy
   have hy2 := (memB_mem hy).2
   rw [Nat.testBit_and, Bool.and_eq_true, mxB_bit] at hy2
   obtain ⟨hy3, hyl, hym⟩ := hy2
   have only : ∀ {a c}, b.getD a 0 = 2 ^ a → (b.getD a 0).testBit c = true → c = a := fun ha h => by
    rw [ha, Nat.testBit_two_pow, decide_eq_true_eq] at h
    exact h.symm
   rcases h (upV b [y]) (upV_mono hp _) x hx with k | k
   ·exact (k y hy3 (refl_of hp.2.2.1 hyl)).elim
   ·apply Classical.byContradiction
    intro hne
    refine k z hz fun u hu ku => ?_
    rw [only hzm hu] at ku
    exact hne (only hym ku).symm
  have hmem : z ∈ memB (b.getD x 0 &&& mxB b) := mem_memB (by rw [Nat.testBit_and, hz, (mxB_bit b z).2 ⟨hzl, hzm⟩]; rfl) (hp.lt8 hz).2
  unfold cntB
  have h1 := sub_len (memB (b.getD x 0 &&& mxB b)) [z] (memB_nodup _) (fun y hy => by rw [hall y hy]; simp)
  have h2 := List.length_pos_of_mem hmem
  simp only [List.length_cons, List.length_nil] at h1
  omega
 ·intro h A hA x hx
  obtain ⟨m, h1, h2⟩ := kc_top hp h hx
  by_cases k : A m 0
  ·refine .inr fun u hu kn => ?_
   exact kn m (h2 u hu) k
  ·exact .inl fun u hu ku => k (hA u m 0 (hp.lt8 hu).1 (h2 u hu) ku)
theorem ax_sml {b : List Nat} (hp : Pos b) : vldR b (.or (.or p (.imp p q)) (.imp q .fls)) = b.all ofSmL := by
 rw [Bool.eq_iff_iff, vld_fA hp (by simp [Fm.wf, p, q])]
 constructor
 ·intro h
  rw [List.all_eq_true]
  intro m hm
  obtain ⟨x, hx, rfl⟩ := List.getElem_of_mem hm
  have hg : b[x] = b.getD x 0 := by simp [List.getD_eq_getElem?_getD, hx]
  rw [hg]
  unfold ofSmL
  rw [decide_eq_true_eq]
  apply Classical.byContradiction
  intro hc
  unfold cntB at hc
  have hxm : x ∈ memB (b.getD x 0) := mem_memB (refl_of hp.2.2.1 hx) (hp.lt8 (refl_of hp.2.2.1 hx)).2
  have hle : 2 ≤ ((memB (b.getD x 0)).erase x).length := by rw [List.length_erase_of_mem hxm]; omega
  obtain ⟨y, z, hy, hz, hne⟩ := lst_two hle ((memB_nodup _).erase x)
  have mem : ∀ {a}, a ∈ (memB (b.getD x 0)).erase x → (b.getD x 0).testBit a = true ∧ a ≠ x := fun ha => by
   have h1 := (List.Nodup.mem_erase_iff (memB_nodup _)).1 ha
   exact ⟨(memB_mem h1.2).2, h1.1⟩
  have main : ∀ y z, (b.getD x 0).testBit y = true → y ≠ x → (b.getD x 0).testBit z = true → ¬ (b.getD z 0).testBit y = true → False := by
   intro y z hy hyx hz hzy
   have hyl := (hp.lt8 hy).1
   have hzl := (hp.lt8 hz).1
   rcases h (upV b [y, z]) (upV_mono hp _) x hx with (k | k) | k
   ·exact anti_ne hp hx hy hyx k
   ·exact hzy (k y hy (refl_of hp.2.2.1 hyl))
   ·exact k z hz (refl_of hp.2.2.1 hzl)
  obtain ⟨hy1, hy2⟩ := mem hy
  obtain ⟨hz1, hz2⟩ := mem hz
  by_cases hzy : (b.getD z 0).testBit y = true
  ·exact main z y hz1 hz2 hy1 (anti_ne hp (hp.lt8 hz1).1 hzy hne)
  ·exact main y z hy1 hy2 hz1 hzy
 ·intro h A hA x hx
  by_cases k : A x 0
  ·exact .inl (.inl k)
  ·by_cases k2 : ∃ v, (b.getD x 0).testBit v = true ∧ A v 1
   ·obtain ⟨v, hv, kv⟩ := k2
    refine .inl (.inr fun u hu ku => ?_)
    have hux : u ≠ x := fun e => k (by rw [← e]; exact ku)
    by_cases hvx : v = x
    ·subst hvx; exact hA v u 1 hx hu kv
    ·rw [sml_two hp h hx hu hv hux hvx]; exact kv
   ·exact .inr fun u hu ku => k2 ⟨u, hu, ku⟩
theorem ax_valid {b : List Nat} (hp : Pos b) {k : Nat} (hk : k < 9) : vldR b (forms9.getD k .fls) = ofK b k := by
 match k, hk with
 | 0, _ => exact (ax_bd2 hp).trans (by simp [ofK])
 | 1, _ => exact (ax_bd3 hp).trans (by simp [ofK])
 | 2, _ => exact (ax_bw2 hp).trans (by simp [ofK])
 | 3, _ => exact (ax_bw3 hp).trans (by simp [ofK])
 | 4, _ => exact (ax_cl hp).trans (by simp [ofK])
 | 5, _ =>
  have : vldR b (.imp .fls .fls) = true := (vld_fA hp (by simp [Fm.wf])).2 fun A hA x hx u _ h => h
  exact this.trans (by simp [ofK])
 | 6, _ => exact (ax_kc hp).trans (by simp [ofK])
 | 7, _ => exact (ax_lc hp).trans (by simp [ofK])
 | 8, _ => exact (ax_sml hp).trans (by simp [ofK])
end Go.Proofs.YtfmmajgkjkmghaaGreatDoor
namespace Go.Proofs.YtfmmajgkjkmghaaGreatDoor
open Go.RowKit
theorem pos_mk {b : List Nat} (h8 : b.length ≤ 8) (hb : Bnd b.length b) (hr : ∀ x, x < b.length → (b.getD x 0).testBit x = true)
  (ht : ∀ x y z, x < b.length → (b.getD x 0).testBit y = true → (b.getD y 0).testBit z = true → (b.getD x 0).testBit z = true)
  (ha : ∀ x y, x < b.length → y < b.length → (b.getD x 0).testBit y = true → (b.getD y 0).testBit x = true → x = y) : Pos b := by
 refine ⟨h8, hb, ?_, ?_, ?_⟩
 ·unfold reflB
  rw [List.all_eq_true]
  intro x hx
  exact hr x (List.mem_range.1 hx)
 ·unfold transB
  rw [List.all_eq_true]
  intro x hx
  rw [inB_iff]
  intro z hz
  obtain ⟨y, hy, h1, h2⟩ := (imgL_bit _ _ _ _).1 hz
  exact ht x y z (List.mem_range.1 hx) h1 h2
 ·unfold antiB
  rw [List.all_eq_true]
  intro x hx
  rw [List.all_eq_true]
  intro y hy
  unfold antiQ
  cases h1 : (b.getD x 0).testBit y
  ·rfl
  ·cases h2 : (b.getD y 0).testBit x
   ·simp
   ·rw [ha x y (List.mem_range.1 hx) (List.mem_range.1 hy) h1 h2, beq_self_eq_true]
    rfl
theorem Pos.tr {b : List Nat} (hp : Pos b) {x y z : Nat} (hx : x < b.length) (h1 : (b.getD x 0).testBit y = true) (h2 : (b.getD y 0).testBit z = true) : (b.getD x 0).testBit z = true := trans_of hp.2.1 hp.2.2.2.1 hx h1 h2
theorem ren_Pos {b o : List Nat} (hp : Pos b) (h8 : o.length ≤ 8) (ho : ∀ i, i < o.length → o.getD i 0 < b.length) (hnd : ∀ i j, i < o.length → j < o.length → o.getD i 0 = o.getD j 0 → i = j) : Pos (renP b o) := by
 have hl := renP_len b o
 refine pos_mk (by omega) (by rw [hl]; exact renP_bnd b o) ?_ ?_ ?_
 ·intro x hx
  rw [hl] at hx
  rw [renP_bit b o hx, decide_eq_true hx, refl_of hp.2.2.1 (ho x hx)]
  rfl
 ·intro x y z hx h1 h2
  rw [hl] at hx
  rw [renP_bit b o hx, Bool.and_eq_true, decide_eq_true_eq] at h1
  rw [renP_bit b o h1.1, Bool.and_eq_true, decide_eq_true_eq] at h2
  rw [renP_bit b o hx, decide_eq_true h2.1, hp.tr (ho x hx) h1.2 h2.2]
  rfl
 ·intro x y hx hy h1 h2
  rw [hl] at hx hy
  rw [renP_bit b o hx, Bool.and_eq_true, decide_eq_true_eq] at h1
  rw [renP_bit b o hy, Bool.and_eq_true, decide_eq_true_eq] at h2
  exact hnd x y hx hy (anti_of hp.2.2.2.2 (ho x hx) (ho y hy) h1.2 h2.2)
theorem Pos.row_lt {b : List Nat} (hp : Pos b) {x y : Nat} (hx : x < b.length) (h : (b.getD x 0).testBit y = true) (hne : x ≠ y) : b.getD y 0 < b.getD x 0 := by
 have hy := bit_lt hp.2.1 h
 have hs : b.getD y 0 &&& b.getD x 0 = b.getD y 0 := by
  apply Nat.eq_of_testBit_eq
  intro i
  rw [Nat.testBit_and]
  cases e : (b.getD y 0).testBit i
  ·rfl
  ·rw [hp.tr hx h e]; rfl
 have hle : b.getD y 0 ≤ b.getD x 0 := by rw [← hs]; exact Nat.and_le_right
 refine Nat.lt_of_le_of_ne hle fun e => hne ?_
 refine anti_of hp.2.2.2.2 hx hy h ?_
 rw [e]; exact refl_of hp.2.2.1 hx
theorem qt_row {b c : List Nat} (hb : Pos b) (hg : cgB b c = true) {x y : Nat} (hx : x < b.length) : ((qtL b c).getD (c.getD x 0) 0).testBit y = true ↔ ∃ x', x' < b.length ∧ (b.getD x 0).testBit x' = true ∧ c.getD x' 0 = y := by
 rw [← cgB_row hg hx]
 unfold mapM
 rw [foldM_tb]
 constructor
 ·rintro ⟨x', h1, h2⟩
  exact ⟨x', bit_lt hb.2.1 (memB_mem h1).2, (memB_mem h1).2, h2⟩
 ·rintro ⟨x', h0, h1, h2⟩
  exact ⟨x', mem_memB h1 (by have := hb.1; omega), h2⟩
theorem qt_anti {b c : List Nat} (hb : Pos b) (hg : cgB b c = true) {A B : Nat} (hne : A ≠ B) (h1 : ((qtL b c).getD A 0).testBit B = true) (h2 : ((qtL b c).getD B 0).testBit A = true) :
  ∀ n x, b.getD x 0 < n → x < b.length → (c.getD x 0 = A ∨ c.getD x 0 = B) → False
 | 0, x, h, _, _ => by omega
 | n + 1, x, h, hx, hc => by
  have hstep : ∃ x', x' < b.length ∧ (b.getD x 0).testBit x' = true ∧ x ≠ x' ∧ (c.getD x' 0 = A ∨ c.getD x' 0 = B) := by
   rcases hc with hc | hc
   ·rw [← hc, qt_row hb hg hx] at h1
    obtain ⟨x', q1, q2, q3⟩ := h1
    exact ⟨x', q1, q2, fun e => hne (by rw [← hc, ← q3, e]), .inr q3⟩
   ·rw [← hc, qt_row hb hg hx] at h2
    obtain ⟨x', q1, q2, q3⟩ := h2
    exact ⟨x', q1, q2, fun e => hne (by rw [← hc, ← q3, e]), .inl q3⟩
  obtain ⟨x', q1, q2, q3, q4⟩ := hstep
  exact qt_anti hb hg hne h1 h2 n x' (by have := hb.row_lt hx q2 q3; omega) q1 q4
theorem qt_Pos {b c : List Nat} (hb : Pos b) (hc : ArC c) (hl : c.length = b.length) (hg : cgB b c = true) : Pos (qtL b c) := by
 have hlq : (qtL b c).length = cntC c := qtK_len b c _
 have hcn := hc.cnt
 have h8 := hb.1
 have hhit : ∀ y, y < (qtL b c).length → ∃ i, i < b.length ∧ c.getD i 0 = y := fun y hy => by
  obtain ⟨i, h1, h2⟩ := hc.hits (by omega : y < cntC c)
  exact ⟨i, by omega, h2⟩
 refine pos_mk (by omega) (by rw [hlq]; exact qtK_bnd (by rw [hl]; exact hb.2.1) _) ?_ ?_ ?_
 ·intro y hy
  obtain ⟨i, hi, rfl⟩ := hhit y hy
  exact (qt_row hb hg hi).2 ⟨i, hi, refl_of hb.2.2.1 hi, rfl⟩
 ·intro x y z hx h1 h2
  obtain ⟨i, hi, rfl⟩ := hhit x hx
  obtain ⟨j, hj, h3, rfl⟩ := (qt_row hb hg hi).1 h1
  obtain ⟨k, hk, h4, rfl⟩ := (qt_row hb hg hj).1 h2
  exact (qt_row hb hg hi).2 ⟨k, hk, hb.tr hi h3 h4, rfl⟩
 ·intro x y hx hy h1 h2
  obtain ⟨i, hi, rfl⟩ := hhit x hx
  refine Classical.byContradiction fun hne => qt_anti hb hg hne h1 h2 _ i (Nat.lt_succ_self _) hi (.inl rfl)
theorem vld_at (b q : List Nat) (hb : Pos b) (hq : Pos q) (R : Nat → Nat → Prop) (hf : ∀ x y y', R x y → R x y' → y = y') (hR : ∀ x y, R x y → x < b.length ∧ y < q.length)
  (zig : ∀ x y x', R x y → (b.getD x 0).testBit x' = true → ∃ y', (q.getD y 0).testBit y' = true ∧ R x' y')
  (zag : ∀ x y y', R x y → (q.getD y 0).testBit y' = true → ∃ x', (b.getD x 0).testBit x' = true ∧ R x' y')
  (t : Fm) (hw : t.wf) (h : vldR b t = true) (A : Nat → Nat → Prop) (hA) (y : Nat) (hy : y < q.length) (hon : ∃ x, R x y) : (kmA q hq A hA).forces ⟨y, hy⟩ t := by
 rw [vld_km b hb t hw] at h
 obtain ⟨x, hx⟩ := hon
 have hA' : ∀ x x' p, x < b.length → (b.getD x 0).testBit x' = true → (∃ y, R x y ∧ A y p) → ∃ y, R x' y ∧ A y p := by
  rintro x x' p _ hxx ⟨y, hr, ha⟩
  obtain ⟨y', h1, h2⟩ := zig x y x' hr hxx
  exact ⟨y', h2, hA y y' p (hR x y hr).2 h1 ha⟩
 have hB : BiS (varL t) (kmA b hb (fun x p => ∃ y, R x y ∧ A y p) hA') (kmA q hq A hA) (fun u v => R u.1 v.1) := by
  refine ⟨?_, ?_, ?_⟩
  ·intro u v r p _
   constructor
   ·rintro ⟨y', h1, h2⟩
    have e := hf _ _ _ r h1
    show A v.1 p
    rw [e]; exact h2
   ·intro ha
    exact ⟨v.1, r, ha⟩
  ·intro u v u' r hu
   obtain ⟨y', h1, h2⟩ := zig _ _ _ r hu
   exact ⟨⟨y', (hR _ _ h2).2⟩, h1, h2⟩
  ·intro u v v' r hv
   obtain ⟨x', h1, h2⟩ := zag _ _ _ r hv
   exact ⟨⟨x', (hR _ _ h2).1⟩, h1, h2⟩
 exact (hB.forces t (inV_varL hw) ⟨x, (hR x y hx).1⟩ ⟨y, hy⟩ hx).1 (h _ hA' x (hR x y hx).1)
theorem ren_at (b o : List Nat) (hb : Pos b) (hq : Pos (renP b o)) (ho : ∀ i, i < o.length → o.getD i 0 < b.length)
  (hup : ∀ i x, i < o.length → (b.getD (o.getD i 0) 0).testBit x = true → ∃ j, j < o.length ∧ o.getD j 0 = x)
  (t : Fm) (hw : t.wf) (h : vldR (renP b o) t = true) (A : Nat → Nat → Prop) (hA) (i : Nat) (hi : i < o.length) : (kmA b hb A hA).forces ⟨o.getD i 0, ho i hi⟩ t := by
 refine vld_at (renP b o) b hq hb (fun x y => x < o.length ∧ y = o.getD x 0) ?_ ?_ ?_ ?_ t hw h A hA _ _ ⟨i, hi, rfl⟩
 ·rintro x y y' ⟨_, e1⟩ ⟨_, e2⟩
  rw [e1, e2]
 ·rintro x y ⟨h1, rfl⟩
  exact ⟨by rw [renP_len]; exact h1, ho x h1⟩
 ·rintro x y x' ⟨h1, rfl⟩ hx
  rw [renP_bit b o h1, Bool.and_eq_true, decide_eq_true_eq] at hx
  exact ⟨o.getD x' 0, hx.2, hx.1, rfl⟩
 ·rintro x y y' ⟨h1, rfl⟩ hy
  obtain ⟨j, hj, rfl⟩ := hup x y' h1 hy
  exact ⟨j, by rw [renP_bit b o h1, decide_eq_true hj, hy]; rfl, hj, rfl⟩
theorem perm_tab : ∀ n : Fin 6, ∀ o ∈ permP n, (∀ y : Fin n, ∃ i : Fin n, o.getD i 0 = y) ∧ ∀ i j : Fin n, o.getD i 0 = o.getD j 0 → i = j := by decide +kernel
theorem perm_on {n : Nat} (hn : n ≤ 5) {o : List Nat} (ho : o ∈ permP n) : (∀ y, y < n → ∃ i, i < n ∧ o.getD i 0 = y) ∧ ∀ i j, i < n → j < n → o.getD i 0 = o.getD j 0 → i = j := by
 obtain ⟨h1, h2⟩ := perm_tab ⟨n, by omega⟩ o ho
 refine ⟨fun y hy => ?_, fun i j hi hj he => ?_⟩
 ·obtain ⟨i, hi⟩ := h1 ⟨y, hy⟩
  exact ⟨i.1, i.2, hi⟩
 ·have := h2 ⟨i, hi⟩ ⟨j, hj⟩ he
  exact congrArg Fin.val this
theorem least_vld {p : List Nat} (hp : Pos p) (h5 : p.length ≤ 5) : Pos (leastP p) ∧ ∀ t : Fm, t.wf → vldR (leastP p) t = vldR p t := by
 rcases leastP_or p with h | ⟨o, ho, h⟩
 ·rw [h]; exact ⟨hp, fun _ _ => rfl⟩
 ·obtain ⟨hl, hlt⟩ := perm_len h5 ho
  obtain ⟨hon, hnd⟩ := perm_on h5 ho
  have hlt' : ∀ i, i < o.length → o.getD i 0 < p.length := fun i hi => by
   rw [List.getD_eq_getElem?_getD, List.getElem?_eq_getElem hi]
   exact hlt _ (List.getElem_mem hi)
  have hq : Pos (renP p o) := ren_Pos hp (by omega) hlt' (fun i j hi hj => hnd i j (by omega) (by omega))
  have hup : ∀ i x, i < o.length → (p.getD (o.getD i 0) 0).testBit x = true → ∃ j, j < o.length ∧ o.getD j 0 = x := fun i x _ hx => by
   obtain ⟨j, hj, he⟩ := hon x (bit_lt hp.2.1 hx)
   exact ⟨j, by omega, he⟩
  rw [h]
  refine ⟨hq, fun t hw => ?_⟩
  rw [Bool.eq_iff_iff]
  constructor
  ·intro hv
   rw [vld_km p hp t hw]
   intro A hA x hx
   obtain ⟨i, hi, rfl⟩ := hon x hx
   exact ren_at p o hp hq hlt' hup t hw hv A hA i (by omega)
  ·exact vld_ren p o hp hq hlt' (fun i j hi hj => hnd i j (by omega) (by omega)) hup t hw
theorem memB_tab : ∀ m : Fin 256, ∀ i j : Fin 8, i.1 < (memB m).length → j.1 < (memB m).length → (memB m).getD i 0 = (memB m).getD j 0 → i = j := by decide +kernel
theorem memB_l8 : ∀ m : Fin 256, (memB m).length ≤ 8 := by decide +kernel
theorem memB_l5 : ∀ m : Fin 32, (memB m).length ≤ 5 := by decide +kernel
theorem memB_inj {m : Nat} (hm : m < 256) {i j : Nat} (hi : i < (memB m).length) (hj : j < (memB m).length) (h : (memB m).getD i 0 = (memB m).getD j 0) : i = j := by
 have h8 := memB_l8 ⟨m, hm⟩
 have h8' : (memB m).length ≤ 8 := h8
 exact congrArg Fin.val (memB_tab ⟨m, hm⟩ ⟨i, by omega⟩ ⟨j, by omega⟩ hi hj h)
theorem memB_at {m i : Nat} (hi : i < (memB m).length) : (memB m).getD i 0 < 8 ∧ m.testBit ((memB m).getD i 0) = true := by
 rw [List.getD_eq_getElem?_getD, List.getElem?_eq_getElem hi]
 exact memB_mem (List.getElem_mem hi)
theorem memB_find {m x : Nat} (hx : x < 8) (h : m.testBit x = true) : ∃ j, j < (memB m).length ∧ (memB m).getD j 0 = x := by
 obtain ⟨j, hj, he⟩ := List.getElem_of_mem (mem_memB h hx)
 exact ⟨j, hj, by rw [List.getD_eq_getElem?_getD, List.getElem?_eq_getElem hj]; exact he⟩
theorem prt_ok {b : List Nat} (hp : Pos b) {m : Nat} (hm : m ∈ upL b) : m < 256 ∧ (∀ i, i < (memB m).length → (memB m).getD i 0 < b.length) ∧ (∀ i x, i < (memB m).length → (b.getD ((memB m).getD i 0) 0).testBit x = true → ∃ j, j < (memB m).length ∧ (memB m).getD j 0 = x) ∧ Pos (prtL b m) := by
 obtain ⟨h1, h2⟩ := (mem_upL hp.2.2.1).1 hm
 have h8 := hp.1
 have h256 : 2 ^ b.length ≤ 2 ^ 8 := Nat.pow_le_pow_right (by omega) h8
 have hm8 : m < 256 := by omega
 have ho : ∀ i, i < (memB m).length → (memB m).getD i 0 < b.length := fun i hi => by
  refine Nat.lt_of_not_le fun hle => ?_
  have := (memB_at hi).2
  rw [Nat.testBit_lt_two_pow (Nat.lt_of_lt_of_le h1 (Nat.pow_le_pow_right (by omega) hle))] at this
  exact Bool.noConfusion this
 refine ⟨hm8, ho, fun i x hi hx => ?_, ?_⟩
 ·exact memB_find (by have := bit_lt hp.2.1 hx; omega) (h2 _ x (ho i hi) (memB_at hi).2 hx)
 ·rw [prtL_renP]
  exact ren_Pos hp (memB_l8 ⟨m, hm8⟩) ho (fun i j hi hj => memB_inj hm8 hi hj)
theorem prt_len {b : List Nat} (hp : Pos b) (h5 : b.length ≤ 5) {m : Nat} (hm : m ∈ upL b) : (prtL b m).length ≤ 5 := by
 have h1 := ((mem_upL hp.2.2.1).1 hm).1
 have h2 : 2 ^ b.length ≤ 2 ^ 5 := Nat.pow_le_pow_right (by omega) h5
 rw [prtL_renP, renP_len]
 exact memB_l5 ⟨m, by omega⟩
theorem img_ok {b : List Nat} (hp : Pos b) (h5 : b.length ≤ 5) {q : List Nat} (hq : q ∈ imgU b (upL b)) : Pos q ∧ q.length ≤ 5 ∧ ∀ t : Fm, t.wf → vldR b t = true → vldR q t = true := by
 obtain ⟨m, hm, hq⟩ := List.mem_flatMap.1 hq
 obtain ⟨hm8, ho, hup, hP⟩ := prt_ok hp hm
 have hl5 := prt_len hp h5 hm
 obtain ⟨c, hc, hq⟩ := List.mem_flatMap.1 hq
 obtain ⟨ha, hl, hg⟩ := cgL_mem hc
 split at hq
 ·rw [List.mem_singleton] at hq
  subst hq
  have hQ := qt_Pos hP ha hl hg
  have hcn := ha.cnt
  have hlq : (qtL (prtL b m) c).length = cntC c := qtK_len _ c _
  obtain ⟨h1, h2⟩ := least_vld hQ (by omega)
  refine ⟨h1, ?_, fun t hw hv => ?_⟩
  ·rw [(leastP_len (by omega) hQ.2.1).1]; omega
  ·rw [h2 t hw]
   refine vld_img _ c hP hQ ha hl hg t hw ?_
   rw [prtL_renP] at hP ⊢
   exact vld_ren b (memB m) hp hP ho (fun i j hi hj => memB_inj hm8 hi hj) hup t hw hv
 ·simp at hq
theorem img_back {b : List Nat} (hp : Pos b) (h5 : b.length ≤ 5) {t : Fm} (hw : t.wf) (h : ∀ q ∈ imgU b (upL b), vldR q t = true) : vldR b t = true := by
 rw [vld_km b hp t hw]
 intro A hA x hx
 have hm : b.getD x 0 ∈ upL b := by
  rw [mem_upL hp.2.2.1]
  exact ⟨hp.2.1 x, fun u v _ h1 h2 => hp.tr hx h1 h2⟩
 obtain ⟨hm8, ho, hup, hP⟩ := prt_ok hp hm
 have hl5 := prt_len hp h5 hm
 obtain ⟨i, hi, he⟩ := memB_find (m := b.getD x 0) (by have := hp.1; omega) (refl_of hp.2.2.1 hx)
 have hr : rtB (prtL b (b.getD x 0)) = true := by
  unfold rtB
  rw [decide_eq_true_eq]
  have hlp : (prtL b (b.getD x 0)).length = (memB (b.getD x 0)).length := by rw [prtL_renP, renP_len]
  have hrow : (prtL b (b.getD x 0)).getD i 0 = 2 ^ (prtL b (b.getD x 0)).length - 1 := by
   apply Nat.eq_of_testBit_eq
   intro j
   rw [full_bit, prtL_renP, renP_bit b _ hi, renP_len]
   by_cases hj : j < (memB (b.getD x 0)).length
   ·rw [decide_eq_true hj, he, (memB_at hj).2]
    rfl
   ·rw [decide_eq_false hj]
    rfl
  have key : ∀ (l : List Nat) (i : Nat), i < l.length → l.getD i 0 ∈ l := fun l i h => by rw [getD_get h]; exact List.getElem_mem _
  rw [← hrow]
  exact key _ _ (by omega)
 have hs := self_img (p := prtL b (b.getD x 0)) (by omega) hP.2.1 hr
 have hv := h _ (List.mem_flatMap.2 ⟨_, hm, hs⟩)
 rw [(least_vld hP hl5).2 t hw] at hv
 rw [prtL_renP] at hv hP
 have := ren_at b (memB (b.getD x 0)) hp hP ho hup t hw hv A hA i hi
 have e : (⟨(memB (b.getD x 0)).getD i 0, ho i hi⟩ : (kmA b hp A hA).W) = ⟨x, hx⟩ := Subtype.ext he
 rw [e] at this
 exact this
theorem img_law {b : List Nat} (hp : Pos b) (h5 : b.length ≤ 5) {k : Nat} (hk : k < 9) : (∀ q ∈ imgU b (upL b), ofK q k = true) ↔ ofK b k = true := by
 rw [← ax_valid hp hk]
 constructor
 ·intro h
  refine img_back hp h5 (forms9_wf k hk) fun q hq => ?_
  rw [ax_valid (img_ok hp h5 hq).1 hk]
  exact h q hq
 ·intro h q hq
  rw [← ax_valid (img_ok hp h5 hq).1 hk]
  exact (img_ok hp h5 hq).2.2 _ (forms9_wf k hk) h
end Go.Proofs.YtfmmajgkjkmghaaGreatDoor
namespace Go.Proofs.YtfmmajgkjkmghaaGreatDoor
open Go.RowKit
set_option maxRecDepth 20000 in
set_option maxHeartbeats 1000000 in
theorem rooted_big (b : List Nat) (hp : Pos b) (h5 : 5 < b.length) (pv : Value) (w : World) (hpv : Ints w pv (zs b)) :
  Calls Tryz.prog 10 #[.agg #[.int .i64 b.length, pv]] w fun e w' => e = .returned (.tuple #[.slice none 0 0, .int .i64 3]) ∧ Keeps w w' := by
 have kA := (Keeps.refl w).alloc (.cells #[.int .i64 b.length, pv] 26)
 obtain ⟨c0, c1⟩ := BoxF.made w b.length pv 26
 have hip := hp.isPos
 have HIP := hid (fun wz (kz : Keeps w wz) => isPoset_any (b.length : Int) (zs b) pv wz (hpv.keeps kz))
 rw [hip] at HIP
 obtain ⟨p, cap, rfl, -⟩ := id hpv
 rw [zs_length] at *
 clear hp hip hpv
 have hgt : (b.length : Int) > 5 := by omega
 generalize b.length = n at *
 go_enter Tryz.func10, Tryz.ntmps10
 go_wp2_with fail
 refine (HIP.out _ kA).mono ?_; rintro e w2 ⟨rfl, k2⟩
 have d0 := k2.cell c0
 have d1 := k2.cell c1
 have kB := kA.trans k2
 go_wp2_with fail
 go_ret2
 exact ⟨rfl, kB⟩
end Go.Proofs.YtfmmajgkjkmghaaGreatDoor
namespace Go.Proofs.YtfmmajgkjkmghaaGreatDoor
open Go.RowKit
def BoxG (w : World) (r : Nat) (T : TypeId) (cs : List Value) : Prop := w.ownsRow r T cs.length (.slice (some ⟨r, 0, none⟩) 1 1) 1 cs
section
variable {w w' : World} {r : Nat} {T : TypeId} {cs : List Value}
theorem BoxG.cell (h : BoxG w r T cs) (i : Nat) (hi : i < cs.length) : w.cell? ⟨r, i, none⟩ = some cs[i] := by
 rw [World.ownsRow.cellAt h i (by omega)]
 exact List.getElem?_eq_getElem hi
theorem BoxG.keeps (h : BoxG w r T cs) (k : Keeps w w') : BoxG w' r T cs := own_keeps h k
theorem BoxG.other {B s m : Nat} {T' : TypeId} {u : Value} {ds : List Value} (h : BoxG w r T cs) (ho : w.ownsRow B T' s u m ds) (t : T' ≠ T) (k : w.grownBy w' u.ownBlock) : BoxG w' r T cs :=
 own_touch h (Touch.grown k) (fun _i e hi => type_ne ho h t hi.symm e)
theorem BoxG.made (w : World) (T : TypeId) (cs : List Value) (_h0 : 0 < cs.length) (_h1 : cs.length ≤ 1000) : BoxG (w.alloc (.cells cs.toArray T)) w.heap.size T cs := by
 have h := World.ownsRow_lit (base := w.heap.size) (e := T) (size := cs.length) w cs.toArray 1 (Nat.le_refl _) (by unfold maxLen; omega) (by simp)
 simpa [BoxG] using h
end
end Go.Proofs.YtfmmajgkjkmghaaGreatDoor
