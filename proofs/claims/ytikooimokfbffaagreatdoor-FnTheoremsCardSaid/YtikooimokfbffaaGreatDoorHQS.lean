import Derived.Test.YtikooimokfbffaaGreatDoorHPD
import Derived.Test.YtikooimokfbffaaGreatDoorHQ3
/- Plain mathematics: depths of the elements of an order. No program in sight. -/
namespace Go.Proofs.YtikooimokfbffaaGreatDoor
def supD (f : Nat → Nat) (m x : Nat) : Nat → Nat
 | 0 => 0
 | k + 1 => if m.testBit k && !(k == x) then max (supD f m x k) (f k) else supD f m x k
def dptF (b : List Nat) : Nat → Nat → Nat
 | 0, _ => 1
 | f + 1, x => supD (dptF b f) (b.getD x 0) x 8 + 1
def dptB (b : List Nat) (x : Nat) : Nat := dptF b 8 x
theorem supD_congr {f g : Nat → Nat} {m x : Nat} : ∀ k, (∀ y, y < k → m.testBit y = true → y ≠ x → f y = g y) → supD f m x k = supD g m x k
 | 0, _ => rfl
 | k + 1, h => by
  have ih := supD_congr k (fun y h1 => h y (by omega))
  unfold supD
  by_cases c : (m.testBit k && !(k == x)) = true
  ·rw [if_pos c, if_pos c, ih]
   simp only [Bool.and_eq_true, Bool.not_eq_true', beq_eq_false_iff_ne] at c
   rw [h k (by omega) c.1 c.2]
  ·rw [if_neg c, if_neg c, ih]
theorem supD_ge {f : Nat → Nat} {m x : Nat} : ∀ {k y : Nat}, y < k → m.testBit y = true → y ≠ x → f y ≤ supD f m x k
 | 0, y, h, _, _ => by omega
 | k + 1, y, h, h1, h2 => by
  unfold supD
  by_cases e : y = k
  ·subst e
   rw [if_pos (by simp [h1, h2])]; omega
  ·have := supD_ge (f := f) (m := m) (x := x) (show y < k by omega) h1 h2
   split <;> omega
theorem supD_le {f : Nat → Nat} {m x v : Nat} : ∀ k, (∀ y, y < k → m.testBit y = true → y ≠ x → f y ≤ v) → supD f m x k ≤ v
 | 0, _ => Nat.zero_le _
 | k + 1, h => by
  have ih := supD_le k (fun y h1 => h y (by omega))
  unfold supD
  by_cases c : (m.testBit k && !(k == x)) = true
  ·rw [if_pos c]
   simp only [Bool.and_eq_true, Bool.not_eq_true', beq_eq_false_iff_ne] at c
   have := h k (by omega) c.1 c.2
   omega
  ·rw [if_neg c]; exact ih
theorem supD_met {f : Nat → Nat} {m x : Nat} : ∀ k, supD f m x k = 0 ∨ ∃ y, y < k ∧ m.testBit y = true ∧ y ≠ x ∧ f y = supD f m x k
 | 0 => .inl rfl
 | k + 1 => by
  have ih := supD_met (f := f) (m := m) (x := x) k
  unfold supD
  by_cases c : (m.testBit k && !(k == x)) = true
  ·rw [if_pos c]
   simp only [Bool.and_eq_true, Bool.not_eq_true', beq_eq_false_iff_ne] at c
   by_cases hl : supD f m x k ≤ f k
   ·right; exact ⟨k, by omega, c.1, c.2, by omega⟩
   ·rcases ih with h | ⟨y, h1, h2, h3, h4⟩
    ·omega
    ·right; exact ⟨y, by omega, h2, h3, by omega⟩
  ·rw [if_neg c]
   rcases ih with h | ⟨y, h1, h2, h3, h4⟩
   ·exact .inl h
   ·right; exact ⟨y, by omega, h2, h3, h4⟩
theorem anti_of {b : List Nat} (h : antiB b = true) {x y : Nat} (hx : x < b.length) (hy : y < b.length) (h1 : (b.getD x 0).testBit y = true) (h2 : (b.getD y 0).testBit x = true) : x = y := by
 unfold antiB at h
 have := List.all_eq_true.1 (List.all_eq_true.1 h x (by simpa using hx)) y (by simpa using hy)
 unfold antiQ at this
 rw [h1, h2] at this
 simpa using this
theorem memB_sub {a m : Nat} (hs : ∀ i, a.testBit i = true → m.testBit i = true) {x : Nat} (hx : m.testBit x = true) (hxa : a.testBit x = false) (h8 : x < 8) : cntB a < cntB m := by
 unfold cntB memB lowB
 have h1 : ((List.range 8).filter fun j => a.testBit j) = ((List.range 8).filter fun j => m.testBit j).filter fun j => a.testBit j := by
  rw [List.filter_filter]
  apply List.filter_congr
  intro j _
  cases e : a.testBit j
  ·rfl
  ·simp [hs j e]
 rw [h1]
 have hm : x ∈ (List.range 8).filter fun j => m.testBit j := List.mem_filter.2 ⟨List.mem_range.2 h8, hx⟩
 have hle := List.length_filter_le (fun j => a.testBit j) ((List.range 8).filter fun j => m.testBit j)
 rcases Nat.lt_or_ge (((List.range 8).filter fun j => m.testBit j).filter fun j => a.testBit j).length ((List.range 8).filter fun j => m.testBit j).length with h | h
 ·exact h
 ·have := List.length_filter_eq_length_iff.1 (Nat.le_antisymm hle h) x hm
  rw [hxa] at this; cases this
section
variable {b : List Nat} (hb : b.length ≤ 8) (hbm : Bnd b.length b) (hr : reflB b = true) (ht : transB b = true) (ha : antiB b = true)
include hb hbm hr ht ha
theorem above_less {x y : Nat} (hx : x < b.length) (hxy : (b.getD x 0).testBit y = true) (hne : y ≠ x) : cntB (b.getD y 0) < cntB (b.getD x 0) := by
 have hy := bit_lt hbm hxy
 refine memB_sub (x := x) (fun i hi => trans_of hbm ht hx hxy hi) (refl_of hr hx) ?_ (by omega)
 cases e : (b.getD y 0).testBit x
 ·rfl
 ·exact absurd (anti_of ha hy hx e hxy) hne
theorem dptF_stable : ∀ c x, x < b.length → cntB (b.getD x 0) ≤ c → ∀ f, c ≤ f + 1 → dptF b (f + 1) x = dptF b f x := by
 intro c
 induction c with
 | zero =>
  intro x hx hc f _
  have : x ∈ memB (b.getD x 0) := List.mem_filter.2 ⟨List.mem_range.2 (by omega), refl_of hr hx⟩
  have h0 : 0 < (memB (b.getD x 0)).length := List.length_pos_of_mem this
  unfold cntB at hc
  omega
 | succ c ih =>
  intro x hx hc f hf
  have hstep : ∀ f, c ≤ f + 1 → ∀ y, y < 8 → (b.getD x 0).testBit y = true → y ≠ x → dptF b (f + 1) y = dptF b f y := fun f hf y _ hy hne => by
   have := above_less hb hbm hr ht ha hx hy hne
   exact ih y (bit_lt hbm hy) (by omega) f hf
  cases f with
  | zero =>
   -- c = 0: nothing lies strictly above
   have hc0 : c = 0 := by omega
   have : supD (dptF b 0) (b.getD x 0) x 8 = 0 := by
    rcases supD_met (f := dptF b 0) (m := b.getD x 0) (x := x) 8 with h | ⟨y, h1, h2, h3, _⟩
    ·exact h
    ·have h4 := above_less hb hbm hr ht ha hx h2 h3
     have h5 : y ∈ memB (b.getD y 0) := List.mem_filter.2 ⟨List.mem_range.2 h1, refl_of hr (bit_lt hbm h2)⟩
     have h6 : 0 < (memB (b.getD y 0)).length := List.length_pos_of_mem h5
     unfold cntB at hc h4
     omega
   show supD (dptF b 0) (b.getD x 0) x 8 + 1 = 1
   rw [this]
  | succ f =>
   show supD (dptF b (f + 1)) (b.getD x 0) x 8 + 1 = supD (dptF b f) (b.getD x 0) x 8 + 1
   rw [supD_congr 8 (hstep f (by omega))]
theorem dptB_eq {x : Nat} (hx : x < b.length) : dptB b x = supD (dptB b) (b.getD x 0) x 8 + 1 := by
 have h := dptF_stable hb hbm hr ht ha 8 x hx (cntB_le _) 8 (by omega)
 unfold dptB
 rw [← h]
 rfl
theorem dptB_above {x y : Nat} (hx : x < b.length) (hy : (b.getD x 0).testBit y = true) (hne : y ≠ x) : dptB b y + 1 ≤ dptB b x := by
 have hy8 : y < 8 := by have := bit_lt hbm hy; omega
 rw [dptB_eq hb hbm hr ht ha hx]
 have := supD_ge (f := dptB b) (m := b.getD x 0) (x := x) hy8 hy hne
 omega
theorem dptB_le : ∀ c x, x < b.length → cntB (b.getD x 0) ≤ c → dptB b x ≤ c := by
 intro c
 induction c with
 | zero =>
  intro x hx hc
  have : x ∈ memB (b.getD x 0) := List.mem_filter.2 ⟨List.mem_range.2 (by omega), refl_of hr hx⟩
  have h0 : 0 < (memB (b.getD x 0)).length := List.length_pos_of_mem this
  unfold cntB at hc
  omega
 | succ c ih =>
  intro x hx hc
  rw [dptB_eq hb hbm hr ht ha hx]
  have : supD (dptB b) (b.getD x 0) x 8 ≤ c := supD_le 8 (fun y _ hy hne => by
   have h1 := above_less hb hbm hr ht ha hx hy hne
   exact ih y (bit_lt hbm hy) (by omega))
  omega
theorem dptB_pos {x : Nat} (hx : x < b.length) : 1 ≤ dptB b x := by rw [dptB_eq hb hbm hr ht ha hx]; omega
theorem dptB_8 {x : Nat} (hx : x < b.length) : dptB b x ≤ 8 := dptB_le hb hbm hr ht ha 8 x hx (cntB_le _)
theorem fstE_none {k : Nat} (hk : k < b.length) : ∀ j, j ≤ k → fstE b k j = none
 | 0, _ => by have _u := And.intro hb (And.intro hbm (And.intro hr ht)); rfl
 | j + 1, hj => by
  have ih := fstE_none hk j (by omega)
  show (match fstE b k j with | some y => some y | none => if eqvB b k j then some j else none) = none
  rw [ih]
  have : eqvB b k j = false := by
   cases e : eqvB b k j
   ·rfl
   ·unfold eqvB at e
    rw [Bool.and_eq_true] at e
    have := anti_of ha hk (by omega) e.1 e.2
    omega
  simp [this]
theorem clS_range : ∀ k, k ≤ b.length → clS b k = (List.range k, k)
 | 0, _ => rfl
 | k + 1, hk => by
  have ih := clS_range k (by omega)
  rw [clS_none (fstE_none hb hbm hr ht ha (by omega) k (Nat.le_refl _)), ih, List.range_succ]
theorem clB_range : clB b = List.range b.length := by
 unfold clB
 rw [clS_range hb hbm hr ht ha b.length (Nat.le_refl _)]
end
def RndA (b : List Nat) (a : List Nat) (r : Nat) : Prop := a.length = b.length ∧ (∀ i, i < b.length → 1 ≤ a.getD i 0 ∧ a.getD i 0 ≤ dptB b i) ∧ (∀ i, i < b.length → dptB b i ≤ r → a.getD i 0 = dptB b i)
def dptL (b : List Nat) : List Nat := (List.range b.length).map (dptB b)
theorem dptL_len (b : List Nat) : (dptL b).length = b.length := by simp [dptL]
theorem dptL_get {b : List Nat} {i : Nat} (h : i < b.length) : (dptL b).getD i 0 = dptB b i := by simp [dptL, List.getD_eq_getElem?_getD, h]
theorem RndA.done {b a : List Nat} {r : Nat} (h : RndA b a r) (h8 : ∀ i, i < b.length → dptB b i ≤ r) : a = dptL b := by
 apply List.ext_getElem
 ·rw [h.1, dptL_len]
 ·intro i h1 h2
  have hi : i < b.length := by rw [← h.1]; exact h1
  have e1 := h.2.2 i hi (h8 i hi)
  rw [getD_get h1] at e1
  have e2 := dptL_get hi
  rw [getD_get h2] at e2
  rw [e1, e2]
end Go.Proofs.YtikooimokfbffaaGreatDoor
namespace Go.Proofs.YtikooimokfbffaaGreatDoor
def MidA (b : List Nat) (t k : Nat) (a : List Nat) : Prop := RndA b a (t + 1) ∧ ∀ i, i < b.length → i < k → dptB b i ≤ t + 2 → a.getD i 0 = dptB b i
def InnA (b : List Nat) (t x : Nat) (l : List Nat) (j : Nat) (a : List Nat) : Prop := MidA b t x a ∧ ∀ s (h : s < l.length), s < j → l[s] ≠ x → dptB b l[s] ≤ t + 1 → dptB b l[s] + 1 ≤ a.getD x 0
theorem mid_start {b : List Nat} {t : Nat} {a : List Nat} (h : RndA b a (t + 1)) : MidA b t 0 a := ⟨h, fun i _ h2 => by omega⟩
theorem mid_end {b : List Nat} {t : Nat} {a : List Nat} (h : MidA b t b.length a) : RndA b a (t + 1 + 1) := ⟨h.1.1, h.1.2.1, fun i hi hd => h.2 i hi hi hd⟩
theorem inn_start {b : List Nat} {t x : Nat} {l a : List Nat} (h : MidA b t x a) : InnA b t x l 0 a := ⟨h, fun s _ h2 => by omega⟩
theorem inn_skip {b : List Nat} {t x j : Nat} {l a : List Nat} (h : InnA b t x l j a) (hj : j < l.length) (he : l[j] = x) : InnA b t x l (j + 1) a := ⟨h.1, fun s hs h2 hne hd => by
 by_cases e : s = j
 ·subst e; exact absurd he hne
 ·exact h.2 s hs (by omega) hne hd⟩
section
variable {b : List Nat} (hb : b.length ≤ 8) (hbm : Bnd b.length b) (hr : reflB b = true) (ht : transB b = true) (ha : antiB b = true)
include hb hbm hr ht ha
theorem inn_step {t x j : Nat} {l a : List Nat} (h : InnA b t x l j a) (hx : x < b.length) (hj : j < l.length) (hbit : (b.getD x 0).testBit l[j] = true) (hne : l[j] ≠ x) :
  InnA b t x l (j + 1) (a.set x (max (a.getD x 0) (a.getD l[j] 0 + 1))) := by
 obtain ⟨⟨⟨h1, h2, h3⟩, h4⟩, h5⟩ := h
 have hxa : x < a.length := by rw [h1]; exact hx
 have hy := bit_lt hbm hbit
 have hab := dptB_above hb hbm hr ht ha hx hbit hne
 obtain ⟨b1, b2⟩ := h2 x hx
 obtain ⟨c1, c2⟩ := h2 l[j] hy
 refine ⟨⟨⟨by rw [List.length_set]; exact h1, fun i hi => ?_, fun i hi hd => ?_⟩, fun i hi hk hd => ?_⟩, fun s hs hsj hsne hd => ?_⟩
 ·rw [getD_set _ _ _ _ hxa]
  split
  ·rename_i e; subst e; omega
  ·exact h2 i hi
 ·rw [getD_set _ _ _ _ hxa]
  split
  ·rename_i e; subst e
   have := h3 x hx hd
   omega
  ·exact h3 i hi hd
 ·rw [getD_set _ _ _ _ hxa, if_neg (by omega)]
  exact h4 i hi hk hd
 ·rw [getD_set _ _ _ _ hxa, if_pos rfl]
  by_cases e : s = j
  ·subst e
   have := h3 l[s] hy hd
   omega
  ·have := h5 s hs (by omega) hsne hd
   omega
theorem inn_end {t x : Nat} {a : List Nat} (h : InnA b t x (memB (b.getD x 0)) (memB (b.getD x 0)).length a) (hx : x < b.length) : MidA b t (x + 1) a := by
 obtain ⟨hm, h5⟩ := h
 obtain ⟨⟨h1, h2, h3⟩, h4⟩ := id hm
 refine ⟨hm.1, fun i hi hk hd => ?_⟩
 by_cases e : i = x
 ·subst e
  obtain ⟨b1, b2⟩ := h2 i hi
  have he := dptB_eq hb hbm hr ht ha hi
  rcases supD_met (f := dptB b) (m := b.getD i 0) (x := i) 8 with h0 | ⟨y, y1, y2, y3, y4⟩
  ·omega
  ·have hmem : y ∈ memB (b.getD i 0) := List.mem_filter.2 ⟨List.mem_range.2 y1, y2⟩
   obtain ⟨s, hs, rfl⟩ := List.getElem_of_mem hmem
   have := h5 s hs hs y3 (by omega)
   omega
 ·exact h4 i hi (by omega) hd
theorem cntB_le_len {x : Nat} : cntB (b.getD x 0) ≤ b.length := by
 have _u := And.intro hr (And.intro ht ha)
 have h := lowB_more (b.getD x 0) b.length (hbm x) (8 - b.length)
 rw [show b.length + (8 - b.length) = 8 by omega] at h
 unfold cntB memB
 rw [h]
 exact lowB_len _ _
theorem rnd_start : RndA b (List.replicate b.length 1) 1 := by
 have hg : ∀ i, i < b.length → (List.replicate b.length 1).getD i 0 = 1 := fun i hi => by simp [List.getD_eq_getElem?_getD, hi]
 refine ⟨by simp, fun i hi => ?_, fun i hi hd => ?_⟩
 ·rw [hg i hi]
  exact ⟨Nat.le_refl _, dptB_pos hb hbm hr ht ha hi⟩
 ·rw [hg i hi]
  have := dptB_pos hb hbm hr ht ha hi
  omega
theorem rnd_end {a : List Nat} (h : RndA b a (b.length + 1)) : a = dptL b := h.done (fun i hi => by
 have := dptB_le hb hbm hr ht ha (b.length) i hi (cntB_le_len hb hbm hr ht ha)
 omega)
end
end Go.Proofs.YtikooimokfbffaaGreatDoor
namespace Go.Proofs.YtikooimokfbffaaGreatDoor
open Go.RowKit
theorem all_false_at' {α : Type} {l : List α} {P : α → Bool} {k : Nat} (hk : k < l.length) (h : P l[k] = false) : l.all P = false := by
 rw [Bool.eq_false_iff]
 intro h2
 have := List.all_eq_true.1 h2 l[k] (List.getElem_mem hk)
 rw [h] at this; cases this
set_option maxRecDepth 20000 in
set_option maxHeartbeats 1000000 in
theorem onesCount_any (m : Nat) (w : World) (hm : m < 256) : Calls Tryz.prog 199 #[.int .u64 m] w fun e w' => e = .returned (.int .i64 (cntB m)) ∧ w = w' := by
 go_enter Tryz.func199, Tryz.ntmps199
 go_wp2
 go_ret
 refine ⟨ret_int ?_, rfl⟩
 clear w
 revert m
 decide +kernel
set_option maxRecDepth 20000 in
theorem countMembers_any (m : Nat) (w : World) (hm : m < 256) : Calls Tryz.prog 117 #[.int .i64 m] w fun e w' => e = .returned (.int .i64 (cntB m)) ∧ w = w' := by
 have HO := hid (onesCount_any m w hm)
 have hw : IntKind.u64.wrap (m : Int) = m := by
  have : ∀ k : Fin 256, IntKind.u64.wrap ((k : Nat) : Int) = ((k : Nat) : Int) := by decide +kernel
  exact this ⟨m, hm⟩
 go_enter Tryz.func117, Tryz.ntmps117
 go_wp2_with fail
 refine HO.out.mono ?_; rintro e w' ⟨rfl, rfl⟩
 go_wp2_with fail
 go_ret
 exact ⟨rfl, rfl⟩
set_option maxRecDepth 20000 in
set_option maxHeartbeats 1000000 in
theorem subMasksB_any (m : Nat) (hm : m < 256) (w : World) : Calls Tryz.prog 197 #[.int .i64 m] w (RetI w (zs (subB m (m + 1)))) := by
 have HN := hid (fun s (hs : s < 256) (h : inB s m = true) => nxt_of hm hs h)
 have HG := hid (fun s (hs : s < 256) (h : inB s m = true) (hne : s ≠ m) => gap_of hm hs h hne)
 have HX := hid (fun s (hs : s < 256) (h : inB s m = true) (hne : s ≠ m) => subB_next hm hs h hne)
 have HZ := hid (inB_zero m)
 have k0 := (Keeps.refl w).alloc (.cells #[.int .i64 0] 2)
 have hO : OwnI (w.alloc (.cells #[.int .i64 0] 2)) w.heap.size (.slice (some ⟨w.heap.size, 0, none⟩) 1 1) [0] := World.ownsRow_lit w #[.int .i64 0] 1 (Nat.le_refl _) (by simp [maxLen]) (by simp)
 have h1 : zs (subB m 1) = [0] := by simp [subB, zs, inB_zero]
 rw [← h1] at hO
 have HO := hid hO
 clear h1 hO
 go_enter Tryz.func197, Tryz.ntmps197
 go_wp2
 go_loopw [3, 4] (fun r i' wr => ∃ s : Nat, s < 256 ∧ inB s m = true ∧ i' = .int .i64 s ∧ OwnI wr w.heap.size r (zs (subB m (s + 1))) ∧ Keeps w wr) (fun _ i' _ => 256 - (intOf i').toNat)
 case atStart => exact ⟨0, by omega, HZ.out, rfl, HO.out, k0⟩
 case round =>
  obtain ⟨s, hs, hin, rfl, hown, kw⟩ := hrel
  have HI := hid hin; clear hin
  clear HO k0
  have hlen : (zs (subB m (s + 1))).length ≤ 256 := by rw [zs_length]; have := subB_len m (s + 1); omega
  by_cases hne : s = m
  ·subst hne
   have hd : ((s : Int) != (s : Int)) = false := by simp
   go_wp2
   go_ret
   exact ⟨_, rfl, hown, kw⟩
  ·have hd : ((s : Int) != (m : Int)) = true := by simp; omega
   have hnx := HN.out s hs HI.out
   obtain ⟨g1, g2, g3, _⟩ := HG.out s hs HI.out hne
   have hx := HX.out s hs HI.out hne
   have HXs := hid hx; clear hx
   have HI2 := hid g3; clear g3
   generalize nxtB m s = t at *
   have hsz := kw.size
   clear HN HG HX
   generalize hL : zs (subB m (s + 1)) = L at *
   have HL := hid hL; clear hL
   go_wp2_with (at_builtin; refine appI rfl _ _ rfl w.heap.size _ L rfl (hown.keeps ((Keeps.refl wr).alloc _)) _ [(t : Int)] rfl (Ints.lit1 wr _) (by simp; omega) (by simp; omega) ?_; intro v3 w3 hv3 hg3 hr3; have k3 := (kw.alloc (.cells #[.int .i64 t] 2)).grown hg3 (fun q hq => hr3 q hq))
   go_roundw
   case rel => exact ⟨t, g2, HI2.out, rfl, by rw [HXs.out, zs_snoc, HL.out]; exact hv3, k3⟩
   case measure => simp [intOf]; omega
set_option maxRecDepth 20000 in
set_option maxHeartbeats 1000000 in
theorem isAntichain_any (b : List Nat) (n : Int) (s : Nat) (v : Value) (w : World) (hv : Ints w v (zs b)) (hb : b.length ≤ 8) (hbm : Bnd b.length b) (hs : s < 2 ^ b.length) :
  Calls Tryz.prog 198 #[.agg #[.int .i64 n, v], .int .i64 s] w fun e w' => e = .returned (.bool (antiC b s)) ∧ Keeps w w' := by
 have h256 := two8 hb
 have kA := (Keeps.refl w).alloc (.cells #[.int .i64 n, v] 34)
 obtain ⟨c0, c1⟩ := BoxF.made w n v 34
 have HM := hid (fun wz => membersB_any s wz (by omega))
 have hmem : ∀ x ∈ memB s, x < b.length := fun x hx => memB_lt hs hx
 have hml : (memB s).length ≤ 8 := lowB_len s 8
 have hdef : antiC b s = (memB s).all (fun x => b.getD x 0 &&& s == 2 ^ x) := rfl
 have HB : Hid (∀ i, b.getD i 0 < 256) := hid (fun i => Nat.lt_of_lt_of_le (hbm i) h256)
 have hv0 := hv
 obtain ⟨p, cap, rfl, hle, hmx, _, _⟩ := hv
 unfold maxLen at hmx
 rw [zs_length b] at *
 have HMEM := hid hmem
 have HDEF := hid hdef
 clear hbm hmem hdef
 generalize memB s = l at *
 obtain ⟨G, hG⟩ : ∃ G : Nat → Nat, ∀ x, G x = b.getD x 0 := ⟨fun x => b.getD x 0, fun _ => rfl⟩
 obtain ⟨Q, hQ⟩ : ∃ Q : Nat → Bool, ∀ x, Q x = (b.getD x 0 &&& s == 2 ^ x) := ⟨fun x => (b.getD x 0 &&& s == 2 ^ x), fun _ => rfl⟩
 have HALL : Hid (antiC b s = l.all Q) := hid (by rw [HDEF.out]; congr 1; funext x; rw [hQ])
 have HQ := hid hQ; clear hQ
 have HRD := hid (fun x (hx : x < b.length) wz (k : Keeps w wz) => (hv0.keeps k).zs_cell x hx)
 clear HDEF hG
 go_enter Tryz.func198, Tryz.ntmps198
 go_wp2_with fail
 refine (HM.out _).mono ?_; rintro e w2 ⟨v2, rfl, hv2, k2⟩
 have z1 := k2.cell c1
 have hv2i := hv2.ints (by rw [zs_length]; omega)
 obtain ⟨p2, c2, rfl, _, hm2, _, _⟩ := hv2.ints (by rw [zs_length]; omega)
 unfold maxLen at hm2
 rw [zs_length] at *
 have kk := kA.trans k2
 go_wp2
 go_loopw [4, 10] (fun r i' wr => ∃ i : Nat, i ≤ l.length ∧ i' = .int .i64 i ∧ r = .bool false ∧ (∀ j (h : j < l.length), j < i → Q l[j] = true) ∧ Keeps w2 wr) (fun _ i' _ => l.length - (intOf i').toNat)
 case atStart => exact ⟨0, by omega, rfl, rfl, fun j _ h => by omega, Keeps.refl _⟩
 case round =>
  obtain ⟨i, hi, rfl, rfl, hall, kw⟩ := hrel
  have HA := hid hall; clear hall
  by_cases hlt : i < l.length
  ·obtain ⟨b1, o1, rfl, h1⟩ := (hv2i.keeps kw).zs_cell i hlt
   rw [getD_get hlt] at h1
   have hx := HMEM.out l[i] (List.getElem_mem hlt)
   obtain ⟨b2, o2, rfl, h2⟩ := HRD.out l[i] hx wr (kk.trans kw)
   have y1 := kw.cell z1
   have hlt' : (i : Int) < l.length := by omega
   have hx' : ((l[i] : Nat) : Int) < b.length := by omega
   have hg := HB.out l[i]
   have hand := andN (b.getD l[i] 0) s (by omega) (by omega)
   have e1 := (pow63 l[i] (by omega)).1
   have e2 : ((2 ^ l[i] : Nat) : Int) = 2 ^ l[i] := by push_cast; rfl
   have hq := HQ.out l[i]
   have HL : Hid (∀ r, Q l[i] = r → Q l[i] = r) := hid fun _ h => h
   cases hc : Q l[i]
   ·have hne : (bits .and .i64 ((b.getD l[i] 0 : Nat) : Int) (s : Int) != 2 ^ l[i]) = true := by
     rw [hc] at hq
     rw [hand, ← e2]
     simp only [bne_iff_ne, ne_eq]
     intro e
     have : b.getD l[i] 0 &&& s = 2 ^ l[i] := Int.ofNat.inj e
     rw [this] at hq; simp at hq
    have HC := hid (show l.all Q = false from all_false_at' hlt hc)
    clear hc hq hand e2 HL
    generalize b.getD l[i] 0 = g at *
    generalize l[i] = x at *
    go_wp2_with fail
    go_quiet (fail)
    go_wp2_with fail
    go_ret
    exact ⟨ret_bool (by rw [HALL.out, HC.out]), (kk.trans kw).drewN _⟩
   ·have hne : (bits .and .i64 ((b.getD l[i] 0 : Nat) : Int) (s : Int) != 2 ^ l[i]) = false := by
     rw [hc] at hq
     rw [hand, ← e2]
     have : b.getD l[i] 0 &&& s = 2 ^ l[i] := by simpa using hq.symm
     rw [this]; simp
    have HN : Hid (∀ j (h : j < l.length), j < i + 1 → Q l[j] = true) := hid (fun j h hj => by
     by_cases e : j = i
     ·subst e; exact hc
     ·exact HA.out j h (by omega))
    clear hc hq hand e2 HL
    generalize b.getD l[i] 0 = g at *
    generalize l[i] = x at *
    go_wp2_with fail
    go_quiet (fail)
    go_wp2_with fail
    go_roundw
    case rel => exact ⟨i + 1, by omega, by go_num, rfl, HN.out, kw.drewN _⟩
    case measure => simp [intOf]; omega
  ·have hlt' : ¬ (i : Int) < l.length := by omega
   have HC : Hid (l.all Q = true) := hid (by
    rw [List.all_eq_true]
    intro x hx
    obtain ⟨j, hj, rfl⟩ := List.getElem_of_mem hx
    exact HA.out j hj (by omega))
   go_wp2_with fail
   go_ret
   exact ⟨ret_bool (by rw [HALL.out, HC.out]), kk.trans kw⟩
end Go.Proofs.YtikooimokfbffaaGreatDoor
namespace Go.Proofs.YtikooimokfbffaaGreatDoor
open Go.RowKit
theorem okW_sub {b : List Nat} {x s : Nat} (hx : x < b.length) (hs : inB s (b.getD x 0) = true) (ha : antiC b s = true) : okW b s = true := by
 unfold okW
 rw [ha, Bool.true_and, List.any_eq_true]
 exact ⟨x, by simpa using hx, hs⟩
theorem okW_anti {b : List Nat} {s : Nat} (h : okW b s = true) : antiC b s = true ∧ ∃ x, x < b.length ∧ inB s (b.getD x 0) = true := by
 unfold okW at h
 rw [Bool.and_eq_true, List.any_eq_true] at h
 obtain ⟨h1, x, hx, h2⟩ := h
 exact ⟨h1, x, by simpa using hx, h2⟩
set_option maxRecDepth 20000 in
set_option maxHeartbeats 2000000 in
theorem width_any (b : List Nat) (n : Int) (v : Value) (w : World) (hv : Ints w v (zs b)) (hb : b.length ≤ 8) (hbm : Bnd b.length b) :
  Calls Tryz.prog 113 #[.agg #[.int .i64 n, v]] w fun e w' => e = .returned (.int .i64 (widB b)) ∧ Keeps w w' := by
 have h256 := two8 hb
 have kA := (Keeps.refl w).alloc (.cells #[.int .i64 n, v] 34)
 obtain ⟨c0, c1⟩ := BoxF.made w n v 34
 have HSM := hid (fun m wz (hm : m < 256) => subMasksB_any m hm wz)
 have HAC := hid (fun s wz (k : Keeps w wz) (hs : s < 2 ^ b.length) => isAntichain_any b n s v wz (hv.keeps k) hb hbm hs)
 have HCM := hid (fun s wz (hs : s < 256) => countMembers_any s wz hs)
 have HBN : Hid (∀ i, b.getD i 0 < 2 ^ b.length) := hid hbm
 have HFIN := hid (fun v (h : WidAt b v) (ha : ∀ s, s < 256 → okW b s = true → cntB s ≤ v) => WidAt.eq h ha)
 have hv0 := hv
 obtain ⟨p, cap, rfl, hle, hmx, _, _⟩ := hv
 unfold maxLen at hmx
 rw [zs_length] at *
 have HRD := hid (fun x (hx : x < b.length) wz (k : Keeps w wz) => (hv0.keeps k).zs_cell x hx)
 clear hbm hv0
 go_enter Tryz.func113, Tryz.ntmps113
 go_wp2
 go_loopw [3, 11] (fun o i' wr => ∃ (x : Nat) (m : Nat), x ≤ b.length ∧ i' = .int .i64 x ∧ o = .int .i64 m ∧ m ≤ 8 ∧ WidAt b m ∧ (∀ y, y < x → ∀ s, inB s (b.getD y 0) = true → antiC b s = true → cntB s ≤ m) ∧ Keeps (w.alloc (.cells #[.int .i64 n, .slice p b.length cap] 34)) wr) (fun _ i' _ => b.length - (intOf i').toNat)
 case atStart => exact ⟨0, 0, by omega, rfl, rfl, by omega, .inl rfl, fun y h => by omega, Keeps.refl _⟩
 case round =>
  obtain ⟨x, m, hx, rfl, rfl, hm8, hwid, hall, kw⟩ := hrel
  have HW := hid hwid; clear hwid
  have HA := hid hall; clear hall
  have z0 := kw.cell c0
  have z1 := kw.cell c1
  by_cases hlt : x < b.length
  ·have hlt' : (x : Int) < b.length := by omega
   obtain ⟨b1, o1, rfl, h1⟩ := HRD.out x hlt wr (kA.trans kw)
   have hbx := HBN.out x
   have HS := hid (HSM.out (b.getD x 0) wr (by omega))
   have hml := subB_len (b.getD x 0) (b.getD x 0 + 1)
   have HMEM := hid (fun s (h : s ∈ subB (b.getD x 0) (b.getD x 0 + 1)) => (subB_mem.1 h).2)
   have HCV := hid (fun s (h : inB s (b.getD x 0) = true) => subB_mem.2 ⟨Nat.lt_succ_of_le (inB_le h), h⟩)
   have HOK := hid (fun s (h : inB s (b.getD x 0) = true) (ha : antiC b s = true) => okW_sub hlt h ha)
   have HLE := hid (fun s (h : inB s (b.getD x 0) = true) => Nat.lt_of_le_of_lt (inB_le h) hbx)
   generalize subB (b.getD x 0) (b.getD x 0 + 1) = l at *
   generalize hbxe : b.getD x 0 = bx at *
   have HBXE := hid hbxe; clear hbxe
   go_wp2_with fail
   refine HS.out.mono ?_; rintro e w2 ⟨v2, rfl, hv2, k2⟩
   have hv2i := hv2.ints (by rw [zs_length]; omega)
   obtain ⟨p2, c2, rfl, _, hm2, _, _⟩ := hv2.ints (by rw [zs_length]; omega)
   unfold maxLen at hm2
   rw [zs_length] at *
   have HV2 := hid hv2i
   clear hv2 hv2i
   go_wp2
   go_loopw [3, 18] (fun o j' wr' => ∃ (j : Nat) (m' : Nat), j ≤ l.length ∧ j' = .int .i64 j ∧ o = .int .i64 m' ∧ m' ≤ 8 ∧ m ≤ m' ∧ WidAt b m' ∧ (∀ t (h : t < l.length), t < j → antiC b l[t] = true → cntB l[t] ≤ m') ∧ Keeps w2 wr') (fun _ j' _ => l.length - (intOf j').toNat)
   case atStart => exact ⟨0, m, by omega, rfl, rfl, hm8, Nat.le_refl _, HW.out, fun t _ h => by omega, Keeps.refl _⟩
   case round =>
    obtain ⟨j, m', hj, rfl, rfl, hm8', hmm, hwid', hall', kv⟩ := hrel
    have HW' := hid hwid'; clear hwid'
    have HA' := hid hall'; clear hall'
    have k3 := k2.trans kv
    have y0 := k3.cell z0
    have y1 := k3.cell z1
    by_cases hjt : j < l.length
    ·have hjt' : (j : Int) < l.length := by omega
     obtain ⟨b2, o2, rfl, h2⟩ := (HV2.out.keeps kv).zs_cell j hjt
     rw [getD_get hjt] at h2
     have hin := HMEM.out l[j] (List.getElem_mem hjt)
     have hls := HLE.out l[j] hin
     have HACs := hid (HAC.out l[j] wr (kA.trans (kw.trans k3)) hls)
     have HCMs := hid (fun wz => HCM.out l[j] wz (by omega))
     have hc8 := cntB_le l[j]
     cases ha : antiC b l[j]
     ·rw [ha] at HACs
      have HN : Hid (∀ t (h : t < l.length), t < j + 1 → antiC b l[t] = true → cntB l[t] ≤ m') := hid (fun t h ht hat => by
       by_cases e : t = j
       ·subst e; rw [ha] at hat; cases hat
       ·exact HA'.out t h (by omega) hat)
      clear ha hin
      generalize l[j] = s at *
      go_wp2_with fail
      refine HACs.out.mono ?_; rintro e w4 ⟨rfl, k4⟩
      go_wp2_with fail
      go_roundw
      case rel => exact ⟨j + 1, m', by omega, by go_num, rfl, hm8', hmm, HW'.out, HN.out, kv.trans k4⟩
      case measure => simp [intOf]; omega
     ·rw [ha] at HACs
      have HN : Hid (∀ t (h : t < l.length), t < j + 1 → antiC b l[t] = true → cntB l[t] ≤ max m' (cntB l[j])) := hid (fun t h ht hat => by
       by_cases e : t = j
       ·subst e; omega
       ·have := HA'.out t h (by omega) hat; omega)
      have HW2 := hid (WidAt.max HW'.out (show l[j] < 256 by omega) (HOK.out _ hin ha))
      clear ha hin
      generalize l[j] = s at *
      generalize cntB s = cs at *
      go_wp2_with fail
      refine HACs.out.mono ?_; rintro e w4 ⟨rfl, k4⟩
      go_wp2_with fail
      refine (HCMs.out _).mono ?_; rintro e w5 ⟨rfl, rfl⟩
      go_wp2_with fail
      go_roundw
      case rel => exact ⟨j + 1, max m' cs, by omega, by go_num, by first | rfl | (congr 1; split <;> omega), by omega, by omega, HW2.out, HN.out, kv.trans k4⟩
      case measure => simp [intOf]; omega
    ·have hjt' : ¬ (j : Int) < l.length := by omega
     go_wp2_with fail
     go_roundw
     case rel =>
      refine ⟨x + 1, m', by omega, by go_num, rfl, hm8', HW'.out, fun y hy s hs ha => ?_, kw.trans k3⟩
      by_cases e : y = x
      ·subst e
       rw [HBXE.out] at hs
       obtain ⟨t, ht, rfl⟩ := List.getElem_of_mem (HCV.out s hs)
       exact HA'.out t ht (by omega) ha
      ·exact Nat.le_trans (HA.out y (by omega) s hs ha) hmm
     case measure => simp [intOf]; omega
  ·obtain rfl : x = b.length := by omega
   have hlt' : ¬ (b.length : Int) < b.length := by omega
   have he := HFIN.out m HW.out (fun s hs ho => by
    obtain ⟨ha, y, hy, hi⟩ := okW_anti ho
    exact HA.out y hy s hi ha)
   have HE := hid he; clear he
   go_wp2_with fail
   go_ret
   exact ⟨ret_int (by rw [HE.out]), kA.trans kw⟩
set_option maxRecDepth 20000 in
set_option maxHeartbeats 1000000 in
theorem maximal_any (b : List Nat) (n : Int) (v : Value) (w : World) (hv : Ints w v (zs b)) (hb : b.length ≤ 8) :
  Calls Tryz.prog 114 #[.agg #[.int .i64 n, v]] w fun e w' => e = .returned (.int .i64 (mxB b)) ∧ Keeps w w' := by
 have kA := (Keeps.refl w).alloc (.cells #[.int .i64 n, v] 34)
 obtain ⟨c0, c1⟩ := BoxF.made w n v 34
 have hv0 := hv.keeps kA
 obtain ⟨p, cap, rfl, hle, hmx, _, _⟩ := hv
 unfold maxLen at hmx
 rw [zs_length] at *
 have HL := hid (mxT_lt b)
 have HD : Hid (mxB b = mxT b b.length) := hid rfl
 go_enter Tryz.func114, Tryz.ntmps114
 go_wp2
 go_loop [3, 9] (fun o i' => ∃ i : Nat, i ≤ b.length ∧ i' = .int .i64 i ∧ o = .int .i64 (mxT b i)) (fun _ i => b.length - (intOf i).toNat)
 case atStart => exact ⟨0, by omega, rfl, rfl⟩
 case round =>
  obtain ⟨i, hi, rfl, rfl⟩ := hrel
  by_cases hlt : i < b.length
  ·obtain ⟨b1, o1, rfl, h1⟩ := hv0.zs_cell i hlt
   have hlt' : (i : Int) < b.length := by omega
   have hs : mxT b (i + 1) = if b.getD i 0 == 2 ^ i then mxT b i ||| 2 ^ i else mxT b i := rfl
   have hb1 := HL.out i
   have hb2 : 2 ^ i < 2 ^ 8 := Nat.pow_lt_pow_right (by omega) (by omega)
   have hb3 : 2 ^ i ≤ 2 ^ 8 := by omega
   have e1 := (pow63 i (by omega)).1
   have e2 : ((2 ^ i : Nat) : Int) = 2 ^ i := by push_cast; rfl
   have HS := hid hs; clear hs
   by_cases hc : b.getD i 0 = 2 ^ i
   ·have hor := orN (mxT b i) (b.getD i 0) (by omega) (by omega)
    have hd : (((b.getD i 0 : Nat) : Int) == 2 ^ i) = true := by rw [← e2, hc]; simp
    have HN : Hid (mxT b (i + 1) = mxT b i ||| b.getD i 0) := hid (by rw [HS.out, if_pos (by simpa using hc), hc])
    have HO := hid hor
    clear hor hc e2 hb1 hb2
    generalize b.getD i 0 = g at *
    generalize mxT b i = z at *
    go_wp2
    go_round
    case rel => exact ⟨i + 1, by omega, by go_num, by rw [HN.out, ← HO.out]⟩
    case measure => simp [intOf]; omega
   ·have hd : (((b.getD i 0 : Nat) : Int) == 2 ^ i) = false := by
     rw [← e2, beq_eq_false_iff_ne]
     intro e; exact hc (Int.ofNat.inj e)
    have HN : Hid (mxT b (i + 1) = mxT b i) := hid (by rw [HS.out, if_neg (by simpa using hc)])
    clear hc e2 hb1 hb2
    generalize b.getD i 0 = g at *
    generalize mxT b i = z at *
    go_wp2
    go_round
    case rel => exact ⟨i + 1, by omega, by go_num, by rw [HN.out]⟩
    case measure => simp [intOf]; omega
  ·obtain rfl : i = b.length := by omega
   have hlt' : ¬ (b.length : Int) < b.length := by omega
   go_wp2
   go_ret
   exact ⟨ret_int (by rw [HD.out]), kA⟩
end Go.Proofs.YtikooimokfbffaaGreatDoor
