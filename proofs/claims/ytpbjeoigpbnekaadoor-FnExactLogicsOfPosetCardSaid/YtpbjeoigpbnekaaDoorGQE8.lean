/- Plain mathematics: depths of the elements of an order. No program in sight. -/
import Derived.Test.YtpbjeoigpbnekaaDoorGPD
namespace Go.Proofs.YtpbjeoigpbnekaaDoor
/-- the greatest of a function over the members of a mask below k that are not x -/
def supD (f : Nat → Nat) (m x : Nat) : Nat → Nat
  | 0 => 0
  | k + 1 => if m.testBit k && !(k == x) then max (supD f m x k) (f k) else supD f m x k
def dptF (b : List Nat) : Nat → Nat → Nat
  | 0, _ => 1
  | f + 1, x => supD (dptF b f) (b.getD x 0) x 8 + 1
/-- the depth of an element -/
def dptB (b : List Nat) (x : Nat) : Nat := dptF b 8 x
theorem supD_congr {f g : Nat → Nat} {m x : Nat} : ∀ k, (∀ y, y < k → m.testBit y = true → y ≠ x → f y = g y) → supD f m x k = supD g m x k
  | 0, _ => rfl
  | k + 1, h => by
    have ih := supD_congr k (fun y h1 => h y (by omega))
    unfold supD
    by_cases c : (m.testBit k && !(k == x)) = true
    · rw [if_pos c, if_pos c, ih]
      simp only [Bool.and_eq_true, Bool.not_eq_true', beq_eq_false_iff_ne] at c
      rw [h k (by omega) c.1 c.2]
    · rw [if_neg c, if_neg c, ih]
theorem supD_ge {f : Nat → Nat} {m x : Nat} : ∀ {k y : Nat}, y < k → m.testBit y = true → y ≠ x → f y ≤ supD f m x k
  | 0, y, h, _, _ => by omega
  | k + 1, y, h, h1, h2 => by
    unfold supD
    by_cases e : y = k
    · subst e
      rw [if_pos (by simp [h1, h2])]; omega
    · have := supD_ge (f := f) (m := m) (x := x) (show y < k by omega) h1 h2
      split <;> omega
theorem supD_le {f : Nat → Nat} {m x v : Nat} : ∀ k, (∀ y, y < k → m.testBit y = true → y ≠ x → f y ≤ v) → supD f m x k ≤ v
  | 0, _ => Nat.zero_le _
  | k + 1, h => by
    have ih := supD_le k (fun y h1 => h y (by omega))
    unfold supD
    by_cases c : (m.testBit k && !(k == x)) = true
    · rw [if_pos c]
      simp only [Bool.and_eq_true, Bool.not_eq_true', beq_eq_false_iff_ne] at c
      have := h k (by omega) c.1 c.2
      omega
    · rw [if_neg c]; exact ih
theorem supD_met {f : Nat → Nat} {m x : Nat} : ∀ k, supD f m x k = 0 ∨ ∃ y, y < k ∧ m.testBit y = true ∧ y ≠ x ∧ f y = supD f m x k
  | 0 => .inl rfl
  | k + 1 => by
    have ih := supD_met (f := f) (m := m) (x := x) k
    unfold supD
    by_cases c : (m.testBit k && !(k == x)) = true
    · rw [if_pos c]
      simp only [Bool.and_eq_true, Bool.not_eq_true', beq_eq_false_iff_ne] at c
      by_cases hl : supD f m x k ≤ f k
      · right; exact ⟨k, by omega, c.1, c.2, by omega⟩
      · rcases ih with h | ⟨y, h1, h2, h3, h4⟩
        · omega
        · right; exact ⟨y, by omega, h2, h3, by omega⟩
    · rw [if_neg c]
      rcases ih with h | ⟨y, h1, h2, h3, h4⟩
      · exact .inl h
      · right; exact ⟨y, by omega, h2, h3, h4⟩
theorem anti_of {b : List Nat} (h : antiB b = true) {x y : Nat} (hx : x < b.length) (hy : y < b.length) (h1 : (b.getD x 0).testBit y = true) (h2 : (b.getD y 0).testBit x = true) : x = y := by
  unfold antiB at h
  have := List.all_eq_true.1 (List.all_eq_true.1 h x (by simpa using hx)) y (by simpa using hy)
  unfold antiQ at this
  rw [h1, h2] at this
  simpa using this
/-- what lies strictly above has fewer members -/
theorem memB_sub {a m : Nat} (hs : ∀ i, a.testBit i = true → m.testBit i = true) {x : Nat} (hx : m.testBit x = true) (hxa : a.testBit x = false) (h8 : x < 8) : cntB a < cntB m := by
  unfold cntB memB lowB
  have h1 : ((List.range 8).filter fun j => a.testBit j) = ((List.range 8).filter fun j => m.testBit j).filter fun j => a.testBit j := by
    rw [List.filter_filter]
    apply List.filter_congr
    intro j _
    cases e : a.testBit j
    · rfl
    · simp [hs j e]
  rw [h1]
  have hm : x ∈ (List.range 8).filter fun j => m.testBit j := List.mem_filter.2 ⟨List.mem_range.2 h8, hx⟩
  have hle := List.length_filter_le (fun j => a.testBit j) ((List.range 8).filter fun j => m.testBit j)
  rcases Nat.lt_or_ge (((List.range 8).filter fun j => m.testBit j).filter fun j => a.testBit j).length ((List.range 8).filter fun j => m.testBit j).length with h | h
  · exact h
  · have := List.length_filter_eq_length_iff.1 (Nat.le_antisymm hle h) x hm
    rw [hxa] at this; cases this
section
variable {b : List Nat} (hb : b.length ≤ 8) (hbm : Bnd b.length b) (hr : reflB b = true) (ht : transB b = true) (ha : antiB b = true)
include hb hbm hr ht ha
theorem above_less {x y : Nat} (hx : x < b.length) (hxy : (b.getD x 0).testBit y = true) (hne : y ≠ x) : cntB (b.getD y 0) < cntB (b.getD x 0) := by
  have hy := bit_lt hbm hxy
  refine memB_sub (x := x) (fun i hi => trans_of hbm ht hx hxy hi) (refl_of hr hx) ?_ (by omega)
  cases e : (b.getD y 0).testBit x
  · rfl
  · exact absurd (anti_of ha hy hx e hxy) hne
theorem dptF_stable : ∀ c x, x < b.length → cntB (b.getD x 0) ≤ c → ∀ f, c ≤ f + 1 → dptF b (f + 1) x = dptF b f x := by
  intro c
  induction c with
  | zero =>
    intro x hx hc f _
    have : x ∈ memB (b.getD x 0) := List.mem_filter.2 ⟨List.mem_range.2 (by omega), refl_of hr hx⟩
    have h0 : 0 < (memB (b.getD x 0)).length := List.length_pos_of_mem this
    unfold cntB at hc
    omega
  | succ c ih =>
    intro x hx hc f hf
    have hstep : ∀ f, c ≤ f + 1 → ∀ y, y < 8 → (b.getD x 0).testBit y = true → y ≠ x → dptF b (f + 1) y = dptF b f y := fun f hf y _ hy hne => by
      have := above_less hb hbm hr ht ha hx hy hne
      exact ih y (bit_lt hbm hy) (by omega) f hf
    cases f with
    | zero =>
      -- c = 0: nothing lies strictly above
      have hc0 : c = 0 := by omega
      have : supD (dptF b 0) (b.getD x 0) x 8 = 0 := by
        rcases supD_met (f := dptF b 0) (m := b.getD x 0) (x := x) 8 with h | ⟨y, h1, h2, h3, _⟩
        · exact h
        · have h4 := above_less hb hbm hr ht ha hx h2 h3
          have h5 : y ∈ memB (b.getD y 0) := List.mem_filter.2 ⟨List.mem_range.2 h1, refl_of hr (bit_lt hbm h2)⟩
          have h6 : 0 < (memB (b.getD y 0)).length := List.length_pos_of_mem h5
          unfold cntB at hc h4
          omega
      show supD (dptF b 0) (b.getD x 0) x 8 + 1 = 1
      rw [this]
    | succ f =>
      show supD (dptF b (f + 1)) (b.getD x 0) x 8 + 1 = supD (dptF b f) (b.getD x 0) x 8 + 1
      rw [supD_congr 8 (hstep f (by omega))]
/-- the depth is one greater than the greatest one strictly above -/
theorem dptB_eq {x : Nat} (hx : x < b.length) : dptB b x = supD (dptB b) (b.getD x 0) x 8 + 1 := by
  have h := dptF_stable hb hbm hr ht ha 8 x hx (cntB_le _) 8 (by omega)
  unfold dptB
  rw [← h]
  rfl
theorem dptB_above {x y : Nat} (hx : x < b.length) (hy : (b.getD x 0).testBit y = true) (hne : y ≠ x) : dptB b y + 1 ≤ dptB b x := by
  have hy8 : y < 8 := by have := bit_lt hbm hy; omega
  rw [dptB_eq hb hbm hr ht ha hx]
  have := supD_ge (f := dptB b) (m := b.getD x 0) (x := x) hy8 hy hne
  omega
theorem dptB_le : ∀ c x, x < b.length → cntB (b.getD x 0) ≤ c → dptB b x ≤ c := by
  intro c
  induction c with
  | zero =>
    intro x hx hc
    have : x ∈ memB (b.getD x 0) := List.mem_filter.2 ⟨List.mem_range.2 (by omega), refl_of hr hx⟩
    have h0 : 0 < (memB (b.getD x 0)).length := List.length_pos_of_mem this
    unfold cntB at hc
    omega
  | succ c ih =>
    intro x hx hc
    rw [dptB_eq hb hbm hr ht ha hx]
    have : supD (dptB b) (b.getD x 0) x 8 ≤ c := supD_le 8 (fun y _ hy hne => by
      have h1 := above_less hb hbm hr ht ha hx hy hne
      exact ih y (bit_lt hbm hy) (by omega))
    omega
theorem dptB_pos {x : Nat} (hx : x < b.length) : 1 ≤ dptB b x := by rw [dptB_eq hb hbm hr ht ha hx]; omega
theorem dptB_8 {x : Nat} (hx : x < b.length) : dptB b x ≤ 8 := dptB_le hb hbm hr ht ha 8 x hx (cntB_le _)
/-- an order's clusters are its elements -/
theorem fstE_none {k : Nat} (hk : k < b.length) : ∀ j, j ≤ k → fstE b k j = none
  | 0, _ => by have _u := And.intro hb (And.intro hbm (And.intro hr ht)); rfl
  | j + 1, hj => by
    have ih := fstE_none hk j (by omega)
    show (match fstE b k j with | some y => some y | none => if eqvB b k j then some j else none) = none
    rw [ih]
    have : eqvB b k j = false := by
      cases e : eqvB b k j
      · rfl
      · unfold eqvB at e
        rw [Bool.and_eq_true] at e
        have := anti_of ha hk (by omega) e.1 e.2
        omega
    simp [this]
theorem clS_range : ∀ k, k ≤ b.length → clS b k = (List.range k, k)
  | 0, _ => rfl
  | k + 1, hk => by
    have ih := clS_range k (by omega)
    rw [clS_none (fstE_none hb hbm hr ht ha (by omega) k (Nat.le_refl _)), ih, List.range_succ]
theorem clB_range : clB b = List.range b.length := by
  unfold clB
  rw [clS_range hb hbm hr ht ha b.length (Nat.le_refl _)]
end
/-! ### the rounds of the program -/
/-- the row a is below the depths, and right up to depth r -/
def RndA (b : List Nat) (a : List Nat) (r : Nat) : Prop := a.length = b.length ∧ (∀ i, i < b.length → 1 ≤ a.getD i 0 ∧ a.getD i 0 ≤ dptB b i) ∧ (∀ i, i < b.length → dptB b i ≤ r → a.getD i 0 = dptB b i)
def dptL (b : List Nat) : List Nat := (List.range b.length).map (dptB b)
theorem dptL_len (b : List Nat) : (dptL b).length = b.length := by simp [dptL]
theorem dptL_get {b : List Nat} {i : Nat} (h : i < b.length) : (dptL b).getD i 0 = dptB b i := by simp [dptL, List.getD_eq_getElem?_getD, h]
theorem RndA.done {b a : List Nat} {r : Nat} (h : RndA b a r) (h8 : ∀ i, i < b.length → dptB b i ≤ r) : a = dptL b := by
  apply List.ext_getElem
  · rw [h.1, dptL_len]
  · intro i h1 h2
    have hi : i < b.length := by rw [← h.1]; exact h1
    have e1 := h.2.2 i hi (h8 i hi)
    rw [getD_get h1] at e1
    have e2 := dptL_get hi
    rw [getD_get h2] at e2
    rw [e1, e2]
end Go.Proofs.YtpbjeoigpbnekaaDoor
/- Plain mathematics: the rounds in which the program finds the depths. No program in sight. -/
namespace Go.Proofs.YtpbjeoigpbnekaaDoor
def MidA (b : List Nat) (t k : Nat) (a : List Nat) : Prop := RndA b a (t + 1) ∧ ∀ i, i < b.length → i < k → dptB b i ≤ t + 2 → a.getD i 0 = dptB b i
def InnA (b : List Nat) (t x : Nat) (l : List Nat) (j : Nat) (a : List Nat) : Prop := MidA b t x a ∧ ∀ s (h : s < l.length), s < j → l[s] ≠ x → dptB b l[s] ≤ t + 1 → dptB b l[s] + 1 ≤ a.getD x 0
theorem mid_start {b : List Nat} {t : Nat} {a : List Nat} (h : RndA b a (t + 1)) : MidA b t 0 a := ⟨h, fun i _ h2 => by omega⟩
theorem mid_end {b : List Nat} {t : Nat} {a : List Nat} (h : MidA b t b.length a) : RndA b a (t + 1 + 1) := ⟨h.1.1, h.1.2.1, fun i hi hd => h.2 i hi hi hd⟩
theorem inn_start {b : List Nat} {t x : Nat} {l a : List Nat} (h : MidA b t x a) : InnA b t x l 0 a := ⟨h, fun s _ h2 => by omega⟩
theorem inn_skip {b : List Nat} {t x j : Nat} {l a : List Nat} (h : InnA b t x l j a) (hj : j < l.length) (he : l[j] = x) : InnA b t x l (j + 1) a := ⟨h.1, fun s hs h2 hne hd => by
  by_cases e : s = j
  · subst e; exact absurd he hne
  · exact h.2 s hs (by omega) hne hd⟩
section
variable {b : List Nat} (hb : b.length ≤ 8) (hbm : Bnd b.length b) (hr : reflB b = true) (ht : transB b = true) (ha : antiB b = true)
include hb hbm hr ht ha
theorem inn_step {t x j : Nat} {l a : List Nat} (h : InnA b t x l j a) (hx : x < b.length) (hj : j < l.length) (hbit : (b.getD x 0).testBit l[j] = true) (hne : l[j] ≠ x) :
    InnA b t x l (j + 1) (a.set x (max (a.getD x 0) (a.getD l[j] 0 + 1))) := by
  obtain ⟨⟨⟨h1, h2, h3⟩, h4⟩, h5⟩ := h
  have hxa : x < a.length := by rw [h1]; exact hx
  have hy := bit_lt hbm hbit
  have hab := dptB_above hb hbm hr ht ha hx hbit hne
  obtain ⟨b1, b2⟩ := h2 x hx
  obtain ⟨c1, c2⟩ := h2 l[j] hy
  refine ⟨⟨⟨by rw [List.length_set]; exact h1, fun i hi => ?_, fun i hi hd => ?_⟩, fun i hi hk hd => ?_⟩, fun s hs hsj hsne hd => ?_⟩
  · rw [getD_set _ _ _ _ hxa]
    split
    · rename_i e; subst e; omega
    · exact h2 i hi
  · rw [getD_set _ _ _ _ hxa]
    split
    · rename_i e; subst e
      have := h3 x hx hd
      omega
    · exact h3 i hi hd
  · rw [getD_set _ _ _ _ hxa, if_neg (by omega)]
    exact h4 i hi hk hd
  · rw [getD_set _ _ _ _ hxa, if_pos rfl]
    by_cases e : s = j
    · subst e
      have := h3 l[s] hy hd
      omega
    · have := h5 s hs (by omega) hsne hd
      omega
theorem inn_end {t x : Nat} {a : List Nat} (h : InnA b t x (memB (b.getD x 0)) (memB (b.getD x 0)).length a) (hx : x < b.length) : MidA b t (x + 1) a := by
  obtain ⟨hm, h5⟩ := h
  obtain ⟨⟨h1, h2, h3⟩, h4⟩ := id hm
  refine ⟨hm.1, fun i hi hk hd => ?_⟩
  by_cases e : i = x
  · subst e
    obtain ⟨b1, b2⟩ := h2 i hi
    have he := dptB_eq hb hbm hr ht ha hi
    rcases supD_met (f := dptB b) (m := b.getD i 0) (x := i) 8 with h0 | ⟨y, y1, y2, y3, y4⟩
    · omega
    · have hmem : y ∈ memB (b.getD i 0) := List.mem_filter.2 ⟨List.mem_range.2 y1, y2⟩
      obtain ⟨s, hs, rfl⟩ := List.getElem_of_mem hmem
      have := h5 s hs hs y3 (by omega)
      omega
  · exact h4 i hi (by omega) hd
theorem cntB_le_len {x : Nat} : cntB (b.getD x 0) ≤ b.length := by
  have _u := And.intro hr (And.intro ht ha)
  have h := lowB_more (b.getD x 0) b.length (hbm x) (8 - b.length)
  rw [show b.length + (8 - b.length) = 8 by omega] at h
  unfold cntB memB
  rw [h]
  exact lowB_len _ _
theorem rnd_start : RndA b (List.replicate b.length 1) 1 := by
  have hg : ∀ i, i < b.length → (List.replicate b.length 1).getD i 0 = 1 := fun i hi => by simp [List.getD_eq_getElem?_getD, hi]
  refine ⟨by simp, fun i hi => ?_, fun i hi hd => ?_⟩
  · rw [hg i hi]
    exact ⟨Nat.le_refl _, dptB_pos hb hbm hr ht ha hi⟩
  · rw [hg i hi]
    have := dptB_pos hb hbm hr ht ha hi
    omega
theorem rnd_end {a : List Nat} (h : RndA b a (b.length + 1)) : a = dptL b := h.done (fun i hi => by
  have := dptB_le hb hbm hr ht ha (b.length) i hi (cntB_le_len hb hbm hr ht ha)
  omega)
end
end Go.Proofs.YtpbjeoigpbnekaaDoor
/- The reference's l05Flag for three flags. -/
namespace Go.Proofs.YtpbjeoigpbnekaaDoor
open Go.RowKit
--
set_option maxRecDepth 20000 in
set_option maxHeartbeats 4000000 in
theorem l05Flag0_any (b : List Nat) (v : Value) (w : World) (hv : Ints w v (zs b)) (hb : b.length ≤ 8) (hbm : Bnd b.length b) :
    Calls Tryd.prog 51 #[.agg #[.int .i64 b.length, v], .int .i64 0] w fun e w' => e = .returned (.bool (reflB b)) ∧ Keeps w w' := by
  have hv0 := hv
  obtain ⟨p, cap, rfl, hle, hmx, hat0, hlen⟩ := hv
  clear hat0
  unfold maxLen at hmx
  rw [zs_length] at *
  have h256 := two8 hb
  have kA := (Keeps.refl w).alloc (.cells #[.int .i64 b.length, .slice p b.length cap] 57)
  have HB := hid (fun i j w2 (hj : j ≤ 8) => l01BitB_any (b.getD i 0) j w2 (Nat.lt_of_lt_of_le (hbm i) h256) hj)
  have HP : Hid (reflB b = (List.range b.length).all (fun x => (b.getD x 0).testBit x)) := hid rfl
  obtain ⟨G, hG⟩ : ∃ G : Nat → Nat, ∀ i, G i = b.getD i 0 := ⟨fun i => b.getD i 0, fun _ => rfl⟩
  simp only [← hG] at HB HP
  generalize hn : b.length = n at hle hmx hlen hb kA hv0 ⊢
  generalize hP : (fun x => (G x).testBit x) = P at HP
  have HG := hid hG; clear hG
  have HPP := hid hP; clear hP
  have HV0 := hid hv0; clear hv0
  have HN := hid hn; clear hn
  clear h256 hbm
  go_enter Tryd.func51, Tryd.ntmps51
  go_wp2_with fail
  go_quiet (fail)
  go_wp2
  go_loopw [4, 7] (fun r x' wr => ∃ x : Nat, x ≤ n ∧ x' = .int .i64 x ∧ r = .bool false ∧ (∀ j, j < x → P j = true) ∧ Keeps w wr) (fun _ x' _ => n - (intOf x').toNat)
  case atStart => exact ⟨0, by omega, rfl, rfl, fun j h => by omega, kA.drewN _⟩
  case round =>
    obtain ⟨x, hx, rfl, rfl, hall, kw⟩ := hrel
    have HA := hid hall; clear hall
    by_cases hlt : x < n
    · have hlt' : (x : Int) < n := by omega
      have hread : ∀ (j : Nat) (wq : World), Keeps w wq → j < n → ∃ b1 o1, p = some ⟨b1, o1, none⟩ ∧ wq.cell? ⟨b1, o1 + j, none⟩ = some (.int .i64 (G j : Nat)) := by
        intro j wq kq hj
        obtain ⟨_, _, e1, _, _, hat, _⟩ := HV0.out.keeps kq
        rw [zs_length, HN.out] at e1
        cases e1
        obtain ⟨b1, o1, e, h1⟩ := hat.int j (by rw [zs_length, HN.out]; omega)
        rw [zs_get, ← getD_get, ← HG.out] at h1
        exact ⟨b1, o1, e, h1⟩
      have HR := hid hread; clear hread
      obtain ⟨b1, o1, rfl, h1⟩ := HR.out x wr kw hlt
      have hpx : P x = (G x).testBit x := by rw [← HPP.out]
      have HH := hid (HB.out x x wr (by omega))
      have KW := hid kw; clear kw
      cases hbit : (G x).testBit x
      · rw [hbit] at HH hpx
        have HPx := hid hpx; clear hpx
        clear hbit
        go_wp2_with fail
        refine HH.out.mono ?_; rintro e w' ⟨rfl, rfl⟩
        go_wp2_with fail
        go_ret
        refine ⟨ret_bool ?_, KW.out⟩
        rw [HP.out]
        exact (all_false (x := x) (by have := HN.out; omega) HPx.out).symm
      · rw [hbit] at HH hpx
        have HPx := hid hpx; clear hpx
        clear hbit
        go_wp2_with fail
        refine HH.out.mono ?_; rintro e w' ⟨rfl, rfl⟩
        go_wp2_with fail
        clear HH
        go_loopw [4, 8] (fun r y' wr' => ∃ y : Nat, y ≤ n ∧ y' = .int .i64 y ∧ r = .bool false ∧ Keeps w wr') (fun _ y' _ => n - (intOf y').toNat)
        case atStart => exact ⟨0, by omega, rfl, rfl, KW.out⟩
        case round =>
          obtain ⟨y, hy, rfl, rfl, kw⟩ := hrel
          clear KW
          by_cases hyt : y < n
          · have hyt' : (y : Int) < n := by omega
            obtain ⟨_, _, e, h1⟩ := HR.out x wr kw hlt
            cases e
            have HH := hid (HB.out x y wr (by omega))
            have KW := hid kw; clear kw
            cases hbit : (G x).testBit y
            · rw [hbit] at HH
              clear hbit
              go_wp2_with fail
              refine HH.out.mono ?_; rintro e w' ⟨rfl, rfl⟩
              go_wp2_with fail
              go_roundw
              case rel => exact ⟨y + 1, by omega, by go_num, rfl, KW.out⟩
              case measure => simp [intOf]; omega
            · rw [hbit] at HH
              clear hbit
              go_wp2_with fail
              refine HH.out.mono ?_; rintro e w' ⟨rfl, rfl⟩
              go_wp2_with fail
              go_loopw [4, 9] (fun r z' wr' => ∃ z : Nat, z ≤ n ∧ z' = .int .i64 z ∧ r = .bool false ∧ Keeps w wr') (fun _ z' _ => n - (intOf z').toNat)
              case atStart => exact ⟨0, by omega, rfl, rfl, KW.out⟩
              case round =>
                obtain ⟨z, hz, rfl, rfl, kw⟩ := hrel
                clear KW HH
                by_cases hzt : z < n
                · have hzt' : (z : Int) < n := by omega
                  obtain ⟨_, _, e, h1⟩ := HR.out x wr kw hlt
                  cases e
                  have HH := hid (HB.out x z wr (by omega))
                  have KW := hid kw; clear kw
                  cases hbit : (G x).testBit z
                  · rw [hbit] at HH
                    clear hbit
                    go_wp2_with fail
                    refine HH.out.mono ?_; rintro e w' ⟨rfl, rfl⟩
                    go_wp2_with fail
                    go_roundw
                    case rel => exact ⟨z + 1, by omega, by go_num, rfl, KW.out⟩
                    case measure => simp [intOf]; omega
                  · rw [hbit] at HH
                    clear hbit
                    go_wp2_with fail
                    refine HH.out.mono ?_; rintro e w' ⟨rfl, rfl⟩
                    go_wp2_with fail
                    go_quiet (fail)
                    go_wp2_with fail
                    go_roundw
                    case rel => exact ⟨z + 1, by omega, by go_num, rfl, KW.out.drewN _⟩
                    case measure => simp [intOf]; omega
                · obtain rfl : z = n := by omega
                  have hzt' : ¬ (z : Int) < z := by omega
                  go_wp2_with fail
                  go_roundw
                  case rel => exact ⟨y + 1, by omega, by go_num, rfl, kw⟩
                  case measure => simp [intOf]; omega
          · obtain rfl : y = n := by omega
            have hyt' : ¬ (y : Int) < y := by omega
            go_wp2_with fail
            go_roundw
            case rel => exact ⟨x + 1, by omega, by go_num, rfl, nextQ HA.out HPx.out, kw⟩
            case measure => simp [intOf]; omega
    · obtain rfl : x = n := by omega
      have hlt' : ¬ (x : Int) < x := by omega
      go_wp2_with fail
      go_ret
      refine ⟨ret_bool ?_, kw⟩
      rw [HP.out]
      exact (all_true (fun j hj => HA.out j (by have := HN.out; omega))).symm
end Go.Proofs.YtpbjeoigpbnekaaDoor
/- The reference's l05Flag: transitive frames. -/
namespace Go.Proofs.YtpbjeoigpbnekaaDoor
open Go.RowKit
--
set_option maxRecDepth 20000 in
set_option maxHeartbeats 4000000 in
theorem l05Flag2_any (b : List Nat) (v : Value) (w : World) (hv : Ints w v (zs b)) (hb : b.length ≤ 8) (hbm : Bnd b.length b) :
    Calls Tryd.prog 51 #[.agg #[.int .i64 b.length, v], .int .i64 2] w fun e w' => e = .returned (.bool (transB b)) ∧ Keeps w w' := by
  have hv0 := hv
  obtain ⟨p, cap, rfl, hle, hmx, hat0, hlen⟩ := hv
  clear hat0
  unfold maxLen at hmx
  rw [zs_length] at *
  have h256 := two8 hb
  have kA := (Keeps.refl w).alloc (.cells #[.int .i64 b.length, .slice p b.length cap] 57)
  have HB := hid (fun i j w2 (hj : j ≤ 8) => l01BitB_any (b.getD i 0) j w2 (Nat.lt_of_lt_of_le (hbm i) h256) hj)
  have HG := hid (fun i w2 (k : Keeps w w2) => l01Image_any b (b.getD i 0) _ w2 (hv0.keeps k) hb (bnd_mem hbm) (hbm i))
  have HW := hid (fun i => withinN (img b (b.getD i 0)) (b.getD i 0) (Nat.lt_of_lt_of_le (img_lt (bnd_mem hbm) _) (by omega)) (Nat.lt_of_lt_of_le (hbm i) (by omega)))
  have HP : Hid (transB b = (List.range b.length).all (fun x => inB (img b (b.getD x 0)) (b.getD x 0))) := hid rfl
  obtain ⟨G, hGe⟩ : ∃ G : Nat → Nat, ∀ i, G i = b.getD i 0 := ⟨fun i => b.getD i 0, fun _ => rfl⟩
  simp only [← hGe] at HB HP HG HW
  obtain ⟨I, hIe⟩ : ∃ I : Nat → Nat, ∀ i, I i = img b (G i) := ⟨fun i => img b (G i), fun _ => rfl⟩
  simp only [← hIe] at HP HG HW
  generalize hn : b.length = n at hle hmx hlen hb kA hv0 HG ⊢
  generalize hP : (fun x => inB (I x) (G x)) = P at HP
  have HGe := hid hGe; clear hGe
  have HIe := hid hIe; clear hIe
  have HPP := hid hP; clear hP
  have HV0 := hid hv0; clear hv0
  have HN := hid hn; clear hn
  clear h256 hbm
  go_enter Tryd.func51, Tryd.ntmps51
  go_wp2_with fail
  go_quiet (fail)
  go_wp2
  go_loopw [4, 7] (fun r x' wr => ∃ x : Nat, x ≤ n ∧ x' = .int .i64 x ∧ r = .bool false ∧ (∀ j, j < x → P j = true) ∧ Keeps w wr) (fun _ x' _ => n - (intOf x').toNat)
  case atStart => exact ⟨0, by omega, rfl, rfl, fun j h => by omega, kA.drewN _⟩
  case round =>
    obtain ⟨x, hx, rfl, rfl, hall, kw⟩ := hrel
    have HA := hid hall; clear hall
    by_cases hlt : x < n
    · have hlt' : (x : Int) < n := by omega
      have hread : ∀ (j : Nat) (wq : World), Keeps w wq → j < n → ∃ b1 o1, p = some ⟨b1, o1, none⟩ ∧ wq.cell? ⟨b1, o1 + j, none⟩ = some (.int .i64 (G j : Nat)) := by
        intro j wq kq hj
        obtain ⟨_, _, e1, _, _, hat, _⟩ := HV0.out.keeps kq
        rw [zs_length, HN.out] at e1
        cases e1
        obtain ⟨b1, o1, e, h1⟩ := hat.int j (by rw [zs_length, HN.out]; omega)
        rw [zs_get, ← getD_get, ← HGe.out] at h1
        exact ⟨b1, o1, e, h1⟩
      have HR := hid hread; clear hread
      obtain ⟨b1, o1, rfl, h1⟩ := HR.out x wr kw hlt
      have hpx : P x = inB (I x) (G x) := by rw [← HPP.out]
      have HH := hid (HG.out x wr kw)
      have hww := HW.out x
      have KW := hid kw; clear kw
      cases hbit : inB (I x) (G x)
      · rw [hbit] at hpx hww
        have HPx := hid hpx; clear hpx
        have hwn : (bits .andNot .i64 ((I x : Nat) : Int) ((G x : Nat) : Int) != 0) = true := by rw [bne, hww]; rfl
        clear hbit hww
        go_wp2_with fail
        go_quiet (first | (go_at_call 88; refine quietS (HG.out x _ (KW.out.drewN _))))
        go_wp2_with fail
        go_ret
        refine ⟨ret_bool ?_, KW.out.drewN _⟩
        rw [HP.out]
        exact (all_false (x := x) (by have := HN.out; omega) HPx.out).symm
      · rw [hbit] at hpx hww
        have HPx := hid hpx; clear hpx
        have hwn : (bits .andNot .i64 ((I x : Nat) : Int) ((G x : Nat) : Int) != 0) = false := by rw [bne, hww]; rfl
        clear hbit hww
        go_wp2_with fail
        go_quiet (first | (go_at_call 88; refine quietS (HG.out x _ (KW.out.drewN _))))
        go_wp2_with fail
        have KWn := hid (fun nn => KW.out.drewN nn)
        clear HH
        go_loopw [4, 8] (fun r y' wr' => ∃ y : Nat, y ≤ n ∧ y' = .int .i64 y ∧ r = .bool false ∧ Keeps w wr') (fun _ y' _ => n - (intOf y').toNat)
        case atStart => exact ⟨0, by omega, rfl, rfl, KWn.out _⟩
        case round =>
          obtain ⟨y, hy, rfl, rfl, kw⟩ := hrel
          clear KW
          by_cases hyt : y < n
          · have hyt' : (y : Int) < n := by omega
            obtain ⟨_, _, e, h1⟩ := HR.out x wr kw hlt
            cases e
            have HH := hid (HB.out x y wr (by omega))
            have KW := hid kw; clear kw
            cases hbit : (G x).testBit y
            · rw [hbit] at HH
              clear hbit
              go_wp2_with fail
              refine HH.out.mono ?_; rintro e w' ⟨rfl, rfl⟩
              go_wp2_with fail
              go_roundw
              case rel => exact ⟨y + 1, by omega, by go_num, rfl, KW.out⟩
              case measure => simp [intOf]; omega
            · rw [hbit] at HH
              clear hbit
              go_wp2_with fail
              refine HH.out.mono ?_; rintro e w' ⟨rfl, rfl⟩
              go_wp2_with fail
              go_loopw [4, 9] (fun r z' wr' => ∃ z : Nat, z ≤ n ∧ z' = .int .i64 z ∧ r = .bool false ∧ Keeps w wr') (fun _ z' _ => n - (intOf z').toNat)
              case atStart => exact ⟨0, by omega, rfl, rfl, KW.out⟩
              case round =>
                obtain ⟨z, hz, rfl, rfl, kw⟩ := hrel
                clear KW HH
                by_cases hzt : z < n
                · have hzt' : (z : Int) < n := by omega
                  obtain ⟨_, _, e, h1⟩ := HR.out x wr kw hlt
                  cases e
                  have HH := hid (HB.out x z wr (by omega))
                  have KW := hid kw; clear kw
                  cases hbit : (G x).testBit z
                  · rw [hbit] at HH
                    clear hbit
                    go_wp2_with fail
                    refine HH.out.mono ?_; rintro e w' ⟨rfl, rfl⟩
                    go_wp2_with fail
                    go_roundw
                    case rel => exact ⟨z + 1, by omega, by go_num, rfl, KW.out⟩
                    case measure => simp [intOf]; omega
                  · rw [hbit] at HH
                    clear hbit
                    go_wp2_with fail
                    refine HH.out.mono ?_; rintro e w' ⟨rfl, rfl⟩
                    go_wp2_with fail
                    go_quiet (fail)
                    go_wp2_with fail
                    go_roundw
                    case rel => exact ⟨z + 1, by omega, by go_num, rfl, KW.out.drewN _⟩
                    case measure => simp [intOf]; omega
                · obtain rfl : z = n := by omega
                  have hzt' : ¬ (z : Int) < z := by omega
                  go_wp2_with fail
                  go_roundw
                  case rel => exact ⟨y + 1, by omega, by go_num, rfl, kw⟩
                  case measure => simp [intOf]; omega
          · obtain rfl : y = n := by omega
            have hyt' : ¬ (y : Int) < y := by omega
            go_wp2_with fail
            go_roundw
            case rel => exact ⟨x + 1, by omega, by go_num, rfl, nextQ HA.out HPx.out, kw⟩
            case measure => simp [intOf]; omega
    · obtain rfl : x = n := by omega
      have hlt' : ¬ (x : Int) < x := by omega
      go_wp2_with fail
      go_ret
      refine ⟨ret_bool ?_, kw⟩
      rw [HP.out]
      exact (all_true (fun j hj => HA.out j (by have := HN.out; omega))).symm
end Go.Proofs.YtpbjeoigpbnekaaDoor
/- The reference's l05Flag: antisymmetric frames. -/
namespace Go.Proofs.YtpbjeoigpbnekaaDoor
open Go.RowKit
--
set_option maxRecDepth 20000 in
set_option maxHeartbeats 4000000 in
theorem l05Flag8_any (b : List Nat) (v : Value) (w : World) (hv : Ints w v (zs b)) (hb : b.length ≤ 8) (hbm : Bnd b.length b) :
    Calls Tryd.prog 51 #[.agg #[.int .i64 b.length, v], .int .i64 8] w fun e w' => e = .returned (.bool (antiB b)) ∧ Keeps w w' := by
  have hv0 := hv
  obtain ⟨p, cap, rfl, hle, hmx, hat0, hlen⟩ := hv
  clear hat0
  unfold maxLen at hmx
  rw [zs_length] at *
  have h256 := two8 hb
  have kA := (Keeps.refl w).alloc (.cells #[.int .i64 b.length, .slice p b.length cap] 57)
  have HB := hid (fun i j w2 (hj : j ≤ 8) => l01BitB_any (b.getD i 0) j w2 (Nat.lt_of_lt_of_le (hbm i) h256) hj)
  have HP : Hid (antiB b = (List.range b.length).all (fun x => (List.range b.length).all fun y => antiQ b x y)) := hid rfl
  obtain ⟨G, hGe⟩ : ∃ G : Nat → Nat, ∀ i, G i = b.getD i 0 := ⟨fun i => b.getD i 0, fun _ => rfl⟩
  simp only [← hGe] at HB
  obtain ⟨Q, hQe⟩ : ∃ Q : Nat → Nat → Bool, ∀ i j, Q i j = antiQ b i j := ⟨fun i j => antiQ b i j, fun _ _ => rfl⟩
  simp only [← hQe] at HP
  generalize hn : b.length = n at hle hmx hlen hb kA hv0 ⊢
  generalize hP : (fun x => (List.range b.length).all fun y => Q x y) = P at HP
  have HGe := hid hGe; clear hGe
  have HQe := hid hQe; clear hQe
  have HPP := hid hP; clear hP
  have HV0 := hid hv0; clear hv0
  have HN := hid hn; clear hn
  clear h256 hbm
  go_enter Tryd.func51, Tryd.ntmps51
  go_wp2_with fail
  go_quiet (fail)
  go_wp2
  go_loopw [4, 7] (fun r x' wr => ∃ x : Nat, x ≤ n ∧ x' = .int .i64 x ∧ r = .bool false ∧ (∀ j, j < x → P j = true) ∧ Keeps w wr) (fun _ x' _ => n - (intOf x').toNat)
  case atStart => exact ⟨0, by omega, rfl, rfl, fun j h => by omega, kA.drewN _⟩
  case round =>
    obtain ⟨x, hx, rfl, rfl, hall, kw⟩ := hrel
    have HA := hid hall; clear hall
    by_cases hlt : x < n
    · have hlt' : (x : Int) < n := by omega
      have hread : ∀ (j : Nat) (wq : World), Keeps w wq → j < n → ∃ b1 o1, p = some ⟨b1, o1, none⟩ ∧ wq.cell? ⟨b1, o1 + j, none⟩ = some (.int .i64 (G j : Nat)) := by
        intro j wq kq hj
        obtain ⟨_, _, e1, _, _, hat, _⟩ := HV0.out.keeps kq
        rw [zs_length, HN.out] at e1
        cases e1
        obtain ⟨b1, o1, e, h1⟩ := hat.int j (by rw [zs_length, HN.out]; omega)
        rw [zs_get, ← getD_get, ← HGe.out] at h1
        exact ⟨b1, o1, e, h1⟩
      have HR := hid hread; clear hread
      obtain ⟨b1, o1, rfl, h1⟩ := HR.out x wr kw hlt
      have KW := hid kw; clear kw
      go_wp2_with fail
      go_loopw [4, 8] (fun r y' wr' => ∃ y : Nat, y ≤ n ∧ y' = .int .i64 y ∧ r = .bool false ∧ Keeps w wr' ∧ (∀ j, j < y → Q x j = true)) (fun _ y' _ => n - (intOf y').toNat)
      case atStart => exact ⟨0, by omega, rfl, rfl, KW.out, fun j h => by omega⟩
      case round =>
        obtain ⟨y, hy, rfl, rfl, kw, hqs⟩ := hrel
        clear KW
        by_cases hyt : y < n
        · have hyt' : (y : Int) < n := by omega
          obtain ⟨_, _, e, h1⟩ := HR.out x wr kw hlt
          cases e
          obtain ⟨_, _, e, h2⟩ := HR.out y wr kw hyt
          cases e
          have HQ := hid hqs; clear hqs
          have hq : Q x y = !((G x).testBit y && !(x == y) && (G y).testBit x) := by rw [HQe.out, HGe.out, HGe.out]; rfl
          have Hq := hid hq; clear hq
          have HH := hid (HB.out x y wr (by omega))
          have KW := hid kw; clear kw
          cases hbit : (G x).testBit y
          · rw [hbit] at HH Hq
            clear hbit
            go_wp2_with fail
            refine HH.out.mono ?_; rintro e w' ⟨rfl, rfl⟩
            go_wp2_with fail
            go_roundw
            case rel => exact ⟨y + 1, by omega, by go_num, rfl, KW.out, nextQ HQ.out (by rw [Hq.out]; rfl)⟩
            case measure => simp [intOf]; omega
          · rw [hbit] at HH Hq
            clear hbit
            by_cases hxy : x = y
            · have hd : ((x : Int) != (y : Int)) = false := by simp [hxy]
              have hq1 : Q x y = true := by rw [Hq.out]; simp [hxy]
              have HQ1 := hid hq1; clear hq1 hxy
              go_wp2_with fail
              refine HH.out.mono ?_; rintro e w' ⟨rfl, rfl⟩
              go_wp2_with fail
              go_loopw [4, 9] (fun r z' wr' => ∃ z : Nat, z ≤ n ∧ z' = .int .i64 z ∧ r = .bool false ∧ Keeps w wr') (fun _ z' _ => n - (intOf z').toNat)
              case atStart => exact ⟨0, by omega, rfl, rfl, KW.out⟩
              case round =>
                obtain ⟨z, hz, rfl, rfl, kw⟩ := hrel
                clear KW HH
                by_cases hzt : z < n
                · have hzt' : (z : Int) < n := by omega
                  obtain ⟨_, _, e, h1⟩ := HR.out x wr kw hlt
                  cases e
                  have HH := hid (HB.out x z wr (by omega))
                  have KW := hid kw; clear kw
                  cases hbit : (G x).testBit z
                  · rw [hbit] at HH
                    clear hbit
                    go_wp2_with fail
                    refine HH.out.mono ?_; rintro e w' ⟨rfl, rfl⟩
                    go_wp2_with fail
                    go_roundw
                    case rel => exact ⟨z + 1, by omega, by go_num, rfl, KW.out⟩
                    case measure => simp [intOf]; omega
                  · rw [hbit] at HH
                    clear hbit
                    go_wp2_with fail
                    refine HH.out.mono ?_; rintro e w' ⟨rfl, rfl⟩
                    go_wp2_with fail
                    go_quiet (fail)
                    go_wp2_with fail
                    go_roundw
                    case rel => exact ⟨z + 1, by omega, by go_num, rfl, KW.out.drewN _⟩
                    case measure => simp [intOf]; omega
                · obtain rfl : z = n := by omega
                  have hzt' : ¬ (z : Int) < z := by omega
                  go_wp2_with fail
                  go_roundw
                  case rel => exact ⟨y + 1, by omega, by go_num, rfl, kw, nextQ HQ.out HQ1.out⟩
                  case measure => simp [intOf]; omega
            · have hd : ((x : Int) != (y : Int)) = true := by simp; omega
              have HH2 := hid (HB.out y x wr (by omega))
              cases hbit2 : (G y).testBit x
              · rw [hbit2] at HH2 Hq
                have hq1 : Q x y = true := by rw [Hq.out]; simp
                have HQ1 := hid hq1; clear hq1 hxy hbit2
                go_wp2_with fail
                refine HH.out.mono ?_; rintro e w' ⟨rfl, rfl⟩
                go_wp2_with fail
                refine HH2.out.mono ?_; rintro e w' ⟨rfl, rfl⟩
                go_wp2_with fail
                go_loopw [4, 9] (fun r z' wr' => ∃ z : Nat, z ≤ n ∧ z' = .int .i64 z ∧ r = .bool false ∧ Keeps w wr') (fun _ z' _ => n - (intOf z').toNat)
                case atStart => exact ⟨0, by omega, rfl, rfl, KW.out⟩
                case round =>
                  obtain ⟨z, hz, rfl, rfl, kw⟩ := hrel
                  clear KW HH
                  by_cases hzt : z < n
                  · have hzt' : (z : Int) < n := by omega
                    obtain ⟨_, _, e, h1⟩ := HR.out x wr kw hlt
                    cases e
                    have HH := hid (HB.out x z wr (by omega))
                    have KW := hid kw; clear kw
                    cases hbit : (G x).testBit z
                    · rw [hbit] at HH
                      clear hbit
                      go_wp2_with fail
                      refine HH.out.mono ?_; rintro e w' ⟨rfl, rfl⟩
                      go_wp2_with fail
                      go_roundw
                      case rel => exact ⟨z + 1, by omega, by go_num, rfl, KW.out⟩
                      case measure => simp [intOf]; omega
                    · rw [hbit] at HH
                      clear hbit
                      go_wp2_with fail
                      refine HH.out.mono ?_; rintro e w' ⟨rfl, rfl⟩
                      go_wp2_with fail
                      go_quiet (fail)
                      go_wp2_with fail
                      go_roundw
                      case rel => exact ⟨z + 1, by omega, by go_num, rfl, KW.out.drewN _⟩
                      case measure => simp [intOf]; omega
                  · obtain rfl : z = n := by omega
                    have hzt' : ¬ (z : Int) < z := by omega
                    go_wp2_with fail
                    go_roundw
                    case rel => exact ⟨y + 1, by omega, by go_num, rfl, kw, nextQ HQ.out HQ1.out⟩
                    case measure => simp [intOf]; omega
              · rw [hbit2] at HH2 Hq
                have hq1 : Q x y = false := by rw [Hq.out]; simp [hxy]
                have HQ1 := hid hq1; clear hq1 hxy hbit2
                go_wp2_with fail
                refine HH.out.mono ?_; rintro e w' ⟨rfl, rfl⟩
                go_wp2_with fail
                refine HH2.out.mono ?_; rintro e w' ⟨rfl, rfl⟩
                go_wp2_with fail
                go_ret
                refine ⟨ret_bool ?_, KW.out⟩
                rw [HP.out]
                refine (all_false (x := x) (by have := HN.out; omega) ?_).symm
                rw [← HPP.out]
                exact all_false (x := y) (by have := HN.out; omega) HQ1.out
        · obtain rfl : y = n := by omega
          have hyt' : ¬ (y : Int) < y := by omega
          go_wp2_with fail
          go_roundw
          case rel => exact ⟨x + 1, by omega, by go_num, rfl, nextQ HA.out (by rw [← HPP.out]; exact all_true (fun j hj => hqs j (by have := HN.out; omega))), kw⟩
          case measure => simp [intOf]; omega
    · obtain rfl : x = n := by omega
      have hlt' : ¬ (x : Int) < x := by omega
      go_wp2_with fail
      go_ret
      refine ⟨ret_bool ?_, kw⟩
      rw [HP.out]
      exact (all_true (fun j hj => HA.out j (by have := HN.out; omega))).symm
end Go.Proofs.YtpbjeoigpbnekaaDoor
