/- The law of LogicsOf. -/
import Derived.Test.YtgnehffglhbggaaGreatGLW2
import Derived.Deep.RegionHeld3
import Derived.Test.YtgnehffglhbggaaGreatGNP
import Derived.Test.YtgnehffglhbggaaGreatGNK
namespace Go.Proofs.YtgnehffglhbggaaGreat
open Go.RowKit
--
set_option maxRecDepth 20000 in
set_option maxHeartbeats 8000000 in
theorem lawLogicsOf (a0 b0 : List ByteArray) (v0 u0 : Value) (x0 : List ByteArray) (code : Int) (hrl : x0.length ≤ 100000) (hs : ∀ (v0' : Value) (u0' : Value) (w : World), Strs w v0' a0 → Strs w u0' b0 → Calls Tryz.prog 20 #[.agg #[v0', u0']] w (fun e w' => ∃ r0a, e = .returned (.tuple #[r0a, .int .i64 code]) ∧ Strs w' r0a x0 ∧ Keeps w w')) (hi : ∀ (v0' : Value) (u0' : Value) (w : World), Strs w v0' a0 → Strs w u0' b0 → Calls Tryz.prog 21 #[.agg #[v0', u0']] w (fun e w' => ∃ r0a, e = .returned (.tuple #[r0a, .int .i64 code]) ∧ OwnS w' w.heap.size r0a x0 ∧ Keeps w w')) (w : World) (hv0 : Strs w v0 a0) (hu0 : Strs w u0 b0) (hsum : szB a0 + szB b0 ≤ 1048576) :
    Calls Tryz.prog 5 #[.agg #[v0, u0]] w fun e w' => e = .returned (.bool true) ∧ Keeps w w' := by
  have HS := hid hs; clear hs
  have HI := hid hi; clear hi
  obtain ⟨v0p, v0m, v0q, rfl⟩ := hv0.shape0
  obtain ⟨hn, hxv0⟩ : v0m = a0.length ∧ v0m ≤ maxLen := by obtain ⟨_, _, e, h1, h2, _⟩ := hv0.shape; cases e; exact ⟨rfl, by omega⟩
  subst hn
  obtain ⟨u0p, u0m, u0q, rfl⟩ := hu0.shape0
  obtain ⟨hn, hxu0⟩ : u0m = b0.length ∧ u0m ≤ maxLen := by obtain ⟨_, _, e, h1, h2, _⟩ := hu0.shape; cases e; exact ⟨rfl, by omega⟩
  subst hn
  have hlba0 := szB_len a0
  have hlbb0 := szB_len b0
  have kP : Keeps w (w.alloc (.cells #[.slice v0p a0.length v0q, .slice u0p b0.length u0q] 24)) := ((Keeps.refl w).alloc (.cells #[.slice v0p a0.length v0q, .slice u0p b0.length u0q] 24))
  have pc00 : (w.alloc (.cells #[.slice v0p a0.length v0q, .slice u0p b0.length u0q] 24)).cell? ⟨w.heap.size, 0, none⟩ = some (.slice v0p a0.length v0q) := by simp
  have pc01 : (w.alloc (.cells #[.slice v0p a0.length v0q, .slice u0p b0.length u0q] 24)).cell? ⟨w.heap.size, 1, none⟩ = some (.slice u0p b0.length u0q) := by simp
  replace hv0 := hv0.keeps kP
  replace hu0 := hu0.keeps kP
  have kW := Keeps.refl (w.alloc (.cells #[.slice v0p a0.length v0q, .slice u0p b0.length u0q] 24))
  go_enter Tryz.func5, Tryz.ntmps5
  have qc0 := kW.cell pc00
  have qc1 := kW.cell pc01
  go_wp2_with fail
  refine (szModalSequent_any _ _ (szB a0) (szB b0) (1048576) _ (SzS.of (hv0.keeps kW) (by omega)) (SzS.of (hu0.keeps kW) (by omega)) ⟨_, _, _, rfl⟩ ⟨_, _, _, rfl⟩ (by omega) (by omega)).mono ?_; rintro e w1 ⟨rfl, kw1⟩
  replace kW := kW.trans kw1
  rw [if_neg (by omega)]
  clear qc0 qc1
  have hp0 : (0 : Int) ≤ 1048576 - (szB a0 : Int) - (szB b0 : Int) := by omega
  clear hxv0 hxu0
  have qc0 := kW.cell pc00
  have qc1 := kW.cell pc01
  go_wp2_with fail
  refine (toModalSequent_any a0 b0 _ _ _ (hv0.keeps kW) (hu0.keeps kW)).mono ?_; rintro e w2 ⟨s0a, s0b, rfl, hs0, kw2⟩
  replace kW := kW.trans kw2
  clear qc0 qc1
  have kS0 := Keeps.refl w2
  go_wp2_with fail
  refine (HS.out _ _ _ ((hs0.keeps kS0).1.strs (by omega)) ((hs0.keeps kS0).2.1.strs (by omega))).mono ?_; rintro e w3 ⟨f0a, rfl, hf0a, kw3⟩
  replace kW := kW.trans kw3
  replace kS0 := kS0.trans kw3
  clear hs0 kS0
  obtain ⟨f0ap, f0am, f0aq, rfl⟩ := hf0a.shape0
  have kS := Keeps.refl w3
  have nWx0 := kW.size
  have nSx0 := kS.size
  have qc0 := kW.cell pc00
  have qc1 := kW.cell pc01
  go_wp2_with fail
  refine (toModalSequent_any a0 b0 _ _ _ (hv0.keeps kW) (hu0.keeps kW)).mono ?_; rintro e w4 ⟨x0a, x0b, rfl, hx0, kw4⟩
  replace kW := kW.trans kw4
  replace kS := kS.trans kw4
  clear qc0 qc1
  have kX0 := Keeps.refl w4
  obtain ⟨x0ap, x0am, x0aq, rfl⟩ := hx0.1.shape0
  obtain ⟨x0bp, x0bm, x0bq, rfl⟩ := hx0.2.1.shape0
  have kb := (Keeps.refl w4).alloc (.cells #[.slice x0ap x0am x0aq, .slice x0bp x0bm x0bq] 29)
  replace kW := kW.trans kb
  replace kS := kS.trans kb
  replace kX0 := kX0.trans kb
  have xc00 : (w4.alloc (.cells #[.slice x0ap x0am x0aq, .slice x0bp x0bm x0bq] 29)).cell? ⟨w4.heap.size, 0, none⟩ = some (.slice x0ap x0am x0aq) := by simp
  have xc01 : (w4.alloc (.cells #[.slice x0ap x0am x0aq, .slice x0bp x0bm x0bq] 29)).cell? ⟨w4.heap.size, 1, none⟩ = some (.slice x0bp x0bm x0bq) := by simp
  have kB0 := Keeps.refl (w4.alloc (.cells #[.slice x0ap x0am x0aq, .slice x0bp x0bm x0bq] 29))
  clear kb
  have nWg := kW.size
  have nSg := kS.size
  have nX0g := kX0.size
  have yc00 := kB0.cell xc00
  have yc01 := kB0.cell xc01
  go_wp2_with fail
  refine (HI.out _ _ _ ((hx0.keeps kX0).1.strs (by omega)) ((hx0.keeps kX0).2.1.strs (by omega))).mono ?_; rintro e w5 ⟨g0a, rfl, hg0, kw5⟩
  replace kW := kW.trans kw5
  replace kS := kS.trans kw5
  replace kX0 := kX0.trans kw5
  replace kB0 := kB0.trans kw5
  clear yc00 yc01
  obtain ⟨g0ap, g0am, g0aq, rfl⟩ := hg0.shape0
  have nWh := kW.size
  have nSh := kS.size
  have nX0h := kX0.size
  have kG := Keeps.refl w5
  have kB := Keeps.refl w5
  go_wp2_with fail
  refine (eqStringS_same x0 _ _ _ ((hg0.keeps kG).strs (by omega)) (hf0a.keeps kS)).mono ?_; rintro e w6 ⟨rfl, kw6⟩
  replace kW := kW.trans kw6
  replace kS := kS.trans kw6
  replace kX0 := kX0.trans kw6
  replace kB0 := kB0.trans kw6
  replace kG := kG.trans kw6
  replace kB := kB.trans kw6
  go_wp2_with fail
  have kd := (Keeps.refl w6).drew
  replace kW := kW.trans kd
  replace kS := kS.trans kd
  replace kX0 := kX0.trans kd
  replace kB0 := kB0.trans kd
  replace kG := kG.trans kd
  replace kB := kB.trans kd
  have ya0 := kB0.cell xc00
  have ya1 := kB0.cell xc01
  have qc0 := kW.cell pc00
  have qc1 := kW.cell pc01
  have HR := hid (toModalSequent_any a0 b0 _ _ _ (hv0.keeps kW) (hu0.keeps kW))
  have HQ := hid (fun (w' : World) (k' : Keeps w6.drew w') v u h1 h2 => eqModalSequent_same a0 b0 _ _ v u w' ((hx0.keeps (kX0.trans k')).1.strs (by omega)) ((hx0.keeps (kX0.trans k')).2.1.strs (by omega)) h1 h2)
  go_region_held3 (fun w' => w'.cell? ⟨w4.heap.size, 0, none⟩ = some (.slice x0ap x0am x0aq) ∧ w'.cell? ⟨w4.heap.size, 1, none⟩ = some (.slice x0bp x0bm x0bq) ∧ w'.cell? ⟨w.heap.size, 0, none⟩ = some (.slice v0p a0.length v0q) ∧ w'.cell? ⟨w.heap.size, 1, none⟩ = some (.slice u0p b0.length u0q)) (first | exact ⟨ya0, ya1, qc0, qc1⟩ | exact ⟨za0, za1, oc0, oc1⟩ | exact ⟨ta0, ta1, va0, va1⟩) (first | (go_at_call 11; refine HR.out.mono ?_; rintro e w7 ⟨ra, rb, rfl, hr0, kw7⟩; have za0 := kw7.cell ya0; have za1 := kw7.cell ya1; have oc0 := kw7.cell qc0; have oc1 := kw7.cell qc1) | (go_at_call 14; refine (HQ.out w7 kw7 _ _ (hr0.1.strs (by omega)) (hr0.2.1.strs (by omega))).mono ?_; rintro e w8 ⟨rfl, kw8⟩; have ta0 := kw8.cell za0; have ta1 := kw8.cell za1; have va0 := kw8.cell oc0; have va1 := kw8.cell oc1))
  replace kW := kW.trans (kw7.trans kw8)
  replace kS := kS.trans (kw7.trans kw8)
  replace kX0 := kX0.trans (kw7.trans kw8)
  replace kB0 := kB0.trans (kw7.trans kw8)
  replace kG := kG.trans (kw7.trans kw8)
  replace kB := kB.trans (kw7.trans kw8)
  clear HR HQ hr0 ya0 qc0 za0 oc0 ta0 va0 ya1 qc1 za1 oc1 ta1 va1
  have kL0 := hx0.lowOf kX0
  clear kX0
  have kGL := hg0.lowOf kG
  clear kG
  replace xc00 := kB0.cell xc00
  replace xc01 := kB0.cell xc01
  clear kB0
  clear kB
  have yc0 := xc00
  have yc1 := xc01
  go_wp2_with fail
  refine (markQ_t a0 b0 _ _ (1) _ _ _ hx0 kL0 (by omega) (by omega) (by omega)).mono ?_; rintro e w9 ⟨rfl, _, tw9⟩
  clear yc0 yc1
  replace kW := kW.touched tw9 (by first | omega | (simp at *; omega))
  replace kS := kS.touched tw9 (by first | omega | (simp at *; omega))
  replace kGL := kGL.touch tw9 (fun i hi => by first | omega | (simp at *; omega))
  clear hx0 kL0 tw9 xc00 xc01
  have hm0' : (0 : Int) ≤ 1 + (a0.length : Int) + (b0.length : Int) := by omega
  have kB := Keeps.refl w9
  go_wp2_with fail
  refine (eqStringS_same x0 _ _ _ ((hg0.low (kGL.keeps kB)).strs (by omega)) (hf0a.keeps kS)).mono ?_; rintro e w10 ⟨rfl, kw10⟩
  replace kW := kW.trans kw10
  replace kS := kS.trans kw10
  replace kB := kB.trans kw10
  replace kGL := kGL.keeps kB
  clear kB
  go_wp2_with fail
  refine (markS_t x0 _ 1 _ _ _ hg0 kGL (by omega) (by omega) (by omega)).mono ?_; rintro e w11 ⟨rfl, hM0, tw11⟩
  replace kW := kW.touched tw11 (by first | omega | (simp at *; omega))
  replace kS := kS.touched tw11 (by first | omega | (simp at *; omega))
  clear hg0 kGL
  have kM := Keeps.refl w11
  go_wp2_with fail
  refine (heldStringS_any x0.length _ (1) _ ((hM0.keeps kM).strs (by rw [marksS_length]; omega)) (by omega) (by omega) (by omega)).mono ?_; rintro e w12 ⟨rfl, kw12⟩
  replace kW := kW.trans kw12
  replace kS := kS.trans kw12
  replace kM := kM.trans kw12
  have qc0 := kW.cell pc00
  have qc1 := kW.cell pc01
  go_wp2_with fail
  refine (toModalSequent_any a0 b0 _ _ _ (hv0.keeps kW) (hu0.keeps kW)).mono ?_; rintro e w13 ⟨e0a, e0b, rfl, he0, kw13⟩
  replace kW := kW.trans kw13
  replace kS := kS.trans kw13
  replace kM := kM.trans kw13
  clear qc0 qc1
  have kZ0 := Keeps.refl w13
  go_wp2_with fail
  refine (HI.out _ _ _ ((he0.keeps kZ0).1.strs (by omega)) ((he0.keeps kZ0).2.1.strs (by omega))).mono ?_; rintro e w14 ⟨h0a, rfl, hh0, kw14⟩
  replace kW := kW.trans kw14
  replace kS := kS.trans kw14
  replace kM := kM.trans kw14
  replace kZ0 := kZ0.trans kw14
  clear he0 kZ0
  obtain ⟨h0ap, h0am, h0aq, rfl⟩ := hh0.shape0
  have kH := Keeps.refl w14
  go_wp2_with fail
  refine (eqStringS_same x0 _ _ _ ((hh0.keeps kH).strs (by omega)) (hf0a.keeps kS)).mono ?_; rintro e w15 ⟨rfl, kw15⟩
  replace kW := kW.trans kw15
  replace kS := kS.trans kw15
  replace kM := kM.trans kw15
  replace kH := kH.trans kw15
  go_wp2_with fail
  refine (heldStringS_any x0.length _ (1) _ ((hM0.keeps kM).strs (by rw [marksS_length]; omega)) (by omega) (by omega) (by omega)).mono ?_; rintro e w16 ⟨rfl, kw16⟩
  replace kW := kW.trans kw16
  replace kS := kS.trans kw16
  replace kM := kM.trans kw16
  replace kH := kH.trans kw16
  go_wp2_with fail
  go_ret
  exact ⟨rfl, kP.trans kW⟩
--
set_option maxRecDepth 20000 in
set_option maxHeartbeats 1000000 in
theorem lawLogicsOfBig (v0 u0 : Value) (w : World) (hv0 : WkS w v0) (hu0 : WkS w u0) (hb : ¬ (∃ a b, Strs w v0 a ∧ Strs w u0 b ∧ szB a + szB b ≤ 1048576)) :
    Calls Tryz.prog 5 #[.agg #[v0, u0]] w fun e w' => e = .returned (.bool true) ∧ Keeps w w' := by
  obtain ⟨A, hA⟩ := hv0.sz
  obtain ⟨B, hB⟩ := hu0.sz
  have kP := (Keeps.refl w).alloc (.cells #[v0, u0] 24)
  have hA' := hA.keeps kP
  have hB' := hB.keeps kP
  have hlt : (1048576 : Int) < A + B := by
    rcases Nat.lt_or_ge 1048576 (A + B) with h | h
    · omega
    · exfalso
      obtain ⟨a, ea, ra⟩ := hA.2 (by omega)
      obtain ⟨b, eb, rb⟩ := hB.2 (by omega)
      exact hb ⟨a, b, ra, rb, by omega⟩
  clear hb hA hB
  obtain ⟨p1, n1, q1, rfl, _⟩ := hv0
  obtain ⟨p2, n2, q2, rfl, _⟩ := hu0
  have HS := hid (szModalSequent_any _ _ A B 1048576 _ hA' hB' ⟨_, _, _, rfl⟩ ⟨_, _, _, rfl⟩ (by omega) (by omega))
  rw [if_pos (by omega)] at HS
  clear hA' hB'
  go_enter Tryz.func5, Tryz.ntmps5
  go_wp2_with fail
  refine HS.out.mono ?_; rintro e w' ⟨rfl, kw⟩
  go_wp2_with fail
  go_ret
  exact ⟨rfl, kP.trans kw⟩
end Go.Proofs.YtgnehffglhbggaaGreat
/- Logics in order: what survives in a logic survives in those below it. No program in sight. -/
namespace Go.Proofs.YtgnehffglhbggaaGreat
open Go.RowKit
def below9 : List (Nat × Nat) := [(0, 1), (0, 3), (0, 7), (1, 2), (2, 4), (3, 4), (3, 5), (4, 6), (7, 6)]
theorem alw_at {L : Nat} {E : List Fm} {m : Nat} (h : alwB L E m = true) (hL : L = 2 ∨ L = 4 ∨ L = 6) : ∀ i ∈ mods E, (!demB E i m || meeB E i m) = true := by
  unfold alwB at h
  rw [decide_eq_true hL] at h
  exact List.all_eq_true.1 h
theorem pas_at {L : Nat} {E : List Fm} {f t : Nat} : pasB L E f t = true ↔ ∀ i ∈ mods E, pasQ L E f t i = true := List.all_eq_true
theorem see_order {A B : Nat} (h : (A, B) ∈ below9) {E : List Fm} {f t : Nat} (hf : alwB B E f = true) (ht : alwB B E t = true) (hs : seeB B E f t = true) : seeB A E f t = true := by
  simp only [below9, List.mem_cons, Prod.mk.injEq, List.not_mem_nil, or_false] at h
  rcases h with ⟨rfl, rfl⟩ | ⟨rfl, rfl⟩ | ⟨rfl, rfl⟩ | ⟨rfl, rfl⟩ | ⟨rfl, rfl⟩ | ⟨rfl, rfl⟩ | ⟨rfl, rfl⟩ | ⟨rfl, rfl⟩ | ⟨rfl, rfl⟩
  · exact hs
  · have h1 : pasB 3 E f t = true := hs
    show pasB 0 E f t = true
    rw [pas_at] at *
    intro i hi
    have := h1 i hi
    revert this
    unfold pasQ
    cases demB E i f <;> cases demB E i t <;> cases meeB E i t <;> simp
  · have h1 : (pasB 7 E f t && pasB 7 E t f) = true := hs
    rw [Bool.and_eq_true] at h1
    exact h1.1
  · exact hs
  · have h1 : pasB 4 E f t = true := hs
    show pasB 2 E f t = true
    have h2 := alw_at ht (.inr (.inl rfl))
    rw [pas_at] at *
    intro i hi
    have a := h1 i hi
    have b := h2 i hi
    revert a b
    unfold pasQ
    cases demB E i f <;> cases demB E i t <;> cases meeB E i t <;> simp
  · have h1 : pasB 4 E f t = true := hs
    show pasB 3 E f t = true
    have h2 := alw_at ht (.inr (.inl rfl))
    rw [pas_at] at *
    intro i hi
    have a := h1 i hi
    have b := h2 i hi
    revert a b
    unfold pasQ
    cases demB E i f <;> cases demB E i t <;> cases meeB E i t <;> simp
  · have h1 : (pasB 5 E f t && (mods E).any fun i => demB E i t && !demB E i f) = true := hs
    rw [Bool.and_eq_true] at h1
    exact h1.1
  · have h1 : ((mods E).all fun i => demB E i f == demB E i t) = true := hs
    show pasB 4 E f t = true
    rw [pas_at]
    rw [List.all_eq_true] at h1
    intro i hi
    have a := h1 i hi
    revert a
    unfold pasQ
    cases demB E i f <;> cases demB E i t <;> simp
  · have h1 : ((mods E).all fun i => demB E i f == demB E i t) = true := hs
    show (pasB 7 E f t && pasB 7 E t f) = true
    have h2 := alw_at ht (.inr (.inr rfl))
    have h3 := alw_at hf (.inr (.inr rfl))
    rw [Bool.and_eq_true, pas_at, pas_at]
    rw [List.all_eq_true] at h1
    refine ⟨fun i hi => ?_, fun i hi => ?_⟩
    · have a := h1 i hi
      have b := h2 i hi
      revert a b
      unfold pasQ
      cases demB E i f <;> cases demB E i t <;> cases meeB E i t <;> simp
    · have a := h1 i hi
      have b := h3 i hi
      revert a b
      unfold pasQ
      cases demB E i f <;> cases demB E i t <;> cases meeB E i f <;> simp
theorem alw_order {A B : Nat} (h : (A, B) ∈ below9) {E : List Fm} {m : Nat} (hm : alwB B E m = true) : alwB A E m = true := by
  simp only [below9, List.mem_cons, Prod.mk.injEq, List.not_mem_nil, or_false] at h
  rcases h with ⟨rfl, rfl⟩ | ⟨rfl, rfl⟩ | ⟨rfl, rfl⟩ | ⟨rfl, rfl⟩ | ⟨rfl, rfl⟩ | ⟨rfl, rfl⟩ | ⟨rfl, rfl⟩ | ⟨rfl, rfl⟩ | ⟨rfl, rfl⟩
  · rfl
  · rfl
  · rfl
  · rfl
  · exact hm
  · rfl
  · rfl
  · exact hm
  · rfl
theorem not_gl {A B : Nat} (h : (A, B) ∈ below9) : A ≠ 5 := by
  simp only [below9, List.mem_cons, Prod.mk.injEq, List.not_mem_nil, or_false] at h
  omega
theorem live_order {A B : Nat} (h : (A, B) ∈ below9) {E : List Fm} {N m : Nat} (hm : m < N) (hl : liveB B E N m = true) : liveB A E N m = true := by
  refine live_max (S := liveB B E N) (fun k hk hs => ?_) hm hl
  obtain ⟨h1, h2⟩ := live_self B E N k hk hs
  refine ⟨alw_order h h1, ?_⟩
  unfold surB at h2 ⊢
  rw [Bool.and_eq_true] at h2 ⊢
  refine ⟨?_, ?_⟩
  · by_cases hA : A = 1
    · subst hA
      have hB : B = 2 := by
        simp only [below9, List.mem_cons, Prod.mk.injEq, List.not_mem_nil, or_false] at h
        omega
      subst hB
      rw [Bool.or_eq_true]
      refine .inr (List.any_eq_true.2 ⟨k, List.mem_range.2 hk, ?_⟩)
      rw [Bool.and_eq_true]
      refine ⟨hs, ?_⟩
      show pasB 1 E k k = true
      rw [pas_at]
      intro i hi
      have := alw_at h1 (.inl rfl) i hi
      revert this
      unfold pasQ
      cases demB E i k <;> cases meeB E i k <;> simp
    · rw [decide_eq_true hA]; rfl
  · rw [List.all_eq_true] at *
    intro i hi
    have := h2.2 i hi
    rw [Bool.or_eq_true] at this ⊢
    rcases this with h3 | h3
    · exact .inl h3
    · refine .inr ?_
      rw [List.any_eq_true] at h3 ⊢
      obtain ⟨t, ht, h4⟩ := h3
      rw [Bool.and_eq_true] at h4
      refine ⟨t, ht, ?_⟩
      rw [Bool.and_eq_true]
      refine ⟨h4.1, ?_⟩
      have h5 := h4.2
      unfold witB at h5 ⊢
      rw [Bool.and_eq_true, Bool.and_eq_true] at h5 ⊢
      exact ⟨⟨see_order h h1 (live_alw (List.mem_range.1 ht) h4.1) h5.1.1, h5.1.2⟩, by rw [decide_eq_true (not_gl h)]; rfl⟩
theorem idx_low (p : Nat → Bool) (N : Nat) : idxOf p (List.range N) 0 < 0 ↔ ∀ m, m < N → p m = false := by
  have key : ∀ d k, k ≤ N → d = N - k → (idxOf p ((List.range N).drop k) k < 0 ↔ ∀ m, k ≤ m → m < N → p m = false) := by
    intro d
    induction d with
    | zero =>
      intro k hk hd
      obtain rfl : k = N := by omega
      rw [rng_end]
      exact ⟨fun _ m h1 h2 => by omega, fun _ => by decide⟩
    | succ d ih =>
      intro k hk hd
      rw [rng_drop p N k (by omega)]
      by_cases hp : p k = true
      · rw [if_pos hp]
        refine ⟨fun h => by omega, fun h => ?_⟩
        rw [h k (by omega) (by omega)] at hp
        cases hp
      · rw [if_neg hp, ih (k + 1) (by omega) (by omega)]
        rw [Bool.not_eq_true] at hp
        refine ⟨fun h m h1 h2 => ?_, fun h m h1 h2 => h m (by omega) h2⟩
        by_cases e : m = k
        · subst e; exact hp
        · exact h m (by omega) h2
  have := key N 0 (by omega) (by omega)
  simpa using this
theorem thm_iff (L : Nat) (E : List Fm) (N : Nat) (A B : List Fm) : thmB L E N A B = true ↔ ∀ m, m < N → liveB L E N m = true → refB E A B m = false := by
  unfold thmB fstI
  rw [decide_eq_true_eq, idx_low]
  refine ⟨fun h m hm hl => ?_, fun h m hm => ?_⟩
  · have := h m hm
    rw [hl] at this
    exact this
  · cases hl : liveB L E N m
    · rfl
    · exact h m hm hl
theorem thm_order {K L : Nat} (h : (K, L) ∈ below9) {E : List Fm} {N : Nat} {A B : List Fm} (ht : thmB K E N A B = true) : thmB L E N A B = true := by
  rw [thm_iff] at *
  exact fun m hm hl => ht m hm (live_order h hm hl)
end Go.Proofs.YtgnehffglhbggaaGreat
/- The sequent that says that a type is not the case: the elementary parts that are true on the left, the others on the right. No program in sight. -/
namespace Go.Proofs.YtgnehffglhbggaaGreat
open Go.RowKit
/-- the texts whose bit is b, among the first i -/
def pickT (T : List ByteArray) (m : Nat) (b : Bool) : Nat → List ByteArray
  | 0 => []
  | i + 1 => if (m.testBit i == b) = true then pickT T m b i ++ [T.getD i ⟨#[]⟩] else pickT T m b i
theorem pickT_len (T : List ByteArray) (m : Nat) (b : Bool) : ∀ i, (pickT T m b i).length ≤ i
  | 0 => by simp [pickT]
  | i + 1 => by
    have := pickT_len T m b i
    unfold pickT
    split
    · simp; omega
    · omega
theorem pickT_mem {T : List ByteArray} {m : Nat} {b : Bool} {s : ByteArray} : ∀ {i}, i ≤ T.length → (s ∈ pickT T m b i ↔ ∃ j, ∃ h : j < T.length, j < i ∧ m.testBit j = b ∧ s = T[j])
  | 0, _ => by simp [pickT]
  | i + 1, hi => by
    have ih := pickT_mem (T := T) (m := m) (b := b) (s := s) (i := i) (by omega)
    have hg : T.getD i ⟨#[]⟩ = T[i]'(by omega) := by rw [List.getD_eq_getElem?_getD, List.getElem?_eq_getElem (by omega)]; rfl
    unfold pickT
    split
    · rename_i hb
      rw [beq_iff_eq] at hb
      rw [List.mem_append, ih, List.mem_singleton, hg]
      constructor
      · rintro (⟨j, h, h1, h2, h3⟩ | h)
        · exact ⟨j, h, by omega, h2, h3⟩
        · exact ⟨i, by omega, by omega, hb, h⟩
      · rintro ⟨j, h, h1, h2, h3⟩
        by_cases e : j = i
        · subst e; exact .inr h3
        · exact .inl ⟨j, h, by omega, h2, h3⟩
    · rename_i hb
      rw [ih]
      constructor
      · rintro ⟨j, h, h1, h2, h3⟩
        exact ⟨j, h, by omega, h2, h3⟩
      · rintro ⟨j, h, h1, h2, h3⟩
        by_cases e : j = i
        · subst e; exact absurd (by rw [h2]; simp) hb
        · exact ⟨j, h, by omega, h2, h3⟩
theorem asc_lt {T : List ByteArray} (h : Asc (T.map bts)) {i j : Nat} (hj : j < T.length) (hij : i < j) : bts (T[i]'(by omega)) < bts T[j] := by
  unfold Asc at h
  rw [List.pairwise_iff_getElem] at h
  have := h i j (by simp; omega) (by simp; omega) hij
  simpa using this
theorem pickT_asc {T : List ByteArray} (h : Asc (T.map bts)) (m : Nat) (b : Bool) : ∀ i, i ≤ T.length → Asc ((pickT T m b i).map bts)
  | 0, _ => by simp [pickT, Asc]
  | i + 1, hi => by
    have ih := pickT_asc h m b i (by omega)
    have hg : T.getD i ⟨#[]⟩ = T[i]'(by omega) := by rw [List.getD_eq_getElem?_getD, List.getElem?_eq_getElem (by omega)]; rfl
    unfold pickT
    split
    · rw [List.map_append]
      unfold Asc
      rw [List.pairwise_append]
      refine ⟨ih, by simp, ?_⟩
      intro a ha c hc
      simp only [List.map_cons, List.map_nil, List.mem_singleton] at hc
      subst hc
      obtain ⟨s, hs, rfl⟩ := List.mem_map.1 ha
      obtain ⟨j, hj, hji, _, rfl⟩ := (pickT_mem (by omega)).1 hs
      rw [hg]
      exact asc_lt h (by omega) hji
    · exact ih
/-- sides are told by what they are -/
theorem sideB_of {ss : List ByteArray} (h : Side ss) : sideB ss = true := by
  refine side_true fun i hi => ?_
  have hg : ∀ i (hi : i < ss.length), ss.getD i ⟨#[]⟩ = ss[i] := fun i hi => by rw [List.getD_eq_getElem?_getD, List.getElem?_eq_getElem hi]; rfl
  unfold okAt
  rw [Bool.and_eq_true, hg i hi]
  refine ⟨isTx_iff.2 (h.1 _ (List.getElem_mem hi)), ?_⟩
  by_cases h0 : i = 0
  · subst h0; rfl
  · rw [Bool.or_eq_true, decide_eq_true_eq, hg (i - 1) (by omega)]
    exact .inr (asc_lt h.2 hi (by omega))
theorem isQ_of {ss tt : List ByteArray} (h1 : ss.length ≤ 16) (h2 : tt.length ≤ 16) (hs : Side ss) (ht : Side tt) : isQ ss tt = true := by
  unfold isQ
  rw [sideB_of hs, sideB_of ht, decide_eq_true h1, decide_eq_true h2]; rfl
/-- elementary parts are the same where they are the same set -/
theorem elT_bts {G : List Fm} (hG : Fine G) {z : List UInt8} : z ∈ (elT G).map bts ↔ ∃ x ∈ elF G, z = x.body := by
  constructor
  · intro h
    obtain ⟨s, hs, rfl⟩ := List.mem_map.1 h
    exact ⟨txF s, List.mem_map_of_mem hs, (elT_tx hG hs).2.1⟩
  · rintro ⟨x, hx, rfl⟩
    obtain ⟨s, hs, rfl⟩ := List.mem_map.1 hx
    exact List.mem_map.2 ⟨s, hs, (elT_tx hG hs).2.1⟩
theorem elT_asc (G : List Fm) : Asc ((elT G).map bts) := by
  have h := subT_asc G
  unfold elT
  unfold Asc at h ⊢
  rw [List.pairwise_map] at h ⊢
  exact List.Pairwise.filter _ h
theorem elT_ext {G H : List Fm} (hG : Fine G) (hH : Fine H) (h : ∀ x, x ∈ elF G ↔ x ∈ elF H) : elT G = elT H := by
  refine map_bts_inj (Asc.ext (elT_asc G) (elT_asc H) (fun z => ?_))
  rw [elT_bts hG, elT_bts hH]
  exact ⟨fun ⟨x, a, b⟩ => ⟨x, (h x).1 a, b⟩, fun ⟨x, a, b⟩ => ⟨x, (h x).2 a, b⟩⟩
/-- the sequent of a type -/
structure TySq (G : List Fm) (m : Nat) (A B : List ByteArray) : Prop where
  a : A = pickT (elT G) m true (elT G).length
  b : B = pickT (elT G) m false (elT G).length
theorem elT_get {G : List Fm} {i : Nat} (h : i < (elT G).length) : txF (elT G)[i] = (elF G)[i]'(by rw [elF_len]; exact h) := by simp [elF]
theorem tySq_side {G : List Fm} (hG : Fine G) (m : Nat) (b : Bool) : Side (pickT (elT G) m b (elT G).length) := by
  refine ⟨fun s hs => ?_, pickT_asc (elT_asc G) m b _ (Nat.le_refl _)⟩
  obtain ⟨j, hj, _, _, rfl⟩ := (pickT_mem (Nat.le_refl _)).1 hs
  exact ⟨_, elT_tx hG (List.getElem_mem hj)⟩
theorem tySq_el {G : List Fm} (hG : Fine G) (m : Nat) : elT (fmL (pickT (elT G) m true (elT G).length ++ pickT (elT G) m false (elT G).length)) = elT G := by
  have hF : Fine (fmL (pickT (elT G) m true (elT G).length ++ pickT (elT G) m false (elT G).length)) := by
    rw [fmL_append]
    exact (fmL_fine (tySq_side hG m true)).append (fmL_fine (tySq_side hG m false))
  have hmem : ∀ x, x ∈ fmL (pickT (elT G) m true (elT G).length ++ pickT (elT G) m false (elT G).length) ↔ x ∈ elF G := by
    intro x
    unfold fmL elF
    rw [List.mem_map, List.mem_map]
    constructor
    · rintro ⟨s, hs, rfl⟩
      rcases List.mem_append.1 hs with h | h
      · obtain ⟨j, hj, _, _, rfl⟩ := (pickT_mem (Nat.le_refl _)).1 h
        exact ⟨_, List.getElem_mem hj, rfl⟩
      · obtain ⟨j, hj, _, _, rfl⟩ := (pickT_mem (Nat.le_refl _)).1 h
        exact ⟨_, List.getElem_mem hj, rfl⟩
    · rintro ⟨s, hs, rfl⟩
      obtain ⟨j, hj, rfl⟩ := List.getElem_of_mem hs
      refine ⟨_, ?_, rfl⟩
      rw [List.mem_append, pickT_mem (Nat.le_refl _), pickT_mem (Nat.le_refl _)]
      cases hb : m.testBit j
      · exact .inr ⟨j, hj, hj, hb, rfl⟩
      · exact .inl ⟨j, hj, hj, hb, rfl⟩
  refine elT_ext hF hG (fun x => ?_)
  rw [elF_mem hF]
  constructor
  · rintro ⟨h1, h2⟩
    obtain ⟨y, hy, hxy⟩ := List.mem_flatMap.1 h1
    have hy' := (elF_mem hG).1 ((hmem y).1 hy)
    obtain ⟨t, ht, hyt⟩ := List.mem_flatMap.1 hy'.1
    exact (elF_mem hG).2 ⟨List.mem_flatMap.2 ⟨t, ht, subs_trans hyt _ hxy⟩, h2⟩
  · intro h
    exact ⟨List.mem_flatMap.2 ⟨x, (hmem x).2 h, subs_self x⟩, ((elF_mem hG).1 h).2⟩
theorem elF_nodup {G : List Fm} (hG : Fine G) {i j : Nat} (hi : i < (elF G).length) (hj : j < (elF G).length) (h : (elF G)[i] = (elF G)[j]) : i = j := by
  have hl := elF_len G
  have e1 := elF_get hi
  have e2 := elF_get hj
  have b1 := (elT_tx hG (List.getElem_mem (show i < (elT G).length by omega))).2.1
  have b2 := (elT_tx hG (List.getElem_mem (show j < (elT G).length by omega))).2.1
  rw [← e1] at b1
  rw [← e2] at b2
  have e : bts ((elT G)[i]'(by omega)) = bts ((elT G)[j]'(by omega)) := by rw [b1, b2, h]
  rcases Nat.lt_trichotomy i j with h1 | h1 | h1
  · have := asc_lt (elT_asc G) (show j < (elT G).length by omega) h1
    rw [e] at this
    exact absurd this (txt_irrefl _)
  · exact h1
  · have := asc_lt (elT_asc G) (show i < (elT G).length by omega) h1
    rw [e] at this
    exact absurd this (txt_irrefl _)
theorem valB_el {G : List Fm} (hG : Fine G) (k : Nat) {i : Nat} (hi : i < (elF G).length) : valB (elF G) k (elF G)[i] = k.testBit i := by
  have hel := elF_isEl hG (List.getElem_mem hi)
  have hx : (elF G).idxOf (elF G)[i] = i := by
    obtain ⟨hj, he⟩ := idx_at (elF G) (elF G)[i] (List.getElem_mem hi)
    exact elF_nodup hG hj hi he
  have : valB (elF G) k (elF G)[i] = k.testBit ((elF G).idxOf (elF G)[i]) := by
    generalize (elF G)[i] = t at *
    cases t <;> first | rfl | (simp [isEl] at hel)
  rw [this, hx]
theorem bits_eq {n a b : Nat} (ha : a < 2 ^ n) (hb : b < 2 ^ n) (h : ∀ i, i < n → a.testBit i = b.testBit i) : a = b := by
  apply Nat.eq_of_testBit_eq
  intro i
  by_cases hi : i < n
  · exact h i hi
  · have hp : 2 ^ n ≤ 2 ^ i := Nat.pow_le_pow_right (by omega) (by omega)
    rw [Nat.testBit_lt_two_pow (by omega), Nat.testBit_lt_two_pow (by omega)]
theorem tySq_ref {G : List Fm} (hG : Fine G) {m k : Nat} (hm : m < 2 ^ (elF G).length) (hk : k < 2 ^ (elF G).length) :
    refB (elF G) (fmL (pickT (elT G) m true (elT G).length)) (fmL (pickT (elT G) m false (elT G).length)) k = decide (k = m) := by
  have hl := elF_len G
  rw [Bool.eq_iff_iff, decide_eq_true_eq]
  unfold refB
  rw [Bool.and_eq_true, List.all_eq_true, Bool.not_eq_true', List.any_eq_false]
  constructor
  · rintro ⟨h1, h2⟩
    refine bits_eq hk hm (fun i hi => ?_)
    cases hb : m.testBit i
    · have := h2 (elF G)[i] (List.mem_map.2 ⟨(elT G)[i]'(by omega), (pickT_mem (Nat.le_refl _)).2 ⟨i, by omega, by omega, hb, rfl⟩, elT_get (by omega)⟩)
      rw [valB_el hG k hi] at this
      simpa using this
    · have := h1 (elF G)[i] (List.mem_map.2 ⟨(elT G)[i]'(by omega), (pickT_mem (Nat.le_refl _)).2 ⟨i, by omega, by omega, hb, rfl⟩, elT_get (by omega)⟩)
      rw [valB_el hG k hi] at this
      exact this
  · rintro rfl
    refine ⟨fun x hx => ?_, fun x hx => ?_⟩
    · obtain ⟨s, hs, rfl⟩ := List.mem_map.1 hx
      obtain ⟨j, hj, _, hb, rfl⟩ := (pickT_mem (Nat.le_refl _)).1 hs
      rw [elT_get hj, valB_el hG k (by omega)]
      exact hb
    · obtain ⟨s, hs, rfl⟩ := List.mem_map.1 hx
      obtain ⟨j, hj, _, hb, rfl⟩ := (pickT_mem (Nat.le_refl _)).1 hs
      rw [elT_get hj, valB_el hG k (by omega), hb]
      simp
theorem tySq_thm {G : List Fm} (hG : Fine G) (L : Nat) {m : Nat} (hm : m < 2 ^ (elF G).length) :
    thmB L (elF G) (2 ^ (elF G).length) (fmL (pickT (elT G) m true (elT G).length)) (fmL (pickT (elT G) m false (elT G).length)) = !liveB L (elF G) (2 ^ (elF G).length) m := by
  rw [Bool.eq_iff_iff, thm_iff, Bool.not_eq_true']
  constructor
  · intro h
    cases hl : liveB L (elF G) (2 ^ (elF G).length) m
    · rfl
    · have := h m hm hl
      rw [tySq_ref hG hm hm] at this
      simp at this
  · intro h k hk hl
    rw [tySq_ref hG hm hk, decide_eq_false_iff_not]
    rintro rfl
    rw [h] at hl
    cases hl
end Go.Proofs.YtgnehffglhbggaaGreat
