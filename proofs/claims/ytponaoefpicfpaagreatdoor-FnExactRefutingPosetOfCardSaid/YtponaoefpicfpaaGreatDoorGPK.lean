/- What makes a relation an order, decided; the program's hasFlag for three flags. -/
import Derived.Test.YtponaoefpicfpaaGreatDoorGQC
import Derived.Deep.RegionHeld3
namespace Go.Proofs.YtponaoefpicfpaaGreatDoor
open Go.RowKit
def reflB (b : List Nat) : Bool := (List.range b.length).all fun x => (b.getD x 0).testBit x
def transB (b : List Nat) : Bool := (List.range b.length).all fun x => inB (img b (b.getD x 0)) (b.getD x 0)
def antiQ (b : List Nat) (x y : Nat) : Bool := !((b.getD x 0).testBit y && !(x == y) && (b.getD y 0).testBit x)
def antiB (b : List Nat) : Bool := (List.range b.length).all fun x => (List.range b.length).all fun y => antiQ b x y
def posB (b : List Nat) : Bool := reflB b && transB b && antiB b
theorem all_false {n : Nat} {P : Nat → Bool} {x : Nat} (hx : x < n) (h : P x = false) : (List.range n).all P = false := by
  rw [Bool.eq_false_iff]
  intro h2
  have := List.all_eq_true.1 h2 x (by simpa using hx)
  rw [h] at this; cases this
theorem all_true {n : Nat} {P : Nat → Bool} (h : ∀ j, j < n → P j = true) : (List.range n).all P = true := by
  rw [List.all_eq_true]
  intro x hx
  exact h x (by simpa using hx)
theorem nextQ {P : Nat → Bool} {x : Nat} (h : ∀ j, j < x → P j = true) (hx : P x = true) : ∀ j, j < x + 1 → P j = true := fun j hj => by
  by_cases e : j = x
  · subst e; exact hx
  · exact h j (by omega)
theorem bnd_mem {n : Nat} {b : List Nat} (h : Bnd n b) : ∀ x ∈ b, x < 2 ^ n := fun x hx => by
  obtain ⟨i, hi, rfl⟩ := List.getElem_of_mem hx
  rw [← getD_get hi]; exact h i
theorem mem_bnd {n : Nat} {b : List Nat} (h : ∀ x ∈ b, x < 2 ^ n) : Bnd n b := fun i => getD_lt h i
theorem imgL_bit (b : List Nat) (m : Nat) : ∀ k i, (imgL b m k).testBit i = true ↔ ∃ j, j < k ∧ m.testBit j = true ∧ (b.getD j 0).testBit i = true
  | 0, i => by simp [imgL]
  | k + 1, i => by
    unfold imgL
    split
    · rename_i h
      rw [Nat.testBit_or, Bool.or_eq_true, imgL_bit b m k i]
      constructor
      · rintro (⟨j, h1, h2, h3⟩ | h3)
        · exact ⟨j, by omega, h2, h3⟩
        · exact ⟨k, by omega, h, h3⟩
      · rintro ⟨j, h1, h2, h3⟩
        by_cases e : j = k
        · subst e; exact .inr h3
        · exact .inl ⟨j, by omega, h2, h3⟩
    · rename_i h
      rw [imgL_bit b m k i]
      constructor
      · rintro ⟨j, h1, h2, h3⟩; exact ⟨j, by omega, h2, h3⟩
      · rintro ⟨j, h1, h2, h3⟩
        by_cases e : j = k
        · subst e; exact absurd h2 h
        · exact ⟨j, by omega, h2, h3⟩
theorem bit_lt {b : List Nat} {n i j : Nat} (h : Bnd n b) (hb : (b.getD i 0).testBit j = true) : j < n := by
  rcases Nat.lt_or_ge j n with h2 | h2
  · exact h2
  · rw [Nat.testBit_lt_two_pow (Nat.lt_of_lt_of_le (h i) (Nat.pow_le_pow_right (by omega) h2))] at hb; cases hb
/-- the closure is the relation itself: decided as the reference does -/
theorem trans_eq (b : List Nat) (_hbm : Bnd b.length b) : decide (wAll b b.length b.length = b) = transB b := by
  rw [Bool.eq_iff_iff, decide_eq_true_eq, wAll_iff]
  unfold transB
  rw [List.all_eq_true]
  constructor
  · intro h x hx
    have hx : x < b.length := by simpa using hx
    rw [inB_iff]
    intro i hi
    obtain ⟨j, h1, h2, h3⟩ := (imgL_bit _ _ _ _).1 hi
    exact h x j hx h1 h2 i h3
  · intro h i j hi hj hb
    have h1 := (inB_iff _ _).1 (h i (by simpa using hi))
    intro k hk
    exact h1 k ((imgL_bit _ _ _ _).2 ⟨j, hj, hb, hk⟩)
theorem anti_eq (b : List Nat) (_hbm : Bnd b.length b) : ((List.range b.length).all fun x => inB (b.getD x 0 &&& (invB b).getD x 0) (2 ^ x)) = antiB b := by
  rw [Bool.eq_iff_iff]
  unfold antiB
  simp only [List.all_eq_true]
  constructor
  · intro h x hx y hy
    have hx' : x < b.length := by simpa using hx
    have hy' : y < b.length := by simpa using hy
    have h1 := (inB_iff _ _).1 (h x hx) y
    rw [Nat.testBit_and, invB_bit _ _ _ hx', Nat.testBit_two_pow] at h1
    unfold antiQ
    cases e1 : (b.getD x 0).testBit y <;> cases e2 : (b.getD y 0).testBit x <;> cases e3 : (x == y) <;> simp_all
  · intro h x hx
    have hx' : x < b.length := by simpa using hx
    rw [inB_iff]
    intro y hy
    rw [Nat.testBit_and, invB_bit _ _ _ hx'] at hy
    rw [Nat.testBit_two_pow]
    simp only [Bool.and_eq_true, decide_eq_true_eq] at hy ⊢
    have h1 := h x hx y (by simpa using hy.2.1)
    unfold antiQ at h1
    rw [hy.1, hy.2.2] at h1
    simpa using h1
theorem zs_inj {a b : List Nat} (h : zs a = zs b) : a = b := by
  apply List.ext_getElem
  · have := congrArg List.length h; simpa [zs] using this
  · intro i h1 h2
    have h3 : (zs a)[i]'(by simpa [zs] using h1) = (zs b)[i]'(by simpa [zs] using h2) := by simp only [h]
    simp only [zs, List.getElem_map] at h3
    exact Int.ofNat.inj h3
theorem zs_dec (a b : List Nat) : decide (zs a = zs b) = decide (a = b) := by
  rw [Bool.eq_iff_iff, decide_eq_true_eq, decide_eq_true_eq]
  exact ⟨zs_inj, fun h => by rw [h]⟩
--
set_option maxRecDepth 20000 in
set_option maxHeartbeats 1000000 in
theorem everyWorld_any (pr : Nat → Bool) (f : FuncId) (cp : Array Value) (n : Nat) (p : Option Addr) (m c : Nat) (w : World) (hcf : Enters f) (hn : n ≤ 8)
    (hf : ∀ (x : Nat) w1, x < n → Keeps w w1 → Calls Tryz.prog f (#[.int .i64 x] ++ cp) w1 fun e w2 => e = .returned (.bool (pr x)) ∧ Keeps w1 w2) :
    Calls Tryz.prog 199 #[.agg #[.int .i64 n, .slice p m c], .func (.func f) #[] cp] w fun e w' => e = .returned (.bool ((List.range n).all pr)) ∧ Keeps w w' := by
  have HF := hid hf; clear hf
  have kA := (Keeps.refl w).alloc (.cells #[.int .i64 n, .slice p m c] 109)
  have hcf' : ∀ args w, (callFunc f args).run Tryz.prog w = .ok (.enter f args) w := hcf
  clear hcf
  go_enter Tryz.func199, Tryz.ntmps199
  go_wp2
  go_loopw [4, 8] (fun r i' wr => ∃ k : Nat, k ≤ n ∧ i' = .int .i64 k ∧ r = .bool false ∧ (∀ j, j < k → pr j = true) ∧ Keeps w wr) (fun _ i _ => n - (intOf i).toNat)
  case atStart => exact ⟨0, by omega, rfl, rfl, fun j h => by omega, kA⟩
  case round =>
    obtain ⟨k, hk, rfl, rfl, hall, kw⟩ := hrel
    have HA := hid hall; clear hall kA
    by_cases hlt : k < n
    · have hlt' : (k : Int) < n := by omega
      cases hp : pr k
      all_goals
        have Hp := hid hp; clear hp
        go_wp2_with ((with_reducible refine (HF.out k wr hlt kw).mono ?_); rintro e w2 ⟨rfl, k2⟩; rw [Hp.out])
      · go_ret
        exact ⟨ret_bool (all_false hlt Hp.out).symm, kw.trans k2⟩
      · go_roundw
        case rel => exact ⟨k + 1, by omega, by go_num, rfl, nextQ HA.out Hp.out, kw.trans k2⟩
        case measure => simp [intOf]; omega
    · obtain rfl : k = n := by omega
      have hlt' : ¬ (k : Int) < k := by omega
      go_wp2
      go_ret
      exact ⟨ret_bool (all_true (fun j hj => HA.out j (by omega))).symm, kw⟩
/-- a frame lies in a box -/
def BoxF (w : World) (B : Nat) (n : Int) (v : Value) : Prop := w.cell? ⟨B, 0, none⟩ = some (.int .i64 n) ∧ w.cell? ⟨B, 1, none⟩ = some v
theorem BoxF.keeps {w w' : World} {B : Nat} {n : Int} {v : Value} (h : BoxF w B n v) (k : Keeps w w') : BoxF w' B n v := ⟨k.cell h.1, k.cell h.2⟩
theorem BoxF.made (w : World) (n : Int) (v : Value) (t : TypeId) : BoxF (w.alloc (.cells #[.int .i64 n, v] t)) w.heap.size n v := by
  constructor <;> simp
--
set_option maxRecDepth 20000 in
theorem sees_any (b : List Nat) (n : Int) (v : Value) (x y : Nat) (w : World) (hv : Ints w v (zs b)) (hb : b.length ≤ 8) (hbm : Bnd b.length b) (hx : x < b.length) (hy : y ≤ 8) :
    Calls Tryz.prog 201 #[.agg #[.int .i64 n, v], .int .i64 x, .int .i64 y] w fun e w' => e = .returned (.bool ((b.getD x 0).testBit y)) ∧ Keeps w w' := by
  have h256 := two8 hb
  have hm := Nat.lt_of_lt_of_le (hbm x) h256
  obtain ⟨p, cap, rfl, hle, hmx, hat, hlen⟩ := hv
  unfold maxLen at hmx
  obtain ⟨b1, o1, rfl, h1⟩ := hat.int x (by rw [zs_length]; exact hx)
  rw [zs_get, ← getD_get] at h1
  rw [zs_length] at *
  have hx' : (x : Int) < b.length := by omega
  have kA := (Keeps.refl w).alloc (.cells #[.int .i64 n, .slice (some ⟨b1, o1, none⟩) b.length cap] 109)
  have h1' := kA.cell h1
  have HH := hid (fun w2 => hasB_any (b.getD x 0) y w2 hm hy)
  clear hat hm
  generalize b.getD x 0 = m at *
  go_enter Tryz.func201, Tryz.ntmps201
  go_wp2_with fail
  refine (HH.out _).mono ?_; rintro e w2 ⟨rfl, rfl⟩
  go_wp2_with fail
  go_ret
  exact ⟨rfl, kA⟩
--
set_option maxRecDepth 20000 in
theorem hasFlag_1_any (b : List Nat) (n : Int) (v : Value) (B : Nat) (x : Nat) (w : World) (hc : BoxF w B n v) (hv : Ints w v (zs b)) (hb : b.length ≤ 8) (hbm : Bnd b.length b) (hx : x < b.length) :
    Calls Tryz.prog 200 #[.int .i64 x, .pointer (some ⟨B, 0, none⟩)] w fun e w' => e = .returned (.bool ((b.getD x 0).testBit x)) ∧ Keeps w w' := by
  have HS := hid (sees_any b n v x x w hv hb hbm hx (by omega))
  obtain ⟨c0, c1⟩ := hc
  obtain ⟨p, cap, rfl, _⟩ := hv
  rw [zs_length] at *
  generalize (b.getD x 0).testBit x = r at *
  go_enter Tryz.func200, Tryz.ntmps200
  go_wp2_with fail
  refine HS.out.mono ?_; rintro e w2 ⟨rfl, k2⟩
  go_wp2_with fail
  go_ret
  exact ⟨rfl, k2⟩
theorem enters_hasFlag_1 : Enters 200 := fun _ _ => by kernel_rfl
--
set_option maxRecDepth 20000 in
theorem hasFlag_7_any (b : List Nat) (n : Int) (v u : Value) (B C : Nat) (x : Nat) (w : World) (hc : BoxF w B n v) (hd : w.cell? ⟨C, 0, none⟩ = some u) (hv : Ints w v (zs b)) (hu : Ints w u (zs (invB b))) (hb : b.length ≤ 8) (hbm : Bnd b.length b) (hx : x < b.length) :
    Calls Tryz.prog 211 #[.int .i64 x, .pointer (some ⟨B, 0, none⟩), .pointer (some ⟨C, 0, none⟩)] w fun e w' => e = .returned (.bool (inB (b.getD x 0 &&& (invB b).getD x 0) (2 ^ x))) ∧ Keeps w w' := by
  have h256 := two8 hb
  have hm := Nat.lt_of_lt_of_le (hbm x) h256
  have hm2 := Nat.lt_of_lt_of_le (invB_lt b x) h256
  obtain ⟨c0, c1⟩ := hc
  obtain ⟨p, cap, rfl, hle, hmx, hat, hlen⟩ := hv
  unfold maxLen at hmx
  obtain ⟨b1, o1, rfl, h1⟩ := hat.int x (by rw [zs_length]; exact hx)
  rw [zs_get, ← getD_get] at h1
  obtain ⟨q, dap, rfl, hle2, hmx2, hat2, hlen2⟩ := hu
  unfold maxLen at hmx2
  obtain ⟨b2, o2, rfl, h2⟩ := hat2.int x (by rw [zs_length, invB_length]; exact hx)
  rw [zs_get, ← getD_get] at h2
  clear hat hat2
  simp only [zs_length, invB_length] at *
  have hx' : (x : Int) < b.length := by omega
  have e1 := (pow63 x (by omega)).1
  have e2 : ((2 ^ x : Nat) : Int) = 2 ^ x := by push_cast; rfl
  have h2x : 2 ^ x < 256 := Nat.lt_of_lt_of_le (Nat.pow_lt_pow_right (by omega) (show x < 8 by omega)) (by omega)
  have had := andN (b.getD x 0) ((invB b).getD x 0) (by omega) (by omega)
  have hal : b.getD x 0 &&& (invB b).getD x 0 < 256 := Nat.lt_of_le_of_lt Nat.and_le_left hm
  have HH := hid (fun w2 => withinB_any (b.getD x 0 &&& (invB b).getD x 0) (2 ^ x) w2 hal h2x)
  rw [e2, ← had] at HH
  generalize b.getD x 0 = m at *
  generalize (invB b).getD x 0 = k at *
  clear e2 had hal h2x hm hm2 h256 hbm
  go_enter Tryz.func211, Tryz.ntmps211
  go_wp2_with fail
  go_quiet (first | (go_at_call 212; refine quietS (HH.out _)))
  go_wp2_with fail
  go_ret
  exact ⟨rfl, (Keeps.refl _).drewN _⟩
theorem enters_hasFlag_7 : Enters 211 := fun _ _ => by kernel_rfl
--
set_option maxRecDepth 20000 in
set_option maxHeartbeats 1000000 in
theorem hasFlag0_any (b : List Nat) (v : Value) (w : World) (hv : Ints w v (zs b)) (hb : b.length ≤ 8) (hbm : Bnd b.length b) :
    Calls Tryz.prog 116 #[.agg #[.int .i64 b.length, v], .int .i64 0] w fun e w' => e = .returned (.bool (reflB b)) ∧ Keeps w w' := by
  have kA := (Keeps.refl w).alloc (.cells #[.int .i64 b.length, v] 109)
  have hbx := BoxF.made w b.length v 109
  have HI := hid (inverse_any b v _ (hv.keeps kA) hb hbm)
  obtain ⟨p, cap, rfl, _⟩ := hv.keeps (Keeps.refl w)
  rw [zs_length] at *
  have HE := hid (fun w1 (k : Keeps (w.alloc (.cells #[.int .i64 b.length, .slice p b.length cap] 109)) w1) => everyWorld_any (fun x => (b.getD x 0).testBit x) 200 #[.pointer (some ⟨w.heap.size, 0, none⟩)] b.length p b.length cap w1 enters_hasFlag_1 hb (fun x w2 hx k2 => hasFlag_1_any b _ _ w.heap.size x w2 (hbx.keeps (k.trans k2)) (hv.keeps (kA.trans (k.trans k2))) hb hbm hx))
  have HR : Hid (reflB b = (List.range b.length).all fun x => (b.getD x 0).testBit x) := hid rfl
  generalize ((List.range b.length).all fun x => (b.getD x 0).testBit x) = r at *
  generalize hn : b.length = n at hbx HI HE kA hv ⊢
  obtain ⟨c0, c1⟩ := hbx
  go_enter Tryz.func116, Tryz.ntmps116
  go_wp2_with fail
  refine HI.out.mono ?_; rintro e w2 ⟨v2, rfl, hv2, k2⟩
  obtain ⟨p2, q2, rfl, _⟩ := hv2.ints (by rw [zs_length, invB_length]; omega)
  have k3 := k2.alloc (.cells #[.slice p2 (zs (invB b)).length q2] 25)
  replace c0 := k3.cell c0
  replace c1 := k3.cell c1
  go_wp2_with fail
  refine (HE.out _ k3).mono ?_; rintro e w3 ⟨rfl, kw3⟩
  go_wp2_with fail
  go_ret
  exact ⟨by rw [HR.out]; rfl, kA.trans (k3.trans kw3)⟩
set_option maxRecDepth 20000 in
set_option maxHeartbeats 1000000 in
theorem hasFlag2_any (b : List Nat) (v : Value) (w : World) (hv : Ints w v (zs b)) (hb : b.length ≤ 8) (hbm : Bnd b.length b) :
    Calls Tryz.prog 116 #[.agg #[.int .i64 b.length, v], .int .i64 2] w fun e w' => e = .returned (.bool (transB b)) ∧ Keeps w w' := by
  have kA := (Keeps.refl w).alloc (.cells #[.int .i64 b.length, v] 109)
  have hbx := BoxF.made w b.length v 109
  have HI := hid (inverse_any b v _ (hv.keeps kA) hb hbm)
  obtain ⟨p, cap, rfl, _⟩ := hv.keeps (Keeps.refl w)
  rw [zs_length] at *
  have HT := hid (fun w1 (k : Keeps (w.alloc (.cells #[.int .i64 b.length, .slice p b.length cap] 109)) w1) => transitive_any b _ w1 (hv.keeps (kA.trans k)) hb hbm)
  have HQ := hid (fun w1 u (k : Keeps (w.alloc (.cells #[.int .i64 b.length, .slice p b.length cap] 109)) w1) (hu : Ints w1 u (zs (wAll b b.length b.length))) => equalI_any _ (zs b) u _ w1 hu (hv.keeps (kA.trans k)))
  have HR := hid (trans_eq b hbm)
  rw [← zs_dec] at HR
  have hlw := wAll_len b b.length b.length
  generalize wAll b b.length b.length = wa at *
  generalize hn : b.length = n at hbx HI HT HQ kA hv hlw ⊢
  obtain ⟨c0, c1⟩ := hbx
  go_enter Tryz.func116, Tryz.ntmps116
  go_wp2_with fail
  refine HI.out.mono ?_; rintro e w2 ⟨v2, rfl, hv2, k2⟩
  obtain ⟨p2, q2, rfl, _⟩ := hv2.ints (by rw [zs_length, invB_length]; omega)
  have k3 := (k2.alloc (.cells #[.slice p2 (zs (invB b)).length q2] 25)).drew
  replace c0 := k3.cell c0
  replace c1 := k3.cell c1
  go_wp2_with fail
  go_region_held3 (fun w' => w'.cell? ⟨w.heap.size, 1, none⟩ = some (.slice p n cap)) (first | exact c1 | exact d1 | exact d2) (first
    | (go_at_call 204; refine (HT.out _ k3).mono ?_; rintro e w4 ⟨v4, rfl, hv4, kw4⟩; obtain ⟨p4, q4, rfl, _⟩ := hv4.ints (by rw [zs_length, hlw]; omega); have d1 := kw4.cell c1)
    | (go_at_call 203; refine (HQ.out w4 _ (k3.trans kw4) (hv4.ints (by rw [zs_length, hlw]; omega))).mono ?_; rintro e w5 ⟨rfl, kw5⟩; have d2 := kw5.cell d1))
  go_wp2_with fail
  go_ret
  exact ⟨by rw [HR.out]; rfl, kA.trans (k3.trans (kw4.trans kw5))⟩
set_option maxRecDepth 20000 in
set_option maxHeartbeats 1000000 in
theorem hasFlag8_any (b : List Nat) (v : Value) (w : World) (hv : Ints w v (zs b)) (hb : b.length ≤ 8) (hbm : Bnd b.length b) :
    Calls Tryz.prog 116 #[.agg #[.int .i64 b.length, v], .int .i64 8] w fun e w' => e = .returned (.bool (antiB b)) ∧ Keeps w w' := by
  have kA := (Keeps.refl w).alloc (.cells #[.int .i64 b.length, v] 109)
  have hbx := BoxF.made w b.length v 109
  have HI := hid (inverse_any b v _ (hv.keeps kA) hb hbm)
  obtain ⟨p, cap, rfl, _⟩ := hv.keeps (Keeps.refl w)
  rw [zs_length] at *
  have HE := hid (fun w1 C u (k : Keeps (w.alloc (.cells #[.int .i64 b.length, .slice p b.length cap] 109)) w1) (hd : w1.cell? ⟨C, 0, none⟩ = some u) (hu : Ints w1 u (zs (invB b))) => everyWorld_any (fun x => inB (b.getD x 0 &&& (invB b).getD x 0) (2 ^ x)) 211 #[.pointer (some ⟨w.heap.size, 0, none⟩), .pointer (some ⟨C, 0, none⟩)] b.length p b.length cap w1 enters_hasFlag_7 hb (fun x w2 hx k2 => hasFlag_7_any b _ _ u w.heap.size C x w2 (hbx.keeps (k.trans k2)) (k2.cell hd) (hv.keeps (kA.trans (k.trans k2))) (hu.keeps k2) hb hbm hx))
  have HR := hid (anti_eq b hbm)
  generalize ((List.range b.length).all fun x => inB (b.getD x 0 &&& (invB b).getD x 0) (2 ^ x)) = r at *
  have hli := invB_length b
  generalize invB b = ib at *
  generalize hn : b.length = n at hbx HI HE kA hv hli ⊢
  obtain ⟨c0, c1⟩ := hbx
  go_enter Tryz.func116, Tryz.ntmps116
  go_wp2_with fail
  refine HI.out.mono ?_; rintro e w2 ⟨v2, rfl, hv2, k2⟩
  have hv2i := hv2.ints (by rw [zs_length]; omega)
  obtain ⟨p2, q2, rfl, _⟩ := hv2.ints (by rw [zs_length]; omega)
  have k3 := k2.alloc (.cells #[.slice p2 (zs ib).length q2] 25)
  have hcb : (w2.alloc (.cells #[.slice p2 (zs ib).length q2] 25)).cell? ⟨w2.heap.size, 0, none⟩ = some (.slice p2 (zs ib).length q2) := by simp
  replace hv2i := hv2i.keeps ((Keeps.refl w2).alloc (.cells #[.slice p2 (zs ib).length q2] 25))
  replace c0 := k3.cell c0
  replace c1 := k3.cell c1
  go_wp2_with fail
  refine (HE.out _ w2.heap.size _ k3 hcb hv2i).mono ?_; rintro e w3 ⟨rfl, kw3⟩
  go_wp2_with fail
  go_ret
  exact ⟨by rw [HR.out]; rfl, kA.trans (k3.trans kw3)⟩
end Go.Proofs.YtponaoefpicfpaaGreatDoor
/- Plain mathematics: the least forms of posets with up to four elements, made in two ways (printed by mkpk.py). -/
namespace Go.Proofs.YtponaoefpicfpaaGreatDoor
/-- one list of numbers is ahead of another one -/
def lessL : List Nat → List Nat → Bool
  | [], [] => false
  | [], _ :: _ => true
  | _ :: _, [] => false
  | x :: a, y :: b => if x = y then lessL a b else decide (x < y)
theorem lessL_irr : ∀ a, lessL a a = false
  | [] => rfl
  | x :: a => by rw [lessL, if_pos rfl, lessL_irr a]
theorem lessL_trans : ∀ {a b c : List Nat}, lessL a b = true → lessL b c = true → lessL a c = true
  | [], [], _, h, _ => by cases h
  | [], _ :: _, [], _, h => by cases h
  | [], _ :: _, _ :: _, _, _ => rfl
  | _ :: _, [], _, h, _ => by cases h
  | _ :: _, _ :: _, [], _, h => by cases h
  | x :: a, y :: b, z :: c, h1, h2 => by
    rw [lessL] at h1 h2 ⊢
    by_cases e1 : x = y
    · rw [if_pos e1] at h1
      subst e1
      by_cases e2 : x = z
      · rw [if_pos e2] at h2 ⊢
        exact lessL_trans h1 h2
      · rw [if_neg e2] at h2 ⊢
        exact h2
    · rw [if_neg e1, decide_eq_true_eq] at h1
      by_cases e2 : y = z
      · subst e2
        rw [if_neg e1, decide_eq_true_eq]
        exact h1
      · rw [if_neg e2, decide_eq_true_eq] at h2
        rw [if_neg (by omega), decide_eq_true_eq]
        omega
theorem lessL_tri : ∀ a b : List Nat, lessL a b = true ∨ a = b ∨ lessL b a = true
  | [], [] => .inr (.inl rfl)
  | [], _ :: _ => .inl rfl
  | _ :: _, [] => .inr (.inr rfl)
  | x :: a, y :: b => by
    rw [lessL, lessL]
    by_cases e : x = y
    · subst e
      rw [if_pos rfl, if_pos rfl]
      rcases lessL_tri a b with h | h | h
      · exact .inl h
      · exact .inr (.inl (by rw [h]))
      · exact .inr (.inr h)
    · rw [if_neg e, if_neg (Ne.symm e), decide_eq_true_eq, decide_eq_true_eq]
      rcases Nat.lt_or_gt_of_ne e with h | h
      · exact .inl h
      · exact .inr (.inr h)
/-- strictly ascending lists -/
def AscL (l : List (List Nat)) : Prop := l.Pairwise (fun a b => lessL a b = true)
def insL (x : List Nat) : List (List Nat) → List (List Nat)
  | [] => [x]
  | y :: l => if lessL x y then x :: y :: l else if x = y then y :: l else y :: insL x l
def sortU (l : List (List Nat)) : List (List Nat) := l.foldl (fun s x => insL x s) []
theorem insL_mem (x u : List Nat) : ∀ l, u ∈ insL x l ↔ u = x ∨ u ∈ l
  | [] => by simp [insL]
  | y :: l => by
    rw [insL]
    by_cases h : lessL x y = true
    · rw [if_pos h]; simp
    · rw [if_neg h]
      by_cases e : x = y
      · rw [if_pos e]; subst e; simp
      · rw [if_neg e, List.mem_cons, insL_mem x u l, List.mem_cons]
        exact ⟨fun h => by rcases h with h | h | h <;> simp [h], fun h => by rcases h with h | h | h <;> simp [h]⟩
theorem insL_asc (x : List Nat) : ∀ l, AscL l → AscL (insL x l)
  | [], _ => by unfold AscL insL; simp
  | y :: l, h => by
    have h' := List.pairwise_cons.1 h
    rw [insL]
    by_cases h1 : lessL x y = true
    · rw [if_pos h1]
      refine List.pairwise_cons.2 ⟨fun u hu => ?_, h⟩
      rcases List.mem_cons.1 hu with e | e
      · rw [e]; exact h1
      · exact lessL_trans h1 (h'.1 u e)
    · rw [if_neg h1]
      by_cases e : x = y
      · rw [if_pos e]; exact h
      · rw [if_neg e]
        refine List.pairwise_cons.2 ⟨fun u hu => ?_, insL_asc x l h'.2⟩
        rcases (insL_mem x u l).1 hu with e2 | e2
        · subst e2
          rcases lessL_tri u y with h2 | h2 | h2
          · exact absurd h2 h1
          · exact absurd h2 e
          · exact h2
        · exact h'.1 u e2
theorem foldl_insL_asc : ∀ (l s : List (List Nat)), AscL s → AscL (l.foldl (fun s x => insL x s) s)
  | [], _, h => h
  | x :: l, s, h => foldl_insL_asc l _ (insL_asc x s h)
theorem foldl_insL_mem (u : List Nat) : ∀ (l s : List (List Nat)), u ∈ l.foldl (fun s x => insL x s) s ↔ u ∈ l ∨ u ∈ s
  | [], s => by simp
  | x :: l, s => by
    rw [List.foldl_cons, foldl_insL_mem u l, insL_mem, List.mem_cons]
    exact ⟨fun h => by rcases h with h | h | h <;> simp [h], fun h => by rcases h with (h | h) | h <;> simp [h]⟩
theorem sortU_asc (l : List (List Nat)) : AscL (sortU l) := foldl_insL_asc l [] List.Pairwise.nil
theorem sortU_mem {u : List Nat} {l : List (List Nat)} : u ∈ sortU l ↔ u ∈ l := by
  unfold sortU
  rw [foldl_insL_mem]
  simp
theorem ascL_ext : ∀ {a b : List (List Nat)}, AscL a → AscL b → (∀ u, u ∈ a ↔ u ∈ b) → a = b
  | [], [], _, _, _ => rfl
  | [], y :: b, _, _, h => absurd ((h y).2 (by simp)) (by simp)
  | x :: a, [], _, _, h => absurd ((h x).1 (by simp)) (by simp)
  | x :: a, y :: b, h1, h2, h => by
    have g1 := List.pairwise_cons.1 h1
    have g2 := List.pairwise_cons.1 h2
    have hxy : x = y := by
      rcases List.mem_cons.1 ((h x).1 (by simp)) with e | e
      · exact e
      · rcases List.mem_cons.1 ((h y).2 (by simp)) with e2 | e2
        · exact e2.symm
        · have := lessL_trans (g1.1 y e2) (g2.1 x e)
          rw [lessL_irr] at this; cases this
    subst hxy
    rw [ascL_ext g1.2 g2.2 fun u => ?_]
    constructor
    · intro hu
      rcases List.mem_cons.1 ((h u).1 (List.mem_cons_of_mem _ hu)) with e | e
      · subst e
        have := g1.1 u hu
        rw [lessL_irr] at this; cases this
      · exact e
    · intro hu
      rcases List.mem_cons.1 ((h u).2 (List.mem_cons_of_mem _ hu)) with e | e
      · subst e
        have := g2.1 u hu
        rw [lessL_irr] at this; cases this
      · exact e
/-- what is strictly ascending and has the members of a list is that list, sorted -/
theorem sortU_of {a l : List (List Nat)} (h : AscL a) (hm : ∀ u, u ∈ a ↔ u ∈ l) : a = sortU l := ascL_ext h (sortU_asc l) fun u => (hm u).trans sortU_mem.symm
/-- all orders of the numbers below n that go on from one, in the way of a search in depth -/
def growP (n : Nat) : Nat → List Nat → List (List Nat)
  | 0, o => [o]
  | f + 1, o => ((List.range n).filter fun i => !o.contains i).flatMap fun i => growP n f (o ++ [i])
def permP (n : Nat) : List (List Nat) := growP n n []
/-- the same orders, made by rounds -/
def roundP (n : Nat) : Nat → List (List Nat)
  | 0 => [[]]
  | k + 1 => (roundP n k).flatMap fun o => ((List.range n).filter fun i => !o.contains i).map fun i => o ++ [i]
/-- a mask's numbers in an order -/
def sqz (o : List Nat) (m : Nat) : Nat → Nat
  | 0 => 0
  | k + 1 => sqz o m k ||| (if m.testBit (o.getD k 0) then 2 ^ k else 0)
def renP (a o : List Nat) : List Nat := o.map fun x => sqz o (a.getD x 0) o.length
/-- the least relation -/
def leastP (a : List Nat) : List Nat := (permP a.length).foldl (fun best o => if lessL (renP a o) best then renP a o else best) a
/-- a number's rows -/
def repP (n k : Nat) : List Nat := (List.range n).map fun x => k >>> (x * n) &&& (2 ^ n - 1)
/-- the program's codes, from a number on -/
def codP (n lo cnt : Nat) : List (List Nat) := (((List.range' lo cnt).map (repP n)).filter posB).map leastP
/-- the reference's lists of masks -/
def lisR (n : Nat) : Nat → List (List Nat)
  | 0 => [[]]
  | x + 1 => (lisR n x).flatMap fun l => ((List.range (2 ^ n)).filter fun m => m.testBit x).map fun m => l ++ [m]
def allR (n : Nat) : List (List Nat) := (lisR n n).filter fun p => posB p && leastP p == p
theorem codP_add (n lo a b : Nat) : codP n lo (a + b) = codP n lo a ++ codP n (lo + a) b := by
  unfold codP
  rw [← List.map_append, ← List.filter_append, ← List.map_append, ← List.range'_append_1]
set_option maxRecDepth 100000 in
theorem perm_rounds : ∀ n, n ≤ 4 → permP n = roundP n n := by
  intro n hn
  have : n = 0 ∨ n = 1 ∨ n = 2 ∨ n = 3 ∨ n = 4 := by omega
  rcases this with rfl | rfl | rfl | rfl | rfl <;> decide +kernel
set_option maxRecDepth 100000 in
theorem posets_0 : allR 0 = [[]] := by decide +kernel
set_option maxRecDepth 100000 in
theorem posets_1 : sortU (codP 1 0 2) = allR 1 := by decide +kernel
set_option maxRecDepth 100000 in
theorem posets_2 : sortU (codP 2 0 16) = allR 2 := by decide +kernel
set_option maxRecDepth 100000 in
theorem posets_3 : sortU (codP 3 0 512) = allR 3 := by decide +kernel
def pos4 : List (List Nat) := [[1, 2, 4, 8], [1, 2, 4, 9], [1, 2, 4, 11], [1, 2, 4, 15], [1, 2, 5, 9], [1, 2, 5, 10], [1, 2, 5, 11], [1, 2, 5, 13], [1, 2, 5, 15], [1, 2, 7, 11], [1, 2, 7, 15], [1, 3, 5, 9], [1, 3, 5, 11], [1, 3, 5, 15], [1, 3, 7, 11], [1, 3, 7, 15]]
set_option maxRecDepth 100000 in
theorem posets_r4 : allR 4 = pos4 := by decide +kernel
set_option maxRecDepth 100000 in
theorem posets_c0 : (codP 4 0 4096).foldl (fun s x => insL x s) [] = [] := by decide +kernel
set_option maxRecDepth 100000 in
theorem posets_c1 : (codP 4 4096 4096).foldl (fun s x => insL x s) [] = [] := by decide +kernel
set_option maxRecDepth 100000 in
theorem posets_c2 : (codP 4 8192 4096).foldl (fun s x => insL x s) [] = [] := by decide +kernel
set_option maxRecDepth 100000 in
theorem posets_c3 : (codP 4 12288 4096).foldl (fun s x => insL x s) [] = [] := by decide +kernel
set_option maxRecDepth 100000 in
theorem posets_c4 : (codP 4 16384 4096).foldl (fun s x => insL x s) [] = [] := by decide +kernel
set_option maxRecDepth 100000 in
theorem posets_c5 : (codP 4 20480 4096).foldl (fun s x => insL x s) [] = [] := by decide +kernel
set_option maxRecDepth 100000 in
theorem posets_c6 : (codP 4 24576 4096).foldl (fun s x => insL x s) [] = [] := by decide +kernel
set_option maxRecDepth 100000 in
theorem posets_c7 : (codP 4 28672 4096).foldl (fun s x => insL x s) [] = [] := by decide +kernel
set_option maxRecDepth 100000 in
theorem posets_c8 : (codP 4 32768 4096).foldl (fun s x => insL x s) [] = [[1, 2, 4, 8], [1, 2, 4, 9], [1, 2, 4, 11], [1, 2, 4, 15], [1, 2, 5, 9], [1, 2, 5, 10], [1, 2, 5, 11], [1, 2, 5, 13], [1, 2, 5, 15], [1, 2, 7, 11], [1, 2, 7, 15], [1, 3, 5, 9], [1, 3, 5, 11], [1, 3, 5, 15], [1, 3, 7, 11], [1, 3, 7, 15]] := by decide +kernel
set_option maxRecDepth 100000 in
theorem posets_c9 : (codP 4 36864 4096).foldl (fun s x => insL x s) [[1, 2, 4, 8], [1, 2, 4, 9], [1, 2, 4, 11], [1, 2, 4, 15], [1, 2, 5, 9], [1, 2, 5, 10], [1, 2, 5, 11], [1, 2, 5, 13], [1, 2, 5, 15], [1, 2, 7, 11], [1, 2, 7, 15], [1, 3, 5, 9], [1, 3, 5, 11], [1, 3, 5, 15], [1, 3, 7, 11], [1, 3, 7, 15]] = [[1, 2, 4, 8], [1, 2, 4, 9], [1, 2, 4, 11], [1, 2, 4, 15], [1, 2, 5, 9], [1, 2, 5, 10], [1, 2, 5, 11], [1, 2, 5, 13], [1, 2, 5, 15], [1, 2, 7, 11], [1, 2, 7, 15], [1, 3, 5, 9], [1, 3, 5, 11], [1, 3, 5, 15], [1, 3, 7, 11], [1, 3, 7, 15]] := by decide +kernel
set_option maxRecDepth 100000 in
theorem posets_c10 : (codP 4 40960 4096).foldl (fun s x => insL x s) [[1, 2, 4, 8], [1, 2, 4, 9], [1, 2, 4, 11], [1, 2, 4, 15], [1, 2, 5, 9], [1, 2, 5, 10], [1, 2, 5, 11], [1, 2, 5, 13], [1, 2, 5, 15], [1, 2, 7, 11], [1, 2, 7, 15], [1, 3, 5, 9], [1, 3, 5, 11], [1, 3, 5, 15], [1, 3, 7, 11], [1, 3, 7, 15]] = [[1, 2, 4, 8], [1, 2, 4, 9], [1, 2, 4, 11], [1, 2, 4, 15], [1, 2, 5, 9], [1, 2, 5, 10], [1, 2, 5, 11], [1, 2, 5, 13], [1, 2, 5, 15], [1, 2, 7, 11], [1, 2, 7, 15], [1, 3, 5, 9], [1, 3, 5, 11], [1, 3, 5, 15], [1, 3, 7, 11], [1, 3, 7, 15]] := by decide +kernel
set_option maxRecDepth 100000 in
theorem posets_c11 : (codP 4 45056 4096).foldl (fun s x => insL x s) [[1, 2, 4, 8], [1, 2, 4, 9], [1, 2, 4, 11], [1, 2, 4, 15], [1, 2, 5, 9], [1, 2, 5, 10], [1, 2, 5, 11], [1, 2, 5, 13], [1, 2, 5, 15], [1, 2, 7, 11], [1, 2, 7, 15], [1, 3, 5, 9], [1, 3, 5, 11], [1, 3, 5, 15], [1, 3, 7, 11], [1, 3, 7, 15]] = [[1, 2, 4, 8], [1, 2, 4, 9], [1, 2, 4, 11], [1, 2, 4, 15], [1, 2, 5, 9], [1, 2, 5, 10], [1, 2, 5, 11], [1, 2, 5, 13], [1, 2, 5, 15], [1, 2, 7, 11], [1, 2, 7, 15], [1, 3, 5, 9], [1, 3, 5, 11], [1, 3, 5, 15], [1, 3, 7, 11], [1, 3, 7, 15]] := by decide +kernel
set_option maxRecDepth 100000 in
theorem posets_c12 : (codP 4 49152 4096).foldl (fun s x => insL x s) [[1, 2, 4, 8], [1, 2, 4, 9], [1, 2, 4, 11], [1, 2, 4, 15], [1, 2, 5, 9], [1, 2, 5, 10], [1, 2, 5, 11], [1, 2, 5, 13], [1, 2, 5, 15], [1, 2, 7, 11], [1, 2, 7, 15], [1, 3, 5, 9], [1, 3, 5, 11], [1, 3, 5, 15], [1, 3, 7, 11], [1, 3, 7, 15]] = [[1, 2, 4, 8], [1, 2, 4, 9], [1, 2, 4, 11], [1, 2, 4, 15], [1, 2, 5, 9], [1, 2, 5, 10], [1, 2, 5, 11], [1, 2, 5, 13], [1, 2, 5, 15], [1, 2, 7, 11], [1, 2, 7, 15], [1, 3, 5, 9], [1, 3, 5, 11], [1, 3, 5, 15], [1, 3, 7, 11], [1, 3, 7, 15]] := by decide +kernel
set_option maxRecDepth 100000 in
theorem posets_c13 : (codP 4 53248 4096).foldl (fun s x => insL x s) [[1, 2, 4, 8], [1, 2, 4, 9], [1, 2, 4, 11], [1, 2, 4, 15], [1, 2, 5, 9], [1, 2, 5, 10], [1, 2, 5, 11], [1, 2, 5, 13], [1, 2, 5, 15], [1, 2, 7, 11], [1, 2, 7, 15], [1, 3, 5, 9], [1, 3, 5, 11], [1, 3, 5, 15], [1, 3, 7, 11], [1, 3, 7, 15]] = [[1, 2, 4, 8], [1, 2, 4, 9], [1, 2, 4, 11], [1, 2, 4, 15], [1, 2, 5, 9], [1, 2, 5, 10], [1, 2, 5, 11], [1, 2, 5, 13], [1, 2, 5, 15], [1, 2, 7, 11], [1, 2, 7, 15], [1, 3, 5, 9], [1, 3, 5, 11], [1, 3, 5, 15], [1, 3, 7, 11], [1, 3, 7, 15]] := by decide +kernel
set_option maxRecDepth 100000 in
theorem posets_c14 : (codP 4 57344 4096).foldl (fun s x => insL x s) [[1, 2, 4, 8], [1, 2, 4, 9], [1, 2, 4, 11], [1, 2, 4, 15], [1, 2, 5, 9], [1, 2, 5, 10], [1, 2, 5, 11], [1, 2, 5, 13], [1, 2, 5, 15], [1, 2, 7, 11], [1, 2, 7, 15], [1, 3, 5, 9], [1, 3, 5, 11], [1, 3, 5, 15], [1, 3, 7, 11], [1, 3, 7, 15]] = [[1, 2, 4, 8], [1, 2, 4, 9], [1, 2, 4, 11], [1, 2, 4, 15], [1, 2, 5, 9], [1, 2, 5, 10], [1, 2, 5, 11], [1, 2, 5, 13], [1, 2, 5, 15], [1, 2, 7, 11], [1, 2, 7, 15], [1, 3, 5, 9], [1, 3, 5, 11], [1, 3, 5, 15], [1, 3, 7, 11], [1, 3, 7, 15]] := by decide +kernel
set_option maxRecDepth 100000 in
theorem posets_c15 : (codP 4 61440 4096).foldl (fun s x => insL x s) [[1, 2, 4, 8], [1, 2, 4, 9], [1, 2, 4, 11], [1, 2, 4, 15], [1, 2, 5, 9], [1, 2, 5, 10], [1, 2, 5, 11], [1, 2, 5, 13], [1, 2, 5, 15], [1, 2, 7, 11], [1, 2, 7, 15], [1, 3, 5, 9], [1, 3, 5, 11], [1, 3, 5, 15], [1, 3, 7, 11], [1, 3, 7, 15]] = [[1, 2, 4, 8], [1, 2, 4, 9], [1, 2, 4, 11], [1, 2, 4, 15], [1, 2, 5, 9], [1, 2, 5, 10], [1, 2, 5, 11], [1, 2, 5, 13], [1, 2, 5, 15], [1, 2, 7, 11], [1, 2, 7, 15], [1, 3, 5, 9], [1, 3, 5, 11], [1, 3, 5, 15], [1, 3, 7, 11], [1, 3, 7, 15]] := by decide +kernel
theorem posets_4 : sortU (codP 4 0 65536) = allR 4 := by
  rw [posets_r4]
  unfold sortU
  rw [show codP 4 0 65536 = codP 4 0 4096 ++ codP 4 4096 61440 from codP_add 4 0 4096 61440, List.foldl_append, posets_c0]
  rw [show codP 4 4096 61440 = codP 4 4096 4096 ++ codP 4 8192 57344 from codP_add 4 4096 4096 57344, List.foldl_append, posets_c1]
  rw [show codP 4 8192 57344 = codP 4 8192 4096 ++ codP 4 12288 53248 from codP_add 4 8192 4096 53248, List.foldl_append, posets_c2]
  rw [show codP 4 12288 53248 = codP 4 12288 4096 ++ codP 4 16384 49152 from codP_add 4 12288 4096 49152, List.foldl_append, posets_c3]
  rw [show codP 4 16384 49152 = codP 4 16384 4096 ++ codP 4 20480 45056 from codP_add 4 16384 4096 45056, List.foldl_append, posets_c4]
  rw [show codP 4 20480 45056 = codP 4 20480 4096 ++ codP 4 24576 40960 from codP_add 4 20480 4096 40960, List.foldl_append, posets_c5]
  rw [show codP 4 24576 40960 = codP 4 24576 4096 ++ codP 4 28672 36864 from codP_add 4 24576 4096 36864, List.foldl_append, posets_c6]
  rw [show codP 4 28672 36864 = codP 4 28672 4096 ++ codP 4 32768 32768 from codP_add 4 28672 4096 32768, List.foldl_append, posets_c7]
  rw [show codP 4 32768 32768 = codP 4 32768 4096 ++ codP 4 36864 28672 from codP_add 4 32768 4096 28672, List.foldl_append, posets_c8]
  rw [show codP 4 36864 28672 = codP 4 36864 4096 ++ codP 4 40960 24576 from codP_add 4 36864 4096 24576, List.foldl_append, posets_c9]
  rw [show codP 4 40960 24576 = codP 4 40960 4096 ++ codP 4 45056 20480 from codP_add 4 40960 4096 20480, List.foldl_append, posets_c10]
  rw [show codP 4 45056 20480 = codP 4 45056 4096 ++ codP 4 49152 16384 from codP_add 4 45056 4096 16384, List.foldl_append, posets_c11]
  rw [show codP 4 49152 16384 = codP 4 49152 4096 ++ codP 4 53248 12288 from codP_add 4 49152 4096 12288, List.foldl_append, posets_c12]
  rw [show codP 4 53248 12288 = codP 4 53248 4096 ++ codP 4 57344 8192 from codP_add 4 53248 4096 8192, List.foldl_append, posets_c13]
  rw [show codP 4 57344 8192 = codP 4 57344 4096 ++ codP 4 61440 4096 from codP_add 4 57344 4096 4096, List.foldl_append, posets_c14]
  exact posets_c15
/-- both ways make the same posets -/
theorem posets_eq : ∀ n, n ≤ 4 → 1 ≤ n → sortU (codP n 0 (2 ^ (n * n))) = allR n := by
  intro n hn h1
  have : n = 1 ∨ n = 2 ∨ n = 3 ∨ n = 4 := by omega
  rcases this with rfl | rfl | rfl | rfl
  · exact posets_1
  · exact posets_2
  · exact posets_3
  · exact posets_4
end Go.Proofs.YtponaoefpicfpaaGreatDoor
