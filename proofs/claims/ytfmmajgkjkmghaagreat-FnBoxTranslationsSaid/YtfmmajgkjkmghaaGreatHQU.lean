import Derived.Test.YtfmmajgkjkmghaaGreatHPD
import Derived.Test.YtfmmajgkjkmghaaGreatHQJ
import Derived.Deep.CutBlock
import Derived.Deep.DeepCutAuto
import Derived.Deep.RegionWith
import Derived.Test.YtfmmajgkjkmghaaGreatHTU
import Derived.Deep.RegionHeld3
import Derived.Laws.CopyOwn
import Derived.Deep.RegionLaw
/- The quotient of a preorder: both sides. -/
namespace Go.Proofs.YtfmmajgkjkmghaaGreat
open Go.RowKit
def maxTo (c : List Nat) : Nat → Nat
 | 0 => 0
 | i + 1 => max (maxTo c i) (c.getD i 0)
theorem maxTo_le {c : List Nat} {n : Nat} : ∀ k, (∀ i, i < k → c.getD i 0 < n) → 0 < n → maxTo c k < n
 | 0, _, h => h
 | k + 1, h, h0 => by
  have h1 := maxTo_le k (fun i hi => h i (by omega)) h0
  have h2 := h k (by omega)
  unfold maxTo
  omega
theorem le_maxTo {c : List Nat} : ∀ {k i : Nat}, i < k → c.getD i 0 ≤ maxTo c k
 | 0, i, h => by omega
 | k + 1, i, h => by
  unfold maxTo
  by_cases e : i = k
  ·subst e; omega
  ·have := le_maxTo (c := c) (show i < k by omega); omega
theorem clB_count {b : List Nat} (h : 0 < b.length) : maxTo (clB b) b.length + 1 = (clS b b.length).2 := by
 obtain ⟨i, hi, he⟩ := clB_max h
 have h1 := maxTo_le (c := clB b) b.length (fun i hi => clB_lt b i hi) (by omega)
 have h2 := le_maxTo (c := clB b) hi
 omega
set_option maxRecDepth 20000 in
theorem maxI_any (c : List Nat) (v : Value) (w : World) (hv : Ints w v (zs c)) (hc : 0 < c.length) (hcl : ∀ i, c.getD i 0 < 256) (h8 : c.length ≤ 8) :
  Calls Tryz.prog 180 #[v] w fun e w' => e = .returned (.int .i64 (maxTo c c.length)) ∧ w = w' := by
 have hv0 := hv
 obtain ⟨p, cap, rfl, hle, hmx, _, _⟩ := hv
 unfold maxLen at hmx
 rw [zs_length] at *
 have HM := hid (fun k => maxTo_le (c := c) (n := 256) k (fun i _ => hcl i) (by omega))
 have HCL := hid hcl
 have h1' : ¬ ((c.length : Int) < 1) := by omega
 obtain ⟨b0, o0, rfl, hz⟩ := hv0.zs_cell 0 hc
 have hm1 : maxTo c 1 = c.getD 0 0 := by simp [maxTo]
 rw [Nat.add_zero, ← hm1] at hz
 clear hcl
 have HM1 := hid hm1; clear hm1
 go_enter Tryz.func180, Tryz.ntmps180
 go_wp2
 go_loop [3, 4] (fun o i' => ∃ i : Nat, 1 ≤ i ∧ i ≤ c.length ∧ i' = .int .i64 i ∧ o = .int .i64 (maxTo c i)) (fun _ i => c.length - (intOf i).toNat)
 case atStart => exact ⟨1, by omega, by omega, rfl, rfl⟩
 case round =>
  obtain ⟨i, h1, hi, rfl, rfl⟩ := hrel
  by_cases hlt : i < c.length
  ·obtain ⟨b1, o1, e1, h2⟩ := hv0.zs_cell i hlt
   cases e1
   have hlt' : (i : Int) < c.length := by omega
   have hs : ((maxTo c (i + 1) : Nat) : Int) = max ((maxTo c i : Nat) : Int) ((c.getD i 0 : Nat) : Int) := by
    show ((max (maxTo c i) (c.getD i 0) : Nat) : Int) = _
    omega
   have HS := hid hs; clear hs
   clear hz
   generalize c.getD i 0 = x at *
   generalize maxTo c i = z at *
   go_wp2
   go_round
   case rel => exact ⟨i + 1, by omega, by omega, by go_num, by rw [HS.out]; first | rfl | (congr 1; omega)⟩
   case measure => simp [intOf]; omega
  ·obtain rfl : i = c.length := by omega
   have hlt' : ¬ (c.length : Int) < c.length := by omega
   clear hz
   go_wp2
   go_ret
   exact ⟨rfl, rfl⟩
set_option maxRecDepth 20000 in
theorem classCount_any (b : List Nat) (v : Value) (w : World) (hv : Ints w v (zs (clB b))) (hb : b.length ≤ 8) :
  Calls Tryz.prog 135 #[v] w fun e w' => e = .returned (.int .i64 ((clS b b.length).2 : Nat)) ∧ w = w' := by
 have hl := clB_len b
 have hle := clS_le b b.length
 rcases Nat.eq_zero_or_pos b.length with hz | hpos
 ·have hc : (clS b b.length).2 = 0 := by omega
  obtain ⟨p, cap, rfl, _⟩ := hv
  rw [zs_length, hl, hz, ← hz, hc]
  rw [hz]
  clear hc hle hl
  go_enter Tryz.func135, Tryz.ntmps135
  go_wp2
  go_ret
  exact ⟨rfl, rfl⟩
 ·have hc := clB_count hpos
  have hall : ∀ i, (clB b).getD i 0 < 256 := fun i => by
   by_cases hi : i < b.length
   ·have := clB_lt b i hi; omega
   ·rw [List.getD_eq_getElem?_getD, List.getElem?_eq_none (by rw [hl]; omega)]; simp
  have HM := hid (maxI_any (clB b) v w hv (by omega) hall (by omega))
  rw [hl] at HM
  have hb2 := maxTo_le (c := clB b) (n := 256) b.length (fun i _ => hall i) (by omega)
  obtain ⟨p, cap, rfl, _⟩ := hv
  rw [zs_length, hl] at *
  have hne : ((b.length : Int) == 0) = false := by rw [beq_eq_false_iff_ne]; omega
  have HC := hid hc
  clear hc hall hle hl
  generalize maxTo (clB b) b.length = M at *
  go_enter Tryz.func135, Tryz.ntmps135
  go_wp2_with fail
  refine HM.out.mono ?_; rintro e w' ⟨rfl, rfl⟩
  go_wp2_with fail
  go_ret
  exact ⟨ret_int (by rw [← HC.out]; push_cast; rfl), rfl⟩
theorem mapM_lt (b : List Nat) (_hb : b.length ≤ 8) {m : Nat} (hm : m < 2 ^ b.length) : mapM (clB b) m < 2 ^ b.length := by
 unfold mapM
 refine foldM_lt _ (fun x hx => ?_)
 have h1 := clB_lt b x (memB_lt hm hx)
 have h2 := clS_le b b.length
 omega
theorem clB_lt8 {b : List Nat} (hb : b.length ≤ 8) : ∀ i, i < (clB b).length → (clB b).getD i 0 < 8 := fun i hi => by
 have h1 := clB_lt b i (by rw [clB_len] at hi; exact hi)
 have h2 := clS_le b b.length
 omega
theorem qRow_bnd {b : List Nat} (hb : b.length ≤ 8) (hbm : Bnd b.length b) (k : Nat) (i : Nat) : (qRow b k).getD i 0 < 2 ^ b.length := by
 have hq : ∀ k i, (qL b k).getD i 0 < 2 ^ b.length := by
  intro k
  induction k with
  | zero => intro i; simp [qL]; exact Nat.two_pow_pos _
  | succ k ih =>
   intro i
   cases e : fstE b k k with
   | some y => rw [qL_some e]; exact ih i
   | none =>
    rw [qL_none e, getD_snoc]
    split
    ·exact ih i
    ·split
     ·exact mapM_lt b hb (hbm k)
     ·exact Nat.two_pow_pos _
 unfold qRow
 by_cases h : i < (qL b k).length
 ·rw [getD_appL h]; exact hq k i
 ·rw [List.getD_eq_getElem?_getD, List.getElem?_append_right (by omega)]
  rcases Nat.lt_or_ge (i - (qL b k).length) ((clS b b.length).2 - (clS b k).2) with h2 | h2
  ·simp [h2]; exact Nat.two_pow_pos _
  ·rw [List.getElem?_eq_none (by simp; omega)]; exact Nat.two_pow_pos _
set_option maxRecDepth 20000 in
set_option maxHeartbeats 4000000 in
theorem quotient_any (b : List Nat) (v u : Value) (w : World) (hv : Ints w v (zs b)) (hu : Ints w u (zs (clB b))) (hb : b.length ≤ 8) (hbm : Bnd b.length b) (ht : transB b = true) :
  Calls Tryz.prog 60 #[v, u] w (RetI w (zs (qL b b.length))) := by
 have hv0 := hv
 have hu0 := hu
 have hl := clB_len b
 have h256 := two8 hb
 have HCC := hid (classCount_any b u w hu hb)
 have HMM := hid (fun k wz (k' : Keeps w wz) => mapMask_any (clB b) (b.getD k 0) u wz (hu.keeps k') (by rw [hl]; exact hb) (clB_lt8 hb) (by rw [hl]; exact hbm k))
 have HN : Hid (∀ i, b.getD i 0 < 2 ^ b.length) := hid hbm
 have HQB := hid (qRow_bnd hb hbm)
 have HST := hid (fun k (hk : k < b.length) => qRow_step hbm ht hk)
 have HML := hid (fun k => mapM_lt b hb (hbm k))
 have HCL := hid (fun i (hi : i < b.length) => clB_lt b i hi)
 have hle := clS_le b b.length
 have HQL := hid (fun k (hk : k ≤ b.length) => qRow_len hk)
 have HEND := hid (qRow_end b)
 have h0 := qRow_start b
 obtain ⟨wm, hmk, hown0, km⟩ := run_makeI w (clS b b.length).2 (by omega)
 have h00 : List.replicate (clS b b.length).2 (0 : Int) = zs (qRow b 0) := by rw [h0, zs_rep]
 rw [h00] at hown0
 clear h0 h00
 have HO := hid hown0; clear hown0
 have KM := hid km; clear km
 obtain ⟨p, cap, rfl, _, hmx, _, _⟩ := hv
 obtain ⟨q, cap2, rfl, _, hmx2, _, _⟩ := hu
 unfold maxLen at hmx hmx2
 rw [zs_length b] at *
 rw [show (zs (clB b)).length = b.length by rw [zs_length, hl]] at *
 generalize hC : (clS b b.length).2 = C at *
 have HCe := hid hC
 clear hbm ht hC hl
 go_enter Tryz.func60, Tryz.ntmps60
 go_wp2_with fail
 refine HCC.out.mono ?_; rintro e w' ⟨rfl, rfl⟩
 go_wp2
 clear hmk
 go_loopw [13] (fun i' wr => ∃ k : Nat, k ≤ b.length ∧ i' = .int .i64 k ∧ OwnI wr w.heap.size (.slice (some ⟨w.heap.size, 0, none⟩) C C) (zs (qRow b k)) ∧ Keeps w wr) (fun i' _ => b.length - (intOf i').toNat)
 case atStart => exact ⟨0, by omega, rfl, HO.out, KM.out⟩
 case round =>
  obtain ⟨k, hk, rfl, hown, kw⟩ := hrel
  clear HO KM
  by_cases hlt : k < b.length
  ·have hlt' : (k : Int) < b.length := by omega
   have hlr := HQL.out k hk
   obtain ⟨b1, o1, rfl, h1⟩ := (hv0.keeps kw).zs_cell k hlt
   obtain ⟨b2, o2, rfl, h2⟩ := (hu0.keeps kw).zs_cell k (by rw [clB_len]; exact hlt)
   have hy := HCL.out k hlt
   obtain ⟨co, fo⟩ := hown.cell ((clB b).getD k 0) (by rw [zs_length, hlr]; exact hy)
   rw [zs_get, ← getD_get] at co
   have hb1 := HQB.out k ((clB b).getD k 0)
   have hb2 := HML.out k
   have hor := orN ((qRow b k).getD ((clB b).getD k 0) 0) (mapM (clB b) (b.getD k 0)) (by omega) (by omega)
   have hst := HST.out k hlt
   have HSS := hid (fun wz (k' : Keeps wr wz) => by
    have := OwnI.store (hown.keeps k') ((clB b).getD k 0) (by rw [zs_length, hlr]; exact hy) (((qRow b k).getD ((clB b).getD k 0) 0 ||| mapM (clB b) (b.getD k 0) : Nat) : Int)
    rw [← zs_set, hst, ← hor] at this
    exact this)
   have HMK := hid (fun wz (k' : Keeps wr wz) => HMM.out k wz (kw.trans k'))
   have HKW := hid (fun w2 (k' : Keeps wr w2) w3 (g : w2.grownBy w3 (some w.heap.size)) => (kw.trans k').grown g (fun i e => by cases e; exact Nat.le_refl _))
   have hy' : (((clB b).getD k 0 : Nat) : Int) < C := by omega
   have kr := Keeps.refl wr
   have kr1 := kr.drew
   have z2 := kr1.cell h2
   have zo := kr1.cell co
   have zf : wr.drew.frozen? ⟨w.heap.size, (clB b).getD k 0, none⟩ = false := fo
   clear hst hown hb1 hb2 hlr hor
   generalize mapM (clB b) (b.getD k 0) = M at *
   generalize b.getD k 0 = bk at *
   generalize (qRow b k).getD ((clB b).getD k 0) 0 = y0 at *
   generalize (clB b).getD k 0 = y at *
   go_wp2_with fail
   go_region_with (first | (go_at_call 57; refine (HMK.out _ ?_).mono ?_; (first | exact kr1 | exact kr); rintro e w2 ⟨rfl, k2⟩; have y2 := k2.cell z2; have yo := k2.cell zo; have yf := (k2.both.2 _ _ (World.block_lt_of_cell? _ _ zo)).trans zf))
   all_goals
    have HF := hid (HSS.out w2 (kr1.trans k2))
    go_wp2_with fail
    go_roundw
    case rel => exact ⟨k + 1, by omega, by go_num, HF.out.1, HKW.out _ (kr1.trans k2) _ HF.out.2⟩
    case measure => simp [intOf]; omega
  ·obtain rfl : k = b.length := by omega
   have hlt' : ¬ (b.length : Int) < b.length := by omega
   rw [HEND.out] at hown
   go_wp2_with fail
   go_ret
   exact ⟨_, rfl, hown, kw⟩
end Go.Proofs.YtfmmajgkjkmghaaGreat
namespace Go.Proofs.YtfmmajgkjkmghaaGreat
open Go.RowKit
def Pos (b : List Nat) : Prop := b.length ≤ 8 ∧ Bnd b.length b ∧ reflB b = true ∧ transB b = true ∧ antiB b = true
theorem Pos.of {b : List Nat} (h8 : b.length ≤ 8) (hb : Bnd b.length b) (h : posB b = true) : Pos b := by
 unfold posB at h
 rw [Bool.and_eq_true, Bool.and_eq_true] at h
 exact ⟨h8, hb, h.1.1, h.1.2, h.2⟩
end Go.Proofs.YtfmmajgkjkmghaaGreat
namespace Go.Proofs.YtfmmajgkjkmghaaGreat
open Go.RowKit
end Go.Proofs.YtfmmajgkjkmghaaGreat
