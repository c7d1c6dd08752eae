import Derived.Test.YtfmmajgkjkmghaaGreatHTU
import Derived.Test.YtfmmajgkjkmghaaGreatHPC
import Derived.Deep.RegionHeld3
import Derived.Test.YtfmmajgkjkmghaaGreatHPP
/- Walks: the laws' own measures, copies, comparisons and marks of number lists, posets, frames and models. -/
namespace Go.Proofs.YtfmmajgkjkmghaaGreat
open Go.RowKit
theorem OwnI.shape0 {w : World} {B : Nat} {v : Value} {a : List Int} (h : OwnI w B v a) : ∃ p n c, v = .slice p n c := by obtain ⟨p, c, e, _⟩ := At.of_own h; exact ⟨p, _, c, e⟩
theorem OwnI.touch {w w' : World} {S : Nat → Prop} {B : Nat} {v : Value} {a : List Int} (h : OwnI w B v a) (k : Touch w w' S) (hS : ∀ i, v.ownBlock = some i → ¬ S i) : OwnI w' B v a := own_touch h k hS
def Sep (va vb : Value) : Prop := ∀ k, va.ownBlock = some k → vb.ownBlock ≠ some k
theorem Sep.of {w1 w2 : World} {B1 B2 : Nat} {va vb : Value} {a b : List Int} (h1 : OwnI w1 B1 va a) (h2 : OwnI w2 B2 vb b) (h : w1.heap.size ≤ B2) : Sep va vb := fun k e1 e2 => by
 have := h1.len k e1; have := h2.len k e2; omega
end Go.Proofs.YtfmmajgkjkmghaaGreat
namespace Go.Proofs.YtfmmajgkjkmghaaGreat
open Go.RowKit
set_option maxRecDepth 20000 in
set_option maxHeartbeats 1000000 in
theorem mapMask_any (c : List Nat) (m : Nat) (v : Value) (w : World) (hv : Ints w v (zs c)) (hc : c.length ≤ 8) (hcl : ∀ i, i < c.length → c.getD i 0 < 8) (hm : m < 2 ^ c.length) :
  Calls Tryz.prog 57 #[v, .int .i64 m] w fun e w' => e = .returned (.int .i64 (mapM c m)) ∧ Keeps w w' := by
 have h256 := two8 hc
 have HM := hid (membersB_any m w (by omega))
 have hmem : ∀ x ∈ memB m, x < c.length := fun x hx => memB_lt hm hx
 have hml : (memB m).length ≤ 8 := lowB_len m 8
 have hmap : mapM c m = foldM c (memB m) := rfl
 have HLT := hid (fun l (h : ∀ x ∈ l, x < c.length) => foldM_lt (c := c) (n := 8) l (fun x hx => hcl x (h x hx)))
 have hv0 := hv
 obtain ⟨p, cap, rfl, hle, hmx, _, _⟩ := hv
 unfold maxLen at hmx
 rw [zs_length] at *
 have HMEM := hid hmem
 have HMAP := hid hmap
 have HCL := hid hcl
 clear hm hmem hmap h256 hcl
 generalize memB m = l at *
 go_enter Tryz.func57, Tryz.ntmps57
 go_wp2_with fail
 refine HM.out.mono ?_; rintro e w2 ⟨v2, rfl, hv2, k2⟩
 have hv2i := hv2.ints (by rw [zs_length]; omega)
 obtain ⟨p2, c2, rfl, _, hm2, _, _⟩ := hv2.ints (by rw [zs_length]; omega)
 unfold maxLen at hm2
 rw [zs_length] at *
 have hv1 := hv0.keeps k2
 clear hv0 hv2
 go_wp2
 go_loop [5, 11] (fun o i' => ∃ i : Nat, i ≤ l.length ∧ i' = .int .i64 i ∧ o = .int .i64 (foldM c (l.take i))) (fun _ i => l.length - (intOf i).toNat)
 case atStart => exact ⟨0, by omega, rfl, rfl⟩
 case round =>
  obtain ⟨i, hi, rfl, rfl⟩ := hrel
  by_cases hlt : i < l.length
  ·obtain ⟨b1, o1, rfl, h1⟩ := hv2i.zs_cell i hlt
   rw [getD_get hlt] at h1
   have hx := HMEM.out l[i] (List.getElem_mem hlt)
   obtain ⟨b2, o2, rfl, h2⟩ := hv1.zs_cell l[i] hx
   have hy8 := HCL.out l[i] hx
   have hst : foldM c (l.take (i + 1)) = foldM c (l.take i) ||| 2 ^ c.getD l[i] 0 := by
    rw [List.take_succ_eq_append_getElem hlt, foldM_snoc]
   have hb1 := HLT.out (l.take i) (fun x hx => HMEM.out x (List.mem_of_mem_take hx))
   have hb2 : 2 ^ c.getD l[i] 0 < 2 ^ 8 := Nat.pow_lt_pow_right (by omega) hy8
   have hor := orN (foldM c (l.take i)) (2 ^ c.getD l[i] 0) (by omega) (by omega)
   rw [← hst] at hor
   have e1 := (pow63 (c.getD l[i] 0) (by omega)).1
   have e2 : ((2 ^ c.getD l[i] 0 : Nat) : Int) = 2 ^ c.getD l[i] 0 := by push_cast; rfl
   rw [e2] at hor
   have hlt' : (i : Int) < l.length := by omega
   have hx' : ((l[i] : Nat) : Int) < c.length := by omega
   have HO := hid hor; clear hor
   clear hst hb1 hb2 e2
   generalize hyy : c.getD l[i] 0 = y at *
   clear hyy
   generalize l[i] = x at *
   generalize foldM c (l.take i) = z at *
   go_wp2
   go_round
   case rel => exact ⟨i + 1, by omega, by go_num, by rw [HO.out]⟩
   case measure => simp [intOf]; omega
  ·have hlt' : ¬ (i : Int) < l.length := by omega
   rw [List.take_of_length_le (by omega)]
   rw [← HMAP.out]
   go_wp2
   go_ret
   exact ⟨rfl, k2⟩
set_option maxRecDepth 20000 in
set_option maxHeartbeats 1000000 in
theorem box_any (b : List Nat) (m : Nat) (v : Value) (w : World) (hv : Ints w v (zs b)) (hb : b.length ≤ 8) (hbm : Bnd b.length b) (hm : m < 256) :
  Calls Tryz.prog 58 #[v, .int .i64 m] w fun e w' => e = .returned (.int .i64 (boxB b m b.length)) ∧ w = w' := by
 have h256 := two8 hb
 have HW := hid (fun i => withinB_any (b.getD i 0) m w (Nat.lt_of_lt_of_le (hbm i) h256) hm)
 have HL := hid (boxB_lt b m)
 have hv0 := hv
 obtain ⟨p, cap, rfl, hle, hmx, _, _⟩ := hv
 unfold maxLen at hmx
 rw [zs_length] at *
 clear hbm h256
 go_enter Tryz.func58, Tryz.ntmps58
 go_wp2
 go_loop [5, 10] (fun o i' => ∃ i : Nat, i ≤ b.length ∧ i' = .int .i64 i ∧ o = .int .i64 (boxB b m i)) (fun _ i => b.length - (intOf i).toNat)
 case atStart => exact ⟨0, by omega, rfl, rfl⟩
 case round =>
  obtain ⟨i, hi, rfl, rfl⟩ := hrel
  by_cases hlt : i < b.length
  ·obtain ⟨b1, o1, rfl, h1⟩ := hv0.zs_cell i hlt
   have hlt' : (i : Int) < b.length := by omega
   have hs : boxB b m (i + 1) = if inB (b.getD i 0) m then boxB b m i ||| 2 ^ i else boxB b m i := rfl
   have hb1 := HL.out i
   have hb2 : 2 ^ i < 2 ^ 8 := Nat.pow_lt_pow_right (by omega) (by omega)
   have hor := orN (boxB b m i) (2 ^ i) (by omega) (by omega)
   have e1 := (pow63 i (by omega)).1
   have e2 : ((2 ^ i : Nat) : Int) = 2 ^ i := by push_cast; rfl
   rw [e2] at hor
   have HH := hid (HW.out i)
   have HS := hid hs; clear hs
   have HO := hid hor; clear hor
   clear hb1 hb2 e2
   cases hin : inB (b.getD i 0) m
   ·rw [hin] at HH HS
    clear hin
    generalize b.getD i 0 = x at *
    go_wp2_with fail
    refine HH.out.mono ?_; rintro e w' ⟨rfl, rfl⟩
    go_wp2_with fail
    go_round
    case rel => exact ⟨i + 1, by omega, by go_num, by have h := HS.out; simp only [Bool.false_eq_true, if_false] at h; rw [h]⟩
    case measure => simp [intOf]; omega
   ·rw [hin] at HH HS
    clear hin
    generalize b.getD i 0 = x at *
    go_wp2_with fail
    refine HH.out.mono ?_; rintro e w' ⟨rfl, rfl⟩
    go_wp2_with fail
    go_round
    case rel => exact ⟨i + 1, by omega, by go_num, by have h := HS.out; simp only [if_true] at h; rw [h, ← HO.out]⟩
    case measure => simp [intOf]; omega
  ·obtain rfl : i = b.length := by omega
   have hlt' : ¬ (b.length : Int) < b.length := by omega
   go_wp2
   go_ret
   exact ⟨rfl, rfl⟩
end Go.Proofs.YtfmmajgkjkmghaaGreat
namespace Go.Proofs.YtfmmajgkjkmghaaGreat
end Go.Proofs.YtfmmajgkjkmghaaGreat
namespace Go.Proofs.YtfmmajgkjkmghaaGreat
end Go.Proofs.YtfmmajgkjkmghaaGreat
