import Derived.Test.YtikooimokfbffaaGreatDoorHQ3
import Derived.Test.YtikooimokfbffaaGreatDoorHQA
import Derived.Test.YtikooimokfbffaaGreatDoorHPC
import Derived.Deep.RegionHeld3
/- Walks: the laws' own measures, copies, comparisons and marks of number lists, posets, frames and models. -/
namespace Go.Proofs.YtikooimokfbffaaGreatDoor
open Go.RowKit
theorem OwnI.shape0 {w : World} {B : Nat} {v : Value} {a : List Int} (h : OwnI w B v a) : ∃ p n c, v = .slice p n c := by obtain ⟨p, c, e, _⟩ := At.of_own h; exact ⟨p, _, c, e⟩
theorem OwnI.touch {w w' : World} {S : Nat → Prop} {B : Nat} {v : Value} {a : List Int} (h : OwnI w B v a) (k : Touch w w' S) (hS : ∀ i, v.ownBlock = some i → ¬ S i) : OwnI w' B v a := own_touch h k hS
end Go.Proofs.YtikooimokfbffaaGreatDoor
namespace Go.Proofs.YtikooimokfbffaaGreatDoor
open Go.RowKit
set_option maxRecDepth 20000 in
set_option maxHeartbeats 1000000 in
theorem box_any (b : List Nat) (m : Nat) (v : Value) (w : World) (hv : Ints w v (zs b)) (hb : b.length ≤ 8) (hbm : Bnd b.length b) (hm : m < 256) :
  Calls Tryz.prog 283 #[v, .int .i64 m] w fun e w' => e = .returned (.int .i64 (boxB b m b.length)) ∧ w = w' := by
 have h256 := two8 hb
 have HW := hid (fun i => withinB_any (b.getD i 0) m w (Nat.lt_of_lt_of_le (hbm i) h256) hm)
 have HL := hid (boxB_lt b m)
 have hv0 := hv
 obtain ⟨p, cap, rfl, hle, hmx, _, _⟩ := hv
 unfold maxLen at hmx
 rw [zs_length] at *
 clear hbm h256
 go_enter Tryz.func283, Tryz.ntmps283
 go_wp2
 go_loop [5, 10] (fun o i' => ∃ i : Nat, i ≤ b.length ∧ i' = .int .i64 i ∧ o = .int .i64 (boxB b m i)) (fun _ i => b.length - (intOf i).toNat)
 case atStart => exact ⟨0, by omega, rfl, rfl⟩
 case round =>
  obtain ⟨i, hi, rfl, rfl⟩ := hrel
  by_cases hlt : i < b.length
  ·obtain ⟨b1, o1, rfl, h1⟩ := hv0.zs_cell i hlt
   have hlt' : (i : Int) < b.length := by omega
   have hs : boxB b m (i + 1) = if inB (b.getD i 0) m then boxB b m i ||| 2 ^ i else boxB b m i := rfl
   have hb1 := HL.out i
   have hb2 : 2 ^ i < 2 ^ 8 := Nat.pow_lt_pow_right (by omega) (by omega)
   have hor := orN (boxB b m i) (2 ^ i) (by omega) (by omega)
   have e1 := (pow63 i (by omega)).1
   have e2 : ((2 ^ i : Nat) : Int) = 2 ^ i := by push_cast; rfl
   rw [e2] at hor
   have HH := hid (HW.out i)
   have HS := hid hs; clear hs
   have HO := hid hor; clear hor
   clear hb1 hb2 e2
   cases hin : inB (b.getD i 0) m
   ·rw [hin] at HH HS
    clear hin
    generalize b.getD i 0 = x at *
    go_wp2_with fail
    refine HH.out.mono ?_; rintro e w' ⟨rfl, rfl⟩
    go_wp2_with fail
    go_round
    case rel => exact ⟨i + 1, by omega, by go_num, by have h := HS.out; simp only [Bool.false_eq_true, if_false] at h; rw [h]⟩
    case measure => simp [intOf]; omega
   ·rw [hin] at HH HS
    clear hin
    generalize b.getD i 0 = x at *
    go_wp2_with fail
    refine HH.out.mono ?_; rintro e w' ⟨rfl, rfl⟩
    go_wp2_with fail
    go_round
    case rel => exact ⟨i + 1, by omega, by go_num, by have h := HS.out; simp only [if_true] at h; rw [h, ← HO.out]⟩
    case measure => simp [intOf]; omega
  ·obtain rfl : i = b.length := by omega
   have hlt' : ¬ (b.length : Int) < b.length := by omega
   go_wp2
   go_ret
   exact ⟨rfl, rfl⟩
set_option maxRecDepth 20000 in
set_option maxHeartbeats 1000000 in
theorem l01Box_any (b : List Nat) (m : Nat) (v : Value) (w : World) (hv : Ints w v (zs b)) (hb : b.length ≤ 8) (hbm : Bnd b.length b) (hm : m < 256) :
  Calls Tryz.prog 260 #[v, .int .i64 m] w fun e w' => e = .returned (.int .i64 (boxB b m b.length)) ∧ Keeps w w' := by
 have h256 := two8 hb
 have HL := hid (boxB_lt b m)
 have HN : Hid (∀ i, b.getD i 0 < 256) := hid (fun i => Nat.lt_of_lt_of_le (hbm i) h256)
 have HONE := hid (fun (x : Nat) wz (h : x ≤ 62) => l01One_any (x : Int) wz (by omega) (by omega))
 simp only [Int.toNat_natCast] at HONE
 have hv0 := hv
 obtain ⟨p, cap, rfl, hle, hmx, _, _⟩ := hv
 unfold maxLen at hmx
 rw [zs_length] at *
 clear hbm h256
 go_enter Tryz.func260, Tryz.ntmps260
 go_wp2
 go_loopw [5, 6] (fun o i' wr => ∃ i : Nat, i ≤ b.length ∧ i' = .int .i64 i ∧ o = .int .i64 (boxB b m i) ∧ Keeps w wr) (fun _ i _ => b.length - (intOf i).toNat)
 case atStart => exact ⟨0, by omega, rfl, rfl, Keeps.refl w⟩
 case round =>
  obtain ⟨i, hi, rfl, rfl, kw⟩ := hrel
  by_cases hlt : i < b.length
  ·obtain ⟨b1, o1, rfl, h1⟩ := (hv0.keeps kw).zs_cell i hlt
   have hlt' : (i : Int) < b.length := by omega
   have hs : boxB b m (i + 1) = if inB (b.getD i 0) m then boxB b m i ||| 2 ^ i else boxB b m i := rfl
   have hx := HN.out i
   have hb1 := HL.out i
   have hb2 : 2 ^ i < 2 ^ 8 := Nat.pow_lt_pow_right (by omega) (by omega)
   have hor := orN (boxB b m i) (2 ^ i) (by omega) (by omega)
   have e2 : ((2 ^ i : Nat) : Int) = 2 ^ i := by push_cast; rfl
   rw [e2] at hor
   have hand := andN (b.getD i 0) m (by omega) (by omega)
   have hin := inB_and (b.getD i 0) m
   have HX := hid (fun wz => HONE.out i wz (by omega))
   have HS := hid hs; clear hs
   have HO := hid hor; clear hor
   clear hb1 hb2 e2
   cases hi2 : inB (b.getD i 0) m
   ·rw [hi2] at HS hin
    have hne : (bits .and .i64 ((b.getD i 0 : Nat) : Int) (m : Int) == ((b.getD i 0 : Nat) : Int)) = false := by rw [hand]; simp at hin ⊢; omega
    clear hi2 hin hand
    generalize b.getD i 0 = x at *
    go_wp2_with fail
    go_quiet (fail)
    go_wp2_with fail
    go_roundw
    case rel => exact ⟨i + 1, by omega, by go_num, by have h := HS.out; simp only [Bool.false_eq_true, if_false] at h; rw [h], kw.drewN _⟩
    case measure => simp [intOf]; omega
   ·rw [hi2] at HS hin
    have hne : (bits .and .i64 ((b.getD i 0 : Nat) : Int) (m : Int) == ((b.getD i 0 : Nat) : Int)) = true := by rw [hand]; simp at hin ⊢; omega
    clear hi2 hin hand
    generalize b.getD i 0 = x at *
    generalize (2 : Int) ^ i = P at *
    go_wp2_with fail
    go_quiet (fail)
    go_wp2_with fail
    refine (HX.out _).mono ?_; rintro e w' ⟨rfl, rfl⟩
    go_wp2_with fail
    go_roundw
    case rel => exact ⟨i + 1, by omega, by go_num, by have h := HS.out; simp only [if_true] at h; rw [h, ← HO.out], kw.drewN _⟩
    case measure => simp [intOf]; omega
  ·obtain rfl : i = b.length := by omega
   have hlt' : ¬ (b.length : Int) < b.length := by omega
   go_wp2
   go_ret
   exact ⟨rfl, kw⟩
end Go.Proofs.YtikooimokfbffaaGreatDoor
namespace Go.Proofs.YtikooimokfbffaaGreatDoor
def cntB (m : Nat) : Nat := (memB m).length
theorem cntB_le (m : Nat) : cntB m ≤ 8 := lowB_len m 8
def nxtB (m s : Nat) : Nat := ((s + 256 - m) % 256) &&& m
def subB (m k : Nat) : List Nat := (List.range k).filter (fun s => inB s m)
def gapOk (m s : Nat) : Bool := !(inB s m) || s == m || (decide (s < nxtB m s) && decide (nxtB m s < 256) && inB (nxtB m s) m && (List.range (nxtB m s - s - 1)).all fun i => !inB (s + 1 + i) m)
set_option maxRecDepth 20000 in
theorem gap_table : ∀ m : Fin 256, ∀ s : Fin 256, gapOk m s = true := by decide +kernel
set_option maxRecDepth 20000 in
theorem nxt_table : ∀ m : Fin 256, ∀ s : Fin 256, (!(inB s m) || (bits .and .i64 (((s : Nat) : Int) - ((m : Nat) : Int)) ((m : Nat) : Int) == ((nxtB m s : Nat) : Int))) = true := by decide +kernel
end Go.Proofs.YtikooimokfbffaaGreatDoor
namespace Go.Proofs.YtikooimokfbffaaGreatDoor
theorem gap_of {m s : Nat} (hm : m < 256) (hs : s < 256) (h : inB s m = true) (hne : s ≠ m) :
  s < nxtB m s ∧ nxtB m s < 256 ∧ inB (nxtB m s) m = true ∧ ∀ u, s < u → u < nxtB m s → inB u m = false := by
 have := gap_table ⟨m, hm⟩ ⟨s, hs⟩
 simp only [gapOk, h, Bool.not_true, Bool.false_or, Bool.or_eq_true, beq_iff_eq, Bool.and_eq_true, decide_eq_true_eq, List.all_eq_true, List.mem_range, Bool.not_eq_true'] at this
 rcases this with e | ⟨⟨⟨h1, h2⟩, h3⟩, h4⟩
 ·exact absurd e hne
 ·refine ⟨h1, h2, h3, fun u hu1 hu2 => ?_⟩
  have := h4 (u - s - 1) (by omega)
  rwa [show s + 1 + (u - s - 1) = u by omega] at this
theorem nxt_of {m s : Nat} (hm : m < 256) (hs : s < 256) (h : inB s m = true) : bits .and .i64 ((s : Int) - (m : Int)) (m : Int) = ((nxtB m s : Nat) : Int) := by
 have := nxt_table ⟨m, hm⟩ ⟨s, hs⟩
 simp only [h, Bool.not_true, Bool.false_or, beq_iff_eq] at this
 exact this
theorem subB_gap (m : Nat) : ∀ d k, (∀ u, k ≤ u → u < k + d → inB u m = false) → subB m (k + d) = subB m k
 | 0, k, _ => rfl
 | d + 1, k, h => by
  rw [← Nat.add_assoc]
  have ih := subB_gap m d k (fun u h1 h2 => h u h1 (by omega))
  unfold subB at *
  rw [List.range_succ, List.filter_append, ih]
  simp [h (k + d) (by omega) (by omega)]
theorem subB_next {m s : Nat} (hm : m < 256) (hs : s < 256) (h : inB s m = true) (hne : s ≠ m) : subB m (nxtB m s + 1) = subB m (s + 1) ++ [nxtB m s] := by
 obtain ⟨h1, _, h3, h4⟩ := gap_of hm hs h hne
 have hg := subB_gap m (nxtB m s - (s + 1)) (s + 1) (fun u a b => h4 u (by omega) (by omega))
 rw [show s + 1 + (nxtB m s - (s + 1)) = nxtB m s by omega] at hg
 rw [← hg]
 unfold subB
 rw [List.range_succ, List.filter_append]
 simp [h3]
theorem subB_mem {m k s : Nat} : s ∈ subB m k ↔ s < k ∧ inB s m = true := by simp [subB]
theorem subB_len (m k : Nat) : (subB m k).length ≤ k := by
 unfold subB
 exact Nat.le_trans (List.length_filter_le _ _) (by simp)
theorem inB_le {a m : Nat} (h : inB a m = true) : a ≤ m := by
 have := inB_and a m
 rw [h] at this
 have e : a &&& m = a := by simpa using this.symm
 rw [← e]; exact Nat.and_le_right
theorem inB_zero (m : Nat) : inB 0 m = true := by rw [inB_iff]; intro i h; simp at h
def antiC (b : List Nat) (s : Nat) : Bool := (memB s).all fun x => b.getD x 0 &&& s == 2 ^ x
def okW (b : List Nat) (s : Nat) : Bool := antiC b s && (List.range b.length).any fun x => inB s (b.getD x 0)
def widT (b : List Nat) : Nat → Nat
 | 0 => 0
 | k + 1 => max (widT b k) (if okW b k then cntB k else 0)
def widB (b : List Nat) : Nat := widT b 256
theorem widT_ge {b : List Nat} : ∀ {k s : Nat}, s < k → okW b s = true → cntB s ≤ widT b k
 | 0, s, h, _ => by omega
 | k + 1, s, h, ho => by
  unfold widT
  by_cases e : s = k
  ·subst e; rw [if_pos ho]; omega
  ·have := widT_ge (k := k) (show s < k by omega) ho; omega
theorem widT_le {b : List Nat} {v : Nat} : ∀ k, (∀ s, s < k → okW b s = true → cntB s ≤ v) → widT b k ≤ v
 | 0, _ => Nat.zero_le _
 | k + 1, h => by
  have := widT_le k (fun s h1 h2 => h s (by omega) h2)
  unfold widT
  by_cases ho : okW b k = true
  ·rw [if_pos ho]; have := h k (by omega) ho; omega
  ·rw [if_neg ho]; omega
def WidAt (b : List Nat) (v : Nat) : Prop := v = 0 ∨ ∃ s, s < 256 ∧ okW b s = true ∧ cntB s = v
theorem WidAt.eq {b : List Nat} {v : Nat} (h : WidAt b v) (ha : ∀ s, s < 256 → okW b s = true → cntB s ≤ v) : v = widB b := by
 have h1 : widB b ≤ v := widT_le 256 ha
 rcases h with rfl | ⟨s, hs, ho, rfl⟩
 ·omega
 ·have : cntB s ≤ widB b := widT_ge hs ho
  omega
theorem WidAt.max {b : List Nat} {v s : Nat} (h : WidAt b v) (hs : s < 256) (ho : okW b s = true) : WidAt b (max v (cntB s)) := by
 by_cases hl : v ≤ cntB s
 ·right; exact ⟨s, hs, ho, by omega⟩
 ·rw [show Max.max v (cntB s) = v by omega]; exact h
def mxT (b : List Nat) : Nat → Nat
 | 0 => 0
 | k + 1 => if b.getD k 0 == 2 ^ k then mxT b k ||| 2 ^ k else mxT b k
theorem mxT_lt (b : List Nat) : ∀ i, mxT b i < 2 ^ i
 | 0 => by simp [mxT]
 | i + 1 => by
  have h := mxT_lt b i
  have h2 : 2 ^ i < 2 ^ (i + 1) := Nat.pow_lt_pow_right (by omega) (by omega)
  unfold mxT
  split
  ·exact Nat.or_lt_two_pow (by omega) h2
  ·omega
theorem mxT_bit (b : List Nat) : ∀ k i, (mxT b k).testBit i = (decide (i < k) && (b.getD i 0 == 2 ^ i))
 | 0, i => by simp [mxT]
 | k + 1, i => by
  have ih := mxT_bit b k i
  unfold mxT
  split
  ·rename_i h
   rw [Nat.testBit_or, ih, Nat.testBit_two_pow]
   by_cases e : k = i
   ·subst e; simp at h; simp [h]
   ·by_cases h1 : i < k
    ·simp [h1, e, Nat.lt_succ_of_lt h1]
    ·simp [h1, e, show ¬ i < k + 1 by omega]
  ·rename_i h
   rw [ih]
   by_cases e : k = i
   ·subst e; simp at h; simp [h]
   ·by_cases h1 : i < k
    ·simp [h1, Nat.lt_succ_of_lt h1]
    ·simp [h1, show ¬ i < k + 1 by omega]
def mxB (b : List Nat) : Nat := mxT b b.length
end Go.Proofs.YtikooimokfbffaaGreatDoor
