import Derived.Test.YtfmmajgkjkmghaaGreatETU
import Derived.Test.YtfmmajgkjkmghaaGreatEPC
import Derived.Deep.RegionHeld3
import Derived.Test.YtfmmajgkjkmghaaGreatEPP
/- Walks: the laws' own measures, copies, comparisons and marks of number lists, posets, frames and models. -/
namespace Go.Proofs.YtfmmajgkjkmghaaGreat
open Go.RowKit
theorem OwnI.shape0 {w : World} {B : Nat} {v : Value} {a : List Int} (h : OwnI w B v a) : ∃ p n c, v = .slice p n c := by obtain ⟨p, c, e, _⟩ := At.of_own h; exact ⟨p, _, c, e⟩
theorem OwnI.touch {w w' : World} {S : Nat → Prop} {B : Nat} {v : Value} {a : List Int} (h : OwnI w B v a) (k : Touch w w' S) (hS : ∀ i, v.ownBlock = some i → ¬ S i) : OwnI w' B v a := own_touch h k hS
end Go.Proofs.YtfmmajgkjkmghaaGreat
namespace Go.Proofs.YtfmmajgkjkmghaaGreat
open Go.RowKit
set_option maxRecDepth 20000 in
set_option maxHeartbeats 1000000 in
theorem box_any (b : List Nat) (m : Nat) (v : Value) (w : World) (hv : Ints w v (zs b)) (hb : b.length ≤ 8) (hbm : Bnd b.length b) (hm : m < 256) :
  Calls Tryz.prog 58 #[v, .int .i64 m] w fun e w' => e = .returned (.int .i64 (boxB b m b.length)) ∧ w = w' := by
 have h256 := two8 hb
 have HW := hid (fun i => withinB_any (b.getD i 0) m w (Nat.lt_of_lt_of_le (hbm i) h256) hm)
 have HL := hid (boxB_lt b m)
 have hv0 := hv
 obtain ⟨p, cap, rfl, hle, hmx, _, _⟩ := hv
 unfold maxLen at hmx
 rw [zs_length] at *
 clear hbm h256
 go_enter Tryz.func58, Tryz.ntmps58
 go_wp2
 go_loop [5, 10] (fun o i' => ∃ i : Nat, i ≤ b.length ∧ i' = .int .i64 i ∧ o = .int .i64 (boxB b m i)) (fun _ i => b.length - (intOf i).toNat)
 case atStart => exact ⟨0, by omega, rfl, rfl⟩
 case round =>
  obtain ⟨i, hi, rfl, rfl⟩ := hrel
  by_cases hlt : i < b.length
  ·obtain ⟨b1, o1, rfl, h1⟩ := hv0.zs_cell i hlt
   have hlt' : (i : Int) < b.length := by omega
   have hs : boxB b m (i + 1) = if inB (b.getD i 0) m then boxB b m i ||| 2 ^ i else boxB b m i := rfl
   have hb1 := HL.out i
   have hb2 : 2 ^ i < 2 ^ 8 := Nat.pow_lt_pow_right (by omega) (by omega)
   have hor := orN (boxB b m i) (2 ^ i) (by omega) (by omega)
   have e1 := (pow63 i (by omega)).1
   have e2 : ((2 ^ i : Nat) : Int) = 2 ^ i := by push_cast; rfl
   rw [e2] at hor
   have HH := hid (HW.out i)
   have HS := hid hs; clear hs
   have HO := hid hor; clear hor
   clear hb1 hb2 e2
   cases hin : inB (b.getD i 0) m
   ·rw [hin] at HH HS
    clear hin
    generalize b.getD i 0 = x at *
    go_wp2_with fail
    refine HH.out.mono ?_; rintro e w' ⟨rfl, rfl⟩
    go_wp2_with fail
    go_round
    case rel => exact ⟨i + 1, by omega, by go_num, by have h := HS.out; simp only [Bool.false_eq_true, if_false] at h; rw [h]⟩
    case measure => simp [intOf]; omega
   ·rw [hin] at HH HS
    clear hin
    generalize b.getD i 0 = x at *
    go_wp2_with fail
    refine HH.out.mono ?_; rintro e w' ⟨rfl, rfl⟩
    go_wp2_with fail
    go_round
    case rel => exact ⟨i + 1, by omega, by go_num, by have h := HS.out; simp only [if_true] at h; rw [h, ← HO.out]⟩
    case measure => simp [intOf]; omega
  ·obtain rfl : i = b.length := by omega
   have hlt' : ¬ (b.length : Int) < b.length := by omega
   go_wp2
   go_ret
   exact ⟨rfl, rfl⟩
end Go.Proofs.YtfmmajgkjkmghaaGreat
namespace Go.Proofs.YtfmmajgkjkmghaaGreat
end Go.Proofs.YtfmmajgkjkmghaaGreat
namespace Go.Proofs.YtfmmajgkjkmghaaGreat
end Go.Proofs.YtfmmajgkjkmghaaGreat
