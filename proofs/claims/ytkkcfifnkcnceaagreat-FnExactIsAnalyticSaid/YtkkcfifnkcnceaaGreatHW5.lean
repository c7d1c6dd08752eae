import Derived.Test.YtkkcfifnkcnceaaGreatHV5
import Derived.Lib.AppendZeros
/- Walks: the program's readers of formulas, and the library's IndexFunc and ContainsFunc at two types. -/
namespace Go.Proofs.YtkkcfifnkcnceaaGreat
open Go.RowKit
end Go.Proofs.YtkkcfifnkcnceaaGreat
namespace Go.Proofs.YtkkcfifnkcnceaaGreat
open Go.RowKit
set_option maxHeartbeats 400000 in
theorem part_any (a l : List Nd) (t : Fm) (r : List Nd) (v : Value) (i : Int) (w : World) (hv : Nds w v a) (ha : a = l ++ (t.enc ++ r)) (hi : i = l.length) :
  Calls Tryz.prog 93 #[v, .int .i64 i] w (RetS w t.enc) := by
 subst hi
 have hv0 := hv
 obtain ⟨p, cap, rfl, hle, hmx, hr, hlen⟩ := hv
 have hp := Fm.enc_pos t
 have hs : skipInt 1 a (l.length : Int).toNat = l.length + t.enc.length := by subst ha; exact skipInt_enc l t r
 have hl : l.length + t.enc.length ≤ a.length := by subst ha; simp
 obtain ⟨b, off, rfl⟩ := hr.ptrN (by omega)
 have hmx0 := hid hmx
 unfold maxLen at hmx
 have Ha := hid ha; clear ha
 have Hs := hid hs; clear hs
 have hc1 : ¬ l.length + t.enc.length = l.length := by omega
 go_enter Tryz.func93, Tryz.ntmps93
 go_wp2_with (go_at_call 138; refine (partEnd_any _ _ _ _ hv0 (by omega) (by omega)).mono ?_; rintro e w' ⟨rfl, rfl⟩; rw [Hs.out])
 go_ret
 have e := Ha.out
 rw [e] at hr
 exact ⟨_, rfl, Nds.sub (l := l) (m := t.enc) (r := r) hr (by omega) rfl (by omega) (by omega) (by have := hmx0.out; omega), rfl⟩
theorem first_any (a : List Nd) (x : Nd) (t : Fm) (r : List Nd) (v : Value) (w : World) (hv : Nds w v a) (ha : a = x :: (t.enc ++ r)) :
  Calls Tryz.prog 113 #[v] w (RetS w t.enc) := by
 go_enter Tryz.func113, Tryz.ntmps113
 go_wp2_with (go_at_call 93; refine (part_any a [x] t r _ _ _ hv ha rfl).mono ?_; rintro e w' ⟨v1, rfl, hv1, rfl⟩)
 go_ret
 exact ⟨_, rfl, hv1, rfl⟩
theorem second_any (a : List Nd) (x : Nd) (t u : Fm) (v : Value) (w : World) (hv : Nds w v a) (ha : a = x :: (t.enc ++ u.enc)) :
  Calls Tryz.prog 160 #[v] w (RetS w u.enc) := by
 have hs : skipInt 1 a (1 : Int).toNat = 1 + t.enc.length := by subst ha; exact skipInt_enc [x] t u.enc
 have ha2 : a = (x :: t.enc) ++ (u.enc ++ []) := by subst ha; simp
 have hl1 : (1 : Int) ≤ a.length := by subst ha; simp; omega
 have Ha := hid ha2; clear ha2 ha
 have Hs := hid hs; clear hs
 go_enter Tryz.func160, Tryz.ntmps160
 go_wp2_with (first
  | (go_at_call 138; refine (partEnd_any _ _ _ _ hv (by omega) hl1).mono ?_; rintro e w' ⟨rfl, rfl⟩; rw [Hs.out])
  | (go_at_call 93; refine (part_any a (x :: t.enc) u [] _ _ _ hv Ha.out (by simp; omega)).mono ?_; rintro e w' ⟨v1, rfl, hv1, rfl⟩))
 go_ret
 exact ⟨_, rfl, hv1, rfl⟩
theorem isFalsum_any (t : Fm) (v : Value) (w : World) (hv : Nds w v t.enc) :
  Calls Tryz.prog 179 #[v] w fun e w' => e = .returned (.bool t.isFls) ∧ w = w' := by
 obtain ⟨b, off, n, cap, rfl, h0, h1, h2, h3, hc, _⟩ := hv.root
 have hk := hid (Fm.kind_isFls t)
 go_enter Tryz.func179, Tryz.ntmps179
 go_wp2
 go_ret
 exact ⟨ret_bool hk.out, rfl⟩
set_option maxHeartbeats 400000 in
theorem isNegation_any (t : Fm) (v : Value) (w : World) (hv : Nds w v t.enc) :
  Calls Tryz.prog 178 #[v] w fun e w' => e = .returned (.bool t.isNeg) ∧ w = w' := by
 have hv0 := hv
 obtain ⟨b, off, n, cap, rfl, h0, h1, h2, h3, hc, _⟩ := hv.root
 clear hv
 cases t with
 | imp x y =>
  go_enter Tryz.func178, Tryz.ntmps178
  go_wp2_with (first
   | (go_at_call 160; refine (second_any _ _ x y _ _ hv0 rfl).mono ?_; rintro e w' ⟨v2, rfl, hv2, rfl⟩)
   | (go_at_call 179; refine (isFalsum_any y _ _ hv2).mono ?_; rintro e w' ⟨rfl, rfl⟩))
  go_ret
  exact ⟨rfl, rfl⟩
 | _ =>
  clear hv0
  simp only [Fm.kind] at hc
  go_enter Tryz.func178, Tryz.ntmps178
  go_wp2
  go_ret
  exact ⟨rfl, rfl⟩
end Go.Proofs.YtkkcfifnkcnceaaGreat
namespace Go.Proofs.YtkkcfifnkcnceaaGreat
open Go.RowKit
theorem zeroCells_size (n : Nat) (z : Array Value) : (Builtin.zeroCells z n).size = n * z.size := by simp [Builtin.zeroCells]
set_option maxRecDepth 20000 in
set_option maxHeartbeats 400000 in
theorem growN_any (n : Nat) (w : World) (hn : n ≤ 2147483648) :
  Calls Tryz.prog 220 #[.slice none 0 0, .int .i64 n] w (RetN w []) := by
 obtain ⟨i0, hi, hz0, hz1, hz2⟩ := info_parts infoN
 by_cases h0 : 0 < n
 ·have hrun := Lib.run_append_nil_zeros (P := Tryz.prog) w 95 3 95 131 i0 _ .i64 .i64 Tryz.underlying95 Tryz.underlying3 hi hz0 n h0 (by rw [hz1]; decide) (by omega) (by rw [hz2]; omega)
  have hge := grownCap_ge w n 0 131
  have hle := grownCap_le_maxLen w n 0 131 (by unfold maxLen; omega)
  unfold maxLen at hle
  have hown : OwnN (w.drew.alloc (.cells (Builtin.zeroCells (Value.agg #[.int .i64 0, .int .i64 0]).cells n ++ Builtin.zeroCells (Value.agg #[.int .i64 0, .int .i64 0]).cells (grownCap w n 0 131 - n)) 131)) w.heap.size (.slice (some ⟨w.heap.size, 0, none⟩) 0 (grownCap w n 0 131)) [] := by
   refine World.ownsRow_made w.drew _ _ (Nat.le_refl _) (by unfold maxLen; omega) ?_
   rw [Array.size_append, zeroCells_size, zeroCells_size]
   simp [Value.cells]
   omega
  have hk := ((Keeps.refl w).drew).alloc (.cells (Builtin.zeroCells (Value.agg #[.int .i64 0, .int .i64 0]).cells n ++ Builtin.zeroCells (Value.agg #[.int .i64 0, .int .i64 0]).cells (grownCap w n 0 131 - n)) 131)
  generalize w.drew.alloc (.cells (Builtin.zeroCells (Value.agg #[.int .i64 0, .int .i64 0]).cells n ++ Builtin.zeroCells (Value.agg #[.int .i64 0, .int .i64 0]).cells (grownCap w n 0 131 - n)) 131) = w1 at hrun hown hk
  generalize grownCap w n 0 131 = c1 at *
  have HR := hid hrun; clear hrun
  clear hz0 hz1 hz2 hi
  go_enter Tryz.func220, Tryz.ntmps220
  go_wp2_with (at_builtin; refine Lib.wpList_append_run _ rfl _ _ _ _ rfl _ _ rfl rfl _ _ HR.out ?_)
  go_ret
  exact ⟨_, rfl, hown, hk⟩
 ·obtain rfl : n = 0 := by omega
  go_enter Tryz.func220, Tryz.ntmps220
  go_wp2
  go_ret
  exact ⟨_, rfl, OwnN.nil _ _, Keeps.refl _⟩
def fl {α : Type} (l : List (List α)) (k : Nat) : List α := (l.take k).flatten
theorem fl_succ {α : Type} (l : List (List α)) (k : Nat) (h : k < l.length) : fl l (k + 1) = fl l k ++ l[k] := by
 unfold fl
 rw [List.take_succ_eq_append_getElem h, List.flatten_append]; simp
theorem fl_le {α : Type} (l : List (List α)) (k : Nat) : (fl l k).length ≤ (fl l l.length).length := by
 unfold fl
 rw [List.take_length]
 conv => rhs; rw [← List.take_append_drop k l]
 simp only [List.flatten_append, List.length_append]; omega
set_option maxHeartbeats 1000000 in
theorem concatN_any (l : List (List Nd)) (v : Value) (w : World) (hv : NdsL w v l) (hl : (fl l l.length).length ≤ 2147483648) :
  Calls Tryz.prog 213 #[v] w (RetN w (fl l l.length)) := by
 have hv0 := hv
 obtain ⟨p, cap, rfl, hle, hmx, hlen, _⟩ := hv
 unfold maxLen at hmx
 go_enter Tryz.func213, Tryz.ntmps213
 go_wp2
 go_loop [3, 11] (fun s i' => ∃ k : Nat, k ≤ l.length ∧ i' = .int .i64 k ∧ s = .int .i64 (fl l k).length) (fun _ i => l.length - (intOf i).toNat)
 case atStart => exact ⟨0, by omega, rfl, rfl⟩
 case round =>
  obtain ⟨k, hk, rfl, rfl⟩ := hrel
  have hf := fl_le l k
  by_cases hlt : k < l.length
  ·obtain ⟨b, off, u, rfl, h1, pu, capu, rfl, g1, g2, g3, g4⟩ := hv0.get k hlt
   have hft := fl_succ l k hlt
   have hf2 := fl_le l (k + 1)
   have hlen2 : (fl l (k + 1)).length = (fl l k).length + l[k].length := by rw [hft]; simp
   have hsum : (fl l k).length + l[k].length ≤ 2147483648 := by omega
   have HL := hid hlen2; clear hlen2 hft hf2
   clear hv0
   go_wp2
   go_round
   case rel => exact ⟨k + 1, by omega, by go_num, by rw [HL.out]; go_num⟩
   case measure => simp [intOf]; omega
  ·obtain rfl : k = l.length := by omega
   clear hf hk hlt
   go_wp2_with (go_at_call 220; refine (growN_any _ _ hl).mono ?_; rintro e w1 ⟨v1, rfl, hv1, k1⟩)
   go_loopw [6, 27] (fun s i' wr => ∃ k : Nat, k ≤ l.length ∧ i' = .int .i64 k ∧ OwnN wr w.heap.size s (fl l k) ∧ Keeps w wr) (fun _ i _ => l.length - (intOf i).toNat)
   case atStart => exact ⟨0, by omega, rfl, hv1, k1⟩
   case round =>
    obtain ⟨k, hk, rfl, hown, kw⟩ := hrel
    by_cases hlt : k < l.length
    ·obtain ⟨b, off, u, rfl, h1, hu⟩ := (hv0.keeps kw).get k hlt
     have hft := fl_succ l k hlt
     have hf2 := fl_le l (k + 1)
     have hsum : (fl l k).length + l[k].length ≤ 2147483648 := by
      have : (fl l (k + 1)).length = (fl l k).length + l[k].length := by rw [hft]; simp
      omega
     have HF := hid hft; clear hft hf2
     clear hv0
     have hsz := kw.size
     go_wp2_with (at_builtin; refine appN rfl _ _ rfl w.heap.size _ _ rfl hown _ _ rfl hu hsz hsum ?_; intro v2 w2 hv2 hg2 hr2; have k2 : Keeps w w2 := kw.grown hg2 hr2)
     go_roundw
     case rel => exact ⟨k + 1, by omega, by go_num, by rw [HF.out]; exact hv2, k2⟩
     case measure => simp [intOf]; omega
    ·obtain rfl : k = l.length := by omega
     go_wp2
     go_ret
     exact ⟨_, rfl, hown, kw⟩
end Go.Proofs.YtkkcfifnkcnceaaGreat
