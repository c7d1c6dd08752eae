import Derived.Test.YtfmmajgkjkmghaaGreatEM3
import Derived.BigQuiet
import Derived.Test.YtfmmajgkjkmghaaGreatEW7
import Derived.Test.YtfmmajgkjkmghaaGreatEK8
import Derived.Deep.RegionLaw
import Derived.Deep.RegionHeld3
/- The source of draws: what it reads as, its next number. -/
namespace Go.Proofs.YtfmmajgkjkmghaaGreat
open Go.RowKit
def BtsB (w : World) (v : Value) (n B : Nat) : Prop := ∃ p cap, v = .slice p n cap ∧ n ≤ cap ∧ cap ≤ maxLen ∧ ∀ j, j < n → ∃ b off, ∃ x : Nat, p = some ⟨b, off, none⟩ ∧ w.cell? ⟨b, off + j, none⟩ = some (.int .u8 x) ∧ x < 256 ∧ b < B
def Src (w : World) (B : Nat) : Prop := ∃ v n, ∃ at' : Nat, ∃ h : Int, w.cell? ⟨B, 0, none⟩ = some v ∧ w.cell? ⟨B, 1, none⟩ = some (.int .i64 at') ∧ w.cell? ⟨B, 2, none⟩ = some (.int .u64 h) ∧ w.frozen? ⟨B, 1, none⟩ = false ∧ w.frozen? ⟨B, 2, none⟩ = false ∧ at' ≤ n ∧ BtsB w v n B
theorem BtsB.touch {w w' : World} {v : Value} {n B : Nat} (h : BtsB w v n B) (k : Touch w w' (fun i => i = B)) : BtsB w' v n B := by
 obtain ⟨p, cap, e, h1, h2, h3⟩ := h
 refine ⟨p, cap, e, h1, h2, fun j hj => ?_⟩
 obtain ⟨b, off, x, e2, hc, hx, hb⟩ := h3 j hj
 exact ⟨b, off, x, e2, by rw [(k.cell (b := b) (World.block_lt_of_cell? _ _ hc) (by omega)).1]; exact hc, hx, hb⟩
def Dr (B : Nat) (w w' : World) : Prop := Touch w w' (fun i => i = B) ∧ Src w' B
theorem Dr.trans {B : Nat} {a b c : World} (h : Dr B a b) (k : Dr B b c) : Dr B a c := ⟨h.1.trans k.1, k.2⟩
theorem Src.keeps {w w' : World} {B : Nat} (h : Src w B) (k : Keeps w w') : Src w' B := by
 obtain ⟨v, n, a, h, c0, c1, c2, f1, f2, ha, hb⟩ := h
 have hB := World.block_lt_of_cell? _ _ c0
 refine ⟨v, n, a, h, k.cell c0, k.cell c1, k.cell c2, ?_, ?_, ha, hb.touch (Touch.of_keeps k _)⟩
 ·rw [(k.both).2 B 1 hB]; exact f1
 ·rw [(k.both).2 B 2 hB]; exact f2
theorem Dr.keeps {B : Nat} {a b c : World} (h : Dr B a b) (k : Keeps b c) : Dr B a c := ⟨h.1.trans (Touch.of_keeps k _), h.2.keeps k⟩
theorem Dr.of {B : Nat} {a b : World} (h : Src a B) (k : Keeps a b) : Dr B a b := ⟨Touch.of_keeps k _, h.keeps k⟩
theorem Src.lt {w : World} {B : Nat} (h : Src w B) : B < w.heap.size := by
 obtain ⟨v, n, a, h, c0, _⟩ := h
 exact World.block_lt_of_cell? _ _ c0
theorem Dr.size {B : Nat} {a b : World} (h : Dr B a b) : a.heap.size ≤ b.heap.size := h.1.size
theorem Dr.keepsOf {B : Nat} {a b c : World} (k : Keeps a b) (hB : a.heap.size ≤ B) (h : Dr B b c) : Keeps a c := k.touch h.1 (fun i hi => by omega)
theorem and24 (x : Int) : ∃ r : Nat, bits .and .u64 x 16777215 = (r : Int) ∧ r ≤ 16777215 := by
 refine ⟨(BitVec.ofInt 64 x &&& BitVec.ofInt 64 16777215).toNat, ?_, ?_⟩
 ·show IntKind.u64.wrap ((BitVec.ofInt 64 x &&& BitVec.ofInt 64 16777215).toNat : Int) = _
  have h1 := (BitVec.ofInt 64 x &&& BitVec.ofInt 64 16777215).isLt
  generalize (BitVec.ofInt 64 x &&& BitVec.ofInt 64 16777215).toNat = k at h1 ⊢
  simp [IntKind.wrap, IntKind.bits, IntKind.signed]
  omega
 ·rw [BitVec.toNat_and]
  exact Nat.le_trans Nat.and_le_right (by decide)
set_option maxRecDepth 20000 in
set_option maxHeartbeats 1000000 in
theorem l01Next_any (n : Int) (B : Nat) (w : World) (hs : Src w B) (hn : n ≤ 1000000) : Calls Tryz.prog 50 #[.pointer (some ⟨B, 0, none⟩), .int .i64 n] w fun e w' => ∃ r : Nat, e = .returned (.int .i64 r) ∧ ((r : Int) < n ∨ r = 0) ∧ Dr B w w' := by
 by_cases h1 : n < 1
 ·go_enter Tryz.func50, Tryz.ntmps50
  go_wp2
  go_ret
  exact ⟨0, rfl, .inr rfl, Dr.of hs (Keeps.refl w)⟩
 ·obtain ⟨v, m, a, h, c0, c1, c2, f1, f2, ha, hb⟩ := hs
  obtain ⟨p, cap, rfl, hmc, hmx, hbt⟩ := hb
  unfold maxLen at hmx
  have HB := hid hbt
  go_enter Tryz.func50, Tryz.ntmps50
  go_wp2
  obtain ⟨y, hy, hyl⟩ := and24 (IntKind.u64.wrap (IntKind.u64.wrap (h * 6364136223846793005) + 1442695040888963407) / 8589934592)
  have hwy : wrap64 (y : Int) = y := by unfold wrap64; omega
  rw [hy, hwy]
  clear hy hwy
  generalize IntKind.u64.wrap (IntKind.u64.wrap (h * 6364136223846793005) + 1442695040888963407) = h2
  have t2 : Touch w (w.setCell ⟨B, 2, none⟩ (.int .u64 h2)) (fun i => i = B) := (Touch.grown (grown_set B 2 _)).mono (fun k e => by cases e; rfl)
  have d0 : (w.setCell ⟨B, 2, none⟩ (.int .u64 h2)).cell? ⟨B, 0, none⟩ = some (.slice p m cap) := by rw [World.cell?_setCell_other _ _ _ _ (by simp)]; exact c0
  have d1 : (w.setCell ⟨B, 2, none⟩ (.int .u64 h2)).cell? ⟨B, 1, none⟩ = some (.int .i64 a) := by rw [World.cell?_setCell_other _ _ _ _ (by simp)]; exact c1
  have d2 : (w.setCell ⟨B, 2, none⟩ (.int .u64 h2)).cell? ⟨B, 2, none⟩ = some (.int .u64 h2) := World.cell?_setCell_same _ _ _ c2
  have g1 : (w.setCell ⟨B, 2, none⟩ (.int .u64 h2)).frozen? ⟨B, 1, none⟩ = false := by simpa using f1
  have g2 : (w.setCell ⟨B, 2, none⟩ (.int .u64 h2)).frozen? ⟨B, 2, none⟩ = false := by simpa using f2
  have hb2 : BtsB (w.setCell ⟨B, 2, none⟩ (.int .u64 h2)) (.slice p m cap) m B := BtsB.touch ⟨p, cap, rfl, hmc, hmx, HB.out⟩ t2
  have T2 := hid t2; clear t2
  generalize w.setCell ⟨B, 2, none⟩ (.int .u64 h2) = w2 at *
  clear c0 c1 c2 f1 f2 hbt
  by_cases hlt : a < m
  ·have hlt' : (a : Int) < m := by omega
   obtain ⟨b, off, x, rfl, hx, hx8, hbB⟩ : ∃ b off, ∃ x : Nat, p = some ⟨b, off, none⟩ ∧ w2.cell? ⟨b, off + a, none⟩ = some (.int .u8 x) ∧ x < 256 ∧ b < B := by
    obtain ⟨p', cap', e, _, _, h3⟩ := hb2
    cases e
    exact h3 a hlt
   go_quiet (fail)
   go_wp2_with fail
   go_quiet (fail)
   go_wp2_with fail
   go_ret
   have hr0 : 0 ≤ ((y : Int) + x) % n := Int.emod_nonneg _ (by omega)
   have hr1 : ((y : Int) + x) % n < n := Int.emod_lt_of_pos _ (by omega)
   have t3 : ∀ z, Touch w2 ((w2.drewN z).setCell ⟨B, 1, none⟩ (.int .i64 ((a : Int) + 1))) (fun i => i = B) := fun z => (Touch.of_keeps ((Keeps.refl w2).drewN z) _).trans ((Touch.grown (grown_set B 1 _)).mono (fun k e => by cases e; rfl))
   refine ⟨(((y : Int) + x) % n).toNat, ret_int (by omega), .inl (by omega), T2.out.trans (t3 _), _, m, a + 1, h2, ?_, ?_, ?_, ?_, ?_, by omega, hb2.touch (t3 _)⟩
   ·rw [World.cell?_setCell_other _ _ _ _ (by simp)]; exact d0
   ·refine (World.cell?_setCell_same _ _ _ (u := .int .i64 a) ?_).trans ?_
    ·exact d1
    ·simp
   ·rw [World.cell?_setCell_other _ _ _ _ (by simp)]; exact d2
   ·simpa using g1
   ·simpa using g2
  ·have hlt' : ¬ (a : Int) < m := by omega
   go_quiet (fail)
   go_wp2_with fail
   go_ret
   have hr0 : 0 ≤ (y : Int) % n := Int.emod_nonneg _ (by omega)
   have hr1 : (y : Int) % n < n := Int.emod_lt_of_pos _ (by omega)
   have t3 := Touch.of_keeps ((Keeps.refl w2).drewN nq) (fun i => i = B)
   exact ⟨((y : Int) % n).toNat, ret_int (by omega), .inl (by omega), T2.out.trans t3, _, m, a, h2, d0, d1, d2, g1, g2, ha, hb2.touch t3⟩
def Bts (w : World) (v : Value) (n : Nat) : Prop := BtsB w v n w.heap.size
theorem BtsB.low {w w' : World} {v : Value} {n B : Nat} (h : BtsB w v n B) (k : Keeps w w') : BtsB w' v n B := by
 obtain ⟨p, cap, e, h1, h2, h3⟩ := h
 refine ⟨p, cap, e, h1, h2, fun j hj => ?_⟩
 obtain ⟨b, off, x, e2, hc, hx, hb⟩ := h3 j hj
 exact ⟨b, off, x, e2, k.cell hc, hx, hb⟩
theorem BtsB.up {w : World} {v : Value} {n B B' : Nat} (h : BtsB w v n B) (k : B ≤ B') : BtsB w v n B' := by
 obtain ⟨p, cap, e, h1, h2, h3⟩ := h
 refine ⟨p, cap, e, h1, h2, fun j hj => ?_⟩
 obtain ⟨b, off, x, e2, hc, hx, hb⟩ := h3 j hj
 exact ⟨b, off, x, e2, hc, hx, by omega⟩
def FromRel (w : World) (v : Value) (wr : World) : Prop := Keeps w wr ∧ ∃ h, wr.cell? ⟨w.heap.size, 0, none⟩ = some v ∧ wr.cell? ⟨w.heap.size, 1, none⟩ = some (.int .i64 0) ∧ wr.cell? ⟨w.heap.size, 2, none⟩ = some (.int .u64 h) ∧ wr.frozen? ⟨w.heap.size, 1, none⟩ = false ∧ wr.frozen? ⟨w.heap.size, 2, none⟩ = false
theorem FromRel.step {w wr : World} {v : Value} (hr : FromRel w v wr) (x : Int) : FromRel w v (wr.setCell ⟨w.heap.size, 2, none⟩ (.int .u64 x)).drew := by
 obtain ⟨kw, h, c0, c1, c2, f1, f2⟩ := hr
 refine ⟨Keeps.drew (kw.setCell (by simp) _), x, ?_, ?_, ?_, ?_, ?_⟩
 ·show (World.setCell _ _ _).cell? _ = _
  rw [World.cell?_setCell_other _ _ _ _ (by simp)]; exact c0
 ·show (World.setCell _ _ _).cell? _ = _
  rw [World.cell?_setCell_other _ _ _ _ (by simp)]; exact c1
 ·show (World.setCell _ _ _).cell? _ = _
  exact World.cell?_setCell_same _ _ _ c2
 ·show (World.setCell _ _ _).frozen? _ = _
  simpa using f1
 ·show (World.setCell _ _ _).frozen? _ = _
  simpa using f2
set_option maxRecDepth 20000 in
set_option maxHeartbeats 1000000 in
theorem l01From_any (v : Value) (n : Nat) (w : World) (hv : Bts w v n) (hn : n ≤ 4096) : Calls Tryz.prog 32 #[v] w fun e w' => ∃ B, e = .returned (.pointer (some ⟨B, 0, none⟩)) ∧ w.heap.size ≤ B ∧ Src w' B ∧ Keeps w w' := by
 have hv0 := hv
 obtain ⟨p, cap, rfl, hmc, hmx, hbt⟩ := hv
 unfold maxLen at hmx
 have HB := hid hv0; clear hv0 hbt
 go_enter Tryz.func32, Tryz.ntmps32
 go_wp2
 have hk0 : Keeps w (w.alloc (.cells #[.slice p n cap, .int .i64 0, .int .u64 (7129 + (n : Int))] 90)) := (Keeps.refl w).alloc _
 go_loopw [4] (fun i' wr => ∃ k : Nat, k ≤ n ∧ i' = .int .i64 k ∧ FromRel w (.slice p n cap) wr) (fun i _ => n - (intOf i).toNat)
 case atStart => exact ⟨0, by omega, rfl, hk0, (7129 + (n : Int)), by simp, by simp, by simp, by simp, by simp⟩
 case round =>
  obtain ⟨k, hk, rfl, kw, h, c0, c1, c2, f1, f2⟩ := hrel
  clear hk0
  by_cases hlt : k < n
  ·have hlt' : (k : Int) < n := by omega
   have hlt4 : (k : Int) < 4096 := by omega
   obtain ⟨b, off, x, rfl, hx, hx8, hbB⟩ : ∃ b off, ∃ x : Nat, p = some ⟨b, off, none⟩ ∧ wr.cell? ⟨b, off + k, none⟩ = some (.int .u8 x) ∧ x < 256 ∧ b < w.heap.size := by
    obtain ⟨p', cap', e, _, _, h3⟩ := HB.out.low kw
    cases e
    exact h3 k hlt
   go_wp2_with fail
   go_region
   go_wp2_with fail
   go_roundw
   case rel => exact ⟨k + 1, by omega, by go_num, FromRel.step ⟨kw, h, c0, c1, c2, f1, f2⟩ _⟩
   case measure => simp [intOf]; omega
  ·have hlt' : ¬ (k : Int) < n := by omega
   go_wp2_with fail
   go_ret
   exact ⟨_, rfl, Nat.le_refl _, ⟨_, n, 0, h, c0, c1, c2, f1, f2, by omega, HB.out.low kw⟩, kw⟩
end Go.Proofs.YtfmmajgkjkmghaaGreat
namespace Go.Proofs.YtfmmajgkjkmghaaGreat
open Go.RowKit
theorem OwnN.dr {w w' : World} {B b : Nat} {v : Value} {a : List Nd} (h : OwnN w b v a) (k : Dr B w w') (hB : B < b) : OwnN w' b v a := h.touch k.1 (fun i hi e => by have := (h.len i hi).1; omega)
def DrawN (B n : Nat) (w : World) (e : Ending) (w' : World) : Prop := ∃ v, ∃ t : Fm, e = .returned v ∧ OwnN w' w.heap.size v t.enc ∧ t.enc.length ≤ max n 1 ∧ Dr B w w'
theorem OwnN.own_shape {w : World} {B : Nat} {v : Value} {a : List Nd} (h : OwnN w B v a) : ∃ p n c, v = .slice p n c := by
 obtain ⟨p, c, e, _⟩ := At.of_own h
 exact ⟨p, _, c, e⟩
theorem pre_tree (r : Nat) (t : Fm) (h : r < 2) : ∃ u : Fm, (⟨5 + r, 0⟩ : Nd) :: t.enc = u.enc ∧ u.enc.length = t.enc.length + 1 := by
 have : r = 0 ∨ r = 1 := by omega
 rcases this with rfl | rfl
 ·exact ⟨.box t, rfl, by simp [Fm.enc]⟩
 ·exact ⟨.dia t, rfl, by simp [Fm.enc]⟩
theorem pair_tree (r : Nat) (t u : Fm) (h : r < 3) : ∃ z : Fm, (⟨2 + r, 0⟩ : Nd) :: (t.enc ++ u.enc) = z.enc ∧ z.enc.length = t.enc.length + u.enc.length + 1 := by
 have : r = 0 ∨ r = 1 ∨ r = 2 := by omega
 rcases this with rfl | rfl | rfl
 ·exact ⟨.and t u, rfl, by simp [Fm.enc]⟩
 ·exact ⟨.or t u, rfl, by simp [Fm.enc]⟩
 ·exact ⟨.imp t u, rfl, by simp [Fm.enc]⟩
set_option maxRecDepth 20000 in
set_option maxHeartbeats 4000000 in
theorem l02Draw_any (B vr : Nat) (hvr : vr ≤ 1000) (m : Bool) : ∀ n : Nat, n ≤ 1000 → ∀ w, Src w B → Calls Tryz.prog 194 #[.pointer (some ⟨B, 0, none⟩), .int .i64 n, .int .i64 vr, .bool m] w (DrawN B n w) := by
 intro n
 induction n using Nat.strongRecOn with
 | ind n ih =>
 intro hn w hs
 have IH := hid (fun k hk (hk2 : k ≤ 1000) w2 hs2 => ih k hk hk2 w2 hs2); clear ih
 by_cases h2 : n ≤ 2
 ·have h2' : (n : Int) ≤ 2 := by omega
  go_enter Tryz.func194, Tryz.ntmps194
  go_wp2_with fail
  refine (l01Next_any 8 B _ hs (by omega)).mono ?_; rintro e w1 ⟨r1, rfl, hr1, d1⟩
  have D1 : Dr B w w1 := d1
  by_cases hz1 : r1 = 0
  ·subst hz1
   go_wp2_with fail
   refine (l02False_any _).mono ?_; rintro e w9 ⟨v9, rfl, hv9, k9⟩
   go_wp2_with fail
   go_ret
   exact ⟨_, .fls, rfl, hv9.mono D1.size, by simp [Fm.enc]; omega, D1.keeps k9⟩
  ·have hz' : ((r1 : Nat) : Int) ≠ 0 := by omega
   go_wp2_with fail
   refine (l01Next_any (vr : Int) B _ D1.2 (by omega)).mono ?_; rintro e w8 ⟨r8, rfl, hr8, d8⟩
   have D8 := D1.trans d8
   go_wp2_with fail
   refine (l02Var_any r8 _).mono ?_; rintro e w9 ⟨v9, rfl, hv9, k9⟩
   go_wp2_with fail
   go_ret
   exact ⟨_, .var r8, rfl, hv9.mono D8.size, by simp [Fm.enc]; omega, D8.keeps k9⟩
 ·have h2' : ¬ (n : Int) ≤ 2 := by omega
  have hn3 : 2 < n := by omega
  cases m with
  | false =>
   go_enter Tryz.func194, Tryz.ntmps194
   go_wp2_with fail
   refine (l01Next_any 9 B _ hs (by omega)).mono ?_; rintro e w1 ⟨r1, rfl, hr1, d1⟩
   by_cases hz1 : r1 = 0
   ·subst hz1
    go_wp2_with fail
    refine (l01Next_any 8 B _ d1.2 (by omega)).mono ?_; rintro e w2 ⟨r2, rfl, hr2, d2⟩
    have D2 : Dr B w w2 := (d1.trans d2)
    by_cases hz2 : r2 = 0
    ·subst hz2
     go_wp2_with fail
     refine (l02False_any _).mono ?_; rintro e w9 ⟨v9, rfl, hv9, k9⟩
     go_wp2_with fail
     go_ret
     exact ⟨_, .fls, rfl, hv9.mono D2.size, by simp [Fm.enc]; omega, D2.keeps k9⟩
    ·have hz' : ((r2 : Nat) : Int) ≠ 0 := by omega
     go_wp2_with fail
     refine (l01Next_any (vr : Int) B _ D2.2 (by omega)).mono ?_; rintro e w8 ⟨r8, rfl, hr8, d8⟩
     have D8 := D2.trans d8
     go_wp2_with fail
     refine (l02Var_any r8 _).mono ?_; rintro e w9 ⟨v9, rfl, hv9, k9⟩
     go_wp2_with fail
     go_ret
     exact ⟨_, .var r8, rfl, hv9.mono D8.size, by simp [Fm.enc]; omega, D8.keeps k9⟩
   ·have hz1' : ((r1 : Nat) : Int) ≠ 0 := by omega
    go_wp2_with fail
    refine (l01Next_any 6 B _ d1.2 (by omega)).mono ?_; rintro e w3 ⟨r3, rfl, hr3, d3⟩
    have D3 := d1.trans d3
    by_cases hz3 : r3 = 0
    ·subst hz3
     have IH2 := hid (IH.out (n - 2) (by omega) (by omega) w3 D3.2)
     have hc2 : ((n - 2 : Nat) : Int) = (n : Int) - 2 := by omega
     rw [hc2] at IH2
     go_wp2_with fail
     refine IH2.out.mono ?_; rintro e w4 ⟨v4, t4, rfl, hv4, hl4, d4⟩
     have D4 := D3.trans d4
     obtain ⟨p4, n4, q4, rfl⟩ := hv4.own_shape
     have HNt := hid (l02Not_any t4 _ w4 (hv4.nds (by omega)) (by omega))
     clear hv4
     go_wp2_with fail
     refine HNt.out.mono ?_; rintro e w5 ⟨v5, rfl, hv5, k5⟩
     go_wp2_with fail
     go_ret
     exact ⟨_, Fm.not t4, rfl, hv5.mono D4.size, by simp [Fm.not, Fm.enc]; omega, D4.keeps k5⟩
    ·have hz' : ((r3 : Nat) : Int) ≠ 0 := by omega
     go_wp2_with fail
     refine (l01Next_any ((n : Int) - 2) B _ D3.2 (by omega)).mono ?_; rintro e w4 ⟨r4, rfl, hr4, d4⟩
     have D4 := D3.trans d4
     have hr4' : r4 + 2 < n := by omega
     have IH5 := hid (IH.out (1 + r4) (by omega) (by omega) w4 D4.2)
     have hc5 : ((1 + r4 : Nat) : Int) = 1 + (r4 : Int) := by omega
     rw [hc5] at IH5
     go_wp2_with fail
     refine IH5.out.mono ?_; rintro e w5 ⟨v5, t5, rfl, hv5, hl5, d5⟩
     have D5 := D4.trans d5
     have hB5 : B < w4.heap.size := D4.2.lt
     obtain ⟨p5, n5, q5, rfl⟩ := hv5.own_shape
     go_wp2_with fail
     refine (l01Next_any 3 B _ D5.2 (by omega)).mono ?_; rintro e w6 ⟨r6, rfl, hr6, d6⟩
     have D6 := D5.trans d6
     have hv6 := hv5.dr d6 hB5
     have IH7 := hid (IH.out (n - 1 - (1 + r4)) (by omega) (by omega) w6 D6.2)
     have hc7 : ((n - 1 - (1 + r4) : Nat) : Int) = (n : Int) - 1 - (1 + (r4 : Int)) := by omega
     rw [hc7] at IH7
     clear hv5
     go_wp2_with fail
     refine IH7.out.mono ?_; rintro e w7 ⟨v7, t7, rfl, hv7, hl7, d7⟩
     have D7 := D6.trans d7
     have hv8 := hv6.dr d7 hB5
     obtain ⟨p7, n7, q7, rfl⟩ := hv7.own_shape
     have HPr := hid (l02Pair_any (2 + (r6 : Int)) _ _ _ _ w7 (hv8.nds (by omega)) (hv7.nds (by omega)) (by omega))
     obtain ⟨z, hz, hzl⟩ := pair_tree r6 t5 t7 (by omega)
     rw [hz] at HPr
     clear hv6 hv7 hv8 hz
     go_wp2_with fail
     refine HPr.out.mono ?_; rintro e w8 ⟨v8, rfl, hv9, k9⟩
     go_wp2_with fail
     go_ret
     exact ⟨_, z, rfl, hv9.mono D7.size, by omega, D7.keeps k9⟩
  | true =>
   go_enter Tryz.func194, Tryz.ntmps194
   go_wp2_with fail
   refine (l01Next_any 9 B _ hs (by omega)).mono ?_; rintro e w1 ⟨r1, rfl, hr1, d1⟩
   by_cases hz1 : r1 = 0
   ·subst hz1
    go_wp2_with fail
    refine (l01Next_any 8 B _ d1.2 (by omega)).mono ?_; rintro e w2 ⟨r2, rfl, hr2, d2⟩
    have D2 : Dr B w w2 := (d1.trans d2)
    by_cases hz2 : r2 = 0
    ·subst hz2
     go_wp2_with fail
     refine (l02False_any _).mono ?_; rintro e w9 ⟨v9, rfl, hv9, k9⟩
     go_wp2_with fail
     go_ret
     exact ⟨_, .fls, rfl, hv9.mono D2.size, by simp [Fm.enc]; omega, D2.keeps k9⟩
    ·have hz' : ((r2 : Nat) : Int) ≠ 0 := by omega
     go_wp2_with fail
     refine (l01Next_any (vr : Int) B _ D2.2 (by omega)).mono ?_; rintro e w8 ⟨r8, rfl, hr8, d8⟩
     have D8 := D2.trans d8
     go_wp2_with fail
     refine (l02Var_any r8 _).mono ?_; rintro e w9 ⟨v9, rfl, hv9, k9⟩
     go_wp2_with fail
     go_ret
     exact ⟨_, .var r8, rfl, hv9.mono D8.size, by simp [Fm.enc]; omega, D8.keeps k9⟩
   ·have hz1' : ((r1 : Nat) : Int) ≠ 0 := by omega
    go_wp2_with fail
    refine (l01Next_any 3 B _ d1.2 (by omega)).mono ?_; rintro e w2 ⟨r2, rfl, hr2, d2⟩
    have D2 := d1.trans d2
    by_cases hz2 : r2 = 0
    ·subst hz2
     go_wp2_with fail
     refine (l01Next_any 2 B _ D2.2 (by omega)).mono ?_; rintro e w3 ⟨r3, rfl, hr3, d3⟩
     have D3 := D2.trans d3
     have IH4 := hid (IH.out (n - 1) (by omega) (by omega) w3 D3.2)
     have hc4 : ((n - 1 : Nat) : Int) = (n : Int) - 1 := by omega
     rw [hc4] at IH4
     go_wp2_with fail
     refine IH4.out.mono ?_; rintro e w4 ⟨v4, t4, rfl, hv4, hl4, d4⟩
     have D4 := D3.trans d4
     obtain ⟨p4, n4, q4, rfl⟩ := hv4.own_shape
     have HPr := hid (l02Pre_any (5 + (r3 : Int)) _ _ w4 (hv4.nds (by omega)) (by omega))
     obtain ⟨z, hz, hzl⟩ := pre_tree r3 t4 (by omega)
     rw [hz] at HPr
     clear hv4 hz
     go_wp2_with fail
     refine HPr.out.mono ?_; rintro e w5 ⟨v5, rfl, hv5, k5⟩
     go_wp2_with fail
     go_ret
     exact ⟨_, z, rfl, hv5.mono D4.size, by omega, D4.keeps k5⟩
    ·have hz2' : ((r2 : Nat) : Int) ≠ 0 := by omega
     go_wp2_with fail
     refine (l01Next_any 6 B _ D2.2 (by omega)).mono ?_; rintro e w3 ⟨r3, rfl, hr3, d3⟩
     have D3 := D2.trans d3
     by_cases hz3 : r3 = 0
     ·subst hz3
      have IH2 := hid (IH.out (n - 2) (by omega) (by omega) w3 D3.2)
      have hc2 : ((n - 2 : Nat) : Int) = (n : Int) - 2 := by omega
      rw [hc2] at IH2
      go_wp2_with fail
      refine IH2.out.mono ?_; rintro e w4 ⟨v4, t4, rfl, hv4, hl4, d4⟩
      have D4 := D3.trans d4
      obtain ⟨p4, n4, q4, rfl⟩ := hv4.own_shape
      have HNt := hid (l02Not_any t4 _ w4 (hv4.nds (by omega)) (by omega))
      clear hv4
      go_wp2_with fail
      refine HNt.out.mono ?_; rintro e w5 ⟨v5, rfl, hv5, k5⟩
      go_wp2_with fail
      go_ret
      exact ⟨_, Fm.not t4, rfl, hv5.mono D4.size, by simp [Fm.not, Fm.enc]; omega, D4.keeps k5⟩
     ·have hz' : ((r3 : Nat) : Int) ≠ 0 := by omega
      go_wp2_with fail
      refine (l01Next_any ((n : Int) - 2) B _ D3.2 (by omega)).mono ?_; rintro e w4 ⟨r4, rfl, hr4, d4⟩
      have D4 := D3.trans d4
      have hr4' : r4 + 2 < n := by omega
      have IH5 := hid (IH.out (1 + r4) (by omega) (by omega) w4 D4.2)
      have hc5 : ((1 + r4 : Nat) : Int) = 1 + (r4 : Int) := by omega
      rw [hc5] at IH5
      go_wp2_with fail
      refine IH5.out.mono ?_; rintro e w5 ⟨v5, t5, rfl, hv5, hl5, d5⟩
      have D5 := D4.trans d5
      have hB5 : B < w4.heap.size := D4.2.lt
      obtain ⟨p5, n5, q5, rfl⟩ := hv5.own_shape
      go_wp2_with fail
      refine (l01Next_any 3 B _ D5.2 (by omega)).mono ?_; rintro e w6 ⟨r6, rfl, hr6, d6⟩
      have D6 := D5.trans d6
      have hv6 := hv5.dr d6 hB5
      have IH7 := hid (IH.out (n - 1 - (1 + r4)) (by omega) (by omega) w6 D6.2)
      have hc7 : ((n - 1 - (1 + r4) : Nat) : Int) = (n : Int) - 1 - (1 + (r4 : Int)) := by omega
      rw [hc7] at IH7
      clear hv5
      go_wp2_with fail
      refine IH7.out.mono ?_; rintro e w7 ⟨v7, t7, rfl, hv7, hl7, d7⟩
      have D7 := D6.trans d7
      have hv8 := hv6.dr d7 hB5
      obtain ⟨p7, n7, q7, rfl⟩ := hv7.own_shape
      have HPr := hid (l02Pair_any (2 + (r6 : Int)) _ _ _ _ w7 (hv8.nds (by omega)) (hv7.nds (by omega)) (by omega))
      obtain ⟨z, hz, hzl⟩ := pair_tree r6 t5 t7 (by omega)
      rw [hz] at HPr
      clear hv6 hv7 hv8 hz
      go_wp2_with fail
      refine HPr.out.mono ?_; rintro e w8 ⟨v8, rfl, hv9, k9⟩
      go_wp2_with fail
      go_ret
      exact ⟨_, z, rfl, hv9.mono D7.size, by omega, D7.keeps k9⟩
end Go.Proofs.YtfmmajgkjkmghaaGreat
namespace Go.Proofs.YtfmmajgkjkmghaaGreat
open Go.RowKit
theorem OwnI.dr {w w' : World} {B b : Nat} {v : Value} {a : List Int} (h : OwnI w b v a) (k : Dr B w w') (hB : B < b) : OwnI w' b v a := own_touch h k.1 (fun i hi e => by have := (h.len i hi).1; omega)
theorem OwnN.cut {w : World} {B g cap : Nat} {a : List Nd} (h : OwnN w B (.slice (some ⟨g, 0, none⟩) a.length cap) a) (k : Nat) (hk : k ≤ a.length) : OwnN w B (.slice (some ⟨g, 0, none⟩) k cap) (a.take k) := by
 have hcl := ndCells_length a
 obtain ⟨hl, h | ⟨g', cap', cur, hv, hb, hg, hnc, hcm, hcs, ht⟩⟩ := h
 ·cases h.1
 cases hv
 have e : (a.take k).length = k := by simp; omega
 have hcells : ∀ (l : List Nd) (k : Nat), ndCells (l.take k) = (ndCells l).take (k * 2) := by
  intro l
  induction l with
  | nil => intro k; simp [ndCells]
  | cons x l ih =>
   intro k
   cases k with
   | zero => simp [ndCells]
   | succ k => rw [List.take_succ_cons, ndCells, ih, show (k + 1) * 2 = k * 2 + 1 + 1 by omega]; rfl
 unfold OwnN
 rw [e]
 refine ⟨by rw [ndCells_length, e], .inr ⟨g, cap, cur, rfl, hb, hg, by omega, hcm, hcs, ?_⟩⟩
 rw [hcells, ← ht, List.take_take, Nat.min_eq_left (by omega)]
theorem tailN (g m cap l : Nat) (hl : l ≤ m) (hc : m ≤ cap) (hm : cap ≤ maxLen) (w : World) (B : Nat) (a : List Nd) (h : OwnN w B (.slice (some ⟨g, 0, none⟩) m cap) a) (ha : a.length ≤ 2147483648) :
  Nds w (.slice (if cap = l then some ⟨g, 0, none⟩ else some ⟨g, l * 2, none⟩) (m - l) (cap - l)) (a.drop l) := by
 ·obtain ⟨_, _, e, _, _, hat, _⟩ := h.nds ha
  injection e with e1 e2 e3
  subst e1; subst e2; subst e3
  have hdl : (a.drop l).length = a.length - l := by simp
  refine ⟨_, cap - l, by rw [hdl], by omega, by omega, ?_, by omega⟩
  split
  ·have : a.drop l = [] := List.drop_eq_nil_of_le (by omega)
   rw [this]; exact At.nil _ _
  ·intro j hj
   obtain ⟨b', off', hp, hc'⟩ := hat (l * 2 + j) (by rw [ndCells_length] at hj ⊢; omega)
   cases hp
   refine ⟨g, _, rfl, ?_⟩
   rw [show l * 2 + j = 0 + (l * 2 + j) by omega, hc']
   have hcd : ∀ (x : List Nd) (k : Nat), ndCells (x.drop k) = (ndCells x).drop (k * 2) := by
    intro x
    induction x with
    | nil => intro k; simp [ndCells]
    | cons y x ih =>
     intro k
     cases k with
     | zero => simp
     | succ k => rw [List.drop_succ_cons, ih, show (k + 1) * 2 = k * 2 + 1 + 1 by omega]; rfl
   simp [hcd]
set_option maxRecDepth 20000 in
theorem l01Pick_any (B b : Nat) (xs : List Int) (v : Value) (w : World) (hs : Src w B) (hv : OwnI w b v xs) (hB : B < b) (hp : 0 < xs.length) (hl : xs.length ≤ 1000) :
  Calls Tryz.prog 106 #[.pointer (some ⟨B, 0, none⟩), v] w fun e w' => ∃ x ∈ xs, e = .returned (.int .i64 x) ∧ Dr B w w' := by
 have hv0 := hv
 obtain ⟨g, cap, rfl, _, _, _, hmx⟩ := hv.shape hp
 unfold maxLen at hmx
 clear hv
 go_enter Tryz.func106, Tryz.ntmps106
 go_wp2_with fail
 refine (l01Next_any (xs.length : Int) B w hs (by omega)).mono ?_; rintro e w2 ⟨r, rfl, hr, d2⟩
 have hrl : r < xs.length := by omega
 have hrl' : (r : Int) < xs.length := by omega
 obtain ⟨hc, _⟩ := (hv0.dr d2 hB).cell r hrl
 go_wp2_with fail
 go_ret
 exact ⟨xs[r], List.getElem_mem hrl, rfl, d2⟩
theorem OwnI.lit (w : World) (xs : List Int) (hl : xs.length ≤ maxLen) : OwnI (w.alloc (.cells (intCells xs).toArray 2)) w.heap.size (.slice (some ⟨w.heap.size, 0, none⟩) xs.length xs.length) xs :=
 ⟨by simp [intCells], .inr ⟨w.heap.size, xs.length, _, rfl, Nat.le_refl _, heap_alloc_new w _, Nat.le_refl _, hl, by simp [intCells], by rw [List.take_of_length_le (by simp [intCells])]⟩⟩
theorem Dr.beside {B g : Nat} {a b c : World} (h : Dr B a b) (k : Touch b c (fun i => i = g)) (hg : B < g) (ha : a.heap.size ≤ g) : Dr B a c := by
 have hs : Src c B := by
  obtain ⟨v, n, x, hh, c0, c1, c2, f1, f2, hx, p, cap, e, q1, q2, q3⟩ := h.2
  have hBl := World.block_lt_of_cell? _ _ c0
  have kc := k.cell hBl (show ¬ B = g by omega)
  refine ⟨v, n, x, hh, by rw [kc.1]; exact c0, by rw [kc.1]; exact c1, by rw [kc.1]; exact c2, by rw [kc.2]; exact f1, by rw [kc.2]; exact f2, hx, p, cap, e, q1, q2, fun j hj => ?_⟩
  obtain ⟨b', off, y, e2, hc, hy, hb⟩ := q3 j hj
  exact ⟨b', off, y, e2, by rw [(k.cell (b := b') (World.block_lt_of_cell? _ _ hc) (by omega)).1]; exact hc, hy, hb⟩
 refine ⟨⟨k.os.trans h.1.os, k.tape.trans h.1.tape, k.output.trans h.1.output, Nat.le_trans h.1.size k.size, fun i hi hn => ?_⟩, hs⟩
 rw [k.block i (Nat.lt_of_lt_of_le hi h.1.size) (by omega)]
 exact h.1.block i hi hn
def SzGe (w w' : World) : Prop := w.heap.size ≤ w'.heap.size
def DrawA (B n : Nat) (w : World) (e : Ending) (w' : World) : Prop := ∃ v, ∃ a : List Nd, e = .returned v ∧ OwnN w' w.heap.size v a ∧ a.length ≤ n ∧ Dr B w w'
set_option maxRecDepth 20000 in
set_option maxHeartbeats 4000000 in
theorem l02Bend_any (B : Nat) (a : List Nd) (v : Value) (w : World) (hs : Src w B) (hv : Nds w v a) (hp : 0 < a.length) (hl : a.length ≤ 1000) :
  Calls Tryz.prog 195 #[.pointer (some ⟨B, 0, none⟩), v] w (DrawA B (a.length + 1) w) := by
 have hB := hs.lt
 have HO := hid (l02Own_any a v w hv (by omega))
 obtain ⟨p, n, c, rfl⟩ := hv.shape
 clear hv
 go_enter Tryz.func195, Tryz.ntmps195
 go_wp2_with fail
 refine HO.out.mono ?_; rintro e w1 ⟨v1, rfl, h1, k1⟩
 obtain ⟨g, cap, rfl, hg0, hg1, hgc, hgm⟩ := h1.shape hp
 have D1 := Dr.of hs k1
 have hgm' := hgm
 unfold maxLen at hgm
 go_wp2_with fail
 refine (l01Next_any (a.length : Int) B w1 D1.2 (by omega)).mono ?_; rintro e w2 ⟨k, rfl, hk, d2⟩
 have hkl : k < a.length := by omega
 have hkl' : (k : Int) < a.length := by omega
 have D2 := D1.trans d2
 have h2 := h1.dr d2 hB
 go_wp2_with fail
 refine (l01Next_any 5 B w2 D2.2 (by omega)).mono ?_; rintro e w3 ⟨r, rfl, hr, d3⟩
 have D3 := D2.trans d3
 have h3 := h2.dr d3 hB
 clear h1 h2
 have hr5 : r = 0 ∨ r = 1 ∨ r = 2 ∨ r = 3 ∨ r = 4 := by omega
 clear hr
 rcases hr5 with rfl | rfl | rfl | rfl | rfl
 ·go_wp2_with fail
  refine (l01Next_any 9 B w3 D3.2 (by omega)).mono ?_; rintro e w4 ⟨x, rfl, hx, d4⟩
  have h4 := h3.dr d4 hB
  have D4 := D3.trans d4
  obtain ⟨c0, c1, f0, f1⟩ := h4.cell k hkl
  obtain ⟨hst, hgr⟩ := h4.storek k hkl ((x : Int) - 1)
  have k5 := (k1.trans (Keeps.refl w1))
  have t5 : Touch w4 (w4.setCell ⟨g, k * 2, none⟩ (.int .i64 ((x : Int) - 1))) (fun i => i = g) := (Touch.grown hgr).mono (fun j e => by cases e; rfl)
  have D5 := D4.beside t5 (by omega) hg0
  go_wp2_with fail
  go_ret
  exact ⟨_, _, rfl, hst, by simp, D5⟩
 ·have hlit := OwnI.lit w3 [-1, 0, 1, 5, 6] (by simp [maxLen])
  have ka : Keeps w3 (w3.alloc (.cells #[.int .i64 (-1), .int .i64 0, .int .i64 1, .int .i64 5, .int .i64 6] 2)) := (Keeps.refl w3).alloc _
  have Da := D3.keeps ka
  have ha := h3.keeps ka
  have hPk := hid (l01Pick_any B w3.heap.size [-1, 0, 1, 5, 6] _ _ Da.2 hlit (by have := D3.size; omega) (by simp) (by simp))
  clear hlit h3
  go_wp2_with fail
  refine hPk.out.mono ?_; rintro e w4 ⟨x, _, rfl, d4⟩
  have h4 := ha.dr d4 hB
  have D4 := Da.trans d4
  obtain ⟨c0, c1, f0, f1⟩ := h4.cell k hkl
  obtain ⟨hst, hgr⟩ := h4.stores k hkl x
  have t5 : Touch w4 (w4.setCell ⟨g, k * 2 + 1, none⟩ (.int .i64 x)) (fun i => i = g) := (Touch.grown hgr).mono (fun j e => by cases e; rfl)
  have D5 := D4.beside t5 (by omega) hg0
  go_wp2_with fail
  go_ret
  exact ⟨_, _, rfl, hst, by simp, D5⟩
 ·go_wp2_with fail
  refine (l01Next_any 7 B w3 D3.2 (by omega)).mono ?_; rintro e w4 ⟨x, rfl, hx, d4⟩
  have h4 := h3.dr d4 hB
  have D4 := D3.trans d4
  have hlit := (OwnN.lit1 w4 ⟨x, 0⟩).nds (by simp)
  have ka : Keeps w4 (w4.alloc (.cells #[.int .i64 x, .int .i64 0] 61)) := (Keeps.refl w4).alloc _
  have Da := D4.keeps ka
  have ha := h4.keeps ka
  clear h3 h4
  go_wp2_with (at_builtin; refine appN rfl _ _ rfl w.heap.size _ a rfl ha _ [⟨x, 0⟩] rfl hlit (by have := Da.size; exact this) (by simp; omega) ?_; intro v5 w5 hv5 hg5 hr5)
  have t5 := (Touch.grown hg5).mono (S' := fun i => i = g) (fun j e => by have e2 : some j = some g := e; exact Option.some.inj e2)
  have D5 := Da.beside t5 (by omega) hg0
  go_ret
  exact ⟨_, _, rfl, hv5, by simp, D5⟩
 ·have hcut := h3.cut k (by omega)
  have hkc : (k : Int) ≤ cap := by omega
  go_wp2_with fail
  go_ret
  exact ⟨_, _, rfl, hcut, by simp; omega, D3⟩
 ·have htl0 := tailN g a.length cap (k + 1) (by omega) hgc hgm' w3 _ a h3 (by omega)
  have hkc : (k : Int) ≤ cap := by omega
  have hk1 : (k : Int) + 1 ≤ a.length := by omega
  have hk0 : (0 : Int) ≤ (k : Int) + 1 := by omega
  have hw1 : IntKind.i64.wrap ((k : Int) + 1) = (k : Int) + 1 := Go.IntWalk.i64_in _ (by omega)
  have htn : ((k : Int) + 1).toNat = k + 1 := by omega
  have hcut := h3.cut k (by omega)
  have hsA : SzGe w w3.drew := D3.size
  go_wp2_with fail
  go_region_held3 (fun w' => SzGe w w') (first | exact hsA | exact hsB) (first | (refine stepN rfl (.tmp 50) (.tmp 54) rfl w.heap.size _ (a.take k) rfl (hcut.keeps (Keeps.refl _).drew) _ (a.drop (k + 1)) rfl (htl0.keeps (Keeps.refl _).drew) (by have := D3.size; exact this) (by simp; omega) ?_; intro v5 w5 hv5 hg5 hr5; have hsB : SzGe w w5 := Nat.le_trans hsA hg5.size))
  all_goals
   have t5 := (Touch.grown hg5).mono (S' := fun i => i = g) (fun j e => by have e2 : some j = some g := e; exact Option.some.inj e2)
   have D5 := (D3.keeps (Keeps.refl _).drew).beside t5 (by omega) hg0
   go_wp2_with fail
   all_goals
    go_ret
    exact ⟨_, _, rfl, hv5, by simp; omega, D5⟩
end Go.Proofs.YtfmmajgkjkmghaaGreat
namespace Go.Proofs.YtfmmajgkjkmghaaGreat
open Go.RowKit
def lenV : Value → Nat
 | .slice _ n _ => n
 | _ => 0
def AnyRel (w : World) (B : Nat) (a' : Value) (wr : World) : Prop := ∃ t : Fm, OwnN wr w.heap.size a' t.enc ∧ t.enc.length ≤ 100 ∧ Dr B w wr
set_option maxRecDepth 20000 in
set_option maxHeartbeats 4000000 in
theorem l02Any_any (B vr n : Nat) (hvr : vr ≤ 1000) (hn : n ≤ 100) (m : Bool) (w : World) (hs : Src w B) : Calls Tryz.prog 159 #[.pointer (some ⟨B, 0, none⟩), .int .i64 n, .int .i64 vr, .bool m] w (DrawA B 1000 w) := by
 have hB := hs.lt
 have HD := hid (l02Draw_any B vr hvr m n (by omega) w hs)
 go_enter Tryz.func159, Tryz.ntmps159
 go_wp2_with fail
 refine HD.out.mono ?_; rintro e w1 ⟨v1, t, rfl, hv1, hl1, d1⟩
 have hl100 : t.enc.length ≤ 100 := by omega
 have hpos := Fm.enc_pos t
 obtain ⟨p1, n1, c1, rfl⟩ := hv1.own_shape
 go_wp2_with fail
 refine (l01Next_any 40 B w1 d1.2 (by omega)).mono ?_; rintro e w2 ⟨r, rfl, hr, d2⟩
 have D2 := d1.trans d2
 have hv2 := hv1.dr d2 hB
 clear hv1
 by_cases h0 : r = 0
 ·subst h0
  have HBd := hid (l02Bend_any B t.enc _ w2 D2.2 (hv2.nds (by omega)) hpos (by omega))
  clear hv2
  go_wp2_with fail
  refine HBd.out.mono ?_; rintro e w3 ⟨v3, a3, rfl, hv3, hl3, d3⟩
  go_wp2_with fail
  go_ret
  exact ⟨_, a3, rfl, hv3.mono D2.size, by omega, D2.trans d3⟩
 ·by_cases h1 : r = 1
  ·subst h1
   go_wp2_with fail
   go_loopw [9] (fun a' wr => AnyRel w B a' wr) (fun a' _ => 200 - lenV a')
   case atStart => exact ⟨t, hv2, hl100, D2⟩
   case round =>
    obtain ⟨u, hu, hul, D3⟩ := hrel
    clear hv2
    have hup := Fm.enc_pos u
    obtain ⟨p3, c3, rfl, hc3, hm3, _⟩ := At.of_own hu
    unfold maxLen at hm3
    by_cases h40 : u.enc.length ≤ 40
    ·have h40' : (u.enc.length : Int) ≤ 40 := by omega
     go_wp2_with fail
     refine (l01Next_any 60 B wr D3.2 (by omega)).mono ?_; rintro e w4 ⟨r4, rfl, hr4, d4⟩
     have D4 := D3.trans d4
     have hu4 := hu.dr d4 hB
     by_cases h4 : r4 = 0
     ·subst h4
      go_wp2_with fail
      go_ret
      exact ⟨_, u.enc, rfl, hu4, by omega, D4⟩
     ·have h4' : (0 : Int) < r4 := by omega
      go_wp2_with fail
      refine (l01Next_any 3 B w4 D4.2 (by omega)).mono ?_; rintro e w5 ⟨r5, rfl, hr5, d5⟩
      have D5 := D4.trans d5
      have hu5 := hu4.dr d5 hB
      have HD6 := hid (l02Draw_any B vr hvr m 6 (by omega) w5 D5.2)
      clear hu hu4
      go_wp2_with fail
      refine HD6.out.mono ?_; rintro e w6 ⟨v6, t6, rfl, hv6, hl6, d6⟩
      have D6 := D5.trans d6
      have hu6 := hu5.dr d6 hB
      have ht6 := Fm.enc_pos t6
      obtain ⟨p6, n6, q6, rfl⟩ := hv6.own_shape
      have HPr := hid (l02Pair_any (2 + (r5 : Int)) _ _ _ _ w6 (hu6.nds (by omega)) (hv6.nds (by omega)) (by omega))
      obtain ⟨z, hz, hzl0⟩ := pair_tree r5 u t6 (by omega)
      have hzl := hid hzl0; clear hzl0
      rw [hz] at HPr
      clear hu5 hu6 hv6 hz
      go_wp2_with fail
      refine HPr.out.mono ?_; rintro e w7 ⟨v7, rfl, hv7, k7⟩
      obtain ⟨p7, c7, rfl, _⟩ := At.of_own hv7
      go_wp2_with fail
      go_roundw
      case rel => exact ⟨z, hv7.mono D6.size, by have := hzl.out; omega, D6.keeps k7⟩
      case measure => (have := hzl.out; simp [lenV]; omega)
    ·have h40' : ¬ (u.enc.length : Int) ≤ 40 := by omega
     go_wp2_with fail
     go_ret
     exact ⟨_, u.enc, rfl, hu, by omega, D3⟩
  ·have h0' : ((r : Nat) : Int) ≠ 0 := by omega
   have h1' : ((r : Nat) : Int) ≠ 1 := by omega
   go_wp2_with fail
   go_ret
   exact ⟨_, t.enc, rfl, hv2, by omega, D2⟩
def DrawnA (n : Nat) (w : World) (e : Ending) (w' : World) : Prop := ∃ v, ∃ a : List Nd, e = .returned v ∧ OwnN w' w.heap.size v a ∧ a.length ≤ n ∧ Keeps w w'
end Go.Proofs.YtfmmajgkjkmghaaGreat
