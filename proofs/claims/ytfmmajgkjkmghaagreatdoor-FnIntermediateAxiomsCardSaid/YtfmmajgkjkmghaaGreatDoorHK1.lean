import Derived.Test.YtfmmajgkjkmghaaGreatDoorHP3
import Derived.Test.YtfmmajgkjkmghaaGreatDoorHL1
import Derived.Test.YtfmmajgkjkmghaaGreatDoorHSR
import Derived.Test.YtfmmajgkjkmghaaGreatDoorHAL
import Derived.Test.YtfmmajgkjkmghaaGreatDoorHP4
import Derived.BigQuiet
import Derived.Deep.RegionHeld3
/- The source of draws: what it reads as, its next number. -/
namespace Go.Proofs.YtfmmajgkjkmghaaGreatDoor
open Go.RowKit
def BtsB (w : World) (v : Value) (n B : Nat) : Prop := ∃ p cap, v = .slice p n cap ∧ n ≤ cap ∧ cap ≤ maxLen ∧ ∀ j, j < n → ∃ b off, ∃ x : Nat, p = some ⟨b, off, none⟩ ∧ w.cell? ⟨b, off + j, none⟩ = some (.int .u8 x) ∧ x < 256 ∧ b < B
def Src (w : World) (B : Nat) : Prop := ∃ v n, ∃ at' : Nat, ∃ h : Int, w.cell? ⟨B, 0, none⟩ = some v ∧ w.cell? ⟨B, 1, none⟩ = some (.int .i64 at') ∧ w.cell? ⟨B, 2, none⟩ = some (.int .u64 h) ∧ w.frozen? ⟨B, 1, none⟩ = false ∧ w.frozen? ⟨B, 2, none⟩ = false ∧ at' ≤ n ∧ BtsB w v n B
theorem BtsB.touch {w w' : World} {v : Value} {n B : Nat} (h : BtsB w v n B) (k : Touch w w' (fun i => i = B)) : BtsB w' v n B := by
 obtain ⟨p, cap, e, h1, h2, h3⟩ := h
 refine ⟨p, cap, e, h1, h2, fun j hj => ?_⟩
 obtain ⟨b, off, x, e2, hc, hx, hb⟩ := h3 j hj
 exact ⟨b, off, x, e2, by rw [(k.cell (b := b) (World.block_lt_of_cell? _ _ hc) (by omega)).1]; exact hc, hx, hb⟩
def Dr (B : Nat) (w w' : World) : Prop := Touch w w' (fun i => i = B) ∧ Src w' B
theorem Dr.trans {B : Nat} {a b c : World} (h : Dr B a b) (k : Dr B b c) : Dr B a c := ⟨h.1.trans k.1, k.2⟩
theorem Src.keeps {w w' : World} {B : Nat} (h : Src w B) (k : Keeps w w') : Src w' B := by
 obtain ⟨v, n, a, h, c0, c1, c2, f1, f2, ha, hb⟩ := h
 have hB := World.block_lt_of_cell? _ _ c0
 refine ⟨v, n, a, h, k.cell c0, k.cell c1, k.cell c2, ?_, ?_, ha, hb.touch (Touch.of_keeps k _)⟩
 ·rw [(k.both).2 B 1 hB]; exact f1
 ·rw [(k.both).2 B 2 hB]; exact f2
theorem Dr.keeps {B : Nat} {a b c : World} (h : Dr B a b) (k : Keeps b c) : Dr B a c := ⟨h.1.trans (Touch.of_keeps k _), h.2.keeps k⟩
theorem Dr.of {B : Nat} {a b : World} (h : Src a B) (k : Keeps a b) : Dr B a b := ⟨Touch.of_keeps k _, h.keeps k⟩
theorem Src.lt {w : World} {B : Nat} (h : Src w B) : B < w.heap.size := by
 obtain ⟨v, n, a, h, c0, _⟩ := h
 exact World.block_lt_of_cell? _ _ c0
theorem Dr.size {B : Nat} {a b : World} (h : Dr B a b) : a.heap.size ≤ b.heap.size := h.1.size
theorem Dr.keepsOf {B : Nat} {a b c : World} (k : Keeps a b) (hB : a.heap.size ≤ B) (h : Dr B b c) : Keeps a c := k.touch h.1 (fun i hi => by omega)
theorem and24 (x : Int) : ∃ r : Nat, bits .and .u64 x 16777215 = (r : Int) ∧ r ≤ 16777215 := by
 refine ⟨(BitVec.ofInt 64 x &&& BitVec.ofInt 64 16777215).toNat, ?_, ?_⟩
 ·show IntKind.u64.wrap ((BitVec.ofInt 64 x &&& BitVec.ofInt 64 16777215).toNat : Int) = _
  have h1 := (BitVec.ofInt 64 x &&& BitVec.ofInt 64 16777215).isLt
  generalize (BitVec.ofInt 64 x &&& BitVec.ofInt 64 16777215).toNat = k at h1 ⊢
  simp [IntKind.wrap, IntKind.bits, IntKind.signed]
  omega
 ·rw [BitVec.toNat_and]
  exact Nat.le_trans Nat.and_le_right (by decide)
set_option maxRecDepth 20000 in
set_option maxHeartbeats 1000000 in
theorem l01Next_any (n : Int) (B : Nat) (w : World) (hs : Src w B) (hn : n ≤ 1000000) : Calls Tryz.prog 36 #[.pointer (some ⟨B, 0, none⟩), .int .i64 n] w fun e w' => ∃ r : Nat, e = .returned (.int .i64 r) ∧ ((r : Int) < n ∨ r = 0) ∧ Dr B w w' := by
 by_cases h1 : n < 1
 ·go_enter Tryz.func36, Tryz.ntmps36
  go_wp2
  go_ret
  exact ⟨0, rfl, .inr rfl, Dr.of hs (Keeps.refl w)⟩
 ·obtain ⟨v, m, a, h, c0, c1, c2, f1, f2, ha, hb⟩ := hs
  obtain ⟨p, cap, rfl, hmc, hmx, hbt⟩ := hb
  unfold maxLen at hmx
  have HB := hid hbt
  go_enter Tryz.func36, Tryz.ntmps36
  go_wp2
  obtain ⟨y, hy, hyl⟩ := and24 (IntKind.u64.wrap (IntKind.u64.wrap (h * 6364136223846793005) + 1442695040888963407) / 8589934592)
  have hwy : wrap64 (y : Int) = y := by unfold wrap64; omega
  rw [hy, hwy]
  clear hy hwy
  generalize IntKind.u64.wrap (IntKind.u64.wrap (h * 6364136223846793005) + 1442695040888963407) = h2
  have t2 : Touch w (w.setCell ⟨B, 2, none⟩ (.int .u64 h2)) (fun i => i = B) := (Touch.grown (grown_set B 2 _)).mono (fun k e => by cases e; rfl)
  have d0 : (w.setCell ⟨B, 2, none⟩ (.int .u64 h2)).cell? ⟨B, 0, none⟩ = some (.slice p m cap) := by rw [World.cell?_setCell_other _ _ _ _ (by simp)]; exact c0
  have d1 : (w.setCell ⟨B, 2, none⟩ (.int .u64 h2)).cell? ⟨B, 1, none⟩ = some (.int .i64 a) := by rw [World.cell?_setCell_other _ _ _ _ (by simp)]; exact c1
  have d2 : (w.setCell ⟨B, 2, none⟩ (.int .u64 h2)).cell? ⟨B, 2, none⟩ = some (.int .u64 h2) := World.cell?_setCell_same _ _ _ c2
  have g1 : (w.setCell ⟨B, 2, none⟩ (.int .u64 h2)).frozen? ⟨B, 1, none⟩ = false := by simpa using f1
  have g2 : (w.setCell ⟨B, 2, none⟩ (.int .u64 h2)).frozen? ⟨B, 2, none⟩ = false := by simpa using f2
  have hb2 : BtsB (w.setCell ⟨B, 2, none⟩ (.int .u64 h2)) (.slice p m cap) m B := BtsB.touch ⟨p, cap, rfl, hmc, hmx, HB.out⟩ t2
  have T2 := hid t2; clear t2
  generalize w.setCell ⟨B, 2, none⟩ (.int .u64 h2) = w2 at *
  clear c0 c1 c2 f1 f2 hbt
  by_cases hlt : a < m
  ·have hlt' : (a : Int) < m := by omega
   obtain ⟨b, off, x, rfl, hx, hx8, hbB⟩ : ∃ b off, ∃ x : Nat, p = some ⟨b, off, none⟩ ∧ w2.cell? ⟨b, off + a, none⟩ = some (.int .u8 x) ∧ x < 256 ∧ b < B := by
    obtain ⟨p', cap', e, _, _, h3⟩ := hb2
    cases e
    exact h3 a hlt
   go_quiet (fail)
   go_wp2_with fail
   go_quiet (fail)
   go_wp2_with fail
   go_ret
   have hr0 : 0 ≤ ((y : Int) + x) % n := Int.emod_nonneg _ (by omega)
   have hr1 : ((y : Int) + x) % n < n := Int.emod_lt_of_pos _ (by omega)
   have t3 : ∀ z, Touch w2 ((w2.drewN z).setCell ⟨B, 1, none⟩ (.int .i64 ((a : Int) + 1))) (fun i => i = B) := fun z => (Touch.of_keeps ((Keeps.refl w2).drewN z) _).trans ((Touch.grown (grown_set B 1 _)).mono (fun k e => by cases e; rfl))
   refine ⟨(((y : Int) + x) % n).toNat, ret_int (by omega), .inl (by omega), T2.out.trans (t3 _), _, m, a + 1, h2, ?_, ?_, ?_, ?_, ?_, by omega, hb2.touch (t3 _)⟩
   ·rw [World.cell?_setCell_other _ _ _ _ (by simp)]; exact d0
   ·refine (World.cell?_setCell_same _ _ _ (u := .int .i64 a) ?_).trans ?_
    ·exact d1
    ·simp
   ·rw [World.cell?_setCell_other _ _ _ _ (by simp)]; exact d2
   ·simpa using g1
   ·simpa using g2
  ·have hlt' : ¬ (a : Int) < m := by omega
   go_quiet (fail)
   go_wp2_with fail
   go_ret
   have hr0 : 0 ≤ (y : Int) % n := Int.emod_nonneg _ (by omega)
   have hr1 : (y : Int) % n < n := Int.emod_lt_of_pos _ (by omega)
   have t3 := Touch.of_keeps ((Keeps.refl w2).drewN nq) (fun i => i = B)
   exact ⟨((y : Int) % n).toNat, ret_int (by omega), .inl (by omega), T2.out.trans t3, _, m, a, h2, d0, d1, d2, g1, g2, ha, hb2.touch t3⟩
def Bts (w : World) (v : Value) (n : Nat) : Prop := BtsB w v n w.heap.size
theorem BtsB.low {w w' : World} {v : Value} {n B : Nat} (h : BtsB w v n B) (k : Keeps w w') : BtsB w' v n B := by
 obtain ⟨p, cap, e, h1, h2, h3⟩ := h
 refine ⟨p, cap, e, h1, h2, fun j hj => ?_⟩
 obtain ⟨b, off, x, e2, hc, hx, hb⟩ := h3 j hj
 exact ⟨b, off, x, e2, k.cell hc, hx, hb⟩
theorem BtsB.up {w : World} {v : Value} {n B B' : Nat} (h : BtsB w v n B) (k : B ≤ B') : BtsB w v n B' := by
 obtain ⟨p, cap, e, h1, h2, h3⟩ := h
 refine ⟨p, cap, e, h1, h2, fun j hj => ?_⟩
 obtain ⟨b, off, x, e2, hc, hx, hb⟩ := h3 j hj
 exact ⟨b, off, x, e2, hc, hx, by omega⟩
def FromRel (w : World) (v : Value) (wr : World) : Prop := Keeps w wr ∧ ∃ h, wr.cell? ⟨w.heap.size, 0, none⟩ = some v ∧ wr.cell? ⟨w.heap.size, 1, none⟩ = some (.int .i64 0) ∧ wr.cell? ⟨w.heap.size, 2, none⟩ = some (.int .u64 h) ∧ wr.frozen? ⟨w.heap.size, 1, none⟩ = false ∧ wr.frozen? ⟨w.heap.size, 2, none⟩ = false
theorem FromRel.step {w wr : World} {v : Value} (hr : FromRel w v wr) (x : Int) : FromRel w v (wr.setCell ⟨w.heap.size, 2, none⟩ (.int .u64 x)).drew := by
 obtain ⟨kw, h, c0, c1, c2, f1, f2⟩ := hr
 refine ⟨Keeps.drew (kw.setCell (by simp) _), x, ?_, ?_, ?_, ?_, ?_⟩
 ·show (World.setCell _ _ _).cell? _ = _
  rw [World.cell?_setCell_other _ _ _ _ (by simp)]; exact c0
 ·show (World.setCell _ _ _).cell? _ = _
  rw [World.cell?_setCell_other _ _ _ _ (by simp)]; exact c1
 ·show (World.setCell _ _ _).cell? _ = _
  exact World.cell?_setCell_same _ _ _ c2
 ·show (World.setCell _ _ _).frozen? _ = _
  simpa using f1
 ·show (World.setCell _ _ _).frozen? _ = _
  simpa using f2
set_option maxRecDepth 20000 in
set_option maxHeartbeats 1000000 in
theorem l01From_any (v : Value) (n : Nat) (w : World) (hv : Bts w v n) (hn : n ≤ 4096) : Calls Tryz.prog 11 #[v] w fun e w' => ∃ B, e = .returned (.pointer (some ⟨B, 0, none⟩)) ∧ w.heap.size ≤ B ∧ Src w' B ∧ Keeps w w' := by
 have hv0 := hv
 obtain ⟨p, cap, rfl, hmc, hmx, hbt⟩ := hv
 unfold maxLen at hmx
 have HB := hid hv0; clear hv0 hbt
 go_enter Tryz.func11, Tryz.ntmps11
 go_wp2
 have hk0 : Keeps w (w.alloc (.cells #[.slice p n cap, .int .i64 0, .int .u64 (7129 + (n : Int))] 70)) := (Keeps.refl w).alloc _
 go_loopw [4] (fun i' wr => ∃ k : Nat, k ≤ n ∧ i' = .int .i64 k ∧ FromRel w (.slice p n cap) wr) (fun i _ => n - (intOf i).toNat)
 case atStart => exact ⟨0, by omega, rfl, hk0, (7129 + (n : Int)), by simp, by simp, by simp, by simp, by simp⟩
 case round =>
  obtain ⟨k, hk, rfl, kw, h, c0, c1, c2, f1, f2⟩ := hrel
  clear hk0
  by_cases hlt : k < n
  ·have hlt' : (k : Int) < n := by omega
   have hlt4 : (k : Int) < 4096 := by omega
   obtain ⟨b, off, x, rfl, hx, hx8, hbB⟩ : ∃ b off, ∃ x : Nat, p = some ⟨b, off, none⟩ ∧ wr.cell? ⟨b, off + k, none⟩ = some (.int .u8 x) ∧ x < 256 ∧ b < w.heap.size := by
    obtain ⟨p', cap', e, _, _, h3⟩ := HB.out.low kw
    cases e
    exact h3 k hlt
   go_wp2_with fail
   go_region
   go_wp2_with fail
   go_roundw
   case rel => exact ⟨k + 1, by omega, by go_num, FromRel.step ⟨kw, h, c0, c1, c2, f1, f2⟩ _⟩
   case measure => simp [intOf]; omega
  ·have hlt' : ¬ (k : Int) < n := by omega
   go_wp2_with fail
   go_ret
   exact ⟨_, rfl, Nat.le_refl _, ⟨_, n, 0, h, c0, c1, c2, f1, f2, by omega, HB.out.low kw⟩, kw⟩
end Go.Proofs.YtfmmajgkjkmghaaGreatDoor
namespace Go.Proofs.YtfmmajgkjkmghaaGreatDoor
open Go.RowKit
end Go.Proofs.YtfmmajgkjkmghaaGreatDoor
namespace Go.Proofs.YtfmmajgkjkmghaaGreatDoor
open Go.RowKit
end Go.Proofs.YtfmmajgkjkmghaaGreatDoor
namespace Go.Proofs.YtfmmajgkjkmghaaGreatDoor
open Go.RowKit
end Go.Proofs.YtfmmajgkjkmghaaGreatDoor
