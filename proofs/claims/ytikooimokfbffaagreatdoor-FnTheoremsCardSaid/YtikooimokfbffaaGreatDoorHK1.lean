import Derived.Test.YtikooimokfbffaaGreatDoorHPG
import Derived.Test.YtikooimokfbffaaGreatDoorHV9
import Derived.Test.YtikooimokfbffaaGreatDoorHM3
import Derived.BigQuiet
import Derived.Test.YtikooimokfbffaaGreatDoorHL1
import Derived.Deep.RegionHeld3
/- Walks: the axioms of the intermediate logics on both sides, and their law. -/
namespace Go.Proofs.YtikooimokfbffaaGreatDoor
open Go.RowKit
def texts9 : List ByteArray := [⟨#[112, 124, 40, 112, 62, 113, 124, 126, 113, 41]⟩, ⟨#[112, 124, 40, 112, 62, 113, 124, 40, 113, 62, 114, 124, 126, 114, 41, 41]⟩,
 ⟨#[40, 112, 62, 113, 124, 114, 41, 124, 40, 113, 62, 112, 124, 114, 41, 124, 40, 114, 62, 112, 124, 113, 41]⟩,
 ⟨#[40, 112, 62, 113, 124, 114, 124, 115, 41, 124, 40, 113, 62, 112, 124, 114, 124, 115, 41, 124, 40, 114, 62, 112, 124, 113, 124, 115, 41, 124, 40, 115, 62, 112, 124, 113, 124, 114, 41]⟩,
 ⟨#[112, 124, 126, 112]⟩, ⟨#[84]⟩, ⟨#[126, 112, 124, 126, 126, 112]⟩, ⟨#[40, 112, 62, 113, 41, 124, 40, 113, 62, 112, 41]⟩, ⟨#[112, 124, 40, 112, 62, 113, 41, 124, 126, 113]⟩]
namespace Ax
def p : Fm := .var 0
def q : Fm := .var 1
def r : Fm := .var 2
def s : Fm := .var 3
end Ax
open Ax in
def forms9 : List Fm := [.or p (.imp p (.or q (.imp q .fls))), .or p (.imp p (.or q (.imp q (.or r (.imp r .fls))))),
 .or (.or (.imp p (.or q r)) (.imp q (.or p r))) (.imp r (.or p q)),
 .or (.or (.or (.imp p (.or (.or q r) s)) (.imp q (.or (.or p r) s))) (.imp r (.or (.or p q) s))) (.imp s (.or (.or p q) r)),
 .or p (.imp p .fls), .imp .fls .fls, .or (.imp p .fls) (.imp (.imp p .fls) .fls), .or (.imp p q) (.imp q p), .or (.or p (.imp p q)) (.imp q .fls)]
theorem forms9_ok : ∀ k, k < 9 → bts (texts9.getD k ⟨#[]⟩) = (forms9.getD k .fls).body ∧ (texts9.getD k ⟨#[]⟩).size ≤ 200 ∧ (forms9.getD k .fls).enc.length ≤ 40 := by
 decide +kernel
theorem forms9_wf : ∀ k, k < 9 → (forms9.getD k .fls).wf := by
 intro k h
 match k, h with
 | 0, _ => simp [forms9, Fm.wf, Ax.p, Ax.q, Ax.r, Ax.s]
 | 1, _ => simp [forms9, Fm.wf, Ax.p, Ax.q, Ax.r, Ax.s]
 | 2, _ => simp [forms9, Fm.wf, Ax.p, Ax.q, Ax.r, Ax.s]
 | 3, _ => simp [forms9, Fm.wf, Ax.p, Ax.q, Ax.r, Ax.s]
 | 4, _ => simp [forms9, Fm.wf, Ax.p, Ax.q, Ax.r, Ax.s]
 | 5, _ => simp [forms9, Fm.wf, Ax.p, Ax.q, Ax.r, Ax.s]
 | 6, _ => simp [forms9, Fm.wf, Ax.p, Ax.q, Ax.r, Ax.s]
 | 7, _ => simp [forms9, Fm.wf, Ax.p, Ax.q, Ax.r, Ax.s]
 | 8, _ => simp [forms9, Fm.wf, Ax.p, Ax.q, Ax.r, Ax.s]
set_option maxRecDepth 20000 in
set_option maxHeartbeats 2000000 in
theorem l30Axiom_any (name : ByteArray) (k : Nat) (hk : k < 9) (hf : findS names9 name = k) (w : World) : Calls Tryz.prog 146 #[.string name] w (RetN w (forms9.getD k .fls).enc) := by
 obtain ⟨hb, hs, hl⟩ := forms9_ok k hk
 have HR := hid (fun w => l02Read_any (forms9.getD k .fls) (forms9_wf k hk) (texts9.getD k ⟨#[]⟩) w hb (by omega) (by omega))
 have hT : Strs (w.alloc (.cells (texts9.map Value.string).toArray 9)) (.slice (some ⟨w.heap.size, 0, none⟩) 9 9) texts9 := Strs.lit (w := w) texts9 (by simp [texts9])
 obtain ⟨b, off, hp, hc⟩ := hT.get k hk
 cases hp
 have kA := (Keeps.refl w).alloc (.cells (texts9.map Value.string).toArray 9)
 have hg : texts9[k]'hk = texts9.getD k ⟨#[]⟩ := by rw [List.getD_eq_getElem?_getD, List.getElem?_eq_getElem (show k < texts9.length from hk)]; rfl
 rw [hg, Nat.zero_add] at hc
 clear hg hT hb hs hl
 generalize texts9.getD k ⟨#[]⟩ = T at *
 generalize (forms9.getD k .fls).enc = L at *
 have HF := hid hf; clear hf
 have hk' : (k : Int) < 9 := by omega
 go_enter Tryz.func146, Tryz.ntmps146
 go_wp2_with fail
 refine (l30Names_any _).mono ?_; rintro e w1 ⟨v1, rfl, hv1, k1⟩
 have c1 := k1.cell hc
 have kk := kA.trans k1
 go_wp2_with fail
 refine (l09Find_any names9 name _ _ hv1).mono ?_; rintro e w' ⟨rfl, rfl⟩
 rw [HF.out]
 clear hv1 hc k1 kA
 go_wp2_with fail
 refine (HR.out _).mono ?_; rintro e w2 ⟨v2, rfl, hv2, k2⟩
 go_wp2_with fail
 go_ret
 exact ⟨_, rfl, hv2.mono kk.size, kk.trans k2⟩
end Go.Proofs.YtikooimokfbffaaGreatDoor
namespace Go.Proofs.YtikooimokfbffaaGreatDoor
open Go.RowKit
def BtsB (w : World) (v : Value) (n B : Nat) : Prop := ∃ p cap, v = .slice p n cap ∧ n ≤ cap ∧ cap ≤ maxLen ∧ ∀ j, j < n → ∃ b off, ∃ x : Nat, p = some ⟨b, off, none⟩ ∧ w.cell? ⟨b, off + j, none⟩ = some (.int .u8 x) ∧ x < 256 ∧ b < B
def Src (w : World) (B : Nat) : Prop := ∃ v n, ∃ at' : Nat, ∃ h : Int, w.cell? ⟨B, 0, none⟩ = some v ∧ w.cell? ⟨B, 1, none⟩ = some (.int .i64 at') ∧ w.cell? ⟨B, 2, none⟩ = some (.int .u64 h) ∧ w.frozen? ⟨B, 1, none⟩ = false ∧ w.frozen? ⟨B, 2, none⟩ = false ∧ at' ≤ n ∧ BtsB w v n B
theorem BtsB.touch {w w' : World} {v : Value} {n B : Nat} (h : BtsB w v n B) (k : Touch w w' (fun i => i = B)) : BtsB w' v n B := by
 obtain ⟨p, cap, e, h1, h2, h3⟩ := h
 refine ⟨p, cap, e, h1, h2, fun j hj => ?_⟩
 obtain ⟨b, off, x, e2, hc, hx, hb⟩ := h3 j hj
 exact ⟨b, off, x, e2, by rw [(k.cell (b := b) (World.block_lt_of_cell? _ _ hc) (by omega)).1]; exact hc, hx, hb⟩
def Dr (B : Nat) (w w' : World) : Prop := Touch w w' (fun i => i = B) ∧ Src w' B
theorem Dr.trans {B : Nat} {a b c : World} (h : Dr B a b) (k : Dr B b c) : Dr B a c := ⟨h.1.trans k.1, k.2⟩
theorem Src.keeps {w w' : World} {B : Nat} (h : Src w B) (k : Keeps w w') : Src w' B := by
 obtain ⟨v, n, a, h, c0, c1, c2, f1, f2, ha, hb⟩ := h
 have hB := World.block_lt_of_cell? _ _ c0
 refine ⟨v, n, a, h, k.cell c0, k.cell c1, k.cell c2, ?_, ?_, ha, hb.touch (Touch.of_keeps k _)⟩
 ·rw [(k.both).2 B 1 hB]; exact f1
 ·rw [(k.both).2 B 2 hB]; exact f2
theorem Dr.keeps {B : Nat} {a b c : World} (h : Dr B a b) (k : Keeps b c) : Dr B a c := ⟨h.1.trans (Touch.of_keeps k _), h.2.keeps k⟩
theorem Dr.of {B : Nat} {a b : World} (h : Src a B) (k : Keeps a b) : Dr B a b := ⟨Touch.of_keeps k _, h.keeps k⟩
theorem Src.lt {w : World} {B : Nat} (h : Src w B) : B < w.heap.size := by
 obtain ⟨v, n, a, h, c0, _⟩ := h
 exact World.block_lt_of_cell? _ _ c0
theorem Dr.size {B : Nat} {a b : World} (h : Dr B a b) : a.heap.size ≤ b.heap.size := h.1.size
theorem Dr.keepsOf {B : Nat} {a b c : World} (k : Keeps a b) (hB : a.heap.size ≤ B) (h : Dr B b c) : Keeps a c := k.touch h.1 (fun i hi => by omega)
theorem and24 (x : Int) : ∃ r : Nat, bits .and .u64 x 16777215 = (r : Int) ∧ r ≤ 16777215 := by
 refine ⟨(BitVec.ofInt 64 x &&& BitVec.ofInt 64 16777215).toNat, ?_, ?_⟩
 ·show IntKind.u64.wrap ((BitVec.ofInt 64 x &&& BitVec.ofInt 64 16777215).toNat : Int) = _
  have h1 := (BitVec.ofInt 64 x &&& BitVec.ofInt 64 16777215).isLt
  generalize (BitVec.ofInt 64 x &&& BitVec.ofInt 64 16777215).toNat = k at h1 ⊢
  simp [IntKind.wrap, IntKind.bits, IntKind.signed]
  omega
 ·rw [BitVec.toNat_and]
  exact Nat.le_trans Nat.and_le_right (by decide)
set_option maxRecDepth 20000 in
set_option maxHeartbeats 1000000 in
theorem l01Next_any (n : Int) (B : Nat) (w : World) (hs : Src w B) (hn : n ≤ 1000000) : Calls Tryz.prog 102 #[.pointer (some ⟨B, 0, none⟩), .int .i64 n] w fun e w' => ∃ r : Nat, e = .returned (.int .i64 r) ∧ ((r : Int) < n ∨ r = 0) ∧ Dr B w w' := by
 by_cases h1 : n < 1
 ·go_enter Tryz.func102, Tryz.ntmps102
  go_wp2
  go_ret
  exact ⟨0, rfl, .inr rfl, Dr.of hs (Keeps.refl w)⟩
 ·obtain ⟨v, m, a, h, c0, c1, c2, f1, f2, ha, hb⟩ := hs
  obtain ⟨p, cap, rfl, hmc, hmx, hbt⟩ := hb
  unfold maxLen at hmx
  have HB := hid hbt
  go_enter Tryz.func102, Tryz.ntmps102
  go_wp2
  obtain ⟨y, hy, hyl⟩ := and24 (IntKind.u64.wrap (IntKind.u64.wrap (h * 6364136223846793005) + 1442695040888963407) / 8589934592)
  have hwy : wrap64 (y : Int) = y := by unfold wrap64; omega
  rw [hy, hwy]
  clear hy hwy
  generalize IntKind.u64.wrap (IntKind.u64.wrap (h * 6364136223846793005) + 1442695040888963407) = h2
  have t2 : Touch w (w.setCell ⟨B, 2, none⟩ (.int .u64 h2)) (fun i => i = B) := (Touch.grown (grown_set B 2 _)).mono (fun k e => by cases e; rfl)
  have d0 : (w.setCell ⟨B, 2, none⟩ (.int .u64 h2)).cell? ⟨B, 0, none⟩ = some (.slice p m cap) := by rw [World.cell?_setCell_other _ _ _ _ (by simp)]; exact c0
  have d1 : (w.setCell ⟨B, 2, none⟩ (.int .u64 h2)).cell? ⟨B, 1, none⟩ = some (.int .i64 a) := by rw [World.cell?_setCell_other _ _ _ _ (by simp)]; exact c1
  have d2 : (w.setCell ⟨B, 2, none⟩ (.int .u64 h2)).cell? ⟨B, 2, none⟩ = some (.int .u64 h2) := World.cell?_setCell_same _ _ _ c2
  have g1 : (w.setCell ⟨B, 2, none⟩ (.int .u64 h2)).frozen? ⟨B, 1, none⟩ = false := by simpa using f1
  have g2 : (w.setCell ⟨B, 2, none⟩ (.int .u64 h2)).frozen? ⟨B, 2, none⟩ = false := by simpa using f2
  have hb2 : BtsB (w.setCell ⟨B, 2, none⟩ (.int .u64 h2)) (.slice p m cap) m B := BtsB.touch ⟨p, cap, rfl, hmc, hmx, HB.out⟩ t2
  have T2 := hid t2; clear t2
  generalize w.setCell ⟨B, 2, none⟩ (.int .u64 h2) = w2 at *
  clear c0 c1 c2 f1 f2 hbt
  by_cases hlt : a < m
  ·have hlt' : (a : Int) < m := by omega
   obtain ⟨b, off, x, rfl, hx, hx8, hbB⟩ : ∃ b off, ∃ x : Nat, p = some ⟨b, off, none⟩ ∧ w2.cell? ⟨b, off + a, none⟩ = some (.int .u8 x) ∧ x < 256 ∧ b < B := by
    obtain ⟨p', cap', e, _, _, h3⟩ := hb2
    cases e
    exact h3 a hlt
   go_quiet (fail)
   go_wp2_with fail
   go_quiet (fail)
   go_wp2_with fail
   go_ret
   have hr0 : 0 ≤ ((y : Int) + x) % n := Int.emod_nonneg _ (by omega)
   have hr1 : ((y : Int) + x) % n < n := Int.emod_lt_of_pos _ (by omega)
   have t3 : ∀ z, Touch w2 ((w2.drewN z).setCell ⟨B, 1, none⟩ (.int .i64 ((a : Int) + 1))) (fun i => i = B) := fun z => (Touch.of_keeps ((Keeps.refl w2).drewN z) _).trans ((Touch.grown (grown_set B 1 _)).mono (fun k e => by cases e; rfl))
   refine ⟨(((y : Int) + x) % n).toNat, ret_int (by omega), .inl (by omega), T2.out.trans (t3 _), _, m, a + 1, h2, ?_, ?_, ?_, ?_, ?_, by omega, hb2.touch (t3 _)⟩
   ·rw [World.cell?_setCell_other _ _ _ _ (by simp)]; exact d0
   ·refine (World.cell?_setCell_same _ _ _ (u := .int .i64 a) ?_).trans ?_
    ·exact d1
    ·simp
   ·rw [World.cell?_setCell_other _ _ _ _ (by simp)]; exact d2
   ·simpa using g1
   ·simpa using g2
  ·have hlt' : ¬ (a : Int) < m := by omega
   go_quiet (fail)
   go_wp2_with fail
   go_ret
   have hr0 : 0 ≤ (y : Int) % n := Int.emod_nonneg _ (by omega)
   have hr1 : (y : Int) % n < n := Int.emod_lt_of_pos _ (by omega)
   have t3 := Touch.of_keeps ((Keeps.refl w2).drewN nq) (fun i => i = B)
   exact ⟨((y : Int) % n).toNat, ret_int (by omega), .inl (by omega), T2.out.trans t3, _, m, a, h2, d0, d1, d2, g1, g2, ha, hb2.touch t3⟩
def Bts (w : World) (v : Value) (n : Nat) : Prop := BtsB w v n w.heap.size
theorem BtsB.low {w w' : World} {v : Value} {n B : Nat} (h : BtsB w v n B) (k : Keeps w w') : BtsB w' v n B := by
 obtain ⟨p, cap, e, h1, h2, h3⟩ := h
 refine ⟨p, cap, e, h1, h2, fun j hj => ?_⟩
 obtain ⟨b, off, x, e2, hc, hx, hb⟩ := h3 j hj
 exact ⟨b, off, x, e2, k.cell hc, hx, hb⟩
def FromRel (w : World) (v : Value) (wr : World) : Prop := Keeps w wr ∧ ∃ h, wr.cell? ⟨w.heap.size, 0, none⟩ = some v ∧ wr.cell? ⟨w.heap.size, 1, none⟩ = some (.int .i64 0) ∧ wr.cell? ⟨w.heap.size, 2, none⟩ = some (.int .u64 h) ∧ wr.frozen? ⟨w.heap.size, 1, none⟩ = false ∧ wr.frozen? ⟨w.heap.size, 2, none⟩ = false
theorem FromRel.step {w wr : World} {v : Value} (hr : FromRel w v wr) (x : Int) : FromRel w v (wr.setCell ⟨w.heap.size, 2, none⟩ (.int .u64 x)).drew := by
 obtain ⟨kw, h, c0, c1, c2, f1, f2⟩ := hr
 refine ⟨Keeps.drew (kw.setCell (by simp) _), x, ?_, ?_, ?_, ?_, ?_⟩
 ·show (World.setCell _ _ _).cell? _ = _
  rw [World.cell?_setCell_other _ _ _ _ (by simp)]; exact c0
 ·show (World.setCell _ _ _).cell? _ = _
  rw [World.cell?_setCell_other _ _ _ _ (by simp)]; exact c1
 ·show (World.setCell _ _ _).cell? _ = _
  exact World.cell?_setCell_same _ _ _ c2
 ·show (World.setCell _ _ _).frozen? _ = _
  simpa using f1
 ·show (World.setCell _ _ _).frozen? _ = _
  simpa using f2
set_option maxRecDepth 20000 in
set_option maxHeartbeats 1000000 in
theorem l01From_any (v : Value) (n : Nat) (w : World) (hv : Bts w v n) (hn : n ≤ 4096) : Calls Tryz.prog 43 #[v] w fun e w' => ∃ B, e = .returned (.pointer (some ⟨B, 0, none⟩)) ∧ w.heap.size ≤ B ∧ Src w' B ∧ Keeps w w' := by
 have hv0 := hv
 obtain ⟨p, cap, rfl, hmc, hmx, hbt⟩ := hv
 unfold maxLen at hmx
 have HB := hid hv0; clear hv0 hbt
 go_enter Tryz.func43, Tryz.ntmps43
 go_wp2
 have hk0 : Keeps w (w.alloc (.cells #[.slice p n cap, .int .i64 0, .int .u64 (7129 + (n : Int))] 121)) := (Keeps.refl w).alloc _
 go_loopw [4] (fun i' wr => ∃ k : Nat, k ≤ n ∧ i' = .int .i64 k ∧ FromRel w (.slice p n cap) wr) (fun i _ => n - (intOf i).toNat)
 case atStart => exact ⟨0, by omega, rfl, hk0, (7129 + (n : Int)), by simp, by simp, by simp, by simp, by simp⟩
 case round =>
  obtain ⟨k, hk, rfl, kw, h, c0, c1, c2, f1, f2⟩ := hrel
  clear hk0
  by_cases hlt : k < n
  ·have hlt' : (k : Int) < n := by omega
   have hlt4 : (k : Int) < 4096 := by omega
   obtain ⟨b, off, x, rfl, hx, hx8, hbB⟩ : ∃ b off, ∃ x : Nat, p = some ⟨b, off, none⟩ ∧ wr.cell? ⟨b, off + k, none⟩ = some (.int .u8 x) ∧ x < 256 ∧ b < w.heap.size := by
    obtain ⟨p', cap', e, _, _, h3⟩ := HB.out.low kw
    cases e
    exact h3 k hlt
   go_wp2_with fail
   go_region
   go_wp2_with fail
   go_roundw
   case rel => exact ⟨k + 1, by omega, by go_num, FromRel.step ⟨kw, h, c0, c1, c2, f1, f2⟩ _⟩
   case measure => simp [intOf]; omega
  ·have hlt' : ¬ (k : Int) < n := by omega
   go_wp2_with fail
   go_ret
   exact ⟨_, rfl, Nat.le_refl _, ⟨_, n, 0, h, c0, c1, c2, f1, f2, by omega, HB.out.low kw⟩, kw⟩
end Go.Proofs.YtikooimokfbffaaGreatDoor
namespace Go.Proofs.YtikooimokfbffaaGreatDoor
open Go.RowKit
theorem OwnN.dr {w w' : World} {B b : Nat} {v : Value} {a : List Nd} (h : OwnN w b v a) (k : Dr B w w') (hB : B < b) : OwnN w' b v a := h.touch k.1 (fun i hi e => by have := (h.len i hi).1; omega)
def DrawN (B n : Nat) (w : World) (e : Ending) (w' : World) : Prop := ∃ v, ∃ t : Fm, e = .returned v ∧ OwnN w' w.heap.size v t.enc ∧ t.enc.length ≤ max n 1 ∧ Dr B w w'
theorem OwnN.own_shape {w : World} {B : Nat} {v : Value} {a : List Nd} (h : OwnN w B v a) : ∃ p n c, v = .slice p n c := by
 obtain ⟨p, c, e, _⟩ := At.of_own h
 exact ⟨p, _, c, e⟩
theorem pre_tree (r : Nat) (t : Fm) (h : r < 2) : ∃ u : Fm, (⟨5 + r, 0⟩ : Nd) :: t.enc = u.enc ∧ u.enc.length = t.enc.length + 1 := by
 have : r = 0 ∨ r = 1 := by omega
 rcases this with rfl | rfl
 ·exact ⟨.box t, rfl, by simp [Fm.enc]⟩
 ·exact ⟨.dia t, rfl, by simp [Fm.enc]⟩
theorem pair_tree (r : Nat) (t u : Fm) (h : r < 3) : ∃ z : Fm, (⟨2 + r, 0⟩ : Nd) :: (t.enc ++ u.enc) = z.enc ∧ z.enc.length = t.enc.length + u.enc.length + 1 := by
 have : r = 0 ∨ r = 1 ∨ r = 2 := by omega
 rcases this with rfl | rfl | rfl
 ·exact ⟨.and t u, rfl, by simp [Fm.enc]⟩
 ·exact ⟨.or t u, rfl, by simp [Fm.enc]⟩
 ·exact ⟨.imp t u, rfl, by simp [Fm.enc]⟩
set_option maxRecDepth 20000 in
set_option maxHeartbeats 4000000 in
theorem l02Draw_any (B vr : Nat) (hvr : vr ≤ 1000) (m : Bool) : ∀ n : Nat, n ≤ 1000 → ∀ w, Src w B → Calls Tryz.prog 287 #[.pointer (some ⟨B, 0, none⟩), .int .i64 n, .int .i64 vr, .bool m] w (DrawN B n w) := by
 intro n
 induction n using Nat.strongRecOn with
 | ind n ih =>
 intro hn w hs
 have IH := hid (fun k hk (hk2 : k ≤ 1000) w2 hs2 => ih k hk hk2 w2 hs2); clear ih
 by_cases h2 : n ≤ 2
 ·have h2' : (n : Int) ≤ 2 := by omega
  go_enter Tryz.func287, Tryz.ntmps287
  go_wp2_with fail
  refine (l01Next_any 8 B _ hs (by omega)).mono ?_; rintro e w1 ⟨r1, rfl, hr1, d1⟩
  have D1 : Dr B w w1 := d1
  by_cases hz1 : r1 = 0
  ·subst hz1
   go_wp2_with fail
   refine (l02False_any _).mono ?_; rintro e w9 ⟨v9, rfl, hv9, k9⟩
   go_wp2_with fail
   go_ret
   exact ⟨_, .fls, rfl, hv9.mono D1.size, by simp [Fm.enc]; omega, D1.keeps k9⟩
  ·have hz' : ((r1 : Nat) : Int) ≠ 0 := by omega
   go_wp2_with fail
   refine (l01Next_any (vr : Int) B _ D1.2 (by omega)).mono ?_; rintro e w8 ⟨r8, rfl, hr8, d8⟩
   have D8 := D1.trans d8
   go_wp2_with fail
   refine (l02Var_any r8 _).mono ?_; rintro e w9 ⟨v9, rfl, hv9, k9⟩
   go_wp2_with fail
   go_ret
   exact ⟨_, .var r8, rfl, hv9.mono D8.size, by simp [Fm.enc]; omega, D8.keeps k9⟩
 ·have h2' : ¬ (n : Int) ≤ 2 := by omega
  have hn3 : 2 < n := by omega
  cases m with
  | false =>
   go_enter Tryz.func287, Tryz.ntmps287
   go_wp2_with fail
   refine (l01Next_any 9 B _ hs (by omega)).mono ?_; rintro e w1 ⟨r1, rfl, hr1, d1⟩
   by_cases hz1 : r1 = 0
   ·subst hz1
    go_wp2_with fail
    refine (l01Next_any 8 B _ d1.2 (by omega)).mono ?_; rintro e w2 ⟨r2, rfl, hr2, d2⟩
    have D2 : Dr B w w2 := (d1.trans d2)
    by_cases hz2 : r2 = 0
    ·subst hz2
     go_wp2_with fail
     refine (l02False_any _).mono ?_; rintro e w9 ⟨v9, rfl, hv9, k9⟩
     go_wp2_with fail
     go_ret
     exact ⟨_, .fls, rfl, hv9.mono D2.size, by simp [Fm.enc]; omega, D2.keeps k9⟩
    ·have hz' : ((r2 : Nat) : Int) ≠ 0 := by omega
     go_wp2_with fail
     refine (l01Next_any (vr : Int) B _ D2.2 (by omega)).mono ?_; rintro e w8 ⟨r8, rfl, hr8, d8⟩
     have D8 := D2.trans d8
     go_wp2_with fail
     refine (l02Var_any r8 _).mono ?_; rintro e w9 ⟨v9, rfl, hv9, k9⟩
     go_wp2_with fail
     go_ret
     exact ⟨_, .var r8, rfl, hv9.mono D8.size, by simp [Fm.enc]; omega, D8.keeps k9⟩
   ·have hz1' : ((r1 : Nat) : Int) ≠ 0 := by omega
    go_wp2_with fail
    refine (l01Next_any 6 B _ d1.2 (by omega)).mono ?_; rintro e w3 ⟨r3, rfl, hr3, d3⟩
    have D3 := d1.trans d3
    by_cases hz3 : r3 = 0
    ·subst hz3
     have IH2 := hid (IH.out (n - 2) (by omega) (by omega) w3 D3.2)
     have hc2 : ((n - 2 : Nat) : Int) = (n : Int) - 2 := by omega
     rw [hc2] at IH2
     go_wp2_with fail
     refine IH2.out.mono ?_; rintro e w4 ⟨v4, t4, rfl, hv4, hl4, d4⟩
     have D4 := D3.trans d4
     obtain ⟨p4, n4, q4, rfl⟩ := hv4.own_shape
     have HNt := hid (l02Not_any t4 _ w4 (hv4.nds (by omega)) (by omega))
     clear hv4
     go_wp2_with fail
     refine HNt.out.mono ?_; rintro e w5 ⟨v5, rfl, hv5, k5⟩
     go_wp2_with fail
     go_ret
     exact ⟨_, Fm.not t4, rfl, hv5.mono D4.size, by simp [Fm.not, Fm.enc]; omega, D4.keeps k5⟩
    ·have hz' : ((r3 : Nat) : Int) ≠ 0 := by omega
     go_wp2_with fail
     refine (l01Next_any ((n : Int) - 2) B _ D3.2 (by omega)).mono ?_; rintro e w4 ⟨r4, rfl, hr4, d4⟩
     have D4 := D3.trans d4
     have hr4' : r4 + 2 < n := by omega
     have IH5 := hid (IH.out (1 + r4) (by omega) (by omega) w4 D4.2)
     have hc5 : ((1 + r4 : Nat) : Int) = 1 + (r4 : Int) := by omega
     rw [hc5] at IH5
     go_wp2_with fail
     refine IH5.out.mono ?_; rintro e w5 ⟨v5, t5, rfl, hv5, hl5, d5⟩
     have D5 := D4.trans d5
     have hB5 : B < w4.heap.size := D4.2.lt
     obtain ⟨p5, n5, q5, rfl⟩ := hv5.own_shape
     go_wp2_with fail
     refine (l01Next_any 3 B _ D5.2 (by omega)).mono ?_; rintro e w6 ⟨r6, rfl, hr6, d6⟩
     have D6 := D5.trans d6
     have hv6 := hv5.dr d6 hB5
     have IH7 := hid (IH.out (n - 1 - (1 + r4)) (by omega) (by omega) w6 D6.2)
     have hc7 : ((n - 1 - (1 + r4) : Nat) : Int) = (n : Int) - 1 - (1 + (r4 : Int)) := by omega
     rw [hc7] at IH7
     clear hv5
     go_wp2_with fail
     refine IH7.out.mono ?_; rintro e w7 ⟨v7, t7, rfl, hv7, hl7, d7⟩
     have D7 := D6.trans d7
     have hv8 := hv6.dr d7 hB5
     obtain ⟨p7, n7, q7, rfl⟩ := hv7.own_shape
     have HPr := hid (l02Pair_any (2 + (r6 : Int)) _ _ _ _ w7 (hv8.nds (by omega)) (hv7.nds (by omega)) (by omega))
     obtain ⟨z, hz, hzl⟩ := pair_tree r6 t5 t7 (by omega)
     rw [hz] at HPr
     clear hv6 hv7 hv8 hz
     go_wp2_with fail
     refine HPr.out.mono ?_; rintro e w8 ⟨v8, rfl, hv9, k9⟩
     go_wp2_with fail
     go_ret
     exact ⟨_, z, rfl, hv9.mono D7.size, by omega, D7.keeps k9⟩
  | true =>
   go_enter Tryz.func287, Tryz.ntmps287
   go_wp2_with fail
   refine (l01Next_any 9 B _ hs (by omega)).mono ?_; rintro e w1 ⟨r1, rfl, hr1, d1⟩
   by_cases hz1 : r1 = 0
   ·subst hz1
    go_wp2_with fail
    refine (l01Next_any 8 B _ d1.2 (by omega)).mono ?_; rintro e w2 ⟨r2, rfl, hr2, d2⟩
    have D2 : Dr B w w2 := (d1.trans d2)
    by_cases hz2 : r2 = 0
    ·subst hz2
     go_wp2_with fail
     refine (l02False_any _).mono ?_; rintro e w9 ⟨v9, rfl, hv9, k9⟩
     go_wp2_with fail
     go_ret
     exact ⟨_, .fls, rfl, hv9.mono D2.size, by simp [Fm.enc]; omega, D2.keeps k9⟩
    ·have hz' : ((r2 : Nat) : Int) ≠ 0 := by omega
     go_wp2_with fail
     refine (l01Next_any (vr : Int) B _ D2.2 (by omega)).mono ?_; rintro e w8 ⟨r8, rfl, hr8, d8⟩
     have D8 := D2.trans d8
     go_wp2_with fail
     refine (l02Var_any r8 _).mono ?_; rintro e w9 ⟨v9, rfl, hv9, k9⟩
     go_wp2_with fail
     go_ret
     exact ⟨_, .var r8, rfl, hv9.mono D8.size, by simp [Fm.enc]; omega, D8.keeps k9⟩
   ·have hz1' : ((r1 : Nat) : Int) ≠ 0 := by omega
    go_wp2_with fail
    refine (l01Next_any 3 B _ d1.2 (by omega)).mono ?_; rintro e w2 ⟨r2, rfl, hr2, d2⟩
    have D2 := d1.trans d2
    by_cases hz2 : r2 = 0
    ·subst hz2
     go_wp2_with fail
     refine (l01Next_any 2 B _ D2.2 (by omega)).mono ?_; rintro e w3 ⟨r3, rfl, hr3, d3⟩
     have D3 := D2.trans d3
     have IH4 := hid (IH.out (n - 1) (by omega) (by omega) w3 D3.2)
     have hc4 : ((n - 1 : Nat) : Int) = (n : Int) - 1 := by omega
     rw [hc4] at IH4
     go_wp2_with fail
     refine IH4.out.mono ?_; rintro e w4 ⟨v4, t4, rfl, hv4, hl4, d4⟩
     have D4 := D3.trans d4
     obtain ⟨p4, n4, q4, rfl⟩ := hv4.own_shape
     have HPr := hid (l02Pre_any (5 + (r3 : Int)) _ _ w4 (hv4.nds (by omega)) (by omega))
     obtain ⟨z, hz, hzl⟩ := pre_tree r3 t4 (by omega)
     rw [hz] at HPr
     clear hv4 hz
     go_wp2_with fail
     refine HPr.out.mono ?_; rintro e w5 ⟨v5, rfl, hv5, k5⟩
     go_wp2_with fail
     go_ret
     exact ⟨_, z, rfl, hv5.mono D4.size, by omega, D4.keeps k5⟩
    ·have hz2' : ((r2 : Nat) : Int) ≠ 0 := by omega
     go_wp2_with fail
     refine (l01Next_any 6 B _ D2.2 (by omega)).mono ?_; rintro e w3 ⟨r3, rfl, hr3, d3⟩
     have D3 := D2.trans d3
     by_cases hz3 : r3 = 0
     ·subst hz3
      have IH2 := hid (IH.out (n - 2) (by omega) (by omega) w3 D3.2)
      have hc2 : ((n - 2 : Nat) : Int) = (n : Int) - 2 := by omega
      rw [hc2] at IH2
      go_wp2_with fail
      refine IH2.out.mono ?_; rintro e w4 ⟨v4, t4, rfl, hv4, hl4, d4⟩
      have D4 := D3.trans d4
      obtain ⟨p4, n4, q4, rfl⟩ := hv4.own_shape
      have HNt := hid (l02Not_any t4 _ w4 (hv4.nds (by omega)) (by omega))
      clear hv4
      go_wp2_with fail
      refine HNt.out.mono ?_; rintro e w5 ⟨v5, rfl, hv5, k5⟩
      go_wp2_with fail
      go_ret
      exact ⟨_, Fm.not t4, rfl, hv5.mono D4.size, by simp [Fm.not, Fm.enc]; omega, D4.keeps k5⟩
     ·have hz' : ((r3 : Nat) : Int) ≠ 0 := by omega
      go_wp2_with fail
      refine (l01Next_any ((n : Int) - 2) B _ D3.2 (by omega)).mono ?_; rintro e w4 ⟨r4, rfl, hr4, d4⟩
      have D4 := D3.trans d4
      have hr4' : r4 + 2 < n := by omega
      have IH5 := hid (IH.out (1 + r4) (by omega) (by omega) w4 D4.2)
      have hc5 : ((1 + r4 : Nat) : Int) = 1 + (r4 : Int) := by omega
      rw [hc5] at IH5
      go_wp2_with fail
      refine IH5.out.mono ?_; rintro e w5 ⟨v5, t5, rfl, hv5, hl5, d5⟩
      have D5 := D4.trans d5
      have hB5 : B < w4.heap.size := D4.2.lt
      obtain ⟨p5, n5, q5, rfl⟩ := hv5.own_shape
      go_wp2_with fail
      refine (l01Next_any 3 B _ D5.2 (by omega)).mono ?_; rintro e w6 ⟨r6, rfl, hr6, d6⟩
      have D6 := D5.trans d6
      have hv6 := hv5.dr d6 hB5
      have IH7 := hid (IH.out (n - 1 - (1 + r4)) (by omega) (by omega) w6 D6.2)
      have hc7 : ((n - 1 - (1 + r4) : Nat) : Int) = (n : Int) - 1 - (1 + (r4 : Int)) := by omega
      rw [hc7] at IH7
      clear hv5
      go_wp2_with fail
      refine IH7.out.mono ?_; rintro e w7 ⟨v7, t7, rfl, hv7, hl7, d7⟩
      have D7 := D6.trans d7
      have hv8 := hv6.dr d7 hB5
      obtain ⟨p7, n7, q7, rfl⟩ := hv7.own_shape
      have HPr := hid (l02Pair_any (2 + (r6 : Int)) _ _ _ _ w7 (hv8.nds (by omega)) (hv7.nds (by omega)) (by omega))
      obtain ⟨z, hz, hzl⟩ := pair_tree r6 t5 t7 (by omega)
      rw [hz] at HPr
      clear hv6 hv7 hv8 hz
      go_wp2_with fail
      refine HPr.out.mono ?_; rintro e w8 ⟨v8, rfl, hv9, k9⟩
      go_wp2_with fail
      go_ret
      exact ⟨_, z, rfl, hv9.mono D7.size, by omega, D7.keeps k9⟩
end Go.Proofs.YtikooimokfbffaaGreatDoor
namespace Go.Proofs.YtikooimokfbffaaGreatDoor
open Go.RowKit
end Go.Proofs.YtikooimokfbffaaGreatDoor
namespace Go.Proofs.YtikooimokfbffaaGreatDoor
open Go.RowKit
end Go.Proofs.YtikooimokfbffaaGreatDoor
