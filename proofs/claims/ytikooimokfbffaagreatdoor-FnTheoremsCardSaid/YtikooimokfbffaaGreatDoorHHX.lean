import Derived.Test.YtikooimokfbffaaGreatDoorHHS
import Derived.Test.YtikooimokfbffaaGreatDoorHHK
import Derived.Test.YtikooimokfbffaaGreatDoorHV9
import Derived.Test.YtikooimokfbffaaGreatDoorHU3
import Derived.Test.YtikooimokfbffaaGreatDoorHL5
import Derived.Test.YtikooimokfbffaaGreatDoorHM3
import Derived.Test.YtikooimokfbffaaGreatDoorHOR
/- The order on which theorems are tested: both sides. -/
namespace Go.Proofs.YtikooimokfbffaaGreatDoor
open Go.RowKit
def RetPz (w : World) (b : List Nat) (e : Ending) (w' : World) : Prop := ∃ v, e = .returned (.agg #[.int .i64 b.length, v]) ∧ OwnI w' w.heap.size v (zs b) ∧ Keeps w w'
theorem RetPz.of {w : World} {a : List Int} {b : List Nat} {e : Ending} {w' : World} (h : RetP w a e w') (hab : a = zs b) : RetPz w b e w' := by
 subst hab
 obtain ⟨v, rfl, ho, k⟩ := h
 exact ⟨v, by rw [zs_length], ho, k⟩
theorem results_tpI (tmps : Array Value) (W : World) (r : Nat) (h4 : tmps.getD 4 undef = .pointer (some ⟨r, 0, none⟩)) {v : Value} {n : Int}
  (ha : W.cell? ⟨r, 0, none⟩ = some (.int .i64 n)) (hb : W.cell? ⟨r, 1, none⟩ = some v) (hv : ∃ p m q, v = .slice p m q) :
  (results Tryz.f40 tmps).run Tryz.prog W = .ok (.agg #[.int .i64 n, v]) W := by
 have hr : Tryz.f40.results = #[.cell 4 34] := rfl
 obtain ⟨p, m, q, rfl⟩ := hv
 unfold results
 rw [hr]
 rw [Array.getD_eq_getD_getElem?] at h4
 simp [go_sem, loadVar, h4, ha, hb]
set_option maxRecDepth 20000 in
set_option maxHeartbeats 1000000 in
theorem tpI_lc (s : ByteArray) (n : Nat) (w : World) (hn : n ≤ 6) (h1 : s = ⟨#[76, 67]⟩) : Calls Tryz.prog 40 #[.string s, .int .i64 n] w (RetPz w (chN (n + 1))) := by
 have HP := hid (PB.made w)
 have HC := hid (fun wz => (chainOf_any (n + 1) wz (by omega)).mono (fun e w' h => RetPz.of h (ch_zs ⟨(n + 1), by omega⟩)))
 have hc : ((n + 1 : Nat) : Int) = (n : Int) + 1 := by push_cast; rfl
 rw [hc] at HC
 clear hc
 have hlz := zs_length (chN (n + 1))
 go_enter Tryz.func40, Tryz.ntmps40
 go_wp2_with fail
 refine (HC.out _).mono ?_; rintro e w2 h2
 obtain ⟨v2, rfl, hv2, k2⟩ := h2
 have hp2 := HP.out.keeps k2
 have hB : w.heap.size < (w.alloc (.cells #[.int .i64 0, .slice none 0 0] 34)).heap.size := by simp
 obtain ⟨p2, q2, rfl, -, -, -⟩ := At.of_own hv2
 obtain ⟨-, d0, d1, e0, e1⟩ := id hp2
 obtain ⟨x0, x1, x2, x3⟩ := hp2.fill (Nat.le_refl _) (.int .i64 ((chN (n + 1)).length : Int)) (.slice p2 (zs (chN (n + 1))).length q2)
 have HX := hid (And.intro x0 (And.intro x1 (And.intro x2 x3)))
 have HO := hid hv2
 clear x0 x1 x2 x3 hp2 hv2
 rw [hlz] at *
 go_wp2_with fail
 refine bodyPost_ret (results_tpI _ _ w.heap.size rfl HX.out.1 HX.out.2.1 ⟨_, _, _, rfl⟩) rfl ?_
 exact ⟨_, rfl, (HO.out.touch HX.out.2.2.2 (fun j hj e => by have := (HO.out.len j hj).1; omega)).mono (by omega), HX.out.2.2.1⟩
set_option maxRecDepth 20000 in
set_option maxHeartbeats 1000000 in
theorem tpI_sm (s : ByteArray) (n : Nat) (w : World) (_hn : n ≤ 6) (_h1 : ¬ s = ⟨#[76, 67]⟩) (h2 : s = ⟨#[83, 109, 76]⟩) : Calls Tryz.prog 40 #[.string s, .int .i64 n] w (RetPz w (chN 2)) := by
 have HP := hid (PB.made w)
 have HC := hid (fun wz => (chainOf_any 2 wz (by omega)).mono (fun e w' h => RetPz.of h (ch_zs ⟨2, by omega⟩)))
 rw [show ((2 : Nat) : Int) = 2 from rfl] at HC
 have hlz := zs_length (chN 2)
 go_enter Tryz.func40, Tryz.ntmps40
 go_wp2_with fail
 refine (HC.out _).mono ?_; rintro e w2 h2
 obtain ⟨v2, rfl, hv2, k2⟩ := h2
 have hp2 := HP.out.keeps k2
 have hB : w.heap.size < (w.alloc (.cells #[.int .i64 0, .slice none 0 0] 34)).heap.size := by simp
 obtain ⟨p2, q2, rfl, -, -, -⟩ := At.of_own hv2
 obtain ⟨-, d0, d1, e0, e1⟩ := id hp2
 obtain ⟨x0, x1, x2, x3⟩ := hp2.fill (Nat.le_refl _) (.int .i64 ((chN 2).length : Int)) (.slice p2 (zs (chN 2)).length q2)
 have HX := hid (And.intro x0 (And.intro x1 (And.intro x2 x3)))
 have HO := hid hv2
 clear x0 x1 x2 x3 hp2 hv2
 rw [hlz] at *
 go_wp2_with fail
 refine bodyPost_ret (results_tpI _ _ w.heap.size rfl HX.out.1 HX.out.2.1 ⟨_, _, _, rfl⟩) rfl ?_
 exact ⟨_, rfl, (HO.out.touch HX.out.2.2.2 (fun j hj e => by have := (HO.out.len j hj).1; omega)).mono (by omega), HX.out.2.2.1⟩
set_option maxRecDepth 20000 in
set_option maxHeartbeats 1000000 in
theorem tpI_cl (s : ByteArray) (n : Nat) (w : World) (_hn : n ≤ 6) (_h1 : ¬ s = ⟨#[76, 67]⟩) (_h2 : ¬ s = ⟨#[83, 109, 76]⟩) (h3 : s = ⟨#[67, 76]⟩) : Calls Tryz.prog 40 #[.string s, .int .i64 n] w (RetPz w (chN 1)) := by
 have HP := hid (PB.made w)
 have HC := hid (fun wz => (chainOf_any 1 wz (by omega)).mono (fun e w' h => RetPz.of h (ch_zs ⟨1, by omega⟩)))
 rw [show ((1 : Nat) : Int) = 1 from rfl] at HC
 have hlz := zs_length (chN 1)
 go_enter Tryz.func40, Tryz.ntmps40
 go_wp2_with fail
 refine (HC.out _).mono ?_; rintro e w2 h2
 obtain ⟨v2, rfl, hv2, k2⟩ := h2
 have hp2 := HP.out.keeps k2
 have hB : w.heap.size < (w.alloc (.cells #[.int .i64 0, .slice none 0 0] 34)).heap.size := by simp
 obtain ⟨p2, q2, rfl, -, -, -⟩ := At.of_own hv2
 obtain ⟨-, d0, d1, e0, e1⟩ := id hp2
 obtain ⟨x0, x1, x2, x3⟩ := hp2.fill (Nat.le_refl _) (.int .i64 ((chN 1).length : Int)) (.slice p2 (zs (chN 1)).length q2)
 have HX := hid (And.intro x0 (And.intro x1 (And.intro x2 x3)))
 have HO := hid hv2
 clear x0 x1 x2 x3 hp2 hv2
 rw [hlz] at *
 go_wp2_with fail
 refine bodyPost_ret (results_tpI _ _ w.heap.size rfl HX.out.1 HX.out.2.1 ⟨_, _, _, rfl⟩) rfl ?_
 exact ⟨_, rfl, (HO.out.touch HX.out.2.2.2 (fun j hj e => by have := (HO.out.len j hj).1; omega)).mono (by omega), HX.out.2.2.1⟩
set_option maxRecDepth 20000 in
set_option maxHeartbeats 1000000 in
theorem tpI_bd (s : ByteArray) (n : Nat) (w : World) (hn : n ≤ 6) (h1 : s = ⟨#[66, 68, 50]⟩) (h2 : n ≤ 2) : Calls Tryz.prog 40 #[.string s, .int .i64 n] w (RetPz w (fkN (2 ^ n))) := by
 have HP := hid (PB.made w)
 have HC := hid (fun wz => (forkOf_any (2 ^ n) wz (by have : 2 ^ n ≤ 2 ^ 2 := Nat.pow_le_pow_right (by omega) h2; omega)).mono (fun e w' h => RetPz.of h (fk_zs ⟨2 ^ n, by have : 2 ^ n ≤ 2 ^ 2 := Nat.pow_le_pow_right (by omega) h2; omega⟩)))
 have hw : ((2 ^ n : Nat) : Int) = wrap64 (2 ^ n) := by
  have : n = 0 ∨ n = 1 ∨ n = 2 := by omega
  rcases this with rfl | rfl | rfl <;> decide +kernel
 rw [hw] at HC
 clear hw
 have hlz := zs_length (fkN (2 ^ n))
 go_enter Tryz.func40, Tryz.ntmps40
 go_wp2_with fail
 refine (HC.out _).mono ?_; rintro e w2 h2
 obtain ⟨v2, rfl, hv2, k2⟩ := h2
 have hp2 := HP.out.keeps k2
 have hB : w.heap.size < (w.alloc (.cells #[.int .i64 0, .slice none 0 0] 34)).heap.size := by simp
 obtain ⟨p2, q2, rfl, -, -, -⟩ := At.of_own hv2
 obtain ⟨-, d0, d1, e0, e1⟩ := id hp2
 obtain ⟨x0, x1, x2, x3⟩ := hp2.fill (Nat.le_refl _) (.int .i64 ((fkN (2 ^ n)).length : Int)) (.slice p2 (zs (fkN (2 ^ n))).length q2)
 have HX := hid (And.intro x0 (And.intro x1 (And.intro x2 x3)))
 have HO := hid hv2
 clear x0 x1 x2 x3 hp2 hv2
 rw [hlz] at *
 go_wp2_with fail
 refine bodyPost_ret (results_tpI _ _ w.heap.size rfl HX.out.1 HX.out.2.1 ⟨_, _, _, rfl⟩) rfl ?_
 exact ⟨_, rfl, (HO.out.touch HX.out.2.2.2 (fun j hj e => by have := (HO.out.len j hj).1; omega)).mono (by omega), HX.out.2.2.1⟩
theorem results_tpS (tmps : Array Value) (W : World) (r : Nat) (h4 : tmps.getD 4 undef = .pointer (some ⟨r, 0, none⟩)) {v : Value} {n : Int}
  (ha : W.cell? ⟨r, 0, none⟩ = some (.int .i64 n)) (hb : W.cell? ⟨r, 1, none⟩ = some v) (hv : ∃ p m q, v = .slice p m q) :
  (results Tryz.f28 tmps).run Tryz.prog W = .ok (.agg #[.int .i64 n, v]) W := by
 have hr : Tryz.f28.results = #[.cell 4 34] := rfl
 obtain ⟨p, m, q, rfl⟩ := hv
 unfold results
 rw [hr]
 rw [Array.getD_eq_getD_getElem?] at h4
 simp [go_sem, loadVar, h4, ha, hb]
set_option maxRecDepth 20000 in
set_option maxHeartbeats 1000000 in
theorem tpS_lc (s : ByteArray) (n : Nat) (w : World) (hn : n ≤ 6) (h1 : s = ⟨#[76, 67]⟩) : Calls Tryz.prog 28 #[.string s, .int .i64 n] w (RetPz w (chN (n + 1))) := by
 have HP := hid (PB.made w)
 have HC := hid (fun wz => (l30Chain_any (n + 1) wz (by omega)).mono (fun e w' h => RetPz.of h (ch_zs ⟨(n + 1), by omega⟩)))
 have hc : ((n + 1 : Nat) : Int) = (n : Int) + 1 := by push_cast; rfl
 rw [hc] at HC
 clear hc
 have hlz := zs_length (chN (n + 1))
 go_enter Tryz.func28, Tryz.ntmps28
 go_wp2_with fail
 refine (HC.out _).mono ?_; rintro e w2 h2
 obtain ⟨v2, rfl, hv2, k2⟩ := h2
 have hp2 := HP.out.keeps k2
 have hB : w.heap.size < (w.alloc (.cells #[.int .i64 0, .slice none 0 0] 34)).heap.size := by simp
 obtain ⟨p2, q2, rfl, -, -, -⟩ := At.of_own hv2
 obtain ⟨-, d0, d1, e0, e1⟩ := id hp2
 obtain ⟨x0, x1, x2, x3⟩ := hp2.fill (Nat.le_refl _) (.int .i64 ((chN (n + 1)).length : Int)) (.slice p2 (zs (chN (n + 1))).length q2)
 have HX := hid (And.intro x0 (And.intro x1 (And.intro x2 x3)))
 have HO := hid hv2
 clear x0 x1 x2 x3 hp2 hv2
 rw [hlz] at *
 go_wp2_with fail
 refine bodyPost_ret (results_tpS _ _ w.heap.size rfl HX.out.1 HX.out.2.1 ⟨_, _, _, rfl⟩) rfl ?_
 exact ⟨_, rfl, (HO.out.touch HX.out.2.2.2 (fun j hj e => by have := (HO.out.len j hj).1; omega)).mono (by omega), HX.out.2.2.1⟩
set_option maxRecDepth 20000 in
set_option maxHeartbeats 1000000 in
theorem tpS_sm (s : ByteArray) (n : Nat) (w : World) (_hn : n ≤ 6) (_h1 : ¬ s = ⟨#[76, 67]⟩) (h2 : s = ⟨#[83, 109, 76]⟩) : Calls Tryz.prog 28 #[.string s, .int .i64 n] w (RetPz w (chN 2)) := by
 have HP := hid (PB.made w)
 have HC := hid (fun wz => (l30Chain_any 2 wz (by omega)).mono (fun e w' h => RetPz.of h (ch_zs ⟨2, by omega⟩)))
 rw [show ((2 : Nat) : Int) = 2 from rfl] at HC
 have hlz := zs_length (chN 2)
 go_enter Tryz.func28, Tryz.ntmps28
 go_wp2_with fail
 refine (HC.out _).mono ?_; rintro e w2 h2
 obtain ⟨v2, rfl, hv2, k2⟩ := h2
 have hp2 := HP.out.keeps k2
 have hB : w.heap.size < (w.alloc (.cells #[.int .i64 0, .slice none 0 0] 34)).heap.size := by simp
 obtain ⟨p2, q2, rfl, -, -, -⟩ := At.of_own hv2
 obtain ⟨-, d0, d1, e0, e1⟩ := id hp2
 obtain ⟨x0, x1, x2, x3⟩ := hp2.fill (Nat.le_refl _) (.int .i64 ((chN 2).length : Int)) (.slice p2 (zs (chN 2)).length q2)
 have HX := hid (And.intro x0 (And.intro x1 (And.intro x2 x3)))
 have HO := hid hv2
 clear x0 x1 x2 x3 hp2 hv2
 rw [hlz] at *
 go_wp2_with fail
 refine bodyPost_ret (results_tpS _ _ w.heap.size rfl HX.out.1 HX.out.2.1 ⟨_, _, _, rfl⟩) rfl ?_
 exact ⟨_, rfl, (HO.out.touch HX.out.2.2.2 (fun j hj e => by have := (HO.out.len j hj).1; omega)).mono (by omega), HX.out.2.2.1⟩
set_option maxRecDepth 20000 in
set_option maxHeartbeats 1000000 in
theorem tpS_cl (s : ByteArray) (n : Nat) (w : World) (_hn : n ≤ 6) (h1 : s = ⟨#[67, 76]⟩) : Calls Tryz.prog 28 #[.string s, .int .i64 n] w (RetPz w (chN 1)) := by
 have HP := hid (PB.made w)
 have HC := hid (fun wz => (l30Chain_any 1 wz (by omega)).mono (fun e w' h => RetPz.of h (ch_zs ⟨1, by omega⟩)))
 rw [show ((1 : Nat) : Int) = 1 from rfl] at HC
 have hlz := zs_length (chN 1)
 go_enter Tryz.func28, Tryz.ntmps28
 go_wp2_with fail
 refine (HC.out _).mono ?_; rintro e w2 h2
 obtain ⟨v2, rfl, hv2, k2⟩ := h2
 have hp2 := HP.out.keeps k2
 have hB : w.heap.size < (w.alloc (.cells #[.int .i64 0, .slice none 0 0] 34)).heap.size := by simp
 obtain ⟨p2, q2, rfl, -, -, -⟩ := At.of_own hv2
 obtain ⟨-, d0, d1, e0, e1⟩ := id hp2
 obtain ⟨x0, x1, x2, x3⟩ := hp2.fill (Nat.le_refl _) (.int .i64 ((chN 1).length : Int)) (.slice p2 (zs (chN 1)).length q2)
 have HX := hid (And.intro x0 (And.intro x1 (And.intro x2 x3)))
 have HO := hid hv2
 clear x0 x1 x2 x3 hp2 hv2
 rw [hlz] at *
 go_wp2_with fail
 refine bodyPost_ret (results_tpS _ _ w.heap.size rfl HX.out.1 HX.out.2.1 ⟨_, _, _, rfl⟩) rfl ?_
 exact ⟨_, rfl, (HO.out.touch HX.out.2.2.2 (fun j hj e => by have := (HO.out.len j hj).1; omega)).mono (by omega), HX.out.2.2.1⟩
set_option maxRecDepth 20000 in
set_option maxHeartbeats 1000000 in
theorem tpS_bd (s : ByteArray) (n : Nat) (w : World) (hn : n ≤ 6) (h1 : s = ⟨#[66, 68, 50]⟩) (h2 : n ≤ 2) : Calls Tryz.prog 28 #[.string s, .int .i64 n] w (RetPz w (fkN (2 ^ n))) := by
 have HP := hid (PB.made w)
 have HC := hid (fun wz => (l30Fork_any (2 ^ n) wz (by have : 2 ^ n ≤ 2 ^ 2 := Nat.pow_le_pow_right (by omega) h2; omega)).mono (fun e w' h => RetPz.of h (fk_zs ⟨2 ^ n, by have : 2 ^ n ≤ 2 ^ 2 := Nat.pow_le_pow_right (by omega) h2; omega⟩)))
 have HONE := hid (fun wz => l01One_any (n : Int) wz (by omega) (by omega))
 simp only [Int.toNat_natCast] at HONE
 have hw : ((2 ^ n : Nat) : Int) = (2 : Int) ^ n := by push_cast; rfl
 rw [hw] at HC
 clear hw
 have hlz := zs_length (fkN (2 ^ n))
 go_enter Tryz.func28, Tryz.ntmps28
 go_wp2_with fail
 refine (HONE.out _).mono ?_; rintro e w' ⟨rfl, rfl⟩
 go_wp2_with fail
 refine (HC.out _).mono ?_; rintro e w2 h2
 obtain ⟨v2, rfl, hv2, k2⟩ := h2
 have hp2 := HP.out.keeps k2
 have hB : w.heap.size < (w.alloc (.cells #[.int .i64 0, .slice none 0 0] 34)).heap.size := by simp
 obtain ⟨p2, q2, rfl, -, -, -⟩ := At.of_own hv2
 obtain ⟨-, d0, d1, e0, e1⟩ := id hp2
 obtain ⟨x0, x1, x2, x3⟩ := hp2.fill (Nat.le_refl _) (.int .i64 ((fkN (2 ^ n)).length : Int)) (.slice p2 (zs (fkN (2 ^ n))).length q2)
 have HX := hid (And.intro x0 (And.intro x1 (And.intro x2 x3)))
 have HO := hid hv2
 clear x0 x1 x2 x3 hp2 hv2
 rw [hlz] at *
 go_wp2_with fail
 refine bodyPost_ret (results_tpS _ _ w.heap.size rfl HX.out.1 HX.out.2.1 ⟨_, _, _, rfl⟩) rfl ?_
 exact ⟨_, rfl, (HO.out.touch HX.out.2.2.2 (fun j hj e => by have := (HO.out.len j hj).1; omega)).mono (by omega), HX.out.2.2.1⟩
end Go.Proofs.YtikooimokfbffaaGreatDoor
namespace Go.Proofs.YtikooimokfbffaaGreatDoor
open Go.RowKit
def RetBC (w : World) (r : Bool) (c : Int) (e : Ending) (w' : World) : Prop := e = .returned (.tuple #[.bool r, .int .i64 c]) ∧ Keeps w w'
set_option maxRecDepth 20000 in
set_option maxHeartbeats 1000000 in
theorem thI_1 (s : ByteArray) (a : List Nd) (v : Value) (w : World) (hv : Nds w v a) (ha : isFm a = false) : Calls Tryz.prog 9 #[.string s, v] w (RetBC w false 1) := by
 have HF := hid (isFormula_any a v w hv)
 rw [ha] at HF
 obtain ⟨p, cap, rfl, _⟩ := hv
 clear ha
 go_enter Tryz.func9, Tryz.ntmps9
 go_wp2_with fail
 refine HF.out.mono ?_; rintro e w2 ⟨rfl, k2⟩
 go_wp2_with fail
 go_ret2
 exact ⟨rfl, k2⟩
set_option maxRecDepth 20000 in
set_option maxHeartbeats 1000000 in
theorem thI_2 (s : ByteArray) (a : List Nd) (v : Value) (w : World) (hv : Nds w v a) (ha : isFm a = true) (hs : findS names9 s = -1) (hL : LaidS 1 names9 w) : Calls Tryz.prog 9 #[.string s, v] w (RetBC w false 4) := by
 have HF := hid (isFormula_any a v w hv)
 have HS := hid (fun wz (kz : Keeps w wz) => intermediateAt_any s wz (hL.keeps kz))
 rw [ha] at HF
 rw [hs] at HS
 obtain ⟨p, cap, rfl, _⟩ := hv
 clear ha hL hs
 go_enter Tryz.func9, Tryz.ntmps9
 go_wp2_with fail
 refine HF.out.mono ?_; rintro e w2 ⟨rfl, k2⟩
 go_wp2_with fail
 refine (HS.out _ k2).mono ?_; rintro e w' ⟨rfl, rfl⟩
 go_wp2_with fail
 go_ret2
 exact ⟨rfl, k2⟩
set_option maxRecDepth 20000 in
set_option maxHeartbeats 1000000 in
theorem thS_1 (s : ByteArray) (a : List Nd) (v : Value) (w : World) (hv : Nds w v a) (ha : isFm a = false) : Calls Tryz.prog 7 #[.string s, v] w (RetBC w false 1) := by
 have HF := hid (l02Is_any a v w hv)
 rw [ha] at HF
 obtain ⟨p, cap, rfl, _⟩ := hv
 clear ha
 go_enter Tryz.func7, Tryz.ntmps7
 go_wp2_with fail
 refine HF.out.mono ?_; rintro e w' ⟨rfl, rfl⟩
 go_wp2_with fail
 go_ret2
 exact ⟨rfl, Keeps.refl _⟩
set_option maxRecDepth 20000 in
set_option maxHeartbeats 1000000 in
theorem thS_2 (s : ByteArray) (a : List Nd) (v : Value) (w : World) (hv : Nds w v a) (ha : isFm a = true) (hs : findS names9 s = -1) : Calls Tryz.prog 7 #[.string s, v] w (RetBC w false 4) := by
 have HF := hid (l02Is_any a v w hv)
 have HS := hid (fun wz => l30Known_any s wz)
 rw [ha] at HF
 rw [hs, show decide ((0 : Int) ≤ -1) = false from rfl] at HS
 obtain ⟨p, cap, rfl, _⟩ := hv
 clear ha hs
 go_enter Tryz.func7, Tryz.ntmps7
 go_wp2_with fail
 refine HF.out.mono ?_; rintro e w' ⟨rfl, rfl⟩
 go_wp2_with fail
 refine (HS.out _).mono ?_; rintro e w2 ⟨rfl, k2⟩
 go_wp2_with fail
 go_ret2
 exact ⟨rfl, k2⟩
end Go.Proofs.YtikooimokfbffaaGreatDoor
namespace Go.Proofs.YtikooimokfbffaaGreatDoor
open Go.RowKit
theorem wmF_ok {v : Nat} (h : v < 6) : OkF (wmF v) := by
 refine ⟨?_, rfl⟩
 simp only [wmF, Fm.not, Fm.wf, and_true]
 exact ⟨h, h⟩
theorem wmF_wt (v : Nat) : wt (wmF v) = 17 := rfl
theorem wmF_len (v : Nat) : (wmF v).enc.length = 9 := rfl
theorem wms_wts : ∀ V : List Nat, wts (V.map wmF) = 17 * V.length
 | [] => rfl
 | v :: V => by
  rw [List.map_cons, wts, wms_wts V, wmF_wt, List.length_cons]; omega
theorem wms_ok {V : List Nat} (h : ∀ v ∈ V, v < 6) : OkL (V.map wmF) := by
 intro a ha
 obtain ⟨v, hv, rfl⟩ := List.mem_map.1 ha
 exact wmF_ok (h v hv)
theorem Ints.nilW (w : World) : Ints w (.slice none 0 0) (zs []) := (OwnI.nil w 0).ints (by simp)
def RetWM (w : World) (G : List Fm) (e : Ending) (w' : World) : Prop := ∃ v R, e = .returned v ∧ Left w' v R ∧ (∀ a, a ∈ R ↔ a ∈ G) ∧ wts R ≤ wts G ∧ Keeps w w'
set_option maxRecDepth 20000 in
set_option maxHeartbeats 1000000 in
theorem weakMiddles_any (V : List Nat) (h6 : ∀ v ∈ V, v < 6) (hl : V.length ≤ 6) (v : Value) (w : World) (hv : Ints w v (zs V)) :
  Calls Tryz.prog 38 #[v] w (RetWM w (V.map wmF)) := by
 have hv0 := hv
 obtain ⟨p, cap, rfl, hle, hmx, -, -⟩ := hv
 rw [zs_length V] at *
 unfold maxLen at hmx
 have HPUT := hid (fun u wz (hu : Left wz u (V.map wmF)) => put_fm (V.map wmF) [] u (.slice none 0 0) wz hu (Left.nil wz) (wms_ok h6) okL_nil (by rw [wms_wts]; simp only [wts]; omega))
 have H6 := hid h6; clear h6
 have HV := hid hv0; clear hv0 hle
 go_enter Tryz.func38, Tryz.ntmps38
 go_wp2_with fail
 go_loopw [3, 9] (fun r i' wr => ∃ k : Nat, k ≤ V.length ∧ i' = .int .i64 k ∧ (∃ ss, OwnS wr w.heap.size r ss ∧ Txts ss ((V.take k).map wmF)) ∧ Keeps w wr) (fun _ i _ => V.length - (intOf i).toNat)
 case atStart => exact ⟨0, by omega, rfl, ⟨[], OwnS.nil _ _, rfl⟩, Keeps.refl _⟩
 case round =>
  obtain ⟨k, hk, rfl, ⟨ss, hss, htx⟩, kw⟩ := hrel
  have hsz := kw.size
  by_cases hlt : k < V.length
  ·have hlt' : (k : Int) < V.length := by omega
   obtain ⟨b, off, rfl, hc⟩ := (HV.out.keeps kw).zs_cell k hlt
   rw [show V.getD k 0 = V[k] by simp [List.getD_eq_getElem?_getD, hlt]] at hc
   have hx6 := H6.out V[k] (List.getElem_mem hlt)
   have HTK : Hid ((V.take (k + 1)).map wmF = (V.take k).map wmF ++ [wmF V[k]]) := hid (by rw [List.take_succ_eq_append_getElem hlt, List.map_append]; rfl)
   have hsl : ss.length ≤ 6 := by have := htx.length; simp at this; omega
   have HTX := hid htx; clear htx
   generalize V[k] = x at *
   have HVA := hid (variable_any x wr)
   have HNO := hid (fun vz wz (hz : Nds wz vz (Fm.var x).enc) => negation_any (.var x) vz wz hz (by simp [Fm.enc]))
   have HNN := hid (fun vz wz (hz : Nds wz vz (Fm.not (.var x)).enc) => negation_any (Fm.not (.var x)) vz wz hz (by simp [Fm.enc, Fm.not]))
   have HJO := hid (fun va vb wz (hva : Nds wz va (Fm.not (.var x)).enc) (hvb : Nds wz vb (Fm.not (Fm.not (.var x))).enc) => join_any 3 _ _ va vb wz hva hvb (by simp [Fm.enc, Fm.not]))
   have HTE := hid (fun vz wz (hz : Nds wz vz (wmF x).enc) => text_any (wmF x) (wmF_ok hx6).1 (by rw [wmF_len]; omega) vz wz hz)
   have L1 : (Fm.var x).enc.length ≤ 2147483648 := by simp [Fm.enc]
   have L2 : (Fm.not (.var x)).enc.length ≤ 2147483648 := by simp [Fm.enc, Fm.not]
   have L3 : (Fm.not (Fm.not (.var x))).enc.length ≤ 2147483648 := by simp [Fm.enc, Fm.not]
   have EW : Hid ((⟨3, 0⟩ :: ((Fm.not (.var x)).enc ++ (Fm.not (Fm.not (.var x))).enc) : List Nd) = (wmF x).enc) := hid rfl
   have L4 : (wmF x).enc.length ≤ 2147483648 := by rw [wmF_len]; omega
   go_wp2_with fail
   refine HVA.out.mono ?_; rintro e w2 ⟨v2, rfl, hv2, k2⟩
   obtain ⟨p2, n2, c2, rfl⟩ := hv2.shape0
   have h2 := hv2.nds L1
   go_wp2_with fail
   refine (HNO.out _ w2 h2).mono ?_; rintro e w3 ⟨v3, rfl, hv3, k3⟩
   obtain ⟨p3, n3, c3, rfl⟩ := hv3.shape0
   have h3 := hv3.nds L2
   go_wp2_with fail
   refine (HNN.out _ w3 h3).mono ?_; rintro e w4 ⟨v4, rfl, hv4, k4⟩
   obtain ⟨p4, n4, c4, rfl⟩ := hv4.shape0
   have h4 := hv4.nds L3
   go_wp2_with fail
   refine (HJO.out _ _ w4 (h3.keeps k4) h4).mono ?_; rintro e w5 ⟨v5, rfl, hv5, k5⟩
   obtain ⟨p5, n5, c5, rfl⟩ := hv5.shape0
   rw [EW.out] at hv5
   have h5 := hv5.nds L4
   go_wp2_with fail
   refine (HTE.out _ w5 h5).mono ?_; rintro e w6 ⟨s, rfl, hs, k6⟩
   have K6 := (((k2.trans k3).trans k4).trans k5).trans k6
   have hsz6 := K6.size
   clear hv2 hv3 hv4 hv5 h2 h3 h4 h5
   go_wp2_with (at_builtin; refine appS rfl (.tmp 16) (.tmp 22) rfl w.heap.size _ ss rfl ((hss.keeps K6).keeps ((Keeps.refl w6).alloc _)) _ [s] rfl (Strs.lit1 w6 s) (by simp; omega) (by simp; omega) ?_; intro v7 w7 hv7 hg7 hr7)
   go_roundw
   case rel => exact ⟨k + 1, by omega, by go_num, ⟨_, hv7, by rw [HTK.out]; exact HTX.out.append (by simp [Txts, hs])⟩, (((kw.trans K6).alloc _).grown hg7 (fun q hq => by have := hr7 q hq; omega))⟩
   case measure => simp [intOf]; omega
  ·obtain rfl : k = V.length := by omega
   have hlt' : ¬ ((V.length : Int) < V.length) := by omega
   have hL := hid (show Left wr _ (V.map wmF) from by
    rw [List.take_length] at htx
    exact hss.left htx (by simp; omega))
   clear hss htx
   obtain ⟨pr, nr, cr, rfl⟩ := hL.out.shape
   go_wp2_with fail
   refine (HPUT.out _ wr hL.out).mono ?_; rintro e w2 ⟨v2, R, rfl, hR, hm, hwt, k2⟩
   obtain ⟨p2, n2, c2, rfl⟩ := hR.left.shape
   go_wp2_with fail
   go_ret
   exact ⟨_, R, rfl, hR.left, fun a => (hm a).trans (by simp), by simp only [wts] at hwt; omega, kw.trans k2⟩
end Go.Proofs.YtikooimokfbffaaGreatDoor
