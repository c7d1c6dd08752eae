import Derived.Test.YtfmmajgkjkmghaaGreatDoorHJI
import Derived.Test.YtfmmajgkjkmghaaGreatDoorHQR
import Derived.RangeFuncNested
import Derived.RangeFuncBound
import Derived.RangeFuncCalls
import Derived.RangeFuncLeaves
import Derived.Shelf.Abstract
import Derived.Shelf.RegionOpen
import Derived.WalkKit
import Derived.OwnWalkIn
import Derived.TacticsInMore
import Derived.LoopIn
/- Draws of orders, third part: a root below an order. -/
namespace Go.Proofs.YtfmmajgkjkmghaaGreatDoor
open Go.RowKit
def jnL (b : List Nat) : List Nat := (2 ^ (b.length + 1) - 1) :: b.map fun x => x * 2
theorem jnL_len (b : List Nat) : (jnL b).length = b.length + 1 := by simp [jnL]
theorem jnL_bnd {b : List Nat} (h : Bnd b.length b) : Bnd (b.length + 1) (jnL b) := mem_bnd fun x hx => by
 have h2 := Nat.two_pow_pos (b.length + 1)
 rcases List.mem_cons.1 hx with rfl | hx
 ·omega
 ·obtain ⟨y, hy, rfl⟩ := List.mem_map.1 hx
  have := bnd_mem h y hy
  rw [Nat.pow_succ]; omega
theorem jnL_take (b : List Nat) (k : Nat) (h : k < b.length) : (jnL b).take (k + 2) = (jnL b).take (k + 1) ++ [b.getD k 0 * 2] := by
 rw [List.take_succ_eq_append_getElem (by rw [jnL_len]; omega)]
 congr 1
 simp [jnL, List.getD_eq_getElem?_getD, h]
theorem jn_root (n : Nat) (h : n ≤ 7) : bits .or .i64 1 (wrap64 (((2 : Int) ^ n - 1) * 2)) = ((2 ^ (n + 1) - 1 : Nat) : Int) := by
 have hw : wrap64 (((2 : Int) ^ n - 1) * 2) = ((2 ^ (n + 1) - 2 : Nat) : Int) := by
  have h1 : (2 : Nat) ^ n ≤ 2 ^ 7 := Nat.pow_le_pow_right (by omega) h
  have h2 := Nat.two_pow_pos n
  have h3 : (2 : Int) ^ n = ((2 ^ n : Nat) : Int) := by push_cast; rfl
  rw [h3, Nat.pow_succ]
  generalize 2 ^ n = m at *
  unfold wrap64
  omega
 rw [hw]
 have : ∀ n : Fin 8, bits .or .i64 1 ((2 ^ ((n : Nat) + 1) - 2 : Nat) : Int) = ((2 ^ ((n : Nat) + 1) - 1 : Nat) : Int) := by decide +kernel
 exact this ⟨n, by omega⟩
theorem made3 (w : World) (a b : Value) {N : Nat} (h : w.heap.size = N) : (w.alloc (.cells #[a, b] 26)).cell? ⟨N, 0, none⟩ = some a ∧ (w.alloc (.cells #[a, b] 26)).cell? ⟨N, 1, none⟩ = some b ∧
  (w.alloc (.cells #[a, b] 26)).frozen? ⟨N, 0, none⟩ = false ∧ (w.alloc (.cells #[a, b] 26)).frozen? ⟨N, 1, none⟩ = false := by
 subst h
 exact ⟨by simp, by simp, by simp, by simp⟩
set_option maxRecDepth 20000 in
set_option maxHeartbeats 1000000 in
theorem l16Join1_any (b : List Nat) (hb : b.length ≤ 7) (hbb : Bnd b.length b) (u v : Value) (w : World) (hu : Ints w u [1]) (hv : Ints w v (zs b)) :
  Calls Tryz.prog 90 #[.agg #[.int .i64 1, u], .agg #[.int .i64 b.length, v], .bool true] w (RetP w (zs (jnL b))) := by
 obtain ⟨pu, cu, rfl, -, hmxu, hatu, -⟩ := hu
 obtain ⟨bu, ou, hpu, hcu⟩ := hatu.int 0 (by simp)
 cases hpu
 simp only [List.getElem_cons_zero, Nat.add_zero] at hcu
 have hv0 := hv
 obtain ⟨pv, cv, rfl, -, hmxv, -, -⟩ := hv
 rw [zs_length b] at *
 unfold maxLen at hmxu hmxv
 have HV := hid hv0; clear hv0 hatu
 have HB := hid hbb; clear hbb
 obtain ⟨W3, hW3⟩ : ∃ W3, W3 = ((w.alloc (.cells #[.int .i64 1, .slice (some ⟨bu, ou, none⟩) 1 cu] 26)).alloc (.cells #[.int .i64 b.length, .slice pv b.length cv] 26)).alloc (.cells #[.int .i64 0, .slice none 0 0] 26) := ⟨_, rfl⟩
 have k3 : Keeps w W3 := by rw [hW3]; exact (((Keeps.refl w).alloc _).alloc _).alloc _
 have hs3 : W3.heap.size = w.heap.size + 1 + 1 + 1 := by rw [hW3]; simp
 have p0 : W3.cell? ⟨w.heap.size, 0, none⟩ = some (.int .i64 1) := by rw [hW3]; exact (((Keeps.refl _).alloc _).alloc _).cell (BoxF.made w 1 (.slice (some ⟨bu, ou, none⟩) 1 cu) 26).1
 have p1 : W3.cell? ⟨w.heap.size, 1, none⟩ = some (.slice (some ⟨bu, ou, none⟩) 1 cu) := by rw [hW3]; exact (((Keeps.refl _).alloc _).alloc _).cell (BoxF.made w 1 (.slice (some ⟨bu, ou, none⟩) 1 cu) 26).2
 have q0 : W3.cell? ⟨w.heap.size + 1, 0, none⟩ = some (.int .i64 b.length) := by rw [hW3]; exact ((Keeps.refl _).alloc _).cell (by have := (BoxF.made (w.alloc (.cells #[.int .i64 1, .slice (some ⟨bu, ou, none⟩) 1 cu] 26)) b.length (.slice pv b.length cv) 26).1; rwa [World.size_alloc] at this)
 have q1 : W3.cell? ⟨w.heap.size + 1, 1, none⟩ = some (.slice pv b.length cv) := by rw [hW3]; exact ((Keeps.refl _).alloc _).cell (by have := (BoxF.made (w.alloc (.cells #[.int .i64 1, .slice (some ⟨bu, ou, none⟩) 1 cu] 26)) b.length (.slice pv b.length cv) 26).2; rwa [World.size_alloc] at this)
 have r0 : W3.cell? ⟨w.heap.size + 1 + 1, 0, none⟩ = some (.int .i64 0) := by rw [hW3]; exact (made3 _ _ _ (by simp)).1
 have r1 : W3.cell? ⟨w.heap.size + 1 + 1, 1, none⟩ = some (.slice none 0 0) := by rw [hW3]; exact (made3 _ _ _ (by simp)).2.1
 have f0 : W3.frozen? ⟨w.heap.size + 1 + 1, 0, none⟩ = false := by rw [hW3]; exact (made3 _ (.int .i64 0) (.slice none 0 0) (by simp)).2.2.1
 have f1 : W3.frozen? ⟨w.heap.size + 1 + 1, 1, none⟩ = false := by rw [hW3]; exact (made3 _ (.int .i64 0) (.slice none 0 0) (by simp)).2.2.2
 have hcu3 := k3.cell hcu
 have HC := hid (And.intro p0 (And.intro p1 (And.intro q0 (And.intro q1 hcu3))))
 have HR := hid (And.intro r0 (And.intro r1 (And.intro f0 f1)))
 have HW3 := hid hW3
 have K3 := hid k3
 clear p0 p1 q0 q1 r0 r1 f0 f1 hcu3 hcu hW3 k3
 have HF := hid (fun wz => l01Full_any (b.length : Int) wz (by omega) (by omega))
 simp only [Int.toNat_natCast] at HF
 have HRT := hid (jn_root b.length hb)
 have HT1 : Hid (zs ((jnL b).take 1) = [((2 ^ (b.length + 1) - 1 : Nat) : Int)]) := hid rfl
 have HTK := hid (fun k h => jnL_take b k h)
 have HLN := hid (fun k (h : k ≤ b.length + 1) => show (zs ((jnL b).take k)).length = k by rw [zs_length, List.length_take, jnL_len]; omega)
 have HEN : Hid ((jnL b).take (b.length + 1) = jnL b) := hid (List.take_of_length_le (by rw [jnL_len]; omega))
 have HVC := hid (fun i (hi : i < b.length) wr (k : Keeps w wr) => (HV.out.keeps k).zs_cell i hi)
 have HBB := hid (fun i => HB.out i)
 have HLJ := jnL_len b
 generalize jnL b = J at *
 obtain ⟨A, hA⟩ : ∃ A : Nat → Nat, ∀ k, A k = b.getD k 0 := ⟨_, fun _ => rfl⟩
 simp only [← hA] at HTK HVC HBB
 clear hA HV HB
 generalize b.length = n at *
 go_enter Tryz.func90, Tryz.ntmps90
 go_wp2_with fail
 rw [← HW3.out]
 go_loopw [7, 8] (fun s7 s8 wr => ((s8 = .int .i64 0 ∧ OwnI wr (w.heap.size + 1 + 1 + 1) s7 []) ∨ (s8 = .int .i64 1 ∧ OwnI wr (w.heap.size + 1 + 1 + 1) s7 (zs (J.take 1)))) ∧ Keeps W3 wr) (fun _ s8 _ => 1 - (intOf s8).toNat)
 case atStart => exact ⟨.inl ⟨rfl, by have := OwnI.empty W3; rw [hs3] at this; exact this⟩, (Keeps.refl W3).alloc _⟩
 case round =>
  obtain ⟨hor01, kw⟩ := hrel
  obtain ⟨p0, p1, q0, q1, hcu⟩ := HC.out
  replace p0 := kw.cell p0
  replace p1 := kw.cell p1
  replace q0 := kw.cell q0
  replace q1 := kw.cell q1
  replace hcu := kw.cell hcu
  rcases hor01 with ⟨rfl, hown⟩ | ⟨rfl, hown⟩
  ·have HS := hid (show w.heap.size + 1 + 1 + 1 ≤ wr.heap.size by have := kw.size; omega)
   have hrt := HRT.out
   have hor : bits .or .i64 1 (wrap64 (((2 : Int) ^ n - 1) * 2)) = ((2 ^ (n + 1) - 1 : Nat) : Int) := hrt
   clear hrt HRT
   generalize ((2 ^ (n + 1) - 1 : Nat) : Int) = P at *
   go_wp2_with fail
   go_quiet (first | (go_at_call 40; refine quietS (HF.out _)))
   all_goals
    have hwd : Keeps wr (wr.drewN nq) := Keeps.drewN (Keeps.refl wr) nq
    have kA := hwd.alloc (.cells #[.int .i64 P] 2)
    have hown2 := hown.keeps kA
    go_wp2_with (at_builtin; refine appI rfl _ _ rfl (w.heap.size + 1 + 1 + 1) _ [] rfl hown2 _ [P] rfl (Ints.lit1 _ P) (by have := HS.out; simp; omega) (by simp) ?_; intro v1 w1 hv1 hg1 hr1)
    go_roundw
    case rel => exact ⟨.inr ⟨rfl, by rw [HT1.out]; exact hv1⟩, (kw.trans kA).grown hg1 (fun i hi => by have := hr1 i hi; have := K3.out.size; omega)⟩
    case measure => simp [intOf]
  ·clear HRT HT1
   go_wp2_with fail
   go_loopw [7, 10] (fun s7 s10 wx => ∃ k : Nat, k ≤ n ∧ s10 = .int .i64 k ∧ OwnI wx (w.heap.size + 1 + 1 + 1) s7 (zs (J.take (k + 1))) ∧ Keeps W3 wx) (fun _ s10 _ => n - (intOf s10).toNat)
   case atStart => exact ⟨0, by omega, rfl, hown, kw⟩
   case round =>
    clear p0 p1 q0 q1 hcu kw hown
    obtain ⟨k, hk, rfl, hown, kw⟩ := hrel
    obtain ⟨p0, p1, q0, q1, hcu⟩ := HC.out
    replace p0 := kw.cell p0
    replace p1 := kw.cell p1
    replace q0 := kw.cell q0
    replace q1 := kw.cell q1
    by_cases hlt : k < n
    ·have hlt' : (k : Int) < n := by omega
     obtain ⟨b1, o1, e1, h1⟩ := HVC.out k hlt _ (K3.out.trans kw)
     cases e1
     have htk := HTK.out k hlt
     have hab := HBB.out k
     have hzl := HLN.out (k + 1) (by omega)
     generalize A k = x at *
     have hwx : IntKind.i64.wrap ((x : Int) * 2 ^ min (IntKind.u64.wrap 1).toNat 64) = ((x * 2 : Nat) : Int) := by
      have h7 : (2 : Nat) ^ n ≤ 2 ^ 7 := Nat.pow_le_pow_right (by omega) hb
      rw [show min (IntKind.u64.wrap 1).toNat 64 = 1 by decide, show (x : Int) * 2 ^ 1 = ((x * 2 : Nat) : Int) by push_cast; omega]
      exact wrapN _ (by omega)
     generalize x * 2 = y at *
     have HSI := hid htk; clear htk
     have HWX := hid hwx; clear hwx
     have hsz := kw.size
     go_wp2_with fail
     go_region_law (refine stepI rfl (.tmp 45) (.tmp 55) rfl (w.heap.size + 1 + 1 + 1) _ (zs (J.take (k + 1))) rfl (by exact hown.keeps (by first | exact ((Keeps.refl wr).drew).alloc _ | exact ((Keeps.refl wr).alloc _).drew)) _ [_] rfl (by first | exact Ints.lit1 _ _ | exact (Ints.lit1 _ _).keeps ((Keeps.refl _).drew)) (by simp; omega) (by rw [hzl]; simp; omega) ?_; intro v1 w1 hv1 hg1 hr1)
     all_goals
      have k2 : Keeps W3 w1 := by
       refine Keeps.grown ?_ hg1 (fun i hi => by have := hr1 i hi; omega)
       first | exact (kw.drew.alloc _) | exact (kw.alloc _).drew
      go_wp2
      go_roundw
      case rel => exact ⟨k + 1, by omega, by go_num, by rw [HSI.out, zs_snoc, ← HWX.out]; exact hv1, k2⟩
      case measure => simp [intOf]; omega
    ·have e : n = k := by omega
     subst e
     have hlt' : ¬ (n : Int) < n := by omega
     rw [HEN.out] at hown
     have hin := hown.ints (by rw [zs_length, HLJ]; omega)
     have HMK := hid (l16Make_any (zs J) _ _ hin)
     obtain ⟨pj, nj, qj, rfl⟩ := (show ∃ p n c, _ = Value.slice p n c by obtain ⟨p, c, e, _⟩ := At.of_own hown; exact ⟨p, _, c, e⟩)
     clear hown hin
     go_wp2_with fail
     refine HMK.out.mono ?_; rintro e w5 ⟨v5, rfl, hv5, k5⟩
     obtain ⟨p5, c5, rfl, -, -, -⟩ := At.of_own hv5
     have kz := k5
     have hr := HR.out
     obtain ⟨r0, r1, f0, f1⟩ := hr
     have kk := kw.trans k5
     obtain ⟨hc2, hf2⟩ := kk.both
     replace r0 := kk.cell r0
     replace r1 := kk.cell r1
     rw [← hf2 _ _ (by omega)] at f0 f1
     have hlz : (zs J).length = n + 1 := by rw [zs_length, HLJ]
     rw [hlz] at hv5 ⊢
     have hB : w.heap.size + 1 + 1 < wr.heap.size := by have := kw.size; omega
     have HO5 := hid hv5
     clear hc2 hf2 hv5 kz
     go_wp2_with fail
     refine bodyPost_ret (v := .agg #[.int .i64 ((n + 1 : Nat) : Int), .slice p5 (n + 1) c5]) (by simp [results, Tryz.results90, go_sem, r0, r1]) rfl ?_
     exact ⟨.slice p5 (n + 1) c5, by rw [hlz], ((HO5.out.setBelow hB _).setBelow (by simpa using hB) _).mono (by omega), ((K3.out.trans kk).setCell (show w.heap.size ≤ w.heap.size + 1 + 1 by omega) _).setCell (show w.heap.size ≤ w.heap.size + 1 + 1 by omega) _⟩
end Go.Proofs.YtfmmajgkjkmghaaGreatDoor
namespace Go.Proofs.YtfmmajgkjkmghaaGreatDoor
open Go.RowKit
structure RB (W : World) (r : Nat) : Prop where
 c0 : W.cell? ⟨r, 0, none⟩ = some (.int .i64 0)
 c1 : W.cell? ⟨r, 1, none⟩ = some (.slice none 0 0)
 f0 : W.frozen? ⟨r, 0, none⟩ = false
 f1 : W.frozen? ⟨r, 1, none⟩ = false
theorem RB.made (w : World) : RB (w.alloc (.cells #[.int .i64 0, .slice none 0 0] 26)) w.heap.size := ⟨by simp, by simp, by simp, by simp⟩
theorem RB.lt {W : World} {r : Nat} (h : RB W r) : r < W.heap.size := World.block_lt_of_cell? _ _ h.c0
theorem RB.touch {W W' : World} {r : Nat} {S : Nat → Prop} (h : RB W r) (k : Touch W W' S) (hS : ¬ S r) : RB W' r := by
 have hc := k.cell h.lt hS
 exact ⟨by rw [hc.1]; exact h.c0, by rw [hc.1]; exact h.c1, by rw [hc.2]; exact h.f0, by rw [hc.2]; exact h.f1⟩
theorem RB.dr {W W' : World} {r B : Nat} (h : RB W r) (k : Dr B W W') (hne : r ≠ B) : RB W' r := h.touch k.1 hne
theorem RB.keeps {W W' : World} {r : Nat} (h : RB W r) (k : Keeps W W') : RB W' r := h.touch (Touch.of_keeps k (fun _ => False)) id
def DrawP (B N : Nat) (w : World) (e : Ending) (w' : World) : Prop := ∃ v, ∃ a : List Nat, e = .returned (.agg #[.int .i64 a.length, v]) ∧ OwnI w' w.heap.size v (zs a) ∧ a.length ≤ N ∧ Bnd a.length a ∧ Dr B w w'
theorem Bnd.mono {n m : Nat} {a : List Nat} (h : Bnd n a) (k : n ≤ m) : Bnd m a := fun i => Nat.lt_of_lt_of_le (h i) (Nat.pow_le_pow_right (by omega) k)
theorem Bnd.snoc {n x : Nat} {a : List Nat} (h : Bnd n a) (hx : x < 2 ^ n) : Bnd n (a ++ [x]) := mem_bnd fun y hy => by
 rcases List.mem_append.1 hy with h1 | h1
 ·exact bnd_mem h y h1
 ·rw [List.mem_singleton.1 h1]; exact hx
theorem and_not_le (a b : Nat) : a ^^^ (a &&& b) ≤ a := by
 have h : (a ^^^ (a &&& b)) &&& a = a ^^^ (a &&& b) := by
  apply Nat.eq_of_testBit_eq
  intro i
  simp only [Nat.testBit_and, Nat.testBit_xor]
  cases a.testBit i <;> cases b.testBit i <;> rfl
 rw [← h]; exact Nat.and_le_right
theorem drawP_end {B N g : Nat} {w W : World} {p : Option Addr} {c : Nat} {a : List Nat} (hg : w.heap.size ≤ g) (hB : B < g) (b : Nat) (hb : g < b) (hv : OwnI W b (.slice p a.length c) (zs a)) (hw : w.heap.size ≤ b) (hN : a.length ≤ N) (hbn : Bnd a.length a) (D : Dr B w W) (x y : Value) :
  DrawP B N w (.returned (.agg #[.int .i64 a.length, .slice p a.length c])) ((W.setCell ⟨g, 0, none⟩ x).setCell ⟨g, 1, none⟩ y) := by
 refine ⟨_, a, rfl, ((hv.setBelow hb _).setBelow hb _).mono hw, hN, hbn, ?_⟩
 have t1 : Touch W (W.setCell ⟨g, 0, none⟩ x) (fun k => k = g) := (Touch.grown (grown_set g 0 x)).mono (fun k e => by simpa using e)
 have t2 : Touch (W.setCell ⟨g, 0, none⟩ x) ((W.setCell ⟨g, 0, none⟩ x).setCell ⟨g, 1, none⟩ y) (fun k => k = g) := (Touch.grown (grown_set g 1 y)).mono (fun k e => by simpa using e)
 exact D.beside (t1.trans t2) hB hg
theorem Dr.besideR {B : Nat} {a b c : World} {row : Option Nat} (h : Dr B a b) (k : b.grownBy c row) (hr : ∀ i, row = some i → B < i ∧ a.heap.size ≤ i) : Dr B a c := by
 cases row with
 | none => exact h.beside (g := max (B + 1) a.heap.size) ((Touch.grown k).mono (fun i e => by cases e)) (by omega) (by omega)
 | some g => exact h.beside ((Touch.grown k).mono (fun i e => by simpa using e)) (hr g rfl).1 (hr g rfl).2
def SmRelD (B n : Nat) (w : World) (s6 s8 : Value) (wr : World) : Prop := ∃ l : List Nat, l.length ≤ n ∧ s8 = .int .i64 l.length ∧ OwnI wr (w.heap.size + 1) s6 (zs l) ∧ Bnd n l ∧ Dr B w wr
def SmInD (B n th : Nat) (w : World) (row : Value) (l : List Nat) (s9 s10 : Value) (wr : World) : Prop := ∃ j m : Nat, j ≤ th ∧ s10 = .int .i64 j ∧ s9 = .int .i64 m ∧ m < 2 ^ n ∧ OwnI wr (w.heap.size + 1) row (zs l) ∧ Dr B w wr
set_option maxRecDepth 20000 in
set_option maxHeartbeats 2000000 in
theorem l16Some_any (B N : Nat) (hN : N ≤ 8) (w : World) (hs : Src w B) : Calls Tryz.prog 35 #[.pointer (some ⟨B, 0, none⟩), .int .i64 N] w (DrawP B N w) := by
 have hB := hs.lt
 obtain ⟨W0, hW0⟩ : ∃ W, W = w.alloc (.cells #[.int .i64 0, .slice none 0 0] 26) := ⟨_, rfl⟩
 have hb0 : RB W0 w.heap.size := by rw [hW0]; exact RB.made w
 have D0 : Dr B w W0 := by rw [hW0]; exact Dr.of hs ((Keeps.refl w).alloc _)
 have hs0 : W0.heap.size = w.heap.size + 1 := by rw [hW0]; simp
 have HW0 := hid hW0
 have HB0 := hid hb0
 clear hb0
 go_enter Tryz.func35, Tryz.ntmps35
 go_wp2_with fail
 rw [← HW0.out]
 refine (l01Next_any ((N : Int) + 1) B W0 D0.2 (by omega)).mono ?_; rintro e w1 ⟨n, rfl, hn, d1⟩
 have D1 := D0.trans d1
 have hb1 := HB0.out.dr d1 (by omega)
 have hs1 := d1.size
 have hnN : n ≤ N := by omega
 clear hn d1
 have HF := hid (fun wz => l01Full_any (n : Int) wz (by omega) (by omega))
 simp only [Int.toNat_natCast] at HF
 have hp8 : (2 : Nat) ^ n ≤ 2 ^ 8 := Nat.pow_le_pow_right (by omega) (by omega)
 have hpc : (2 : Int) ^ n = ((2 ^ n : Nat) : Int) := by push_cast; rfl
 have D2 := D1.keeps ((Keeps.refl w1).alloc (.cells #[] 2))
 have hE := (OwnI.empty w1).mono (show w.heap.size + 1 ≤ w1.heap.size by omega)
 have HE := hid hE; clear hE
 have hb2 := hb1.keeps ((Keeps.refl w1).alloc (.cells #[] 2))
 have HNX := hid (l01Next_any 3 B _ D2.2 (by omega))
 go_wp2_with fail
 refine HNX.out.mono ?_; rintro e w2 ⟨th, rfl, hth, d2⟩
 have D3 := D2.trans d2
 have hE2 := HE.out.dr d2 (by omega)
 have hb3 := hb2.dr d2 (by omega)
 have hth2 : th ≤ 2 := by omega
 have HST := hid (show SmRelD B n w _ (.int .i64 0) w2 from ⟨[], by simp, rfl, hE2, fun i => by simp [Nat.two_pow_pos], D3⟩)
 clear HE hE2 hth d2 D2 D1 hb2 hb1 HB0 hs1 hs0 HW0 hW0 D0 HNX
 have hP0 : (0 : Int) ≤ (2 : Int) ^ n - 1 ∧ (2 : Int) ^ n - 1 ≤ 255 ∧ (2 : Int) ^ n - 1 + 1 = ((2 ^ n : Nat) : Int) := by
  have := Nat.two_pow_pos n
  rw [hpc]; omega
 generalize (2 : Int) ^ n - 1 = P at *
 obtain ⟨hP1, hP2, hP3⟩ := hP0
 have HP3 := hid hP3
 clear hpc hP3
 go_wp2_with fail
 go_loopw [6, 8] (fun s6 s8 wr => SmRelD B n w s6 s8 wr ∧ RB wr w.heap.size) (fun _ s8 _ => n - (intOf s8).toNat)
 case atStart => exact ⟨HST.out, hb3⟩
 case round =>
  obtain ⟨⟨l, hl, rfl, hown, hbl, D⟩, hb⟩ := hrel
  clear HST hb3 D3
  obtain ⟨p6, n6, c6, rfl⟩ := hown.shape0
  by_cases hlt : l.length < n
  ·have hlt' : (l.length : Int) < n := by omega
   have HF2 := hid (fun wz => l01Full_any ((l.length : Int) + 1) wz (by omega) (by omega))
   rw [show ((l.length : Int) + 1).toNat = l.length + 1 by omega] at HF2
   have hq : (2 : Int) ^ (l.length + 1) - 1 = ((2 ^ (l.length + 1) - 1 : Nat) : Int) := by
    have := Nat.two_pow_pos (l.length + 1)
    rw [show (2 : Int) ^ (l.length + 1) = ((2 ^ (l.length + 1) : Nat) : Int) by push_cast; rfl]
    omega
   rw [hq] at HF2
   have hq8 : 2 ^ (l.length + 1) - 1 < 512 := by
    have : (2 : Nat) ^ (l.length + 1) ≤ 2 ^ 8 := Nat.pow_le_pow_right (by omega) (by omega)
    omega
   generalize 2 ^ (l.length + 1) - 1 = q at *
   clear hq
   have HBL := hid hbl; clear hbl
   have HLL : Hid (l.length = l.length) := hid rfl
   generalize hln : l.length = ln at *
   have HLN := hid hln; clear hln
   go_wp2_with fail
   refine (HF.out _).mono ?_; rintro e w' ⟨rfl, rfl⟩
   go_wp2_with fail
   refine (l01Next_any (P + 1) B _ D.2 (by omega)).mono ?_; rintro e w4 ⟨r4, rfl, hr4, d4⟩
   have D4 := D.trans d4
   have hr4' : r4 < 2 ^ n := by have := HP3.out; have := Nat.two_pow_pos n; omega
   have hown4 := hown.dr d4 (by omega)
   have hb4 := hb.dr d4 (by omega)
   have han := andNotN r4 q (by omega) (by omega)
   have hle := and_not_le r4 q
   generalize r4 ^^^ (r4 &&& q) = m0 at *
   have HIN := hid (show SmInD B n th w (.slice p6 n6 c6) l (.int .i64 m0) (.int .i64 0) w4 from ⟨0, m0, by omega, rfl, rfl, by omega, hown4, D4⟩)
   clear hown hown4 D D4 d4 hb hr4
   go_wp2_with fail
   refine (HF2.out _).mono ?_; rintro e w' ⟨rfl, rfl⟩
   go_wp2_with fail
   go_loopw [9, 10] (fun s9 s10 wx => SmInD B n th w (.slice p6 n6 c6) l s9 s10 wx ∧ RB wx w.heap.size) (fun _ s10 _ => th - (intOf s10).toNat)
   case atStart => first | exact ⟨HIN.out, hb4⟩ | (rw [han]; exact ⟨HIN.out, hb4⟩)
   case round =>
    clear HIN hb4 han hle hr4'
    obtain ⟨⟨j, m, hj, rfl, rfl, hm, hown, D⟩, hb⟩ := hrel
    by_cases hjt : j < th
    ·have hjt' : (j : Int) < th := by omega
     go_wp2_with fail
     refine (HF.out _).mono ?_; rintro e w' ⟨rfl, rfl⟩
     go_wp2_with fail
     refine (l01Next_any (P + 1) B _ D.2 (by omega)).mono ?_; rintro e w5 ⟨r5, rfl, hr5, d5⟩
     have D5 := D.trans d5
     have hown5 := hown.dr d5 (by omega)
     have hb5 := hb.dr d5 (by omega)
     have han5 := andN m r5 (by omega) (by omega)
     have hle5 : m &&& r5 ≤ m := Nat.and_le_left
     generalize m &&& r5 = m5 at *
     have HI5 := hid (show SmInD B n th w (.slice p6 n6 c6) l (.int .i64 m5) (.int .i64 ((j + 1 : Nat) : Int)) w5 from ⟨j + 1, m5, by omega, rfl, rfl, by omega, hown5, D5⟩)
     clear hown hown5 D D5 d5 hb
     go_wp2_with fail
     go_roundw
     case rel => first | exact ⟨HI5.out, hb5⟩ | (rw [han5]; exact ⟨HI5.out, hb5⟩)
     case measure => simp [intOf]; omega
    ·have e : th = j := by omega
     subst e
     have hjt' : ¬ (th : Int) < th := by omega
     have hsz := D.size
     have kA := (Keeps.refl wr).alloc (.cells #[.int .i64 (m : Int)] 2)
     have hlz : (zs l).length = ln := by rw [zs_length]; exact HLN.out
     go_wp2_with (at_builtin; refine appI rfl _ _ rfl (w.heap.size + 1) _ (zs l) rfl (hown.keeps kA) _ [(m : Int)] rfl (Ints.lit1 wr m) (by have := D.2.lt; have := hb.lt; simp; omega) (by rw [hlz]; simp; omega) ?_; intro v7 w7 hv7 hg7 hr7)
     go_roundw
     case rel =>
      refine ⟨⟨l ++ [m], by simp; have := HLN.out; omega, by simp [HLN.out], by rw [zs_snoc]; exact hv7, HBL.out.snoc hm, (D.keeps kA).besideR hg7 (fun i hi => by have := hr7 i hi; omega)⟩, (hb.keeps kA).touch (Touch.grown hg7) (fun e => by have := hr7 _ e.symm; omega)⟩
     case measure => simp [intOf]; omega
  ·have e : l.length = n := by omega
   have hlt' : ¬ (l.length : Int) < n := by omega
   have hszw := hb.lt
   have hin := hown.ints (by rw [zs_length]; omega)
   have HRF := hid (l01Reflexive_any l _ wr hin (by omega) (hbl.mono (by omega)))
   have hlr : (rfL l l.length).length = n := by rw [rfL_len]; exact e
   have hbr : Bnd n (rfL l l.length) := rfL_bnd hbl (by omega)
   clear hown hin hbl HF
   generalize rfL l l.length = b at *
   go_wp2_with fail
   refine HRF.out.mono ?_; rintro e w4 ⟨v4, rfl, hv4, k4⟩
   have HCL := hid (l01Closure_any b v4 w4 (hv4.ints (by rw [zs_length]; omega)) (by omega) (by rw [hlr]; exact hbr))
   have hla : (wAll b b.length b.length).length = n := by rw [wAll_len]; exact hlr
   have hba : Bnd n (wAll b b.length b.length) := wAll_bnd hbr _ _
   generalize wAll b b.length b.length = a at *
   obtain ⟨p4, n4, c4, rfl⟩ := hv4.shape0
   clear hv4 hbr
   go_wp2_with fail
   refine HCL.out.mono ?_; rintro e w5 ⟨v5, rfl, hv5, k5⟩
   obtain ⟨p5, n5, c5, rfl⟩ := hv5.shape0
   have D5 := (D.keeps k4).keeps k5
   have hb5 := (hb.keeps k4).keeps k5
   have hz4 := k4.size
   have hz5 := k5.size
   go_wp2_with fail
   refine (l01Next_any 2 B w5 D5.2 (by omega)).mono ?_; rintro e w6 ⟨r6, rfl, hr6, d6⟩
   have D6 := D5.trans d6
   have hb6 := hb5.dr d6 (by omega)
   have hv6 := hv5.dr d6 (by omega)
   have hz6 := d6.size
   clear hv5 d6 D5 hb5 D hb k4 k5
   have hin6 := hv6.ints (by rw [zs_length]; omega)
   by_cases hz : r6 = 0
   ·subst hz
    have HMK := hid (l16Make_any (zs a) _ w6 hin6)
    clear hin6 hv6
    go_wp2_with fail
    refine HMK.out.mono ?_; rintro e w7 ⟨v7, rfl, hv7, k7⟩
    have D7 := D6.keeps k7
    have hb7 := hb6.keeps k7
    have hz7 := k7.size
    obtain ⟨p9, c9, rfl, -, -, -⟩ := At.of_own hv7
    have hlz : (zs a).length = n := by rw [zs_length]; exact hla
    have HE := hid (fun x y => drawP_end (N := N) (Nat.le_refl _) hB w6.heap.size (show w.heap.size < w6.heap.size by omega) (by rw [zs_length] at hv7; exact hv7) (by omega) (by omega) (by rw [hla]; exact hba) D7 x y)
    rw [hla] at HE
    rw [hlz]
    obtain ⟨r0, r1, f0, f1⟩ := hb7
    clear hv7 k7 D7
    go_wp2_with fail
    refine bodyPost_ret (v := .agg #[.int .i64 (n : Int), .slice p9 n c9]) (by simp [results, Tryz.results35, go_sem, r0, r1]) rfl ?_
    exact HE.out _ _
   ·have hz' : ((r6 : Nat) : Int) ≠ 0 := by omega
    have HSH := hid (l16Shuffle_any B n (by omega) w6 D6.2)
    go_wp2_with fail
    refine HSH.out.mono ?_; rintro e w7 ⟨v7, o, rfl, hv7, hlo, hox, d7⟩
    have D7 := D6.trans d7
    have hb7 := hb6.dr d7 (by omega)
    have hv67 := hv6.dr d7 (by omega)
    have hz7 := d7.size
    obtain ⟨p7, n7, c7, rfl⟩ := hv7.shape0
    have HRN := hid (l05Renumber_any a o _ _ w7 (hv67.ints (by rw [zs_length]; omega)) (hv7.ints (by rw [zs_length]; omega)) (by omega) (by omega) (by rw [hlo]; exact hox) (by rw [hlo]; exact hba))
    have hlc : (renP a o).length = n := by rw [renP_len]; exact hlo
    have hbc : Bnd n (renP a o) := by have := renP_bnd a o; rwa [hlo] at this
    clear hv6 hin6 hv67 hv7 hba hox d7 D6 hb6
    generalize renP a o = c at *
    go_wp2_with fail
    refine HRN.out.mono ?_; rintro e w8 ⟨v8, rfl, hv8, k8⟩
    obtain ⟨p8, n8, c8, rfl⟩ := hv8.shape0
    have HMK := hid (l16Make_any (zs c) _ w8 (hv8.ints (by rw [zs_length]; omega)))
    have hz8 := k8.size
    have D8 := D7.keeps k8
    have hb8 := hb7.keeps k8
    clear hv8 k8
    go_wp2_with fail
    refine HMK.out.mono ?_; rintro e w9 ⟨v9, rfl, hv9, k9⟩
    have D9 := D8.keeps k9
    have hb9 := hb8.keeps k9
    obtain ⟨p9, c9, rfl, -, -, -⟩ := At.of_own hv9
    have hlz : (zs c).length = n := by rw [zs_length]; exact hlc
    have HE := hid (fun x y => drawP_end (N := N) (Nat.le_refl _) hB w8.heap.size (show w.heap.size < w8.heap.size by omega) (by rw [zs_length] at hv9; exact hv9) (by omega) (by omega) (by rw [hlc]; exact hbc) D9 x y)
    rw [hlc] at HE
    rw [hlz]
    obtain ⟨r0, r1, f0, f1⟩ := hb9
    clear hv9 k9 D9
    go_wp2_with fail
    refine bodyPost_ret (v := .agg #[.int .i64 (n : Int), .slice p9 n c9]) (by simp [results, Tryz.results35, go_sem, r0, r1]) rfl ?_
    exact HE.out _ _
end Go.Proofs.YtfmmajgkjkmghaaGreatDoor
namespace Go.Proofs.YtfmmajgkjkmghaaGreatDoor
open Go.RowKit
def JRes (J Jx : World → Prop) (b : Bool) (W : World) : Prop :=
 match b with
 | true => J W
 | false => Jx W
def bodyQ (p : Bool) (I Ix : World → Prop) (S : Nat → Prop) (W : World) (e : Exit) (W' : World) : Prop :=
 match e with
 | .normal => p = true ∧ I W' ∧ Touch W W' S
 | .ret => p = false ∧ Ix W' ∧ Touch W W' S
 | _ => False
theorem wp_rangeFunc_st {P : Program} {β : Type} {g : Operand} {ps : Array Tmp} {assign body : Code} {Q : Exit → Act → World → Prop} {a : Act} {w : World} {n : Nat}
  {gf : Nat} {lb : Array Value} (hg : a.eval g = .func (.func gf) #[] lb) (eg : ∀ args w, (callFunc gf args).run P w = .ok (.enter gf args) w)
  (arg : β → Value) (hps : ps.size = 1) (Rd : β → World → Prop) (hRd : ∀ x A B l, Rd x A → A.grownBy B (some l) → (∃ o : Obj, A.heap[l]? = some o ∧ o.isCells = false) → Rd x B)
  (Pt : β → Bool) (res : Bool) (S : Nat → Prop) (hS : ∀ k, S k → k < w.heap.size)
  (I Ix : World → Prop) (hI : ∀ A B, I A → Touch A B (fun k => w.heap.size ≤ k) → I B) (hIx : ∀ A B, Ix A → Touch A B (fun k => w.heap.size ≤ k) → Ix B) (h0 : I w) (a₁ : β → Act)
  (hseq : ∀ (J Jx : World → Prop) (W1 : World), W1.heap.size = w.heap.size + 2 → Keeps w W1 → (∀ A B, J A → Touch A B (fun k => w.heap.size + 2 ≤ k) → J B) → (∀ A B, Jx A → Touch A B (fun k => w.heap.size + 2 ≤ k) → Jx B) →
   (∀ x W, J W → Rd x W → YieldAt Fence.wide (n - 1 - 1) P (w.heap.size + 1) #[arg x] W fun e W' => e = .returned (.bool (Pt x)) ∧ JRes J Jx (Pt x) W' ∧ Touch W W' (fun k => S k ∨ k = w.heap.size + 1)) →
   J W1 → CallsIn Fence.wide (n - 1) P gf (#[.func (.yield (w.heap.size + 1)) #[] #[]] ++ lb) W1 fun e W' => (∃ v, e = .returned v) ∧ JRes J Jx res W')
  (hassign : ∀ (l : Nat) (x : β) (W : World) (K : Act → World → Prop), K (a₁ x) W →
   assign.wpIn (Fence.wide.inRound l) (n - 1 - 1) P (Exit.then K (fun _ _ _ => False)) { tmps := (ps.zip #[arg x]).foldl (fun t (p, v) => t.setIfInBounds p v) a.tmps, defers := [] } W)
  (hbody : ∀ (l : Nat) (x : β) (W : World), I W → Rd x W → body.wpIn (Fence.wide.inRound l) (n - 1 - 1) P (fun e _ W' => bodyQ (Pt x) I Ix S W e W') (a₁ x) W)
  (hdone : ∀ W, res = true → I W → W.heap[w.heap.size]? = some (.deferred (some [])) → Q .normal { a with defers := { target := .collected w.heap.size, args := #[] } :: a.defers } W)
  (hstop : ∀ W, res = false → Ix W → W.heap[w.heap.size]? = some (.deferred (some [])) → Code.ret.wpIn Fence.wide n P Q { a with defers := { target := .collected w.heap.size, args := #[] } :: a.defers } W) :
  (Code.rangeFunc g ps assign body).wpIn Fence.wide n P Q a w := by
 refine wpIn_rangeFunc ?_
 intro fn hfn
 rw [show Fence.wide.round = none from rfl]
 obtain ⟨mk, hmk⟩ : ∃ mk : LoopState → Option Code → Loop, mk = fun st pe => { state := st, pending := pe, fn, tmps := a.tmps, params := ps, assign, body, defers := w.heap.size } := ⟨_, rfl⟩
 obtain ⟨W1, hW1⟩ : ∃ W1, (w.alloc (.deferred (some []))).alloc (.loop (mk .ready none)) = W1 := ⟨_, rfl⟩
 have hs1 : W1.heap.size = w.heap.size + 2 := by rw [← hW1]; simp
 have hk1 : Keeps w W1 := by rw [← hW1]; exact ((Keeps.refl w).alloc _).alloc _
 have hL1 : W1.heap[w.heap.size + 1]? = some (.loop (mk .ready none)) := by
  rw [← hW1]
  have := World.alloc_heap_new (w.alloc (.deferred (some []))) (.loop (mk .ready none))
  rwa [World.size_alloc] at this
 have hD1 : W1.heap[w.heap.size]? = some (.deferred (some [])) := by
  rw [← hW1]
  exact (Below.heap_alloc _ _ _ (by simp)).trans (World.alloc_heap_new w _)
 have hI1 : I W1 := hI _ _ h0 (Touch.of_keeps hk1 _)
 -- a write of the loop's record
 have hput : ∀ (A : World) (o : Obj), Touch A (A.putObj (w.heap.size + 1) o) (fun k => k = w.heap.size + 1) := fun A o => (Touch.grown (grownBy_putObj' A (w.heap.size + 1) o)).mono (fun k e => by simpa using e)
 have hputI : ∀ {A : World} (o : Obj), I A → I (A.putObj (w.heap.size + 1) o) := fun o h => hI _ _ h ((hput _ o).mono (fun k e => by omega))
 have hputX : ∀ {A : World} (o : Obj), Ix A → Ix (A.putObj (w.heap.size + 1) o) := fun o h => hIx _ _ h ((hput _ o).mono (fun k e => by omega))
 refine ⟨w.heap.size + 1, [{ target := .collected w.heap.size, args := #[] }], W1, { target := .fn (.func gf) lb, args := #[.func (.yield (w.heap.size + 1)) #[] #[]] }, W1, gf,
  #[.func (.yield (w.heap.size + 1)) #[] #[]] ++ lb, W1, ?_, ?_, fun _ _ => trivial, ?_, (fun h => by simp [Fence.wide] at h), ?_⟩
 ·rw [← hW1, hmk]; exact run_enterLoop_outer _ _ _ _ _
 ·simp only [resolve, hg]
  simp [go_sem]
 ·simp [invoke, go_sem, eg]
 ·refine (hseq (fun W => I W ∧ W.heap[w.heap.size + 1]? = some (.loop (mk .ready none)) ∧ W.heap[w.heap.size]? = some (.deferred (some [])))
   (fun W => Ix W ∧ W.heap[w.heap.size + 1]? = some (.loop (mk .done (some .ret))) ∧ W.heap[w.heap.size]? = some (.deferred (some []))) W1 hs1 hk1 ?_ ?_ ?_ ⟨hI1, hL1, hD1⟩).mono ?_
  ·rintro A B ⟨h1, h2, h3⟩ k
   refine ⟨hI A B h1 (k.mono (fun i hi => by omega)), ?_, ?_⟩
   ·rw [k.block _ (Array.getElem?_eq_some_iff.1 h2).1 (by omega)]; exact h2
   ·rw [k.block _ (Array.getElem?_eq_some_iff.1 h3).1 (by omega)]; exact h3
  ·rintro A B ⟨h1, h2, h3⟩ k
   refine ⟨hIx A B h1 (k.mono (fun i hi => by omega)), ?_, ?_⟩
   ·rw [k.block _ (Array.getElem?_eq_some_iff.1 h2).1 (by omega)]; exact h2
   ·rw [k.block _ (Array.getElem?_eq_some_iff.1 h3).1 (by omega)]; exact h3
  ·rintro x W ⟨hi, hl, hd⟩ hrd
   have hlt : w.heap.size + 1 < W.heap.size := (Array.getElem?_eq_some_iff.1 hl).1
   have hy := run_yield (P := P) (args := #[arg x]) hl (by rw [hmk, hps]; rfl)
   rw [hmk] at hy
   refine ⟨fn, _, assign, body, hy, roundIn_of_wpIn hfn (hassign _ x W _ ⟨_, run_beginRound hl (by rw [hmk]), ?_⟩)⟩
   obtain ⟨W2, hW2⟩ : ∃ W2, W.putObj (w.heap.size + 1) (.loop { mk .ready none with state := .busy }) = W2 := ⟨_, rfl⟩
   have hl2 : W2.heap[w.heap.size + 1]? = some (.loop { mk .ready none with state := .busy }) := by rw [← hW2]; exact World.putObj_heap_same hlt
   have hd2 : W2.heap[w.heap.size]? = some (.deferred (some [])) := by rw [← hW2]; exact (World.putObj_heap_other (by omega)).trans hd
   have hi2 : I W2 := by rw [← hW2]; exact hputI _ hi
   have ht2 : Touch W W2 (fun k => k = w.heap.size + 1) := by rw [← hW2]; exact hput _ _
   have hr2 : Rd x W2 := by rw [← hW2]; exact hRd x _ _ _ hrd (grownBy_putObj' W (w.heap.size + 1) _) ⟨_, hl, rfl⟩
   rw [hmk] at hW2 ⊢
   rw [hW2]
   refine wpIn_mono (hbody _ x W2 hi2 hr2) ?_
   rintro e a3 W3 hp
   have fin : ∀ (jump : Option Code), Touch W2 W3 S → (Instr.endRound (w.heap.size + 1) jump).run P W3 = .ok (.bool jump.isNone) (W3.putObj (w.heap.size + 1) (.loop (mk (if jump.isNone then .ready else .done) jump))) ∧
     (W3.putObj (w.heap.size + 1) (.loop (mk (if jump.isNone then .ready else .done) jump))).heap[w.heap.size + 1]? = some (.loop (mk (if jump.isNone then .ready else .done) jump)) ∧
     (W3.putObj (w.heap.size + 1) (.loop (mk (if jump.isNone then .ready else .done) jump))).heap[w.heap.size]? = some (.deferred (some [])) ∧
     Touch W (W3.putObj (w.heap.size + 1) (.loop (mk (if jump.isNone then .ready else .done) jump))) (fun k => S k ∨ k = w.heap.size + 1) := fun jump ht => by
    have hl3 : W3.heap[w.heap.size + 1]? = some (.loop { mk .ready none with state := .busy }) := by
     rw [ht.block _ (Array.getElem?_eq_some_iff.1 hl2).1 (fun e => by have := hS _ e; omega)]; exact hl2
    have hd3 : W3.heap[w.heap.size]? = some (.deferred (some [])) := by
     rw [ht.block _ (Array.getElem?_eq_some_iff.1 hd2).1 (fun e => by have := hS _ e; omega)]; exact hd2
    have hr := run_endRound (P := P) jump hl3
    rw [hmk] at hr ⊢
    exact ⟨hr, World.putObj_heap_same (Array.getElem?_eq_some_iff.1 hl3).1, (World.putObj_heap_other (by omega)).trans hd3,
     ((ht2.mono (fun k e => .inr e)).trans (ht.mono (fun k e => .inl e))).trans ((hput W3 _).mono (fun k e => .inr e))⟩
   cases e with
   | normal =>
    obtain ⟨hpt, hi3, ht⟩ := hp
    obtain ⟨hr, hl4, hd4, ht4⟩ := fin none ht
    exact ⟨_, _, hr, by rw [hpt]; rfl, by rw [hpt, ← hmk]; exact ⟨hputI _ hi3, hl4, hd4⟩, ht4⟩
   | ret =>
    obtain ⟨hpt, hi3, ht⟩ := hp
    obtain ⟨hr, hl4, hd4, ht4⟩ := fin (some .ret) ht
    exact ⟨_, _, hr, by rw [hpt]; rfl, by rw [hpt, ← hmk]; exact ⟨hputX _ hi3, hl4, hd4⟩, ht4⟩
   | exit id => exact hp.elim
   | goto t => exact hp.elim
   | panic ch => exact hp.elim
   | outgrown => exact hp.elim
  ·rintro e W2 ⟨⟨v, rfl⟩, h⟩
   cases hres : res
   ·rw [hres] at h
    obtain ⟨hi, hl, hd⟩ := h
    exact ⟨some .ret, _, by have := run_endLoop (P := P) hl (by rw [hmk]; simp); rw [hmk] at this; exact this, hstop _ hres (hputX _ hi) ((World.putObj_heap_other (by omega)).trans hd)⟩
   ·rw [hres] at h
    obtain ⟨hi, hl, hd⟩ := h
    exact ⟨none, _, by have := run_endLoop (P := P) hl (by rw [hmk]; simp); rw [hmk] at this; exact this, hdone _ hres (hputI _ hi) ((World.putObj_heap_other (by omega)).trans hd)⟩
end Go.Proofs.YtfmmajgkjkmghaaGreatDoor
