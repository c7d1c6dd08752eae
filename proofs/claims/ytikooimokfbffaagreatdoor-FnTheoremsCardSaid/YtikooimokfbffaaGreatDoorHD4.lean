import Derived.Test.YtikooimokfbffaaGreatDoorHK1
import Derived.Test.YtikooimokfbffaaGreatDoorHL1
import Derived.Deep.RegionLaw
import Derived.Deep.RegionHeld3
/- Walks: the box translation on both sides. -/
namespace Go.Proofs.YtikooimokfbffaaGreatDoor
open Go.RowKit
end Go.Proofs.YtikooimokfbffaaGreatDoor
namespace Go.Proofs.YtikooimokfbffaaGreatDoor
open Go.RowKit
set_option maxRecDepth 20000 in
theorem l02Own_any (a : List Nd) (v : Value) (w : World) (hv : Nds w v a) (hl : a.length ≤ 1073741824) : Calls Tryz.prog 309 #[v] w (RetN w a) := by
 have h1 := OwnN.empty w
 have k1 := (Keeps.refl w).alloc (.cells #[] 62)
 have hv1 := hv.keeps k1
 go_enter Tryz.func309, Tryz.ntmps309
 go_wp2_with (at_builtin; refine appN rfl _ _ rfl w.heap.size _ [] rfl h1 _ a rfl hv1 (by simp) (by simp; omega) ?_; intro v1 w1 hv1 hg1 hr1; have k2 : Keeps w w1 := k1.grown hg1 hr1)
 go_ret
 exact ⟨_, rfl, by simpa using hv1, k2⟩
end Go.Proofs.YtikooimokfbffaaGreatDoor
namespace Go.Proofs.YtikooimokfbffaaGreatDoor
open Go.RowKit
theorem OwnI.dr {w w' : World} {B b : Nat} {v : Value} {a : List Int} (h : OwnI w b v a) (k : Dr B w w') (hB : B < b) : OwnI w' b v a := own_touch h k.1 (fun i hi e => by have := (h.len i hi).1; omega)
theorem OwnN.cut {w : World} {B g cap : Nat} {a : List Nd} (h : OwnN w B (.slice (some ⟨g, 0, none⟩) a.length cap) a) (k : Nat) (hk : k ≤ a.length) : OwnN w B (.slice (some ⟨g, 0, none⟩) k cap) (a.take k) := by
 have hcl := ndCells_length a
 obtain ⟨hl, h | ⟨g', cap', cur, hv, hb, hg, hnc, hcm, hcs, ht⟩⟩ := h
 ·cases h.1
 cases hv
 have e : (a.take k).length = k := by simp; omega
 have hcells : ∀ (l : List Nd) (k : Nat), ndCells (l.take k) = (ndCells l).take (k * 2) := by
  intro l
  induction l with
  | nil => intro k; simp [ndCells]
  | cons x l ih =>
   intro k
   cases k with
   | zero => simp [ndCells]
   | succ k => rw [List.take_succ_cons, ndCells, ih, show (k + 1) * 2 = k * 2 + 1 + 1 by omega]; rfl
 unfold OwnN
 rw [e]
 refine ⟨by rw [ndCells_length, e], .inr ⟨g, cap, cur, rfl, hb, hg, by omega, hcm, hcs, ?_⟩⟩
 rw [hcells, ← ht, List.take_take, Nat.min_eq_left (by omega)]
theorem tailN (g m cap l : Nat) (hl : l ≤ m) (hc : m ≤ cap) (hm : cap ≤ maxLen) (w : World) (B : Nat) (a : List Nd) (h : OwnN w B (.slice (some ⟨g, 0, none⟩) m cap) a) (ha : a.length ≤ 2147483648) :
  Nds w (.slice (if cap = l then some ⟨g, 0, none⟩ else some ⟨g, l * 2, none⟩) (m - l) (cap - l)) (a.drop l) := by
 ·obtain ⟨_, _, e, _, _, hat, _⟩ := h.nds ha
  injection e with e1 e2 e3
  subst e1; subst e2; subst e3
  have hdl : (a.drop l).length = a.length - l := by simp
  refine ⟨_, cap - l, by rw [hdl], by omega, by omega, ?_, by omega⟩
  split
  ·have : a.drop l = [] := List.drop_eq_nil_of_le (by omega)
   rw [this]; exact At.nil _ _
  ·intro j hj
   obtain ⟨b', off', hp, hc'⟩ := hat (l * 2 + j) (by rw [ndCells_length] at hj ⊢; omega)
   cases hp
   refine ⟨g, _, rfl, ?_⟩
   rw [show l * 2 + j = 0 + (l * 2 + j) by omega, hc']
   have hcd : ∀ (x : List Nd) (k : Nat), ndCells (x.drop k) = (ndCells x).drop (k * 2) := by
    intro x
    induction x with
    | nil => intro k; simp [ndCells]
    | cons y x ih =>
     intro k
     cases k with
     | zero => simp
     | succ k => rw [List.drop_succ_cons, ih, show (k + 1) * 2 = k * 2 + 1 + 1 by omega]; rfl
   simp [hcd]
set_option maxRecDepth 20000 in
theorem l01Pick_any (B b : Nat) (xs : List Int) (v : Value) (w : World) (hs : Src w B) (hv : OwnI w b v xs) (hB : B < b) (hp : 0 < xs.length) (hl : xs.length ≤ 1000) :
  Calls Tryz.prog 104 #[.pointer (some ⟨B, 0, none⟩), v] w fun e w' => ∃ x ∈ xs, e = .returned (.int .i64 x) ∧ Dr B w w' := by
 have hv0 := hv
 obtain ⟨g, cap, rfl, _, _, _, hmx⟩ := hv.shape hp
 unfold maxLen at hmx
 clear hv
 go_enter Tryz.func104, Tryz.ntmps104
 go_wp2_with fail
 refine (l01Next_any (xs.length : Int) B w hs (by omega)).mono ?_; rintro e w2 ⟨r, rfl, hr, d2⟩
 have hrl : r < xs.length := by omega
 have hrl' : (r : Int) < xs.length := by omega
 obtain ⟨hc, _⟩ := (hv0.dr d2 hB).cell r hrl
 go_wp2_with fail
 go_ret
 exact ⟨xs[r], List.getElem_mem hrl, rfl, d2⟩
theorem OwnI.lit (w : World) (xs : List Int) (hl : xs.length ≤ maxLen) : OwnI (w.alloc (.cells (intCells xs).toArray 2)) w.heap.size (.slice (some ⟨w.heap.size, 0, none⟩) xs.length xs.length) xs :=
 ⟨by simp [intCells], .inr ⟨w.heap.size, xs.length, _, rfl, Nat.le_refl _, heap_alloc_new w _, Nat.le_refl _, hl, by simp [intCells], by rw [List.take_of_length_le (by simp [intCells])]⟩⟩
theorem Dr.beside {B g : Nat} {a b c : World} (h : Dr B a b) (k : Touch b c (fun i => i = g)) (hg : B < g) (ha : a.heap.size ≤ g) : Dr B a c := by
 have hs : Src c B := by
  obtain ⟨v, n, x, hh, c0, c1, c2, f1, f2, hx, p, cap, e, q1, q2, q3⟩ := h.2
  have hBl := World.block_lt_of_cell? _ _ c0
  have kc := k.cell hBl (show ¬ B = g by omega)
  refine ⟨v, n, x, hh, by rw [kc.1]; exact c0, by rw [kc.1]; exact c1, by rw [kc.1]; exact c2, by rw [kc.2]; exact f1, by rw [kc.2]; exact f2, hx, p, cap, e, q1, q2, fun j hj => ?_⟩
  obtain ⟨b', off, y, e2, hc, hy, hb⟩ := q3 j hj
  exact ⟨b', off, y, e2, by rw [(k.cell (b := b') (World.block_lt_of_cell? _ _ hc) (by omega)).1]; exact hc, hy, hb⟩
 refine ⟨⟨k.os.trans h.1.os, k.tape.trans h.1.tape, k.output.trans h.1.output, Nat.le_trans h.1.size k.size, fun i hi hn => ?_⟩, hs⟩
 rw [k.block i (Nat.lt_of_lt_of_le hi h.1.size) (by omega)]
 exact h.1.block i hi hn
def SzGe (w w' : World) : Prop := w.heap.size ≤ w'.heap.size
def DrawA (B n : Nat) (w : World) (e : Ending) (w' : World) : Prop := ∃ v, ∃ a : List Nd, e = .returned v ∧ OwnN w' w.heap.size v a ∧ a.length ≤ n ∧ Dr B w w'
set_option maxRecDepth 20000 in
set_option maxHeartbeats 4000000 in
theorem l02Bend_any (B : Nat) (a : List Nd) (v : Value) (w : World) (hs : Src w B) (hv : Nds w v a) (hp : 0 < a.length) (hl : a.length ≤ 1000) :
  Calls Tryz.prog 288 #[.pointer (some ⟨B, 0, none⟩), v] w (DrawA B (a.length + 1) w) := by
 have hB := hs.lt
 have HO := hid (l02Own_any a v w hv (by omega))
 obtain ⟨p, n, c, rfl⟩ := hv.shape
 clear hv
 go_enter Tryz.func288, Tryz.ntmps288
 go_wp2_with fail
 refine HO.out.mono ?_; rintro e w1 ⟨v1, rfl, h1, k1⟩
 obtain ⟨g, cap, rfl, hg0, hg1, hgc, hgm⟩ := h1.shape hp
 have D1 := Dr.of hs k1
 have hgm' := hgm
 unfold maxLen at hgm
 go_wp2_with fail
 refine (l01Next_any (a.length : Int) B w1 D1.2 (by omega)).mono ?_; rintro e w2 ⟨k, rfl, hk, d2⟩
 have hkl : k < a.length := by omega
 have hkl' : (k : Int) < a.length := by omega
 have D2 := D1.trans d2
 have h2 := h1.dr d2 hB
 go_wp2_with fail
 refine (l01Next_any 5 B w2 D2.2 (by omega)).mono ?_; rintro e w3 ⟨r, rfl, hr, d3⟩
 have D3 := D2.trans d3
 have h3 := h2.dr d3 hB
 clear h1 h2
 have hr5 : r = 0 ∨ r = 1 ∨ r = 2 ∨ r = 3 ∨ r = 4 := by omega
 clear hr
 rcases hr5 with rfl | rfl | rfl | rfl | rfl
 ·go_wp2_with fail
  refine (l01Next_any 9 B w3 D3.2 (by omega)).mono ?_; rintro e w4 ⟨x, rfl, hx, d4⟩
  have h4 := h3.dr d4 hB
  have D4 := D3.trans d4
  obtain ⟨c0, c1, f0, f1⟩ := h4.cell k hkl
  obtain ⟨hst, hgr⟩ := h4.storek k hkl ((x : Int) - 1)
  have k5 := (k1.trans (Keeps.refl w1))
  have t5 : Touch w4 (w4.setCell ⟨g, k * 2, none⟩ (.int .i64 ((x : Int) - 1))) (fun i => i = g) := (Touch.grown hgr).mono (fun j e => by cases e; rfl)
  have D5 := D4.beside t5 (by omega) hg0
  go_wp2_with fail
  go_ret
  exact ⟨_, _, rfl, hst, by simp, D5⟩
 ·have hlit := OwnI.lit w3 [-1, 0, 1, 5, 6] (by simp [maxLen])
  have ka : Keeps w3 (w3.alloc (.cells #[.int .i64 (-1), .int .i64 0, .int .i64 1, .int .i64 5, .int .i64 6] 2)) := (Keeps.refl w3).alloc _
  have Da := D3.keeps ka
  have ha := h3.keeps ka
  have hPk := hid (l01Pick_any B w3.heap.size [-1, 0, 1, 5, 6] _ _ Da.2 hlit (by have := D3.size; omega) (by simp) (by simp))
  clear hlit h3
  go_wp2_with fail
  refine hPk.out.mono ?_; rintro e w4 ⟨x, _, rfl, d4⟩
  have h4 := ha.dr d4 hB
  have D4 := Da.trans d4
  obtain ⟨c0, c1, f0, f1⟩ := h4.cell k hkl
  obtain ⟨hst, hgr⟩ := h4.stores k hkl x
  have t5 : Touch w4 (w4.setCell ⟨g, k * 2 + 1, none⟩ (.int .i64 x)) (fun i => i = g) := (Touch.grown hgr).mono (fun j e => by cases e; rfl)
  have D5 := D4.beside t5 (by omega) hg0
  go_wp2_with fail
  go_ret
  exact ⟨_, _, rfl, hst, by simp, D5⟩
 ·go_wp2_with fail
  refine (l01Next_any 7 B w3 D3.2 (by omega)).mono ?_; rintro e w4 ⟨x, rfl, hx, d4⟩
  have h4 := h3.dr d4 hB
  have D4 := D3.trans d4
  have hlit := (OwnN.lit1 w4 ⟨x, 0⟩).nds (by simp)
  have ka : Keeps w4 (w4.alloc (.cells #[.int .i64 x, .int .i64 0] 62)) := (Keeps.refl w4).alloc _
  have Da := D4.keeps ka
  have ha := h4.keeps ka
  clear h3 h4
  go_wp2_with (at_builtin; refine appN rfl _ _ rfl w.heap.size _ a rfl ha _ [⟨x, 0⟩] rfl hlit (by have := Da.size; exact this) (by simp; omega) ?_; intro v5 w5 hv5 hg5 hr5)
  have t5 := (Touch.grown hg5).mono (S' := fun i => i = g) (fun j e => by have e2 : some j = some g := e; exact Option.some.inj e2)
  have D5 := Da.beside t5 (by omega) hg0
  go_ret
  exact ⟨_, _, rfl, hv5, by simp, D5⟩
 ·have hcut := h3.cut k (by omega)
  have hkc : (k : Int) ≤ cap := by omega
  go_wp2_with fail
  go_ret
  exact ⟨_, _, rfl, hcut, by simp; omega, D3⟩
 ·have htl0 := tailN g a.length cap (k + 1) (by omega) hgc hgm' w3 _ a h3 (by omega)
  have hkc : (k : Int) ≤ cap := by omega
  have hk1 : (k : Int) + 1 ≤ a.length := by omega
  have hk0 : (0 : Int) ≤ (k : Int) + 1 := by omega
  have hw1 : IntKind.i64.wrap ((k : Int) + 1) = (k : Int) + 1 := Go.IntWalk.i64_in _ (by omega)
  have htn : ((k : Int) + 1).toNat = k + 1 := by omega
  have hcut := h3.cut k (by omega)
  have hsA : SzGe w w3.drew := D3.size
  go_wp2_with fail
  go_region_held3 (fun w' => SzGe w w') (first | exact hsA | exact hsB) (first | (refine stepN rfl (.tmp 50) (.tmp 54) rfl w.heap.size _ (a.take k) rfl (hcut.keeps (Keeps.refl _).drew) _ (a.drop (k + 1)) rfl (htl0.keeps (Keeps.refl _).drew) (by have := D3.size; exact this) (by simp; omega) ?_; intro v5 w5 hv5 hg5 hr5; have hsB : SzGe w w5 := Nat.le_trans hsA hg5.size))
  all_goals
   have t5 := (Touch.grown hg5).mono (S' := fun i => i = g) (fun j e => by have e2 : some j = some g := e; exact Option.some.inj e2)
   have D5 := (D3.keeps (Keeps.refl _).drew).beside t5 (by omega) hg0
   go_wp2_with fail
   all_goals
    go_ret
    exact ⟨_, _, rfl, hv5, by simp; omega, D5⟩
end Go.Proofs.YtikooimokfbffaaGreatDoor
namespace Go.Proofs.YtikooimokfbffaaGreatDoor
open Go.RowKit
def lenV : Value → Nat
 | .slice _ n _ => n
 | _ => 0
def AnyRel (w : World) (B : Nat) (a' : Value) (wr : World) : Prop := ∃ t : Fm, OwnN wr w.heap.size a' t.enc ∧ t.enc.length ≤ 100 ∧ Dr B w wr
set_option maxRecDepth 20000 in
set_option maxHeartbeats 4000000 in
theorem l02Any_any (B vr n : Nat) (hvr : vr ≤ 1000) (hn : n ≤ 100) (m : Bool) (w : World) (hs : Src w B) : Calls Tryz.prog 257 #[.pointer (some ⟨B, 0, none⟩), .int .i64 n, .int .i64 vr, .bool m] w (DrawA B 1000 w) := by
 have hB := hs.lt
 have HD := hid (l02Draw_any B vr hvr m n (by omega) w hs)
 go_enter Tryz.func257, Tryz.ntmps257
 go_wp2_with fail
 refine HD.out.mono ?_; rintro e w1 ⟨v1, t, rfl, hv1, hl1, d1⟩
 have hl100 : t.enc.length ≤ 100 := by omega
 have hpos := Fm.enc_pos t
 obtain ⟨p1, n1, c1, rfl⟩ := hv1.own_shape
 go_wp2_with fail
 refine (l01Next_any 40 B w1 d1.2 (by omega)).mono ?_; rintro e w2 ⟨r, rfl, hr, d2⟩
 have D2 := d1.trans d2
 have hv2 := hv1.dr d2 hB
 clear hv1
 by_cases h0 : r = 0
 ·subst h0
  have HBd := hid (l02Bend_any B t.enc _ w2 D2.2 (hv2.nds (by omega)) hpos (by omega))
  clear hv2
  go_wp2_with fail
  refine HBd.out.mono ?_; rintro e w3 ⟨v3, a3, rfl, hv3, hl3, d3⟩
  go_wp2_with fail
  go_ret
  exact ⟨_, a3, rfl, hv3.mono D2.size, by omega, D2.trans d3⟩
 ·by_cases h1 : r = 1
  ·subst h1
   go_wp2_with fail
   go_loopw [9] (fun a' wr => AnyRel w B a' wr) (fun a' _ => 200 - lenV a')
   case atStart => exact ⟨t, hv2, hl100, D2⟩
   case round =>
    obtain ⟨u, hu, hul, D3⟩ := hrel
    clear hv2
    have hup := Fm.enc_pos u
    obtain ⟨p3, c3, rfl, hc3, hm3, _⟩ := At.of_own hu
    unfold maxLen at hm3
    by_cases h40 : u.enc.length ≤ 40
    ·have h40' : (u.enc.length : Int) ≤ 40 := by omega
     go_wp2_with fail
     refine (l01Next_any 60 B wr D3.2 (by omega)).mono ?_; rintro e w4 ⟨r4, rfl, hr4, d4⟩
     have D4 := D3.trans d4
     have hu4 := hu.dr d4 hB
     by_cases h4 : r4 = 0
     ·subst h4
      go_wp2_with fail
      go_ret
      exact ⟨_, u.enc, rfl, hu4, by omega, D4⟩
     ·have h4' : (0 : Int) < r4 := by omega
      go_wp2_with fail
      refine (l01Next_any 3 B w4 D4.2 (by omega)).mono ?_; rintro e w5 ⟨r5, rfl, hr5, d5⟩
      have D5 := D4.trans d5
      have hu5 := hu4.dr d5 hB
      have HD6 := hid (l02Draw_any B vr hvr m 6 (by omega) w5 D5.2)
      clear hu hu4
      go_wp2_with fail
      refine HD6.out.mono ?_; rintro e w6 ⟨v6, t6, rfl, hv6, hl6, d6⟩
      have D6 := D5.trans d6
      have hu6 := hu5.dr d6 hB
      have ht6 := Fm.enc_pos t6
      obtain ⟨p6, n6, q6, rfl⟩ := hv6.own_shape
      have HPr := hid (l02Pair_any (2 + (r5 : Int)) _ _ _ _ w6 (hu6.nds (by omega)) (hv6.nds (by omega)) (by omega))
      obtain ⟨z, hz, hzl0⟩ := pair_tree r5 u t6 (by omega)
      have hzl := hid hzl0; clear hzl0
      rw [hz] at HPr
      clear hu5 hu6 hv6 hz
      go_wp2_with fail
      refine HPr.out.mono ?_; rintro e w7 ⟨v7, rfl, hv7, k7⟩
      obtain ⟨p7, c7, rfl, _⟩ := At.of_own hv7
      go_wp2_with fail
      go_roundw
      case rel => exact ⟨z, hv7.mono D6.size, by have := hzl.out; omega, D6.keeps k7⟩
      case measure => (have := hzl.out; simp [lenV]; omega)
    ·have h40' : ¬ (u.enc.length : Int) ≤ 40 := by omega
     go_wp2_with fail
     go_ret
     exact ⟨_, u.enc, rfl, hu, by omega, D3⟩
  ·have h0' : ((r : Nat) : Int) ≠ 0 := by omega
   have h1' : ((r : Nat) : Int) ≠ 1 := by omega
   go_wp2_with fail
   go_ret
   exact ⟨_, t.enc, rfl, hv2, by omega, D2⟩
end Go.Proofs.YtikooimokfbffaaGreatDoor
