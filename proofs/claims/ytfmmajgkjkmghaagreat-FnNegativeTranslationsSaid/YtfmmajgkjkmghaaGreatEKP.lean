import Derived.Test.YtfmmajgkjkmghaaGreatEJK
import Derived.Test.YtfmmajgkjkmghaaGreatED4
import Derived.Deep.CutBlock
import Derived.Deep.DeepCutAuto
import Derived.Test.YtfmmajgkjkmghaaGreatEOG
import Derived.Test.YtfmmajgkjkmghaaGreatETU
import Derived.Test.YtfmmajgkjkmghaaGreatEOZ
import Derived.Test.YtfmmajgkjkmghaaGreatEK3
/- Draws of orders, fifth part: l16Rooted, l16Draw, DrawIsPosetOf. -/
namespace Go.Proofs.YtfmmajgkjkmghaaGreat
open Go.RowKit
set_option maxRecDepth 20000 in
set_option maxHeartbeats 2000000 in
theorem l16Rooted_any (B N : Nat) (h1 : 1 ≤ N) (hN : N ≤ 8) (w : World) (hs : Src w B) : Calls Tryz.prog 164 #[.pointer (some ⟨B, 0, none⟩), .int .i64 N] w (DrawP B N w) := by
 have hB := hs.lt
 obtain ⟨W0, hW0⟩ : ∃ W, W = (w.alloc (.cells #[.int .i64 0, .slice none 0 0] 31)).alloc (.cells #[.int .i64 1] 2) := ⟨_, rfl⟩
 have hb0 : RB W0 w.heap.size := by rw [hW0]; exact (RB.made w).keeps ((Keeps.refl _).alloc _)
 have D0 : Dr B w W0 := by rw [hW0]; exact Dr.of hs (((Keeps.refl w).alloc _).alloc _)
 have hs0 : W0.heap.size = w.heap.size + 1 + 1 := by rw [hW0]; simp
 have hin0 : Ints W0 (.slice (some ⟨w.heap.size + 1, 0, none⟩) 1 1) [1] := by
  have := Ints.lit1 (w.alloc (.cells #[.int .i64 0, .slice none 0 0] 31)) 1
  rw [World.size_alloc] at this
  rw [hW0]; exact this
 have HMK := hid (l16Make_any [1] _ W0 hin0)
 have HW0 := hid hW0
 clear hW0 hin0
 have hN1 : (N : Int) - 1 = ((N - 1 : Nat) : Int) := by omega
 have HSM := hid (fun wz (hz : Src wz B) => l16Some_any B (N - 1) (by omega) wz hz)
 rw [← hN1] at HSM
 clear hN1
 go_enter Tryz.func164, Tryz.ntmps164
 go_wp2_with fail
 rw [← HW0.out]
 refine HMK.out.mono ?_; rintro e w1 ⟨v1, rfl, hv1, k1⟩
 have D1 := D0.keeps k1
 have hb1 := hb0.keeps k1
 have hz1 := k1.size
 obtain ⟨p1, n1, c1, rfl⟩ := hv1.shape0
 clear hb0 D0 k1
 go_wp2_with fail
 refine (HSM.out w1 D1.2).mono ?_; rintro e w2 ⟨v2, b, rfl, hv2, hlb, hbb, d2⟩
 have D2 := D1.trans d2
 have hb2 := hb1.dr d2 (by omega)
 have hz2 := d2.size
 have hu := (hv1.dr d2 (by omega)).ints (by simp)
 obtain ⟨p2, n2, c2, rfl⟩ := hv2.shape0
 have HJ := hid (l16Join1_any b (by omega) hbb _ _ w2 hu (hv2.ints (by rw [zs_length]; omega)))
 have hlj := jnL_len b
 have hbj := jnL_bnd hbb
 clear hv1 hv2 hu hbb d2 D1 hb1
 generalize jnL b = a at *
 generalize b.length = m at *
 go_wp2_with fail
 refine HJ.out.mono ?_; rintro e w3 ⟨v3, rfl, hv3, k3⟩
 have D3 := D2.keeps k3
 have hb3 := hb2.keeps k3
 have hz3 := k3.size
 obtain ⟨p9, c9, rfl, -, -, -⟩ := At.of_own hv3
 have hlz : (zs a).length = m + 1 := by rw [zs_length]; exact hlj
 have HE := hid (fun x y => drawP_end (N := N) (Nat.le_refl _) hB w2.heap.size (show w.heap.size < w2.heap.size by omega) (by rw [zs_length] at hv3; exact hv3) (by omega) (by omega) (by rw [hlj]; exact hbj) D3 x y)
 rw [hlj] at HE
 rw [hlz]
 obtain ⟨r0, r1, f0, f1⟩ := hb3
 clear hv3 k3 D3
 go_wp2_with fail
 refine bodyPost_ret (v := .agg #[.int .i64 ((m + 1 : Nat) : Int), .slice p9 (m + 1) c9]) (by simp [results, Tryz.results164, go_sem, r0, r1]) rfl ?_
 exact HE.out _ _
structure PX (w W : World) (B g : Nat) (p : Option Addr) (c : Nat) (a : List Nat) : Prop where
 c0 : W.cell? ⟨g, 0, none⟩ = some (.int .i64 a.length)
 c1 : W.cell? ⟨g, 1, none⟩ = some (.slice p a.length c)
 f0 : W.frozen? ⟨g, 0, none⟩ = false
 f1 : W.frozen? ⟨g, 1, none⟩ = false
 own : OwnI W (w.heap.size + 1) (.slice p a.length c) (zs a)
 ne : ∀ k, (Value.slice p a.length c).ownBlock = some k → k ≠ g
 g1 : w.heap.size + 1 ≤ g
 len : a.length ≤ 8
 bnd : Bnd a.length a
 rb : RB W w.heap.size
 bl : B < w.heap.size
 D : Dr B w W
theorem PX.lt {w W : World} {B g : Nat} {p : Option Addr} {c : Nat} {a : List Nat} (h : PX w W B g p c a) : g < W.heap.size := World.block_lt_of_cell? _ _ h.c0
theorem PX.dr {w W W' : World} {B g : Nat} {p : Option Addr} {c : Nat} {a : List Nat} (h : PX w W B g p c a) (k : Dr B W W') : PX w W' B g p c a := by
 have hbl := h.bl
 have hg1 := h.g1
 have hc := k.1.cell h.lt (show ¬ g = B by omega)
 exact ⟨by rw [hc.1]; exact h.c0, by rw [hc.1]; exact h.c1, by rw [hc.2]; exact h.f0, by rw [hc.2]; exact h.f1, h.own.dr k (by omega), h.ne, h.g1, h.len, h.bnd, h.rb.dr k (by omega), h.bl, h.D.trans k⟩
theorem PX.keeps {w W W' : World} {B g : Nat} {p : Option Addr} {c : Nat} {a : List Nat} (h : PX w W B g p c a) (k : Keeps W W') : PX w W' B g p c a := h.dr ⟨Touch.of_keeps k _, h.D.2.keeps k⟩
def DrawQ (B : Nat) (w : World) (e : Ending) (w' : World) : Prop := ∃ (n : Int) (v : Value) (a : List Int), e = .returned (.agg #[.int .i64 n, v]) ∧ OwnI w' w.heap.size v a ∧ a.length ≤ 9 ∧ (-100 ≤ n ∧ n ≤ 100) ∧ Dr B w w'
theorem drawQ_end {B : Nat} {w W : World} (hB : B < w.heap.size) {n : Int} {v : Value} {a : List Int} (hv : OwnI W (w.heap.size + 1) v a) (hl : a.length ≤ 9) (hn : -100 ≤ n ∧ n ≤ 100) (D : Dr B w W) (x y : Value) :
  DrawQ B w (.returned (.agg #[.int .i64 n, v])) ((W.setCell ⟨w.heap.size, 0, none⟩ x).setCell ⟨w.heap.size, 1, none⟩ y) := by
 have hb : w.heap.size < w.heap.size + 1 := by omega
 refine ⟨n, v, a, rfl, ((hv.setBelow hb _).setBelow hb _).mono (by omega), hl, hn, ?_⟩
 have t1 : Touch W (W.setCell ⟨w.heap.size, 0, none⟩ x) (fun k => k = w.heap.size) := (Touch.grown (grown_set w.heap.size 0 x)).mono (fun k e => by simpa using e)
 have t2 : Touch (W.setCell ⟨w.heap.size, 0, none⟩ x) ((W.setCell ⟨w.heap.size, 0, none⟩ x).setCell ⟨w.heap.size, 1, none⟩ y) (fun k => k = w.heap.size) := (Touch.grown (grown_set w.heap.size 1 y)).mono (fun k e => by simpa using e)
 exact D.beside (t1.trans t2) hB (Nat.le_refl _)
theorem Dr.put {B g o : Nat} {w W : World} (h : Dr B w W) (hB : B < g) (hg : w.heap.size ≤ g) (x : Value) : Dr B w (W.setCell ⟨g, o, none⟩ x) :=
 h.beside ((Touch.grown (grown_set g o x)).mono (fun k e => by simpa using e)) hB hg
theorem RB.put {W : World} {r g o : Nat} (h : RB W r) (hne : r ≠ g) (x : Value) : RB (W.setCell ⟨g, o, none⟩ x) r :=
 h.touch ((Touch.grown (grown_set g o x)).mono (fun k e => by simpa using e) : Touch W _ (fun k => k = g)) hne
theorem OwnI.put {W : World} {b g o : Nat} {v : Value} {a : List Int} (h : OwnI W b v a) (hne : ∀ k, v.ownBlock = some k → k ≠ g) (x : Value) : OwnI (W.setCell ⟨g, o, none⟩ x) b v a :=
 h.touch ((Touch.grown (grown_set g o x)).mono (fun k e => by simpa using e) : Touch W _ (fun k => k = g)) hne
set_option maxRecDepth 20000 in
set_option maxHeartbeats 4000000 in
theorem l16Draw_any (B N : Nat) (h1 : 1 ≤ N) (hN : N ≤ 8) (w : World) (hs : Src w B) : Calls Tryz.prog 92 #[.pointer (some ⟨B, 0, none⟩), .int .i64 N] w (DrawQ B w) := by
 have hB := hs.lt
 obtain ⟨W0, hW0⟩ : ∃ W, W = w.alloc (.cells #[.int .i64 0, .slice none 0 0] 31) := ⟨_, rfl⟩
 have hb0 : RB W0 w.heap.size := by rw [hW0]; exact RB.made w
 have D0 : Dr B w W0 := by rw [hW0]; exact Dr.of hs ((Keeps.refl w).alloc _)
 have hs0 : W0.heap.size = w.heap.size + 1 := by rw [hW0]; simp
 have HW0 := hid hW0
 clear hW0
 have HRO := hid (fun wz (hz : Src wz B) => l16Rooted_any B N h1 hN wz hz)
 go_enter Tryz.func92, Tryz.ntmps92
 go_wp2_with fail
 rw [← HW0.out]
 refine (l16Some_any B N hN W0 D0.2).mono ?_; rintro e w1 ⟨v1, a, rfl, hv1, hla, hba, d1⟩
 have D1 := D0.trans d1
 have hb1 := hb0.dr d1 (by omega)
 have hz1 := d1.size
 obtain ⟨p1, c1, rfl, -, -, -⟩ := At.of_own hv1
 rw [zs_length a] at *
 have kA := (Keeps.refl w1).alloc (.cells #[.int .i64 a.length, .slice p1 a.length c1] 31)
 have HPX := hid (show PX w (w1.alloc (.cells #[.int .i64 a.length, .slice p1 a.length c1] 31)) B w1.heap.size p1 c1 a from by
  have hm := made3 w1 (.int .i64 a.length) (.slice p1 a.length c1) rfl
  exact ⟨hm.1, hm.2.1, hm.2.2.1, hm.2.2.2, (hv1.mono (by omega)).keeps kA, fun k hk e => by have := (hv1.len k hk).2; omega, by omega, by omega, hba, hb1.keeps kA, hB, D1.keeps kA⟩)
 clear hb0 D0 hs0 HW0 d1 D1 hb1 hv1 hba kA
 have hg1 : w.heap.size + 1 ≤ w1.heap.size := HPX.out.g1
 have HN3 := hid (l01Next_any 3 B _ HPX.out.D.2 (by omega))
 go_wp2_with fail
 generalize w1.alloc (.cells #[.int .i64 a.length, .slice p1 a.length c1] 31) = W1 at *
 generalize w1.heap.size = g at *
 refine HN3.out.mono ?_; rintro e w2 ⟨r2, rfl, hr2, d2⟩
 have P2 := hid (HPX.out.dr d2)
 clear HPX HN3 d2 hz1 hla
 go_upto_if 11 with fail
 go_cut [] (fun wx => ∃ p c b, PX w wx B g p c b)
 case first =>
  by_cases hz : r2 = 0
  ·subst hz
   go_wp2_with fail
   refine (HRO.out w2 P2.out.D.2).mono ?_; rintro e w3 ⟨v3, b, rfl, hv3, hlb, hbb, d3⟩
   have P3 := P2.out.dr d3
   obtain ⟨p3, c3, rfl, -, -, -⟩ := At.of_own hv3
   rw [zs_length b] at *
   have hlt2 := P2.out.lt
   have hne3 : ∀ k, (Value.slice p3 b.length c3).ownBlock = some k → k ≠ g := fun k hk e => by have := (hv3.len k hk).1; omega
   have HP4 := hid (show PX w ((w3.setCell ⟨g, 0, none⟩ (.int .i64 b.length)).setCell ⟨g, 1, none⟩ (.slice p3 b.length c3)) B g p3 c3 b from by
    have x0 := P3.c0
    have x1 := P3.c1
    have y1 : (w3.setCell ⟨g, 0, none⟩ (.int .i64 b.length)).cell? ⟨g, 1, none⟩ = some (.slice p1 a.length c1) := (World.cell?_setCell_other (w := w3) (a := ⟨g, 0, none⟩) (b := ⟨g, 1, none⟩) (v := .int .i64 b.length) (by simp)).trans x1
    refine ⟨(World.cell?_setCell_other (w := w3.setCell ⟨g, 0, none⟩ (.int .i64 b.length)) (a := ⟨g, 1, none⟩) (b := ⟨g, 0, none⟩) (v := .slice p3 b.length c3) (by simp)).trans (World.cell?_setCell_same _ _ _ x0), World.cell?_setCell_same _ _ _ y1, ?_, ?_, ?_, hne3, hg1, by omega, hbb, (P3.rb.put (by omega) _).put (by omega) _, hB, (P3.D.put (by omega) (by omega) _).put (by omega) (by omega) _⟩
    ·rw [World.frozen?_setCell, World.frozen?_setCell]; exact P3.f0
    ·rw [World.frozen?_setCell, World.frozen?_setCell]; exact P3.f1
    ·have hw3 : w.heap.size + 1 ≤ w2.heap.size := by omega
     exact ((hv3.mono hw3).put hne3 _).put hne3 _)
   obtain ⟨x0, x1, y0, y1⟩ := And.intro P3.c0 (And.intro P3.c1 (And.intro P3.f0 P3.f1))
   clear P3 hv3 hbb d3 hne3 HRO
   go_wp2_with fail
   go_meet
   exact ⟨_, _, _, HP4.out⟩
  ·have hz' : ((r2 : Nat) : Int) ≠ 0 := by omega
   go_wp2_with fail
   go_meet
   exact ⟨_, _, _, P2.out⟩
 case rest =>
  obtain ⟨p, c, b, P4⟩ := hcut
  clear P2 HRO hr2
  go_wp2_with fail
  refine (l01Next_any 40 B wc P4.D.2 (by omega)).mono ?_; rintro e w5 ⟨r5, rfl, hr5, d5⟩
  have P5 := hid (P4.dr d5)
  have hgl := P5.out.lt
  have hlen := P5.out.len
  clear P4 d5 hr5
  obtain rfl | rfl | rfl | h3 : r5 = 0 ∨ r5 = 1 ∨ r5 = 2 ∨ 2 < r5 := by omega
  ·have hl : OwnI (w5.alloc (.cells #[.int .i64 (-1), .int .i64 9, .int .i64 ((b.length : Int) + 1)] 2)) w5.heap.size (.slice (some ⟨w5.heap.size, 0, none⟩) 3 3) [-1, 9, (b.length : Int) + 1] := OwnI.lit w5 _ (by simp [maxLen])
   have kA := (Keeps.refl w5).alloc (.cells #[.int .i64 (-1), .int .i64 9, .int .i64 ((b.length : Int) + 1)] 2)
   have P6 := P5.out.keeps kA
   have HPK := hid (l01Pick_any B w5.heap.size _ _ _ P6.D.2 hl (by omega) (by simp) (by simp))
   have HP6 := hid P6
   have x0 := P5.out.c0
   clear hl kA P6
   go_wp2_with fail
   refine HPK.out.mono ?_; rintro e w6 ⟨x, hx, rfl, d6⟩
   have P7 := HP6.out.dr d6
   have hx2 : -100 ≤ x ∧ x ≤ 100 := by
    simp only [List.mem_cons, List.not_mem_nil, or_false] at hx
    omega
   have HE := hid (fun y z => drawQ_end hB (W := w6.setCell ⟨g, 0, none⟩ (.int .i64 x)) (n := x) (P7.own.put P7.ne _) (by rw [zs_length]; omega) hx2 (P7.D.put (by omega) (by omega) _) y z)
   have hbx := P7.rb.put (o := 0) (show w.heap.size ≠ g by omega) (.int .i64 x)
   obtain ⟨r0, r1, f0, f1⟩ := hbx
   have z0 := World.cell?_setCell_same w6 ⟨g, 0, none⟩ (.int .i64 x) P7.c0
   have z1 := (World.cell?_setCell_other (w := w6) (a := ⟨g, 0, none⟩) (b := ⟨g, 1, none⟩) (v := .int .i64 x) (by simp)).trans P7.c1
   obtain ⟨y0, y1, y2⟩ := And.intro P7.c0 (And.intro P7.c1 P7.f0)
   clear P7 HP6 d6 hx x0 HPK
   go_wp2_with fail
   refine bodyPost_ret (v := .agg #[Value.int .i64 x, Value.slice p b.length c]) (by simp [results, Tryz.results92, go_sem, r0, r1]) rfl ?_
   exact HE.out _ _
  ·have hin := P5.out.own.ints (by rw [zs_length]; omega)
   have hlz := zs_length b
   have HOW := hid (l01Own_any (zs b) _ w5 hin)
   have x1 := P5.out.c1
   clear hin
   go_wp2_with fail
   refine HOW.out.mono ?_; rintro e w6 ⟨v6, rfl, hv6, k6⟩
   obtain ⟨p6, c6, rfl, -, -, -⟩ := At.of_own hv6
   rw [hlz] at hv6 ⊢
   have hz6 := k6.size
   go_wp2_with (at_builtin; refine appI rfl (.tmp 30) (.tmp 31) rfl w5.heap.size _ (zs b) rfl (hv6.keeps ((Keeps.refl w6).alloc _)) _ [0] rfl (Ints.lit1 w6 0) (by simp; omega) (by rw [hlz]; simp; omega) ?_; intro v7 w7 hv7 hg7 hr7; have k7 := (k6.alloc (.cells #[.int .i64 0] 2)).grown hg7 hr7; have P7 := P5.out.keeps k7; obtain ⟨y1, y2⟩ := And.intro P7.c1 P7.f1; obtain ⟨p9, n9, c9, rfl⟩ := hv7.shape0; have hne7 : ∀ k, (Value.slice p9 n9 c9).ownBlock = some k → k ≠ g := fun k hk e => (by have := (hv7.len k hk).1; omega); have hz5 : w.heap.size + 1 ≤ w5.heap.size := (by have := P5.out.g1; omega); have HE := hid (fun y z => drawQ_end hB (W := w7.setCell ⟨g, 1, none⟩ (.slice p9 n9 c9)) (n := (b.length : Int)) ((hv7.mono hz5).put hne7 _) (by simp [hlz]; omega) (by omega) (P7.D.put (by omega) (by omega) _) y z); obtain ⟨r0, r1, f0, f1⟩ := P7.rb.put (o := 1) (show w.heap.size ≠ g by omega) (.slice p9 n9 c9); have z1 := World.cell?_setCell_same w7 ⟨g, 1, none⟩ (.slice p9 n9 c9) P7.c1; have z0 := (World.cell?_setCell_other (w := w7) (a := ⟨g, 1, none⟩) (b := ⟨g, 0, none⟩) (v := .slice p9 n9 c9) (by simp)).trans P7.c0)
   go_wp2_with fail
   refine bodyPost_ret (v := .agg #[Value.int .i64 (b.length : Int), Value.slice p9 n9 c9]) (by simp [results, Tryz.results92, go_sem, r0, r1]) rfl ?_
   exact HE.out _ _
  ·have x0 := P5.out.c0
   by_cases hbz : b.length = 0
   ·have hbz' : ¬ (0 : Int) < (b.length : Int) := by omega
    have x1 := P5.out.c1
    obtain ⟨r0, r1, f0, f1⟩ := P5.out.rb
    have HE := hid (fun y z => drawQ_end hB (W := w5) (n := (b.length : Int)) P5.out.own (by rw [zs_length]; omega) (by omega) P5.out.D y z)
    clear hbz
    generalize b.length = bl at *
    go_wp2_with fail
    refine bodyPost_ret (v := .agg #[Value.int .i64 (bl : Int), Value.slice p bl c]) (by simp [results, Tryz.results92, go_sem, r0, r1]) rfl ?_
    exact HE.out _ _
   ·have hbz' : (0 : Int) < (b.length : Int) := by omega
    have hbp : 0 < b.length := by omega
    clear hbz
    have kd := (Keeps.refl w5).drew
    have Pd := P5.out.keeps kd
    have HF := hid (fun wz => l01Full_any (b.length : Int) wz (by omega) (by omega))
    have hp8 : (2 : Nat) ^ b.length ≤ 2 ^ 8 := Nat.pow_le_pow_right (by omega) (by omega)
    have hpp := Nat.two_pow_pos b.length
    have hpc : (2 : Int) ^ b.length - 1 = ((2 ^ b.length - 1 : Nat) : Int) := by
     rw [show (2 : Int) ^ b.length = ((2 ^ b.length : Nat) : Int) by push_cast; rfl]
     omega
    simp only [Int.toNat_natCast, hpc] at HF
    clear hpc
    have hq : 2 ^ b.length - 1 ≤ 255 := by omega
    generalize 2 ^ b.length - 1 = q at *
    clear hp8 hpp
    have HWQ := hid (show IntKind.i64.wrap ((q : Int) + 2) = ((q + 2 : Nat) : Int) by rw [show (q : Int) + 2 = ((q + 2 : Nat) : Int) by push_cast; rfl]; exact wrapN _ (by omega))
    obtain ⟨gp, cap, ev, hgp, -, -, -⟩ := P5.out.own.shape (by rw [zs_length]; exact hbp)
    rw [zs_length] at ev
    injection ev with ev1 _ ev3
    subst ev1 ev3
    have y0 := Pd.c0
    have y1 := Pd.c1
    go_wp2_with fail
    go_region_law (first
     | (go_simp; go_at_call 80; refine (HF.out _).mono ?_; rintro e w' ⟨rfl, rfl⟩)
     | (have hq7 := P7.D.2; go_simp; go_at_call 50; refine (l01Next_any (IntKind.i64.wrap ((q : Int) + 2)) B _ hq7 (by rw [HWQ.out]; omega)).mono ?_; rintro e w8 ⟨r8, rfl, hr8, d8⟩; have P8 := P7.dr d8; have x8 := P8.c0; have x81 := P8.c1; have hrr : r7 < b.length := hr7'; obtain ⟨c8, f8⟩ := P8.own.zcell r7 hrr)
     | (go_simp; go_at_call 50; refine (l01Next_any (b.length : Int) B _ Pd.D.2 (by omega)).mono ?_; rintro e w7 ⟨r7, rfl, hr7, d7⟩; have P7 := Pd.dr d7; have x7 := P7.c0; have x71 := P7.c1; have hr7' : r7 < b.length := (by omega)))
    all_goals
     have hne := P8.ne gp rfl
     have HE := hid (fun x y z => drawQ_end hB (W := w8.setCell ⟨gp, r7, none⟩ (.int .i64 x)) (n := (b.length : Int)) (P8.own.store r7 (by rw [zs_length]; exact hr7') x).1 (by rw [List.length_set, zs_length]; omega) (by omega) (P8.D.put (by omega) (by omega) _) y z)
     have z0 := fun x => (World.cell?_setCell_other (w := w8) (a := ⟨gp, r7, none⟩) (b := ⟨g, 0, none⟩) (v := .int .i64 x) (by simp)).trans P8.c0
     have z1 := fun x => (World.cell?_setCell_other (w := w8) (a := ⟨gp, r7, none⟩) (b := ⟨g, 1, none⟩) (v := .int .i64 x) (by simp)).trans P8.c1
     have r0 := fun x => (P8.rb.put (o := r7) (show w.heap.size ≠ gp by omega) (.int .i64 x)).c0
     have r1 := fun x => (P8.rb.put (o := r7) (show w.heap.size ≠ gp by omega) (.int .i64 x)).c1
     have f0 := fun x => (P8.rb.put (o := r7) (show w.heap.size ≠ gp by omega) (.int .i64 x)).f0
     have f1 := fun x => (P8.rb.put (o := r7) (show w.heap.size ≠ gp by omega) (.int .i64 x)).f1
     clear P8 P7 Pd d7 d8 hq7
     go_wp2_with fail
     refine bodyPost_ret (v := .agg #[Value.int .i64 (b.length : Int), Value.slice (some ⟨gp, 0, none⟩) b.length c]) (by simp [results, Tryz.results92, go_sem, r0, r1]) rfl ?_
     exact HE.out _ _ _
  ·have x0 := P5.out.c0
   have x1 := P5.out.c1
   obtain ⟨r0, r1, f0, f1⟩ := P5.out.rb
   have hz0 : ((r5 : Nat) : Int) ≠ 0 := by omega
   have hz1 : ((r5 : Nat) : Int) ≠ 1 := by omega
   have hz2 : ((r5 : Nat) : Int) ≠ 2 := by omega
   have HE := hid (fun y z => drawQ_end hB (W := w5) (n := (b.length : Int)) P5.out.own (by rw [zs_length]; omega) (by omega) P5.out.D y z)
   go_wp2_with fail
   refine bodyPost_ret (v := .agg #[Value.int .i64 (b.length : Int), Value.slice p b.length c]) (by simp [results, Tryz.results92, go_sem, r0, r1]) rfl ?_
   exact HE.out _ _
end Go.Proofs.YtfmmajgkjkmghaaGreat
namespace Go.Proofs.YtfmmajgkjkmghaaGreat
open Go.RowKit
def BoxG (w : World) (r : Nat) (T : TypeId) (cs : List Value) : Prop := w.ownsRow r T cs.length (.slice (some ⟨r, 0, none⟩) 1 1) 1 cs
section
variable {w w' : World} {r : Nat} {T : TypeId} {cs : List Value}
theorem BoxG.cell (h : BoxG w r T cs) (i : Nat) (hi : i < cs.length) : w.cell? ⟨r, i, none⟩ = some cs[i] := by
 rw [World.ownsRow.cellAt h i (by omega)]
 exact List.getElem?_eq_getElem hi
theorem BoxG.froz (h : BoxG w r T cs) (i : Nat) : w.frozen? ⟨r, i, none⟩ = false := World.ownsRow.frozenAt h i
theorem BoxG.lt (h : BoxG w r T cs) : r < w.heap.size := (World.ownsRow.lt h r rfl).2
theorem BoxG.set (h : BoxG w r T cs) (i : Nat) (x : Value) : BoxG (w.setCell ⟨r, i, none⟩ x) r T (cs.set i x) := by
 have := (World.ownsRow.stored h i x).1
 unfold BoxG
 rw [List.length_set]
 exact this
theorem BoxG.grown (h : BoxG w r T cs) (i : Nat) (x : Value) : w.grownBy (w.setCell ⟨r, i, none⟩ x) (some r) := (World.ownsRow.stored h i x).2
theorem BoxG.keeps (h : BoxG w r T cs) (k : Keeps w w') : BoxG w' r T cs := own_keeps h k
theorem BoxG.made (w : World) (T : TypeId) (cs : List Value) (_h0 : 0 < cs.length) (_h1 : cs.length ≤ 1000) : BoxG (w.alloc (.cells cs.toArray T)) w.heap.size T cs := by
 have h := World.ownsRow_lit (base := w.heap.size) (e := T) (size := cs.length) w cs.toArray 1 (Nat.le_refl _) (by unfold maxLen; omega) (by simp)
 simpa [BoxG] using h
theorem own_boxed {B s m : Nat} {T' : TypeId} {u : Value} {ds : List Value} {i : Nat} {x : Value} (ho : w.ownsRow B T' s u m ds) (h : BoxG w r T cs) (t : T ≠ T') : (w.setCell ⟨r, i, none⟩ x).ownsRow B T' s u m ds :=
 own_touch ho (Touch.grown (h.grown i x)) (fun j e hi => by
  have : j = r := by simpa using hi
  subst this
  exact type_ne h ho t rfl e)
end
end Go.Proofs.YtfmmajgkjkmghaaGreat
namespace Go.Proofs.YtfmmajgkjkmghaaGreat
open Go.RowKit
theorem BoxG.dr {w w' : World} {r B : Nat} {T : TypeId} {cs : List Value} (h : BoxG w r T cs) (k : Dr B w w') (hB : B < r) : BoxG w' r T cs := own_touch h k.1 (fun i hi e => by
 have : r = i := by simpa [Value.ownBlock] using hi
 omega)
theorem Dr.besideX {B g : Nat} {a b c : World} (h : Dr B a b) (k : Touch b c (fun i => i = g)) (hg : B < g) (ha : a.heap.size ≤ g) : Dr B a c := by
 have hs : Src c B := by
  obtain ⟨v, n, x, hh, c0, c1, c2, f1, f2, hx, p, cap, e, q1, q2, q3⟩ := h.2
  have hBl := World.block_lt_of_cell? _ _ c0
  have kc := k.cell hBl (show ¬ B = g by omega)
  refine ⟨v, n, x, hh, by rw [kc.1]; exact c0, by rw [kc.1]; exact c1, by rw [kc.1]; exact c2, by rw [kc.2]; exact f1, by rw [kc.2]; exact f2, hx, p, cap, e, q1, q2, fun j hj => ?_⟩
  obtain ⟨b', off, y, e2, hc, hy, hb⟩ := q3 j hj
  exact ⟨b', off, y, e2, by rw [(k.cell (b := b') (World.block_lt_of_cell? _ _ hc) (by omega)).1]; exact hc, hy, hb⟩
 refine ⟨⟨k.os.trans h.1.os, k.tape.trans h.1.tape, k.output.trans h.1.output, Nat.le_trans h.1.size k.size, fun i hi hn => ?_⟩, hs⟩
 rw [k.block i (Nat.lt_of_lt_of_le hi h.1.size) (by omega)]
 exact h.1.block i hi hn
theorem Dr.box {a b : World} {B r i : Nat} {T : TypeId} {cs : List Value} {x : Value} (h : Dr B a b) (hb : BoxG b r T cs) (hB : B < r) (ha : a.heap.size ≤ r) : Dr B a (b.setCell ⟨r, i, none⟩ x) :=
 h.besideX (g := r) ((Touch.grown (hb.grown i x)).mono (fun k e => by injection e)) hB ha
theorem BoxG.drN {w w' : World} {r B : Nat} {T : TypeId} {cs : List Value} (h : BoxG w r T cs) (k : Dr B w w') (hB : r ≠ B) : BoxG w' r T cs := own_touch h k.1 (fun i hi e => by
 have : r = i := by simpa [Value.ownBlock] using hi
 omega)
end Go.Proofs.YtfmmajgkjkmghaaGreat
namespace Go.Proofs.YtfmmajgkjkmghaaGreat
open Go.RowKit
theorem OwnI.tail1 {w : World} {B g m cap : Nat} {a : List Int} (h : OwnI w B (.slice (some ⟨g, 0, none⟩) m cap) a) (h1 : 1 ≤ a.length) (hl : a.length ≤ 2147483648) : Ints w (.slice (some ⟨g, 1, none⟩) (m - 1) (cap - 1)) (a.drop 1) := by
 obtain ⟨_, _, e, hc, hm, hat, _⟩ := h.ints hl
 injection e with e1 e2 e3
 subst e1 e2 e3
 refine ⟨some ⟨g, 1, none⟩, cap - 1, by simp, by simp; omega, by omega, ?_, by simp; omega⟩
 intro j hj
 have hj' : j < (a.drop 1).length := by simpa [intCells] using hj
 obtain ⟨b, o, e1, hc⟩ := hat.int (j + 1) (by simp at hj'; omega)
 cases e1
 refine ⟨g, 1, rfl, ?_⟩
 rw [show 1 + j = 0 + (j + 1) by omega, hc]
 simp [intCells]
def PullI (B0 : Nat) (w' : World) (u : Value) (vs : List Int) : Prop := ∃ b o, ∃ l0 : List Int, B0 ≤ b ∧ OwnI w' b o l0 ∧ ∀ w2, OwnI w2 b o l0 → Ints w2 u vs
theorem PullI.ints {B0 : Nat} {w' : World} {u : Value} {vs : List Int} (h : PullI B0 w' u vs) : Ints w' u vs := by
 obtain ⟨b, o, l0, _, ho, hy⟩ := h
 exact hy _ ho
theorem PullI.dr {B0 : Nat} {w1 w2 : World} {B : Nat} {u : Value} {vs : List Int} (h : PullI B0 w1 u vs) (k : Dr B w1 w2) (hB : B < B0) : PullI B0 w2 u vs := by
 obtain ⟨b, o, l0, hb, ho, hy⟩ := h
 exact ⟨b, o, l0, hb, ho.dr k (by omega), hy⟩
theorem PullI.keeps {B0 : Nat} {w1 w2 : World} {u : Value} {vs : List Int} (h : PullI B0 w1 u vs) (k : Keeps w1 w2) : PullI B0 w2 u vs := by
 obtain ⟨b, o, l0, hb, ho, hy⟩ := h
 exact ⟨b, o, l0, hb, ho.keeps k, hy⟩
theorem PullI.of {B0 : Nat} {w' : World} {u : Value} {vs : List Int} (h : OwnI w' B0 u vs) (hl : vs.length ≤ 2147483648) : PullI B0 w' u vs := ⟨_, u, vs, Nat.le_refl _, h, fun _ h2 => h2.ints hl⟩
theorem PullI.tail {B0 : Nat} {w' : World} {g m cap : Nat} {a : List Int} (h : OwnI w' B0 (.slice (some ⟨g, 0, none⟩) m cap) a) (h1 : 1 ≤ a.length) (hl : a.length ≤ 2147483648) : PullI B0 w' (.slice (some ⟨g, 1, none⟩) (m - 1) (cap - 1)) (a.drop 1) := ⟨_, _, a, Nat.le_refl _, h, fun _ h2 => h2.tail1 h1 hl⟩
theorem PullI.mono {B0 B1 : Nat} {w' : World} {u : Value} {vs : List Int} (h : PullI B0 w' u vs) (k : B1 ≤ B0) : PullI B1 w' u vs := by
 obtain ⟨b, o, l0, hb, ho, hy⟩ := h
 exact ⟨b, o, l0, by omega, ho, hy⟩
theorem PullI.boxed {B0 : Nat} {w' : World} {u : Value} {vs : List Int} (h : PullI B0 w' u vs) {r i : Nat} {T : TypeId} {cs : List Value} (hb : BoxG w' r T cs) (t : T ≠ 2) (x : Value) : PullI B0 (w'.setCell ⟨r, i, none⟩ x) u vs := by
 obtain ⟨b, o, l0, h1, ho, hy⟩ := h
 exact ⟨b, o, l0, h1, own_boxed ho hb t, hy⟩
theorem PullI.shape {B0 : Nat} {w' : World} {u : Value} {vs : List Int} (h : PullI B0 w' u vs) : ∃ p c, u = .slice p vs.length c := by
 obtain ⟨p, c, e, _⟩ := h.ints
 exact ⟨p, c, e⟩
def DrawPV (B : Nat) (w : World) (e : Ending) (w' : World) : Prop := ∃ (n : Int) (v : Value) (a : List Int) (u : Value) (vs : List Int), e = .returned (.tuple #[.agg #[.int .i64 n, v], u]) ∧ OwnI w' w.heap.size v a ∧ PullI w.heap.size w' u vs ∧ 5 ≤ vs.length ∧ vs.length ≤ 6 ∧ a.length ≤ 9 ∧ (-100 ≤ n ∧ n ≤ 100) ∧ Dr B w w'
theorem tynePz : (31 : TypeId) ≠ 2 := by decide
theorem drawPV_end {B : Nat} {w W : World} (hB : B < w.heap.size) {n : Int} {v u : Value} {a vs : List Int} {cs : List Value} (hb : BoxG W w.heap.size 31 cs) (hv : OwnI W w.heap.size v a) (hu : PullI w.heap.size W u vs) (h5 : 5 ≤ vs.length) (h6 : vs.length ≤ 6) (hl : a.length ≤ 9) (hn : -100 ≤ n ∧ n ≤ 100) (D : Dr B w W) (x y : Value) :
  DrawPV B w (.returned (.tuple #[.agg #[.int .i64 n, v], u])) ((W.setCell ⟨w.heap.size, 0, none⟩ x).setCell ⟨w.heap.size, 1, none⟩ y) := by
 have hb1 := hb.set 0 x
 exact ⟨n, v, a, u, vs, rfl, own_boxed (own_boxed hv hb tynePz) hb1 tynePz, (hu.boxed hb tynePz x).boxed hb1 tynePz y, h5, h6, hl, hn, (D.box hb hB (Nat.le_refl _)).box hb1 hB (Nat.le_refl _)⟩
theorem box_two {W : World} {r : Nat} {T : TypeId} {c d x y : Value} (hb : BoxG W r T [c, d]) : (((W.setCell ⟨r, 0, none⟩ x).setCell ⟨r, 1, none⟩ y).cell? ⟨r, 0, none⟩ = some x ∧ ((W.setCell ⟨r, 0, none⟩ x).setCell ⟨r, 1, none⟩ y).cell? ⟨r, 1, none⟩ = some y) := by
 have h := (hb.set 0 x).set 1 y
 exact ⟨h.cell 0 (by simp), h.cell 1 (by simp)⟩
def SomeR (B r b0 : Nat) (w : World) (U : List Nat) (uV : Value) (s6 : Value) (k : Nat) (wr : World) : Prop := ∃ vs : List Nat, vs.length = k ∧ OwnI wr b0 s6 (zs vs) ∧ OwnI wr r uV (zs U) ∧ Dr B w wr ∧ b0 ≤ wr.heap.size
set_option maxRecDepth 20000 in
set_option maxHeartbeats 1000000 in
theorem l17Some_any (B : Nat) (b : List Nat) (hb : b.length ≤ 8) (hbm : ∀ x ∈ b, x < 2 ^ b.length) (v : Value) (w : World) (hs : Src w B) (hv : Ints w v (zs b)) :
  Calls Tryz.prog 94 #[.pointer (some ⟨B, 0, none⟩), .agg #[.int .i64 b.length, v]] w fun e w' => ∃ u, ∃ vs : List Nat, e = .returned u ∧ OwnI w' w.heap.size u (zs vs) ∧ vs.length = 6 ∧ Dr B w w' := by
 have hB := hs.lt
 have kA := (Keeps.refl w).alloc (.cells #[.int .i64 b.length, v] 31)
 obtain ⟨c0, c1⟩ := BoxF.made w b.length v 31
 have HU := hid (l16Upsets_any b v _ (hv.keeps kA) hb hbm)
 have hup := upL_pos b
 have hul : (upL b).length ≤ 256 := Nat.le_trans (upK_len b _) (two8 hb)
 obtain ⟨p, c, rfl, _⟩ := hv
 rw [zs_length b] at *
 clear hbm hb
 generalize upL b = U at *
 generalize b.length = n at *
 go_enter Tryz.func94, Tryz.ntmps94
 go_wp2_with fail
 refine HU.out.mono ?_; rintro e w1 ⟨u1, rfl, hu1, k1⟩
 have K1 := kA.trans k1
 have hsz1 := kA.size
 have hub : ∀ k, u1.ownBlock = some k → k < w1.heap.size := fun k hk => (hu1.len k hk).2
 have hzU := zs_length U
 have HS0 := hid (show SomeR B w.heap.size w1.heap.size w U u1 (.slice (some ⟨w1.heap.size, 0, none⟩) 0 0) 0 (w1.alloc (.cells #[] 2)) from ⟨[], rfl, OwnI.empty w1, (hu1.mono hsz1).keeps ((Keeps.refl w1).alloc _), Dr.of hs (K1.alloc _), by simp⟩)
 obtain ⟨g, cap, rfl, -, -, -, hmx⟩ := hu1.shape (by rw [hzU]; exact hup)
 rw [hzU] at HS0 ⊢
 have HUB := hid (hub g rfl)
 have hw1 : w.heap.size ≤ w1.heap.size := K1.size
 unfold maxLen at hmx
 clear hu1 k1 K1 HU kA c0 c1 hub hsz1 hs
 go_wp2_with fail
 go_loopw [6, 7] (fun s6 s7 wr => ∃ k : Nat, k ≤ 6 ∧ s7 = .int .i64 k ∧ SomeR B w.heap.size w1.heap.size w U (.slice (some ⟨g, 0, none⟩) U.length cap) s6 k wr) (fun _ s7 _ => 6 - (intOf s7).toNat)
 case atStart => exact ⟨0, by omega, rfl, HS0.out⟩
 case round =>
  obtain ⟨k, hk, rfl, vs, hvl, hown, hu, D, hwr⟩ := hrel
  clear HS0
  obtain ⟨p6, n6, c6, rfl⟩ := hown.shape0
  by_cases hlt : k < 6
  ·have hlt' : (k : Int) < 6 := by omega
   go_wp2_with fail
   refine (l01Next_any (U.length : Int) B wr D.2 (by omega)).mono ?_; rintro e w3 ⟨r3, rfl, hr3, d3⟩
   have D3 := D.trans d3
   have hr : r3 < U.length := by omega
   have hr' : (r3 : Int) < U.length := by omega
   have hown3 := hown.dr d3 (by omega)
   have hu3 := hu.dr d3 hB
   obtain ⟨cc, -⟩ := hu3.zcell r3 hr
   have hzv := zs_length vs
   generalize U.getD r3 0 = x at *
   have kA := (Keeps.refl w3).alloc (.cells #[.int .i64 (x : Int)] 2)
   have HD := hid (D3.keeps kA)
   have HU3 := hid (hu3.keeps kA)
   have hw3 : w1.heap.size ≤ w3.heap.size := Nat.le_trans hwr d3.size
   clear hown hu D d3 hu3
   go_wp2_with (at_builtin; refine appI rfl _ _ rfl w1.heap.size _ (zs vs) rfl (hown3.keeps kA) _ [(x : Int)] rfl (Ints.lit1 w3 _) (by simp; omega) (by rw [hzv]; simp; omega) ?_; intro v1 w5 hv1 hg1 hr1)
   go_roundw
   case rel =>
    refine ⟨k + 1, by omega, by go_num, vs ++ [x], by simp [hvl], by rw [zs_snoc]; exact hv1, ?_, ?_, Nat.le_trans hw3 (Nat.le_trans kA.size hg1.size)⟩
    ·exact HU3.out.touch (Touch.grown hg1) (fun i hi e => by
      have h1 : g = i := by simpa [Value.ownBlock] using hi
      have h2 := hr1 i e.symm
      have h3 := HUB.out
      omega)
    ·exact HD.out.besideR hg1 (fun i hi => by have := hr1 i hi; omega)
   case measure => simp [intOf]; omega
  ·have e : k = 6 := by omega
   subst e
   go_wp2_with fail
   go_ret
   exact ⟨_, vs, rfl, hown.mono hw1, hvl, D⟩
end Go.Proofs.YtfmmajgkjkmghaaGreat
