/- Draws of logics. -/
import Derived.Test.YtkkcfifnkcnceaaGreatHD29
import Derived.Test.YtkkcfifnkcnceaaGreatHMV
import Derived.Test.YtkkcfifnkcnceaaGreatHMJ
import Derived.Test.YtkkcfifnkcnceaaGreatHMQ
import Derived.Test.YtkkcfifnkcnceaaGreatHRP
import Derived.Deep.CutBlock
import Derived.Deep.DeepCutAuto
import Derived.Test.YtkkcfifnkcnceaaGreatHND
import Derived.BigQuiet
namespace Go.Proofs.YtkkcfifnkcnceaaGreat
open Go.RowKit
def DrawT (B : Nat) (w : World) (e : Ending) (w' : World) : Prop := ∃ s : ByteArray, e = .returned (.string s) ∧ s.size ≤ 4 ∧ Dr B w w'
def nmsBad : List ByteArray := [⟨#[]⟩, ⟨#[107]⟩, ⟨#[75, 66]⟩, ⟨#[83, 52, 32]⟩]
theorem sz_small : (∀ s ∈ nmsBad, s.size ≤ 4) ∧ ∀ s ∈ names7, s.size ≤ 4 := by
 constructor
 ·intro s hs
  simp only [nmsBad, List.mem_cons, List.not_mem_nil, or_false] at hs
  rcases hs with rfl | rfl | rfl | rfl <;> decide
 ·intro s hs
  simp only [names7, List.mem_cons, List.not_mem_nil, or_false] at hs
  rcases hs with rfl | rfl | rfl | rfl | rfl | rfl | rfl <;> decide
theorem Strs.dr {w w' : World} {B b n c : Nat} {ss : List ByteArray} (h : Strs w (.slice (some ⟨b, 0, none⟩) n c) ss) (k : Dr B w w') (hb : b ≠ B) (hlt : b < w.heap.size) : Strs w' (.slice (some ⟨b, 0, none⟩) n c) ss := by
 obtain ⟨p, cap, e, h1, h2, hat, h3⟩ := h.at
 cases e
 refine Strs.ofAt h1 h2 (fun j hj => ?_) h3
 obtain ⟨b', off', hp, hc⟩ := hat j hj
 cases hp
 exact ⟨b, 0, rfl, by rw [(k.1.cell hlt hb).1]; exact hc⟩
set_option maxRecDepth 20000 in
set_option maxHeartbeats 1000000 in
theorem l11Logic_any (B : Nat) (w : World) (hs : Src w B) : Calls Tryz.prog 19 #[.pointer (some ⟨B, 0, none⟩)] w (DrawT B w) := by
 have HZ := hid sz_small
 go_enter Tryz.func19, Tryz.ntmps19
 go_wp2_with fail
 refine (l01Next_any 40 B _ hs (by omega)).mono ?_; rintro e w1 ⟨r1, rfl, hr1, d1⟩
 have hB1 := d1.2.lt
 by_cases hz1 : r1 = 0
 ·subst hz1
  have hl : Strs (w1.alloc (.cells #[.string ⟨#[]⟩, .string ⟨#[107]⟩, .string ⟨#[75, 66]⟩, .string ⟨#[83, 52, 32]⟩] 9)) (.slice (some ⟨w1.heap.size, 0, none⟩) 4 4) nmsBad := Strs.lit (w := w1) nmsBad (by simp [nmsBad])
  have d2 := d1.keeps ((Keeps.refl w1).alloc (.cells #[.string ⟨#[]⟩, .string ⟨#[107]⟩, .string ⟨#[75, 66]⟩, .string ⟨#[83, 52, 32]⟩] 9))
  go_wp2_with fail
  refine (l01Next_any 4 B _ d2.2 (by omega)).mono ?_; rintro e w3 ⟨r3, rfl, hr3, d3⟩
  have hr : r3 < nmsBad.length := by simp [nmsBad]; omega
  have hr' : (r3 : Int) < 4 := by omega
  obtain ⟨b, o, e9, hc⟩ := (hl.dr d3 (by omega) (by simp)).get r3 hr
  cases e9
  rw [Nat.zero_add] at hc
  have hsz := HZ.out.1 _ (List.getElem_mem hr)
  have HSZ := hid hsz
  clear hl hsz
  generalize nmsBad[r3] = x at *
  clear hr
  go_wp2_with fail
  go_ret
  exact ⟨x, rfl, HSZ.out, d2.trans d3⟩
 ·have hz' : ((r1 : Nat) : Int) ≠ 0 := by omega
  have hl : Strs (w1.alloc (.cells #[.string ⟨#[75]⟩, .string ⟨#[68]⟩, .string ⟨#[84]⟩, .string ⟨#[75, 52]⟩, .string ⟨#[83, 52]⟩, .string ⟨#[71, 76]⟩, .string ⟨#[83, 53]⟩] 9)) (.slice (some ⟨w1.heap.size, 0, none⟩) 7 7) names7 := Strs.lit (w := w1) names7 (by simp [names7])
  have d2 := d1.keeps ((Keeps.refl w1).alloc (.cells #[.string ⟨#[75]⟩, .string ⟨#[68]⟩, .string ⟨#[84]⟩, .string ⟨#[75, 52]⟩, .string ⟨#[83, 52]⟩, .string ⟨#[71, 76]⟩, .string ⟨#[83, 53]⟩] 9))
  go_wp2_with fail
  refine (l01Next_any 7 B _ d2.2 (by omega)).mono ?_; rintro e w3 ⟨r3, rfl, hr3, d3⟩
  have hr : r3 < names7.length := by simp [names7]; omega
  have hr' : (r3 : Int) < 7 := by omega
  obtain ⟨b, o, e9, hc⟩ := (hl.dr d3 (by omega) (by simp)).get r3 hr
  cases e9
  rw [Nat.zero_add] at hc
  have hsz := HZ.out.2 _ (List.getElem_mem hr)
  have HSZ := hid hsz
  clear hl hsz
  generalize names7[r3] = x at *
  clear hr
  go_wp2_with fail
  go_ret
  exact ⟨x, rfl, HSZ.out, d2.trans d3⟩
def SideD (m : Nat) (w : World) (B0 : Nat) (v : Value) : Prop := ∃ b n c ss, v = .slice (some ⟨b, 0, none⟩) n c ∧ OwnS w B0 (.slice (some ⟨b, 0, none⟩) n c) ss ∧ ss.length ≤ m ∧ ∀ s ∈ ss, s.size ≤ 200
theorem OwnS.drX {w w' : World} {B b : Nat} {v : Value} {a : List ByteArray} (h : OwnS w b v a) (k : Dr B w w') (hB : B < b) : OwnS w' b v a := own_touch h k.1 (fun i hi e => by have := (h.len i hi).1; omega)
theorem SideD.dr {m : Nat} {w w' : World} {B b : Nat} {v : Value} (h : SideD m w b v) (k : Dr B w w') (hB : B < b) : SideD m w' b v := by
 obtain ⟨x, n, c, ss, e, h1, h2⟩ := h
 exact ⟨x, n, c, ss, e, h1.drX k hB, h2⟩
theorem SideD.keeps {m : Nat} {w w' : World} {b : Nat} {v : Value} (h : SideD m w b v) (k : Keeps w w') : SideD m w' b v := by
 obtain ⟨x, n, c, ss, e, h1, h2⟩ := h
 exact ⟨x, n, c, ss, e, h1.keeps k, h2⟩
theorem SideD.mono {m : Nat} {w : World} {b b' : Nat} {v : Value} (h : SideD m w b v) (k : b' ≤ b) : SideD m w b' v := by
 obtain ⟨x, n, c, ss, e, h1, h2⟩ := h
 exact ⟨x, n, c, ss, e, h1.mono k, h2⟩
theorem SideD.up {m m' : Nat} {w : World} {b : Nat} {v : Value} (h : SideD m w b v) (k : m ≤ m') : SideD m' w b v := by
 obtain ⟨x, n, c, ss, e, h1, h2, h3⟩ := h
 exact ⟨x, n, c, ss, e, h1, by omega, h3⟩
theorem SideD.insert {m : Nat} {w w' : World} {B : Nat} {ss : List ByteArray} {s : ByteArray} {e : Ending} (h : RetO w B (insS ss s) e w') (hl : ss.length ≤ m) (h1 : ∀ s ∈ ss, s.size ≤ 200) (h2 : s.size ≤ 200) : ∃ v, e = .returned v ∧ SideD (m + 1) w' B v ∧ Keeps w w' := by
 obtain ⟨b, n, c, rfl, ho, k⟩ := h
 have hsh : ∃ g, b = ⟨g, 0, none⟩ := by
  rcases ho.2 with ⟨e, _⟩ | ⟨g, cap, cur, e, _⟩
  ·cases e
  ·cases e; exact ⟨g, rfl⟩
 obtain ⟨g, rfl⟩ := hsh
 refine ⟨_, rfl, ⟨g, n, c, _, rfl, ho, by have := (insS_len ss s).1; omega, fun x hx => ?_⟩, k⟩
 have hb : bts x ∈ (insS ss s).map bts := List.mem_map_of_mem hx
 rw [insS_bts] at hb
 rcases (insB_mem _ _ _).1 hb with h | h
 ·obtain ⟨y, hy, e⟩ := List.mem_map.1 h
  rw [← bts_inj e]; exact h1 y hy
 ·rw [bts_inj h]; exact h2
def DrawSd2 (B m : Nat) (w : World) (e : Ending) (w' : World) : Prop := ∃ v, e = .returned v ∧ SideD m w' w.heap.size v ∧ Dr B w w'
set_option maxRecDepth 20000 in
set_option maxHeartbeats 4000000 in
theorem l11Drawn_any (B : Nat) (w : World) (hs : Src w B) : Calls Tryz.prog 53 #[.pointer (some ⟨B, 0, none⟩), .int .i64 3] w (DrawSd2 B 3 w) := by
 have hE : OwnS (w.alloc (.cells #[] 9)) w.heap.size (.slice (some ⟨w.heap.size, 0, none⟩) 0 0) [] := OwnS.empty w
 have kA := (Keeps.refl w).alloc (.cells #[] 9)
 have d0 := Dr.of hs kA
 have hB := hs.lt
 go_enter Tryz.func53, Tryz.ntmps53
 go_wp2_with fail
 refine (l01Next_any 4 B _ d0.2 (by omega)).mono ?_; rintro e w1 ⟨r1, rfl, hr1, d1⟩
 have D1 := d0.trans d1
 have hS1 : SideD 0 w1 w.heap.size (.slice (some ⟨w.heap.size, 0, none⟩) 0 0) := ⟨_, _, _, [], rfl, hE.drX d1 hB, by simp, fun s h => by cases h⟩
 have HS1 := hid hS1
 clear hE kA hS1 d0 d1
 go_wp2_with fail
 go_loopw [5, 6] (fun o k' wr => ∃ k : Nat, k ≤ r1 ∧ k' = .int .i64 k ∧ SideD (r1 - k) wr w.heap.size o ∧ Dr B w wr) (fun _ k' _ => (intOf k').toNat)
 case atStart => exact ⟨r1, by omega, rfl, by rw [Nat.sub_self]; exact HS1.out, D1⟩
 case round =>
  obtain ⟨k, hk, rfl, hsd, D⟩ := hrel
  clear HS1 D1
  by_cases h0 : k = 0
  ·subst h0
   go_wp2_with fail
   go_ret
   exact ⟨_, rfl, hsd.up (by omega), D⟩
  ·have h0' : (k : Int) > 0 := by omega
   obtain ⟨b, n, c, ss, rfl, ho, hl, hz⟩ := hsd
   have HZ := hid hz
   clear hz
   go_wp2_with fail
   refine (l01Next_any 6 B _ D.2 (by omega)).mono ?_; rintro e w2 ⟨r2, rfl, hr2, d2⟩
   have D2 := D.trans d2
   have HD := hid (l02DrawW_any B 2 (by omega) true (1 + r2) (by omega) w2 D2.2)
   have hc2 : ((1 + r2 : Nat) : Int) = 1 + (r2 : Int) := by omega
   rw [hc2] at HD
   go_wp2_with fail
   refine HD.out.mono ?_; rintro e w3 ⟨v3, t, rfl, hv3, hl3, hw3, d3⟩
   have D3 := D2.trans d3
   have ho3 := (ho.drX d2 hB).drX d3 hB
   obtain ⟨p3, n3, q3, rfl⟩ := hv3.own_shape
   have hB2 := D2.2.lt
   clear ho d2 d3 HD hc2
   go_wp2_with fail
   refine (l01Next_any 3 B _ D3.2 (by omega)).mono ?_; rintro e w4 ⟨r4, rfl, hr4, d4⟩
   have D4 := D3.trans d4
   have ho4 := ho3.drX d4 hB
   have hv4 := hv3.dr d4 hB2
   clear ho3 hv3 d4 D3
   have key : ∀ (u : Fm) (vu : Value) (wx : World), u.wf → u.enc.length ≤ 7 → Nds wx vu u.enc → Dr B w wx → OwnS wx w.heap.size (.slice (some ⟨b, 0, none⟩) n c) ss →
     (∀ wz (kz : Keeps wx wz), Calls Tryz.prog 104 #[vu] wz (fun e w' => e = .returned (.bool (isFm u.enc)) ∧ wz = w')) ∧
     (∀ wz (kz : Keeps wx wz), Calls Tryz.prog 105 #[vu] wz (fun e w' => ∃ s, e = .returned (.string s) ∧ s.size ≤ 200 ∧ Keeps wz w')) ∧
     (∀ s wz (kz : Keeps wx wz), s.size ≤ 200 → Calls Tryz.prog 55 #[.slice (some ⟨b, 0, none⟩) n c, .string s] wz (fun e w' => ∃ v, e = .returned v ∧ SideD (r1 - k + 1) w' w.heap.size v ∧ Keeps wz w')) := by
    intro u vu wx hw hl7 hn D5 ho5
    refine ⟨fun wz kz => l02Is_any u.enc vu wz (hn.keeps kz), fun wz kz => (l02TextA u hw (by omega) vu wz (hn.keeps kz)).mono ?_, fun s wz kz hs2 => (l02InsertS_any ss b 0 n c s w.heap.size wz (ho5.keeps kz) (by omega) (by have := D5.size; have := kz.size; omega)).mono ?_⟩
    ·rintro e w' ⟨s, rfl, hb, k2⟩
     exact ⟨s, rfl, (show IsTx s u from ⟨hw, hb, by omega⟩).small, k2⟩
    ·intro e w' h
     exact SideD.insert h hl HZ.out hs2
   by_cases hz4 : r4 = 0
   ·subst hz4
    go_wp2_with fail
    refine (l01Next_any 2 B _ D4.2 (by omega)).mono ?_; rintro e w5 ⟨r5, rfl, hr5, d5⟩
    have D5 := D4.trans d5
    have ho5 := ho4.drX d5 hB
    have hv5 := hv4.dr d5 hB2
    have HPr := hid (l02Pre_any (5 + (r5 : Int)) _ _ w5 (hv5.nds (by omega)) (by omega))
    obtain ⟨z, hz, hzl, okz⟩ := pre_treeW r5 hw3 (by omega)
    rw [hz] at HPr
    clear hv4 hv5 ho4 hz
    go_wp2_with fail
    refine HPr.out.mono ?_; rintro e w6 ⟨v6, rfl, hv6, k6⟩
    obtain ⟨p6, n6, q6, rfl⟩ := hv6.own_shape
    have D6 := D5.keeps k6
    obtain ⟨K1, K2, K3⟩ := key z _ w6 okz (by omega) (hv6.nds (by omega)) D6 (ho5.keeps k6)
    have HK1 := hid (K1 w6 (Keeps.refl _))
    have HK2 := hid (K2 w6 (Keeps.refl _))
    have HK3 := hid K3
    have hsd6 : SideD (r1 - k) w6 w.heap.size (.slice (some ⟨b, 0, none⟩) n c) := ⟨b, n, c, ss, rfl, ho5.keeps k6, hl, HZ.out⟩
    have HSD := hid hsd6
    clear K1 K2 K3 hv6 hsd6 ho5 key
    generalize isFm z.enc = bf at *
    cases bf
    ·go_wp2_with fail
     refine HK1.out.mono ?_; rintro e w7 ⟨rfl, rfl⟩
     go_wp2_with fail
     go_roundw
     case rel => exact ⟨k - 1, by omega, by go_num, HSD.out.up (by omega), D6⟩
     case measure => simp [intOf]; omega
    ·go_wp2_with fail
     refine HK1.out.mono ?_; rintro e w7 ⟨rfl, rfl⟩
     go_wp2_with fail
     refine HK2.out.mono ?_; rintro e w8 ⟨s8, rfl, hs8, k8⟩
     have HK4 := hid (HK3.out s8 w8 k8 hs8)
     go_wp2_with fail
     refine HK4.out.mono ?_; rintro e w9 ⟨v9, rfl, hsd9, k9⟩
     go_wp2_with fail
     go_roundw
     case rel => exact ⟨k - 1, by omega, by go_num, hsd9.up (by omega), D6.keeps (k8.trans k9)⟩
     case measure => simp [intOf]; omega
   ·have hz' : ((r4 : Nat) : Int) ≠ 0 := by omega
    obtain ⟨K1, K2, K3⟩ := key t _ w4 hw3 (by omega) (hv4.nds (by omega)) D4 ho4
    have HK1 := hid (K1 w4 (Keeps.refl _))
    have HK2 := hid (K2 w4 (Keeps.refl _))
    have HK3 := hid K3
    have hsd6 : SideD (r1 - k) w4 w.heap.size (.slice (some ⟨b, 0, none⟩) n c) := ⟨b, n, c, ss, rfl, ho4, hl, HZ.out⟩
    have HSD := hid hsd6
    clear K1 K2 K3 hv4 hsd6 ho4 key
    generalize isFm t.enc = bf at *
    cases bf
    ·go_wp2_with fail
     refine HK1.out.mono ?_; rintro e w7 ⟨rfl, rfl⟩
     go_wp2_with fail
     go_roundw
     case rel => exact ⟨k - 1, by omega, by go_num, HSD.out.up (by omega), D4⟩
     case measure => simp [intOf]; omega
    ·go_wp2_with fail
     refine HK1.out.mono ?_; rintro e w7 ⟨rfl, rfl⟩
     go_wp2_with fail
     refine HK2.out.mono ?_; rintro e w8 ⟨s8, rfl, hs8, k8⟩
     have HK4 := hid (HK3.out s8 w8 k8 hs8)
     go_wp2_with fail
     refine HK4.out.mono ?_; rintro e w9 ⟨v9, rfl, hsd9, k9⟩
     go_wp2_with fail
     go_roundw
     case rel => exact ⟨k - 1, by omega, by go_num, hsd9.up (by omega), D4.keeps (k8.trans k9)⟩
     case measure => simp [intOf]; omega
end Go.Proofs.YtkkcfifnkcnceaaGreat
namespace Go.Proofs.YtkkcfifnkcnceaaGreat
open Go.RowKit
theorem BoxG.dr {w w' : World} {r B : Nat} {T : TypeId} {cs : List Value} (h : BoxG w r T cs) (k : Dr B w w') (hB : B < r) : BoxG w' r T cs := own_touch h k.1 (fun i hi e => by
 have : r = i := by simpa [Value.ownBlock] using hi
 omega)
theorem Dr.besideX {B g : Nat} {a b c : World} (h : Dr B a b) (k : Touch b c (fun i => i = g)) (hg : B < g) (ha : a.heap.size ≤ g) : Dr B a c := by
 have hs : Src c B := by
  obtain ⟨v, n, x, hh, c0, c1, c2, f1, f2, hx, p, cap, e, q1, q2, q3⟩ := h.2
  have hBl := World.block_lt_of_cell? _ _ c0
  have kc := k.cell hBl (show ¬ B = g by omega)
  refine ⟨v, n, x, hh, by rw [kc.1]; exact c0, by rw [kc.1]; exact c1, by rw [kc.1]; exact c2, by rw [kc.2]; exact f1, by rw [kc.2]; exact f2, hx, p, cap, e, q1, q2, fun j hj => ?_⟩
  obtain ⟨b', off, y, e2, hc, hy, hb⟩ := q3 j hj
  exact ⟨b', off, y, e2, by rw [(k.cell (b := b') (World.block_lt_of_cell? _ _ hc) (by omega)).1]; exact hc, hy, hb⟩
 refine ⟨⟨k.os.trans h.1.os, k.tape.trans h.1.tape, k.output.trans h.1.output, Nat.le_trans h.1.size k.size, fun i hi hn => ?_⟩, hs⟩
 rw [k.block i (Nat.lt_of_lt_of_le hi h.1.size) (by omega)]
 exact h.1.block i hi hn
theorem Dr.box {a b : World} {B r i : Nat} {T : TypeId} {cs : List Value} {x : Value} (h : Dr B a b) (hb : BoxG b r T cs) (hB : B < r) (ha : a.heap.size ≤ r) : Dr B a (b.setCell ⟨r, i, none⟩ x) :=
 h.besideX (g := r) ((Touch.grown (hb.grown i x)).mono (fun k e => by injection e)) hB ha
theorem SideD.boxed {m : Nat} {w : World} {b r i : Nat} {v x : Value} {T : TypeId} {cs : List Value} (h : SideD m w b v) (hb : BoxG w r T cs) (t : T ≠ 9) : SideD m (w.setCell ⟨r, i, none⟩ x) b v := by
 obtain ⟨y, n, c, ss, e, h1, h2⟩ := h
 exact ⟨y, n, c, ss, e, own_boxed h1 hb t, h2⟩
theorem BoxG.apart {w : World} {r r' i : Nat} {T T' : TypeId} {cs ds : List Value} {x : Value} (h : BoxG w r T cs) (h' : BoxG w r' T' ds) (hne : r ≠ r') : BoxG (w.setCell ⟨r', i, none⟩ x) r T cs :=
 own_touch h (Touch.grown (h'.grown i x)) (fun j e hi => by
  have e1 : r = j := by simpa [Value.ownBlock] using e
  have e2 : j = r' := by simpa using hi
  omega)
theorem SideD.of {m : Nat} {w : World} {B : Nat} {v : Value} {ss : List ByteArray} (h : OwnS w B v ss) (h0 : 0 < ss.length) (hl : ss.length ≤ m) (hz : ∀ s ∈ ss, s.size ≤ 200) : SideD m w B v := by
 rcases h.2 with ⟨_, e⟩ | ⟨g, cap, cur, rfl, _⟩
 ·omega
 ·exact ⟨g, _, cap, ss, rfl, h, hl, hz⟩
theorem Dr.row {a b c : World} {B g : Nat} {row : Option Nat} (h : Dr B a b) (k : b.grownBy c row) (hr : row = some g) (hB : B < g) (ha : a.heap.size ≤ g) : Dr B a c :=
 h.besideX (g := g) ((Touch.grown k).mono (fun k e => by rw [hr] at e; injection e)) hB ha
def SeqD (B : Nat) (w : World) (e : Ending) (w' : World) : Prop := ∃ x y, e = .returned (.agg #[x, y]) ∧ SideD 4 w' w.heap.size x ∧ SideD 4 w' w.heap.size y ∧ Dr B w w'
theorem SideD.shape {m : Nat} {w : World} {b : Nat} {v : Value} (h : SideD m w b v) : ∃ p n c, v = .slice p n c := by
 obtain ⟨y, n, c, ss, e, _⟩ := h
 exact ⟨_, n, c, e⟩
set_option maxRecDepth 20000 in
set_option maxHeartbeats 4000000 in
theorem l11Sequent_any (B : Nat) (w : World) (hs : Src w B) : Calls Tryz.prog 20 #[.pointer (some ⟨B, 0, none⟩)] w (SeqD B w) := by
 have kA := (Keeps.refl w).alloc (.cells #[.slice none 0 0, .slice none 0 0] 26)
 have hb := BoxG.made w 26 [.slice none 0 0, .slice none 0 0] (by simp) (by simp)
 have d0 := Dr.of hs kA
 have hB := hs.lt
 have hz0 : (w.alloc (.cells #[.slice none 0 0, .slice none 0 0] 26)).heap.size = w.heap.size + 1 := by simp
 have H1 := hid (l11Drawn_any B _ d0.2)
 go_enter Tryz.func20, Tryz.ntmps20
 go_wp2_with fail
 refine H1.out.mono ?_; rintro e w1 ⟨v1, rfl, hx, d1⟩
 have H2 := hid (l11Drawn_any B w1 d1.2)
 have hB1 := d1.2.lt
 have hw1 := d1.size
 rw [hz0] at hx hw1
 have hb1 := hb.dr d1 (by omega)
 have D1 := d0.trans d1
 obtain ⟨p1, n1, c1, e1⟩ := hx.shape
 subst e1
 clear hb d0 d1 kA
 go_wp2_with fail
 refine H2.out.mono ?_; rintro e w2 ⟨v2, rfl, hy, d2⟩
 have hw2 := d2.size
 have hb2 := hb1.dr d2 (by omega)
 have hx2 := hx.dr d2 (by omega)
 have D2 := D1.trans d2
 obtain ⟨b1, m1, q1, ss, ex, ho1, hl1, hz1⟩ := hx2
 obtain ⟨b2, m2, q2, tt, rfl, ho2, hl2, hz2⟩ := hy
 simp only [Value.slice.injEq] at ex
 obtain ⟨rfl, rfl, rfl⟩ := ex
 obtain ⟨b0, m0, q0, ss0, ex0, ho0, _⟩ := hx
 simp only [Value.slice.injEq, Option.some.injEq, Addr.mk.injEq] at ex0
 obtain ⟨⟨rfl, -, -⟩, rfl, rfl⟩ := ex0
 have hlt1 : b1 < w1.heap.size := (ho0.len b1 rfl).2
 have hge1 : w.heap.size + 1 ≤ b1 := (ho0.len b1 rfl).1
 have hge2 : w1.heap.size ≤ b2 := (ho2.len b2 rfl).1
 clear ho0 hb1 d2 D1
 have kC := (Keeps.refl w2).alloc (.cells #[.slice (some ⟨b1, 0, none⟩) n1 c1, .slice (some ⟨b2, 0, none⟩) m2 q2] 26)
 have hc := BoxG.made w2 26 [.slice (some ⟨b1, 0, none⟩) n1 c1, .slice (some ⟨b2, 0, none⟩) m2 q2] (by simp) (by simp)
 have D3 := D2.keeps kC
 have hb3 := hb2.keeps kC
 have ho3 := ho1.keeps kC
 have hp3 := ho2.keeps kC
 have hw3 : w2.heap.size < (w2.alloc (.cells #[.slice (some ⟨b1, 0, none⟩) n1 c1, .slice (some ⟨b2, 0, none⟩) m2 q2] 26)).heap.size := by simp
 have HZ1 := hid hz1
 have HZ2 := hid hz2
 clear hz1 hz2 ho1 ho2 hb2 D2 hz0
 go_wp2_with fail
 refine (l01Next_any 30 B _ D3.2 (by omega)).mono ?_; rintro e w4 ⟨r4, rfl, hr4, d4⟩
 have D4 := D3.trans d4
 have hw4 := d4.size
 have hc4 := hc.dr d4 (by omega)
 have hb4 := hb3.dr d4 (by omega)
 have ho4 := ho3.drX d4 (by omega)
 have hp4 := hp3.drX d4 (by omega)
 clear hc hb3 ho3 hp3 d4 D3 kC
 have HB4 := hid hb4
 have fin : ∀ (wz : World) (x y : Value), BoxG wz w.heap.size 26 [.slice none 0 0, .slice none 0 0] → BoxG wz w2.heap.size 26 [x, y] → SideD 4 wz w.heap.size x → SideD 4 wz w.heap.size y → Dr B w wz →
   (wz.cell? ⟨w.heap.size, 0, none⟩ = some (.slice none 0 0) ∧ wz.cell? ⟨w.heap.size, 1, none⟩ = some (.slice none 0 0) ∧ wz.frozen? ⟨w.heap.size, 0, none⟩ = false ∧ wz.frozen? ⟨w.heap.size, 1, none⟩ = false ∧ wz.cell? ⟨w2.heap.size, 0, none⟩ = some x ∧ wz.cell? ⟨w2.heap.size, 1, none⟩ = some y) ∧
   SeqD B w (.returned (.agg #[x, y])) ((wz.setCell ⟨w.heap.size, 0, none⟩ x).setCell ⟨w.heap.size, 1, none⟩ y) ∧ ((wz.setCell ⟨w.heap.size, 0, none⟩ x).setCell ⟨w.heap.size, 1, none⟩ y).cell? ⟨w.heap.size, 0, none⟩ = some x ∧ ((wz.setCell ⟨w.heap.size, 0, none⟩ x).setCell ⟨w.heap.size, 1, none⟩ y).cell? ⟨w.heap.size, 1, none⟩ = some y := by
  intro wz x y hb hc hx hy D
  have hb1 := hb.set 0 x
  have hb2 := hb1.set 1 y
  refine ⟨⟨hb.cell 0 (by simp), hb.cell 1 (by simp), hb.froz 0, hb.froz 1, hc.cell 0 (by simp), hc.cell 1 (by simp)⟩, ⟨x, y, rfl, (hx.boxed hb (by decide)).boxed hb1 (by decide), (hy.boxed hb (by decide)).boxed hb1 (by decide), (D.box hb (by omega) (Nat.le_refl _)).box hb1 (by omega) (Nat.le_refl _)⟩, hb2.cell 0 (by simp), hb2.cell 1 (by simp)⟩
 have HFIN := hid fin
 clear fin
 by_cases h0 : r4 = 0
 ·subst h0
  have hc0 := hc4.cell 0 (by simp)
  simp only [List.getElem_cons_zero] at hc0
  have ka := (Keeps.refl w4).alloc (.cells #[.string ⟨#[70]⟩] 9)
  have hoa := ho4.keeps ka
  have hca := hc4.keeps ka
  go_upto_region 7 with (at_builtin; refine appS rfl _ _ rfl (w.heap.size + 1) (.slice (some ⟨b1, 0, none⟩) n1 c1) ss rfl hoa _ [⟨#[70]⟩] rfl (Strs.lit1 w4 ⟨#[70]⟩) (by simp; omega) (by simp; omega) ?_; intro v7 w7 hv7 hg7 hr7; have hcz := hca.other hoa (by decide) hg7; have z0 := hcz.cell 0 (by simp); have zf := hcz.froz 0; simp only [List.getElem_cons_zero] at z0; obtain ⟨p7, q7, rfl, hq7, hx7, -⟩ := At.of_own hv7; simp only [List.length_append, List.length_cons, List.length_nil, Nat.zero_add] at hv7 hq7 ⊢)
  have hbz := ((HB4.out.keeps ka).other hoa (by decide) hg7).apart (i := 0) (x := (Value.slice p7 (ss.length + 1) q7)) hcz (by omega)
  have hown : OwnS w7 (w.heap.size + 1) (Value.slice p7 (ss.length + 1) q7) (ss ++ [⟨#[70]⟩]) := hv7
  have hside := (SideD.of hown (by simp) (by simp; omega) (fun s h => by rcases List.mem_append.1 h with h | h; exact HZ1.out s h; simp at h; subst h; decide) : SideD 4 w7 (w.heap.size + 1) (Value.slice p7 (ss.length + 1) q7)).boxed (i := 0) (x := (Value.slice p7 (ss.length + 1) q7)) hcz (by decide)
  have hoth : OwnS w7 w1.heap.size _ tt := own_touch (hp4.keeps ka) (Touch.grown hg7) (fun i e hi => by
   have e1 : b2 = i := by simpa [Value.ownBlock] using e
   have e2 : i = b1 := by simpa [Value.ownBlock] using hi
   omega)
  have hoside := (show SideD 4 w7 w1.heap.size _ from ⟨_, _, _, _, rfl, hoth, by omega, HZ2.out⟩).boxed (i := 0) (x := (Value.slice p7 (ss.length + 1) q7)) hcz (by decide)
  have hdr := ((D4.keeps ka).row hg7 rfl (g := b1) (by omega) (by omega)).box (i := 0) (x := (Value.slice p7 (ss.length + 1) q7)) hcz (by omega) (by omega)
  have HF := HFIN.out _ (Value.slice p7 (ss.length + 1) q7) (Value.slice (some ⟨b2, 0, none⟩) m2 q2) hbz (hcz.set 0 (Value.slice p7 (ss.length + 1) q7)) (hside.mono (by omega)) (hoside.mono (by omega)) hdr
  clear hbz hown hside hoth hoside hdr hcz hca hoa ka hv7 hg7 hr7 z0 zf hc0 hc4 ho4 hp4
  generalize w7.setCell ⟨w2.heap.size, 0, none⟩ (Value.slice p7 (ss.length + 1) q7) = wz at *
  obtain ⟨⟨a0, a1, f0, f1, g0, g1⟩, hS, y0, y1⟩ := HF
  have HS := hid hS
  clear hS
  go_wp2_with fail
  refine bodyPost_ret (v := .agg #[(Value.slice p7 (ss.length + 1) q7), (Value.slice (some ⟨b2, 0, none⟩) m2 q2)]) (by simp [results, Tryz.results20, go_sem, y0, y1]) rfl HS.out
 ·have h0' : ((r4 : Nat) : Int) ≠ 0 := by omega
  by_cases h1 : r4 = 1
  ·subst h1
   have hc0 := hc4.cell 1 (by simp)
   simp only [List.getElem_cons_succ, List.getElem_cons_zero] at hc0
   have ka := (Keeps.refl w4).alloc (.cells #[.string ⟨#[40, 112, 41]⟩] 9)
   have hoa := hp4.keeps ka
   have hca := hc4.keeps ka
   go_upto_region 7 with (at_builtin; refine appS rfl _ _ rfl w1.heap.size (.slice (some ⟨b2, 0, none⟩) m2 q2) tt rfl hoa _ [⟨#[40, 112, 41]⟩] rfl (Strs.lit1 w4 ⟨#[40, 112, 41]⟩) (by simp; omega) (by simp; omega) ?_; intro v7 w7 hv7 hg7 hr7; have hcz := hca.other hoa (by decide) hg7; have z0 := hcz.cell 1 (by simp); have zf := hcz.froz 1; simp only [List.getElem_cons_succ, List.getElem_cons_zero] at z0; obtain ⟨p7, q7, rfl, hq7, hx7, -⟩ := At.of_own hv7; simp only [List.length_append, List.length_cons, List.length_nil, Nat.zero_add] at hv7 hq7 ⊢)
   have hbz := ((HB4.out.keeps ka).other hoa (by decide) hg7).apart (i := 1) (x := (Value.slice p7 (tt.length + 1) q7)) hcz (by omega)
   have hown : OwnS w7 w1.heap.size (Value.slice p7 (tt.length + 1) q7) (tt ++ [⟨#[40, 112, 41]⟩]) := hv7
   have hside := (SideD.of hown (by simp) (by simp; omega) (fun s h => by rcases List.mem_append.1 h with h | h; exact HZ2.out s h; simp at h; subst h; decide) : SideD 4 w7 w1.heap.size (Value.slice p7 (tt.length + 1) q7)).boxed (i := 1) (x := (Value.slice p7 (tt.length + 1) q7)) hcz (by decide)
   have hoth : OwnS w7 (w.heap.size + 1) _ ss := own_touch (ho4.keeps ka) (Touch.grown hg7) (fun i e hi => by
    have e1 : b1 = i := by simpa [Value.ownBlock] using e
    have e2 : i = b2 := by simpa [Value.ownBlock] using hi
    omega)
   have hoside := (show SideD 4 w7 (w.heap.size + 1) _ from ⟨_, _, _, _, rfl, hoth, by omega, HZ1.out⟩).boxed (i := 1) (x := (Value.slice p7 (tt.length + 1) q7)) hcz (by decide)
   have hdr := ((D4.keeps ka).row hg7 rfl (g := b2) (by omega) (by omega)).box (i := 1) (x := (Value.slice p7 (tt.length + 1) q7)) hcz (by omega) (by omega)
   have HF := HFIN.out _ (Value.slice (some ⟨b1, 0, none⟩) n1 c1) (Value.slice p7 (tt.length + 1) q7) hbz (hcz.set 1 (Value.slice p7 (tt.length + 1) q7)) (hoside.mono (by omega)) (hside.mono (by omega)) hdr
   clear hbz hown hside hoth hoside hdr hcz hca hoa ka hv7 hg7 hr7 z0 zf hc0 hc4 ho4 hp4
   generalize w7.setCell ⟨w2.heap.size, 1, none⟩ (Value.slice p7 (tt.length + 1) q7) = wz at *
   obtain ⟨⟨a0, a1, f0, f1, g0, g1⟩, hS, y0, y1⟩ := HF
   have HS := hid hS
   clear hS
   go_wp2_with fail
   refine bodyPost_ret (v := .agg #[(Value.slice (some ⟨b1, 0, none⟩) n1 c1), (Value.slice p7 (tt.length + 1) q7)]) (by simp [results, Tryz.results20, go_sem, y0, y1]) rfl HS.out
  ·have h1' : ((r4 : Nat) : Int) ≠ 1 := by omega
   have HF := HFIN.out w4 (.slice (some ⟨b1, 0, none⟩) n1 c1) (.slice (some ⟨b2, 0, none⟩) m2 q2) HB4.out hc4 (SideD.mono ⟨_, _, _, _, rfl, ho4, by omega, HZ1.out⟩ (by omega)) (SideD.mono ⟨_, _, _, _, rfl, hp4, by omega, HZ2.out⟩ (by omega)) D4
   clear hc4 ho4 hp4
   obtain ⟨⟨a0, a1, f0, f1, g0, g1⟩, hS, y0, y1⟩ := HF
   have HS := hid hS
   clear hS
   go_wp2_with fail
   refine bodyPost_ret (v := .agg #[.slice (some ⟨b1, 0, none⟩) n1 c1, .slice (some ⟨b2, 0, none⟩) m2 q2]) (by simp [results, Tryz.results20, go_sem, y0, y1]) rfl HS.out
end Go.Proofs.YtkkcfifnkcnceaaGreat
namespace Go.Proofs.YtkkcfifnkcnceaaGreat
open Go.RowKit
set_option maxHeartbeats 1000000 in
theorem likeTexts5_same (ss : List ByteArray) (v v' : Value) (w : World) (hv : Strs w v ss) (hv' : Strs w v' ss) :
  Calls Tryz.prog 33 #[v, v'] w fun e w' => e = .returned (.bool true) ∧ Keeps w w' := by
 have hv0 := hv
 have hv1 := hv'
 obtain ⟨p, cap, rfl, hle, hmx, hlen⟩ := hv.shape
 obtain ⟨p', cap', rfl, hle', hmx', _⟩ := hv'.shape
 unfold maxLen at hmx hmx'
 have HV := hid (fun wz (k : Keeps w wz) => hv0.keeps k)
 have HW := hid (fun wz (k : Keeps w wz) => hv1.keeps k)
 clear hv hv' hv0 hv1
 go_enter Tryz.func33, Tryz.ntmps33
 go_wp2_with fail
 go_loopw [4, 5] (fun o i' wr => ∃ i : Nat, i ≤ ss.length ∧ i' = .int .i64 i ∧ o = .bool false ∧ Keeps w wr) (fun _ i' _ => ss.length - (intOf i').toNat)
 case atStart => exact ⟨0, by omega, rfl, rfl, Keeps.refl w⟩
 case round =>
  obtain ⟨i, hi, rfl, rfl, kw⟩ := hrel
  by_cases hlt : i < ss.length
  ·have hlt' : (i : Int) < ss.length := by omega
   obtain ⟨b1, o1, rfl, h1⟩ := (HV.out wr kw).get i hlt
   obtain ⟨b2, o2, rfl, h2⟩ := (HW.out wr kw).get i hlt
   generalize ss[i] = x at *
   go_wp2_with fail
   go_quiet (fail)
   go_wp2_with fail
   go_roundw
   case rel => exact ⟨i + 1, by omega, by go_num, rfl, kw.drewN _⟩
   case measure => simp [intOf]; omega
  ·have hlt' : ¬ (i : Int) < ss.length := by omega
   obtain rfl : i = ss.length := by omega
   go_wp2_with fail
   go_ret
   exact ⟨rfl, kw⟩
end Go.Proofs.YtkkcfifnkcnceaaGreat
namespace Go.Proofs.YtkkcfifnkcnceaaGreat
open Go.RowKit
theorem big_any (v : Value) (n : Nat) (w : World) (hv : Bts w v n) : Calls Tryz.prog 5 #[v] w fun e w' => e = .returned (.bool (decide (4096 < n))) ∧ w = w' := by
 obtain ⟨p, c, rfl, hc, hm, _⟩ := hv
 unfold maxLen at hm
 go_enter Tryz.func5, Tryz.ntmps5
 go_wp2
 go_ret
 exact ⟨ret_bool (by rw [Bool.eq_iff_iff]; simp; omega), rfl⟩
end Go.Proofs.YtkkcfifnkcnceaaGreat
