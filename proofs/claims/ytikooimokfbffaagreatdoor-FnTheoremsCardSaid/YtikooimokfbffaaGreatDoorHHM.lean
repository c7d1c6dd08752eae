import Derived.Test.YtikooimokfbffaaGreatDoorHK1
import Derived.Test.YtikooimokfbffaaGreatDoorHD4
import Derived.Test.YtikooimokfbffaaGreatDoorHHK
import Derived.Test.YtikooimokfbffaaGreatDoorHOO
import Derived.Deep.RegionHeld3
/- Draws: names of logics, small formulas, the arguments of IsTheoremOf. -/
namespace Go.Proofs.YtikooimokfbffaaGreatDoor
open Go.RowKit
def texts12 : List ByteArray := [⟨#[112, 124, 126, 112]⟩, ⟨#[126, 126, 112, 62, 112]⟩, ⟨#[40, 40, 112, 62, 113, 41, 62, 112, 41, 62, 112]⟩, ⟨#[126, 126, 40, 112, 124, 126, 112, 41]⟩, ⟨#[40, 112, 62, 113, 41, 124, 40, 113, 62, 112, 41]⟩,
 ⟨#[126, 40, 112, 38, 113, 41, 62, 126, 112, 124, 126, 113]⟩, ⟨#[126, 112, 124, 126, 126, 112]⟩, ⟨#[112, 62, 126, 126, 112]⟩, ⟨#[40, 112, 62, 113, 41, 62, 126, 113, 62, 126, 112]⟩, ⟨#[126, 126, 40, 112, 62, 113, 41, 62, 126, 126, 112, 62, 126, 126, 113]⟩,
 ⟨#[40, 126, 112, 62, 113, 124, 114, 41, 62, 40, 126, 112, 62, 113, 41, 124, 40, 126, 112, 62, 114, 41]⟩, ⟨#[112, 38, 40, 113, 124, 114, 41, 62, 112, 38, 113, 124, 112, 38, 114]⟩]
def ngF (a : Fm) : Fm := .imp a .fls
open Ax in
def forms12 : List Fm := [.or p (ngF p), .imp (ngF (ngF p)) p, .imp (.imp (.imp p q) p) p, ngF (ngF (.or p (ngF p))), .or (.imp p q) (.imp q p), .imp (ngF (.and p q)) (.or (ngF p) (ngF q)), .or (ngF p) (ngF (ngF p)),
 .imp p (ngF (ngF p)), .imp (.imp p q) (.imp (ngF q) (ngF p)), .imp (ngF (ngF (.imp p q))) (.imp (ngF (ngF p)) (ngF (ngF q))), .imp (.imp (ngF p) (.or q r)) (.or (.imp (ngF p) q) (.imp (ngF p) r)), .imp (.and p (.or q r)) (.or (.and p q) (.and p r))]
theorem forms12_ok : ∀ k, k < 12 → bts (texts12.getD k ⟨#[]⟩) = (forms12.getD k .fls).body ∧ (texts12.getD k ⟨#[]⟩).size ≤ 200 ∧ (forms12.getD k .fls).enc.length ≤ 40 := by
 decide +kernel
theorem forms12_wf : ∀ k, k < 12 → (forms12.getD k .fls).wf := by
 intro k h
 have : k = 0 ∨ k = 1 ∨ k = 2 ∨ k = 3 ∨ k = 4 ∨ k = 5 ∨ k = 6 ∨ k = 7 ∨ k = 8 ∨ k = 9 ∨ k = 10 ∨ k = 11 := by omega
 rcases this with rfl | rfl | rfl | rfl | rfl | rfl | rfl | rfl | rfl | rfl | rfl | rfl <;> simp [forms12, ngF, Fm.wf, Ax.p, Ax.q, Ax.r]
def names4 : List ByteArray := [⟨#[]⟩, ⟨#[75]⟩, ⟨#[105, 110, 116]⟩, ⟨#[66, 68, 52]⟩]
def DrawS (B : Nat) (w : World) (e : Ending) (w' : World) : Prop := ∃ s : ByteArray, e = .returned (.string s) ∧ s.size ≤ 100 ∧ Dr B w w'
theorem names4_all : ∀ s ∈ names4, s.size ≤ 100 := by
 intro s hs
 simp only [names4, List.mem_cons, List.not_mem_nil, or_false] at hs
 rcases hs with rfl | rfl | rfl | rfl <;> decide
theorem names9_all : ∀ s ∈ names9, s.size ≤ 100 := by
 intro s hs
 simp only [names9, List.mem_cons, List.not_mem_nil, or_false] at hs
 rcases hs with rfl | rfl | rfl | rfl | rfl | rfl | rfl | rfl | rfl <;> decide
theorem names4_len (i : Nat) (h : i < names4.length) : names4[i].size ≤ 100 := names4_all _ (List.getElem_mem h)
theorem names9_len (i : Nat) (h : i < names9.length) : names9[i].size ≤ 100 := names9_all _ (List.getElem_mem h)
theorem StrsG.dr {w w' : World} {B b n c : Nat} {ss : List ByteArray} (h : Strs w (.slice (some ⟨b, 0, none⟩) n c) ss) (k : Dr B w w') (hb : b ≠ B) (hlt : b < w.heap.size) : Strs w' (.slice (some ⟨b, 0, none⟩) n c) ss := by
 obtain ⟨p, cap, e, h1, h2, hat, h3⟩ := h.at
 cases e
 refine Strs.ofAt h1 h2 (fun j hj => ?_) h3
 obtain ⟨b', off', hp, hc⟩ := hat j hj
 cases hp
 exact ⟨b, 0, rfl, by rw [(k.1.cell hlt hb).1]; exact hc⟩
theorem l30Names_lit (w : World) : Calls Tryz.prog 70 #[] w fun e w' => ∃ g, e = .returned (.slice (some ⟨g, 0, none⟩) 9 9) ∧ w.heap.size ≤ g ∧ g < w'.heap.size ∧ Strs w' (.slice (some ⟨g, 0, none⟩) 9 9) names9 ∧ Keeps w w' := by
 go_enter Tryz.func70, Tryz.ntmps70
 go_wp2
 go_ret
 exact ⟨_, rfl, Nat.le_refl _, by simp, Strs.lit (w := w) names9 (by simp [names9]), (Keeps.refl w).alloc _⟩
set_option maxRecDepth 20000 in
set_option maxHeartbeats 1000000 in
theorem l30Name_any (B : Nat) (w : World) (hs : Src w B) : Calls Tryz.prog 45 #[.pointer (some ⟨B, 0, none⟩)] w (DrawS B w) := by
 have HZ4 := hid names4_len
 have HZ9 := hid names9_len
 have HN := hid (fun wz => l30Names_lit wz)
 go_enter Tryz.func45, Tryz.ntmps45
 go_wp2_with fail
 refine (l01Next_any 30 B w hs (by omega)).mono ?_; rintro e w1 ⟨r1, rfl, hr1, d1⟩
 have hB1 := d1.2.lt
 by_cases hz1 : r1 = 0
 ·subst hz1
  have hl : Strs (w1.alloc (.cells #[.string ⟨#[]⟩, .string ⟨#[75]⟩, .string ⟨#[105, 110, 116]⟩, .string ⟨#[66, 68, 52]⟩] 9)) (.slice (some ⟨w1.heap.size, 0, none⟩) 4 4) names4 := Strs.lit (w := w1) names4 (by simp [names4])
  have d2 := d1.keeps ((Keeps.refl w1).alloc (.cells #[.string ⟨#[]⟩, .string ⟨#[75]⟩, .string ⟨#[105, 110, 116]⟩, .string ⟨#[66, 68, 52]⟩] 9))
  go_wp2_with fail
  refine (l01Next_any 4 B _ d2.2 (by omega)).mono ?_; rintro e w3 ⟨r3, rfl, hr3, d3⟩
  have hr : r3 < names4.length := by simp [names4]; omega
  have hr' : (r3 : Int) < 4 := by omega
  obtain ⟨b, o, e9, hc⟩ := (StrsG.dr hl d3 (by omega) (by simp)).get r3 hr
  cases e9
  rw [Nat.zero_add] at hc
  have hsz := HZ4.out _ hr
  have HSZ := hid hsz
  clear hl hsz
  generalize names4[r3] = x at *
  clear hr
  go_wp2_with fail
  go_ret
  exact ⟨x, rfl, HSZ.out, d2.trans d3⟩
 ·have hz' : ((r1 : Nat) : Int) ≠ 0 := by omega
  go_wp2_with fail
  refine (HN.out w1).mono ?_; rintro e w2 ⟨g, rfl, hg, hg2, hl, k2⟩
  have d2 := d1.keeps k2
  go_wp2_with fail
  refine (l01Next_any 9 B _ d2.2 (by omega)).mono ?_; rintro e w3 ⟨r3, rfl, hr3, d3⟩
  have hr : r3 < names9.length := by simp [names9]; omega
  have hr' : (r3 : Int) < 9 := by omega
  obtain ⟨b, o, e9, hc⟩ := (StrsG.dr hl d3 (by omega) hg2).get r3 hr
  cases e9
  rw [Nat.zero_add] at hc
  have hsz := HZ9.out _ hr
  have HSZ := hid hsz
  clear hl hsz
  generalize names9[r3] = x at *
  clear hr
  go_wp2_with fail
  go_ret
  exact ⟨x, rfl, HSZ.out, d2.trans d3⟩
theorem names9_at : ∀ k, k < 9 → findS names9 (names9.getD k ⟨#[]⟩) = k := by decide +kernel
set_option maxRecDepth 20000 in
theorem l17Plain_11 (B : Nat) (w : World) (hs : Src w B) : Calls Tryz.prog 228 #[.pointer (some ⟨B, 0, none⟩), .int .i64 11, .int .i64 3] w (DrawA B 1000 w) := by
 go_enter Tryz.func228, Tryz.ntmps228
 go_wp2_with fail
 refine (l01Next_any 30 B w hs (by omega)).mono ?_; rintro e w1 ⟨r1, rfl, hr1, d1⟩
 have HA := hid (fun m => l02Any_any B 3 11 (by omega) (by omega) m w1 d1.2)
 go_wp2_with fail
 refine (HA.out _).mono ?_; rintro e w2 ⟨v2, a2, rfl, hv2, hl2, d2⟩
 go_wp2_with fail
 go_ret
 exact ⟨v2, a2, rfl, hv2.mono d1.size, hl2, d1.trans d2⟩
set_option maxRecDepth 20000 in
set_option maxHeartbeats 1000000 in
theorem l23Small_any (B : Nat) (w : World) (hs : Src w B) : Calls Tryz.prog 147 #[.pointer (some ⟨B, 0, none⟩), .int .i64 11] w (DrawA B 1000 w) := by
 have hB := hs.lt
 have hT : Strs (w.alloc (.cells (texts12.map Value.string).toArray 9)) (.slice (some ⟨w.heap.size, 0, none⟩) 12 12) texts12 := Strs.lit (w := w) texts12 (by simp [texts12])
 have d0 := Dr.of hs ((Keeps.refl w).alloc (.cells (texts12.map Value.string).toArray 9))
 have hsz0 : w.heap.size < (w.alloc (.cells (texts12.map Value.string).toArray 9)).heap.size := by simp
 have HT := hid hT; clear hT
 have HNX := hid (l01Next_any 4 B _ d0.2 (by omega))
 have HR := hid (fun k (hk : k < 12) wz => l02Read_any (forms12.getD k .fls) (forms12_wf k hk) (texts12.getD k ⟨#[]⟩) wz (forms12_ok k hk).1 (by have := (forms12_ok k hk).2.1; omega) (by have := (forms12_ok k hk).2.2; omega))
 have HLN := hid (fun k (hk : k < 12) => (forms12_ok k hk).2.2)
 have hg : ∀ k (h : k < 12), texts12[k]'h = texts12.getD k ⟨#[]⟩ := fun k h => by rw [List.getD_eq_getElem?_getD, List.getElem?_eq_getElem (show k < texts12.length from h)]; rfl
 have HG := hid hg; clear hg
 go_enter Tryz.func147, Tryz.ntmps147
 go_wp2_with fail
 refine HNX.out.mono ?_; rintro e w1 ⟨r1, rfl, hr1, d1⟩
 have D1 := d0.trans d1
 have hT1 := StrsG.dr HT.out d1 (by omega) hsz0
 have hsz1 := d1.size
 by_cases hz1 : r1 = 0
 ·subst hz1
  go_wp2_with fail
  refine (l01Next_any 12 B _ D1.2 (by omega)).mono ?_; rintro e w3 ⟨r3, rfl, hr3, d3⟩
  have D3 := D1.trans d3
  have hr : r3 < 12 := by omega
  have hr' : (r3 : Int) < 12 := by omega
  obtain ⟨b, o, e9, hc⟩ := (StrsG.dr hT1 d3 (by omega) (by omega)).get r3 hr
  cases e9
  rw [Nat.zero_add, HG.out r3 hr] at hc
  have HRk := hid (HR.out r3 hr)
  have hln := HLN.out r3 hr
  clear hT1
  generalize texts12.getD r3 ⟨#[]⟩ = x at *
  generalize (forms12.getD r3 .fls).enc = L at *
  go_wp2_with fail
  refine (HRk.out w3).mono ?_; rintro e w4 ⟨v4, rfl, hv4, k4⟩
  obtain ⟨p4, n4, c4, rfl⟩ := hv4.own_shape
  go_wp2_with fail
  go_ret
  exact ⟨_, L, rfl, hv4.mono D3.size, by omega, D3.keeps k4⟩
 ·have hz' : ((r1 : Nat) : Int) ≠ 0 := by omega
  clear hT1
  go_wp2_with fail
  refine (l17Plain_11 B w1 D1.2).mono ?_; rintro e w2 ⟨v2, a2, rfl, hv2, hl2, d2⟩
  obtain ⟨p2, n2, c2, rfl⟩ := hv2.own_shape
  go_wp2_with fail
  go_ret
  exact ⟨_, a2, rfl, hv2.mono D1.size, hl2, D1.trans d2⟩
set_option maxRecDepth 20000 in
set_option maxHeartbeats 1000000 in
theorem l30Formula_any (B : Nat) (w : World) (hs : Src w B) : Calls Tryz.prog 66 #[.pointer (some ⟨B, 0, none⟩)] w (DrawA B 1000 w) := by
 have hB := hs.lt
 have HN := hid (fun wz => l30Names_lit wz)
 have HAX := hid (fun k (hk : k < 9) wz => l30Axiom_any (names9.getD k ⟨#[]⟩) k hk (names9_at k hk) wz)
 have HLN := hid (fun k (hk : k < 9) => (forms9_ok k hk).2.2)
 have hg : ∀ k (h : k < 9), names9[k]'h = names9.getD k ⟨#[]⟩ := fun k h => by rw [List.getD_eq_getElem?_getD, List.getElem?_eq_getElem (show k < names9.length from h)]; rfl
 have HG := hid hg; clear hg
 go_enter Tryz.func66, Tryz.ntmps66
 go_wp2_with fail
 refine (l01Next_any 3 B w hs (by omega)).mono ?_; rintro e w1 ⟨r1, rfl, hr1, d1⟩
 by_cases hz1 : r1 = 0
 ·subst hz1
  go_wp2_with fail
  refine (HN.out w1).mono ?_; rintro e w2 ⟨g, rfl, hg, hg2, hl, k2⟩
  have D2 := d1.keeps k2
  have hB1 := d1.2.lt
  go_wp2_with fail
  refine (l01Next_any 9 B _ D2.2 (by omega)).mono ?_; rintro e w3 ⟨r3, rfl, hr3, d3⟩
  have D3 := D2.trans d3
  have hr : r3 < 9 := by omega
  have hr' : (r3 : Int) < 9 := by omega
  obtain ⟨b, o, e9, hc⟩ := (StrsG.dr hl d3 (by omega) hg2).get r3 hr
  cases e9
  rw [Nat.zero_add, HG.out r3 hr] at hc
  have HAk := hid (HAX.out r3 hr)
  have hln := HLN.out r3 hr
  clear hl
  generalize names9.getD r3 ⟨#[]⟩ = x at *
  generalize (forms9.getD r3 .fls).enc = L at *
  go_wp2_with fail
  refine (HAk.out w3).mono ?_; rintro e w4 ⟨v4, rfl, hv4, k4⟩
  obtain ⟨p4, n4, c4, rfl⟩ := hv4.own_shape
  go_wp2_with fail
  go_ret
  exact ⟨_, L, rfl, hv4.mono D3.size, by omega, D3.keeps k4⟩
 ·have hz' : ((r1 : Nat) : Int) ≠ 0 := by omega
  go_wp2_with fail
  refine (l23Small_any B w1 d1.2).mono ?_; rintro e w2 ⟨v2, a2, rfl, hv2, hl2, d2⟩
  obtain ⟨p2, n2, c2, rfl⟩ := hv2.own_shape
  go_wp2_with fail
  go_ret
  exact ⟨_, a2, rfl, hv2.mono d1.size, hl2, d1.trans d2⟩
def DrawnSA (w : World) (e : Ending) (w' : World) : Prop := ∃ (s : ByteArray) (v : Value) (a : List Nd), e = .returned (.tuple #[.string s, v]) ∧ s.size ≤ 100 ∧ OwnN w' w.heap.size v a ∧ a.length ≤ 1000 ∧ Keeps w w'
set_option maxRecDepth 20000 in
theorem drawIsTheoremOf_any (v : Value) (n : Nat) (w : World) (hv : Bts w v n) (hn : n ≤ 4096) : Calls Tryz.prog 18 #[v] w (DrawnSA w) := by
 have HF := hid (l01From_any v n w hv hn)
 obtain ⟨p, c, rfl, _⟩ := hv
 go_enter Tryz.func18, Tryz.ntmps18
 go_wp2_with fail
 refine HF.out.mono ?_; rintro e w0 ⟨B, rfl, hB, hs, k0⟩
 go_wp2_with fail
 refine (l30Name_any B w0 hs).mono ?_; rintro e w1 ⟨s1, rfl, hs1, d1⟩
 go_wp2_with fail
 refine (l30Formula_any B w1 d1.2).mono ?_; rintro e w2 ⟨v2, a2, rfl, hv2, hl2, d2⟩
 obtain ⟨p2, n2, c2, rfl⟩ := hv2.own_shape
 have D2 := d1.trans d2
 have hsz := k0.size
 have hsz1 := d1.size
 go_wp2_with fail
 go_ret2
 exact ⟨_, _, a2, rfl, hs1, hv2.mono (by omega), hl2, Dr.keepsOf k0 hB D2⟩
end Go.Proofs.YtikooimokfbffaaGreatDoor
namespace Go.Proofs.YtikooimokfbffaaGreatDoor
open Go.RowKit
theorem big_any (v : Value) (n : Nat) (w : World) (hv : Bts w v n) : Calls Tryz.prog 11 #[v] w fun e w' => e = .returned (.bool (decide (4096 < n))) ∧ w = w' := by
 obtain ⟨p, c, rfl, hc, hm, _⟩ := hv
 unfold maxLen at hm
 go_enter Tryz.func11, Tryz.ntmps11
 go_wp2
 go_ret
 exact ⟨ret_bool (by rw [Bool.eq_iff_iff]; simp; omega), rfl⟩
end Go.Proofs.YtikooimokfbffaaGreatDoor
namespace Go.Proofs.YtikooimokfbffaaGreatDoor
open Go.RowKit
theorem cap_ok {b : List Nat} {n : Nat} (h4 : b.length ≤ 4) (hn : n ≤ 3) : (upL b).length ^ n ≤ 4096 := by
 have h1 : (upL b).length ≤ 16 := Nat.le_trans (upK_len b _) (by
  have : 2 ^ b.length ≤ 2 ^ 4 := Nat.pow_le_pow_right (by omega) h4
  omega)
 have h2 : (upL b).length ^ n ≤ (upL b).length ^ 3 := Nat.pow_le_pow_right (upL_pos b) hn
 have h3 : (upL b).length ^ 3 ≤ 16 ^ 3 := Nat.pow_le_pow_left h1 3
 omega
end Go.Proofs.YtikooimokfbffaaGreatDoor
