import Derived.Test.YtfmmajgkjkmghaaGreatDoorHJI
import Derived.Test.YtfmmajgkjkmghaaGreatDoorHS2
import Derived.Test.YtfmmajgkjkmghaaGreatDoorHK1
import Derived.Test.YtfmmajgkjkmghaaGreatDoorHJL
import Derived.Test.YtfmmajgkjkmghaaGreatDoorHHQ
import Derived.Test.YtfmmajgkjkmghaaGreatDoorHOD
import Derived.Test.YtfmmajgkjkmghaaGreatDoorHBG
/- Draws: any formula; the formulas of the chapters on rules. -/
namespace Go.Proofs.YtfmmajgkjkmghaaGreatDoor
open Go.RowKit
end Go.Proofs.YtfmmajgkjkmghaaGreatDoor
namespace Go.Proofs.YtfmmajgkjkmghaaGreatDoor
open Go.RowKit
theorem StrsG.dr {w w' : World} {B b n c : Nat} {ss : List ByteArray} (h : Strs w (.slice (some ⟨b, 0, none⟩) n c) ss) (k : Dr B w w') (hb : b ≠ B) (hlt : b < w.heap.size) : Strs w' (.slice (some ⟨b, 0, none⟩) n c) ss := by
 obtain ⟨p, cap, e, h1, h2, hat, h3⟩ := h.at
 cases e
 refine Strs.ofAt h1 h2 (fun j hj => ?_) h3
 obtain ⟨b', off', hp, hc⟩ := hat j hj
 cases hp
 exact ⟨b, 0, rfl, by rw [(k.1.cell hlt hb).1]; exact hc⟩
end Go.Proofs.YtfmmajgkjkmghaaGreatDoor
namespace Go.Proofs.YtfmmajgkjkmghaaGreatDoor
open Go.RowKit
def names4 : List ByteArray := [⟨#[]⟩, ⟨#[75]⟩, ⟨#[105, 110, 116]⟩, ⟨#[66, 68, 52]⟩]
def DrawS (B : Nat) (w : World) (e : Ending) (w' : World) : Prop := ∃ s : ByteArray, e = .returned (.string s) ∧ s.size ≤ 100 ∧ Dr B w w'
theorem names4_all : ∀ s ∈ names4, s.size ≤ 100 := by
 intro s hs
 simp only [names4, List.mem_cons, List.not_mem_nil, or_false] at hs
 rcases hs with rfl | rfl | rfl | rfl <;> decide
theorem names9_all : ∀ s ∈ names9, s.size ≤ 100 := by
 intro s hs
 simp only [names9, List.mem_cons, List.not_mem_nil, or_false] at hs
 rcases hs with rfl | rfl | rfl | rfl | rfl | rfl | rfl | rfl | rfl <;> decide
theorem names4_len (i : Nat) (h : i < names4.length) : names4[i].size ≤ 100 := names4_all _ (List.getElem_mem h)
theorem names9_len (i : Nat) (h : i < names9.length) : names9[i].size ≤ 100 := names9_all _ (List.getElem_mem h)
theorem l30Names_lit (w : World) : Calls Tryz.prog 41 #[] w fun e w' => ∃ g, e = .returned (.slice (some ⟨g, 0, none⟩) 9 9) ∧ w.heap.size ≤ g ∧ g < w'.heap.size ∧ Strs w' (.slice (some ⟨g, 0, none⟩) 9 9) names9 ∧ Keeps w w' := by
 go_enter Tryz.func41, Tryz.ntmps41
 go_wp2
 go_ret
 exact ⟨_, rfl, Nat.le_refl _, by simp, Strs.lit (w := w) names9 (by simp [names9]), (Keeps.refl w).alloc _⟩
set_option maxRecDepth 20000 in
set_option maxHeartbeats 1000000 in
theorem l30Name_any (B : Nat) (w : World) (hs : Src w B) : Calls Tryz.prog 13 #[.pointer (some ⟨B, 0, none⟩)] w (DrawS B w) := by
 have HZ4 := hid names4_len
 have HZ9 := hid names9_len
 have HN := hid (fun wz => l30Names_lit wz)
 go_enter Tryz.func13, Tryz.ntmps13
 go_wp2_with fail
 refine (l01Next_any 30 B w hs (by omega)).mono ?_; rintro e w1 ⟨r1, rfl, hr1, d1⟩
 have hB1 := d1.2.lt
 by_cases hz1 : r1 = 0
 ·subst hz1
  have hl : Strs (w1.alloc (.cells #[.string ⟨#[]⟩, .string ⟨#[75]⟩, .string ⟨#[105, 110, 116]⟩, .string ⟨#[66, 68, 52]⟩] 9)) (.slice (some ⟨w1.heap.size, 0, none⟩) 4 4) names4 := Strs.lit (w := w1) names4 (by simp [names4])
  have d2 := d1.keeps ((Keeps.refl w1).alloc (.cells #[.string ⟨#[]⟩, .string ⟨#[75]⟩, .string ⟨#[105, 110, 116]⟩, .string ⟨#[66, 68, 52]⟩] 9))
  go_wp2_with fail
  refine (l01Next_any 4 B _ d2.2 (by omega)).mono ?_; rintro e w3 ⟨r3, rfl, hr3, d3⟩
  have hr : r3 < names4.length := by simp [names4]; omega
  have hr' : (r3 : Int) < 4 := by omega
  obtain ⟨b, o, e9, hc⟩ := (StrsG.dr hl d3 (by omega) (by simp)).get r3 hr
  cases e9
  rw [Nat.zero_add] at hc
  have hsz := HZ4.out _ hr
  have HSZ := hid hsz
  clear hl hsz
  generalize names4[r3] = x at *
  clear hr
  go_wp2_with fail
  go_ret
  exact ⟨x, rfl, HSZ.out, d2.trans d3⟩
 ·have hz' : ((r1 : Nat) : Int) ≠ 0 := by omega
  go_wp2_with fail
  refine (HN.out w1).mono ?_; rintro e w2 ⟨g, rfl, hg, hg2, hl, k2⟩
  have d2 := d1.keeps k2
  go_wp2_with fail
  refine (l01Next_any 9 B _ d2.2 (by omega)).mono ?_; rintro e w3 ⟨r3, rfl, hr3, d3⟩
  have hr : r3 < names9.length := by simp [names9]; omega
  have hr' : (r3 : Int) < 9 := by omega
  obtain ⟨b, o, e9, hc⟩ := (StrsG.dr hl d3 (by omega) hg2).get r3 hr
  cases e9
  rw [Nat.zero_add] at hc
  have hsz := HZ9.out _ hr
  have HSZ := hid hsz
  clear hl hsz
  generalize names9[r3] = x at *
  clear hr
  go_wp2_with fail
  go_ret
  exact ⟨x, rfl, HSZ.out, d2.trans d3⟩
end Go.Proofs.YtfmmajgkjkmghaaGreatDoor
namespace Go.Proofs.YtfmmajgkjkmghaaGreatDoor
open Go.RowKit
theorem big_any (v : Value) (n : Nat) (w : World) (hv : Bts w v n) : Calls Tryz.prog 4 #[v] w fun e w' => e = .returned (.bool (decide (4096 < n))) ∧ w = w' := by
 obtain ⟨p, c, rfl, hc, hm, _⟩ := hv
 unfold maxLen at hm
 go_enter Tryz.func4, Tryz.ntmps4
 go_wp2
 go_ret
 exact ⟨ret_bool (by rw [Bool.eq_iff_iff]; simp; omega), rfl⟩
theorem Bts.keeps {w w' : World} {v : Value} {n : Nat} (h : Bts w v n) (k : Keeps w w') : Bts w' v n := (BtsB.low h k).up k.size
end Go.Proofs.YtfmmajgkjkmghaaGreatDoor
namespace Go.Proofs.YtfmmajgkjkmghaaGreatDoor
open Go.RowKit
def DrawnPS (w : World) (e : Ending) (w' : World) : Prop := ∃ (n : Int) (v : Value) (a : List Int) (s : ByteArray), e = .returned (.tuple #[.agg #[.int .i64 n, v], .string s]) ∧ OwnI w' w.heap.size v a ∧ a.length ≤ 9 ∧ (-100 ≤ n ∧ n ≤ 100) ∧ s.size ≤ 100 ∧ Keeps w w'
theorem results_dips (tmps : Array Value) (W : World) (r : Nat) (s : ByteArray) (h2 : tmps.getD 2 undef = .pointer (some ⟨r, 0, none⟩)) (h3 : tmps.getD 3 undef = .string s) {v : Value} {n : Int}
  (ha : W.cell? ⟨r, 0, none⟩ = some (.int .i64 n)) (hb : W.cell? ⟨r, 1, none⟩ = some v) (hv : ∃ p m q, v = .slice p m q) :
  (results Tryz.f5 tmps).run Tryz.prog W = .ok (.tuple #[.agg #[.int .i64 n, v], .string s]) W := by
 have hr : Tryz.f5.results = #[.cell 2 26, .tmp 3] := rfl
 obtain ⟨p, m, q, rfl⟩ := hv
 unfold results
 rw [hr]
 rw [Array.getD_eq_getD_getElem?] at h2 h3
 simp [go_sem, loadVar, h2, h3, ha, hb]
set_option maxRecDepth 20000 in
set_option maxHeartbeats 2000000 in
theorem drawIsPosetOf_any (v : Value) (n : Nat) (w : World) (hv : Bts w v n) (hn : n ≤ 4096) : Calls Tryz.prog 5 #[v] w (DrawnPS w) := by
 have kA := (Keeps.refl w).alloc (.cells #[.int .i64 0, .slice none 0 0] 26)
 have hb0 := RB.made w
 have hsz : (w.alloc (.cells #[.int .i64 0, .slice none 0 0] 26)).heap.size = w.heap.size + 1 := by simp
 have HF := hid (l01From_any v n _ (hv.keeps kA) hn)
 obtain ⟨p, c, rfl, _⟩ := hv
 go_enter Tryz.func5, Tryz.ntmps5
 go_wp2_with fail
 refine HF.out.mono ?_; rintro e w0 ⟨B, rfl, hB, hs, k0⟩
 have hb1 := hb0.keeps k0
 have hz0 := k0.size
 have K0 := kA.trans k0
 rw [hsz] at hB
 clear hb0 kA HF k0
 go_wp2_with fail
 refine (l16Draw_any B 7 (by omega) (by omega) w0 hs).mono ?_; rintro e w1 ⟨m, v1, a, rfl, hv1, hla, hm, d1⟩
 obtain ⟨p1, c1, rfl, -, -, -⟩ := At.of_own hv1
 have hb2 := hb1.dr d1 (by omega)
 have hz1 := d1.size
 have kC := (Keeps.refl w1).alloc (.cells #[.int .i64 m, .slice p1 a.length c1] 26)
 have hm3 := made3 w1 (.int .i64 m) (.slice p1 a.length c1) rfl
 have D2 := d1.keeps kC
 have hb3 := hb2.keeps kC
 have hv3 := hv1.keeps kC
 have hz2 : w1.heap.size < (w1.alloc (.cells #[.int .i64 m, .slice p1 a.length c1] 26)).heap.size := by simp
 clear hb2 hb1 hv1 kC d1
 obtain ⟨x0, x1, -, -⟩ := hm3
 go_wp2_with fail
 generalize w1.alloc (.cells #[.int .i64 m, .slice p1 a.length c1] 26) = W1 at *
 have hBl := hs.lt
 have kd := (Keeps.refl W1).drew
 have z0 := kd.cell x0
 have z1 := kd.cell x1
 have bd := hb3.keeps kd
 obtain ⟨y0, y1, g0, g1⟩ := bd
 have Dd := D2.keeps kd
 go_region_law (first
  | (go_simp; go_at_call 13; refine (l30Name_any B _ Dd.2).mono ?_; rintro e w4 ⟨s4, rfl, hs4, d4⟩; have D4 := Dd.trans d4; have hb4 := (hb3.keeps kd).dr d4 (by omega); have hv4 := (hv3.keeps kd).dr d4 (by omega); obtain ⟨q0, q1, j0, j1⟩ := hb4; have hq := d4.1.cell (b := w1.heap.size) (by have := World.block_lt_of_cell? _ _ z0; simpa using this) (by omega); have u0 := (hq.1 0).trans z0; have u1 := (hq.1 1).trans z1))
 all_goals
  have hK := (Dr.keepsOf K0 (by omega) D4)
  have hlt : w.heap.size < w0.heap.size := by omega
  have s1 := World.cell?_setCell_same w4 ⟨w.heap.size, 0, none⟩ (.int .i64 m) q0
  have s2 := (World.cell?_setCell_other (w := w4) (a := ⟨w.heap.size, 0, none⟩) (b := ⟨w.heap.size, 1, none⟩) (v := .int .i64 m) (by simp)).trans q1
  have s3 := World.cell?_setCell_same (w4.setCell ⟨w.heap.size, 0, none⟩ (.int .i64 m)) ⟨w.heap.size, 1, none⟩ (.slice p1 a.length c1) s2
  have s4' := (World.cell?_setCell_other (w := w4.setCell ⟨w.heap.size, 0, none⟩ (.int .i64 m)) (a := ⟨w.heap.size, 1, none⟩) (b := ⟨w.heap.size, 0, none⟩) (v := .slice p1 a.length c1) (by simp)).trans s1
  go_wp2_with fail
  refine bodyPost_ret (results_dips _ _ w.heap.size s4 rfl rfl s4' s3 ⟨_, _, _, rfl⟩) rfl ?_
  exact ⟨m, _, a, s4, rfl, ((hv4.setBelow hlt _).setBelow (by simpa using hlt) _).mono (by omega), hla, hm, hs4, (hK.setCell (Nat.le_refl _) _).setCell (Nat.le_refl _) _⟩
end Go.Proofs.YtfmmajgkjkmghaaGreatDoor
namespace Go.Proofs.YtfmmajgkjkmghaaGreatDoor
open Go.RowKit
theorem forms9_good : ∀ k : Fin 9, isFm (forms9.getD k .fls).enc = true ∧ (forms9.getD k .fls).plain = true := by decide +kernel
def RetRX (w : World) (b : List Nat) (e : Ending) (w' : World) : Prop := if b.length ≤ 5 then RetRI w b e w' else e = .returned (.tuple #[.slice none 0 0, .int .i64 3]) ∧ Keeps w w'
set_option maxRecDepth 20000 in
set_option maxHeartbeats 4000000 in
theorem lawIntermediateAxioms (v : Value) (n : Nat) (w : World) (hv : Bts w v n) (hN : LaidS 1 names9 w) (hA : LaidS 0 texts9 w) :
  Calls Tryz.prog 3 #[v] w fun e w' => e = .returned (.bool true) ∧ Keeps w w' := by
 have HBG := hid (big_any v n w hv)
 have HD := hid (fun (h : n ≤ 4096) => drawIsPosetOf_any v n w hv h)
 obtain ⟨p, c, rfl, _⟩ := hv
 have HL := hid (And.intro hN hA); clear hN hA
 by_cases hb : 4096 < n
 ·rw [decide_eq_true hb] at HBG
  clear hb HD HL
  go_enter Tryz.func3, Tryz.ntmps3
  go_wp2_with fail
  refine HBG.out.mono ?_; rintro e w' ⟨rfl, rfl⟩
  go_wp2_with fail
  go_ret
  exact ⟨rfl, Keeps.refl _⟩
 rw [decide_eq_false hb] at HBG
 have HD1 := hid (HD.out (by omega)); clear HD hb
 go_enter Tryz.func3, Tryz.ntmps3
 go_wp2_with fail
 refine HBG.out.mono ?_; rintro e w' ⟨rfl, rfl⟩
 go_wp2_with fail
 refine HD1.out.mono ?_; rintro e w1 ⟨n1, v1, a, s, rfl, hv1, hl1, hn1, hs1, k1⟩
 have hz1 : Ints w1 v1 a := hv1.ints (by omega)
 have hN1 := HL.out.1.keeps k1
 have hA1 := HL.out.2.keeps k1
 have HI := hid (fun wz (kz : Keeps w1 wz) => implIsPosetOf n1 a s v1 wz (hz1.keeps kz) (hN1.keeps kz))
 have HSP := hid (fun wz (kz : Keeps w1 wz) => specIsPosetOf n1 a s v1 wz (hz1.keeps kz))
 have K1 := hid k1
 obtain ⟨p1, m1, c1, rfl⟩ := hv1.shape0
 have kB := (Keeps.refl w1).alloc (.cells #[.int .i64 n1, .slice p1 m1 c1] 26)
 obtain ⟨x0, x1⟩ := BoxF.made w1 n1 (.slice p1 m1 c1) 26
 have HR : Hid (poR n1 a s = if isPos n1 a = true then (if 0 ≤ findS names9 s then ofK (a.map Int.toNat) (findS names9 s).toNat else false) else false) := hid rfl
 have HC : Hid (poC n1 a s = if isPos n1 a = true then (if 0 ≤ findS names9 s then 0 else 4) else 1) := hid rfl
 clear HL hv1
 by_cases hc : isPos n1 a = true ∧ 0 ≤ findS names9 s
 case neg =>
  obtain ⟨c0, hc0, he⟩ : ∃ c0 : Int, c0 ≠ 0 ∧ poR n1 a s = false ∧ poC n1 a s = c0 := by
   rw [HR.out, HC.out]
   by_cases h1 : isPos n1 a = true
   ·have h2 : ¬ 0 ≤ findS names9 s := fun h => hc ⟨h1, h⟩
    exact ⟨4, by omega, by rw [if_pos h1, if_neg h2], by rw [if_pos h1, if_neg h2]⟩
   ·exact ⟨1, by omega, by rw [if_neg h1], by rw [if_neg h1]⟩
  rw [he.1, he.2] at HI HSP
  clear he HR HC hN1 hA1 hz1 k1 hc
  go_wp2_with fail
  refine (HI.out _ kB).mono ?_; rintro e w2 ⟨rfl, k2'⟩
  have k2 := kB.trans k2'
  replace x0 := k2'.cell x0
  replace x1 := k2'.cell x1
  clear k2' kB
  go_wp2_with fail
  refine (HSP.out _ k2).mono ?_; rintro e w3 ⟨rfl, k3⟩
  go_wp2_with fail
  go_ret
  exact ⟨rfl, (K1.out.trans k2).trans k3⟩
 obtain ⟨hp0, hk0⟩ := hc
 obtain ⟨b, rfl, rfl, hp⟩ := pos_of hp0
 obtain ⟨k, hk, hf⟩ : ∃ k : Nat, k < 9 ∧ findS names9 s = (k : Int) := by
  rcases find9 s with h | ⟨k, hk, h⟩
  ·omega
  ·exact ⟨k, hk, h⟩
 have hR0 : poR b.length (zs b) s = ofK b k := by rw [HR.out, if_pos hp0, if_pos hk0, hf, zs_toNat]; rfl
 have hC0 : poC b.length (zs b) s = 0 := by rw [HC.out, if_pos hp0, if_pos hk0]
 rw [hR0, hC0] at HI HSP
 have HAX := hid (fun wz (kz : Keeps w1 wz) => implIntermediateAxiom_any s wz (hN1.keeps kz) (hA1.keeps kz))
 rw [hf, axL_at k hk, axE_at k hk] at HAX
 obtain ⟨hfm, hpl⟩ := forms9_good ⟨k, hk⟩
 have hwf := forms9_wf k hk
 have hfl := (forms9_ok k hk).2.2
 have HV := hid (fun wz (kz : Keeps w1 wz) vz (hz : Nds wz vz (forms9.getD k .fls).enc) => implIsPosetValid_any b hp (forms9.getD k .fls) hwf hfm hfl hpl (.slice p1 m1 c1) vz wz (hz1.keeps kz) hz)
 rw [ax_valid hp hk] at HV
 have HX : Hid (∀ wz (_ : Keeps w1 wz), Calls Tryz.prog 10 #[.agg #[.int .i64 b.length, .slice p1 m1 c1]] wz (RetRX wz b)) := hid (fun wz kz => by
  unfold RetRX
  by_cases h5 : b.length ≤ 5
  ·simp only [if_pos h5]
   exact rooted_any b hp h5 _ wz (hz1.keeps kz)
  ·simp only [if_neg h5]
   exact rooted_big b hp (by omega) _ wz (hz1.keeps kz))
 have HIM := hid (fun (h5 : b.length ≤ 5) => img_law hp h5 hk)
 have HPQ := hid (fun (h5 : b.length ≤ 5) q (hq : q ∈ imgU b (upL b)) => img_ok hp h5 hq)
 have HPO := hid (fun (q : List Nat) (hP : Pos q) vz wz (kz : Keeps w1 wz) (hz : Ints wz vz (zs q)) => show Calls Tryz.prog 6 #[.agg #[.int .i64 q.length, vz], .string s] wz (fun e w' => e = .returned (.tuple #[.bool (ofK q k), .int .i64 0]) ∧ Keeps wz w') from by
  have h := implIsPosetOf q.length (zs q) s vz wz hz (hN1.keeps kz)
  have h1 : poR q.length (zs q) s = ofK q k := by unfold poR; rw [if_pos hP.isPos, if_pos hk0, hf, zs_toNat]; rfl
  have h2 : poC q.length (zs q) s = 0 := by unfold poC; rw [if_pos hP.isPos, if_pos hk0]
  rw [h1, h2] at h
  exact h)
 clear HR HC hR0 hC0 hfm hpl hwf hN1 hA1 hp hp0 hk0 hf hk hz1 k1
 generalize hES : (forms9.getD k .fls).enc = ES at *
 clear hES
 obtain ⟨OK, hOK⟩ : ∃ OK : List Nat → Bool, ∀ q, OK q = ofK q k := ⟨_, fun _ => rfl⟩
 simp only [← hOK] at HI HSP HV HIM HPO
 clear hOK
 generalize capB b _ = cb at *
 generalize OK b = o at *
 go_wp2_with fail
 refine (HI.out _ kB).mono ?_; rintro e w2 ⟨rfl, k2'⟩
 have k2 := kB.trans k2'
 replace x0 := k2'.cell x0
 replace x1 := k2'.cell x1
 clear k2' kB
 go_wp2_with fail
 refine (HSP.out _ k2).mono ?_; rintro e w3 ⟨rfl, k3⟩
 have K3 := hid (k2.trans k3)
 replace x0 := k3.cell x0
 replace x1 := k3.cell x1
 clear k2 k3 HI HSP
 go_wp2_with fail
 refine (HAX.out _ K3.out).mono ?_; rintro e w4 ⟨u4, rfl, hu4, k4⟩
 have HVV := hid (HV.out w4 (K3.out.trans k4) u4 (hu4.nds (by omega)))
 replace x0 := k4.cell x0
 replace x1 := k4.cell x1
 have K4 := hid (K3.out.trans k4)
 have hu5 := hu4.nds (by omega)
 obtain ⟨p4, m4, c4, rfl⟩ := hu5.shape
 clear hu4 hu5 k4 K3 HAX HV
 obtain ⟨x, y, hxy, hVV⟩ : ∃ (x : Bool) (y : Int), (y = 0 ∧ x = o ∨ y = 3 ∧ x = false) ∧ Calls Tryz.prog 9 #[.agg #[.int .i64 b.length, .slice p1 m1 c1], .slice p4 m4 c4] w4 fun e w' => e = .returned (.tuple #[.bool x, .int .i64 y]) ∧ Keeps w4 w' := by
  cases cb
  ·exact ⟨false, 3, .inr ⟨rfl, rfl⟩, HVV.out⟩
  ·exact ⟨o, 0, .inl ⟨rfl, rfl⟩, by have h := HVV.out; rw [Bool.true_and, if_pos rfl] at h; exact h⟩
 have HVW := hid hVV
 clear hVV HVV
 go_wp2_with fail
 refine HVW.out.mono ?_; rintro e w5 ⟨rfl, k5⟩
 replace x0 := k5.cell x0
 replace x1 := k5.cell x1
 have HXX := hid (HX.out _ (K4.out.trans k5))
 have K5 := hid (K4.out.trans k5)
 clear K4 k5 HVW HX
 have HIB := hid (show b.length ≤ 5 → ∀ L : List (List Nat), (∀ x, x ∈ L ↔ x ∈ imgU b (upL b)) → L.all OK = o from fun h5 L hm => by
  have h := HIM.out h5
  rw [Bool.eq_iff_iff, ← h, List.all_eq_true]
  exact forall_congr' fun q => by rw [hm])
 clear HIM
 cases o <;> rcases hxy with ⟨rfl, rfl⟩ | ⟨rfl, rfl⟩
 all_goals
  go_wp2_with fail
  refine HXX.out.mono ?_; rintro e w6 hx
  unfold RetRX at hx
  by_cases h5 : b.length ≤ 5
  ·rw [if_pos h5] at hx
   obtain ⟨v6, L, rfl, hL, hm, hln, k6⟩ := hx
   obtain ⟨p6, c6, rfl, hc6, hd6⟩ := hL.shape
   have HLP := hid hL
   have K6 := hid (K5.out.trans k6)
   have hIM := HIB.out h5
   have HQ := hid (fun i (hi : i < L.length) => HPQ.out h5 _ ((hm _).1 (List.getElem_mem hi)))
   have HAL := hid (hIM L hm)
   clear hIM hL k6 hm K5 HXX HIB HPQ h5 HBG HD1
   have HK0 : Hid (Keeps w6 w6) := hid (Keeps.refl _)
   have HT0 : Hid ((L.take 0).all OK = true) := hid rfl
   have HTL : Hid ((L.take L.length).all OK = L.all OK) := hid (by rw [List.take_length])
   have HTS := hid (fun i (hi : i < L.length) => show (L.take (i + 1)).all OK = ((L.take i).all OK && OK (L[i]'hi)) from by
    rw [List.take_succ_eq_append_getElem hi, List.all_append]
    simp)
   obtain ⟨AF, hAF⟩ : ∃ AF : Nat → Bool, ∀ i, AF i = (L.take i).all OK := ⟨_, fun _ => rfl⟩
   simp only [← hAF] at HT0 HTL HTS
   clear hAF
   have HEND := hid (HTL.out.trans HAL.out)
   clear HTL HAL
   go_wp2_with fail
   go_loopw [15, 16] (fun s15 s16 wr => ∃ i : Nat, i ≤ L.length ∧ s16 = .int .i64 i ∧ s15 = .bool (AF i) ∧ Keeps w6 wr) (fun _ s16 _ => L.length - (intOf s16).toNat)
   case atStart => exact ⟨0, by omega, rfl, by rw [HT0.out], HK0.out⟩
   case round =>
    obtain ⟨i, hi, rfl, rfl, kw⟩ := hrel
    by_cases hlt : i < L.length
    ·have hlt' : (i : Int) < L.length := by omega
     obtain ⟨b9, o9, u9, e9, cf0, cf1, hu9⟩ := (HLP.out.keeps kw).get i hlt
     subst e9
     have hq9 := HQ.out i hlt
     have HTS1 := hid (HTS.out i hlt)
     have HPI := hid (HPO.out L[i] hq9.1 u9 wr (K6.out.trans kw) (hu9.ints (by rw [zs_length]; have := hq9.2.1; omega)))
     clear hq9
     generalize L[i] = q at *
     generalize OK q = y at *
     generalize AF i = x9 at *
     clear hu9
     cases x9 <;> cases y
     all_goals
      go_wp2_with fail
      refine HPI.out.mono ?_; rintro e w9 ⟨rfl, k9⟩
      go_wp2_with fail
      go_roundw
      case rel => exact ⟨i + 1, by omega, by go_num, by rw [HTS1.out]; rfl, kw.trans k9⟩
      case measure => simp [intOf]; omega
    ·obtain rfl : i = L.length := by omega
     have hlt' : ¬ ((L.length : Nat) : Int) < (L.length : Nat) := by omega
     have he := HEND.out
     generalize AF L.length = x9 at *
     subst he
     go_wp2_with fail
     go_ret
     exact ⟨rfl, K1.out.trans (K6.out.trans kw)⟩
  ·rw [if_neg h5] at hx
   obtain ⟨rfl, k6⟩ := hx
   have K6 := hid (K5.out.trans k6)
   clear k6 h5 HIB HPQ HPO
   go_wp2_with fail
   go_ret
   exact ⟨rfl, K1.out.trans K6.out⟩
end Go.Proofs.YtfmmajgkjkmghaaGreatDoor
