import Derived.Test.YtfmmajgkjkmghaaGreatEVU
import Derived.Test.YtfmmajgkjkmghaaGreatEVE
import Derived.Carry
import Derived.Test.YtfmmajgkjkmghaaGreatEP6
/- The decider: tries. -/
namespace Go.Proofs.YtfmmajgkjkmghaaGreat
open Go.RowKit
set_option maxRecDepth 20000 in
set_option maxHeartbeats 1000000 in
theorem tries_any (n : Nat) (ih : ProvesOk n) (G : List Fm) (c : Fm) (hG : OkL G) (hc : OkF c) (hn : wts G + wt c ≤ n) (hl : wts G + wt c ≤ 50000000) (hF : Final G) (hf : (∃ p, c = Fm.var p ∧ Fm.var p ∉ G) ∨ c = Fm.fls ∨ (∃ d e, c = Fm.or d e))
  (p : Option Addr) (k q : Nat) (s : ByteArray) (vc : Value) (d m : Nat) (w : World) (hv : Left w (.slice p k q) G) (hs : bts s = c.body) (hvc : Nds w vc c.enc) (hd : Dec w d m) :
  Calls Tryz.prog 224 #[.pointer (some ⟨d, 0, none⟩), .agg #[.slice p k q, .string s], vc] w (Says w d m (sqB G c)) := by
 obtain ⟨bc, oc, nc, cc, rfl, g0, g1, g2, g3, gk, _⟩ := hvc.root
 have kA := ((Keeps.refl w).alloc (.cells #[.pointer (some ⟨d, 0, none⟩)] 121)).alloc (.cells #[.slice p k q, .string s] 144)
 have hb : S3 ((w.alloc (.cells #[.pointer (some ⟨d, 0, none⟩)] 121)).alloc (.cells #[.slice p k q, .string s] 144)) w.heap.size (w.heap.size + 1) d (.slice p k q) s :=
  ⟨by rw [World.cell?_alloc_lt (h := by simp)]; simp, by simp, by simp⟩
 obtain ⟨ss, hss, htx⟩ := hv
 have hgk := kA.cell gk
 have H2 := hid (fun w0 (tw : Turns m w w0) (hd0 : Dec w0 d m) (hb0 : S3 w0 w.heap.size (w.heap.size + 1) d (.slice p k q) s) =>
  containsFuncSI (fun w1 => Turns m w0 w1 ∧ Dec w1 d m) (prT G (triesF G c)) 238 #[.pointer (some ⟨w.heap.size, 0, none⟩), .pointer (some ⟨w.heap.size + 1, 0, none⟩)] ss (.slice p k q) w0
   (fun w1 h => hss.turns (tw.trans h.1)) ⟨Turns.refl _ _, hd0⟩ enters_tries_2 (fun x w1 hx h => by
    obtain ⟨t, ht, e⟩ := txts_mem htx x hx
    rw [prT_eq hG _ ht e]
    refine (tries_2_any n ih G c t hG hc ht hn hl p k q s x d m _ _ w1 ⟨ss, hss.turns (tw.trans h.1), htx⟩ e hs h.2 (hb0.turns h.1)).mono ?_
    rintro e w2 ⟨rfl, ht, hd2⟩
    exact ⟨rfl, h.1.trans ht, hd2⟩))
 rw [show (ss.any (prT G (triesF G c))) = G.any (triesF G c) from any_prT hG _ htx] at H2
 have HPT := hid (partTexts_any c hc.1 (by have := len_le_wt c; omega) _ _ (hvc.keeps kA))
 have H1 := hid (fun (x y : Fm) (e : c = Fm.or x y) w0 (kw : Keeps w w0) (u : Value) (tt : List ByteArray) (hu : Strs w0 u tt) (htt : Txts tt [x, y]) (hb0 : S3 w0 w.heap.size (w.heap.size + 1) d (.slice p k q) s) => by
  have hoc : OkL [x, y] := okL_two (OkF.or (e ▸ hc)).1 (OkF.or (e ▸ hc)).2
  have hwt := wt_or x y
  rw [← e] at hwt
  have h3 := containsFuncSI (fun w1 => Turns m w0 w1 ∧ Dec w1 d m) (prT [x, y] (sqB G)) 237 #[.pointer (some ⟨w.heap.size, 0, none⟩), .pointer (some ⟨w.heap.size + 1, 0, none⟩)] tt u w0
   (fun w1 h => hu.turns h.1) ⟨Turns.refl _ _, hd.keeps kw⟩ enters_tries_1 (fun z w1 hz h => by
    obtain ⟨t, ht, e2⟩ := txts_mem htt z hz
    rw [prT_eq hoc _ ht e2]
    have hwt2 : wt t < wt c := by
     rcases List.mem_cons.1 ht with rfl | ht
     ·omega
     ·rw [List.mem_singleton.1 ht]; omega
    refine (tries_1_any n ih G t hG (hoc t ht) (by omega) (by omega) p k q s z d m _ _ w1 ⟨ss, hss.turns ((Turns.ofKeeps kw).trans h.1), htx⟩ e2 h.2 (hb0.turns h.1)).mono ?_
    rintro e w2 ⟨rfl, ht, hd2⟩
    exact ⟨rfl, h.1.trans ht, hd2⟩)
  rw [any_prT hoc _ htt] at h3
  exact h3)
 have hno := hid (tries_no hF hf)
 have hlaw := hid (tries_law hF hf)
 have HDk := hid hd
 clear hss htx hd hvc hF hs
 cases c with
 | var i =>
  have hno2 := hid (hno.out (fun _ _ h => by cases h))
  rw [hno2.out] at H2
  replace gk := kA.cell (show w.cell? ⟨bc, oc, none⟩ = some (.int .i64 0) from gk)
  clear hgk
  go_enter Tryz.func224, Tryz.ntmps224
  go_wp2_with fail
  refine (H2.out _ (Turns.ofKeeps kA) (HDk.out.keeps kA) hb).mono ?_; rintro e w2 ⟨rfl, ht, hd2⟩
  go_wp2_with fail
  go_ret
  exact ⟨rfl, (Turns.ofKeeps kA).trans ht, hd2⟩
 | fls =>
  have hno2 := hid (hno.out (fun _ _ h => by cases h))
  rw [hno2.out] at H2
  replace gk := kA.cell (show w.cell? ⟨bc, oc, none⟩ = some (.int .i64 1) from gk)
  clear hgk
  go_enter Tryz.func224, Tryz.ntmps224
  go_wp2_with fail
  refine (H2.out _ (Turns.ofKeeps kA) (HDk.out.keeps kA) hb).mono ?_; rintro e w2 ⟨rfl, ht, hd2⟩
  go_wp2_with fail
  go_ret
  exact ⟨rfl, (Turns.ofKeeps kA).trans ht, hd2⟩
 | or x y =>
  replace gk := kA.cell (show w.cell? ⟨bc, oc, none⟩ = some (.int .i64 3) from gk)
  clear hgk
  cases hr : (sqB G x || sqB G y) with
  | true =>
   have hsq : sqB G (Fm.or x y) = true := by
    rw [sqB_iff, hlaw.out]
    rw [Bool.or_eq_true, sqB_iff, sqB_iff] at hr
    exact .inl ⟨x, y, rfl, hr⟩
   rw [hsq]
   have hany : [x, y].any (sqB G) = true := by simpa using hr
   have HA := hid hany; clear hany hr hsq H2
   go_enter Tryz.func224, Tryz.ntmps224
   go_wp2_with fail
   refine HPT.out.mono ?_; rintro e w2 ⟨u, tt, rfl, hu, htt, k2⟩
   have hu2 := hu.strs (by rw [htt.length]; simp [partsL])
   obtain ⟨pu, cu, rfl, _⟩ := hu2.at
   have hb2 := hb.keeps k2
   go_wp2_with fail
   refine (H1.out x y rfl w2 (kA.trans k2) _ tt hu2 htt hb2).mono ?_; rintro e w3 ⟨rfl, ht, hd3⟩
   rw [HA.out]
   go_wp2_with fail
   go_ret
   exact ⟨rfl, (Turns.ofKeeps (kA.trans k2)).trans ht, hd3⟩
  | false =>
   have hr2 : sqB G x = false ∧ sqB G y = false := by simpa using hr
   have hno2 := hid (hno.out (fun d' e' h => by cases h; exact hr2))
   rw [hno2.out] at H2
   have hany : [x, y].any (sqB G) = false := by simpa using hr
   have HA := hid hany; clear hany hr hr2
   go_enter Tryz.func224, Tryz.ntmps224
   go_wp2_with fail
   refine HPT.out.mono ?_; rintro e w2 ⟨u, tt, rfl, hu, htt, k2⟩
   have hu2 := hu.strs (by rw [htt.length]; simp [partsL])
   obtain ⟨pu, cu, rfl, _⟩ := hu2.at
   have hb2 := hb.keeps k2
   go_wp2_with fail
   refine (H1.out x y rfl w2 (kA.trans k2) _ tt hu2 htt hb2).mono ?_; rintro e w3 ⟨rfl, ht, hd3⟩
   rw [HA.out]
   have hb3 := hb2.turns ht
   obtain ⟨e1, e2, e3⟩ := hb3
   have tw3 := (Turns.ofKeeps (kA.trans k2)).trans ht
   go_wp2_with fail
   refine (H2.out w3 tw3 hd3 ⟨e1, e2, e3⟩).mono ?_; rintro e w4 ⟨rfl, ht4, hd4⟩
   go_wp2_with fail
   go_ret
   exact ⟨rfl, tw3.trans ht4, hd4⟩
 | and x y => rcases hf with ⟨_, h, _⟩ | h | ⟨_, _, h⟩ <;> cases h
 | imp x y => rcases hf with ⟨_, h, _⟩ | h | ⟨_, _, h⟩ <;> cases h
 | box x => rcases hf with ⟨_, h, _⟩ | h | ⟨_, _, h⟩ <;> cases h
 | dia x => rcases hf with ⟨_, h, _⟩ | h | ⟨_, _, h⟩ <;> cases h
end Go.Proofs.YtfmmajgkjkmghaaGreat
namespace Go.Proofs.YtfmmajgkjkmghaaGreat
open Go.RowKit
theorem bts_F : bts ⟨#[70]⟩ = Fm.fls.body := rfl
theorem okF_fls : OkF Fm.fls := ⟨trivial, rfl⟩
open scoped Classical in
theorem containsL_any (G : List Fm) (hG : OkL G) (x : ByteArray) (t : Fm) (hx : bts x = t.body) (ht : OkF t) (v : Value) (w : World) (hv : Left w v G) :
  Calls Tryz.prog 217 #[v, .string x] w fun e w' => e = .returned (.bool (decide (t ∈ G))) ∧ w = w' := by
 obtain ⟨ss, h1, h2⟩ := hv
 exact containsF_any ss G h2 (fun a ha => (hG a ha).1) x t hx ht.1 v w h1
set_option maxRecDepth 20000 in
set_option maxHeartbeats 1000000 in
theorem decide_quick (G : List Fm) (c : Fm) (hG : OkL G) (hc : OkF c) (h : c ∈ G ∨ Fm.fls ∈ G) (p : Option Addr) (k q : Nat) (s : ByteArray) (d m : Nat) (w : World) (hv : Left w (.slice p k q) G) (hs : bts s = c.body) (hd : Dec w d m) :
  Calls Tryz.prog 208 #[.pointer (some ⟨d, 0, none⟩), .agg #[.slice p k q, .string s]] w (Says w d m (sqB G c)) := by
 have kA := (Keeps.refl w).alloc (.cells #[.slice p k q, .string s] 144)
 have H1 := containsL_any G hG s c hs hc _ _ (hv.keeps kA)
 have H2 := containsL_any G hG ⟨#[70]⟩ Fm.fls bts_F okF_fls _ _ (hv.keeps kA)
 by_cases h1 : c ∈ G
 ·rw [decide_eq_true h1] at H1
  rw [sqB_true (sq_mem h1)]
  replace H1 := hid H1
  clear hv H2 h
  go_enter Tryz.func208, Tryz.ntmps208
  go_wp2_with fail
  refine H1.out.mono ?_; rintro e w2 ⟨rfl, rfl⟩
  go_wp2_with fail
  go_ret
  exact ⟨rfl, Turns.ofKeeps kA, hd.keeps kA⟩
 ·have h2 : Fm.fls ∈ G := h.resolve_left h1
  rw [decide_eq_false h1] at H1
  rw [decide_eq_true h2] at H2
  rw [sqB_true (sq_fls h2)]
  replace H1 := hid H1
  replace H2 := hid H2
  clear hv h
  go_enter Tryz.func208, Tryz.ntmps208
  go_wp2_with fail
  refine H1.out.mono ?_; rintro e w2 ⟨rfl, rfl⟩
  go_wp2_with fail
  refine H2.out.mono ?_; rintro e w2 ⟨rfl, rfl⟩
  go_wp2_with fail
  go_ret
  exact ⟨rfl, Turns.ofKeeps kA, hd.keeps kA⟩
set_option maxRecDepth 20000 in
set_option maxHeartbeats 2000000 in
theorem decide_and (n : Nat) (ih : ProvesOk n) (G : List Fm) (x y : Fm) (hG : OkL G) (hc : OkF (Fm.and x y)) (hn : wts G + wt (Fm.and x y) ≤ n) (hl : wts G + wt (Fm.and x y) ≤ 50000000) (h1 : ¬ Fm.and x y ∈ G) (h2 : ¬ Fm.fls ∈ G)
  (p : Option Addr) (k q : Nat) (s : ByteArray) (d m : Nat) (w : World) (hv : Left w (.slice p k q) G) (hs : bts s = (Fm.and x y).body) (hd : Dec w d m) :
  Calls Tryz.prog 208 #[.pointer (some ⟨d, 0, none⟩), .agg #[.slice p k q, .string s]] w (Says w d m (sqB G (Fm.and x y))) := by
 have kA := (Keeps.refl w).alloc (.cells #[.slice p k q, .string s] 144)
 have H1 := containsL_any G hG s _ hs hc _ _ (hv.keeps kA)
 have H2 := containsL_any G hG ⟨#[70]⟩ Fm.fls bts_F okF_fls _ _ (hv.keeps kA)
 rw [decide_eq_false h1] at H1
 rw [decide_eq_false h2] at H2
 replace H1 := hid H1
 replace H2 := hid H2
 have pa : (w.alloc (.cells #[.slice p k q, .string s] 144)).cell? ⟨w.heap.size, 0, none⟩ = some (.slice p k q) := by simp
 have pb' : (w.alloc (.cells #[.slice p k q, .string s] 144)).cell? ⟨w.heap.size, 1, none⟩ = some (.string s) := by simp
 obtain ⟨hox, hoy⟩ := OkF.and hc
 have hlen := len_le_wt (Fm.and x y)
 have hww := wt_and x y
 have hsz : s.size ≤ 2147483648 := by
  have := body_len (Fm.and x y)
  rw [← bts_len, hs]; omega
 have hlenT : (Fm.and x y).enc.length ≤ 2147483648 := by omega
 have HT := hid (treeOf_any _ hc.1 s (w.alloc (.cells #[.slice p k q, .string s] 144)) hs hsz (by omega))
 have HPT := hid (fun vt w2 (hvt : Nds w2 vt (Fm.and x y).enc) => partTexts_any (Fm.and x y) hc.1 (by omega) vt w2 hvt)
 have hgs : ∀ g ∈ [(G, x), (G, y)], OkL g.1 ∧ OkF g.2 ∧ wts g.1 + wt g.2 < n ∧ wts g.1 + wt g.2 ≤ 50000000 := by
  intro g hg
  rcases List.mem_cons.1 hg with rfl | hg
  ·exact ⟨hG, hox, by simp only; omega, by simp only; omega⟩
  ·rw [List.mem_singleton.1 hg]; exact ⟨hG, hoy, by simp only; omega, by simp only; omega⟩
 have hans : (!([(G, x), (G, y)].any fun g => !sqB g.1 g.2)) = sqB G (Fm.and x y) := by
  rw [sqB_congr (H := G) (d := Fm.and x y) Iff.rfl, Bool.eq_iff_iff, sqB_iff, sq_and]
  simp [sqB_iff]
 have HA := hid (fun v w2 (hg : GoalL w2 v [(G, x), (G, y)]) (hd2 : Dec w2 d m) => all_any n ih _ hgs v d m w2 hg hd2)
 rw [hans] at HA
 have HV := hid hv
 have HD := hid hd
 clear hv hd h1 h2 hgs hans hww hlen hsz hn hl hs
 go_enter Tryz.func208, Tryz.ntmps208
 go_wp2_with fail
 refine H1.out.mono ?_; rintro e w2 ⟨rfl, rfl⟩
 go_wp2_with fail
 refine H2.out.mono ?_; rintro e w2 ⟨rfl, rfl⟩
 go_wp2_with fail
 refine HT.out.mono ?_; rintro e w2 ⟨vt, rfl, hvt, k2⟩
 have hnt : Nds w2 vt (Fm.and x y).enc := hvt.nds hlenT
 obtain ⟨bt, ot, nt, ct, rfl, g0, g1, g2, g3, hk, _⟩ := hnt.root
 replace hk : w2.cell? ⟨bt, ot, none⟩ = some (.int .i64 2) := hk
 have HNT := hid hnt; clear hnt hvt
 go_wp2_with fail
 refine (HPT.out _ w2 HNT.out).mono ?_; rintro e w3 ⟨u, ss, rfl, hss, htx, k3⟩
 have hln : ss.length = 2 := by rw [htx.length]; rfl
 have hst := hss.strs (by omega)
 obtain ⟨p2, c2, rfl, hcap, hcm, _, _⟩ := hst.at
 obtain ⟨b2, o2, rfl, hc1⟩ := hst.get 0 (by omega)
 obtain ⟨b3, o3, e, hc2⟩ := hst.get 1 (by omega)
 cases e
 have hs1 : bts ss[0] = x.body := htx.get 0 (by omega) (by simp [partsL])
 have hs2 : bts ss[1] = y.body := htx.get 1 (by omega) (by simp [partsL])
 unfold maxLen at hcm
 rw [hln] at hcap ⊢
 rw [Nat.add_zero] at hc1
 generalize ss[0] = s1 at *
 generalize ss[1] = s2 at *
 clear hst hss htx
 replace hk := k3.cell hk
 have q3 := And.intro (cells_keeps (k2.trans k3) (And.intro pa pb')) (And.intro hc1 hc2)
 have kw := kA.trans (k2.trans k3)
 have qd := hid (cells4_keeps ((Keeps.refl w3).drew) q3)
 clear q3
 go_wp2_with fail
 go_region_held3 (fun w' => (w'.cell? ⟨w.heap.size, 0, none⟩ = some (.slice p k q) ∧ w'.cell? ⟨w.heap.size, 1, none⟩ = some (.string s)) ∧ (w'.cell? ⟨b2, o2, none⟩ = some (.string s1) ∧ w'.cell? ⟨b2, o2 + 1, none⟩ = some (.string s2))) (first | exact qd.out | exact q4 | exact q5 | exact cells4_alloc _ q5 | exact q6) (first
  | (go_at_call 221; first
    | ((with_reducible refine (proving_any p k q s s1 w3.drew).mono ?_); rintro e w4 ⟨rfl, k4⟩; have q4 := cells4_keeps k4 qd.out)
    | ((with_reducible refine (proving_any p k q s s2 w4).mono ?_); rintro e w5 ⟨rfl, k5⟩; have q5 := cells4_keeps k5 q4; have kw5 := (kw.drew.trans k4).trans k5))
  | (go_at_call 220; refine (HA.out _ _ (GoalL.lit2 (HV.out.keeps kw5) hs1 (HV.out.keeps kw5) hs2) (HD.out.keeps (kw5.alloc _))).mono ?_; rintro e w6 ⟨rfl, ht, hd6⟩; have q6 := cells4_turns ht (cells4_alloc _ q5)))
 all_goals
  go_wp2
  go_ret
  exact ⟨rfl, (Turns.ofKeeps (kw5.alloc _)).trans ht, hd6⟩
end Go.Proofs.YtfmmajgkjkmghaaGreat
namespace Go.Proofs.YtfmmajgkjkmghaaGreat
open Go.RowKit
set_option maxRecDepth 20000 in
set_option maxHeartbeats 2000000 in
theorem decide_imp (n : Nat) (ih : ProvesOk n) (G : List Fm) (x y : Fm) (hG : OkL G) (hc : OkF (Fm.imp x y)) (hn : wts G + wt (Fm.imp x y) ≤ n) (hl : wts G + wt (Fm.imp x y) ≤ 50000000) (h1 : ¬ Fm.imp x y ∈ G) (h2 : ¬ Fm.fls ∈ G)
  (p : Option Addr) (k q : Nat) (s : ByteArray) (d m : Nat) (w : World) (hv : Left w (.slice p k q) G) (hs : bts s = (Fm.imp x y).body) (hd : Dec w d m) :
  Calls Tryz.prog 208 #[.pointer (some ⟨d, 0, none⟩), .agg #[.slice p k q, .string s]] w (Says w d m (sqB G (Fm.imp x y))) := by
 have kA := (Keeps.refl w).alloc (.cells #[.slice p k q, .string s] 144)
 have H1 := containsL_any G hG s _ hs hc _ _ (hv.keeps kA)
 have H2 := containsL_any G hG ⟨#[70]⟩ Fm.fls bts_F okF_fls _ _ (hv.keeps kA)
 rw [decide_eq_false h1] at H1
 rw [decide_eq_false h2] at H2
 replace H1 := hid H1
 replace H2 := hid H2
 have pa : (w.alloc (.cells #[.slice p k q, .string s] 144)).cell? ⟨w.heap.size, 0, none⟩ = some (.slice p k q) := by simp
 have pb' : (w.alloc (.cells #[.slice p k q, .string s] 144)).cell? ⟨w.heap.size, 1, none⟩ = some (.string s) := by simp
 obtain ⟨hox, hoy⟩ := OkF.imp hc
 have hlen := len_le_wt (Fm.imp x y)
 have hww := wt_imp x y
 have hsz : s.size ≤ 2147483648 := by
  have := body_len (Fm.imp x y)
  rw [← bts_len, hs]; omega
 have hlenT : (Fm.imp x y).enc.length ≤ 2147483648 := by omega
 have HT := hid (treeOf_any _ hc.1 s (w.alloc (.cells #[.slice p k q, .string s] 144)) hs hsz (by omega))
 have HPT := hid (fun vt w2 (hvt : Nds w2 vt (Fm.imp x y).enc) => partTexts_any (Fm.imp x y) hc.1 (by omega) vt w2 hvt)
 have hwx : wts [x] ≤ 50000000 := by simp only [wts]; omega
 have HW := hid (fun u w2 (kw : Keeps w w2) (hu : Left w2 u [x]) => with_any G [x] p k q s u w2 (hv.keeps kw) hu hG (okL_one hox) (by simp only [wts]; omega))
 have HP := hid (fun R (hR : ∀ a, a ∈ R ↔ a ∈ G ∨ a ∈ [x]) (hw : wts R ≤ wts G + wts [x]) => by
  have hRok : OkL R := fun a ha => ((hR a).1 ha).elim (hG a) (fun h => okL_one hox a h)
  have h3 : wts R + wt y < wts G + wt (Fm.imp x y) := by simp only [wts] at hw; omega
  have h4 := ih R y hRok hoy (by omega) (by omega)
  rw [show sqB R y = sqB G (Fm.imp x y) from sqB_congr (sq_impR (fun a => (hR a).trans (by simp [or_comm]))).symm] at h4
  exact h4)
 have HV := hid hv
 have HD := hid hd
 clear hv hd h1 h2 hww hlen hsz hn hl hs
 go_enter Tryz.func208, Tryz.ntmps208
 go_wp2_with fail
 refine H1.out.mono ?_; rintro e w2 ⟨rfl, rfl⟩
 go_wp2_with fail
 refine H2.out.mono ?_; rintro e w2 ⟨rfl, rfl⟩
 go_wp2_with fail
 refine HT.out.mono ?_; rintro e w2 ⟨vt, rfl, hvt, k2⟩
 have hnt : Nds w2 vt (Fm.imp x y).enc := hvt.nds hlenT
 obtain ⟨bt, ot, nt, ct, rfl, g0, g1, g2, g3, hk, _⟩ := hnt.root
 replace hk : w2.cell? ⟨bt, ot, none⟩ = some (.int .i64 4) := hk
 have HNT := hid hnt; clear hnt hvt
 go_wp2_with fail
 refine (HPT.out _ w2 HNT.out).mono ?_; rintro e w3 ⟨u, ss, rfl, hss, htx, k3⟩
 have hln : ss.length = 2 := by rw [htx.length]; rfl
 have hst := hss.strs (by omega)
 obtain ⟨p2, c2, rfl, hcap, hcm, _, _⟩ := hst.at
 obtain ⟨b2, o2, rfl, hc1⟩ := hst.get 0 (by omega)
 obtain ⟨b3, o3, e, hc2⟩ := hst.get 1 (by omega)
 cases e
 have hs1 : bts ss[0] = x.body := htx.get 0 (by omega) (by simp [partsL])
 have hs2 : bts ss[1] = y.body := htx.get 1 (by omega) (by simp [partsL])
 unfold maxLen at hcm
 rw [hln] at hcap ⊢
 rw [Nat.add_zero] at hc1
 generalize ss[0] = s1 at *
 generalize ss[1] = s2 at *
 clear hst hss htx
 replace hk := k3.cell hk
 have q3 := And.intro (cells_keeps (k2.trans k3) (And.intro pa pb')) (And.intro hc1 hc2)
 have kw := kA.trans (k2.trans k3)
 have qd := hid (cells4_keeps ((Keeps.refl w3).drew) q3)
 go_wp2_with fail
 have L1A := hid ((Left.lit1 w3 hs1).keeps ((Keeps.refl _).drew))
 have qg := hid (fun o => cells4_keeps ((Keeps.refl (w3.alloc o)).drew) (cells4_alloc o q3))
 clear q3
 go_region_held3 (fun w' => (w'.cell? ⟨w.heap.size, 0, none⟩ = some (.slice p k q) ∧ w'.cell? ⟨w.heap.size, 1, none⟩ = some (.string s)) ∧ (w'.cell? ⟨b2, o2, none⟩ = some (.string s1) ∧ w'.cell? ⟨b2, o2 + 1, none⟩ = some (.string s2))) (first | exact qd.out | exact qg.out _ | exact q4 | exact q5 | exact cells4_alloc _ q5 | exact q6) (first
  | (go_at_call 222; refine (HW.out _ _ (kw.alloc _).drew L1A.out).mono ?_; rintro e w4 ⟨p4, n4, c4, R, rfl, hR, hmem, hwR, k4⟩; have q4 := cells4_keeps k4 (qg.out _); have kw4 := (kw.alloc (.cells #[.string s1] 9)).drew.trans k4)
  | (go_at_call 221; refine (proving_any p4 n4 c4 s s2 w4).mono ?_; rintro e w5 ⟨rfl, k5⟩; have q5 := cells4_keeps k5 q4; have kw5 := kw4.trans k5)
  | (go_at_call 188; refine (HP.out R hmem hwR p4 n4 c4 s2 d m w5 (hR.keeps k5) hs2 (HD.out.keeps kw5)).mono ?_; rintro e w6 ⟨rfl, ht, hd6⟩; have q6 := cells4_turns ht q5))
 all_goals
  go_wp2
  go_ret
  exact ⟨rfl, (Turns.ofKeeps kw5).trans ht, hd6⟩
end Go.Proofs.YtfmmajgkjkmghaaGreat
namespace Go.Proofs.YtfmmajgkjkmghaaGreat
open Go.RowKit
theorem final_left4 {G : List Fm} (hf : Fm.fls ∉ G) (h : ∀ t ∈ G, Left4 G t) : Final G := by
 refine ⟨hf, fun a ha => ?_⟩
 rcases h a ha with rfl | h | h | h
 ·exact absurd ha hf
 ·exact .inl h
 ·exact .inr (.inl h)
 ·exact .inr (.inr (.inr h))
set_option maxRecDepth 20000 in
set_option maxHeartbeats 2000000 in
theorem decide_rest (n : Nat) (ih : ProvesOk n) (G : List Fm) (c : Fm) (hG : OkL G) (hc : OkF c) (hn : wts G + wt c ≤ n) (hl : wts G + wt c ≤ 50000000) (h1 : ¬ c ∈ G) (h2 : ¬ Fm.fls ∈ G)
  (hf : (∃ p, c = Fm.var p ∧ Fm.var p ∉ G) ∨ c = Fm.fls ∨ (∃ d e, c = Fm.or d e)) (K : Int) (hK : c.kind = K) (hK2 : (K == 2) = false) (hK4 : (K == 4) = false)
  (p : Option Addr) (k q : Nat) (s : ByteArray) (d m : Nat) (w : World) (hv : Left w (.slice p k q) G) (hs : bts s = c.body) (hd : Dec w d m) :
  Calls Tryz.prog 208 #[.pointer (some ⟨d, 0, none⟩), .agg #[.slice p k q, .string s]] w (Says w d m (sqB G c)) := by
 have kA := (Keeps.refl w).alloc (.cells #[.slice p k q, .string s] 144)
 have H1 := containsL_any G hG s _ hs hc _ _ (hv.keeps kA)
 have H2 := containsL_any G hG ⟨#[70]⟩ Fm.fls bts_F okF_fls _ _ (hv.keeps kA)
 rw [decide_eq_false h1] at H1
 rw [decide_eq_false h2] at H2
 replace H1 := hid H1
 replace H2 := hid H2
 have pa : (w.alloc (.cells #[.slice p k q, .string s] 144)).cell? ⟨w.heap.size, 0, none⟩ = some (.slice p k q) := by simp
 have pb' : (w.alloc (.cells #[.slice p k q, .string s] 144)).cell? ⟨w.heap.size, 1, none⟩ = some (.string s) := by simp
 have hlen := len_le_wt c
 have hsz : s.size ≤ 2147483648 := by
  have := body_len c
  rw [← bts_len, hs]; omega
 have hlenT : c.enc.length ≤ 2147483648 := by omega
 have HT := hid (treeOf_any _ hc.1 s (w.alloc (.cells #[.slice p k q, .string s] 144)) hs hsz (by omega))
 have HPT := hid (fun vt w2 (hvt : Nds w2 vt c.enc) => partTexts_any c hc.1 (by omega) vt w2 hvt)
 have HTr := hid (fun (hF : Final G) vc w2 (kw : Keeps w w2) (hvc : Nds w2 vc c.enc) => tries_any n ih G c hG hc hn hl hF hf p k q s vc d m w2 (hv.keeps kw) hs hvc (hd.keeps kw))
 have HAll := hid (fun gs (hp : Prem G c gs) v w2 (kw : Keeps w w2) (hg : GoalL w2 v gs) => by
  have h3 := all_any n ih gs (fun g hg => ⟨(hp.1 g hg).1, (hp.1 g hg).2.1, by have := (hp.1 g hg).2.2; omega, by have := (hp.1 g hg).2.2; omega⟩) v d m w2 hg (hd.keeps kw)
  rw [hp.all] at h3
  exact h3)
 have HTk := hid (fun t (hm : t ∈ G) x (hx : bts x = t.body) va w2 (kw : Keeps w w2) (hva : Nds w2 va t.enc) => taken_any G c t x s hx hs hm hG hc hl p k q va w2 (hv.keeps kw) hva)
 have HTo := hid (fun t (hm : t ∈ G) x (hx : bts x = t.body) w2 => treeOf_any t (hG t hm).1 x w2 hx (by have := body_len t; have := len_le_wt t; have := wts_mem hm; rw [← bts_len, hx]; omega) (by have := len_le_wt t; have := wts_mem hm; omega))
 have hlG := hid (fun t (hm : t ∈ G) => (show t.enc.length ≤ 2147483648 by have := len_le_wt t; have := wts_mem hm; omega))
 have hfin := hid (fun h => final_left4 (G := G) h2 h)
 have HKc := hid hK
 obtain ⟨ss, hss, htx⟩ := hv
 obtain ⟨b0, off0, hpk, hkl, hkq, hqm⟩ : ∃ b off : Nat, True ∧ k = ss.length ∧ k ≤ q ∧ q ≤ maxLen := by
  obtain ⟨p', c', e, g1, g2, _⟩ := hss.at
  cases e
  exact ⟨0, 0, trivial, rfl, g1, g2⟩
 unfold maxLen at hqm
 have hkb : k ≤ 50000000 := by have := len_le_wts G; have := htx.length; omega
 have HSS := hid hss
 have HTX := hid htx
 have HLn := hid (hkl.trans htx.length)
 have HKL := hid hkl
 clear hkl hss htx hd h1 h2 hlen hsz hn hl hs hK hf hpk b0 off0
 go_enter Tryz.func208, Tryz.ntmps208
 go_wp2_with fail
 refine H1.out.mono ?_; rintro e w2 ⟨rfl, rfl⟩
 go_wp2_with fail
 refine H2.out.mono ?_; rintro e w2 ⟨rfl, rfl⟩
 go_wp2_with fail
 refine HT.out.mono ?_; rintro e w2 ⟨vt, rfl, hvt, k2⟩
 have hnt : Nds w2 vt c.enc := hvt.nds hlenT
 obtain ⟨bt, ot, nt, ct, rfl, g0, g1, g2, g3, hk, _⟩ := hnt.root
 rw [HKc.out] at hk
 have HNT := hid hnt; clear hnt hvt
 go_wp2_with fail
 refine (HPT.out _ w2 HNT.out).mono ?_; rintro e w3 ⟨u, us, rfl, hus, hutx, k3⟩
 obtain ⟨pu, cu, rfl, _⟩ := At.of_own hus
 clear hus hutx
 replace hk := k3.cell hk
 have kw := kA.trans (k2.trans k3)
 obtain ⟨q1, q2⟩ := cells_keeps (k2.trans k3) (And.intro pa pb')
 have HNT3 := hid (HNT.out.keeps k3)
 clear pa pb'
 go_wp2_with fail
 go_loopw [62] (fun iv wr => ∃ j : Nat, j ≤ k ∧ iv = .int .i64 j ∧ Keeps w3 wr ∧ Hid (∀ i (h : i < G.length), i < j → Left4 G G[i])) (fun iv _ => k - (intOf iv).toNat)
 case atStart => exact ⟨0, by omega, rfl, Keeps.refl _, hid (fun i h hi => by omega)⟩
 case round =>
  obtain ⟨j, hj, rfl, kr, hleft⟩ := hrel
  have kwr := kw.trans kr
  by_cases hlt : j < k
  ·have hlt' : (j : Int) < k := by omega
   have hjs : j < ss.length := by have := HKL.out; omega
   have hjG : j < G.length := by have := HLn.out; omega
   obtain ⟨b, off, rfl, hcj⟩ := (HSS.out.keeps kwr).get j hjs
   have hx := hid (HTX.out.get j hjs hjG)
   generalize ss[j] = x at *
   have hm := hid (List.getElem_mem hjG)
   replace q1 := kr.cell q1
   replace q2 := kr.cell q2
   have qd : wr.drew.cell? ⟨w.heap.size, 0, none⟩ = some (.slice (some ⟨b, off, none⟩) k q) ∧ wr.drew.cell? ⟨w.heap.size, 1, none⟩ = some (.string s) := ⟨q1, q2⟩
   go_wp2_with fail
   have HTo2 := hid (HTo.out _ hm.out x hx.out wr.drew)
   have HTk2 := hid (fun va w2 (kx : Keeps w w2) (hva : Nds w2 va G[j].enc) => HTk.out _ hm.out x hx.out va w2 kx hva)
   have hlj := hid (hlG.out _ hm.out)
   go_region_held3 (fun w' => w'.cell? ⟨w.heap.size, 0, none⟩ = some (.slice (some ⟨b, off, none⟩) k q) ∧ w'.cell? ⟨w.heap.size, 1, none⟩ = some (.string s)) (first | exact qd | exact q4 | exact q5) (first
    | (go_at_call 218; refine HTo2.out.mono ?_; rintro e w4 ⟨v4, rfl, hv4, k4⟩; have hn4 := hv4.nds hlj.out; have q4 := cells_keeps k4 qd; obtain ⟨p4, n4, c4, rfl⟩ := hn4.shape)
    | (go_at_call 223; refine (HTk2.out _ w4 (kwr.drew.trans k4) hn4).mono ?_; rintro e w5 ⟨u5, ok, rfl, k5, hok, hno⟩; replace hok := hid hok; replace hno := hid hno; have q5 := cells_keeps k5 q4))
   have kw5 := (kwr.drew.trans k4).trans k5
   have kr5 := (kr.drew.trans k4).trans k5
   cases ok with
   | true =>
    obtain ⟨gs, hgl, hpr⟩ := hok.out rfl
    obtain ⟨pg, cg, rfl, _⟩ := hgl.shape
    have HG := hid (HAll.out gs hpr _ w5 kw5 hgl)
    clear hgl hpr
    go_wp2_with fail
    refine HG.out.mono ?_; rintro e w6 ⟨rfl, ht, hd6⟩
    go_wp2_with fail
    go_ret
    exact ⟨rfl, (Turns.ofKeeps kw5).trans ht, hd6⟩
   | false =>
    have hl4 := hid (hno.out rfl)
    go_wp2
    go_roundw
    case rel =>
     refine ⟨j + 1, by omega, by go_num, kr5, hid (fun i hi hij => ?_)⟩
     by_cases e : i = j
     ·subst e; exact hl4.out
     ·exact hleft.out i hi (by omega)
    case measure => simp [intOf]; omega
  ·obtain rfl : j = k := by omega
   have hlt' : ¬ ((j : Int) < j) := by omega
   have hF := hfin.out (fun t ht => by
    obtain ⟨i, hi, rfl⟩ := List.getElem_of_mem ht
    exact hleft.out i hi (by have := HLn.out; omega))
   have hT := hid (HTr.out hF _ wr kwr (HNT3.out.keeps kr))
   replace q1 := kr.cell q1
   replace q2 := kr.cell q2
   clear hF
   go_wp2_with fail
   refine hT.out.mono ?_; rintro e w5 ⟨rfl, ht, hd5⟩
   go_wp2_with fail
   go_ret
   exact ⟨rfl, (Turns.ofKeeps kwr).trans ht, hd5⟩
end Go.Proofs.YtfmmajgkjkmghaaGreat
namespace Go.Proofs.YtfmmajgkjkmghaaGreat
open Go.RowKit
theorem decide_any (n : Nat) (ih : ProvesOk n) (G : List Fm) (c : Fm) (hG : OkL G) (hc : OkF c) (hn : wts G + wt c ≤ n) (hl : wts G + wt c ≤ 50000000)
  (p : Option Addr) (k q : Nat) (s : ByteArray) (d m : Nat) (w : World) (hv : Left w (.slice p k q) G) (hs : bts s = c.body) (hd : Dec w d m) :
  Calls Tryz.prog 208 #[.pointer (some ⟨d, 0, none⟩), .agg #[.slice p k q, .string s]] w (Says w d m (sqB G c)) := by
 by_cases h1 : c ∈ G
 ·exact decide_quick G c hG hc (.inl h1) p k q s d m w hv hs hd
 by_cases h2 : Fm.fls ∈ G
 ·exact decide_quick G c hG hc (.inr h2) p k q s d m w hv hs hd
 cases c with
 | and x y => exact decide_and n ih G x y hG hc hn hl h1 h2 p k q s d m w hv hs hd
 | imp x y => exact decide_imp n ih G x y hG hc hn hl h1 h2 p k q s d m w hv hs hd
 | var i => exact decide_rest n ih G _ hG hc hn hl h1 h2 (.inl ⟨i, rfl, h1⟩) 0 rfl rfl rfl p k q s d m w hv hs hd
 | fls => exact decide_rest n ih G _ hG hc hn hl h1 h2 (.inr (.inl rfl)) 1 rfl rfl rfl p k q s d m w hv hs hd
 | or x y => exact decide_rest n ih G _ hG hc hn hl h1 h2 (.inr (.inr ⟨x, y, rfl⟩)) 3 rfl rfl rfl p k q s d m w hv hs hd
 | box x => exact absurd hc.2 (by simp [Fm.plain])
 | dia x => exact absurd hc.2 (by simp [Fm.plain])
theorem keyL_wts : ∀ G : List Fm, (keyL (G.map Fm.body)).length ≤ 5 * wts G
 | [] => by simp [keyL]
 | a :: G => by
  have h1 := keyL_wts G
  have h2 := body_len a
  have h3 := len_le_wt a
  simp only [keyL, List.map_cons, List.flatMap_cons, List.length_append, List.length_cons, List.length_nil, wts] at h1 ⊢
  omega
set_option maxRecDepth 20000 in
set_option maxHeartbeats 1000000 in
theorem proves_step (n : Nat) (ih : ProvesOk n) : ProvesOk (n + 1) := by
 intro G c hG hc hn hl p k q s d m w hv hs hd
 have kA := (Keeps.refl w).alloc (.cells #[.slice p k q, .string s] 144)
 have pa : (w.alloc (.cells #[.slice p k q, .string s] 144)).cell? ⟨w.heap.size, 0, none⟩ = some (.slice p k q) := by simp
 have pb' : (w.alloc (.cells #[.slice p k q, .string s] 144)).cell? ⟨w.heap.size, 1, none⟩ = some (.string s) := by simp
 have kB := kA.alloc (.cells #[.string s] 9)
 obtain ⟨ss, hss, htx⟩ := hv
 have hkey : (keyL (ss.map bts)).length + (keyL ([s].map bts)).length ≤ 1000000000 := by
  have h1 := keyL_wts G
  have h2 := keyL_wts [c]
  rw [show ss.map bts = G.map Fm.body from htx, show [s].map bts = [c].map Fm.body by simp [hs]]
  simp only [wts] at h2
  omega
 have hkeq : keyOf (ss.map bts) ([s].map bts) = keyF G c := by
  rw [show ss.map bts = G.map Fm.body from htx, show [s].map bts = [c.body] by simp [hs]]
  rfl
 have HK := hid (fun (v : Value) (hu : Strs ((w.alloc (.cells #[.slice p k q, .string s] 144)).alloc (.cells #[.string s] 9)) v [s]) => seqKey_any ss [s] _ v _ (hss.keeps kB) hu hkey)
 rw [hkeq] at HK
 have hlit : Strs ((w.alloc (.cells #[.slice p k q, .string s] 144)).alloc (.cells #[.string s] 9)) (.slice (some ⟨w.heap.size + 1, 0, none⟩) 1 1) [s] := by
  have := Strs.lit1 (w.alloc (.cells #[.slice p k q, .string s] 144)) s
  rwa [show (w.alloc (.cells #[.slice p k q, .string s] 144)).heap.size = w.heap.size + 1 by simp] at this
 have HLit := hid hlit
 have HDc := hid (fun w2 (kw : Keeps w w2) => decide_any n ih G c hG hc (by omega) hl p k q s d m w2 ⟨ss, hss.keeps kw, htx⟩ hs (hd.keeps kw))
 have HD := hid hd
 have HKn := hid (fun key b (h : Known key b) (e : bts key = keyF G c) => h.is hG hc e)
 have HKp := hid (fun key (e : bts key = keyF G c) => (⟨G, c, hG, hc, e, rfl⟩ : Known key (sqB G c)))
 clear hss htx hkey hkeq hd hlit hs
 go_enter Tryz.func188, Tryz.ntmps188
 go_wp2_with fail
 refine (HK.out _ HLit.out).mono ?_; rintro e w2 ⟨key, rfl, hkb, k2⟩
 have kw := kB.trans k2
 have kC := ((Keeps.refl _).alloc (.cells #[.string s] 9)).trans k2
 obtain ⟨q1, q2⟩ := cells_keeps kC (And.intro pa pb')
 obtain ⟨d1, d2⟩ := HD.out.keeps kw
 have HB := hid hkb; clear hkb
 go_wp2_with (at_lookup; refine wpList_ans_look (S := Known) (m := m) Tryz.underlying138 Tryz.underlying9 rfl _ _ rfl (Tryz.zeroValue4 _) rfl d2 key rfl ?_; intro b ok hb; replace hb := hid hb)
 ·rename_i hok
  go_ret
  exact ⟨ret_bool (HKn.out key b (hb.out hok) HB.out), Turns.ofKeeps kw, HD.out.keeps kw⟩
 ·refine (HDc.out w2 kw).mono ?_; rintro e w3 ⟨rfl, ht, hd3⟩
  obtain ⟨d3, d4⟩ := hd3
  have hbs := HKp.out key HB.out
  go_wp2_with (at_mapUpdate; refine wpList_ans_put (S := Known) (m := m) Tryz.underlying138 Tryz.underlying9 rfl _ _ _ rfl rfl d4 key rfl _ rfl hbs ?_; intro w4 ha ht4)
  go_ret
  exact ⟨rfl, ((Turns.ofKeeps kw).trans ht).trans ht4, ht4.2 _ _ d3, ha⟩
theorem proves_all : ∀ n, ProvesOk n
 | 0 => fun _ _ _ _ h => absurd h (Nat.not_lt_zero _)
 | n + 1 => proves_step n (proves_all n)
end Go.Proofs.YtfmmajgkjkmghaaGreat
namespace Go.Proofs.YtfmmajgkjkmghaaGreat
open Go.RowKit
set_option maxRecDepth 20000 in
theorem newDecider_any (w : World) : Calls Tryz.prog 151 #[] w fun e w' => ∃ d m, e = .returned (.pointer (some ⟨d, 0, none⟩)) ∧ Dec w' d m ∧ w.heap.size ≤ m ∧ Keeps w w' := by
 have hmm := @run_makeMap Tryz.prog
 go_enter Tryz.func151, Tryz.ntmps151
 go_wp2
 go_ret
 refine ⟨_, w.heap.size, rfl, ⟨?_, ?_⟩, Nat.le_refl _, ((Keeps.refl w).alloc _).alloc _⟩
 ·simp
 ·exact (Ans.made w Known).keeps ((Keeps.refl _).alloc _)
set_option maxRecDepth 20000 in
theorem dprovable_any (G : List Fm) (c : Fm) (hG : OkL G) (hc : OkF c) (hl : wts G + wt c ≤ 50000000) (s : ByteArray) (v : Value) (d m : Nat) (w : World) (hv : Left w v G) (hs : bts s = c.body) (hd : Dec w d m) :
  Calls Tryz.prog 152 #[.pointer (some ⟨d, 0, none⟩), v, .string s] w (Says w d m (sqB G c)) := by
 obtain ⟨p, n, q, rfl⟩ := hv.shape
 have HP := hid (put_fm G [] _ _ w hv (Left.nil w) hG okL_nil (by simp only [wts]; omega))
 have HR := hid (fun R (hR : ∀ a, a ∈ R ↔ a ∈ G ∨ a ∈ ([] : List Fm)) (hw : wts R ≤ wts G + wts []) => by
  have h1 : wts R + wt c ≤ 50000000 := by simp only [wts] at hw; omega
  have h2 := proves_all (wts R + wt c + 1) R c (fun a ha => hG a (by simpa using (hR a).1 ha)) hc (by omega) h1
  rw [sqB_congr (sq_same (fun a => (hR a).trans (by simp) : ∀ a, a ∈ R ↔ a ∈ G))] at h2
  exact h2)
 have HD := hid hd
 clear hv hd
 go_enter Tryz.func152, Tryz.ntmps152
 go_wp2_with fail
 refine HP.out.mono ?_; rintro e w2 ⟨v2, R, rfl, hR, hm, hwt, k2⟩
 obtain ⟨p2, n2, q2, rfl⟩ := hR.left.shape
 go_wp2_with fail
 refine (HR.out R hm hwt p2 n2 q2 s d m w2 hR.left hs (HD.out.keeps k2)).mono ?_; rintro e w3 ⟨rfl, ht, hd3⟩
 go_wp2_with fail
 go_ret
 exact ⟨rfl, (Turns.ofKeeps k2).trans ht, hd3⟩
set_option maxRecDepth 20000 in
theorem provable_any (G : List Fm) (c : Fm) (hG : OkL G) (hc : OkF c) (hl : wts G + wt c ≤ 50000000) (s : ByteArray) (v : Value) (w : World) (hv : Left w v G) (hs : bts s = c.body) :
  Calls Tryz.prog 75 #[v, .string s] w fun e w' => e = .returned (.bool (sqB G c)) ∧ Keeps w w' := by
 obtain ⟨p, n, q, rfl⟩ := hv.shape
 have HP := hid (fun d m w2 (k : Keeps w w2) (hd : Dec w2 d m) => dprovable_any G c hG hc hl s _ d m w2 (hv.keeps k) hs hd)
 clear hv
 go_enter Tryz.func75, Tryz.ntmps75
 go_wp2_with fail
 refine (newDecider_any w).mono ?_; rintro e w2 ⟨d, m, rfl, hd, hm, k2⟩
 go_wp2_with fail
 refine (HP.out d m w2 k2 hd).mono ?_; rintro e w3 ⟨rfl, ht, hd3⟩
 go_wp2_with fail
 go_ret
 exact ⟨rfl, ht.keeps hm k2⟩
set_option maxRecDepth 20000 in
theorem implies_any (a b : Fm) (ha : OkF a) (hb : OkF b) (hl : wt a + wt b ≤ 50000000) (v u : Value) (w : World) (hv : Nds w v a.enc) (hu : Nds w u b.enc) :
  Calls Tryz.prog 154 #[v, u] w fun e w' => e = .returned (.bool (sqB [a] b)) ∧ Keeps w w' := by
 obtain ⟨p1, n1, c1, rfl⟩ := hv.shape
 obtain ⟨p2, n2, c2, rfl⟩ := hu.shape
 have hla := len_le_wt a
 have hlb := len_le_wt b
 have HA := hid (text_any a ha.1 (by omega) _ w hv)
 have HB := hid (fun w2 (k : Keeps w w2) => text_any b hb.1 (by omega) _ w2 (hu.keeps k))
 have HP := hid (fun s v w2 (h : Left w2 v [a]) (hs : bts s = b.body) => provable_any [a] b (okL_one ha) hb (by simp only [wts]; omega) s v w2 h hs)
 clear hv hu
 go_enter Tryz.func154, Tryz.ntmps154
 go_wp2_with fail
 refine HA.out.mono ?_; rintro e w2 ⟨s1, rfl, hs1, k2⟩
 have hL := hid (Left.lit1 w2 hs1)
 go_wp2_with fail
 refine (HB.out _ (k2.alloc _)).mono ?_; rintro e w3 ⟨s2, rfl, hs2, k3⟩
 go_wp2_with fail
 refine (HP.out s2 _ w3 (hL.out.keeps k3) hs2).mono ?_; rintro e w4 ⟨rfl, k4⟩
 go_wp2_with fail
 go_ret
 exact ⟨rfl, ((k2.alloc _).trans k3).trans k4⟩
set_option maxRecDepth 20000 in
theorem equivalent_any (a b : Fm) (ha : OkF a) (hb : OkF b) (hl : wt a + wt b ≤ 50000000) (v u : Value) (w : World) (hv : Nds w v a.enc) (hu : Nds w u b.enc) :
  Calls Tryz.prog 78 #[v, u] w fun e w' => e = .returned (.bool (sqB [a] b && sqB [b] a)) ∧ Keeps w w' := by
 have H1 := implies_any a b ha hb hl v u w hv hu
 have H2 := fun w2 (k : Keeps w w2) => implies_any b a hb ha (by omega) u v w2 (hu.keeps k) (hv.keeps k)
 clear hv hu
 cases h1 : sqB [a] b with
 | true =>
  rw [h1] at H1
  have H1 := hid H1
  have H2 := hid H2
  go_enter Tryz.func78, Tryz.ntmps78
  go_wp2_with fail
  refine H1.out.mono ?_; rintro e w2 ⟨rfl, k2⟩
  go_wp2_with fail
  refine (H2.out w2 k2).mono ?_; rintro e w3 ⟨rfl, k3⟩
  go_wp2_with fail
  go_ret
  exact ⟨by simp, k2.trans k3⟩
 | false =>
  rw [h1] at H1
  have H1 := hid H1
  clear H2
  go_enter Tryz.func78, Tryz.ntmps78
  go_wp2_with fail
  refine H1.out.mono ?_; rintro e w2 ⟨rfl, k2⟩
  go_wp2_with fail
  go_ret
  exact ⟨by simp, k2⟩
end Go.Proofs.YtfmmajgkjkmghaaGreat
namespace Go.Proofs.YtfmmajgkjkmghaaGreat
open Go.RowKit
theorem pow20 {n : Nat} (h : n ≤ 20) : 2 ^ n ≤ 1048576 := Nat.le_trans (Nat.pow_le_pow_right (by omega) h) (by decide)
theorem OkF.not {t : Fm} (h : OkF t) : OkF t.not := OkF.mkImp h okF_fls
theorem sq_notnot (t : Fm) : Sq [t] t.not.not := by
 intro M w hw u hu h
 exact h u (M.refl u) (M.up t _ _ hu (hw t (by simp)))
end Go.Proofs.YtfmmajgkjkmghaaGreat
