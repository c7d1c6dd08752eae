/- The decider: tries. -/
import Derived.Test.YtajjlnonmaghlaaGreatGVU
namespace Go.Proofs.YtajjlnonmaghlaaGreat
open Go.RowKit
set_option maxRecDepth 20000 in
set_option maxHeartbeats 1000000 in
theorem tries_any (n : Nat) (ih : ProvesOk n) (G : List Fm) (c : Fm) (hG : OkL G) (hc : OkF c) (hn : wts G + wt c ≤ n) (hl : wts G + wt c ≤ 50000000) (hF : Final G) (hf : (∃ p, c = Fm.var p ∧ Fm.var p ∉ G) ∨ c = Fm.fls ∨ (∃ d e, c = Fm.or d e))
    (p : Option Addr) (k q : Nat) (s : ByteArray) (vc : Value) (d m : Nat) (w : World) (hv : Left w (.slice p k q) G) (hs : bts s = c.body) (hvc : Nds w vc c.enc) (hd : Dec w d m) :
    Calls Tryz.prog 171 #[.pointer (some ⟨d, 0, none⟩), .agg #[.slice p k q, .string s], vc] w (Says w d m (sqB G c)) := by
  obtain ⟨bc, oc, nc, cc, rfl, g0, g1, g2, g3, gk, _⟩ := hvc.root
  have kA := ((Keeps.refl w).alloc (.cells #[.pointer (some ⟨d, 0, none⟩)] 89)).alloc (.cells #[.slice p k q, .string s] 118)
  have hb : S3 ((w.alloc (.cells #[.pointer (some ⟨d, 0, none⟩)] 89)).alloc (.cells #[.slice p k q, .string s] 118)) w.heap.size (w.heap.size + 1) d (.slice p k q) s :=
    ⟨by rw [World.cell?_alloc_lt (h := by simp)]; simp, by simp, by simp⟩
  obtain ⟨ss, hss, htx⟩ := hv
  have hgk := kA.cell gk
  have H2 := hid (fun w0 (tw : Turns m w w0) (hd0 : Dec w0 d m) (hb0 : S3 w0 w.heap.size (w.heap.size + 1) d (.slice p k q) s) =>
    containsFuncSI (fun w1 => Turns m w0 w1 ∧ Dec w1 d m) (prT G (triesF G c)) 188 #[.pointer (some ⟨w.heap.size, 0, none⟩), .pointer (some ⟨w.heap.size + 1, 0, none⟩)] ss (.slice p k q) w0
      (fun w1 h => hss.turns (tw.trans h.1)) ⟨Turns.refl _ _, hd0⟩ enters_tries_2 (fun x w1 hx h => by
        obtain ⟨t, ht, e⟩ := txts_mem htx x hx
        rw [prT_eq hG _ ht e]
        refine (tries_2_any n ih G c t hG hc ht hn hl p k q s x d m _ _ w1 ⟨ss, hss.turns (tw.trans h.1), htx⟩ e hs h.2 (hb0.turns h.1)).mono ?_
        rintro e w2 ⟨rfl, ht, hd2⟩
        exact ⟨rfl, h.1.trans ht, hd2⟩))
  rw [show (ss.any (prT G (triesF G c))) = G.any (triesF G c) from any_prT hG _ htx] at H2
  have HPT := hid (partTexts_any c hc.1 (by have := len_le_wt c; omega) _ _ (hvc.keeps kA))
  have H1 := hid (fun (x y : Fm) (e : c = Fm.or x y) w0 (kw : Keeps w w0) (u : Value) (tt : List ByteArray) (hu : Strs w0 u tt) (htt : Txts tt [x, y]) (hb0 : S3 w0 w.heap.size (w.heap.size + 1) d (.slice p k q) s) => by
    have hoc : OkL [x, y] := okL_two (OkF.or (e ▸ hc)).1 (OkF.or (e ▸ hc)).2
    have hwt := wt_or x y
    rw [← e] at hwt
    have h3 := containsFuncSI (fun w1 => Turns m w0 w1 ∧ Dec w1 d m) (prT [x, y] (sqB G)) 187 #[.pointer (some ⟨w.heap.size, 0, none⟩), .pointer (some ⟨w.heap.size + 1, 0, none⟩)] tt u w0
      (fun w1 h => hu.turns h.1) ⟨Turns.refl _ _, hd.keeps kw⟩ enters_tries_1 (fun z w1 hz h => by
        obtain ⟨t, ht, e2⟩ := txts_mem htt z hz
        rw [prT_eq hoc _ ht e2]
        have hwt2 : wt t < wt c := by
          rcases List.mem_cons.1 ht with rfl | ht
          · omega
          · rw [List.mem_singleton.1 ht]; omega
        refine (tries_1_any n ih G t hG (hoc t ht) (by omega) (by omega) p k q s z d m _ _ w1 ⟨ss, hss.turns ((Turns.ofKeeps kw).trans h.1), htx⟩ e2 h.2 (hb0.turns h.1)).mono ?_
        rintro e w2 ⟨rfl, ht, hd2⟩
        exact ⟨rfl, h.1.trans ht, hd2⟩)
    rw [any_prT hoc _ htt] at h3
    exact h3)
  have hno := hid (tries_no hF hf)
  have hlaw := hid (tries_law hF hf)
  have HDk := hid hd
  clear hss htx hd hvc hF hs
  cases c with
  | var i =>
    have hno2 := hid (hno.out (fun _ _ h => by cases h))
    rw [hno2.out] at H2
    replace gk := kA.cell (show w.cell? ⟨bc, oc, none⟩ = some (.int .i64 0) from gk)
    clear hgk
    go_enter Tryz.func171, Tryz.ntmps171
    go_wp2_with fail
    refine (H2.out _ (Turns.ofKeeps kA) (HDk.out.keeps kA) hb).mono ?_; rintro e w2 ⟨rfl, ht, hd2⟩
    go_wp2_with fail
    go_ret
    exact ⟨rfl, (Turns.ofKeeps kA).trans ht, hd2⟩
  | fls =>
    have hno2 := hid (hno.out (fun _ _ h => by cases h))
    rw [hno2.out] at H2
    replace gk := kA.cell (show w.cell? ⟨bc, oc, none⟩ = some (.int .i64 1) from gk)
    clear hgk
    go_enter Tryz.func171, Tryz.ntmps171
    go_wp2_with fail
    refine (H2.out _ (Turns.ofKeeps kA) (HDk.out.keeps kA) hb).mono ?_; rintro e w2 ⟨rfl, ht, hd2⟩
    go_wp2_with fail
    go_ret
    exact ⟨rfl, (Turns.ofKeeps kA).trans ht, hd2⟩
  | or x y =>
    replace gk := kA.cell (show w.cell? ⟨bc, oc, none⟩ = some (.int .i64 3) from gk)
    clear hgk
    cases hr : (sqB G x || sqB G y) with
    | true =>
      have hsq : sqB G (Fm.or x y) = true := by
        rw [sqB_iff, hlaw.out]
        rw [Bool.or_eq_true, sqB_iff, sqB_iff] at hr
        exact .inl ⟨x, y, rfl, hr⟩
      rw [hsq]
      have hany : [x, y].any (sqB G) = true := by simpa using hr
      have HA := hid hany; clear hany hr hsq H2
      go_enter Tryz.func171, Tryz.ntmps171
      go_wp2_with fail
      refine HPT.out.mono ?_; rintro e w2 ⟨u, tt, rfl, hu, htt, k2⟩
      have hu2 := hu.strs (by rw [htt.length]; simp [partsL])
      obtain ⟨pu, cu, rfl, _⟩ := hu2.at
      have hb2 := hb.keeps k2
      go_wp2_with fail
      refine (H1.out x y rfl w2 (kA.trans k2) _ tt hu2 htt hb2).mono ?_; rintro e w3 ⟨rfl, ht, hd3⟩
      rw [HA.out]
      go_wp2_with fail
      go_ret
      exact ⟨rfl, (Turns.ofKeeps (kA.trans k2)).trans ht, hd3⟩
    | false =>
      have hr2 : sqB G x = false ∧ sqB G y = false := by simpa using hr
      have hno2 := hid (hno.out (fun d' e' h => by cases h; exact hr2))
      rw [hno2.out] at H2
      have hany : [x, y].any (sqB G) = false := by simpa using hr
      have HA := hid hany; clear hany hr hr2
      go_enter Tryz.func171, Tryz.ntmps171
      go_wp2_with fail
      refine HPT.out.mono ?_; rintro e w2 ⟨u, tt, rfl, hu, htt, k2⟩
      have hu2 := hu.strs (by rw [htt.length]; simp [partsL])
      obtain ⟨pu, cu, rfl, _⟩ := hu2.at
      have hb2 := hb.keeps k2
      go_wp2_with fail
      refine (H1.out x y rfl w2 (kA.trans k2) _ tt hu2 htt hb2).mono ?_; rintro e w3 ⟨rfl, ht, hd3⟩
      rw [HA.out]
      have hb3 := hb2.turns ht
      obtain ⟨e1, e2, e3⟩ := hb3
      have tw3 := (Turns.ofKeeps (kA.trans k2)).trans ht
      go_wp2_with fail
      refine (H2.out w3 tw3 hd3 ⟨e1, e2, e3⟩).mono ?_; rintro e w4 ⟨rfl, ht4, hd4⟩
      go_wp2_with fail
      go_ret
      exact ⟨rfl, tw3.trans ht4, hd4⟩
  | and x y => rcases hf with ⟨_, h, _⟩ | h | ⟨_, _, h⟩ <;> cases h
  | imp x y => rcases hf with ⟨_, h, _⟩ | h | ⟨_, _, h⟩ <;> cases h
  | box x => rcases hf with ⟨_, h, _⟩ | h | ⟨_, _, h⟩ <;> cases h
  | dia x => rcases hf with ⟨_, h, _⟩ | h | ⟨_, _, h⟩ <;> cases h
end Go.Proofs.YtajjlnonmaghlaaGreat
/- The decider: decide, where the right side is a conjunction or an implication, or all is known. -/
namespace Go.Proofs.YtajjlnonmaghlaaGreat
open Go.RowKit
theorem bts_F : bts ⟨#[70]⟩ = Fm.fls.body := rfl
theorem okF_fls : OkF Fm.fls := ⟨trivial, rfl⟩
open Classical in
theorem containsL_any (G : List Fm) (hG : OkL G) (x : ByteArray) (t : Fm) (hx : bts x = t.body) (ht : OkF t) (v : Value) (w : World) (hv : Left w v G) :
    Calls Tryz.prog 164 #[v, .string x] w fun e w' => e = .returned (.bool (decide (t ∈ G))) ∧ w = w' := by
  obtain ⟨ss, h1, h2⟩ := hv
  exact containsF_any ss G h2 (fun a ha => (hG a ha).1) x t hx ht.1 v w h1
set_option maxRecDepth 20000 in
set_option maxHeartbeats 1000000 in
theorem decide_quick (G : List Fm) (c : Fm) (hG : OkL G) (hc : OkF c) (h : c ∈ G ∨ Fm.fls ∈ G) (p : Option Addr) (k q : Nat) (s : ByteArray) (d m : Nat) (w : World) (hv : Left w (.slice p k q) G) (hs : bts s = c.body) (hd : Dec w d m) :
    Calls Tryz.prog 147 #[.pointer (some ⟨d, 0, none⟩), .agg #[.slice p k q, .string s]] w (Says w d m (sqB G c)) := by
  have kA := (Keeps.refl w).alloc (.cells #[.slice p k q, .string s] 118)
  have H1 := containsL_any G hG s c hs hc _ _ (hv.keeps kA)
  have H2 := containsL_any G hG ⟨#[70]⟩ Fm.fls bts_F okF_fls _ _ (hv.keeps kA)
  by_cases h1 : c ∈ G
  · rw [decide_eq_true h1] at H1
    rw [sqB_true (sq_mem h1)]
    replace H1 := hid H1
    clear hv H2 h
    go_enter Tryz.func147, Tryz.ntmps147
    go_wp2_with fail
    refine H1.out.mono ?_; rintro e w2 ⟨rfl, rfl⟩
    go_wp2_with fail
    go_ret
    exact ⟨rfl, Turns.ofKeeps kA, hd.keeps kA⟩
  · have h2 : Fm.fls ∈ G := h.resolve_left h1
    rw [decide_eq_false h1] at H1
    rw [decide_eq_true h2] at H2
    rw [sqB_true (sq_fls h2)]
    replace H1 := hid H1
    replace H2 := hid H2
    clear hv h
    go_enter Tryz.func147, Tryz.ntmps147
    go_wp2_with fail
    refine H1.out.mono ?_; rintro e w2 ⟨rfl, rfl⟩
    go_wp2_with fail
    refine H2.out.mono ?_; rintro e w2 ⟨rfl, rfl⟩
    go_wp2_with fail
    go_ret
    exact ⟨rfl, Turns.ofKeeps kA, hd.keeps kA⟩
set_option maxRecDepth 20000 in
set_option maxHeartbeats 2000000 in
theorem decide_and (n : Nat) (ih : ProvesOk n) (G : List Fm) (x y : Fm) (hG : OkL G) (hc : OkF (Fm.and x y)) (hn : wts G + wt (Fm.and x y) ≤ n) (hl : wts G + wt (Fm.and x y) ≤ 50000000) (h1 : ¬ Fm.and x y ∈ G) (h2 : ¬ Fm.fls ∈ G)
    (p : Option Addr) (k q : Nat) (s : ByteArray) (d m : Nat) (w : World) (hv : Left w (.slice p k q) G) (hs : bts s = (Fm.and x y).body) (hd : Dec w d m) :
    Calls Tryz.prog 147 #[.pointer (some ⟨d, 0, none⟩), .agg #[.slice p k q, .string s]] w (Says w d m (sqB G (Fm.and x y))) := by
  have kA := (Keeps.refl w).alloc (.cells #[.slice p k q, .string s] 118)
  have H1 := containsL_any G hG s _ hs hc _ _ (hv.keeps kA)
  have H2 := containsL_any G hG ⟨#[70]⟩ Fm.fls bts_F okF_fls _ _ (hv.keeps kA)
  rw [decide_eq_false h1] at H1
  rw [decide_eq_false h2] at H2
  replace H1 := hid H1
  replace H2 := hid H2
  have pa : (w.alloc (.cells #[.slice p k q, .string s] 118)).cell? ⟨w.heap.size, 0, none⟩ = some (.slice p k q) := by simp
  have pb' : (w.alloc (.cells #[.slice p k q, .string s] 118)).cell? ⟨w.heap.size, 1, none⟩ = some (.string s) := by simp
  obtain ⟨hox, hoy⟩ := OkF.and hc
  have hlen := len_le_wt (Fm.and x y)
  have hww := wt_and x y
  have hsz : s.size ≤ 2147483648 := by
    have := body_len (Fm.and x y)
    rw [← bts_len, hs]; omega
  have hlenT : (Fm.and x y).enc.length ≤ 2147483648 := by omega
  have HT := hid (treeOf_any _ hc.1 s (w.alloc (.cells #[.slice p k q, .string s] 118)) hs hsz (by omega))
  have HPT := hid (fun vt w2 (hvt : Nds w2 vt (Fm.and x y).enc) => partTexts_any (Fm.and x y) hc.1 (by omega) vt w2 hvt)
  have hgs : ∀ g ∈ [(G, x), (G, y)], OkL g.1 ∧ OkF g.2 ∧ wts g.1 + wt g.2 < n ∧ wts g.1 + wt g.2 ≤ 50000000 := by
    intro g hg
    rcases List.mem_cons.1 hg with rfl | hg
    · exact ⟨hG, hox, by simp only; omega, by simp only; omega⟩
    · rw [List.mem_singleton.1 hg]; exact ⟨hG, hoy, by simp only; omega, by simp only; omega⟩
  have hans : (!([(G, x), (G, y)].any fun g => !sqB g.1 g.2)) = sqB G (Fm.and x y) := by
    rw [sqB_congr (H := G) (d := Fm.and x y) Iff.rfl, Bool.eq_iff_iff, sqB_iff, sq_and]
    simp [sqB_iff]
  have HA := hid (fun v w2 (hg : GoalL w2 v [(G, x), (G, y)]) (hd2 : Dec w2 d m) => all_any n ih _ hgs v d m w2 hg hd2)
  rw [hans] at HA
  have HV := hid hv
  have HD := hid hd
  clear hv hd h1 h2 hgs hans hww hlen hsz hn hl hs
  go_enter Tryz.func147, Tryz.ntmps147
  go_wp2_with fail
  refine H1.out.mono ?_; rintro e w2 ⟨rfl, rfl⟩
  go_wp2_with fail
  refine H2.out.mono ?_; rintro e w2 ⟨rfl, rfl⟩
  go_wp2_with fail
  refine HT.out.mono ?_; rintro e w2 ⟨vt, rfl, hvt, k2⟩
  have hnt : Nds w2 vt (Fm.and x y).enc := hvt.nds hlenT
  obtain ⟨bt, ot, nt, ct, rfl, g0, g1, g2, g3, hk, _⟩ := hnt.root
  replace hk : w2.cell? ⟨bt, ot, none⟩ = some (.int .i64 2) := hk
  have HNT := hid hnt; clear hnt hvt
  go_wp2_with fail
  refine (HPT.out _ w2 HNT.out).mono ?_; rintro e w3 ⟨u, ss, rfl, hss, htx, k3⟩
  have hln : ss.length = 2 := by rw [htx.length]; rfl
  have hst := hss.strs (by omega)
  obtain ⟨p2, c2, rfl, hcap, hcm, _, _⟩ := hst.at
  obtain ⟨b2, o2, rfl, hc1⟩ := hst.get 0 (by omega)
  obtain ⟨b3, o3, e, hc2⟩ := hst.get 1 (by omega)
  cases e
  have hs1 : bts ss[0] = x.body := htx.get 0 (by omega) (by simp [partsL])
  have hs2 : bts ss[1] = y.body := htx.get 1 (by omega) (by simp [partsL])
  unfold maxLen at hcm
  rw [hln] at hcap ⊢
  rw [Nat.add_zero] at hc1
  generalize ss[0] = s1 at *
  generalize ss[1] = s2 at *
  clear hst hss htx
  replace hk := k3.cell hk
  have q3 := And.intro (cells_keeps (k2.trans k3) (And.intro pa pb')) (And.intro hc1 hc2)
  have kw := kA.trans (k2.trans k3)
  have qd := hid (cells4_keeps ((Keeps.refl w3).drew) q3)
  clear q3
  go_wp2_with fail
  go_region_held3 (fun w' => (w'.cell? ⟨w.heap.size, 0, none⟩ = some (.slice p k q) ∧ w'.cell? ⟨w.heap.size, 1, none⟩ = some (.string s)) ∧ (w'.cell? ⟨b2, o2, none⟩ = some (.string s1) ∧ w'.cell? ⟨b2, o2 + 1, none⟩ = some (.string s2))) (first | exact qd.out | exact q4 | exact q5 | exact cells4_alloc _ q5 | exact q6) (first
    | (go_at_call 168; first
        | ((with_reducible refine (proving_any p k q s s1 w3.drew).mono ?_); rintro e w4 ⟨rfl, k4⟩; have q4 := cells4_keeps k4 qd.out)
        | ((with_reducible refine (proving_any p k q s s2 w4).mono ?_); rintro e w5 ⟨rfl, k5⟩; have q5 := cells4_keeps k5 q4; have kw5 := (kw.drew.trans k4).trans k5))
    | (go_at_call 167; refine (HA.out _ _ (GoalL.lit2 (HV.out.keeps kw5) hs1 (HV.out.keeps kw5) hs2) (HD.out.keeps (kw5.alloc _))).mono ?_; rintro e w6 ⟨rfl, ht, hd6⟩; have q6 := cells4_turns ht (cells4_alloc _ q5)))
  all_goals
    go_wp2
    go_ret
    exact ⟨rfl, (Turns.ofKeeps (kw5.alloc _)).trans ht, hd6⟩
end Go.Proofs.YtajjlnonmaghlaaGreat
/- The decider: decide, where the right side is an implication. -/
namespace Go.Proofs.YtajjlnonmaghlaaGreat
open Go.RowKit
set_option maxRecDepth 20000 in
set_option maxHeartbeats 2000000 in
theorem decide_imp (n : Nat) (ih : ProvesOk n) (G : List Fm) (x y : Fm) (hG : OkL G) (hc : OkF (Fm.imp x y)) (hn : wts G + wt (Fm.imp x y) ≤ n) (hl : wts G + wt (Fm.imp x y) ≤ 50000000) (h1 : ¬ Fm.imp x y ∈ G) (h2 : ¬ Fm.fls ∈ G)
    (p : Option Addr) (k q : Nat) (s : ByteArray) (d m : Nat) (w : World) (hv : Left w (.slice p k q) G) (hs : bts s = (Fm.imp x y).body) (hd : Dec w d m) :
    Calls Tryz.prog 147 #[.pointer (some ⟨d, 0, none⟩), .agg #[.slice p k q, .string s]] w (Says w d m (sqB G (Fm.imp x y))) := by
  have kA := (Keeps.refl w).alloc (.cells #[.slice p k q, .string s] 118)
  have H1 := containsL_any G hG s _ hs hc _ _ (hv.keeps kA)
  have H2 := containsL_any G hG ⟨#[70]⟩ Fm.fls bts_F okF_fls _ _ (hv.keeps kA)
  rw [decide_eq_false h1] at H1
  rw [decide_eq_false h2] at H2
  replace H1 := hid H1
  replace H2 := hid H2
  have pa : (w.alloc (.cells #[.slice p k q, .string s] 118)).cell? ⟨w.heap.size, 0, none⟩ = some (.slice p k q) := by simp
  have pb' : (w.alloc (.cells #[.slice p k q, .string s] 118)).cell? ⟨w.heap.size, 1, none⟩ = some (.string s) := by simp
  obtain ⟨hox, hoy⟩ := OkF.imp hc
  have hlen := len_le_wt (Fm.imp x y)
  have hww := wt_imp x y
  have hsz : s.size ≤ 2147483648 := by
    have := body_len (Fm.imp x y)
    rw [← bts_len, hs]; omega
  have hlenT : (Fm.imp x y).enc.length ≤ 2147483648 := by omega
  have HT := hid (treeOf_any _ hc.1 s (w.alloc (.cells #[.slice p k q, .string s] 118)) hs hsz (by omega))
  have HPT := hid (fun vt w2 (hvt : Nds w2 vt (Fm.imp x y).enc) => partTexts_any (Fm.imp x y) hc.1 (by omega) vt w2 hvt)
  have hwx : wts [x] ≤ 50000000 := by simp only [wts]; omega
  have HW := hid (fun u w2 (kw : Keeps w w2) (hu : Left w2 u [x]) => with_any G [x] p k q s u w2 (hv.keeps kw) hu hG (okL_one hox) (by simp only [wts]; omega))
  have HP := hid (fun R (hR : ∀ a, a ∈ R ↔ a ∈ G ∨ a ∈ [x]) (hw : wts R ≤ wts G + wts [x]) => by
    have hRok : OkL R := fun a ha => ((hR a).1 ha).elim (hG a) (fun h => okL_one hox a h)
    have h3 : wts R + wt y < wts G + wt (Fm.imp x y) := by simp only [wts] at hw; omega
    have h4 := ih R y hRok hoy (by omega) (by omega)
    rw [show sqB R y = sqB G (Fm.imp x y) from sqB_congr (sq_impR (fun a => (hR a).trans (by simp [or_comm]))).symm] at h4
    exact h4)
  have HV := hid hv
  have HD := hid hd
  clear hv hd h1 h2 hww hlen hsz hn hl hs
  go_enter Tryz.func147, Tryz.ntmps147
  go_wp2_with fail
  refine H1.out.mono ?_; rintro e w2 ⟨rfl, rfl⟩
  go_wp2_with fail
  refine H2.out.mono ?_; rintro e w2 ⟨rfl, rfl⟩
  go_wp2_with fail
  refine HT.out.mono ?_; rintro e w2 ⟨vt, rfl, hvt, k2⟩
  have hnt : Nds w2 vt (Fm.imp x y).enc := hvt.nds hlenT
  obtain ⟨bt, ot, nt, ct, rfl, g0, g1, g2, g3, hk, _⟩ := hnt.root
  replace hk : w2.cell? ⟨bt, ot, none⟩ = some (.int .i64 4) := hk
  have HNT := hid hnt; clear hnt hvt
  go_wp2_with fail
  refine (HPT.out _ w2 HNT.out).mono ?_; rintro e w3 ⟨u, ss, rfl, hss, htx, k3⟩
  have hln : ss.length = 2 := by rw [htx.length]; rfl
  have hst := hss.strs (by omega)
  obtain ⟨p2, c2, rfl, hcap, hcm, _, _⟩ := hst.at
  obtain ⟨b2, o2, rfl, hc1⟩ := hst.get 0 (by omega)
  obtain ⟨b3, o3, e, hc2⟩ := hst.get 1 (by omega)
  cases e
  have hs1 : bts ss[0] = x.body := htx.get 0 (by omega) (by simp [partsL])
  have hs2 : bts ss[1] = y.body := htx.get 1 (by omega) (by simp [partsL])
  unfold maxLen at hcm
  rw [hln] at hcap ⊢
  rw [Nat.add_zero] at hc1
  generalize ss[0] = s1 at *
  generalize ss[1] = s2 at *
  clear hst hss htx
  replace hk := k3.cell hk
  have q3 := And.intro (cells_keeps (k2.trans k3) (And.intro pa pb')) (And.intro hc1 hc2)
  have kw := kA.trans (k2.trans k3)
  have qd := hid (cells4_keeps ((Keeps.refl w3).drew) q3)
  go_wp2_with fail
  have L1A := hid ((Left.lit1 w3 hs1).keeps ((Keeps.refl _).drew))
  have qg := hid (fun o => cells4_keeps ((Keeps.refl (w3.alloc o)).drew) (cells4_alloc o q3))
  clear q3
  go_region_held3 (fun w' => (w'.cell? ⟨w.heap.size, 0, none⟩ = some (.slice p k q) ∧ w'.cell? ⟨w.heap.size, 1, none⟩ = some (.string s)) ∧ (w'.cell? ⟨b2, o2, none⟩ = some (.string s1) ∧ w'.cell? ⟨b2, o2 + 1, none⟩ = some (.string s2))) (first | exact qd.out | exact qg.out _ | exact q4 | exact q5 | exact cells4_alloc _ q5 | exact q6) (first
    | (go_at_call 169; refine (HW.out _ _ (kw.alloc _).drew L1A.out).mono ?_; rintro e w4 ⟨p4, n4, c4, R, rfl, hR, hmem, hwR, k4⟩; have q4 := cells4_keeps k4 (qg.out _); have kw4 := (kw.alloc (.cells #[.string s1] 9)).drew.trans k4)
    | (go_at_call 168; refine (proving_any p4 n4 c4 s s2 w4).mono ?_; rintro e w5 ⟨rfl, k5⟩; have q5 := cells4_keeps k5 q4; have kw5 := kw4.trans k5)
    | (go_at_call 125; refine (HP.out R hmem hwR p4 n4 c4 s2 d m w5 (hR.keeps k5) hs2 (HD.out.keeps kw5)).mono ?_; rintro e w6 ⟨rfl, ht, hd6⟩; have q6 := cells4_turns ht q5))
  all_goals
    go_wp2
    go_ret
    exact ⟨rfl, (Turns.ofKeeps kw5).trans ht, hd6⟩
end Go.Proofs.YtajjlnonmaghlaaGreat
