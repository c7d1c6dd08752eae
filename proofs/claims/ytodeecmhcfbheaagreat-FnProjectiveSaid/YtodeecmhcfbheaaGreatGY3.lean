/- The decider: decide, where the left side has to be looked at. -/
import Derived.Test.YtodeecmhcfbheaaGreatGVZ
import Derived.Test.YtodeecmhcfbheaaGreatGVG
import Derived.Carry
namespace Go.Proofs.YtodeecmhcfbheaaGreat
open Go.RowKit
theorem final_left4 {G : List Fm} (hf : Fm.fls ∉ G) (h : ∀ t ∈ G, Left4 G t) : Final G := by
  refine ⟨hf, fun a ha => ?_⟩
  rcases h a ha with rfl | h | h | h
  · exact absurd ha hf
  · exact .inl h
  · exact .inr (.inl h)
  · exact .inr (.inr (.inr h))
set_option maxRecDepth 20000 in
set_option maxHeartbeats 2000000 in
theorem decide_rest (n : Nat) (ih : ProvesOk n) (G : List Fm) (c : Fm) (hG : OkL G) (hc : OkF c) (hn : wts G + wt c ≤ n) (hl : wts G + wt c ≤ 50000000) (h1 : ¬ c ∈ G) (h2 : ¬ Fm.fls ∈ G)
    (hf : (∃ p, c = Fm.var p ∧ Fm.var p ∉ G) ∨ c = Fm.fls ∨ (∃ d e, c = Fm.or d e)) (K : Int) (hK : c.kind = K) (hK2 : (K == 2) = false) (hK4 : (K == 4) = false)
    (p : Option Addr) (k q : Nat) (s : ByteArray) (d m : Nat) (w : World) (hv : Left w (.slice p k q) G) (hs : bts s = c.body) (hd : Dec w d m) :
    Calls Tryz.prog 234 #[.pointer (some ⟨d, 0, none⟩), .agg #[.slice p k q, .string s]] w (Says w d m (sqB G c)) := by
  have kA := (Keeps.refl w).alloc (.cells #[.slice p k q, .string s] 183)
  have H1 := containsL_any G hG s _ hs hc _ _ (hv.keeps kA)
  have H2 := containsL_any G hG ⟨#[70]⟩ Fm.fls bts_F okF_fls _ _ (hv.keeps kA)
  rw [decide_eq_false h1] at H1
  rw [decide_eq_false h2] at H2
  replace H1 := hid H1
  replace H2 := hid H2
  have pa : (w.alloc (.cells #[.slice p k q, .string s] 183)).cell? ⟨w.heap.size, 0, none⟩ = some (.slice p k q) := by simp
  have pb' : (w.alloc (.cells #[.slice p k q, .string s] 183)).cell? ⟨w.heap.size, 1, none⟩ = some (.string s) := by simp
  have hlen := len_le_wt c
  have hsz : s.size ≤ 2147483648 := by
    have := body_len c
    rw [← bts_len, hs]; omega
  have hlenT : c.enc.length ≤ 2147483648 := by omega
  have HT := hid (treeOf_any _ hc.1 s (w.alloc (.cells #[.slice p k q, .string s] 183)) hs hsz (by omega))
  have HPT := hid (fun vt w2 (hvt : Nds w2 vt c.enc) => partTexts_any c hc.1 (by omega) vt w2 hvt)
  have HTr := hid (fun (hF : Final G) vc w2 (kw : Keeps w w2) (hvc : Nds w2 vc c.enc) => tries_any n ih G c hG hc hn hl hF hf p k q s vc d m w2 (hv.keeps kw) hs hvc (hd.keeps kw))
  have HAll := hid (fun gs (hp : Prem G c gs) v w2 (kw : Keeps w w2) (hg : GoalL w2 v gs) => by
    have h3 := all_any n ih gs (fun g hg => ⟨(hp.1 g hg).1, (hp.1 g hg).2.1, by have := (hp.1 g hg).2.2; omega, by have := (hp.1 g hg).2.2; omega⟩) v d m w2 hg (hd.keeps kw)
    rw [hp.all] at h3
    exact h3)
  have HTk := hid (fun t (hm : t ∈ G) x (hx : bts x = t.body) va w2 (kw : Keeps w w2) (hva : Nds w2 va t.enc) => taken_any G c t x s hx hs hm hG hc hl p k q va w2 (hv.keeps kw) hva)
  have HTo := hid (fun t (hm : t ∈ G) x (hx : bts x = t.body) w2 => treeOf_any t (hG t hm).1 x w2 hx (by have := body_len t; have := len_le_wt t; have := wts_mem hm; rw [← bts_len, hx]; omega) (by have := len_le_wt t; have := wts_mem hm; omega))
  have hlG := hid (fun t (hm : t ∈ G) => (show t.enc.length ≤ 2147483648 by have := len_le_wt t; have := wts_mem hm; omega))
  have hfin := hid (fun h => final_left4 (G := G) h2 h)
  have HKc := hid hK
  obtain ⟨ss, hss, htx⟩ := hv
  obtain ⟨b0, off0, hpk, hkl, hkq, hqm⟩ : ∃ b off : Nat, True ∧ k = ss.length ∧ k ≤ q ∧ q ≤ maxLen := by
    obtain ⟨p', c', e, g1, g2, _⟩ := hss.at
    cases e
    exact ⟨0, 0, trivial, rfl, g1, g2⟩
  unfold maxLen at hqm
  have hkb : k ≤ 50000000 := by have := len_le_wts G; have := htx.length; omega
  have HSS := hid hss
  have HTX := hid htx
  have HLn := hid (hkl.trans htx.length)
  have HKL := hid hkl
  clear hkl hss htx hd h1 h2 hlen hsz hn hl hs hK hf hpk b0 off0
  go_enter Tryz.func234, Tryz.ntmps234
  go_wp2_with fail
  refine H1.out.mono ?_; rintro e w2 ⟨rfl, rfl⟩
  go_wp2_with fail
  refine H2.out.mono ?_; rintro e w2 ⟨rfl, rfl⟩
  go_wp2_with fail
  refine HT.out.mono ?_; rintro e w2 ⟨vt, rfl, hvt, k2⟩
  have hnt : Nds w2 vt c.enc := hvt.nds hlenT
  obtain ⟨bt, ot, nt, ct, rfl, g0, g1, g2, g3, hk, _⟩ := hnt.root
  rw [HKc.out] at hk
  have HNT := hid hnt; clear hnt hvt
  go_wp2_with fail
  refine (HPT.out _ w2 HNT.out).mono ?_; rintro e w3 ⟨u, us, rfl, hus, hutx, k3⟩
  obtain ⟨pu, cu, rfl, _⟩ := At.of_own hus
  clear hus hutx
  replace hk := k3.cell hk
  have kw := kA.trans (k2.trans k3)
  obtain ⟨q1, q2⟩ := cells_keeps (k2.trans k3) (And.intro pa pb')
  have HNT3 := hid (HNT.out.keeps k3)
  clear pa pb'
  go_wp2_with fail
  go_loopw [62] (fun iv wr => ∃ j : Nat, j ≤ k ∧ iv = .int .i64 j ∧ Keeps w3 wr ∧ Hid (∀ i (h : i < G.length), i < j → Left4 G G[i])) (fun iv _ => k - (intOf iv).toNat)
  case atStart => exact ⟨0, by omega, rfl, Keeps.refl _, hid (fun i h hi => by omega)⟩
  case round =>
    obtain ⟨j, hj, rfl, kr, hleft⟩ := hrel
    have kwr := kw.trans kr
    by_cases hlt : j < k
    · have hlt' : (j : Int) < k := by omega
      have hjs : j < ss.length := by have := HKL.out; omega
      have hjG : j < G.length := by have := HLn.out; omega
      obtain ⟨b, off, rfl, hcj⟩ := (HSS.out.keeps kwr).get j hjs
      have hx := hid (HTX.out.get j hjs hjG)
      generalize ss[j] = x at *
      have hm := hid (List.getElem_mem hjG)
      replace q1 := kr.cell q1
      replace q2 := kr.cell q2
      have qd : wr.drew.cell? ⟨w.heap.size, 0, none⟩ = some (.slice (some ⟨b, off, none⟩) k q) ∧ wr.drew.cell? ⟨w.heap.size, 1, none⟩ = some (.string s) := ⟨q1, q2⟩
      go_wp2_with fail
      have HTo2 := hid (HTo.out _ hm.out x hx.out wr.drew)
      have HTk2 := hid (fun va w2 (kx : Keeps w w2) (hva : Nds w2 va G[j].enc) => HTk.out _ hm.out x hx.out va w2 kx hva)
      have hlj := hid (hlG.out _ hm.out)
      go_region_held3 (fun w' => w'.cell? ⟨w.heap.size, 0, none⟩ = some (.slice (some ⟨b, off, none⟩) k q) ∧ w'.cell? ⟨w.heap.size, 1, none⟩ = some (.string s)) (first | exact qd | exact q4 | exact q5) (first
        | (go_at_call 250; refine HTo2.out.mono ?_; rintro e w4 ⟨v4, rfl, hv4, k4⟩; have hn4 := hv4.nds hlj.out; have q4 := cells_keeps k4 qd; obtain ⟨p4, n4, c4, rfl⟩ := hn4.shape)
        | (go_at_call 255; refine (HTk2.out _ w4 (kwr.drew.trans k4) hn4).mono ?_; rintro e w5 ⟨u5, ok, rfl, k5, hok, hno⟩; replace hok := hid hok; replace hno := hid hno; have q5 := cells_keeps k5 q4))
      have kw5 := (kwr.drew.trans k4).trans k5
      have kr5 := (kr.drew.trans k4).trans k5
      cases ok with
      | true =>
        obtain ⟨gs, hgl, hpr⟩ := hok.out rfl
        obtain ⟨pg, cg, rfl, _⟩ := hgl.shape
        have HG := hid (HAll.out gs hpr _ w5 kw5 hgl)
        clear hgl hpr
        go_wp2_with fail
        refine HG.out.mono ?_; rintro e w6 ⟨rfl, ht, hd6⟩
        go_wp2_with fail
        go_ret
        exact ⟨rfl, (Turns.ofKeeps kw5).trans ht, hd6⟩
      | false =>
        have hl4 := hid (hno.out rfl)
        go_wp2
        go_roundw
        case rel =>
          refine ⟨j + 1, by omega, by go_num, kr5, hid (fun i hi hij => ?_)⟩
          by_cases e : i = j
          · subst e; exact hl4.out
          · exact hleft.out i hi (by omega)
        case measure => simp [intOf]; omega
    · obtain rfl : j = k := by omega
      have hlt' : ¬ ((j : Int) < j) := by omega
      have hF := hfin.out (fun t ht => by
        obtain ⟨i, hi, rfl⟩ := List.getElem_of_mem ht
        exact hleft.out i hi (by have := HLn.out; omega))
      have hT := hid (HTr.out hF _ wr kwr (HNT3.out.keeps kr))
      replace q1 := kr.cell q1
      replace q2 := kr.cell q2
      clear hF
      go_wp2_with fail
      refine hT.out.mono ?_; rintro e w5 ⟨rfl, ht, hd5⟩
      go_wp2_with fail
      go_ret
      exact ⟨rfl, (Turns.ofKeeps kwr).trans ht, hd5⟩
end Go.Proofs.YtodeecmhcfbheaaGreat
/- The decider as a whole: proves, provable. -/
namespace Go.Proofs.YtodeecmhcfbheaaGreat
open Go.RowKit
theorem decide_any (n : Nat) (ih : ProvesOk n) (G : List Fm) (c : Fm) (hG : OkL G) (hc : OkF c) (hn : wts G + wt c ≤ n) (hl : wts G + wt c ≤ 50000000)
    (p : Option Addr) (k q : Nat) (s : ByteArray) (d m : Nat) (w : World) (hv : Left w (.slice p k q) G) (hs : bts s = c.body) (hd : Dec w d m) :
    Calls Tryz.prog 234 #[.pointer (some ⟨d, 0, none⟩), .agg #[.slice p k q, .string s]] w (Says w d m (sqB G c)) := by
  by_cases h1 : c ∈ G
  · exact decide_quick G c hG hc (.inl h1) p k q s d m w hv hs hd
  by_cases h2 : Fm.fls ∈ G
  · exact decide_quick G c hG hc (.inr h2) p k q s d m w hv hs hd
  cases c with
  | and x y => exact decide_and n ih G x y hG hc hn hl h1 h2 p k q s d m w hv hs hd
  | imp x y => exact decide_imp n ih G x y hG hc hn hl h1 h2 p k q s d m w hv hs hd
  | var i => exact decide_rest n ih G _ hG hc hn hl h1 h2 (.inl ⟨i, rfl, h1⟩) 0 rfl rfl rfl p k q s d m w hv hs hd
  | fls => exact decide_rest n ih G _ hG hc hn hl h1 h2 (.inr (.inl rfl)) 1 rfl rfl rfl p k q s d m w hv hs hd
  | or x y => exact decide_rest n ih G _ hG hc hn hl h1 h2 (.inr (.inr ⟨x, y, rfl⟩)) 3 rfl rfl rfl p k q s d m w hv hs hd
  | box x => exact absurd hc.2 (by simp [Fm.plain])
  | dia x => exact absurd hc.2 (by simp [Fm.plain])
theorem keyL_wts : ∀ G : List Fm, (keyL (G.map Fm.body)).length ≤ 5 * wts G
  | [] => by simp [keyL]
  | a :: G => by
    have h1 := keyL_wts G
    have h2 := body_len a
    have h3 := len_le_wt a
    simp only [keyL, List.map_cons, List.flatMap_cons, List.length_append, List.length_cons, List.length_nil, wts] at h1 ⊢
    omega
set_option maxRecDepth 20000 in
set_option maxHeartbeats 1000000 in
theorem proves_step (n : Nat) (ih : ProvesOk n) : ProvesOk (n + 1) := by
  intro G c hG hc hn hl p k q s d m w hv hs hd
  have kA := (Keeps.refl w).alloc (.cells #[.slice p k q, .string s] 183)
  have pa : (w.alloc (.cells #[.slice p k q, .string s] 183)).cell? ⟨w.heap.size, 0, none⟩ = some (.slice p k q) := by simp
  have pb' : (w.alloc (.cells #[.slice p k q, .string s] 183)).cell? ⟨w.heap.size, 1, none⟩ = some (.string s) := by simp
  have kB := kA.alloc (.cells #[.string s] 9)
  obtain ⟨ss, hss, htx⟩ := hv
  have hkey : (keyL (ss.map bts)).length + (keyL ([s].map bts)).length ≤ 1000000000 := by
    have h1 := keyL_wts G
    have h2 := keyL_wts [c]
    rw [show ss.map bts = G.map Fm.body from htx, show [s].map bts = [c].map Fm.body by simp [hs]]
    simp only [wts] at h2
    omega
  have hkeq : keyOf (ss.map bts) ([s].map bts) = keyF G c := by
    rw [show ss.map bts = G.map Fm.body from htx, show [s].map bts = [c.body] by simp [hs]]
    rfl
  have HK := hid (fun (v : Value) (hu : Strs ((w.alloc (.cells #[.slice p k q, .string s] 183)).alloc (.cells #[.string s] 9)) v [s]) => seqKey_any ss [s] _ v _ (hss.keeps kB) hu hkey)
  rw [hkeq] at HK
  have hlit : Strs ((w.alloc (.cells #[.slice p k q, .string s] 183)).alloc (.cells #[.string s] 9)) (.slice (some ⟨w.heap.size + 1, 0, none⟩) 1 1) [s] := by
    have := Strs.lit1 (w.alloc (.cells #[.slice p k q, .string s] 183)) s
    rwa [show (w.alloc (.cells #[.slice p k q, .string s] 183)).heap.size = w.heap.size + 1 by simp] at this
  have HLit := hid hlit
  have HDc := hid (fun w2 (kw : Keeps w w2) => decide_any n ih G c hG hc (by omega) hl p k q s d m w2 ⟨ss, hss.keeps kw, htx⟩ hs (hd.keeps kw))
  have HD := hid hd
  have HKn := hid (fun key b (h : Known key b) (e : bts key = keyF G c) => h.is hG hc e)
  have HKp := hid (fun key (e : bts key = keyF G c) => (⟨G, c, hG, hc, e, rfl⟩ : Known key (sqB G c)))
  clear hss htx hkey hkeq hd hlit hs
  go_enter Tryz.func215, Tryz.ntmps215
  go_wp2_with fail
  refine (HK.out _ HLit.out).mono ?_; rintro e w2 ⟨key, rfl, hkb, k2⟩
  have kw := kB.trans k2
  have kC := ((Keeps.refl _).alloc (.cells #[.string s] 9)).trans k2
  obtain ⟨q1, q2⟩ := cells_keeps kC (And.intro pa pb')
  obtain ⟨d1, d2⟩ := HD.out.keeps kw
  have HB := hid hkb; clear hkb
  go_wp2_with (at_lookup; refine wpList_ans_look (S := Known) (m := m) Tryz.underlying178 Tryz.underlying9 rfl _ _ rfl (Tryz.zeroValue4 _) rfl d2 key rfl ?_; intro b ok hb; replace hb := hid hb)
  · rename_i hok
    go_ret
    exact ⟨ret_bool (HKn.out key b (hb.out hok) HB.out), Turns.ofKeeps kw, HD.out.keeps kw⟩
  · refine (HDc.out w2 kw).mono ?_; rintro e w3 ⟨rfl, ht, hd3⟩
    obtain ⟨d3, d4⟩ := hd3
    have hbs := HKp.out key HB.out
    go_wp2_with (at_mapUpdate; refine wpList_ans_put (S := Known) (m := m) Tryz.underlying178 Tryz.underlying9 rfl _ _ _ rfl rfl d4 key rfl _ rfl hbs ?_; intro w4 ha ht4)
    go_ret
    exact ⟨rfl, ((Turns.ofKeeps kw).trans ht).trans ht4, ht4.2 _ _ d3, ha⟩
theorem proves_all : ∀ n, ProvesOk n
  | 0 => fun _ _ _ _ h => absurd h (Nat.not_lt_zero _)
  | n + 1 => proves_step n (proves_all n)
end Go.Proofs.YtodeecmhcfbheaaGreat
/- provable, implies, equivalent: what they answer. -/
namespace Go.Proofs.YtodeecmhcfbheaaGreat
open Go.RowKit
set_option maxRecDepth 20000 in
theorem newDecider_any (w : World) : Calls Tryz.prog 161 #[] w fun e w' => ∃ d m, e = .returned (.pointer (some ⟨d, 0, none⟩)) ∧ Dec w' d m ∧ w.heap.size ≤ m ∧ Keeps w w' := by
  have hmm := @run_makeMap Tryz.prog
  go_enter Tryz.func161, Tryz.ntmps161
  go_wp2
  go_ret
  refine ⟨_, w.heap.size, rfl, ⟨?_, ?_⟩, Nat.le_refl _, ((Keeps.refl w).alloc _).alloc _⟩
  · simp
  · exact (Ans.made w Known).keeps ((Keeps.refl _).alloc _)
set_option maxRecDepth 20000 in
theorem dprovable_any (G : List Fm) (c : Fm) (hG : OkL G) (hc : OkF c) (hl : wts G + wt c ≤ 50000000) (s : ByteArray) (v : Value) (d m : Nat) (w : World) (hv : Left w v G) (hs : bts s = c.body) (hd : Dec w d m) :
    Calls Tryz.prog 162 #[.pointer (some ⟨d, 0, none⟩), v, .string s] w (Says w d m (sqB G c)) := by
  obtain ⟨p, n, q, rfl⟩ := hv.shape
  have HP := hid (put_fm G [] _ _ w hv (Left.nil w) hG okL_nil (by simp only [wts]; omega))
  have HR := hid (fun R (hR : ∀ a, a ∈ R ↔ a ∈ G ∨ a ∈ ([] : List Fm)) (hw : wts R ≤ wts G + wts []) => by
    have h1 : wts R + wt c ≤ 50000000 := by simp only [wts] at hw; omega
    have h2 := proves_all (wts R + wt c + 1) R c (fun a ha => hG a (by simpa using (hR a).1 ha)) hc (by omega) h1
    rw [sqB_congr (sq_same (fun a => (hR a).trans (by simp) : ∀ a, a ∈ R ↔ a ∈ G))] at h2
    exact h2)
  have HD := hid hd
  clear hv hd
  go_enter Tryz.func162, Tryz.ntmps162
  go_wp2_with fail
  refine HP.out.mono ?_; rintro e w2 ⟨v2, R, rfl, hR, hm, hwt, k2⟩
  obtain ⟨p2, n2, q2, rfl⟩ := hR.left.shape
  go_wp2_with fail
  refine (HR.out R hm hwt p2 n2 q2 s d m w2 hR.left hs (HD.out.keeps k2)).mono ?_; rintro e w3 ⟨rfl, ht, hd3⟩
  go_wp2_with fail
  go_ret
  exact ⟨rfl, (Turns.ofKeeps k2).trans ht, hd3⟩
set_option maxRecDepth 20000 in
/-- the decider of the program answers as the sequent says -/
theorem provable_any (G : List Fm) (c : Fm) (hG : OkL G) (hc : OkF c) (hl : wts G + wt c ≤ 50000000) (s : ByteArray) (v : Value) (w : World) (hv : Left w v G) (hs : bts s = c.body) :
    Calls Tryz.prog 75 #[v, .string s] w fun e w' => e = .returned (.bool (sqB G c)) ∧ Keeps w w' := by
  obtain ⟨p, n, q, rfl⟩ := hv.shape
  have HP := hid (fun d m w2 (k : Keeps w w2) (hd : Dec w2 d m) => dprovable_any G c hG hc hl s _ d m w2 (hv.keeps k) hs hd)
  clear hv
  go_enter Tryz.func75, Tryz.ntmps75
  go_wp2_with fail
  refine (newDecider_any w).mono ?_; rintro e w2 ⟨d, m, rfl, hd, hm, k2⟩
  go_wp2_with fail
  refine (HP.out d m w2 k2 hd).mono ?_; rintro e w3 ⟨rfl, ht, hd3⟩
  go_wp2_with fail
  go_ret
  exact ⟨rfl, ht.keeps hm k2⟩
end Go.Proofs.YtodeecmhcfbheaaGreat
