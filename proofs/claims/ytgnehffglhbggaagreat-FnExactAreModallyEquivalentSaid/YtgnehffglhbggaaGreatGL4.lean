/- AreModallyEquivalent, both sides. -/
import Derived.Test.YtgnehffglhbggaaGreatGL2
import Derived.Test.YtgnehffglhbggaaGreatGPR
import Derived.Test.YtgnehffglhbggaaGreatGW7
import Derived.Test.YtgnehffglhbggaaGreatGMQ
import Derived.Test.YtgnehffglhbggaaGreatGQ1
import Derived.Deep.CutBlock
import Derived.Deep.DeepCutAuto
import Derived.Test.YtgnehffglhbggaaGreatGM2
namespace Go.Proofs.YtgnehffglhbggaaGreat
open Go.RowKit
theorem isFm_treeX {a : List Nd} (h : isFm a = true) : ∃ t : Fm, t.wf ∧ a = t.enc ∧ a.length ≤ 40 := by
  unfold isFm at h
  rw [Bool.and_eq_true, decide_eq_true_iff] at h
  obtain ⟨t, h1, h2⟩ := isTree_enc h.2
  exact ⟨t, h1, h2, h.1⟩
/-- the text of a formula -/
def txS (t : Fm) : ByteArray := mkS t.body
theorem txS_eq {s : ByteArray} {t : Fm} (h : bts s = t.body) : s = txS t := bts_inj (h.trans (bts_mkS _).symm)
theorem txS_tx {t : Fm} (hw : t.wf) (hl : t.enc.length ≤ 40) : IsTx (txS t) t := ⟨hw, bts_mkS _, hl⟩
theorem txS_mid {t : Fm} (hw : t.wf) (hl : t.enc.length ≤ 40) : Mid [txS t] := fun s hs => by
  rw [List.mem_singleton] at hs
  subst hs
  have := (txS_tx hw hl).small
  omega
theorem txS_side {t : Fm} (hw : t.wf) (hl : t.enc.length ≤ 40) : Side [txS t] := ⟨fun s hs => by
  rw [List.mem_singleton] at hs
  subst hs
  exact ⟨t, txS_tx hw hl⟩, by simp [Asc]⟩
theorem seT_swap {ss tt : List ByteArray} (hs : Side ss) (ht : Side tt) : elT (fmL (ss ++ tt)) = elT (fmL (tt ++ ss)) := by
  have h1 := seG_fine hs ht
  have h2 := seG_fine ht hs
  refine elT_ext h1 h2 (fun x => ?_)
  rw [elF_mem h1, elF_mem h2]
  have : x ∈ subG (fmL (ss ++ tt)) ↔ x ∈ subG (fmL (tt ++ ss)) := by
    rw [fmL_append, fmL_append]
    simp only [subG, List.flatMap_append, List.mem_append]
    exact ⟨fun h => h.symm, fun h => h.symm⟩
  rw [this]
theorem seE_swap {ss tt : List ByteArray} (hs : Side ss) (ht : Side tt) : seE tt ss = seE ss tt := by
  unfold seE elF
  rw [seT_swap ht hs]
theorem seN_swap {ss tt : List ByteArray} (hs : Side ss) (ht : Side tt) : seN tt ss = seN ss tt := by
  unfold seN
  rw [seE_swap hs ht]
theorem SrOk.swap {s : ByteArray} {ss tt : List ByteArray} (h : SrOk s ss tt) : SrOk s tt ss :=
  ⟨h.lg, h.eq, h.ht, h.hs, h.h2, h.h1, by rw [seE_swap h.hs h.ht]; exact h.h8, by rw [seN_swap h.hs h.ht]; exact h.hN⟩
noncomputable def eqB (s : ByteArray) (t u : Fm) : Bool := if srC s [txS t] [txS u] = 0 then mtB s [txS t] [txS u] && mtB s [txS u] [txS t] else false
theorem OwnS.boxed {w : World} {B r i : Nat} {v x : Value} {a : List ByteArray} {T : TypeId} {cs : List Value} (h : OwnS w B v a) (hb : BoxG w r T cs) (t : T ≠ 9) : OwnS (w.setCell ⟨r, i, none⟩ x) B v a := own_boxed h hb t
theorem OwnS.lit1 (w : World) (s : ByteArray) : OwnS (w.alloc (.cells #[.string s] 9)) w.heap.size (.slice (some ⟨w.heap.size, 0, none⟩) 1 1) [s] := by
  have h := World.ownsRow_lit (base := w.heap.size) (e := 9) (size := 1) w #[.string s] 1 (Nat.le_refl _) (by simp [maxLen]) (by simp)
  exact h
--
theorem sequentOf_any (t u : Fm) (ht : t.wf) (hu : u.wf) (hlt : t.enc.length ≤ 40) (hlu : u.enc.length ≤ 40) (v v' : Value) (w : World) (hv : Nds w v t.enc) (hv' : Nds w v' u.enc) :
    Calls Tryz.prog 60 #[v, v'] w fun e w' => ∃ x y, e = .returned (.agg #[x, y]) ∧ Strs w' x [txS t] ∧ Strs w' y [txS u] ∧ Keeps w w' := by
  have HT := hid (fun wz (kz : Keeps w wz) => text_any t ht (by omega) v wz (hv.keeps kz))
  have HU := hid (fun wz (kz : Keeps w wz) => text_any u hu (by omega) v' wz (hv'.keeps kz))
  obtain ⟨p, n, c, rfl⟩ := hv.shape
  obtain ⟨p', n', c', rfl⟩ := hv'.shape
  have kA := (Keeps.refl w).alloc (.cells #[.slice none 0 0, .slice none 0 0] 29)
  have hb := BoxG.made w 29 [.slice none 0 0, .slice none 0 0] (by simp) (by simp)
  clear hv hv'
  go_enter Tryz.func60, Tryz.ntmps60
  go_wp2_with fail
  refine (HT.out _ kA).mono ?_; rintro e w2 ⟨s, rfl, hs, k2⟩
  obtain rfl := txS_eq hs
  have kB := k2.alloc (.cells #[.string (txS t)] 9)
  have h1 : OwnS _ _ _ [txS t] := OwnS.lit1 w2 (txS t)
  clear hs
  go_wp2_with fail
  refine (HU.out _ (kA.trans kB)).mono ?_; rintro e w3 ⟨s', rfl, hs', k3⟩
  obtain rfl := txS_eq hs'
  have kC := k3.alloc (.cells #[.string (txS u)] 9)
  have h3 : OwnS _ _ _ [txS u] := OwnS.lit1 w3 (txS u)
  have h4 := h1.keeps kC
  have hb4 := hb.keeps (kB.trans kC)
  have x0 := hb4.cell 0 (by simp)
  have x1 := hb4.cell 1 (by simp)
  have z0 := hb4.froz 0
  have z1 := hb4.froz 1
  simp only [List.getElem_cons_succ, List.getElem_cons_zero] at x0 x1
  have KK := (kA.trans kB).trans kC
  have hb5 := hb4.set 0 (.slice (some ⟨w2.heap.size, 0, none⟩) 1 1)
  have hx := (((h4.boxed (i := 0) (x := .slice (some ⟨w2.heap.size, 0, none⟩) 1 1) hb4 (by decide)).boxed (i := 1) (x := .slice (some ⟨w3.heap.size, 0, none⟩) 1 1) hb5 (by decide))).strs (by simp)
  have hy := (((h3.boxed (i := 0) (x := .slice (some ⟨w2.heap.size, 0, none⟩) 1 1) hb4 (by decide)).boxed (i := 1) (x := .slice (some ⟨w3.heap.size, 0, none⟩) 1 1) hb5 (by decide))).strs (by simp)
  have K2 := (KK.setCell (p := ⟨w.heap.size, 0, none⟩) (Nat.le_refl _) (.slice (some ⟨w2.heap.size, 0, none⟩) 1 1)).setCell (p := ⟨w.heap.size, 1, none⟩) (Nat.le_refl _) (.slice (some ⟨w3.heap.size, 0, none⟩) 1 1)
  have hb6 := hb5.set 1 (.slice (some ⟨w3.heap.size, 0, none⟩) 1 1)
  have y0 := hb6.cell 0 (by simp)
  have y1 := hb6.cell 1 (by simp)
  simp only [List.set_cons_zero, List.set_cons_succ, List.getElem_cons_succ, List.getElem_cons_zero] at y0 y1
  have HY := hid (And.intro y0 y1)
  have HX := hid hx
  have HYY := hid hy
  have HK := hid K2
  clear hs' h1 hb hb5 hb6 hb4 hx hy K2 y0 y1 h3 h4
  go_wp2_with fail
  obtain ⟨y0, y1⟩ := HY.out
  refine bodyPost_ret (v := .agg #[.slice (some ⟨w2.heap.size, 0, none⟩) 1 1, .slice (some ⟨w3.heap.size, 0, none⟩) 1 1]) (by simp [results, Tryz.results60, go_sem, y0, y1]) rfl ?_
  exact ⟨_, _, rfl, HX.out, HYY.out, HK.out⟩
theorem allFm_two (a b : List Nd) : allFm [a, b] = (isFm a && isFm b) := by simp [allFm]
set_option maxRecDepth 20000 in
set_option maxHeartbeats 1000000 in
theorem implEqv_no (s : ByteArray) (a b : List Nd) (h : isLg s = false) (v u : Value) (w : World) (hv : Nds w v a) (hu : Nds w u b) :
    Calls Tryz.prog 28 #[.string s, v, u] w fun e w' => e = .returned (.tuple #[.bool false, .int .i64 2]) ∧ Keeps w w' := by
  have HI := hid (isSearchLogic_any s w)
  rw [h] at HI
  obtain ⟨p, n, c, rfl⟩ := hv.shape
  obtain ⟨p', n', c', rfl⟩ := hu.shape
  clear hv hu h
  go_enter Tryz.func28, Tryz.ntmps28
  go_wp2_with fail
  refine HI.out.mono ?_; rintro e w2 ⟨rfl, k2⟩
  go_wp2_with fail
  go_ret2
  exact ⟨rfl, k2⟩
set_option maxRecDepth 20000 in
set_option maxHeartbeats 1000000 in
theorem implEqv_bad (s : ByteArray) (a b : List Nd) (h : isLg s = true) (hf : (isFm a && isFm b) = false) (v u : Value) (w : World) (hv : Nds w v a) (hu : Nds w u b) :
    Calls Tryz.prog 28 #[.string s, v, u] w fun e w' => e = .returned (.tuple #[.bool false, .int .i64 1]) ∧ Keeps w w' := by
  have HI := hid (isSearchLogic_any s w)
  rw [h] at HI
  have HA := hid (fun wz (kz : Keeps w wz) => areFormulas_any [a, b] _ _ (NdsL.lit2 (hv.keeps kz) (hu.keeps kz)))
  simp only [allFm_two, hf] at HA
  obtain ⟨p, n, c, rfl⟩ := hv.shape
  obtain ⟨p', n', c', rfl⟩ := hu.shape
  clear hv hu h hf
  go_enter Tryz.func28, Tryz.ntmps28
  go_wp2_with fail
  refine HI.out.mono ?_; rintro e w2 ⟨rfl, k2⟩
  have kB := (Keeps.refl w2).alloc (.cells #[.slice p n c, .slice p' n' c'] 46)
  have HA2 := hid (HA.out w2 k2)
  go_wp2_with fail
  refine HA2.out.mono ?_; rintro e w3 ⟨rfl, k3⟩
  go_wp2_with fail
  go_ret2
  exact ⟨rfl, (k2.trans kB).trans k3⟩
set_option maxRecDepth 100000 in
set_option maxHeartbeats 4000000 in
theorem implEqv (s : ByteArray) (t t' : Fm) (h : isLg s = true) (ht : t.wf) (ht' : t'.wf) (hlt : t.enc.length ≤ 40) (hlt' : t'.enc.length ≤ 40) (hf : (isFm t.enc && isFm t'.enc) = true) (v u : Value) (w : World) (hv : Nds w v t.enc) (hu : Nds w u t'.enc) :
    Calls Tryz.prog 28 #[.string s, v, u] w fun e w' => e = .returned (.tuple #[.bool (eqB s t t'), .int .i64 (srC s [txS t] [txS t'])]) ∧ Keeps w w' := by
  have HI := hid (isSearchLogic_any s w)
  rw [h] at HI
  have HA := hid (fun wz (kz : Keeps w wz) => areFormulas_any [t.enc, t'.enc] _ _ (NdsL.lit2 (hv.keeps kz) (hu.keeps kz)))
  simp only [allFm_two, hf] at HA
  have HQ := hid (fun wz (kz : Keeps w wz) => sequentOf_any t t' ht ht' hlt hlt' v u wz (hv.keeps kz) (hu.keeps kz))
  have HQ' := hid (fun wz (kz : Keeps w wz) => sequentOf_any t' t ht' ht hlt' hlt u v wz (hu.keeps kz) (hv.keeps kz))
  have HC := hid (fun x y wz g (hx : Strs wz x [txS t]) (hy : Strs wz y [txS t']) c0 c1 => searchableCode_any s [txS t] [txS t'] x y g wz hx hy (txS_mid ht hlt) (txS_mid ht' hlt') c0 c1)
  have HR : Hid (eqB s t t' = if srC s [txS t] [txS t'] = 0 then mtB s [txS t] [txS t'] && mtB s [txS t'] [txS t] else false) := hid rfl
  obtain ⟨p, n, c, rfl⟩ := hv.shape
  obtain ⟨p', n', c', rfl⟩ := hu.shape
  clear hv hu h hf
  by_cases hz : srC s [txS t] [txS t'] = 0
  · rw [if_pos hz] at HR
    rw [HR.out]
    have hk := srC_ok hz
    rw [hz]
    rw [hz] at HC
    have HM := hid (fun x y wz (hx : Strs wz x [txS t]) (hy : Strs wz y [txS t']) => isModalTheorem_any s [txS t] [txS t'] x y wz hx hy hk)
    have HM' := hid (fun x y wz (hx : Strs wz x [txS t']) (hy : Strs wz y [txS t]) => isModalTheorem_any s [txS t'] [txS t] x y wz hx hy hk.swap)
    change Hid (∀ x y wz, Strs wz x [txS t] → Strs wz y [txS t'] → Calls Tryz.prog _ _ wz fun e w' => e = .returned (.bool (mtB s [txS t] [txS t'])) ∧ Keeps wz w') at HM
    change Hid (∀ x y wz, Strs wz x [txS t'] → Strs wz y [txS t] → Calls Tryz.prog _ _ wz fun e w' => e = .returned (.bool (mtB s [txS t'] [txS t])) ∧ Keeps wz w') at HM'
    clear hz hk HR ht ht' hlt hlt'
    generalize mtB s [txS t] [txS t'] = b1 at *
    generalize mtB s [txS t'] [txS t] = b2 at *
    generalize [txS t] = ss at *
    generalize [txS t'] = tt at *
    cases b1
    · go_enter Tryz.func28, Tryz.ntmps28
      go_wp2_with fail
      refine HI.out.mono ?_; rintro e w2 ⟨rfl, k2⟩
      have kB := (Keeps.refl w2).alloc (.cells #[.slice p n c, .slice p' n' c'] 46)
      have HA2 := hid (HA.out w2 k2)
      go_wp2_with fail
      refine HA2.out.mono ?_; rintro e w3 ⟨rfl, k3⟩
      have K3 := (k2.trans kB).trans k3
      go_wp2_with fail
      refine (HQ.out _ K3).mono ?_; rintro e w4 ⟨x, y, rfl, hx, hy, k4⟩
      have kC := (Keeps.refl w4).alloc (.cells #[x, y] 29)
      obtain ⟨d0, d1⟩ := BoxQ.made w4 x y 29
      have HC2 := hid (HC.out x y _ w4.heap.size (hx.keeps kC) (hy.keeps kC) d0 d1)
      obtain ⟨px, cx, rfl, _⟩ := hx.shape
      obtain ⟨py, cy, rfl, _⟩ := hy.shape
      clear hx hy d0 d1
      go_wp2_with fail
      refine HC2.out.mono ?_; rintro e w5 ⟨rfl, k5⟩
      have K5 := ((K3.trans k4).trans kC).trans k5
      go_wp2_with fail
      refine (HQ.out _ K5).mono ?_; rintro e w6 ⟨x, y, rfl, hx, hy, k6⟩
      have HM2 := hid (HM.out x y w6 hx hy)
      obtain ⟨px', cx', rfl, _⟩ := hx.shape
      obtain ⟨py', cy', rfl, _⟩ := hy.shape
      clear hx hy
      go_wp2_with fail
      refine HM2.out.mono ?_; rintro e w7 ⟨rfl, k7⟩
      go_wp2_with fail
      go_ret2
      exact ⟨rfl, (K5.trans k6).trans k7⟩
    · go_enter Tryz.func28, Tryz.ntmps28
      go_wp2_with fail
      refine HI.out.mono ?_; rintro e w2 ⟨rfl, k2⟩
      have kB := (Keeps.refl w2).alloc (.cells #[.slice p n c, .slice p' n' c'] 46)
      have HA2 := hid (HA.out w2 k2)
      go_wp2_with fail
      refine HA2.out.mono ?_; rintro e w3 ⟨rfl, k3⟩
      have K3 := (k2.trans kB).trans k3
      go_wp2_with fail
      refine (HQ.out _ K3).mono ?_; rintro e w4 ⟨x, y, rfl, hx, hy, k4⟩
      have kC := (Keeps.refl w4).alloc (.cells #[x, y] 29)
      obtain ⟨d0, d1⟩ := BoxQ.made w4 x y 29
      have HC2 := hid (HC.out x y _ w4.heap.size (hx.keeps kC) (hy.keeps kC) d0 d1)
      obtain ⟨px, cx, rfl, _⟩ := hx.shape
      obtain ⟨py, cy, rfl, _⟩ := hy.shape
      clear hx hy d0 d1
      go_wp2_with fail
      refine HC2.out.mono ?_; rintro e w5 ⟨rfl, k5⟩
      have K5 := ((K3.trans k4).trans kC).trans k5
      go_wp2_with fail
      refine (HQ.out _ K5).mono ?_; rintro e w6 ⟨x, y, rfl, hx, hy, k6⟩
      have HM2 := hid (HM.out x y w6 hx hy)
      obtain ⟨px', cx', rfl, _⟩ := hx.shape
      obtain ⟨py', cy', rfl, _⟩ := hy.shape
      clear hx hy
      go_wp2_with fail
      refine HM2.out.mono ?_; rintro e w7 ⟨rfl, k7⟩
      have K7 := (K5.trans k6).trans k7
      go_wp2_with fail
      refine (HQ'.out _ K7).mono ?_; rintro e w8 ⟨x, y, rfl, hx, hy, k8⟩
      have HM3 := hid (HM'.out x y w8 hx hy)
      obtain ⟨px2, cx2, rfl, _⟩ := hx.shape
      obtain ⟨py2, cy2, rfl, _⟩ := hy.shape
      clear hx hy
      go_wp2_with fail
      refine HM3.out.mono ?_; rintro e w9 ⟨rfl, k9⟩
      go_wp2_with fail
      go_ret2
      exact ⟨by cases b2 <;> rfl, (K7.trans k8).trans k9⟩
  · rw [if_neg hz] at HR
    rw [HR.out]
    have hz' : (srC s [txS t] [txS t'] != 0) = true := by simpa using hz
    clear hz HR ht ht' hlt hlt' HQ'
    generalize srC s [txS t] [txS t'] = code at *
    generalize [txS t] = ss at *
    generalize [txS t'] = tt at *
    go_enter Tryz.func28, Tryz.ntmps28
    go_wp2_with fail
    refine HI.out.mono ?_; rintro e w2 ⟨rfl, k2⟩
    have kB := (Keeps.refl w2).alloc (.cells #[.slice p n c, .slice p' n' c'] 46)
    have HA2 := hid (HA.out w2 k2)
    go_wp2_with fail
    refine HA2.out.mono ?_; rintro e w3 ⟨rfl, k3⟩
    have K3 := (k2.trans kB).trans k3
    go_wp2_with fail
    refine (HQ.out _ K3).mono ?_; rintro e w4 ⟨x, y, rfl, hx, hy, k4⟩
    have kC := (Keeps.refl w4).alloc (.cells #[x, y] 29)
    obtain ⟨d0, d1⟩ := BoxQ.made w4 x y 29
    have HC2 := hid (HC.out x y _ w4.heap.size (hx.keeps kC) (hy.keeps kC) d0 d1)
    obtain ⟨px, cx, rfl, _⟩ := hx.shape
    obtain ⟨py, cy, rfl, _⟩ := hy.shape
    clear hx hy d0 d1
    go_wp2_with fail
    refine HC2.out.mono ?_; rintro e w5 ⟨rfl, k5⟩
    go_wp2_with fail
    go_ret2
    exact ⟨rfl, ((K3.trans k4).trans kC).trans k5⟩
--
/-- a space with some table of values -/
def Tab (w1 w : World) (r : Nat) (E : List Fm) (l : List Nat) (c0 c1 c2 c3 c4 c5 : Value) (U : List ByteArray) : Prop :=
  ∃ g c6 c7 ks, SpT w1 w r g E l c0 c1 c2 c3 c4 c5 c6 c7 ks ks ∧ ks.Nodup ∧ ∀ k ∈ ks, k ∈ U
theorem Tab.touch {w1 w : World} {r : Nat} {E : List Fm} {l : List Nat} {c0 c1 c2 c3 c4 c5 : Value} {U : List ByteArray} (h : Tab w1 w r E l c0 c1 c2 c3 c4 c5 U) : Touch w1 w (fun i => i = r) := by
  obtain ⟨_, _, _, _, h, _⟩ := h
  exact h.tch
theorem Tab.keeps {w1 w w' : World} {r : Nat} {E : List Fm} {l : List Nat} {c0 c1 c2 c3 c4 c5 : Value} {U : List ByteArray} (h : Tab w1 w r E l c0 c1 c2 c3 c4 c5 U) (k : Keeps w w') : Tab w1 w' r E l c0 c1 c2 c3 c4 c5 U := by
  obtain ⟨g, c6, c7, ks, h1, h2, h3⟩ := h
  exact ⟨g, c6, c7, ks, h1.keeps k, h2, h3⟩
theorem Tab.start {w1 : World} {r L N : Nat} {E : List Fm} {sE : List ByteArray} {c0 c1 c2 c3 c4 c5 : Value} (h : SpF w1 r L E sE N c0 c1 c2 c3 c4 c5) (l : List Nat) (U : List ByteArray) : Tab w1 w1 r E l c0 c1 c2 c3 c4 c5 U :=
  ⟨0, _, _, [], SpT.start h l 0, List.nodup_nil, fun k hk => by cases hk⟩
theorem firstTab {w1 w : World} {r L N : Nat} {E : List Fm} {sE : List ByteArray} {c0 c1 c2 c3 c4 c5 : Value} {U : List ByteArray} (hF : SpF w1 r L E sE N c0 c1 c2 c3 c4 c5) (hE : EOk E sE N) (hUl : U.length ≤ 100000) (hT : Tab w1 w r E (livL L E N) c0 c1 c2 c3 c4 c5 U)
    (ss tt : List ByteArray) (v u : Value) (hss : ∀ x ∈ ss, InE E x ∧ x ∈ U) (htt : ∀ x ∈ tt, InE E x ∧ x ∈ U) (hv : ∀ w', Touch w1 w' (fun i => i = r) → Strs w' v ss) (hu : ∀ w', Touch w1 w' (fun i => i = r) → Strs w' u tt) :
    Calls Tryz.prog 48 #[.pointer (some ⟨r, 0, none⟩), .agg #[v, u]] w fun e w' => e = .returned (.int .i64 (fstI L E N (fmL ss) (fmL tt))) ∧ Tab w1 w' r E (livL L E N) c0 c1 c2 c3 c4 c5 U := by
  obtain ⟨g, c6, c7, ks, h1, h2, h3⟩ := hT
  refine (l12First_any w1 r g L N E sE c0 c1 c2 c3 c4 c5 c6 c7 ks U ss tt v u w hF hE h1 h2 h3 hUl hss htt hv hu).mono ?_
  rintro e w' ⟨g', c6', c7', ks', rfl, a1, a2, a3, _⟩
  exact ⟨rfl, g', c6', c7', ks', a1, a2, a3⟩
set_option maxRecDepth 20000 in
set_option maxHeartbeats 1000000 in
theorem specEqv_no (s : ByteArray) (a b : List Nd) (h : isLg s = false) (v u : Value) (w : World) (hv : Nds w v a) (hu : Nds w u b) :
    Calls Tryz.prog 26 #[.string s, v, u] w fun e w' => e = .returned (.tuple #[.bool false, .int .i64 2]) ∧ Keeps w w' := by
  have HI := hid (l12Is_any s w)
  rw [h] at HI
  obtain ⟨p, n, c, rfl⟩ := hv.shape
  obtain ⟨p', n', c', rfl⟩ := hu.shape
  clear hv hu h
  go_enter Tryz.func26, Tryz.ntmps26
  go_wp2_with fail
  refine HI.out.mono ?_; rintro e w2 ⟨rfl, k2⟩
  go_wp2_with fail
  go_ret2
  exact ⟨rfl, k2⟩
set_option maxRecDepth 20000 in
set_option maxHeartbeats 1000000 in
theorem specEqv_bad (s : ByteArray) (a b : List Nd) (h : isLg s = true) (hf : (isFm a && isFm b) = false) (v u : Value) (w : World) (hv : Nds w v a) (hu : Nds w u b) :
    Calls Tryz.prog 26 #[.string s, v, u] w fun e w' => e = .returned (.tuple #[.bool false, .int .i64 1]) ∧ Keeps w w' := by
  have HI := hid (l12Is_any s w)
  rw [h] at HI
  have HA := hid (fun wz (kz : Keeps w wz) => l02Is_any a v wz (hv.keeps kz))
  have HB := hid (fun wz (kz : Keeps w wz) => l02Is_any b u wz (hu.keeps kz))
  obtain ⟨p, n, c, rfl⟩ := hv.shape
  obtain ⟨p', n', c', rfl⟩ := hu.shape
  clear hv hu h
  generalize isFm a = fa at *
  generalize isFm b = fb at *
  cases fa
  · go_enter Tryz.func26, Tryz.ntmps26
    go_wp2_with fail
    refine HI.out.mono ?_; rintro e w2 ⟨rfl, k2⟩
    go_wp2_with fail
    refine (HA.out _ k2).mono ?_; rintro e w3 ⟨rfl, rfl⟩
    go_wp2_with fail
    go_ret2
    exact ⟨rfl, k2⟩
  · obtain rfl : fb = false := by simpa using hf
    clear hf
    go_enter Tryz.func26, Tryz.ntmps26
    go_wp2_with fail
    refine HI.out.mono ?_; rintro e w2 ⟨rfl, k2⟩
    go_wp2_with fail
    refine (HA.out _ k2).mono ?_; rintro e w3 ⟨rfl, rfl⟩
    go_wp2_with fail
    refine (HB.out _ k2).mono ?_; rintro e w4 ⟨rfl, rfl⟩
    go_wp2_with fail
    go_ret2
    exact ⟨rfl, k2⟩
set_option maxRecDepth 100000 in
set_option maxHeartbeats 4000000 in
theorem specEqv (s : ByteArray) (t t' : Fm) (h : isLg s = true) (ht : t.wf) (ht' : t'.wf) (hlt : t.enc.length ≤ 40) (hlt' : t'.enc.length ≤ 40) (hf1 : isFm t.enc = true) (hf2 : isFm t'.enc = true) (v u : Value) (w : World) (hv : Nds w v t.enc) (hu : Nds w u t'.enc) :
    Calls Tryz.prog 26 #[.string s, v, u] w fun e w' => e = .returned (.tuple #[.bool (eqB s t t'), .int .i64 (srC s [txS t] [txS t'])]) ∧ Keeps w w' := by
  have HI := hid (l12Is_any s w)
  rw [h] at HI
  have HA := hid (fun wz (kz : Keeps w wz) => l02Is_any t.enc v wz (hv.keeps kz))
  have HB := hid (fun wz (kz : Keeps w wz) => l02Is_any t'.enc u wz (hu.keeps kz))
  rw [hf1] at HA
  rw [hf2] at HB
  have HT := hid (fun wz (kz : Keeps w wz) => l02TextA t ht (by omega) v wz (hv.keeps kz))
  have HU := hid (fun wz (kz : Keeps w wz) => l02TextA t' ht' (by omega) u wz (hu.keeps kz))
  have HC := hid (fun x y wz (hx : Strs wz x [txS t]) (hy : Strs wz y [txS t']) => l12Code_any s [txS t] [txS t'] x y wz hx hy (txS_mid ht hlt) (txS_mid ht' hlt'))
  have HR : Hid (eqB s t t' = if srC s [txS t] [txS t'] = 0 then mtB s [txS t] [txS t'] && mtB s [txS t'] [txS t] else false) := hid rfl
  have HB1 : Hid (mtB s [txS t] [txS t'] = decide (fstI (lgN s) (seE [txS t] [txS t']) (seN [txS t] [txS t']) (fmL [txS t]) (fmL [txS t']) < 0)) := hid rfl
  have HB2 : Hid (mtB s [txS t'] [txS t] = decide (fstI (lgN s) (seE [txS t] [txS t']) (seN [txS t] [txS t']) (fmL [txS t']) (fmL [txS t]) < 0)) := hid (by
    have e1 := seE_swap (txS_side ht hlt) (txS_side ht' hlt')
    have e2 := seN_swap (txS_side ht hlt) (txS_side ht' hlt')
    rw [← e1, ← e2]; rfl)
  obtain ⟨p, n, c, rfl⟩ := hv.shape
  obtain ⟨p', n', c', rfl⟩ := hu.shape
  clear hv hu h hf1 hf2
  by_cases hz : srC s [txS t] [txS t'] = 0
  · have hk := srC_ok hz
    rw [if_pos hz, HB1.out, HB2.out] at HR
    rw [HR.out, hz]
    have hin := seE_in hk.hs hk.ht
    have HF1 := hid (fun w1 w r c0 c1 c2 c3 c4 c5 hF hT x y hx hy => firstTab (L := lgN s) (w1 := w1) (w := w) (r := r) (c0 := c0) (c1 := c1) (c2 := c2) (c3 := c3) (c4 := c4) (c5 := c5) (U := [txS t] ++ [txS t']) hF (seE_ok hk) (by simp) hT [txS t] [txS t'] x y (fun z hz => ⟨hin z (by simp at hz; simp [hz]), by simp at hz; simp [hz]⟩) (fun z hz => ⟨hin z (by simp at hz; simp [hz]), by simp at hz; simp [hz]⟩) hx hy)
    have HF2 := hid (fun w1 w r c0 c1 c2 c3 c4 c5 hF hT x y hx hy => firstTab (L := lgN s) (w1 := w1) (w := w) (r := r) (c0 := c0) (c1 := c1) (c2 := c2) (c3 := c3) (c4 := c4) (c5 := c5) (U := [txS t] ++ [txS t']) hF (seE_ok hk) (by simp) hT [txS t'] [txS t] x y (fun z hz => ⟨hin z (by simp at hz; simp [hz]), by simp at hz; simp [hz]⟩) (fun z hz => ⟨hin z (by simp at hz; simp [hz]), by simp at hz; simp [hz]⟩) hx hy)
    have HC2 := hid (fun x y wz hx hy => (HC.out x y wz hx hy).mono (fun e w' (h : CodeR wz s [txS t] [txS t'] e w') => (show ∃ r, e = .returned (.tuple #[.pointer (some ⟨r, 0, none⟩), .int .i64 0]) ∧ Keeps wz w' ∧ wz.heap.size ≤ r ∧ ∃ c0 c1 c2 c3 c4 c5, SpF w' r (lgN s) (seE [txS t] [txS t']) (elT (fmL ([txS t] ++ [txS t']))) (seN [txS t] [txS t']) c0 c1 c2 c3 c4 c5 from by
      rcases h with ⟨_, r, c0, c1, c2, c3, c4, c5, h1, h2, h3, h4⟩ | ⟨h, _⟩
      · exact ⟨r, h1, h2, h3, c0, c1, c2, c3, c4, c5, h4⟩
      · exact absurd hz h)))
    clear hz hk HR HB1 HB2 HC ht ht' hlt hlt' hin
    generalize hU : [txS t] ++ [txS t'] = U at *
    clear hU
    generalize elT (fmL U) = sE at *
    generalize seE [txS t] [txS t'] = E at *
    generalize seN [txS t] [txS t'] = N at *
    generalize lgN s = L at *
    generalize hj1 : fstI L E N (fmL [txS t]) (fmL [txS t']) = j1 at *
    generalize hj2 : fstI L E N (fmL [txS t']) (fmL [txS t]) = j2 at *
    clear hj1 hj2
    go_enter Tryz.func26, Tryz.ntmps26
    go_wp2_with fail
    refine HI.out.mono ?_; rintro e w2 ⟨rfl, k2⟩
    go_wp2_with fail
    refine (HA.out _ k2).mono ?_; rintro e w3 ⟨rfl, rfl⟩
    go_wp2_with fail
    refine (HB.out _ k2).mono ?_; rintro e w4 ⟨rfl, rfl⟩
    go_wp2_with fail
    refine (HT.out _ k2).mono ?_; rintro e w3 ⟨s1, rfl, hs1, k3⟩
    obtain rfl := txS_eq hs1
    have h1 : OwnS _ _ _ [txS t] := OwnS.lit1 w3 (txS t)
    have kB := (Keeps.refl w3).alloc (.cells #[.string (txS t)] 9)
    clear hs1
    go_wp2_with fail
    refine (HU.out _ ((k2.trans k3).trans kB)).mono ?_; rintro e w4 ⟨s2, rfl, hs2, k4⟩
    obtain rfl := txS_eq hs2
    have h2 : OwnS _ _ _ [txS t'] := OwnS.lit1 w4 (txS t')
    have kC := (Keeps.refl w4).alloc (.cells #[.string (txS t')] 9)
    have h1' := (h1.keeps k4).keeps kC
    have hb := BoxG.made (w4.alloc (.cells #[.string (txS t')] 9)) 29 [.slice (some ⟨w3.heap.size, 0, none⟩) 1 1, .slice (some ⟨w4.heap.size, 0, none⟩) 1 1] (by simp) (by simp)
    have kD := (Keeps.refl (w4.alloc (.cells #[.string (txS t')] 9))).alloc (.cells #[.slice (some ⟨w3.heap.size, 0, none⟩) 1 1, .slice (some ⟨w4.heap.size, 0, none⟩) 1 1] 29)
    have K := (((k2.trans k3).trans kB).trans k4).trans kC
    rw [size1] at hb
    have y0 := hb.cell 0 (by simp)
    have y1 := hb.cell 1 (by simp)
    simp only [List.getElem_cons_succ, List.getElem_cons_zero] at y0 y1
    have hx := (h1'.keeps kD).strs (by simp)
    have hy := (h2.keeps kD).strs (by simp)
    have K2 := K.trans kD
    have HC3 := hid (HC2.out _ _ _ hx hy)
    have HX := hid hx
    have HYY := hid hy
    have HK := hid K2
    clear hs2 h1 hb hx hy h1' h2 K2
    go_wp2_with fail
    refine HC3.out.mono ?_; rintro e w6 ⟨r, rfl, k6, hr, d0, d1, d2, d3, d4, d5, hF⟩
    have kt := fun w' (t : Touch w6 w' (fun i => i = r)) => k6.touch t (fun i hi => by have : i = r := hi; omega)
    have HF1' := hid (HF1.out w6 w6 r d0 d1 d2 d3 d4 d5 hF (Tab.start hF _ _) _ _ (fun w' t => HX.out.keeps (kt w' t)) (fun w' t => HYY.out.keeps (kt w' t)))
    have HF2' := hid (fun wz hT => HF2.out w6 wz r d0 d1 d2 d3 d4 d5 hF hT _ _ (fun w' t => HYY.out.keeps (kt w' t)) (fun w' t => HX.out.keeps (kt w' t)))
    have HKT := hid kt
    have e0 := k6.cell y0
    have e1 := k6.cell y1
    clear kt hF
    go_wp2_with fail
    refine HF1'.out.mono ?_; rintro e w7 ⟨rfl, hT7⟩
    have k7 := HKT.out w7 hT7.touch
    by_cases hj : j1 < 0
    · have f0 := k7.cell y0
      have f1 := k7.cell y1
      have HF3 := hid (HF2'.out w7 hT7)
      clear hT7
      go_wp2_with fail
      refine HF3.out.mono ?_; rintro e w8 ⟨rfl, hT8⟩
      have k8 := HKT.out w8 hT8.touch
      go_wp2_with fail
      go_ret2
      exact ⟨by simp [hj], HK.out.trans k8⟩
    · go_wp2_with fail
      go_ret2
      exact ⟨by simp; omega, HK.out.trans k7⟩
  · rw [if_neg hz] at HR
    rw [HR.out]
    have hz' : (srC s [txS t] [txS t'] != 0) = true := by simpa using hz
    have HC2 := hid (fun x y wz hx hy => (HC.out x y wz hx hy).mono (fun e w' (h : CodeR wz s [txS t] [txS t'] e w') => (show e = .returned (.tuple #[.pointer none, .int .i64 (srC s [txS t] [txS t'])]) ∧ Keeps wz w' from by
      rcases h with ⟨h, _⟩ | ⟨_, h1, h2⟩
      · exact absurd h hz
      · exact ⟨h1, h2⟩)))
    clear hz HR HB1 HB2 HC ht ht' hlt hlt'
    generalize srC s [txS t] [txS t'] = code at *
    go_enter Tryz.func26, Tryz.ntmps26
    go_wp2_with fail
    refine HI.out.mono ?_; rintro e w2 ⟨rfl, k2⟩
    go_wp2_with fail
    refine (HA.out _ k2).mono ?_; rintro e w3 ⟨rfl, rfl⟩
    go_wp2_with fail
    refine (HB.out _ k2).mono ?_; rintro e w4 ⟨rfl, rfl⟩
    go_wp2_with fail
    refine (HT.out _ k2).mono ?_; rintro e w3 ⟨s1, rfl, hs1, k3⟩
    obtain rfl := txS_eq hs1
    have h1 : OwnS _ _ _ [txS t] := OwnS.lit1 w3 (txS t)
    have kB := (Keeps.refl w3).alloc (.cells #[.string (txS t)] 9)
    clear hs1
    go_wp2_with fail
    refine (HU.out _ ((k2.trans k3).trans kB)).mono ?_; rintro e w4 ⟨s2, rfl, hs2, k4⟩
    obtain rfl := txS_eq hs2
    have h2 : OwnS _ _ _ [txS t'] := OwnS.lit1 w4 (txS t')
    have kC := (Keeps.refl w4).alloc (.cells #[.string (txS t')] 9)
    have h1' := (h1.keeps k4).keeps kC
    have hb := BoxG.made (w4.alloc (.cells #[.string (txS t')] 9)) 29 [.slice (some ⟨w3.heap.size, 0, none⟩) 1 1, .slice (some ⟨w4.heap.size, 0, none⟩) 1 1] (by simp) (by simp)
    have kD := (Keeps.refl (w4.alloc (.cells #[.string (txS t')] 9))).alloc (.cells #[.slice (some ⟨w3.heap.size, 0, none⟩) 1 1, .slice (some ⟨w4.heap.size, 0, none⟩) 1 1] 29)
    have K := (((k2.trans k3).trans kB).trans k4).trans kC
    rw [size1] at hb
    have y0 := hb.cell 0 (by simp)
    have y1 := hb.cell 1 (by simp)
    simp only [List.getElem_cons_succ, List.getElem_cons_zero] at y0 y1
    have hx := (h1'.keeps kD).strs (by simp)
    have hy := (h2.keeps kD).strs (by simp)
    have K2 := K.trans kD
    have HC3 := hid (HC2.out _ _ _ hx hy)
    have HX := hid hx
    have HYY := hid hy
    have HK := hid K2
    clear hs2 h1 hb hx hy h1' h2 K2
    go_wp2_with fail
    refine HC3.out.mono ?_; rintro e w6 ⟨rfl, k6⟩
    go_wp2_with fail
    go_ret2
    exact ⟨rfl, HK.out.trans k6⟩
theorem bothEquivalent (s : ByteArray) (a b : List Nd) : ∃ (r : Bool) (c : Int), (∀ (v u : Value) (w : World), Nds w v a → Nds w u b → Calls Tryz.prog 26 #[.string s, v, u] w (fun e w' => e = .returned (.tuple #[.bool r, .int .i64 c]) ∧ Keeps w w')) ∧
    (∀ (v u : Value) (w : World), Nds w v a → Nds w u b → Calls Tryz.prog 28 #[.string s, v, u] w (fun e w' => e = .returned (.tuple #[.bool r, .int .i64 c]) ∧ Keeps w w')) := by
  cases h : isLg s
  · exact ⟨false, 2, fun v u w hv hu => specEqv_no s a b h v u w hv hu, fun v u w hv hu => implEqv_no s a b h v u w hv hu⟩
  · cases hf : (isFm a && isFm b)
    · exact ⟨false, 1, fun v u w hv hu => specEqv_bad s a b h hf v u w hv hu, fun v u w hv hu => implEqv_bad s a b h hf v u w hv hu⟩
    · have hf2 := hf
      rw [Bool.and_eq_true] at hf2
      obtain ⟨t, ht, rfl, hlt⟩ := isFm_treeX hf2.1
      obtain ⟨t', ht', rfl, hlt'⟩ := isFm_treeX hf2.2
      exact ⟨eqB s t t', srC s [txS t] [txS t'], fun v u w hv hu => specEqv s t t' h ht ht' hlt hlt' hf2.1 hf2.2 v u w hv hu, fun v u w hv hu => implEqv s t t' h ht ht' hlt hlt' hf v u w hv hu⟩
end Go.Proofs.YtgnehffglhbggaaGreat
/- Walks: the laws' comparisons and marks of lists of node lists and of rules. -/
namespace Go.Proofs.YtgnehffglhbggaaGreat
open Go.RowKit
end Go.Proofs.YtgnehffglhbggaaGreat
/- Walks: the laws' comparisons and marks of rules. -/
namespace Go.Proofs.YtgnehffglhbggaaGreat
open Go.RowKit
theorem agg_shape {w : World} {v : Value} {xs : List (List Nd)} (h : NdsL w v xs) : ∃ p n c, v = .slice p n c := by
  obtain ⟨p, c, e, _⟩ := h
  exact ⟨p, _, c, e⟩
end Go.Proofs.YtgnehffglhbggaaGreat
