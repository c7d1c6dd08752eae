/- Walks: the laws' own measures, copies, comparisons and marks of models. -/
import Derived.Test.YtgnlfceloiilbaaGreatGLM
import Derived.Test.YtgnlfceloiilbaaGreatGEC
import Derived.Test.YtgnlfceloiilbaaGreatGEF
namespace Go.Proofs.YtgnlfceloiilbaaGreat
open Go.RowKit
/-- a model's two owned rows, which lie apart -/
def OwnM (w : World) (B : Nat) (va vb : Value) (a b : List Int) : Prop := OwnI w B va a ∧ OwnI w B vb b ∧ Sep va vb
theorem OwnM.keeps {w w' : World} {B : Nat} {va vb : Value} {a b : List Int} (h : OwnM w B va vb a b) (k : Keeps w w') : OwnM w' B va vb a b := ⟨h.1.keeps k, h.2.1.keeps k, h.2.2⟩
theorem OwnM.mono {w : World} {B B' : Nat} {va vb : Value} {a b : List Int} (h : OwnM w B va vb a b) (k : B' ≤ B) : OwnM w B' va vb a b := ⟨h.1.mono k, h.2.1.mono k, h.2.2⟩
theorem OwnM.low {w w' : World} {B : Nat} {va vb : Value} {a b : List Int} (h : OwnM w B va vb a b) (k : Low w w' B) : OwnM w' B va vb a b := ⟨h.1.low k, h.2.1.low k, h.2.2⟩
theorem OwnM.lowOf {w0 w : World} {B : Nat} {va vb : Value} {a b : List Int} (h : OwnM w0 B va vb a b) (k : Keeps w0 w) : Low w0 w B := by have _ := h; exact Low.of k B
--
theorem eqModel_same (n : Int) (a b : List Int) (va vb ua ub : Value) (w : World) (hva : Ints w va a) (hvb : Ints w vb b) (hua : Ints w ua a) (hub : Ints w ub b) :
    Calls Tryz.prog 13 #[.agg #[.int .i64 n, va, vb], .agg #[.int .i64 n, ua, ub]] w fun e w' => e = .returned (.bool true) ∧ Keeps w w' := by
  obtain ⟨p1, n1, c1, rfl⟩ := hva.shape
  obtain ⟨p2, n2, c2, rfl⟩ := hvb.shape
  obtain ⟨p3, n3, c3, rfl⟩ := hua.shape
  obtain ⟨p4, n4, c4, rfl⟩ := hub.shape
  have k1 := ((Keeps.refl w).alloc (.cells #[.int .i64 n, .slice p1 n1 c1, .slice p2 n2 c2] 30)).alloc (.cells #[.int .i64 n, .slice p3 n3 c3, .slice p4 n4 c4] 30)
  have HF := hid (eqFrame_same n a _ _ _ (hva.keeps k1) (hua.keeps k1))
  have HE := hid (fun w2 (k : Keeps w w2) => eqInt64S_any b b _ _ w2 (hvb.keeps k) (hub.keeps k))
  rw [decide_eq_true rfl] at HE
  clear hva hvb hua hub
  go_enter Tryz.func13, Tryz.ntmps13
  go_wp2_with fail
  refine HF.out.mono ?_; rintro e w2 ⟨rfl, k2⟩
  have HE2 := hid (HE.out _ (k1.trans k2))
  clear HE
  obtain ⟨hc2, hf2⟩ := k2.both
  go_wp2_with fail
  refine HE2.out.mono ?_; rintro e w3 ⟨rfl, k3⟩
  go_wp2_with fail
  go_ret
  exact ⟨rfl, k1.trans (k2.trans k3)⟩
--
theorem markM_t (n : Int) (a b : List Int) (va vb : Value) (k0 : Int) (w0 w : World) (B : Nat) (hv : OwnM w0 B va vb a b) (k : Low w0 w B) (hl : a.length + b.length ≤ 2147483648) (hk0 : 0 ≤ k0) (hk1 : k0 ≤ 1073741824) :
    Calls Tryz.prog 16 #[.agg #[.int .i64 n, va, vb], .int .i64 k0] w fun e w' => e = .returned (.int .i64 (k0 + a.length + b.length)) ∧ OwnM w' B va vb (marksI a.length k0) (marksI b.length (k0 + a.length)) ∧ Touch w w' (fun i => B ≤ i ∧ i < w0.heap.size) := by
  obtain ⟨h1, h2, hs⟩ := hv
  have hl1 := h1.len
  have hl2 := h2.len
  obtain ⟨p1, n1, c1, rfl⟩ := h1.shape0
  obtain ⟨p2, n2, c2, rfl⟩ := h2.shape0
  have k1 := (Keeps.refl w).alloc (.cells #[.int .i64 n, .slice p1 n1 c1, .slice p2 n2 c2] 30)
  have hBw := k.size
  have HF := hid (markF_t n a _ k0 w0 _ B h1 (k.keeps k1) (by omega) hk0 (by omega))
  have hb0 := (h2.low (k.keeps k1))
  have HO := hid hb0; clear hb0
  have HS := hid hs; clear hs
  have HL1 := hid hl1; clear hl1
  have HL2 := hid hl2; clear hl2
  have HM := hid (fun w2 (h : OwnI w2 B (.slice p2 n2 c2) b) => markInt64S_any b _ (k0 + a.length) w2 B h (by omega) (by omega) (by omega))
  have HK := hid k; clear k
  clear h1 h2
  go_enter Tryz.func16, Tryz.ntmps16
  go_wp2_with fail
  refine HF.out.mono ?_; rintro e w2 ⟨rfl, hv2, t2⟩
  have hbx : (w.alloc (.cells #[.int .i64 n, .slice p1 n1 c1, .slice p2 n2 c2] 30)).cell? ⟨w.heap.size, 2, none⟩ = some (.slice p2 n2 c2) := by simp
  have hnb : ¬ (some w.heap.size = (Value.slice p1 n1 c1).ownBlock) := fun e => by have := HL1.out _ e.symm; omega
  have hc2 : w2.cell? ⟨w.heap.size, 2, none⟩ = some (.slice p2 n2 c2) := by rw [(t2.cell (b := w.heap.size) (by simp) hnb).1]; exact hbx
  have HB := hid (HO.out.touch t2 (fun i e1 e2 => HS.out i e2.symm e1))
  clear hbx hnb
  have HM2 := hid (HM.out _ HB.out)
  clear HM
  go_wp2_with fail
  refine HM2.out.mono ?_; rintro e w3 ⟨rfl, hv3, g3⟩
  go_wp2_with fail
  go_ret
  refine ⟨ret_int (by omega), ⟨hv2.touch (Touch.grown g3) (fun i e1 e2 => HS.out i e1 e2.symm), hv3, HS.out⟩, ?_⟩
  refine touch_pre k1 (Touch.trans (t2.mono fun i e => HL1.out i e.symm) ((Touch.grown g3).mono fun i e => HL2.out i e.symm))
--
theorem heldModel_any (m : Int) (n l : Nat) (va vb : Value) (k0 : Int) (w : World) (hva : Ints w va (marksI n k0)) (hvb : Ints w vb (marksI l (k0 + n))) (hk0 : 0 ≤ k0) (hk1 : k0 ≤ 1073741824) (hn : n + l ≤ 1073741824) :
    Calls Tryz.prog 17 #[.agg #[.int .i64 m, va, vb], .int .i64 k0] w fun e w' => e = .returned (.int .i64 (k0 + n + l)) ∧ Keeps w w' := by
  obtain ⟨p1, n1, c1, rfl⟩ := hva.shape
  obtain ⟨p2, n2, c2, rfl⟩ := hvb.shape
  have k1 := (Keeps.refl w).alloc (.cells #[.int .i64 m, .slice p1 n1 c1, .slice p2 n2 c2] 30)
  have HF := hid (heldFrame_any m n _ k0 _ (hva.keeps k1) hk0 (by omega) (by omega))
  have HM := hid (fun w2 (k : Keeps w w2) => heldInt64S_any l _ (k0 + n) w2 (hvb.keeps k) (by omega) (by omega))
  clear hva hvb
  go_enter Tryz.func17, Tryz.ntmps17
  go_wp2_with fail
  refine HF.out.mono ?_; rintro e w2 ⟨rfl, k2⟩
  have HM2 := hid (HM.out _ (k1.trans k2))
  clear HM
  obtain ⟨hc2, hf2⟩ := k2.both
  go_wp2_with fail
  refine HM2.out.mono ?_; rintro e w3 ⟨rfl, rfl⟩
  go_wp2_with fail
  go_ret
  exact ⟨rfl, k1.trans k2⟩
end Go.Proofs.YtgnlfceloiilbaaGreat
/- ModalCountermodel: the program's side. -/
namespace Go.Proofs.YtgnlfceloiilbaaGreat
open Go.RowKit
/-- the first type that refutes; the worlds of the generated countermodel -/
noncomputable def cwF (s : ByteArray) (ss tt : List ByteArray) : Int := fstI (lgN s) (seE ss tt) (seN ss tt) (fmL ss) (fmL tt)
noncomputable def cwR (s : ByteArray) (ss tt : List ByteArray) : List Nat := cmR (lgN s) (seE ss tt) (seN ss tt) (cwF s ss tt).toNat
noncomputable def cwC (s : ByteArray) (ss tt : List ByteArray) : Int := if srC s ss tt = 0 then (if cwF s ss tt < 0 then 4 else if (cwR s ss tt).length ≤ 8 then 0 else 3) else srC s ss tt
noncomputable def cwN (s : ByteArray) (ss tt : List ByteArray) : Int := if cwC s ss tt = 0 then ((cwR s ss tt).length : Int) else 0
noncomputable def cwA (s : ByteArray) (ss tt : List ByteArray) : List Int := if cwC s ss tt = 0 then zs ((List.range (cwR s ss tt).length).map (cmA (lgN s) (seE ss tt) (cwR s ss tt))) else []
noncomputable def cwV (s : ByteArray) (ss tt : List ByteArray) : List Int := if cwC s ss tt = 0 then zs (cmV (seE ss tt) (cwR s ss tt) (cwR s ss tt).length) else []
theorem cw_err {s : ByteArray} {ss tt : List ByteArray} (h : srC s ss tt ≠ 0) : cwC s ss tt = srC s ss tt ∧ cwN s ss tt = 0 ∧ cwA s ss tt = [] ∧ cwV s ss tt = [] := by
  have hc : cwC s ss tt = srC s ss tt := by unfold cwC; rw [if_neg h]
  unfold cwN cwA cwV
  rw [hc, if_neg h, if_neg h, if_neg h]
  exact ⟨rfl, rfl, rfl, rfl⟩
theorem cw_none {s : ByteArray} {ss tt : List ByteArray} (h : srC s ss tt = 0) (hf : cwF s ss tt < 0) : cwC s ss tt = 4 ∧ cwN s ss tt = 0 ∧ cwA s ss tt = [] ∧ cwV s ss tt = [] := by
  have hc : cwC s ss tt = 4 := by unfold cwC; rw [if_pos h, if_pos hf]
  unfold cwN cwA cwV
  rw [hc]
  exact ⟨rfl, rfl, rfl, rfl⟩
theorem cw_many {s : ByteArray} {ss tt : List ByteArray} (h : srC s ss tt = 0) (hf : ¬ cwF s ss tt < 0) (h8 : ¬ (cwR s ss tt).length ≤ 8) : cwC s ss tt = 3 ∧ cwN s ss tt = 0 ∧ cwA s ss tt = [] ∧ cwV s ss tt = [] := by
  have hc : cwC s ss tt = 3 := by unfold cwC; rw [if_pos h, if_neg hf, if_neg h8]
  unfold cwN cwA cwV
  rw [hc]
  exact ⟨rfl, rfl, rfl, rfl⟩
theorem cw_ok {s : ByteArray} {ss tt : List ByteArray} (h : srC s ss tt = 0) (hf : ¬ cwF s ss tt < 0) (h8 : (cwR s ss tt).length ≤ 8) : cwC s ss tt = 0 ∧ cwN s ss tt = ((cwR s ss tt).length : Int) ∧ cwA s ss tt = zs ((List.range (cwR s ss tt).length).map (cmA (lgN s) (seE ss tt) (cwR s ss tt))) ∧ cwV s ss tt = zs (cmV (seE ss tt) (cwR s ss tt) (cwR s ss tt).length) := by
  have hc : cwC s ss tt = 0 := by unfold cwC; rw [if_pos h, if_neg hf, if_pos h8]
  unfold cwN cwA cwV
  rw [hc, if_pos rfl, if_pos rfl, if_pos rfl]
  exact ⟨rfl, rfl, rfl, rfl⟩
theorem cw_len (s : ByteArray) (ss tt : List ByteArray) : (cwA s ss tt).length + (cwV s ss tt).length ≤ 1000 := by
  by_cases h : srC s ss tt = 0
  · by_cases hf : cwF s ss tt < 0
    · rw [(cw_none h hf).2.2.1, (cw_none h hf).2.2.2]; simp
    · by_cases h8 : (cwR s ss tt).length ≤ 8
      · rw [(cw_ok h hf h8).2.2.1, (cw_ok h hf h8).2.2.2, zs_length, zs_length, (cmV_both _ _ (cwR s ss tt).length _ (Nat.le_refl _)).1]
        simp; omega
      · rw [(cw_many h hf h8).2.2.1, (cw_many h hf h8).2.2.2]; simp
  · rw [(cw_err h).2.2.1, (cw_err h).2.2.2]; simp
/-- the root of the countermodel lives -/
theorem cw_root {s : ByteArray} {ss tt : List ByteArray} (hf : ¬ cwF s ss tt < 0) : ∃ m : Nat, cwF s ss tt = m ∧ m < seN ss tt ∧ liveB (lgN s) (seE ss tt) (seN ss tt) m = true ∧ cwR s ss tt = cmR (lgN s) (seE ss tt) (seN ss tt) m := by
  rcases fstI_lt (lgN s) (seE ss tt) (seN ss tt) (fmL ss) (fmL tt) with h | ⟨m, h1, h2, h3⟩
  · exact absurd (show cwF s ss tt < 0 by unfold cwF; rw [h]; decide) hf
  · have e : cwF s ss tt = m := h3
    exact ⟨m, e, h1, h2, by unfold cwR; rw [e]; rfl⟩
theorem cmR_liv {L : Nat} {E : List Fm} {N m : Nat} (hm : m < N) (hl : liveB L E N m = true) : LivW L E N (cmR L E N m) := by
  have gen : ∀ k x W, LivW L E N W → LivW L E N (cmG L E N k x W) := by
    intro k
    induction k with
    | zero => exact fun x W h => h
    | succ k ih =>
      intro x W h
      rw [cmG]
      split
      · rename_i c
        have hf := h (W.getD x 0) (by rw [List.getD_eq_getElem?_getD, List.getElem?_eq_getElem c.1]; exact List.getElem_mem c.1)
        exact ih _ _ (cmW_both hf.1 hf.2 h).1
      · exact h
  exact gen 9 0 [m] (fun t ht => by rw [List.mem_singleton.1 ht]; exact ⟨hm, hl⟩)
theorem seE_el {s : ByteArray} {ss tt : List ByteArray} (hk : SrOk s ss tt) : ∀ t ∈ seE ss tt, isEl t = true ∧ t.wf := by
  have hG : Fine (fmL (ss ++ tt)) := by rw [fmL_append]; exact (fmL_fine hk.hs).append (fmL_fine hk.ht)
  exact fun t ht => ⟨elF_isEl hG ht, (elF_fine hG t ht).1⟩
def RetCM (w : World) (n : Int) (A V : List Int) (c : Int) (e : Ending) (w' : World) : Prop := ∃ va vb, e = .returned (.tuple #[.agg #[.int .i64 n, va, vb], .int .i64 c]) ∧ OwnM w' w.heap.size va vb A V ∧ Keeps w w'
theorem seq3 (w : World) (v u : Value) (T : TypeId) : Keeps w (((w.alloc (.cells #[v, u] 33)).alloc (.cells #[.int .i64 0, .slice none 0 0, .slice none 0 0] T)).alloc (.cells #[v, u] 33)) ∧
    (((w.alloc (.cells #[v, u] 33)).alloc (.cells #[.int .i64 0, .slice none 0 0, .slice none 0 0] T)).alloc (.cells #[v, u] 33)).cell? ⟨w.heap.size, 0, none⟩ = some v ∧
    (((w.alloc (.cells #[v, u] 33)).alloc (.cells #[.int .i64 0, .slice none 0 0, .slice none 0 0] T)).alloc (.cells #[v, u] 33)).cell? ⟨w.heap.size, 1, none⟩ = some u ∧
    (((w.alloc (.cells #[v, u] 33)).alloc (.cells #[.int .i64 0, .slice none 0 0, .slice none 0 0] T)).alloc (.cells #[v, u] 33)).cell? ⟨w.heap.size + 2, 0, none⟩ = some v ∧
    (((w.alloc (.cells #[v, u] 33)).alloc (.cells #[.int .i64 0, .slice none 0 0, .slice none 0 0] T)).alloc (.cells #[v, u] 33)).cell? ⟨w.heap.size + 2, 1, none⟩ = some u ∧
    BoxG (((w.alloc (.cells #[v, u] 33)).alloc (.cells #[.int .i64 0, .slice none 0 0, .slice none 0 0] T)).alloc (.cells #[v, u] 33)) (w.heap.size + 1) T [.int .i64 0, .slice none 0 0, .slice none 0 0] := by
  obtain ⟨a0, a1⟩ := BoxQ.made w v u 33
  obtain ⟨b0, b1⟩ := BoxQ.made ((w.alloc (.cells #[v, u] 33)).alloc (.cells #[.int .i64 0, .slice none 0 0, .slice none 0 0] T)) v u 33
  rw [size1, size1] at b0 b1
  have hb := BoxG.made (w.alloc (.cells #[v, u] 33)) T [.int .i64 0, .slice none 0 0, .slice none 0 0] (by simp) (by simp)
  rw [size1] at hb
  have k := ((Keeps.refl (w.alloc (.cells #[v, u] 33))).alloc (.cells #[.int .i64 0, .slice none 0 0, .slice none 0 0] T)).alloc (.cells #[v, u] 33)
  exact ⟨(((Keeps.refl w).alloc _).alloc _).alloc _, k.cell a0, k.cell a1, b0, b1, hb.keeps ((Keeps.refl _).alloc _)⟩
/-- a model box is written -/
theorem box_done {w0 w w1 : World} {g : Nat} {n : Int} {va vb a b c : Value} (hb : BoxG w1 g 30 [a, b, c]) (kw : Keeps w0 w1) (hg : w0.heap.size ≤ g) (hw : w.heap.size ≤ w0.heap.size) (k0 : Keeps w w0) {A V : List Int} (ho : OwnM w1 w0.heap.size va vb A V) {code : Int} :
    BoxG (((w1.setCell ⟨g, 0, none⟩ (.int .i64 n)).setCell ⟨g, 1, none⟩ va).setCell ⟨g, 2, none⟩ vb) g 30 [.int .i64 n, va, vb] ∧
      RetCM w n A V code (.returned (.tuple #[.agg #[.int .i64 n, va, vb], .int .i64 code])) (((w1.setCell ⟨g, 0, none⟩ (.int .i64 n)).setCell ⟨g, 1, none⟩ va).setCell ⟨g, 2, none⟩ vb) := by
  have b3 := ((hb.set 0 (.int .i64 n)).set 1 va).set 2 vb
  exact ⟨by simpa using b3, _, _, rfl, ⟨OwnI.mono (boxed3 ho.1 hb (by decide) (.int .i64 n) va vb) hw, OwnI.mono (boxed3 ho.2.1 hb (by decide) (.int .i64 n) va vb) hw, ho.2.2⟩,
    k0.trans (((kw.setCell (p := ⟨g, 0, none⟩) hg _).setCell (p := ⟨g, 1, none⟩) hg _).setCell (p := ⟨g, 2, none⟩) hg _)⟩
--
set_option maxRecDepth 100000 in
set_option maxHeartbeats 8000000 in
theorem implModalCountermodel (s : ByteArray) (ss tt : List ByteArray) (v u : Value) (w : World) (hv : Strs w v ss) (hu : Strs w u tt) (hs : Mid ss) (ht : Mid tt) :
    Calls Tryz.prog 12 #[.string s, .agg #[v, u]] w (RetCM w (cwN s ss tt) (cwA s ss tt) (cwV s ss tt) (cwC s ss tt)) := by
  obtain ⟨kA, c0, c1, d0, d1, hb⟩ := seq3 w v u 30
  have HC := hid (searchableCode_any s ss tt v u (w.heap.size + 2) _ (hv.keeps kA) (hu.keeps kA) hs ht d0 d1)
  have HB := hid hb
  have hfz := hb.froz
  by_cases hz : srC s ss tt = 0
  · rw [hz] at HC
    have hk := srC_ok hz
    have HNT := hid (fun wz (kz : Keeps w wz) => newTypes_any (lgN s) hk.lg ss tt v u wz (hv.keeps kz) (hu.keeps kz) hk.hs hk.ht hk.h1 hk.h2 hk.h8)
    rw [← hk.eq] at HNT
    change Hid (∀ wz, Keeps w wz → Calls Tryz.prog _ _ wz fun e w' => ∃ r, e = .returned (.pointer (some ⟨r, 0, none⟩)) ∧ Keeps wz w' ∧ NwR w' r (lgN s) (seE ss tt) (seN ss tt) (refL (seE ss tt) (fmL ss) (fmL tt) (seN ss tt)) (elT (fmL (ss ++ tt)))) at HNT
    have HRF := hid (fun r wz h => refuting_fst r (lgN s) (seE ss tt) (fmL ss) (fmL tt) (seN ss tt) (elT (fmL (ss ++ tt))) hk.hN wz h)
    rw [show fstI (lgN s) (seE ss tt) (seN ss tt) (fmL ss) (fmL tt) = cwF s ss tt from rfl] at HRF
    by_cases hf : cwF s ss tt < 0
    · obtain ⟨e1, e2, e3, e4⟩ := cw_none hz hf
      rw [e1, e2, e3, e4]
      obtain ⟨p, c, rfl, _⟩ := hv.shape
      obtain ⟨q, c2, rfl, _⟩ := hu.shape
      clear hv hu hs ht hz hk d0 d1 e1 e2 e3 e4 hb hfz
      generalize cwF s ss tt = j at *
      go_enter Tryz.func12, Tryz.ntmps12
      go_wp2_with fail
      refine HC.out.mono ?_; rintro e w2 ⟨rfl, k2⟩
      have e0 := k2.cell c0
      have e1 := k2.cell c1
      go_wp2_with fail
      refine (HNT.out _ (kA.trans k2)).mono ?_; rintro e w3 ⟨r, rfl, k3, hr⟩
      have HR2 := hid (HRF.out r w3 hr)
      have HBX := (HB.out.keeps k2).keeps k3
      have kF := (kA.trans k2).trans k3
      have m0 := HBX.cell 0 (by simp)
      have m1 := HBX.cell 1 (by simp)
      have m2 := HBX.cell 2 (by simp)
      have f0 := HBX.froz 0
      have f1 := HBX.froz 1
      have f2 := HBX.froz 2
      simp only [List.getElem_cons_succ, List.getElem_cons_zero] at m0 m1 m2
      obtain ⟨hd, hR⟩ := box_done (w := w) (n := 0) (va := .slice none 0 0) (vb := .slice none 0 0) (code := 4) HBX kF (by omega) (Nat.le_refl _) (Keeps.refl w) (A := []) (V := []) ⟨OwnI.nil _ _, OwnI.nil _ _, fun k e => by cases e⟩
      have n0 := hd.cell 0 (by simp)
      have n1 := hd.cell 1 (by simp)
      have n2 := hd.cell 2 (by simp)
      simp only [List.getElem_cons_succ, List.getElem_cons_zero] at n0 n1 n2
      have HR := hid hR
      clear hR hd
      clear hr HBX
      go_wp2_with fail
      refine HR2.out.mono ?_; rintro e w4 ⟨rfl, rfl⟩
      go_wp2_with fail
      refine bodyPost_ret (v := .tuple #[.agg #[.int .i64 0, .slice none 0 0, .slice none 0 0], .int .i64 4]) (by simp [results, Tryz.results12, go_sem, n0, n1, n2]) rfl HR.out
    · obtain ⟨m, ej, hm, hl, eR⟩ := cw_root hf
      have hN := hk.hN
      have HCM := hid (fun r wz (h : TyA wz r (lgN s) (seN ss tt) (nees (seE ss tt) (seN ss tt)) (liveL (lgN s) (seE ss tt) (seN ss tt))) => countermodel_any r (lgN s) (seN ss tt) (seE ss tt) hk.h8 m hm hl wz h)
      rw [← eR] at HCM
      have hlv := cmR_liv hm hl
      rw [← eR] at hlv
      rw [ej] at HRF
      have hj : ¬ ((m : Int) < 0) := by omega
      by_cases h8 : (cwR s ss tt).length ≤ 8
      · obtain ⟨e1, e2, e3, e4⟩ := cw_ok hz hf h8
        rw [e1, e2, e3, e4]
        have HMD := hid (fun r v wz (h : NwR wz r (lgN s) (seE ss tt) (seN ss tt) (refL (seE ss tt) (fmL ss) (fmL tt) (seN ss tt)) (elT (fmL (ss ++ tt)))) (hv : Ints wz v (natI (cwR s ss tt))) => model_any r (lgN s) (seN ss tt) (seE ss tt) _ _ hk.h8 (seE_el hk) (cwR s ss tt) h8 (fun t ht => (hlv t ht).1) v wz h hv)
        unfold RetCW at HCM
        rw [decide_eq_true h8, if_pos h8] at HCM
        obtain ⟨p, c, rfl, _⟩ := hv.shape
        obtain ⟨q, c2, rfl, _⟩ := hu.shape
        clear hv hu hs ht hz hk d0 d1 e1 e2 e3 e4 hb hfz hf ej hm hl eR hlv
        unfold RetMd at HMD
        have hnl : (natI (cwR s ss tt)).length ≤ 2147483648 := by rw [natI_len]; omega
        generalize cwR s ss tt = W at *
        generalize zs ((List.range W.length).map (cmA (lgN s) (seE ss tt) W)) = A at *
        generalize zs (cmV (seE ss tt) W W.length) = V at *
        go_enter Tryz.func12, Tryz.ntmps12
        go_wp2_with fail
        refine HC.out.mono ?_; rintro e w2 ⟨rfl, k2⟩
        have e0 := k2.cell c0
        have e1 := k2.cell c1
        go_wp2_with fail
        refine (HNT.out _ (kA.trans k2)).mono ?_; rintro e w3 ⟨r, rfl, k3, hr⟩
        have HRR := hid hr
        have HR2 := hid (HRF.out r w3 hr)
        have HC2 := hid (HCM.out r w3 hr.ty)
        clear hr
        go_wp2_with fail
        refine HR2.out.mono ?_; rintro e w4 ⟨rfl, rfl⟩
        go_wp2_with fail
        refine HC2.out.mono ?_; rintro e w5 ⟨v5, rfl, hv5, k5⟩
        obtain ⟨p5, c5, rfl, _⟩ := At.of_own hv5
        have HM2 := hid (HMD.out r _ w5 (HRR.out.keeps k5) (hv5.ints hnl))
        have kG := ((kA.trans k2).trans k3).trans k5
        have hs5 := kG.size
        clear hv5
        go_wp2_with fail
        refine HM2.out.mono ?_; rintro e w6 ⟨va, vb, rfl, ha, hvb, hsep, k6⟩
        have HBX := (((HB.out.keeps k2).keeps k3).keeps k5).keeps k6
        obtain ⟨p6, c6, rfl, _⟩ := At.of_own ha
        obtain ⟨p7, c7, rfl, _⟩ := At.of_own hvb
        have kF := kG.trans k6
        have m0 := HBX.cell 0 (by simp)
        have m1 := HBX.cell 1 (by simp)
        have m2 := HBX.cell 2 (by simp)
        have f0 := HBX.froz 0
        have f1 := HBX.froz 1
        have f2 := HBX.froz 2
        simp only [List.getElem_cons_succ, List.getElem_cons_zero] at m0 m1 m2
        obtain ⟨hd, hR⟩ := box_done (w := w) (n := W.length) (code := 0) HBX kF (by omega) (Nat.le_refl _) (Keeps.refl w) ⟨ha.mono hs5, hvb.mono hs5, hsep⟩
        have n0 := hd.cell 0 (by simp)
        have n1 := hd.cell 1 (by simp)
        have n2 := hd.cell 2 (by simp)
        simp only [List.getElem_cons_succ, List.getElem_cons_zero] at n0 n1 n2
        have HR := hid hR
        clear hR hd ha hvb HBX
        go_wp2_with fail
        refine bodyPost_ret (v := .tuple #[.agg #[.int .i64 W.length, .slice p6 A.length c6, .slice p7 V.length c7], .int .i64 0]) (by simp [results, Tryz.results12, go_sem, n0, n1, n2]) rfl HR.out
      · obtain ⟨e1, e2, e3, e4⟩ := cw_many hz hf h8
        rw [e1, e2, e3, e4]
        unfold RetCW at HCM
        rw [decide_eq_false h8, if_neg h8] at HCM
        obtain ⟨p, c, rfl, _⟩ := hv.shape
        obtain ⟨q, c2, rfl, _⟩ := hu.shape
        clear hv hu hs ht hz hk d0 d1 e1 e2 e3 e4 hb hfz hf ej hm hl eR hlv
        go_enter Tryz.func12, Tryz.ntmps12
        go_wp2_with fail
        refine HC.out.mono ?_; rintro e w2 ⟨rfl, k2⟩
        have e0 := k2.cell c0
        have e1 := k2.cell c1
        go_wp2_with fail
        refine (HNT.out _ (kA.trans k2)).mono ?_; rintro e w3 ⟨r, rfl, k3, hr⟩
        have HR2 := hid (HRF.out r w3 hr)
        have HC2 := hid (HCM.out r w3 hr.ty)
        clear hr
        go_wp2_with fail
        refine HR2.out.mono ?_; rintro e w4 ⟨rfl, rfl⟩
        go_wp2_with fail
        refine HC2.out.mono ?_; rintro e w5 ⟨v5, rfl, hv5, k5⟩
        obtain ⟨p5, c5, rfl, _⟩ := At.of_own hv5
        have HBX := ((HB.out.keeps k2).keeps k3).keeps k5
        have kF := ((kA.trans k2).trans k3).trans k5
        have m0 := HBX.cell 0 (by simp)
        have m1 := HBX.cell 1 (by simp)
        have m2 := HBX.cell 2 (by simp)
        have f0 := HBX.froz 0
        have f1 := HBX.froz 1
        have f2 := HBX.froz 2
        simp only [List.getElem_cons_succ, List.getElem_cons_zero] at m0 m1 m2
        obtain ⟨hd, hR⟩ := box_done (w := w) (n := 0) (va := .slice none 0 0) (vb := .slice none 0 0) (code := 3) HBX kF (by omega) (Nat.le_refl _) (Keeps.refl w) (A := []) (V := []) ⟨OwnI.nil _ _, OwnI.nil _ _, fun k e => by cases e⟩
        have n0 := hd.cell 0 (by simp)
        have n1 := hd.cell 1 (by simp)
        have n2 := hd.cell 2 (by simp)
        simp only [List.getElem_cons_succ, List.getElem_cons_zero] at n0 n1 n2
        have HR := hid hR
        clear hR hd
        clear hv5 HBX
        go_wp2_with fail
        refine bodyPost_ret (v := .tuple #[.agg #[.int .i64 0, .slice none 0 0, .slice none 0 0], .int .i64 3]) (by simp [results, Tryz.results12, go_sem, n0, n1, n2]) rfl HR.out
  · obtain ⟨e1, e2, e3, e4⟩ := cw_err hz
    rw [e1, e2, e3, e4]
    have hz' : (srC s ss tt != 0) = true := by simpa using hz
    obtain ⟨p, c, rfl, _⟩ := hv.shape
    obtain ⟨q, c2, rfl, _⟩ := hu.shape
    clear hv hu hs ht c0 c1 d0 d1 e1 e2 e3 e4 hb hfz
    generalize srC s ss tt = code at *
    go_enter Tryz.func12, Tryz.ntmps12
    go_wp2_with fail
    refine HC.out.mono ?_; rintro e w2 ⟨rfl, k2⟩
    have HBX := HB.out.keeps k2
    have kF := kA.trans k2
    have m0 := HBX.cell 0 (by simp)
    have m1 := HBX.cell 1 (by simp)
    have m2 := HBX.cell 2 (by simp)
    have f0 := HBX.froz 0
    have f1 := HBX.froz 1
    have f2 := HBX.froz 2
    simp only [List.getElem_cons_succ, List.getElem_cons_zero] at m0 m1 m2
    obtain ⟨hd, hR⟩ := box_done (w := w) (n := 0) (va := .slice none 0 0) (vb := .slice none 0 0) (code := code) HBX kF (by omega) (Nat.le_refl _) (Keeps.refl w) (A := []) (V := []) ⟨OwnI.nil _ _, OwnI.nil _ _, fun k e => by cases e⟩
    have n0 := hd.cell 0 (by simp)
    have n1 := hd.cell 1 (by simp)
    have n2 := hd.cell 2 (by simp)
    simp only [List.getElem_cons_succ, List.getElem_cons_zero] at n0 n1 n2
    have HR := hid hR
    clear hR hd
    clear HBX
    go_wp2_with fail
    refine bodyPost_ret (v := .tuple #[.agg #[.int .i64 0, .slice none 0 0, .slice none 0 0], .int .i64 code]) (by simp [results, Tryz.results12, go_sem, n0, n1, n2]) rfl HR.out
end Go.Proofs.YtgnlfceloiilbaaGreat
/- ModalCountermodel: the reference's side. -/
namespace Go.Proofs.YtgnlfceloiilbaaGreat
open Go.RowKit
--
/-- the first type that refutes, in a new space, and what can be read of the space behind it -/
theorem firstNewS (s : ByteArray) (ss tt : List ByteArray) (w w1 : World) (r : Nat) (c0 c1 c2 c3 c4 c5 : Value) (hz : srC s ss tt = 0) (k1 : Keeps w w1) (hr : w.heap.size ≤ r) (hF : SpF w1 r (lgN s) (seE ss tt) (elT (fmL (ss ++ tt))) (seN ss tt) c0 c1 c2 c3 c4 c5)
    (v u : Value) (hv : Strs w v ss) (hu : Strs w u tt) : Calls Tryz.prog 52 #[.pointer (some ⟨r, 0, none⟩), .agg #[v, u]] w1 fun e w' => e = .returned (.int .i64 (cwF s ss tt)) ∧ Keeps w w' ∧
      SpR w' r (lgN s) (seN ss tt) (seE ss tt) (mskM (seE ss tt)) (elT (fmL (ss ++ tt))) ∧ w'.cell? ⟨r, 5, none⟩ = some c5 ∧ Ints w' c5 (natI (livL (lgN s) (seE ss tt) (seN ss tt))) := by
  have hk := srC_ok hz
  have hin := seE_in hk.hs hk.ht
  have kt : ∀ w', Touch w1 w' (fun i => i = r) → Keeps w w' := fun w' t => k1.touch t (fun i hi => by have : i = r := hi; omega)
  refine (l12First_any w1 r 0 (lgN s) (seN ss tt) (seE ss tt) (elT (fmL (ss ++ tt))) c0 c1 c2 c3 c4 c5 (.slice none 0 0) (.slice none 0 0) [] (ss ++ tt) ss tt v u w1 hF (seE_ok hk) (SpT.start hF _ 0) List.nodup_nil (fun k h => by cases h) (by have := hk.h1; have := hk.h2; simp; omega)
    (fun x hx => ⟨hin x (by simp [hx]), by simp [hx]⟩) (fun x hx => ⟨hin x (by simp [hx]), by simp [hx]⟩) (fun w' t => hv.keeps (kt w' t)) (fun w' t => hu.keeps (kt w' t))).mono ?_
  rintro e w' ⟨g, c6, c7, ks, rfl, hT, _⟩
  refine ⟨rfl, kt w' hT.tch, hF.spr hT.tch hT.box ?_ hk.h8 hk.lg hk.hN (fun t ht => (seE_el hk t ht).1), hT.box.cell 5 (by simp), hF.p5 w' hT.tch⟩
  have := (seE_ok hk).tx.length
  exact this
theorem seq2M (w : World) (v u : Value) (T : TypeId) : Keeps w ((w.alloc (.cells #[v, u] 33)).alloc (.cells #[.int .i64 0, .slice none 0 0, .slice none 0 0] T)) ∧
    ((w.alloc (.cells #[v, u] 33)).alloc (.cells #[.int .i64 0, .slice none 0 0, .slice none 0 0] T)).cell? ⟨w.heap.size, 0, none⟩ = some v ∧
    ((w.alloc (.cells #[v, u] 33)).alloc (.cells #[.int .i64 0, .slice none 0 0, .slice none 0 0] T)).cell? ⟨w.heap.size, 1, none⟩ = some u ∧
    BoxG ((w.alloc (.cells #[v, u] 33)).alloc (.cells #[.int .i64 0, .slice none 0 0, .slice none 0 0] T)) (w.heap.size + 1) T [.int .i64 0, .slice none 0 0, .slice none 0 0] := by
  obtain ⟨a0, a1⟩ := BoxQ.made w v u 33
  have hb := BoxG.made (w.alloc (.cells #[v, u] 33)) T [.int .i64 0, .slice none 0 0, .slice none 0 0] (by simp) (by simp)
  rw [size1] at hb
  have k := (Keeps.refl (w.alloc (.cells #[v, u] 33))).alloc (.cells #[.int .i64 0, .slice none 0 0, .slice none 0 0] T)
  exact ⟨((Keeps.refl w).alloc _).alloc _, k.cell a0, k.cell a1, hb⟩
set_option maxRecDepth 100000 in
set_option maxHeartbeats 8000000 in
theorem specModalCountermodel (s : ByteArray) (ss tt : List ByteArray) (v u : Value) (w : World) (hv : Strs w v ss) (hu : Strs w u tt) (hs : Mid ss) (ht : Mid tt) :
    Calls Tryz.prog 10 #[.string s, .agg #[v, u]] w (RetCM w (cwN s ss tt) (cwA s ss tt) (cwV s ss tt) (cwC s ss tt)) := by
  obtain ⟨kA, c0, c1, hb⟩ := seq2M w v u 30
  have HC := hid (l12Code_any s ss tt v u _ (hv.keeps kA) (hu.keeps kA) hs ht)
  have HB := hid hb
  have hszA : ((w.alloc (.cells #[v, u] 33)).alloc (.cells #[.int .i64 0, .slice none 0 0, .slice none 0 0] 30)).heap.size = w.heap.size + 2 := by simp
  have HSA := hid hszA
  clear hszA
  by_cases hz : srC s ss tt = 0
  · have hk := srC_ok hz
    have HFN := hid (fun w1 r d0 d1 d2 d3 d4 d5 k1 hr hF => firstNewS s ss tt _ w1 r d0 d1 d2 d3 d4 d5 hz k1 hr hF v u (hv.keeps kA) (hu.keeps kA))
    by_cases hf : cwF s ss tt < 0
    · obtain ⟨e1, e2, e3, e4⟩ := cw_none hz hf
      rw [e1, e2, e3, e4]
      obtain ⟨p, c, rfl, _⟩ := hv.shape
      obtain ⟨q, c2, rfl, _⟩ := hu.shape
      have HZ := hid hz
      clear hv hu hs ht hz hk e1 e2 e3 e4 hb
      generalize cwF s ss tt = j at *
      go_enter Tryz.func10, Tryz.ntmps10
      go_wp2_with fail
      refine HC.out.mono ?_; rintro e w2 (⟨_, r, d0, d1, d2, d3, d4, d5, rfl, k2, hr, hF⟩ | ⟨hz, _, _⟩)
      · have HF2 := hid (HFN.out w2 r d0 d1 d2 d3 d4 d5 k2 hr hF)
        have e0 := k2.cell c0
        have e1 := k2.cell c1
        clear hF hr HFN
        go_wp2_with fail
        refine HF2.out.mono ?_; rintro e w3 ⟨rfl, k3, -, -, -⟩
        have HBX := HB.out.keeps k3
        have kF := kA.trans k3
        have m0 := HBX.cell 0 (by simp)
        have m1 := HBX.cell 1 (by simp)
        have m2 := HBX.cell 2 (by simp)
        have f0 := HBX.froz 0
        have f1 := HBX.froz 1
        have f2 := HBX.froz 2
        simp only [List.getElem_cons_succ, List.getElem_cons_zero] at m0 m1 m2
        obtain ⟨hd, hR⟩ := box_done (w := w) (n := 0) (va := .slice none 0 0) (vb := .slice none 0 0) (code := 4) HBX kF (by omega) (Nat.le_refl _) (Keeps.refl w) (A := []) (V := []) ⟨OwnI.nil _ _, OwnI.nil _ _, fun k e => by cases e⟩
        have n0 := hd.cell 0 (by simp)
        have n1 := hd.cell 1 (by simp)
        have n2 := hd.cell 2 (by simp)
        simp only [List.getElem_cons_succ, List.getElem_cons_zero] at n0 n1 n2
        have HR := hid hR
        clear hR hd
        clear HBX
        go_wp2_with fail
        refine bodyPost_ret (v := .tuple #[.agg #[.int .i64 0, .slice none 0 0, .slice none 0 0], .int .i64 4]) (by simp [results, Tryz.results10, go_sem, n0, n1, n2]) rfl HR.out
      · exact absurd HZ.out hz
    · obtain ⟨m, ej, hm, hl, eR⟩ := cw_root hf
      have hlv := cmR_liv hm hl
      rw [← eR] at hlv
      have HWW := hid (fun r M v5 wz h c5 h5 => l12Worlds_any r (lgN s) (seN ss tt) (seE ss tt) M (elT (fmL (ss ++ tt))) m hm hl v5 wz h c5 h5)
      rw [← eR] at HWW
      rw [ej] at HFN
      have hj : ¬ ((m : Int) < 0) := by omega
      by_cases h8 : (cwR s ss tt).length ≤ 8
      · obtain ⟨e1, e2, e3, e4⟩ := cw_ok hz hf h8
        rw [e1, e2, e3, e4]
        have HTX : ∀ k (h1 : k < (elT (fmL (ss ++ tt))).length) (h2 : k < (seE ss tt).length), IsTx (elT (fmL (ss ++ tt)))[k] (seE ss tt)[k] := fun k h1 h2 => by
          have hG := seG_fine hk.hs hk.ht
          have hm := List.getElem_mem h2
          exact ⟨(elF_fine hG _ hm).1, (seE_ok hk).tx.get k h1 h2, (elF_fine hG _ hm).2⟩
        have HMD := hid (fun r M v wz h hv => l12Model_any r (lgN s) (seN ss tt) (seE ss tt) M (elT (fmL (ss ++ tt))) HTX (cwR s ss tt) h8 (fun t ht => (hlv t ht).1) v wz h hv)
        unfold RetMd at HMD
        obtain ⟨p, c, rfl, _⟩ := hv.shape
        obtain ⟨q, c2, rfl, _⟩ := hu.shape
        have HZ := hid hz
        have hnl : (natI (cwR s ss tt)).length ≤ 2147483648 := by rw [natI_len]; omega
        have h8' : ¬ ((8 : Int) < (natI (cwR s ss tt)).length) := by rw [natI_len]; omega
        clear hv hu hs ht hz hk e1 e2 e3 e4 hb HTX hf ej hm hl eR hlv
        generalize cwR s ss tt = W at *
        generalize zs ((List.range W.length).map (cmA (lgN s) (seE ss tt) W)) = A at *
        generalize zs (cmV (seE ss tt) W W.length) = V at *
        go_enter Tryz.func10, Tryz.ntmps10
        go_wp2_with fail
        refine HC.out.mono ?_; rintro e w2 (⟨_, r, d0, d1, d2, d3, d4, d5, rfl, k2, hr, hF⟩ | ⟨hz, _, _⟩)
        · have HF2 := hid (HFN.out w2 r d0 d1 d2 d3 d4 d5 k2 hr hF)
          have e0 := k2.cell c0
          have e1 := k2.cell c1
          clear hF hr HFN
          go_wp2_with fail
          refine HF2.out.mono ?_; rintro e w3 ⟨rfl, k3, hS, x5, hi5⟩
          have HW2 := hid (HWW.out r _ _ w3 hS x5 hi5)
          have HSS := hid hS
          clear hS x5 hi5
          go_wp2_with fail
          refine HW2.out.mono ?_; rintro e w4 ⟨v4, rfl, hv4, k4⟩
          obtain ⟨p4, c4, rfl, _⟩ := At.of_own hv4
          have HM2 := hid (HMD.out r _ _ w4 (HSS.out.keeps k4) (hv4.ints hnl))
          have kG := (kA.trans k3).trans k4
          have hs4 := kG.size
          clear hv4
          go_wp2_with fail
          refine HM2.out.mono ?_; rintro e w6 ⟨va, vb, rfl, ha, hvb, hsep, k6⟩
          have HBX := ((HB.out.keeps k3).keeps k4).keeps k6
          obtain ⟨p6, c6, rfl, _⟩ := At.of_own ha
          obtain ⟨p7, c7, rfl, _⟩ := At.of_own hvb
          have kF := kG.trans k6
          have m0 := HBX.cell 0 (by simp)
          have m1 := HBX.cell 1 (by simp)
          have m2 := HBX.cell 2 (by simp)
          have f0 := HBX.froz 0
          have f1 := HBX.froz 1
          have f2 := HBX.froz 2
          simp only [List.getElem_cons_succ, List.getElem_cons_zero] at m0 m1 m2
          obtain ⟨hd, hR⟩ := box_done (w := w) (n := W.length) (va := .slice p6 A.length c6) (vb := .slice p7 V.length c7) (code := 0) HBX kF (by omega) (Nat.le_refl _) (Keeps.refl w) ⟨ha.mono hs4, hvb.mono hs4, hsep⟩
          have n0 := hd.cell 0 (by simp)
          have n1 := hd.cell 1 (by simp)
          have n2 := hd.cell 2 (by simp)
          simp only [List.getElem_cons_succ, List.getElem_cons_zero] at n0 n1 n2
          have HR := hid hR
          clear hR hd
          clear ha hvb HBX
          go_wp2_with fail
          refine bodyPost_ret (v := .tuple #[.agg #[.int .i64 W.length, .slice p6 A.length c6, .slice p7 V.length c7], .int .i64 0]) (by simp [results, Tryz.results10, go_sem, n0, n1, n2]) rfl HR.out
        · exact absurd HZ.out hz
      · obtain ⟨e1, e2, e3, e4⟩ := cw_many hz hf h8
        rw [e1, e2, e3, e4]
        obtain ⟨p, c, rfl, _⟩ := hv.shape
        obtain ⟨q, c2, rfl, _⟩ := hu.shape
        have HZ := hid hz
        have h8' : (8 : Int) < (natI (cwR s ss tt)).length := by rw [natI_len]; omega
        clear hv hu hs ht hz hk e1 e2 e3 e4 hb hf ej hm hl eR hlv
        generalize cwR s ss tt = W at *
        go_enter Tryz.func10, Tryz.ntmps10
        go_wp2_with fail
        refine HC.out.mono ?_; rintro e w2 (⟨_, r, d0, d1, d2, d3, d4, d5, rfl, k2, hr, hF⟩ | ⟨hz, _, _⟩)
        · have HF2 := hid (HFN.out w2 r d0 d1 d2 d3 d4 d5 k2 hr hF)
          have e0 := k2.cell c0
          have e1 := k2.cell c1
          clear hF hr HFN
          go_wp2_with fail
          refine HF2.out.mono ?_; rintro e w3 ⟨rfl, k3, hS, x5, hi5⟩
          have HW2 := hid (HWW.out r _ _ w3 hS x5 hi5)
          clear hS x5 hi5
          go_wp2_with fail
          refine HW2.out.mono ?_; rintro e w4 ⟨v4, rfl, hv4, k4⟩
          obtain ⟨p4, c4, rfl, _⟩ := At.of_own hv4
          have HBX := (HB.out.keeps k3).keeps k4
          have kF := (kA.trans k3).trans k4
          have m0 := HBX.cell 0 (by simp)
          have m1 := HBX.cell 1 (by simp)
          have m2 := HBX.cell 2 (by simp)
          have f0 := HBX.froz 0
          have f1 := HBX.froz 1
          have f2 := HBX.froz 2
          simp only [List.getElem_cons_succ, List.getElem_cons_zero] at m0 m1 m2
          obtain ⟨hd, hR⟩ := box_done (w := w) (n := 0) (va := .slice none 0 0) (vb := .slice none 0 0) (code := 3) HBX kF (by omega) (Nat.le_refl _) (Keeps.refl w) (A := []) (V := []) ⟨OwnI.nil _ _, OwnI.nil _ _, fun k e => by cases e⟩
          have n0 := hd.cell 0 (by simp)
          have n1 := hd.cell 1 (by simp)
          have n2 := hd.cell 2 (by simp)
          simp only [List.getElem_cons_succ, List.getElem_cons_zero] at n0 n1 n2
          have HR := hid hR
          clear hR hd
          clear hv4 HBX
          go_wp2_with fail
          refine bodyPost_ret (v := .tuple #[.agg #[.int .i64 0, .slice none 0 0, .slice none 0 0], .int .i64 3]) (by simp [results, Tryz.results10, go_sem, n0, n1, n2]) rfl HR.out
        · exact absurd HZ.out hz
  · obtain ⟨e1, e2, e3, e4⟩ := cw_err hz
    rw [e1, e2, e3, e4]
    have hz' : (srC s ss tt != 0) = true := by simpa using hz
    obtain ⟨p, c, rfl, _⟩ := hv.shape
    obtain ⟨q, c2, rfl, _⟩ := hu.shape
    have HZ := hid hz
    clear hv hu hs ht c0 c1 hz e1 e2 e3 e4 hb
    go_enter Tryz.func10, Tryz.ntmps10
    go_wp2_with fail
    refine HC.out.mono ?_; rintro e w2 (⟨hz, _⟩ | ⟨_, rfl, k2⟩)
    · exact absurd hz HZ.out
    · have HBX := HB.out.keeps k2
      have kF := kA.trans k2
      generalize srC s ss tt = code at *
      have m0 := HBX.cell 0 (by simp)
      have m1 := HBX.cell 1 (by simp)
      have m2 := HBX.cell 2 (by simp)
      have f0 := HBX.froz 0
      have f1 := HBX.froz 1
      have f2 := HBX.froz 2
      simp only [List.getElem_cons_succ, List.getElem_cons_zero] at m0 m1 m2
      obtain ⟨hd, hR⟩ := box_done (w := w) (n := 0) (va := .slice none 0 0) (vb := .slice none 0 0) (code := code) HBX kF (by omega) (Nat.le_refl _) (Keeps.refl w) (A := []) (V := []) ⟨OwnI.nil _ _, OwnI.nil _ _, fun k e => by cases e⟩
      have n0 := hd.cell 0 (by simp)
      have n1 := hd.cell 1 (by simp)
      have n2 := hd.cell 2 (by simp)
      simp only [List.getElem_cons_succ, List.getElem_cons_zero] at n0 n1 n2
      have HR := hid hR
      clear hR hd
      clear HBX
      go_wp2_with fail
      refine bodyPost_ret (v := .tuple #[.agg #[.int .i64 0, .slice none 0 0, .slice none 0 0], .int .i64 code]) (by simp [results, Tryz.results10, go_sem, n0, n1, n2]) rfl HR.out
end Go.Proofs.YtgnlfceloiilbaaGreat
