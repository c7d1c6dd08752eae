/- Walks: the laws' own measures, copies, comparisons and marks of models. -/
import Derived.Test.YtolepbiepebclaaLM
namespace Go.Proofs.Ytolepbiepebclaa
open Go.RowKit
/-- a model's two owned rows, which lie apart -/
def OwnM (w : World) (B : Nat) (va vb : Value) (a b : List Int) : Prop := OwnI w B va a ∧ OwnI w B vb b ∧ Sep va vb
theorem OwnM.keeps {w w' : World} {B : Nat} {va vb : Value} {a b : List Int} (h : OwnM w B va vb a b) (k : Keeps w w') : OwnM w' B va vb a b := ⟨h.1.keeps k, h.2.1.keeps k, h.2.2⟩
theorem OwnM.mono {w : World} {B B' : Nat} {va vb : Value} {a b : List Int} (h : OwnM w B va vb a b) (k : B' ≤ B) : OwnM w B' va vb a b := ⟨h.1.mono k, h.2.1.mono k, h.2.2⟩
theorem OwnM.low {w w' : World} {B : Nat} {va vb : Value} {a b : List Int} (h : OwnM w B va vb a b) (k : Low w w' B) : OwnM w' B va vb a b := ⟨h.1.low k, h.2.1.low k, h.2.2⟩
theorem OwnM.lowOf {w0 w : World} {B : Nat} {va vb : Value} {a b : List Int} (h : OwnM w0 B va vb a b) (k : Keeps w0 w) : Low w0 w B := by have _ := h; exact Low.of k B
--
theorem szModel_any (n : Int) (p q : Option Addr) (m c m2 c2 : Nat) (left : Int) (w : World) (hm : m ≤ maxLen) (hm2 : m2 ≤ maxLen) (h0 : 0 ≤ left) (h1 : left ≤ 1048576) :
    Calls Try.prog 17 #[.agg #[.int .i64 n, .slice p m c, .slice q m2 c2], .int .i64 left] w fun e w' => e = .returned (.int .i64 (if left < m + m2 then -1 else left - m - m2)) ∧ Keeps w w' := by
  have k1 := (Keeps.refl w).alloc (.cells #[.int .i64 n, .slice p m c, .slice q m2 c2] 44)
  have HF := hid (fun w2 => szFrame_any n p m c left w2 hm h0 h1)
  by_cases h : left < m
  · rw [if_pos h] at HF
    rw [if_pos (by omega)]
    go_enter Try.func17, Try.ntmps17
    go_wp2_with fail
    refine (HF.out _).mono ?_; rintro e w2 ⟨rfl, k2⟩
    go_wp2_with fail
    go_ret
    exact ⟨rfl, k1.trans k2⟩
  · rw [if_neg h] at HF
    have HS := hid (fun w2 => szInt64S_any q m2 c2 (left - m) w2 hm2 (by omega) (by omega))
    have hlo : (0 : Int) ≤ left - m := by omega
    by_cases h2 : left - m < m2
    · rw [if_pos h2] at HS
      rw [if_pos (by omega)]
      go_enter Try.func17, Try.ntmps17
      go_wp2_with fail
      refine (HF.out _).mono ?_; rintro e w2 ⟨rfl, k2⟩
      obtain ⟨hc2, hf2⟩ := k2.both
      go_wp2_with fail
      refine (HS.out _).mono ?_; rintro e w3 ⟨rfl, rfl⟩
      go_wp2_with fail
      go_ret
      exact ⟨rfl, k1.trans k2⟩
    · rw [if_neg h2] at HS
      rw [if_neg (by omega)]
      have hlo2 : (0 : Int) ≤ left - m - m2 := by omega
      go_enter Try.func17, Try.ntmps17
      go_wp2_with fail
      refine (HF.out _).mono ?_; rintro e w2 ⟨rfl, k2⟩
      obtain ⟨hc2, hf2⟩ := k2.both
      go_wp2_with fail
      refine (HS.out _).mono ?_; rintro e w3 ⟨rfl, rfl⟩
      go_wp2_with fail
      go_ret
      exact ⟨rfl, k1.trans k2⟩
--
set_option maxRecDepth 20000 in
theorem toModel_any (n : Int) (a b : List Int) (va vb : Value) (w : World) (hva : Ints w va a) (hvb : Ints w vb b) :
    Calls Try.prog 19 #[.agg #[.int .i64 n, va, vb]] w fun e w' => ∃ va' vb', e = .returned (.agg #[.int .i64 n, va', vb']) ∧ OwnM w' w.heap.size va' vb' a b ∧ Keeps w w' := by
  obtain ⟨p, m, c, rfl⟩ := hva.shape
  obtain ⟨q, m2, c2, rfl⟩ := hvb.shape
  have kA := (((Keeps.refl w).alloc (.cells #[.int .i64 n, .slice p m c, .slice q m2 c2] 44)).alloc (.cells #[.int .i64 0, .slice none 0 0, .slice none 0 0] 29)).alloc (.cells #[.int .i64 0, .slice none 0 0, .slice none 0 0] 29)
  have HF := hid (toFrame_any n a _ _ (hva.keeps kA))
  have HT := hid (fun w2 (k : Keeps w w2) => toInt64S_any b _ w2 (hvb.keeps k))
  clear hva hvb
  go_enter Try.func19, Try.ntmps19
  go_wp2_with fail
  refine HF.out.mono ?_; rintro e w2 ⟨v2, rfl, hv2, k2⟩
  obtain ⟨p2, m3, c3, rfl⟩ := hv2.shape0
  obtain ⟨hc2, hf2⟩ := k2.both
  have hs2 := k2.size
  simp at hs2
  have g2 : w.heap.size + 1 + 1 < w2.heap.size := by omega
  have g1 : w.heap.size + 1 < w2.heap.size := by omega
  have kS := ((kA.trans k2).setCell (p := ⟨w.heap.size + 1 + 1, 0, none⟩) (by simp; omega) (.int .i64 n)).setCell (p := ⟨w.heap.size + 1 + 1, 1, none⟩) (by simp; omega) (.slice p2 m3 c3)
  have hO := (hv2.setBelow (b := w.heap.size + 1 + 1) (o := 0) (by simp) (.int .i64 n)).setBelow (b := w.heap.size + 1 + 1) (o := 1) (by simp) (.slice p2 m3 c3)
  have HT2 := hid (HT.out _ kS)
  clear HT
  go_wp2_with fail
  refine HT2.out.mono ?_; rintro e w3 ⟨v3, rfl, hv3, k3⟩
  have hsep : Sep (.slice p2 m3 c3) v3 := Sep.of hO hv3 (Nat.le_refl _)
  obtain ⟨p4, m4, c4, rfl⟩ := hv3.shape0
  obtain ⟨hc3, hf3⟩ := k3.both
  have hs3 := k3.size
  simp at hs3
  have g3 : w.heap.size + 1 + 1 < w3.heap.size := by omega
  go_wp2_with fail
  refine bodyPost_ret (v := .agg #[.int .i64 n, .slice p2 m3 c3, .slice p4 m4 c4]) (by simp [results, Try.results19, go_sem, hc2, hc3, g1, g2, g3]) rfl ?_
  have hO3 := hO.keeps k3
  exact ⟨_, _, rfl, ⟨((((hO3.setBelow (by simp) _).setBelow (by simp) _).setBelow (by simp) _).setBelow (by simp) _).mono (by simp; omega), ((((hv3.setBelow (by simp; omega) _).setBelow (by simp; omega) _).setBelow (by simp; omega) _).setBelow (by simp; omega) _).mono (by simp; omega), hsep⟩, ((((kS.trans k3).setCell (by simp; omega) _).setCell (by simp) _).setCell (by simp) _).setCell (by simp) _⟩
--
theorem eqModel_same (n : Int) (a b : List Int) (va vb ua ub : Value) (w : World) (hva : Ints w va a) (hvb : Ints w vb b) (hua : Ints w ua a) (hub : Ints w ub b) :
    Calls Try.prog 10 #[.agg #[.int .i64 n, va, vb], .agg #[.int .i64 n, ua, ub]] w fun e w' => e = .returned (.bool true) ∧ Keeps w w' := by
  obtain ⟨p1, n1, c1, rfl⟩ := hva.shape
  obtain ⟨p2, n2, c2, rfl⟩ := hvb.shape
  obtain ⟨p3, n3, c3, rfl⟩ := hua.shape
  obtain ⟨p4, n4, c4, rfl⟩ := hub.shape
  have k1 := ((Keeps.refl w).alloc (.cells #[.int .i64 n, .slice p1 n1 c1, .slice p2 n2 c2] 29)).alloc (.cells #[.int .i64 n, .slice p3 n3 c3, .slice p4 n4 c4] 29)
  have HF := hid (eqFrame_same n a _ _ _ (hva.keeps k1) (hua.keeps k1))
  have HE := hid (fun w2 (k : Keeps w w2) => eqInt64S_any b b _ _ w2 (hvb.keeps k) (hub.keeps k))
  rw [decide_eq_true rfl] at HE
  clear hva hvb hua hub
  go_enter Try.func10, Try.ntmps10
  go_wp2_with fail
  refine HF.out.mono ?_; rintro e w2 ⟨rfl, k2⟩
  have HE2 := hid (HE.out _ (k1.trans k2))
  clear HE
  obtain ⟨hc2, hf2⟩ := k2.both
  go_wp2_with fail
  refine HE2.out.mono ?_; rintro e w3 ⟨rfl, k3⟩
  go_wp2_with fail
  go_ret
  exact ⟨rfl, k1.trans (k2.trans k3)⟩
--
theorem markM_t (n : Int) (a b : List Int) (va vb : Value) (k0 : Int) (w0 w : World) (B : Nat) (hv : OwnM w0 B va vb a b) (k : Low w0 w B) (hl : a.length + b.length ≤ 2147483648) (hk0 : 0 ≤ k0) (hk1 : k0 ≤ 1073741824) :
    Calls Try.prog 15 #[.agg #[.int .i64 n, va, vb], .int .i64 k0] w fun e w' => e = .returned (.int .i64 (k0 + a.length + b.length)) ∧ OwnM w' B va vb (marksI a.length k0) (marksI b.length (k0 + a.length)) ∧ Touch w w' (fun i => B ≤ i ∧ i < w0.heap.size) := by
  obtain ⟨h1, h2, hs⟩ := hv
  have hl1 := h1.len
  have hl2 := h2.len
  obtain ⟨p1, n1, c1, rfl⟩ := h1.shape0
  obtain ⟨p2, n2, c2, rfl⟩ := h2.shape0
  have k1 := (Keeps.refl w).alloc (.cells #[.int .i64 n, .slice p1 n1 c1, .slice p2 n2 c2] 29)
  have hBw := k.size
  have HF := hid (markF_t n a _ k0 w0 _ B h1 (k.keeps k1) (by omega) hk0 (by omega))
  have hb0 := (h2.low (k.keeps k1))
  have HO := hid hb0; clear hb0
  have HS := hid hs; clear hs
  have HL1 := hid hl1; clear hl1
  have HL2 := hid hl2; clear hl2
  have HM := hid (fun w2 (h : OwnI w2 B (.slice p2 n2 c2) b) => markInt64S_any b _ (k0 + a.length) w2 B h (by omega) (by omega) (by omega))
  have HK := hid k; clear k
  clear h1 h2
  go_enter Try.func15, Try.ntmps15
  go_wp2_with fail
  refine HF.out.mono ?_; rintro e w2 ⟨rfl, hv2, t2⟩
  have hbx : (w.alloc (.cells #[.int .i64 n, .slice p1 n1 c1, .slice p2 n2 c2] 29)).cell? ⟨w.heap.size, 2, none⟩ = some (.slice p2 n2 c2) := by simp
  have hnb : ¬ (some w.heap.size = (Value.slice p1 n1 c1).ownBlock) := fun e => by have := HL1.out _ e.symm; omega
  have hc2 : w2.cell? ⟨w.heap.size, 2, none⟩ = some (.slice p2 n2 c2) := by rw [(t2.cell (b := w.heap.size) (by simp) hnb).1]; exact hbx
  have HB := hid (HO.out.touch t2 (fun i e1 e2 => HS.out i e2.symm e1))
  clear hbx hnb
  have HM2 := hid (HM.out _ HB.out)
  clear HM
  go_wp2_with fail
  refine HM2.out.mono ?_; rintro e w3 ⟨rfl, hv3, g3⟩
  go_wp2_with fail
  go_ret
  refine ⟨ret_int (by omega), ⟨hv2.touch (Touch.grown g3) (fun i e1 e2 => HS.out i e1 e2.symm), hv3, HS.out⟩, ?_⟩
  refine touch_pre k1 (Touch.trans (t2.mono fun i e => HL1.out i e.symm) ((Touch.grown g3).mono fun i e => HL2.out i e.symm))
--
theorem heldModel_any (m : Int) (n l : Nat) (va vb : Value) (k0 : Int) (w : World) (hva : Ints w va (marksI n k0)) (hvb : Ints w vb (marksI l (k0 + n))) (hk0 : 0 ≤ k0) (hk1 : k0 ≤ 1073741824) (hn : n + l ≤ 1073741824) :
    Calls Try.prog 16 #[.agg #[.int .i64 m, va, vb], .int .i64 k0] w fun e w' => e = .returned (.int .i64 (k0 + n + l)) ∧ Keeps w w' := by
  obtain ⟨p1, n1, c1, rfl⟩ := hva.shape
  obtain ⟨p2, n2, c2, rfl⟩ := hvb.shape
  have k1 := (Keeps.refl w).alloc (.cells #[.int .i64 m, .slice p1 n1 c1, .slice p2 n2 c2] 29)
  have HF := hid (heldFrame_any m n _ k0 _ (hva.keeps k1) hk0 (by omega) (by omega))
  have HM := hid (fun w2 (k : Keeps w w2) => heldInt64S_any l _ (k0 + n) w2 (hvb.keeps k) (by omega) (by omega))
  clear hva hvb
  go_enter Try.func16, Try.ntmps16
  go_wp2_with fail
  refine HF.out.mono ?_; rintro e w2 ⟨rfl, k2⟩
  have HM2 := hid (HM.out _ (k1.trans k2))
  clear HM
  obtain ⟨hc2, hf2⟩ := k2.both
  go_wp2_with fail
  refine HM2.out.mono ?_; rintro e w3 ⟨rfl, rfl⟩
  go_wp2_with fail
  go_ret
  exact ⟨rfl, k1.trans k2⟩
end Go.Proofs.Ytolepbiepebclaa
