/- Walks: the laws' comparisons and marks of lists of node lists and of rules. -/
import Derived.Test.YtajjlnonmaghlaaGreatGB2
namespace Go.Proofs.YtajjlnonmaghlaaGreat
open Go.RowKit
--
set_option maxRecDepth 20000 in
set_option maxHeartbeats 1000000 in
theorem eqNodeSS_any (a b : List (List Nd)) (va vb : Value) (w : World) (hva : NdsL w va a) (hvb : NdsL w vb b) :
    Calls Tryz.prog 20 #[va, vb] w fun e w' => e = .returned (.bool (decide (a = b))) ∧ Keeps w w' := by
  have hva0 := hva
  have hvb0 := hvb
  obtain ⟨pa, ca, rfl, hlea, hmxa, hlena, _⟩ := hva
  obtain ⟨pb, cb, rfl, hleb, hmxb, hlenb, _⟩ := hvb
  unfold maxLen at hmxa hmxb
  by_cases hl : a.length = b.length
  · have hl' : ((a.length : Int) != (b.length : Int)) = false := by simp [hl]
    have HL := hid hl; clear hl
    go_enter Tryz.func20, Tryz.ntmps20
    go_wp2
    go_loopw [4, 5] (fun r i' wr => ∃ k : Nat, k ≤ a.length ∧ a.take k = b.take k ∧ Keeps w wr ∧ i' = .int .i64 k ∧ r = .bool false) (fun _ i _ => a.length - (intOf i).toNat)
    case atStart => exact ⟨0, by omega, rfl, Keeps.refl w, rfl, rfl⟩
    case round =>
      obtain ⟨k, hk, htk, kw, rfl, rfl⟩ := hrel
      have HT := hid htk; clear htk
      clear hl'
      by_cases hlt : k < a.length
      · have hltb : k < b.length := by have := HL.out; omega
        obtain ⟨b1, o1, u1, rfl, c1, h1⟩ := (hva0.keeps kw).get k hlt
        obtain ⟨b2, o2, u2, rfl, c2, h2⟩ := (hvb0.keeps kw).get k hltb
        clear hva0 hvb0
        have hlt' : (k : Int) < a.length := by omega
        have hltb' : (k : Int) < b.length := by omega
        have h1 := h1.keeps (Keeps.refl wr).drew
        have h2 := h2.keeps (Keeps.refl wr).drew
        obtain ⟨p1, n1, q1, rfl⟩ := h1.shape
        obtain ⟨p2, n2, q2, rfl⟩ := h2.shape
        go_wp2_with fail
        go_still_tail 8, (by kernel_rfl)
        by_cases he : a[k] = b[k]
        · have hd : decide (a[k] = b[k]) = true := by simp [he]
          have HE := hid he; clear he
          go_wp2_with (go_at_call 13; refine (eqNodeS_any a[k] b[k] _ _ _ h1 h2).mono ?_; rintro e w2 ⟨rfl, k2⟩; rw [hd])
          go_roundw
          case rel => exact ⟨k + 1, by omega, by rw [List.take_succ_eq_append_getElem hlt, List.take_succ_eq_append_getElem hltb, HT.out, HE.out], kw.drew.trans k2, by go_num, rfl⟩
          case measure => simp [intOf]; omega
        · have hd : decide (a[k] = b[k]) = false := by simp [he]
          have HE := hid he; clear he
          go_wp2_with (go_at_call 13; refine (eqNodeS_any a[k] b[k] _ _ _ h1 h2).mono ?_; rintro e w2 ⟨rfl, k2⟩; rw [hd])
          go_ret
          refine ⟨ret_bool ?_, kw.drew.trans k2⟩
          symm; rw [decide_eq_false_iff_not]
          rintro rfl; exact HE.out rfl
      · go_wp2
        go_ret
        refine ⟨ret_bool ?_, kw⟩
        symm; rw [decide_eq_true_eq]
        have h1 := HL.out; have h2 := HT.out
        rw [List.take_of_length_le (by omega), List.take_of_length_le (by omega)] at h2
        exact h2
  · have hl' : ((a.length : Int) != (b.length : Int)) = true := by simp; omega
    have HL := hid hl; clear hl
    go_enter Tryz.func20, Tryz.ntmps20
    go_wp2
    go_ret
    refine ⟨ret_bool ?_, Keeps.refl _⟩
    symm; rw [decide_eq_false_iff_not]
    rintro rfl; exact HL.out rfl
end Go.Proofs.YtajjlnonmaghlaaGreat
/- Walks: the laws' comparisons and marks of rules. -/
namespace Go.Proofs.YtajjlnonmaghlaaGreat
open Go.RowKit
theorem agg_shape {w : World} {v : Value} {xs : List (List Nd)} (h : NdsL w v xs) : ∃ p n c, v = .slice p n c := by
  obtain ⟨p, c, e, _⟩ := h
  exact ⟨p, _, c, e⟩
--
set_option maxRecDepth 20000 in
set_option maxHeartbeats 1000000 in
theorem eqLogicRule_any (xs ys : List (List Nd)) (c d : List Nd) (v u v' u' : Value) (w : World) (hv : NdsL w v xs) (hu : Nds w u c) (hv' : NdsL w v' ys) (hu' : Nds w u' d) :
    Calls Tryz.prog 25 #[.agg #[v, u], .agg #[v', u']] w fun e w' => e = .returned (.bool (decide (xs = ys) && decide (c = d))) ∧ Keeps w w' := by
  obtain ⟨p1, n1, q1, rfl⟩ := agg_shape hv
  obtain ⟨p2, n2, q2, rfl⟩ := hu.shape
  obtain ⟨p3, n3, q3, rfl⟩ := agg_shape hv'
  obtain ⟨p4, n4, q4, rfl⟩ := hu'.shape
  have k1 := ((Keeps.refl w).alloc (.cells #[.slice p1 n1 q1, .slice p2 n2 q2] 42)).alloc (.cells #[.slice p3 n3 q3, .slice p4 n4 q4] 42)
  have HE := hid (eqNodeSS_any xs ys _ _ _ (hv.keeps k1) (hv'.keeps k1))
  have HF := hid (fun w2 (k2 : Keeps _ w2) => eqNodeS_any c d _ _ w2 ((hu.keeps k1).keeps k2) ((hu'.keeps k1).keeps k2))
  cases hd : decide (xs = ys)
  · have HD := hid hd; clear hd
    go_enter Tryz.func25, Tryz.ntmps25
    go_wp2_with fail
    refine HE.out.mono ?_; rintro e w2 ⟨rfl, k2⟩; rw [HD.out]
    go_wp2_with fail
    go_ret
    exact ⟨rfl, k1.trans k2⟩
  · have HD := hid hd; clear hd
    have a0 : ((w.alloc (.cells #[.slice p1 n1 q1, .slice p2 n2 q2] 42)).alloc (.cells #[.slice p3 n3 q3, .slice p4 n4 q4] 42)).cell? ⟨w.heap.size, 1, none⟩ = some (.slice p2 n2 q2) := by
      rw [World.cell?_alloc_lt (h := by simp)]; simp
    have b0 : ((w.alloc (.cells #[.slice p1 n1 q1, .slice p2 n2 q2] 42)).alloc (.cells #[.slice p3 n3 q3, .slice p4 n4 q4] 42)).cell? ⟨w.heap.size + 1, 1, none⟩ = some (.slice p4 n4 q4) := by
      have : w.heap.size + 1 = (w.alloc (.cells #[.slice p1 n1 q1, .slice p2 n2 q2] 42)).heap.size := by simp
      rw [this]; simp
    cases hf : decide (c = d)
    all_goals
      have HG := hid hf; clear hf
      go_enter Tryz.func25, Tryz.ntmps25
      go_wp2_with fail
      refine HE.out.mono ?_; rintro e w2 ⟨rfl, k2⟩; rw [HD.out]
      have a1 := k2.cell a0
      have b1 := k2.cell b0
      go_wp2_with fail
      refine (HF.out w2 k2).mono ?_; rintro e w3 ⟨rfl, k3⟩; rw [HG.out]
      go_wp2_with fail
      go_ret
      exact ⟨rfl, (k1.trans k2).trans k3⟩
--
theorem eqLogicRule_same (xs : List (List Nd)) (c : List Nd) (v u v' u' : Value) (w : World) (hv : NdsL w v xs) (hu : Nds w u c) (hv' : NdsL w v' xs) (hu' : Nds w u' c) :
    Calls Tryz.prog 25 #[.agg #[v, u], .agg #[v', u']] w fun e w' => e = .returned (.bool true) ∧ Keeps w w' := by
  have h := eqLogicRule_any xs xs c c v u v' u' w hv hu hv' hu'
  rw [decide_eq_true rfl, decide_eq_true rfl] at h
  exact h
end Go.Proofs.YtajjlnonmaghlaaGreat
/- What returns a rule and an error; the laws of such functions. -/
namespace Go.Proofs.YtajjlnonmaghlaaGreat
open Go.RowKit
theorem At.touch {w w' : World} {S : Nat → Prop} {p : Option Addr} {vs : List Value} (h : At w p vs) (k : Touch w w' S) (hS : ∀ b off, p = some ⟨b, off, none⟩ → ¬ S b) : At w' p vs := fun j hj => by
  obtain ⟨b, off, hp, hc⟩ := h j hj
  exact ⟨b, off, hp, by rw [(k.cell (World.block_lt_of_cell? _ _ hc) (hS b off hp)).1]; exact hc⟩
def RetRE (w : World) (xs : List (List Nd)) (c : List Nd) (code : Int) (e : Ending) (w' : World) : Prop :=
  ∃ v u, e = .returned (.tuple #[.agg #[v, u], .int .i64 code]) ∧ OwnR w' w.heap.size v u xs c ∧ Keeps w w'
end Go.Proofs.YtajjlnonmaghlaaGreat
