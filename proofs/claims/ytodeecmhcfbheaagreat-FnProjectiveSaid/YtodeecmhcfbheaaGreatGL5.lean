/- Walks: the laws' comparisons and marks of lists of node lists and of rules. -/
import Derived.Test.YtodeecmhcfbheaaGreatGB2
namespace Go.Proofs.YtodeecmhcfbheaaGreat
open Go.RowKit
--
set_option maxRecDepth 20000 in
set_option maxHeartbeats 1000000 in
theorem eqNodeSS_any (a b : List (List Nd)) (va vb : Value) (w : World) (hva : NdsL w va a) (hvb : NdsL w vb b) :
    Calls Tryz.prog 33 #[va, vb] w fun e w' => e = .returned (.bool (decide (a = b))) ∧ Keeps w w' := by
  have hva0 := hva
  have hvb0 := hvb
  obtain ⟨pa, ca, rfl, hlea, hmxa, hlena, _⟩ := hva
  obtain ⟨pb, cb, rfl, hleb, hmxb, hlenb, _⟩ := hvb
  unfold maxLen at hmxa hmxb
  by_cases hl : a.length = b.length
  · have hl' : ((a.length : Int) != (b.length : Int)) = false := by simp [hl]
    have HL := hid hl; clear hl
    go_enter Tryz.func33, Tryz.ntmps33
    go_wp2
    go_loopw [4, 5] (fun r i' wr => ∃ k : Nat, k ≤ a.length ∧ a.take k = b.take k ∧ Keeps w wr ∧ i' = .int .i64 k ∧ r = .bool false) (fun _ i _ => a.length - (intOf i).toNat)
    case atStart => exact ⟨0, by omega, rfl, Keeps.refl w, rfl, rfl⟩
    case round =>
      obtain ⟨k, hk, htk, kw, rfl, rfl⟩ := hrel
      have HT := hid htk; clear htk
      clear hl'
      by_cases hlt : k < a.length
      · have hltb : k < b.length := by have := HL.out; omega
        obtain ⟨b1, o1, u1, rfl, c1, h1⟩ := (hva0.keeps kw).get k hlt
        obtain ⟨b2, o2, u2, rfl, c2, h2⟩ := (hvb0.keeps kw).get k hltb
        clear hva0 hvb0
        have hlt' : (k : Int) < a.length := by omega
        have hltb' : (k : Int) < b.length := by omega
        have h1 := h1.keeps (Keeps.refl wr).drew
        have h2 := h2.keeps (Keeps.refl wr).drew
        obtain ⟨p1, n1, q1, rfl⟩ := h1.shape
        obtain ⟨p2, n2, q2, rfl⟩ := h2.shape
        go_wp2_with fail
        go_still_tail 8, (by kernel_rfl)
        by_cases he : a[k] = b[k]
        · have hd : decide (a[k] = b[k]) = true := by simp [he]
          have HE := hid he; clear he
          go_wp2_with (go_at_call 34; refine (eqNodeS_any a[k] b[k] _ _ _ h1 h2).mono ?_; rintro e w2 ⟨rfl, k2⟩; rw [hd])
          go_roundw
          case rel => exact ⟨k + 1, by omega, by rw [List.take_succ_eq_append_getElem hlt, List.take_succ_eq_append_getElem hltb, HT.out, HE.out], kw.drew.trans k2, by go_num, rfl⟩
          case measure => simp [intOf]; omega
        · have hd : decide (a[k] = b[k]) = false := by simp [he]
          have HE := hid he; clear he
          go_wp2_with (go_at_call 34; refine (eqNodeS_any a[k] b[k] _ _ _ h1 h2).mono ?_; rintro e w2 ⟨rfl, k2⟩; rw [hd])
          go_ret
          refine ⟨ret_bool ?_, kw.drew.trans k2⟩
          symm; rw [decide_eq_false_iff_not]
          rintro rfl; exact HE.out rfl
      · go_wp2
        go_ret
        refine ⟨ret_bool ?_, kw⟩
        symm; rw [decide_eq_true_eq]
        have h1 := HL.out; have h2 := HT.out
        rw [List.take_of_length_le (by omega), List.take_of_length_le (by omega)] at h2
        exact h2
  · have hl' : ((a.length : Int) != (b.length : Int)) = true := by simp; omega
    have HL := hid hl; clear hl
    go_enter Tryz.func33, Tryz.ntmps33
    go_wp2
    go_ret
    refine ⟨ret_bool ?_, Keeps.refl _⟩
    symm; rw [decide_eq_false_iff_not]
    rintro rfl; exact HL.out rfl
--
set_option maxRecDepth 20000 in
set_option maxHeartbeats 1000000 in
theorem markNodeSS_any (xs : List (List Nd)) (vs : List Value) (p : Option Addr) (cap : Nat) (k0 : Int) (w : World) (B : Nat) (hat : At w p vs) (hr : RowsN w B vs xs) (hap : Apart vs) (hoff : Off (.slice p xs.length cap) vs)
    (hl : xs.length ≤ 2147483648) (ht : tot xs ≤ 1073741824) (hk0 : 0 ≤ k0) (hk1 : k0 ≤ 2147483648) :
    Calls Tryz.prog 36 #[.slice p xs.length cap, .int .i64 k0] w fun e w' => e = .returned (.int .i64 (k0 + 2 * tot xs)) ∧ RowsN w' B vs (marksL xs k0) ∧ Touch w w' (blk vs) := by
  have hvl := hr.1
  have HR := hid hr; clear hr
  have HA := hid hap; clear hap
  have HO := hid hoff; clear hoff
  go_enter Tryz.func36, Tryz.ntmps36
  go_wp2
  go_loopw [1, 5] (fun c i' wr => ∃ (i : Nat) (ys : List (List Nd)), i ≤ xs.length ∧ i' = .int .i64 i ∧ c = .int .i64 (k0 + 2 * tot (xs.take i)) ∧ ys.length = xs.length ∧ ys.take i = (marksL xs k0).take i ∧ ys.drop i = xs.drop i ∧ RowsN wr B vs ys ∧ Touch w wr (blk vs)) (fun _ i _ => xs.length - (intOf i).toNat)
  case atStart => exact ⟨0, xs, by omega, rfl, by simp [tot], rfl, by simp, rfl, HR.out, Touch.refl _ _⟩
  case round =>
    obtain ⟨i, ys, hi, rfl, rfl, hyl, hyt, hyd, hry, tw⟩ := hrel
    have HY := hid hyl; clear hyl
    have HT := hid hyt; clear hyt
    have HD := hid hyd; clear hyd
    have HRY := hid hry; clear hry
    by_cases hlt : i < xs.length
    · have hiv : i < vs.length := by omega
      obtain ⟨b, off, rfl, hc⟩ := hat i hiv
      have hbl : b < w.heap.size := World.block_lt_of_cell? _ _ hc
      have hcr : wr.cell? ⟨b, off + i, none⟩ = some vs[i] := by rw [(tw.cell hbl (HO.out.not_blk rfl)).1]; exact hc
      have hiy : i < ys.length := by have := HY.out; omega
      have hyi : ys[i] = xs[i] := by
        have h := congrArg List.head? HD.out
        rw [List.head?_drop, List.head?_drop, List.getElem?_eq_getElem hiy, List.getElem?_eq_getElem hlt] at h
        exact Option.some.inj h
      have hown := HRY.out.2 i hiv hiy
      rw [hyi] at hown
      have htm := tot_mem xs i hlt
      have hti := tot_le xs i
      have HM := hid (markNodeS_any xs[i] vs[i] (k0 + 2 * tot (xs.take i)) wr B hown (by omega) (by omega) (by omega))
      obtain ⟨pi, ci, hvi, _⟩ := At.of_own hown
      have HW := hid hown; clear hown hc hat
      have hlt' : (i : Int) < xs.length := by omega
      go_wp2_with fail
      rw [hvi] at HM hcr
      go_wp2_with (go_at_call 35; refine HM.out.mono ?_; rintro e w2 ⟨rfl, hz, g2⟩)
      rw [← hvi] at hz g2
      go_roundw
      case rel =>
        refine ⟨i + 1, ys.set i (marksN xs[i].length (k0 + 2 * tot (xs.take i))), by omega, by go_num, ?_, ?_, ?_, ?_, HRY.out.update HA.out i hiv g2 hz, ?_⟩
        · rw [tot_take xs i hlt]; congr 1; push_cast; omega
        · rw [List.length_set]; exact HY.out
        · have hml : i < (marksL xs k0).length := by rw [marksL_length]; exact hlt
          rw [take_set _ _ _ hiy, List.take_succ_eq_append_getElem hml, HT.out, marksL_get xs k0 i hml hlt]
        · rw [List.drop_set_of_lt (by omega), ← List.drop_drop, ← List.drop_drop, HD.out]
        · exact tw.trans ((Touch.grown g2).mono (fun k hk => ⟨i, hiv, hk.symm⟩))
      case measure => simp [intOf]; omega
    · go_wp2
      go_ret
      obtain rfl : i = xs.length := by omega
      have hx : ys = marksL xs k0 := by
        have h1 := HY.out; have h2 := HT.out
        rw [List.take_of_length_le (by omega), List.take_of_length_le (by rw [marksL_length]; omega)] at h2
        exact h2
      subst hx
      rw [List.take_length]
      exact ⟨rfl, HRY.out, tw⟩
--
set_option maxRecDepth 20000 in
set_option maxHeartbeats 1000000 in
theorem heldNodeSS_any (xs : List (List Nd)) (v : Value) (k0 : Int) (w : World) (hv : NdsL w v (marksL xs k0)) (ht : tot xs ≤ 1073741824) (hk0 : 0 ≤ k0) (hk1 : k0 ≤ 2147483648) :
    Calls Tryz.prog 37 #[v, .int .i64 k0] w fun e w' => e = .returned (.int .i64 (k0 + 2 * tot xs)) ∧ w = w' := by
  have hv0 := hv
  obtain ⟨p, cap, rfl, hle, hmx, hlen, _⟩ := hv
  rw [marksL_length] at *
  unfold maxLen at hmx
  go_enter Tryz.func37, Tryz.ntmps37
  go_wp2
  go_loop [1, 4, 5] (fun c r i' => ∃ i : Nat, i ≤ xs.length ∧ i' = .int .i64 i ∧ c = .int .i64 (k0 + 2 * tot (xs.take i)) ∧ r = .int .i64 0) (fun _ _ i => xs.length - (intOf i).toNat)
  case atStart => exact ⟨0, by omega, rfl, by simp [tot], rfl⟩
  case round =>
    obtain ⟨i, hi, rfl, rfl, rfl⟩ := hrel
    by_cases hlt : i < xs.length
    · have hml : i < (marksL xs k0).length := by rw [marksL_length]; exact hlt
      obtain ⟨b, off, u, rfl, hc, hu⟩ := hv0.get i hml
      rw [marksL_get xs k0 i hml hlt] at hu
      clear hv0
      have htm := tot_mem xs i hlt
      have HM := hid (heldNodeS_any _ _ _ _ hu (by omega) (by omega))
      have hlt' : (i : Int) < xs.length := by omega
      clear hu
      have hpos : decide (k0 + 2 * (tot (xs.take i) : Int) + 2 * (xs[i].length : Int) < 0) = false := by simp; omega
      go_wp2_with (go_at_call 111; refine HM.out.mono ?_; rintro e w' ⟨rfl, rfl⟩)
      go_round
      case rel => exact ⟨i + 1, by omega, by go_num, by rw [tot_take xs i hlt]; congr 1; push_cast; omega, rfl⟩
      case measure => simp [intOf]; omega
    · go_wp2
      go_ret
      obtain rfl : i = xs.length := by omega
      rw [List.take_length]
      exact ⟨rfl, rfl⟩
end Go.Proofs.YtodeecmhcfbheaaGreat
/- Walks: the laws' comparisons and marks of rules. -/
namespace Go.Proofs.YtodeecmhcfbheaaGreat
open Go.RowKit
theorem agg_shape {w : World} {v : Value} {xs : List (List Nd)} (h : NdsL w v xs) : ∃ p n c, v = .slice p n c := by
  obtain ⟨p, c, e, _⟩ := h
  exact ⟨p, _, c, e⟩
--
set_option maxRecDepth 20000 in
set_option maxHeartbeats 1000000 in
theorem eqLogicRule_any (xs ys : List (List Nd)) (c d : List Nd) (v u v' u' : Value) (w : World) (hv : NdsL w v xs) (hu : Nds w u c) (hv' : NdsL w v' ys) (hu' : Nds w u' d) :
    Calls Tryz.prog 40 #[.agg #[v, u], .agg #[v', u']] w fun e w' => e = .returned (.bool (decide (xs = ys) && decide (c = d))) ∧ Keeps w w' := by
  obtain ⟨p1, n1, q1, rfl⟩ := agg_shape hv
  obtain ⟨p2, n2, q2, rfl⟩ := hu.shape
  obtain ⟨p3, n3, q3, rfl⟩ := agg_shape hv'
  obtain ⟨p4, n4, q4, rfl⟩ := hu'.shape
  have k1 := ((Keeps.refl w).alloc (.cells #[.slice p1 n1 q1, .slice p2 n2 q2] 37)).alloc (.cells #[.slice p3 n3 q3, .slice p4 n4 q4] 37)
  have HE := hid (eqNodeSS_any xs ys _ _ _ (hv.keeps k1) (hv'.keeps k1))
  have HF := hid (fun w2 (k2 : Keeps _ w2) => eqNodeS_any c d _ _ w2 ((hu.keeps k1).keeps k2) ((hu'.keeps k1).keeps k2))
  cases hd : decide (xs = ys)
  · have HD := hid hd; clear hd
    go_enter Tryz.func40, Tryz.ntmps40
    go_wp2_with fail
    refine HE.out.mono ?_; rintro e w2 ⟨rfl, k2⟩; rw [HD.out]
    go_wp2_with fail
    go_ret
    exact ⟨rfl, k1.trans k2⟩
  · have HD := hid hd; clear hd
    have a0 : ((w.alloc (.cells #[.slice p1 n1 q1, .slice p2 n2 q2] 37)).alloc (.cells #[.slice p3 n3 q3, .slice p4 n4 q4] 37)).cell? ⟨w.heap.size, 1, none⟩ = some (.slice p2 n2 q2) := by
      rw [World.cell?_alloc_lt (h := by simp)]; simp
    have b0 : ((w.alloc (.cells #[.slice p1 n1 q1, .slice p2 n2 q2] 37)).alloc (.cells #[.slice p3 n3 q3, .slice p4 n4 q4] 37)).cell? ⟨w.heap.size + 1, 1, none⟩ = some (.slice p4 n4 q4) := by
      have : w.heap.size + 1 = (w.alloc (.cells #[.slice p1 n1 q1, .slice p2 n2 q2] 37)).heap.size := by simp
      rw [this]; simp
    cases hf : decide (c = d)
    all_goals
      have HG := hid hf; clear hf
      go_enter Tryz.func40, Tryz.ntmps40
      go_wp2_with fail
      refine HE.out.mono ?_; rintro e w2 ⟨rfl, k2⟩; rw [HD.out]
      have a1 := k2.cell a0
      have b1 := k2.cell b0
      go_wp2_with fail
      refine (HF.out w2 k2).mono ?_; rintro e w3 ⟨rfl, k3⟩; rw [HG.out]
      go_wp2_with fail
      go_ret
      exact ⟨rfl, (k1.trans k2).trans k3⟩
--
theorem eqLogicRule_same (xs : List (List Nd)) (c : List Nd) (v u v' u' : Value) (w : World) (hv : NdsL w v xs) (hu : Nds w u c) (hv' : NdsL w v' xs) (hu' : Nds w u' c) :
    Calls Tryz.prog 40 #[.agg #[v, u], .agg #[v', u']] w fun e w' => e = .returned (.bool true) ∧ Keeps w w' := by
  have h := eqLogicRule_any xs xs c c v u v' u' w hv hu hv' hu'
  rw [decide_eq_true rfl, decide_eq_true rfl] at h
  exact h
--
theorem touch_pre {w w1 w2 : World} {S : Nat → Prop} (h : Keeps w w1) (k : Touch w1 w2 S) : Touch w w2 S := (Touch.of_keeps h S).trans k
theorem blk_cons {u : Value} {vs : List Value} {k : Nat} : blk (u :: vs) k ↔ u.ownBlock = some k ∨ blk vs k := by
  constructor
  · rintro ⟨i, hi, e⟩
    cases i with
    | zero => exact .inl e
    | succ i => exact .inr ⟨i, by simpa using hi, e⟩
  · rintro (h | ⟨i, hi, e⟩)
    · exact ⟨0, by simp, h⟩
    · exact ⟨i + 1, by simpa using hi, e⟩
set_option maxRecDepth 20000 in
set_option maxHeartbeats 1000000 in
theorem markLogicRule_any (xs : List (List Nd)) (c : List Nd) (vs : List Value) (p : Option Addr) (cap : Nat) (u : Value) (k0 : Int) (w : World) (B : Nat) (hat : At w p vs) (hr : RowsN w B (u :: vs) (c :: xs)) (hap : Apart (u :: vs))
    (hoff : Off (.slice p xs.length cap) (u :: vs)) (hl : xs.length ≤ 2147483648) (ht : tot xs + c.length ≤ 1073741824) (hk0 : 0 ≤ k0) (hk1 : k0 ≤ 1073741824) :
    Calls Tryz.prog 41 #[.agg #[.slice p xs.length cap, u], .int .i64 k0] w fun e w' => e = .returned (.int .i64 (k0 + 2 * (tot xs + c.length))) ∧ RowsN w' B (u :: vs) (marksN c.length (k0 + 2 * tot xs) :: marksL xs k0) ∧ Touch w w' (blk (u :: vs)) := by
  have hu := hr.head
  obtain ⟨pu, cu, rfl, _⟩ := At.of_own hu
  generalize hn : c.length = n at *
  have k1 := (Keeps.refl w).alloc (.cells #[.slice p xs.length cap, .slice pu n cu] 37)
  have hoff' : Off (.slice p xs.length cap) vs := fun i hi k hk => hoff (i + 1) (by simpa using hi) k hk
  have hnb := fun (k : Nat) (hk : blk (.slice pu n cu :: vs) k) => (hr.lt hk).2
  have HM := hid (markNodeSS_any xs vs p cap k0 _ B (hat.keeps k1) (hr.keeps k1).tail hap.tail hoff' hl (by omega) hk0 (by omega))
  have HU := hid (hu.keeps k1)
  have HH := hid hap.head
  clear hu hr hap hoff hat
  go_enter Tryz.func41, Tryz.ntmps41
  go_wp2_with fail
  refine HM.out.mono ?_; rintro e w2 ⟨rfl, hr2, t2⟩
  have hne : ¬ blk vs w.heap.size := fun h => by have := hnb _ (blk_cons.2 (.inr h)); omega
  have hc2 : w2.cell? ⟨w.heap.size, 1, none⟩ = some (.slice pu n cu) := by rw [(t2.cell (by simp) hne).1]; simp
  have hu2 : OwnN w2 B (.slice pu n cu) c := HU.out.touch t2 (fun k hk => HH.out.not_blk hk)
  have HN := hid (markNodeS_any c _ (k0 + 2 * tot xs) w2 B hu2 (by omega) (by omega) (by omega))
  rw [hn] at HN
  go_wp2_with fail
  refine HN.out.mono ?_; rintro e w3 ⟨rfl, hz, g3⟩
  go_wp2_with fail
  go_ret
  refine ⟨ret_int (by push_cast; omega), ?_, ?_⟩
  · exact RowsN.cons hz (hr2.touch (Touch.grown g3) (fun k hk e => HH.out.not_blk e.symm hk))
  · refine (touch_pre k1 (t2.mono (fun k hk => blk_cons.2 (.inr hk)))).trans ((Touch.grown g3).mono (fun k hk => blk_cons.2 (.inl hk.symm)))
end Go.Proofs.YtodeecmhcfbheaaGreat
/- What returns a rule and an error; the laws of such functions. -/
namespace Go.Proofs.YtodeecmhcfbheaaGreat
open Go.RowKit
theorem At.touch {w w' : World} {S : Nat → Prop} {p : Option Addr} {vs : List Value} (h : At w p vs) (k : Touch w w' S) (hS : ∀ b off, p = some ⟨b, off, none⟩ → ¬ S b) : At w' p vs := fun j hj => by
  obtain ⟨b, off, hp, hc⟩ := h j hj
  exact ⟨b, off, hp, by rw [(k.cell (World.block_lt_of_cell? _ _ hc) (hS b off hp)).1]; exact hc⟩
def RetRE (w : World) (xs : List (List Nd)) (c : List Nd) (code : Int) (e : Ending) (w' : World) : Prop :=
  ∃ v u, e = .returned (.tuple #[.agg #[v, u], .int .i64 code]) ∧ OwnR w' w.heap.size v u xs c ∧ Keeps w w'
end Go.Proofs.YtodeecmhcfbheaaGreat
