/- Walks: the laws' own copies, comparisons and marks of node lists and number lists. -/
import Derived.Test.YtajjlnonmaghlaaGreatGW2
namespace Go.Proofs.YtajjlnonmaghlaaGreat
open Go.RowKit

--
theorem szNodeS_any (p : Option Addr) (n cap : Nat) (left : Int) (w : World) (hn : n ≤ maxLen) (h0 : 0 ≤ left) (h1 : left ≤ 1048576) :
    Calls Tryz.prog 9 #[.slice p n cap, .int .i64 left] w fun e w' => e = .returned (.int .i64 (if left < n then -1 else left - n)) ∧ w = w' := by
  unfold maxLen at hn
  by_cases h : left < n
  all_goals
    go_enter Tryz.func9, Tryz.ntmps9
    go_wp2
    go_ret
    exact ⟨ret_int (by first | rfl | omega), rfl⟩
--
theorem toNode_any (x : Nd) (w : World) :
    Calls Tryz.prog 33 #[.agg #[.int .i64 x.k, .int .i64 x.s]] w fun e w' => e = .returned (.agg #[.int .i64 x.k, .int .i64 x.s]) ∧ Keeps w w' := by
  go_enter Tryz.func33, Tryz.ntmps33
  go_wp2
  refine bodyPost_ret (v := .agg #[.int .i64 x.k, .int .i64 x.s]) (by simp [results, Tryz.results33, go_sem]) rfl ⟨rfl, ?_⟩
  exact (((Keeps.refl w).alloc _).alloc _).alloc _
--
set_option maxRecDepth 20000 in
set_option maxHeartbeats 1000000 in
theorem toNodeS_any (a : List Nd) (v : Value) (w : World) (hv : Nds w v a) (hl : a.length ≤ 1048576) :
    Calls Tryz.prog 11 #[v] w (RetN w a) := by
  have hv0 := hv
  obtain ⟨p, cap, rfl, hle, hmx, _, hlen⟩ := hv
  unfold maxLen at hmx
  obtain ⟨w1, hmk, hown, k1⟩ := run_makeN w a.length (by omega)
  have Hown := hid hown; clear hown
  go_enter Tryz.func11, Tryz.ntmps11
  go_wp2
  clear hmk
  have hown := Hown.out
  go_loopw [4] (fun i' wr => ∃ (k : Nat) (xs : List Nd), k ≤ a.length ∧ i' = .int .i64 k ∧ xs.length = a.length ∧ xs.take k = a.take k ∧ OwnN wr w.heap.size (.slice (some ⟨w.heap.size, 0, none⟩) a.length a.length) xs ∧ Keeps w wr) (fun i _ => a.length - (intOf i).toNat)
  case atStart => exact ⟨0, _, by omega, rfl, by simp, by simp, hown, k1⟩
  case round =>
    obtain ⟨k, xs, hk, rfl, hxl, htk, hownk, kw⟩ := hrel
    have HX := hid hxl; clear hxl
    have HT := hid htk; clear htk
    clear Hown hown
    by_cases hlt : k < a.length
    · have hltx : k < xs.length := by have := HX.out; omega
      obtain ⟨_, _, e1, _, _, hata, _⟩ := hv0.keeps kw
      cases e1
      obtain ⟨b1, o1, rfl, h1, h2⟩ := hata.nd k hlt
      clear hata hv0
      have hlt' : (k : Int) < a.length := by omega
      go_wp2_with (go_at_call 33; refine (toNode_any a[k] _).mono ?_; rintro e w2 ⟨rfl, k2⟩; have hown2 := hownk.keeps k2; obtain ⟨c1, c2, c3, c4⟩ := hown2.cell k hltx; have H2 := hid hown2; clear hown2)
      have h3 := H2.out.storeks k hltx a[k]
      go_roundw
      case rel =>
        refine ⟨k + 1, _, by omega, by go_num, ?_, ?_, h3, ?_⟩
        · rw [List.length_set]; exact HX.out
        · rw [take_set _ _ _ hltx, List.take_succ_eq_append_getElem hlt, HT.out]
        · exact ((kw.trans k2).setCell (Nat.le_refl _) _).setCell (Nat.le_refl _) _
      case measure => simp [intOf]; omega
    · go_wp2
      go_ret
      have hx : xs = a := by
        have h1 := HX.out; have h2 := HT.out
        rw [List.take_of_length_le (by omega), List.take_of_length_le (by omega)] at h2
        exact h2
      subst hx
      exact ⟨_, rfl, hownk, kw⟩
--
set_option maxRecDepth 20000 in
set_option maxHeartbeats 400000 in
theorem eqNode_any (x y : Nd) (w : World) :
    Calls Tryz.prog 38 #[.agg #[.int .i64 x.k, .int .i64 x.s], .agg #[.int .i64 y.k, .int .i64 y.s]] w fun e w' => e = .returned (.bool (decide (x = y))) ∧ Keeps w w' := by
  obtain ⟨xk, xs⟩ := x
  obtain ⟨yk, ys⟩ := y
  go_enter Tryz.func38, Tryz.ntmps38
  go_wp2
  all_goals go_ret
  all_goals exact ⟨ret_bool (by simp_all), ((Keeps.refl w).alloc _).alloc _⟩
--
set_option maxRecDepth 20000 in
set_option maxHeartbeats 400000 in
theorem eqNodeS_any (a b : List Nd) (va vb : Value) (w : World) (hva : Nds w va a) (hvb : Nds w vb b) :
    Calls Tryz.prog 13 #[va, vb] w fun e w' => e = .returned (.bool (decide (a = b))) ∧ Keeps w w' := by
  have hva0 := hva
  have hvb0 := hvb
  obtain ⟨pa, ca, rfl, hlea, hmxa, _, hlena⟩ := hva
  obtain ⟨pb, cb, rfl, hleb, hmxb, _, hlenb⟩ := hvb
  unfold maxLen at hmxa hmxb
  by_cases hl : a.length = b.length
  · have hl' : ((a.length : Int) != (b.length : Int)) = false := by simp [hl]
    have HL := hid hl; clear hl
    go_enter Tryz.func13, Tryz.ntmps13
    go_wp2
    go_loopw [4, 5] (fun r i' wr => ∃ k : Nat, k ≤ a.length ∧ a.take k = b.take k ∧ Keeps w wr ∧ i' = .int .i64 k ∧ r = .bool false) (fun _ i _ => a.length - (intOf i).toNat)
    case atStart => exact ⟨0, by omega, rfl, Keeps.refl w, rfl, rfl⟩
    case round =>
      obtain ⟨k, hk, htk, kw, rfl, rfl⟩ := hrel
      have HT := hid htk; clear htk
      clear hl'
      by_cases hlt : k < a.length
      · have hltb : k < b.length := by have := HL.out; omega
        obtain ⟨_, _, e1, _, _, hata, _⟩ := hva0.keeps kw
        obtain ⟨_, _, e2, _, _, hatb, _⟩ := hvb0.keeps kw
        cases e1; cases e2
        obtain ⟨b1, o1, rfl, h1, h2⟩ := hata.nd k hlt
        obtain ⟨b2, o2, rfl, h3, h4⟩ := hatb.nd k hltb
        clear hata hatb hva0 hvb0
        have hlt' : (k : Int) < a.length := by omega
        have hltb' : (k : Int) < b.length := by omega
        go_wp2_with fail
        go_still_tail 8, (by kernel_rfl)
        by_cases he : a[k] = b[k]
        · have hd : decide (a[k] = b[k]) = true := by simp [he]
          have HE := hid he; clear he
          go_wp2_with (go_at_call 38; refine (eqNode_any a[k] b[k] _).mono ?_; rintro e w2 ⟨rfl, k2⟩; rw [hd])
          go_roundw
          case rel => exact ⟨k + 1, by omega, by rw [List.take_succ_eq_append_getElem hlt, List.take_succ_eq_append_getElem hltb, HT.out, HE.out], kw.drew.trans k2, by go_num, rfl⟩
          case measure => simp [intOf]; omega
        · have hd : decide (a[k] = b[k]) = false := by simp [he]
          have HE := hid he; clear he
          go_wp2_with (go_at_call 38; refine (eqNode_any a[k] b[k] _).mono ?_; rintro e w2 ⟨rfl, k2⟩; rw [hd])
          go_ret
          refine ⟨ret_bool ?_, kw.drew.trans k2⟩
          symm; rw [decide_eq_false_iff_not]
          rintro rfl; exact HE.out rfl
      · go_wp2
        go_ret
        refine ⟨ret_bool ?_, kw⟩
        symm; rw [decide_eq_true_eq]
        have h1 := HL.out; have h2 := HT.out
        rw [List.take_of_length_le (by omega), List.take_of_length_le (by omega)] at h2
        exact h2
  · have hl' : ((a.length : Int) != (b.length : Int)) = true := by simp; omega
    have HL := hid hl; clear hl
    go_enter Tryz.func13, Tryz.ntmps13
    go_wp2
    go_ret
    refine ⟨ret_bool ?_, Keeps.refl _⟩
    symm; rw [decide_eq_false_iff_not]
    rintro rfl; exact HL.out rfl
/-- the marks of a list of nodes, counted from k on -/
def marksN : Nat → Int → List Nd
  | 0, _ => []
  | n + 1, k => ⟨k, k + 1⟩ :: marksN n (k + 2)
theorem marksN_length (n : Nat) : ∀ k, (marksN n k).length = n := by
  induction n with
  | zero => intro k; rfl
  | succ n ih => intro k; simp [marksN, ih]
theorem marksN_succ (n : Nat) : ∀ k, marksN (n + 1) k = marksN n k ++ [⟨k + 2 * n, k + 2 * n + 1⟩] := by
  induction n with
  | zero => intro k; simp [marksN]
  | succ n ih =>
    intro k
    rw [marksN, ih (k + 2), marksN]
    simp; omega
theorem marksN_get (n : Nat) : ∀ (k : Int) (i : Nat) (h : i < (marksN n k).length), (marksN n k)[i] = ⟨k + 2 * i, k + 2 * i + 1⟩ := by
  induction n with
  | zero => intro k i h; simp [marksN] at h
  | succ n ih =>
    intro k i h
    cases i with
    | zero => simp [marksN]
    | succ i =>
      have := ih (k + 2) i (by simpa [marksN] using h)
      simp only [marksN, List.getElem_cons_succ, this]
      simp; omega
end Go.Proofs.YtajjlnonmaghlaaGreat
