/- Walks: the laws' own comparisons and marks of number lists and posets. -/
import Derived.Test.YtolepbiepebclaaW1
namespace Go.Proofs.Ytolepbiepebclaa
open Go.RowKit

--
set_option maxHeartbeats 400000 in
theorem eqInt64S_any (a b : List Int) (va vb : Value) (w : World) (hva : Ints w va a) (hvb : Ints w vb b) :
    Calls Try.prog 12 #[va, vb] w fun e w' => e = .returned (.bool (decide (a = b))) ∧ Keeps w w' := by
  have hva0 := hva
  have hvb0 := hvb
  obtain ⟨pa, ca, rfl, hlea, hmxa, _, hlena⟩ := hva
  obtain ⟨pb, cb, rfl, hleb, hmxb, _, hlenb⟩ := hvb
  unfold maxLen at hmxa hmxb
  by_cases hl : a.length = b.length
  · have hl' : ((a.length : Int) != (b.length : Int)) = false := by simp [hl]
    have HL := hid hl; clear hl
    go_enter Try.func12, Try.ntmps12
    go_wp2
    go_loopw [4, 5] (fun r i' wr => ∃ k : Nat, k ≤ a.length ∧ a.take k = b.take k ∧ Keeps w wr ∧ i' = .int .i64 k ∧ r = .bool false) (fun _ i _ => a.length - (intOf i).toNat)
    case atStart => exact ⟨0, by omega, rfl, Keeps.refl w, rfl, rfl⟩
    case round =>
      obtain ⟨k, hk, htk, kw, rfl, rfl⟩ := hrel
      have HT := hid htk; clear htk
      clear hl'
      by_cases hlt : k < a.length
      · have hltb : k < b.length := by have := HL.out; omega
        obtain ⟨_, _, e1, _, _, hata, _⟩ := hva0.keeps kw
        obtain ⟨_, _, e2, _, _, hatb, _⟩ := hvb0.keeps kw
        cases e1; cases e2
        obtain ⟨b1, o1, rfl, h1⟩ := hata.int k hlt
        obtain ⟨b2, o2, rfl, h3⟩ := hatb.int k hltb
        clear hata hatb hva0 hvb0
        have hlt' : (k : Int) < a.length := by omega
        have hltb' : (k : Int) < b.length := by omega
        by_cases he : a[k] = b[k]
        · have hd : (a[k] != b[k]) = false := by simp [he]
          have HE := hid he; clear he
          go_wp2_with fail
          go_quiet (fail)
          go_wp2
          go_roundw
          case rel => exact ⟨k + 1, by omega, by rw [List.take_succ_eq_append_getElem hlt, List.take_succ_eq_append_getElem hltb, HT.out, HE.out], kw.drewN _, by go_num, rfl⟩
          case measure => simp [intOf]; omega
        · have hd : (a[k] != b[k]) = true := by simp [he]
          have HE := hid he; clear he
          go_wp2_with fail
          go_quiet (fail)
          go_wp2
          go_ret
          refine ⟨ret_bool ?_, kw.drewN _⟩
          symm; rw [decide_eq_false_iff_not]
          rintro rfl; exact HE.out rfl
      · go_wp2
        go_ret
        refine ⟨ret_bool ?_, kw⟩
        symm; rw [decide_eq_true_eq]
        have h1 := HL.out; have h2 := HT.out
        rw [List.take_of_length_le (by omega), List.take_of_length_le (by omega)] at h2
        exact h2
  · have hl' : ((a.length : Int) != (b.length : Int)) = true := by simp; omega
    have HL := hid hl; clear hl
    go_enter Try.func12, Try.ntmps12
    go_wp2
    go_ret
    refine ⟨ret_bool ?_, Keeps.refl _⟩
    symm; rw [decide_eq_false_iff_not]
    rintro rfl; exact HL.out rfl
--
/-- the marks of a list of numbers, counted from k on -/
def marksI : Nat → Int → List Int
  | 0, _ => []
  | n + 1, k => k :: marksI n (k + 1)
theorem marksI_length (n : Nat) : ∀ k, (marksI n k).length = n := by
  induction n with
  | zero => intro k; rfl
  | succ n ih => intro k; simp [marksI, ih]
theorem marksI_succ (n : Nat) : ∀ k, marksI (n + 1) k = marksI n k ++ [k + n] := by
  induction n with
  | zero => intro k; simp [marksI]
  | succ n ih =>
    intro k
    rw [marksI, ih (k + 1), marksI]
    simp; omega
theorem marksI_get (n : Nat) : ∀ (k : Int) (i : Nat) (h : i < (marksI n k).length), (marksI n k)[i] = k + i := by
  induction n with
  | zero => intro k i h; simp [marksI] at h
  | succ n ih =>
    intro k i h
    cases i with
    | zero => simp [marksI]
    | succ i =>
      have := ih (k + 1) i (by simpa [marksI] using h)
      simp only [marksI, List.getElem_cons_succ, this]
      simp; omega
set_option maxHeartbeats 1000000 in
theorem markInt64S_any (a : List Int) (v : Value) (k0 : Int) (w : World) (B : Nat) (hv : OwnI w B v a) (hl : a.length ≤ 2147483648) (hk0 : 0 ≤ k0) (hk1 : k0 ≤ 4294967296) :
    Calls Try.prog 14 #[v, .int .i64 k0] w fun e w' => e = .returned (.int .i64 (k0 + a.length)) ∧ OwnI w' B v (marksI a.length k0) ∧ w.grownBy w' v.ownBlock := by
  have hdist : a = [] ∨ 0 < a.length := by cases a with
    | nil => exact .inl rfl
    | cons x l => right; simp
  rcases hdist with rfl | hpos
  · obtain ⟨p, cap, rfl, _, _, _⟩ := At.of_own hv
    go_enter Try.func14, Try.ntmps14
    go_wp2
    refine wp_loop_once ?_
    go_wp2
    go_ret
    exact ⟨by simp, hv, grown_refl _ _⟩
  · obtain ⟨g, cap, rfl, hB, hg, hle, hmx⟩ := hv.shape hpos
    unfold maxLen at hmx
    go_enter Try.func14, Try.ntmps14
    go_wp2
    go_loopw [1, 5] (fun c i' wr => ∃ (k : Nat) (xs : List Int), k ≤ a.length ∧ i' = .int .i64 k ∧ c = .int .i64 (k0 + k) ∧ xs.length = a.length ∧ xs.take k = marksI k k0 ∧ OwnI wr B (.slice (some ⟨g, 0, none⟩) a.length cap) xs ∧ w.grownBy wr (some g)) (fun _ i _ => a.length - (intOf i).toNat)
    case atStart => exact ⟨0, a, by omega, rfl, by simp, rfl, by simp [marksI], hv, grown_refl _ _⟩
    case round =>
      obtain ⟨k, xs, hk, rfl, rfl, hxl, htk, hownk, hgr⟩ := hrel
      have HX := hid hxl; clear hxl
      have HT := hid htk; clear htk
      clear hv
      by_cases hlt : k < a.length
      · have hltx : k < xs.length := by have := HX.out; omega
        obtain ⟨c1, c3⟩ := hownk.cell k hltx
        have h3 := (hownk.store k hltx (k0 + k)).1
        have HO := hid hownk; clear hownk
        have H3 := hid h3; clear h3
        go_wp2
        go_roundw
        case rel =>
          refine ⟨k + 1, _, by omega, by go_num, by go_num, ?_, ?_, H3.out, ?_⟩
          · rw [List.length_set]; exact HX.out
          · rw [take_set _ _ _ hltx, marksI_succ, HT.out]
          · exact grown_trans hgr (grown_set _ _ _)
        case measure => simp [intOf]; omega
      · go_wp2
        go_ret
        obtain rfl : k = a.length := by omega
        have hx : xs = marksI a.length k0 := by
          have h1 := HX.out; have h2 := HT.out
          rw [List.take_of_length_le (by omega)] at h2
          exact h2
        subst hx
        exact ⟨rfl, hownk, hgr⟩
--
set_option maxHeartbeats 1000000 in
theorem heldInt64S_any (n : Nat) (v : Value) (k0 : Int) (w : World) (hv : Ints w v (marksI n k0)) (hk0 : 0 ≤ k0) (hk1 : k0 ≤ 4294967296) :
    Calls Try.prog 22 #[v, .int .i64 k0] w fun e w' => e = .returned (.int .i64 (k0 + n)) ∧ w = w' := by
  have hn : (marksI n k0).length = n := marksI_length n k0
  have hg := marksI_get n k0
  generalize marksI n k0 = a at *
  obtain ⟨p, cap, rfl, hle, hmx, hr, hlen⟩ := hv
  unfold maxLen at hmx
  have HN := hid hn; clear hn
  go_enter Try.func22, Try.ntmps22
  go_wp2
  go_loop [1, 4, 5] (fun c r i' => ∃ k : Nat, k ≤ a.length ∧ i' = .int .i64 k ∧ c = .int .i64 (k0 + k) ∧ r = .int .i64 0) (fun _ _ i => a.length - (intOf i).toNat)
  case atStart => exact ⟨0, by omega, rfl, by simp, rfl⟩
  case round =>
    obtain ⟨k, hk, rfl, rfl, rfl⟩ := hrel
    by_cases hlt : k < a.length
    · obtain ⟨b, off, rfl, h1⟩ := hr.int k hlt
      have h1' : w.cell? ⟨b, off + k, none⟩ = some (.int .i64 (k0 + k)) := by rw [h1, hg]
      clear hr h1 hg
      go_wp2
      go_round
      case rel => exact ⟨k + 1, by omega, by go_num, by go_num, rfl⟩
      case measure => simp [intOf]; omega
    · go_wp2
      go_ret
      exact ⟨ret_int (by have := HN.out; omega), rfl⟩
end Go.Proofs.Ytolepbiepebclaa
