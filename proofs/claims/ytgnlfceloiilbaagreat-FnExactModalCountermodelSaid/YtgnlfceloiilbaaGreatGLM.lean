/- Walks: the laws' own comparisons and marks of number lists and posets. -/
import Derived.Test.YtgnlfceloiilbaaGreatGSR
import Derived.Test.YtgnlfceloiilbaaGreatGQ1
import Derived.Deep.RegionLaw
import Derived.Test.YtgnlfceloiilbaaGreatGM2
namespace Go.Proofs.YtgnlfceloiilbaaGreat
open Go.RowKit

--
set_option maxHeartbeats 400000 in
theorem eqInt64S_any (a b : List Int) (va vb : Value) (w : World) (hva : Ints w va a) (hvb : Ints w vb b) :
    Calls Tryz.prog 62 #[va, vb] w fun e w' => e = .returned (.bool (decide (a = b))) ∧ Keeps w w' := by
  have hva0 := hva
  have hvb0 := hvb
  obtain ⟨pa, ca, rfl, hlea, hmxa, _, hlena⟩ := hva
  obtain ⟨pb, cb, rfl, hleb, hmxb, _, hlenb⟩ := hvb
  unfold maxLen at hmxa hmxb
  by_cases hl : a.length = b.length
  · have hl' : ((a.length : Int) != (b.length : Int)) = false := by simp [hl]
    have HL := hid hl; clear hl
    go_enter Tryz.func62, Tryz.ntmps62
    go_wp2
    go_loopw [4, 5] (fun r i' wr => ∃ k : Nat, k ≤ a.length ∧ a.take k = b.take k ∧ Keeps w wr ∧ i' = .int .i64 k ∧ r = .bool false) (fun _ i _ => a.length - (intOf i).toNat)
    case atStart => exact ⟨0, by omega, rfl, Keeps.refl w, rfl, rfl⟩
    case round =>
      obtain ⟨k, hk, htk, kw, rfl, rfl⟩ := hrel
      have HT := hid htk; clear htk
      clear hl'
      by_cases hlt : k < a.length
      · have hltb : k < b.length := by have := HL.out; omega
        obtain ⟨_, _, e1, _, _, hata, _⟩ := hva0.keeps kw
        obtain ⟨_, _, e2, _, _, hatb, _⟩ := hvb0.keeps kw
        cases e1; cases e2
        obtain ⟨b1, o1, rfl, h1⟩ := hata.int k hlt
        obtain ⟨b2, o2, rfl, h3⟩ := hatb.int k hltb
        clear hata hatb hva0 hvb0
        have hlt' : (k : Int) < a.length := by omega
        have hltb' : (k : Int) < b.length := by omega
        by_cases he : a[k] = b[k]
        · have hd : (a[k] != b[k]) = false := by simp [he]
          have HE := hid he; clear he
          go_wp2_with fail
          go_quiet (fail)
          go_wp2
          go_roundw
          case rel => exact ⟨k + 1, by omega, by rw [List.take_succ_eq_append_getElem hlt, List.take_succ_eq_append_getElem hltb, HT.out, HE.out], kw.drewN _, by go_num, rfl⟩
          case measure => simp [intOf]; omega
        · have hd : (a[k] != b[k]) = true := by simp [he]
          have HE := hid he; clear he
          go_wp2_with fail
          go_quiet (fail)
          go_wp2
          go_ret
          refine ⟨ret_bool ?_, kw.drewN _⟩
          symm; rw [decide_eq_false_iff_not]
          rintro rfl; exact HE.out rfl
      · go_wp2
        go_ret
        refine ⟨ret_bool ?_, kw⟩
        symm; rw [decide_eq_true_eq]
        have h1 := HL.out; have h2 := HT.out
        rw [List.take_of_length_le (by omega), List.take_of_length_le (by omega)] at h2
        exact h2
  · have hl' : ((a.length : Int) != (b.length : Int)) = true := by simp; omega
    have HL := hid hl; clear hl
    go_enter Tryz.func62, Tryz.ntmps62
    go_wp2
    go_ret
    refine ⟨ret_bool ?_, Keeps.refl _⟩
    symm; rw [decide_eq_false_iff_not]
    rintro rfl; exact HL.out rfl
--
/-- the marks of a list of numbers, counted from k on -/
def marksI : Nat → Int → List Int
  | 0, _ => []
  | n + 1, k => k :: marksI n (k + 1)
theorem marksI_length (n : Nat) : ∀ k, (marksI n k).length = n := by
  induction n with
  | zero => intro k; rfl
  | succ n ih => intro k; simp [marksI, ih]
theorem marksI_succ (n : Nat) : ∀ k, marksI (n + 1) k = marksI n k ++ [k + n] := by
  induction n with
  | zero => intro k; simp [marksI]
  | succ n ih =>
    intro k
    rw [marksI, ih (k + 1), marksI]
    simp; omega
theorem marksI_get (n : Nat) : ∀ (k : Int) (i : Nat) (h : i < (marksI n k).length), (marksI n k)[i] = k + i := by
  induction n with
  | zero => intro k i h; simp [marksI] at h
  | succ n ih =>
    intro k i h
    cases i with
    | zero => simp [marksI]
    | succ i =>
      have := ih (k + 1) i (by simpa [marksI] using h)
      simp only [marksI, List.getElem_cons_succ, this]
      simp; omega
set_option maxHeartbeats 1000000 in
theorem markInt64S_any (a : List Int) (v : Value) (k0 : Int) (w : World) (B : Nat) (hv : OwnI w B v a) (hl : a.length ≤ 2147483648) (hk0 : 0 ≤ k0) (hk1 : k0 ≤ 4294967296) :
    Calls Tryz.prog 66 #[v, .int .i64 k0] w fun e w' => e = .returned (.int .i64 (k0 + a.length)) ∧ OwnI w' B v (marksI a.length k0) ∧ w.grownBy w' v.ownBlock := by
  have hdist : a = [] ∨ 0 < a.length := by cases a with
    | nil => exact .inl rfl
    | cons x l => right; simp
  rcases hdist with rfl | hpos
  · obtain ⟨p, cap, rfl, _, _, _⟩ := At.of_own hv
    go_enter Tryz.func66, Tryz.ntmps66
    go_wp2
    refine wp_loop_once ?_
    go_wp2
    go_ret
    exact ⟨by simp, hv, grown_refl _ _⟩
  · obtain ⟨g, cap, rfl, hB, hg, hle, hmx⟩ := hv.shape hpos
    unfold maxLen at hmx
    go_enter Tryz.func66, Tryz.ntmps66
    go_wp2
    go_loopw [1, 5] (fun c i' wr => ∃ (k : Nat) (xs : List Int), k ≤ a.length ∧ i' = .int .i64 k ∧ c = .int .i64 (k0 + k) ∧ xs.length = a.length ∧ xs.take k = marksI k k0 ∧ OwnI wr B (.slice (some ⟨g, 0, none⟩) a.length cap) xs ∧ w.grownBy wr (some g)) (fun _ i _ => a.length - (intOf i).toNat)
    case atStart => exact ⟨0, a, by omega, rfl, by simp, rfl, by simp [marksI], hv, grown_refl _ _⟩
    case round =>
      obtain ⟨k, xs, hk, rfl, rfl, hxl, htk, hownk, hgr⟩ := hrel
      have HX := hid hxl; clear hxl
      have HT := hid htk; clear htk
      clear hv
      by_cases hlt : k < a.length
      · have hltx : k < xs.length := by have := HX.out; omega
        obtain ⟨c1, c3⟩ := hownk.cell k hltx
        have h3 := (hownk.store k hltx (k0 + k)).1
        have HO := hid hownk; clear hownk
        have H3 := hid h3; clear h3
        go_wp2
        go_roundw
        case rel =>
          refine ⟨k + 1, _, by omega, by go_num, by go_num, ?_, ?_, H3.out, ?_⟩
          · rw [List.length_set]; exact HX.out
          · rw [take_set _ _ _ hltx, marksI_succ, HT.out]
          · exact grown_trans hgr (grown_set _ _ _)
        case measure => simp [intOf]; omega
      · go_wp2
        go_ret
        obtain rfl : k = a.length := by omega
        have hx : xs = marksI a.length k0 := by
          have h1 := HX.out; have h2 := HT.out
          rw [List.take_of_length_le (by omega)] at h2
          exact h2
        subst hx
        exact ⟨rfl, hownk, hgr⟩
--
set_option maxHeartbeats 1000000 in
theorem heldInt64S_any (n : Nat) (v : Value) (k0 : Int) (w : World) (hv : Ints w v (marksI n k0)) (hk0 : 0 ≤ k0) (hk1 : k0 ≤ 4294967296) :
    Calls Tryz.prog 68 #[v, .int .i64 k0] w fun e w' => e = .returned (.int .i64 (k0 + n)) ∧ w = w' := by
  have hn : (marksI n k0).length = n := marksI_length n k0
  have hg := marksI_get n k0
  generalize marksI n k0 = a at *
  obtain ⟨p, cap, rfl, hle, hmx, hr, hlen⟩ := hv
  unfold maxLen at hmx
  have HN := hid hn; clear hn
  go_enter Tryz.func68, Tryz.ntmps68
  go_wp2
  go_loop [1, 4, 5] (fun c r i' => ∃ k : Nat, k ≤ a.length ∧ i' = .int .i64 k ∧ c = .int .i64 (k0 + k) ∧ r = .int .i64 0) (fun _ _ i => a.length - (intOf i).toNat)
  case atStart => exact ⟨0, by omega, rfl, by simp, rfl⟩
  case round =>
    obtain ⟨k, hk, rfl, rfl, rfl⟩ := hrel
    by_cases hlt : k < a.length
    · obtain ⟨b, off, rfl, h1⟩ := hr.int k hlt
      have h1' : w.cell? ⟨b, off + k, none⟩ = some (.int .i64 (k0 + k)) := by rw [h1, hg]
      clear hr h1 hg
      go_wp2
      go_round
      case rel => exact ⟨k + 1, by omega, by go_num, by go_num, rfl⟩
      case measure => simp [intOf]; omega
    · go_wp2
      go_ret
      exact ⟨ret_int (by have := HN.out; omega), rfl⟩
end Go.Proofs.YtgnlfceloiilbaaGreat
/- Walks: chains, forks and Medvedev's posets on both sides. -/
namespace Go.Proofs.YtgnlfceloiilbaaGreat
open Go.RowKit

def andNot (a b : Int) : Int := bits .andNot .i64 a b
def chainL (n : Nat) : Nat → List Int
  | 0 => []
  | k + 1 => chainL n k ++ [andNot (2 ^ n - 1) (2 ^ k - 1)]
theorem chainL_length (n k : Nat) : (chainL n k).length = k := by
  induction k with
  | zero => rfl
  | succ k ih => simp [chainL, ih]
end Go.Proofs.YtgnlfceloiilbaaGreat
/- Walks: the posets on both sides, and their laws. -/
namespace Go.Proofs.YtgnlfceloiilbaaGreat
open Go.RowKit

/-- a poset and an error come back -/
def RetPE (w : World) (a : List Int) (c : Int) (e : Ending) (w' : World) : Prop := ∃ v, e = .returned (.tuple #[.agg #[.int .i64 a.length, v], .int .i64 c]) ∧ OwnI w' w.heap.size v a ∧ Keeps w w'
end Go.Proofs.YtgnlfceloiilbaaGreat
/- Walks: the laws' own measures, copies, comparisons and marks of number lists, posets, frames and models. -/
namespace Go.Proofs.YtgnlfceloiilbaaGreat
open Go.RowKit

theorem Ints.shape {w : World} {v : Value} {a : List Int} (h : Ints w v a) : ∃ p n c, v = .slice p n c := by obtain ⟨p, c, e, _⟩ := h; exact ⟨p, _, c, e⟩
theorem OwnI.shape0 {w : World} {B : Nat} {v : Value} {a : List Int} (h : OwnI w B v a) : ∃ p n c, v = .slice p n c := by obtain ⟨p, c, e, _⟩ := At.of_own h; exact ⟨p, _, c, e⟩
theorem OwnI.touch {w w' : World} {S : Nat → Prop} {B : Nat} {v : Value} {a : List Int} (h : OwnI w B v a) (k : Touch w w' S) (hS : ∀ i, v.ownBlock = some i → ¬ S i) : OwnI w' B v a := own_touch h k hS
/-- two rows that lie apart -/
def Sep (va vb : Value) : Prop := ∀ k, va.ownBlock = some k → vb.ownBlock ≠ some k
theorem Sep.of {w1 w2 : World} {B1 B2 : Nat} {va vb : Value} {a b : List Int} (h1 : OwnI w1 B1 va a) (h2 : OwnI w2 B2 vb b) (h : w1.heap.size ≤ B2) : Sep va vb := fun k e1 e2 => by
  have := h1.len k e1; have := h2.len k e2; omega
/-- the row of a slice alone is touched -/
def TouchR (w w' : World) (v : Value) : Prop := Touch w w' (fun i => some i = v.ownBlock)
--
theorem szInt64S_any (p : Option Addr) (n cap : Nat) (left : Int) (w : World) (hn : n ≤ maxLen) (h0 : 0 ≤ left) (h1 : left ≤ 1048576) :
    Calls Tryz.prog 179 #[.slice p n cap, .int .i64 left] w fun e w' => e = .returned (.int .i64 (if left < n then -1 else left - n)) ∧ w = w' := by
  unfold maxLen at hn
  by_cases h : left < n
  all_goals
    go_enter Tryz.func179, Tryz.ntmps179
    go_wp2
    go_ret
    exact ⟨ret_int (by first | rfl | omega), rfl⟩
--
set_option maxRecDepth 20000 in
set_option maxHeartbeats 1000000 in
theorem toInt64S_any (a : List Int) (v : Value) (w : World) (hv : Ints w v a) : Calls Tryz.prog 181 #[v] w (RetI w a) := by
  have hv0 := hv
  obtain ⟨p, cap, rfl, hle, hmx, _, hlen⟩ := hv
  unfold maxLen at hmx
  obtain ⟨w1, hmk, hown, k1⟩ := run_makeI w a.length (by omega)
  have Hown := hid hown; clear hown
  go_enter Tryz.func181, Tryz.ntmps181
  go_wp2
  clear hmk
  have hown := Hown.out
  go_loopw [4] (fun i' wr => ∃ (k : Nat) (xs : List Int), k ≤ a.length ∧ i' = .int .i64 k ∧ xs.length = a.length ∧ xs.take k = a.take k ∧ OwnI wr w.heap.size (.slice (some ⟨w.heap.size, 0, none⟩) a.length a.length) xs ∧ Keeps w wr) (fun i _ => a.length - (intOf i).toNat)
  case atStart => exact ⟨0, _, by omega, rfl, by simp, by simp, hown, k1⟩
  case round =>
    obtain ⟨k, xs, hk, rfl, hxl, htk, hownk, kw⟩ := hrel
    have HX := hid hxl; clear hxl
    have HT := hid htk; clear htk
    clear Hown hown
    by_cases hlt : k < a.length
    · have hltx : k < xs.length := by have := HX.out; omega
      obtain ⟨_, _, e1, _, _, hata, _⟩ := hv0.keeps kw
      cases e1
      obtain ⟨b1, o1, rfl, h1⟩ := hata.int k hlt
      clear hata hv0
      have hlt' : (k : Int) < a.length := by omega
      obtain ⟨c1, c3⟩ := hownk.cell k hltx
      have h3 := (hownk.store k hltx a[k]).1
      have H3 := hid h3; clear h3
      have HO := hid hownk; clear hownk
      go_wp2
      go_roundw
      case rel =>
        refine ⟨k + 1, _, by omega, by go_num, ?_, ?_, H3.out, ?_⟩
        · rw [List.length_set]; exact HX.out
        · rw [take_set _ _ _ hltx, List.take_succ_eq_append_getElem hlt, HT.out]
        · exact kw.setCell (Nat.le_refl _) _
      case measure => simp [intOf]; omega
    · have hlt' : ¬ (k : Int) < a.length := by omega
      go_wp2
      go_ret
      have hx : xs = a := by
        have h1 := HX.out; have h2 := HT.out
        rw [List.take_of_length_le (by omega), List.take_of_length_le (by omega)] at h2
        exact h2
      subst hx
      exact ⟨_, rfl, hownk, kw⟩
theorem OwnI.low {w w' : World} {B : Nat} {v : Value} {x : List Int} (h : OwnI w B v x) (k : Low w w' B) : OwnI w' B v x := h.touch k (fun i hi => by have := (h.len i hi).1; omega)
theorem OwnI.lowOf {w0 w : World} {B : Nat} {v : Value} {x : List Int} (h : OwnI w0 B v x) (k : Keeps w0 w) : Low w0 w B := by have _ := h; exact Low.of k B
theorem cell_own {w w' : World} {b o : Nat} {v u : Value} (h : w.cell? ⟨b, o, none⟩ = some v) (k : Touch w w' (fun i => some i = u.ownBlock)) (hb : some b ≠ u.ownBlock) : w'.cell? ⟨b, o, none⟩ = some v := by
  rw [(k.cell (World.block_lt_of_cell? _ _ h) (fun e => hb e)).1]; exact h
--
theorem markI_o (a : List Int) (v : Value) (k0 : Int) (w : World) (B : Nat) (hv : OwnI w B v a) (hl : a.length ≤ 2147483648) (hk0 : 0 ≤ k0) (hk1 : k0 ≤ 4294967296) :
    Calls Tryz.prog 66 #[v, .int .i64 k0] w fun e w' => e = .returned (.int .i64 (k0 + a.length)) ∧ OwnI w' B v (marksI a.length k0) ∧ Touch w w' (fun i => some i = v.ownBlock) := by
  refine (markInt64S_any a v k0 w B hv hl hk0 hk1).mono ?_
  rintro e w' ⟨rfl, ho, g⟩
  exact ⟨rfl, ho, Touch.grown g⟩
theorem markI_t (a : List Int) (v : Value) (k0 : Int) (w0 w : World) (B : Nat) (hv : OwnI w0 B v a) (k : Low w0 w B) (hl : a.length ≤ 2147483648) (hk0 : 0 ≤ k0) (hk1 : k0 ≤ 4294967296) :
    Calls Tryz.prog 66 #[v, .int .i64 k0] w fun e w' => e = .returned (.int .i64 (k0 + a.length)) ∧ OwnI w' B v (marksI a.length k0) ∧ Touch w w' (fun i => B ≤ i ∧ i < w0.heap.size) := by
  have hlen := hv.len
  refine (markInt64S_any a v k0 w B (hv.low k) hl hk0 hk1).mono ?_
  rintro e w' ⟨rfl, ho, g⟩
  exact ⟨rfl, ho, (Touch.grown g).mono (fun i hi => hlen i hi.symm)⟩
--
theorem eqFrame_same (n : Int) (a : List Int) (va vb : Value) (w : World) (hva : Ints w va a) (hvb : Ints w vb a) :
    Calls Tryz.prog 61 #[.agg #[.int .i64 n, va], .agg #[.int .i64 n, vb]] w fun e w' => e = .returned (.bool true) ∧ Keeps w w' := by
  obtain ⟨pa, na, ca, rfl⟩ := hva.shape
  obtain ⟨pb, nb, cb, rfl⟩ := hvb.shape
  have k1 := ((Keeps.refl w).alloc (.cells #[.int .i64 n, .slice pa na ca] 28)).alloc (.cells #[.int .i64 n, .slice pb nb cb] 28)
  have HE := hid (eqInt64S_any a a _ _ _ (hva.keeps k1) (hvb.keeps k1))
  rw [decide_eq_true rfl] at HE
  have hl' : (n != n) = false := by simp
  clear hva hvb
  go_enter Tryz.func61, Tryz.ntmps61
  go_wp2_with fail
  refine HE.out.mono ?_; rintro e w2 ⟨rfl, k2⟩
  go_wp2_with fail
  go_ret
  exact ⟨rfl, k1.trans k2⟩
--
theorem markF_t (n : Int) (a : List Int) (v : Value) (k0 : Int) (w0 w : World) (B : Nat) (hv : OwnI w0 B v a) (k : Low w0 w B) (hl : a.length ≤ 2147483648) (hk0 : 0 ≤ k0) (hk1 : k0 ≤ 4294967296) :
    Calls Tryz.prog 65 #[.agg #[.int .i64 n, v], .int .i64 k0] w fun e w' => e = .returned (.int .i64 (k0 + a.length)) ∧ OwnI w' B v (marksI a.length k0) ∧ Touch w w' (fun i => some i = v.ownBlock) := by
  obtain ⟨p, m, c, rfl⟩ := hv.shape0
  have k1 := (Keeps.refl w).alloc (.cells #[.int .i64 n, .slice p m c] 28)
  have HM := hid (markInt64S_any a _ k0 _ B (hv.low (k.keeps k1)) hl hk0 hk1)
  clear hv
  go_enter Tryz.func65, Tryz.ntmps65
  go_wp2_with fail
  refine HM.out.mono ?_
  rintro e w2 ⟨rfl, hv2, t2⟩
  go_wp2_with fail
  go_ret
  exact ⟨rfl, hv2, touch_pre k1 (Touch.grown t2)⟩
--
theorem heldFrame_any (m : Int) (n : Nat) (v : Value) (k0 : Int) (w : World) (hv : Ints w v (marksI n k0)) (hk0 : 0 ≤ k0) (hk1 : k0 ≤ 4294967296) (hn : n ≤ 4294967296) :
    Calls Tryz.prog 67 #[.agg #[.int .i64 m, v], .int .i64 k0] w fun e w' => e = .returned (.int .i64 (k0 + n)) ∧ Keeps w w' := by
  obtain ⟨p, nn, c, rfl⟩ := hv.shape
  have k1 := (Keeps.refl w).alloc (.cells #[.int .i64 m, .slice p nn c] 28)
  have HM := hid (heldInt64S_any n _ k0 _ (hv.keeps k1) hk0 hk1)
  go_enter Tryz.func67, Tryz.ntmps67
  go_wp2_with fail
  refine HM.out.mono ?_
  rintro e w' ⟨rfl, rfl⟩
  go_wp2_with fail
  go_ret
  exact ⟨rfl, k1⟩
end Go.Proofs.YtgnlfceloiilbaaGreat
