/- Walks: the laws' own copies, comparisons and marks of node lists and number lists. -/
import Derived.Test.YtodeecmhcfbheaaGreatGW2
namespace Go.Proofs.YtodeecmhcfbheaaGreat
open Go.RowKit

--
theorem szNodeS_any (p : Option Addr) (n cap : Nat) (left : Int) (w : World) (hn : n ≤ maxLen) (h0 : 0 ≤ left) (h1 : left ≤ 1048576) :
    Calls Tryz.prog 27 #[.slice p n cap, .int .i64 left] w fun e w' => e = .returned (.int .i64 (if left < n then -1 else left - n)) ∧ w = w' := by
  unfold maxLen at hn
  by_cases h : left < n
  all_goals
    go_enter Tryz.func27, Tryz.ntmps27
    go_wp2
    go_ret
    exact ⟨ret_int (by first | rfl | omega), rfl⟩
--
theorem toNode_any (x : Nd) (w : World) :
    Calls Tryz.prog 105 #[.agg #[.int .i64 x.k, .int .i64 x.s]] w fun e w' => e = .returned (.agg #[.int .i64 x.k, .int .i64 x.s]) ∧ Keeps w w' := by
  go_enter Tryz.func105, Tryz.ntmps105
  go_wp2
  refine bodyPost_ret (v := .agg #[.int .i64 x.k, .int .i64 x.s]) (by simp [results, Tryz.results105, go_sem]) rfl ⟨rfl, ?_⟩
  exact (((Keeps.refl w).alloc _).alloc _).alloc _
--
set_option maxRecDepth 20000 in
set_option maxHeartbeats 1000000 in
theorem toNodeS_any (a : List Nd) (v : Value) (w : World) (hv : Nds w v a) (hl : a.length ≤ 1048576) :
    Calls Tryz.prog 30 #[v] w (RetN w a) := by
  have hv0 := hv
  obtain ⟨p, cap, rfl, hle, hmx, _, hlen⟩ := hv
  unfold maxLen at hmx
  obtain ⟨w1, hmk, hown, k1⟩ := run_makeN w a.length (by omega)
  have Hown := hid hown; clear hown
  go_enter Tryz.func30, Tryz.ntmps30
  go_wp2
  clear hmk
  have hown := Hown.out
  go_loopw [4] (fun i' wr => ∃ (k : Nat) (xs : List Nd), k ≤ a.length ∧ i' = .int .i64 k ∧ xs.length = a.length ∧ xs.take k = a.take k ∧ OwnN wr w.heap.size (.slice (some ⟨w.heap.size, 0, none⟩) a.length a.length) xs ∧ Keeps w wr) (fun i _ => a.length - (intOf i).toNat)
  case atStart => exact ⟨0, _, by omega, rfl, by simp, by simp, hown, k1⟩
  case round =>
    obtain ⟨k, xs, hk, rfl, hxl, htk, hownk, kw⟩ := hrel
    have HX := hid hxl; clear hxl
    have HT := hid htk; clear htk
    clear Hown hown
    by_cases hlt : k < a.length
    · have hltx : k < xs.length := by have := HX.out; omega
      obtain ⟨_, _, e1, _, _, hata, _⟩ := hv0.keeps kw
      cases e1
      obtain ⟨b1, o1, rfl, h1, h2⟩ := hata.nd k hlt
      clear hata hv0
      have hlt' : (k : Int) < a.length := by omega
      go_wp2_with (go_at_call 105; refine (toNode_any a[k] _).mono ?_; rintro e w2 ⟨rfl, k2⟩; have hown2 := hownk.keeps k2; obtain ⟨c1, c2, c3, c4⟩ := hown2.cell k hltx; have H2 := hid hown2; clear hown2)
      have h3 := H2.out.storeks k hltx a[k]
      go_roundw
      case rel =>
        refine ⟨k + 1, _, by omega, by go_num, ?_, ?_, h3, ?_⟩
        · rw [List.length_set]; exact HX.out
        · rw [take_set _ _ _ hltx, List.take_succ_eq_append_getElem hlt, HT.out]
        · exact ((kw.trans k2).setCell (Nat.le_refl _) _).setCell (Nat.le_refl _) _
      case measure => simp [intOf]; omega
    · go_wp2
      go_ret
      have hx : xs = a := by
        have h1 := HX.out; have h2 := HT.out
        rw [List.take_of_length_le (by omega), List.take_of_length_le (by omega)] at h2
        exact h2
      subst hx
      exact ⟨_, rfl, hownk, kw⟩
--
set_option maxRecDepth 20000 in
set_option maxHeartbeats 400000 in
theorem eqNode_any (x y : Nd) (w : World) :
    Calls Tryz.prog 110 #[.agg #[.int .i64 x.k, .int .i64 x.s], .agg #[.int .i64 y.k, .int .i64 y.s]] w fun e w' => e = .returned (.bool (decide (x = y))) ∧ Keeps w w' := by
  obtain ⟨xk, xs⟩ := x
  obtain ⟨yk, ys⟩ := y
  go_enter Tryz.func110, Tryz.ntmps110
  go_wp2
  all_goals go_ret
  all_goals exact ⟨ret_bool (by simp_all), ((Keeps.refl w).alloc _).alloc _⟩
--
set_option maxRecDepth 20000 in
set_option maxHeartbeats 400000 in
theorem eqNodeS_any (a b : List Nd) (va vb : Value) (w : World) (hva : Nds w va a) (hvb : Nds w vb b) :
    Calls Tryz.prog 34 #[va, vb] w fun e w' => e = .returned (.bool (decide (a = b))) ∧ Keeps w w' := by
  have hva0 := hva
  have hvb0 := hvb
  obtain ⟨pa, ca, rfl, hlea, hmxa, _, hlena⟩ := hva
  obtain ⟨pb, cb, rfl, hleb, hmxb, _, hlenb⟩ := hvb
  unfold maxLen at hmxa hmxb
  by_cases hl : a.length = b.length
  · have hl' : ((a.length : Int) != (b.length : Int)) = false := by simp [hl]
    have HL := hid hl; clear hl
    go_enter Tryz.func34, Tryz.ntmps34
    go_wp2
    go_loopw [4, 5] (fun r i' wr => ∃ k : Nat, k ≤ a.length ∧ a.take k = b.take k ∧ Keeps w wr ∧ i' = .int .i64 k ∧ r = .bool false) (fun _ i _ => a.length - (intOf i).toNat)
    case atStart => exact ⟨0, by omega, rfl, Keeps.refl w, rfl, rfl⟩
    case round =>
      obtain ⟨k, hk, htk, kw, rfl, rfl⟩ := hrel
      have HT := hid htk; clear htk
      clear hl'
      by_cases hlt : k < a.length
      · have hltb : k < b.length := by have := HL.out; omega
        obtain ⟨_, _, e1, _, _, hata, _⟩ := hva0.keeps kw
        obtain ⟨_, _, e2, _, _, hatb, _⟩ := hvb0.keeps kw
        cases e1; cases e2
        obtain ⟨b1, o1, rfl, h1, h2⟩ := hata.nd k hlt
        obtain ⟨b2, o2, rfl, h3, h4⟩ := hatb.nd k hltb
        clear hata hatb hva0 hvb0
        have hlt' : (k : Int) < a.length := by omega
        have hltb' : (k : Int) < b.length := by omega
        go_wp2_with fail
        go_still_tail 8, (by kernel_rfl)
        by_cases he : a[k] = b[k]
        · have hd : decide (a[k] = b[k]) = true := by simp [he]
          have HE := hid he; clear he
          go_wp2_with (go_at_call 110; refine (eqNode_any a[k] b[k] _).mono ?_; rintro e w2 ⟨rfl, k2⟩; rw [hd])
          go_roundw
          case rel => exact ⟨k + 1, by omega, by rw [List.take_succ_eq_append_getElem hlt, List.take_succ_eq_append_getElem hltb, HT.out, HE.out], kw.drew.trans k2, by go_num, rfl⟩
          case measure => simp [intOf]; omega
        · have hd : decide (a[k] = b[k]) = false := by simp [he]
          have HE := hid he; clear he
          go_wp2_with (go_at_call 110; refine (eqNode_any a[k] b[k] _).mono ?_; rintro e w2 ⟨rfl, k2⟩; rw [hd])
          go_ret
          refine ⟨ret_bool ?_, kw.drew.trans k2⟩
          symm; rw [decide_eq_false_iff_not]
          rintro rfl; exact HE.out rfl
      · go_wp2
        go_ret
        refine ⟨ret_bool ?_, kw⟩
        symm; rw [decide_eq_true_eq]
        have h1 := HL.out; have h2 := HT.out
        rw [List.take_of_length_le (by omega), List.take_of_length_le (by omega)] at h2
        exact h2
  · have hl' : ((a.length : Int) != (b.length : Int)) = true := by simp; omega
    have HL := hid hl; clear hl
    go_enter Tryz.func34, Tryz.ntmps34
    go_wp2
    go_ret
    refine ⟨ret_bool ?_, Keeps.refl _⟩
    symm; rw [decide_eq_false_iff_not]
    rintro rfl; exact HL.out rfl
/-- the marks of a list of nodes, counted from k on -/
def marksN : Nat → Int → List Nd
  | 0, _ => []
  | n + 1, k => ⟨k, k + 1⟩ :: marksN n (k + 2)
theorem marksN_length (n : Nat) : ∀ k, (marksN n k).length = n := by
  induction n with
  | zero => intro k; rfl
  | succ n ih => intro k; simp [marksN, ih]
theorem marksN_succ (n : Nat) : ∀ k, marksN (n + 1) k = marksN n k ++ [⟨k + 2 * n, k + 2 * n + 1⟩] := by
  induction n with
  | zero => intro k; simp [marksN]
  | succ n ih =>
    intro k
    rw [marksN, ih (k + 2), marksN]
    simp; omega
theorem marksN_get (n : Nat) : ∀ (k : Int) (i : Nat) (h : i < (marksN n k).length), (marksN n k)[i] = ⟨k + 2 * i, k + 2 * i + 1⟩ := by
  induction n with
  | zero => intro k i h; simp [marksN] at h
  | succ n ih =>
    intro k i h
    cases i with
    | zero => simp [marksN]
    | succ i =>
      have := ih (k + 2) i (by simpa [marksN] using h)
      simp only [marksN, List.getElem_cons_succ, this]
      simp; omega
--
set_option maxRecDepth 20000 in
set_option maxHeartbeats 1000000 in
theorem markNodeS_any (a : List Nd) (v : Value) (k0 : Int) (w : World) (B : Nat) (hv : OwnN w B v a) (hl : a.length ≤ 2147483648) (hk0 : 0 ≤ k0) (hk1 : k0 ≤ 4294967296) :
    Calls Tryz.prog 35 #[v, .int .i64 k0] w fun e w' => e = .returned (.int .i64 (k0 + 2 * a.length)) ∧ OwnN w' B v (marksN a.length k0) ∧ w.grownBy w' v.ownBlock := by
  have hdist : a = [] ∨ 0 < a.length := by cases a with
    | nil => exact .inl rfl
    | cons x l => right; simp
  rcases hdist with rfl | hpos
  · obtain ⟨p, cap, rfl, _, _, _⟩ := At.of_own hv
    go_enter Tryz.func35, Tryz.ntmps35
    go_wp2
    refine wp_loop_once ?_
    go_wp2
    go_ret
    exact ⟨by simp, hv, grown_refl _ _⟩
  · obtain ⟨g, cap, rfl, hB, hg, hle, hmx⟩ := hv.shape hpos
    unfold maxLen at hmx
    go_enter Tryz.func35, Tryz.ntmps35
    go_wp2
    go_loopw [1, 5] (fun c i' wr => ∃ (k : Nat) (xs : List Nd), k ≤ a.length ∧ i' = .int .i64 k ∧ c = .int .i64 (k0 + 2 * k) ∧ xs.length = a.length ∧ xs.take k = marksN k k0 ∧ OwnN wr B (.slice (some ⟨g, 0, none⟩) a.length cap) xs ∧ w.grownBy wr (some g)) (fun _ i _ => a.length - (intOf i).toNat)
    case atStart => exact ⟨0, a, by omega, rfl, by simp, rfl, by simp [marksN], hv, grown_refl _ _⟩
    case round =>
      obtain ⟨k, xs, hk, rfl, rfl, hxl, htk, hownk, hgr⟩ := hrel
      have HX := hid hxl; clear hxl
      have HT := hid htk; clear htk
      clear hv
      by_cases hlt : k < a.length
      · have hltx : k < xs.length := by have := HX.out; omega
        obtain ⟨c1, c2, c3, c4⟩ := hownk.cell k hltx
        have h3 := hownk.storeks k hltx ⟨k0 + 2 * k, k0 + 2 * k + 1⟩
        have HO := hid hownk; clear hownk
        have H3 := hid h3; clear h3
        go_wp2
        go_roundw
        case rel =>
          refine ⟨k + 1, _, by omega, by go_num, by go_num, ?_, ?_, H3.out, ?_⟩
          · rw [List.length_set]; exact HX.out
          · rw [take_set _ _ _ hltx, marksN_succ, HT.out]
          · exact grown_trans hgr (grown_trans (grown_set _ _ _) (grown_set _ _ _))
        case measure => simp [intOf]; omega
      · go_wp2
        go_ret
        obtain rfl : k = a.length := by omega
        have hx : xs = marksN a.length k0 := by
          have h1 := HX.out; have h2 := HT.out
          rw [List.take_of_length_le (by omega)] at h2
          exact h2
        subst hx
        exact ⟨rfl, hownk, hgr⟩
--
set_option maxRecDepth 20000 in
set_option maxHeartbeats 1000000 in
theorem heldNodeS_any (n : Nat) (v : Value) (k0 : Int) (w : World) (hv : Nds w v (marksN n k0)) (hk0 : 0 ≤ k0) (hk1 : k0 ≤ 4294967296) :
    Calls Tryz.prog 111 #[v, .int .i64 k0] w fun e w' => e = .returned (.int .i64 (k0 + 2 * n)) ∧ w = w' := by
  have hn : (marksN n k0).length = n := marksN_length n k0
  have hg := marksN_get n k0
  generalize marksN n k0 = a at *
  obtain ⟨p, cap, rfl, hle, hmx, hr, hlen⟩ := hv
  unfold maxLen at hmx
  have HN := hid hn; clear hn
  go_enter Tryz.func111, Tryz.ntmps111
  go_wp2
  go_loop [1, 4, 5] (fun c r i' => ∃ k : Nat, k ≤ a.length ∧ i' = .int .i64 k ∧ c = .int .i64 (k0 + 2 * k) ∧ r = .int .i64 0) (fun _ _ i => a.length - (intOf i).toNat)
  case atStart => exact ⟨0, by omega, rfl, by simp, rfl⟩
  case round =>
    obtain ⟨k, hk, rfl, rfl, rfl⟩ := hrel
    by_cases hlt : k < a.length
    · obtain ⟨b, off, rfl, h1, h2⟩ := hr.nd k hlt
      have h1' : w.cell? ⟨b, off + k * 2, none⟩ = some (.int .i64 (k0 + 2 * k)) := by rw [h1, hg]
      have h2' : w.cell? ⟨b, off + k * 2 + 1, none⟩ = some (.int .i64 (k0 + 2 * k + 1)) := by rw [h2, hg]
      clear hr h1 h2 hg
      go_wp2
      go_round
      case rel => exact ⟨k + 1, by omega, by go_num, by go_num, rfl⟩
      case measure => simp [intOf]; omega
    · go_wp2
      go_ret
      exact ⟨ret_int (by have := HN.out; omega), rfl⟩
end Go.Proofs.YtodeecmhcfbheaaGreat
/- Walks: masks and posets. -/
namespace Go.Proofs.YtodeecmhcfbheaaGreat
open Go.RowKit

--
theorem wrap_pow : ∀ k : Nat, k ≤ 62 → wrap64 (2 ^ k) = 2 ^ k := by
  intro k hk
  have : ∀ j : Fin 63, wrap64 (2 ^ (j : Nat)) = 2 ^ (j : Nat) := by decide +kernel
  exact this ⟨k, by omega⟩
theorem l01One_any (i : Int) (w : World) (h0 : 0 ≤ i) (h1 : i ≤ 62) : Calls Tryz.prog 119 #[.int .i64 i] w fun e w' => e = .returned (.int .i64 (2 ^ i.toNat)) ∧ w = w' := by
  go_enter Tryz.func119, Tryz.ntmps119
  go_wp2
  go_ret
  refine ⟨ret_int ?_, rfl⟩
  exact wrap_pow _ (by omega)
--
theorem l01Full_any (i : Int) (w : World) (h0 : 0 ≤ i) (h1 : i ≤ 62) : Calls Tryz.prog 125 #[.int .i64 i] w fun e w' => e = .returned (.int .i64 (2 ^ i.toNat - 1)) ∧ w = w' := by
  have hp : (1 : Int) ≤ 2 ^ i.toNat := by
    have : ∀ j : Fin 63, (1 : Int) ≤ (2 : Int) ^ (j : Nat) := by decide +kernel
    exact this ⟨i.toNat, by omega⟩
  have hm : (2 : Int) ^ i.toNat ≤ 4611686018427387904 := by
    have : ∀ j : Fin 63, (2 : Int) ^ (j : Nat) ≤ 4611686018427387904 := by decide +kernel
    exact this ⟨i.toNat, by omega⟩
  generalize hP : (2 : Int) ^ i.toNat = P at *
  have HP := hid hP; clear hP
  go_enter Tryz.func125, Tryz.ntmps125
  go_wp2_with fail
  refine (l01One_any i _ h0 h1).mono ?_
  rintro e w' ⟨rfl, rfl⟩
  rw [HP.out]
  go_wp2_with fail
  go_ret
  exact ⟨rfl, rfl⟩
/-- fresh numbers come back -/
def RetI (w : World) (a : List Int) (e : Ending) (w' : World) : Prop := ∃ v, e = .returned v ∧ OwnI w' w.heap.size v a ∧ Keeps w w'
end Go.Proofs.YtodeecmhcfbheaaGreat
/- Worlds in which some blocks are written; lists of owned node lists that lie apart. -/
namespace Go.Proofs.YtodeecmhcfbheaaGreat
open Go.RowKit

/-- blocks outside a set are as they were -/
structure Touch (w w' : World) (S : Nat → Prop) : Prop where
  os : w'.os = w.os
  tape : w'.tape = w.tape
  output : w'.output = w.output
  size : w.heap.size ≤ w'.heap.size
  block : ∀ k, k < w.heap.size → ¬ S k → w'.heap[k]? = w.heap[k]?
theorem Touch.refl (w : World) (S : Nat → Prop) : Touch w w S := ⟨rfl, rfl, rfl, Nat.le_refl _, fun _ _ _ => rfl⟩
theorem Touch.trans {a b c : World} {S : Nat → Prop} (h : Touch a b S) (k : Touch b c S) : Touch a c S :=
  ⟨k.os.trans h.os, k.tape.trans h.tape, k.output.trans h.output, Nat.le_trans h.size k.size, fun i hi hs => (k.block i (Nat.lt_of_lt_of_le hi h.size) hs).trans (h.block i hi hs)⟩
theorem Touch.mono {a b : World} {S S' : Nat → Prop} (h : Touch a b S) (hs : ∀ k, S k → S' k) : Touch a b S' :=
  ⟨h.os, h.tape, h.output, h.size, fun i hi hn => h.block i hi (fun e => hn (hs i e))⟩
theorem Touch.grown {a b : World} {row : Option Nat} (h : a.grownBy b row) : Touch a b (fun k => some k = row) :=
  ⟨h.os, h.tape, h.output, h.size, fun i hi hn => h.block i hi hn⟩
theorem Touch.of_keeps {a b : World} (h : Keeps a b) (S : Nat → Prop) : Touch a b S :=
  ⟨h.os, h.tape, h.output, h.size, fun _ hi _ => h.block hi⟩
theorem Touch.cell {w w' : World} {S : Nat → Prop} (h : Touch w w' S) {b : Nat} (hb : b < w.heap.size) (hs : ¬ S b) :
    (∀ o, w'.cell? ⟨b, o, none⟩ = w.cell? ⟨b, o, none⟩) ∧ (∀ o, w'.frozen? ⟨b, o, none⟩ = w.frozen? ⟨b, o, none⟩) :=
  ⟨fun o => World.cell?_of_block (a := ⟨b, o, none⟩) (h.block b hb hs), fun o => World.frozen?_of_block (a := ⟨b, o, none⟩) (h.block b hb hs)⟩
theorem Keeps.touch {a w w' : World} {S : Nat → Prop} (h : Keeps a w) (k : Touch w w' S) (hS : ∀ i, S i → a.heap.size ≤ i) : Keeps a w' :=
  ⟨k.os.trans h.os, k.tape.trans h.tape, k.output.trans h.output, Nat.le_trans h.size k.size, fun i hi => (k.block i (Nat.lt_of_lt_of_le hi h.size) (fun e => by have := hS i e; omega)).trans (h.block hi)⟩
theorem own_touch {w w' : World} {S : Nat → Prop} {base : Nat} {e : TypeId} {size : Nat} {v : Value} {n : Nat} {xs : List Value} (h : w.ownsRow base e size v n xs) (k : Touch w w' S) (hS : ∀ i, v.ownBlock = some i → ¬ S i) : w'.ownsRow base e size v n xs := by
  refine ⟨h.1, ?_⟩
  rcases h.2 with hn | ⟨g, cap, cur, rfl, hb, hgg, rest⟩
  · exact .inl hn
  · exact .inr ⟨g, cap, cur, rfl, hb, (k.block g (Array.getElem?_eq_some_iff.1 hgg).1 (hS g rfl)).trans hgg, rest⟩
--
/-- values whose rows lie apart -/
def Apart (vs : List Value) : Prop := ∀ i j (hi : i < vs.length) (hj : j < vs.length), i ≠ j → ∀ k, vs[i].ownBlock = some k → vs[j].ownBlock ≠ some k
def Off (v : Value) (vs : List Value) : Prop := ∀ i (hi : i < vs.length) k, v.ownBlock = some k → vs[i].ownBlock ≠ some k
def blk (vs : List Value) (k : Nat) : Prop := ∃ i, ∃ h : i < vs.length, vs[i].ownBlock = some k
def RowsN (w : World) (B : Nat) (vs : List Value) (xs : List (List Nd)) : Prop := vs.length = xs.length ∧ ∀ i (h1 : i < vs.length) (h2 : i < xs.length), OwnN w B vs[i] xs[i]
theorem OwnN.touch {w w' : World} {S : Nat → Prop} {B : Nat} {v : Value} {x : List Nd} (h : OwnN w B v x) (k : Touch w w' S) (hS : ∀ i, v.ownBlock = some i → ¬ S i) : OwnN w' B v x := own_touch h k hS
theorem RowsN.nil (w : World) (B : Nat) : RowsN w B [] [] := ⟨rfl, fun i h => by simp at h⟩
theorem RowsN.cons {w : World} {B : Nat} {v : Value} {vs : List Value} {x : List Nd} {xs : List (List Nd)} (h : OwnN w B v x) (hs : RowsN w B vs xs) : RowsN w B (v :: vs) (x :: xs) :=
  ⟨by simp [hs.1], fun i h1 h2 => by
    cases i with
    | zero => exact h
    | succ i => exact hs.2 i (by simpa using h1) (by simpa using h2)⟩
theorem RowsN.snoc {w : World} {B : Nat} {v : Value} {vs : List Value} {x : List Nd} {xs : List (List Nd)} (h : OwnN w B v x) (hs : RowsN w B vs xs) : RowsN w B (vs ++ [v]) (xs ++ [x]) :=
  ⟨by simp [hs.1], fun i h1 h2 => by
    have hl := hs.1
    by_cases hi : i < vs.length
    · rw [List.getElem_append_left hi, List.getElem_append_left (by omega)]; exact hs.2 i hi (by omega)
    · simp at h1
      obtain rfl : i = vs.length := by omega
      rw [List.getElem_append_right (Nat.le_refl _), List.getElem_append_right (by omega)]
      simpa [hl] using h⟩
theorem RowsN.keeps {w w' : World} {B : Nat} {vs : List Value} {xs : List (List Nd)} (h : RowsN w B vs xs) (k : Keeps w w') : RowsN w' B vs xs := ⟨h.1, fun i h1 h2 => (h.2 i h1 h2).keeps k⟩
theorem RowsN.mono {w : World} {B B' : Nat} {vs : List Value} {xs : List (List Nd)} (h : RowsN w B vs xs) (k : B' ≤ B) : RowsN w B' vs xs := ⟨h.1, fun i h1 h2 => (h.2 i h1 h2).mono k⟩
theorem RowsN.touch {w w' : World} {S : Nat → Prop} {B : Nat} {vs : List Value} {xs : List (List Nd)} (h : RowsN w B vs xs) (k : Touch w w' S) (hS : ∀ i, blk vs i → ¬ S i) : RowsN w' B vs xs :=
  ⟨h.1, fun i h1 h2 => (h.2 i h1 h2).touch k (fun j e => hS j ⟨i, h1, e⟩)⟩
theorem RowsN.lt {w : World} {B : Nat} {vs : List Value} {xs : List (List Nd)} (h : RowsN w B vs xs) {k : Nat} (hk : blk vs k) : B ≤ k ∧ k < w.heap.size := by
  obtain ⟨i, hi, e⟩ := hk
  exact (h.2 i hi (by have := h.1; omega)).len k e
/-- one row is written anew -/
theorem RowsN.update {w w' : World} {B : Nat} {vs : List Value} {xs : List (List Nd)} (h : RowsN w B vs xs) (ha : Apart vs) (i : Nat) (hi : i < vs.length) (hg : w.grownBy w' vs[i].ownBlock) {z : List Nd} (hz : OwnN w' B vs[i] z) : RowsN w' B vs (xs.set i z) :=
  ⟨by simp [h.1], fun j h1 h2 => by
    by_cases e : i = j
    · subst e; simpa using hz
    · rw [List.getElem_set_ne e]
      exact (h.2 j h1 (by have := h.1; omega)).touch (Touch.grown hg) (fun k hk hs => ha i j hi h1 e k hs.symm hk)⟩
theorem Apart.nil : Apart [] := fun i j hi => by simp at hi
theorem Apart.cons {v : Value} {vs : List Value} (h : Off v vs) (hs : Apart vs) : Apart (v :: vs) := fun i j hi hj hne k hk => by
  cases i with
  | zero =>
    cases j with
    | zero => exact absurd rfl hne
    | succ j => exact h j (by simpa using hj) k hk
  | succ i =>
    cases j with
    | zero => exact fun e => h i (by simpa using hi) k e hk
    | succ j => exact hs i j (by simpa using hi) (by simpa using hj) (fun e => hne (by rw [e])) k hk
theorem Apart.tail {v : Value} {vs : List Value} (h : Apart (v :: vs)) : Apart vs := fun i j hi hj hne k hk =>
  h (i + 1) (j + 1) (by simpa using hi) (by simpa using hj) (by omega) k hk
theorem Apart.head {v : Value} {vs : List Value} (h : Apart (v :: vs)) : Off v vs := fun i hi k hk =>
  h 0 (i + 1) (by simp) (by simpa using hi) (by omega) k hk
theorem Off.nil (v : Value) : Off v [] := fun i hi => by simp at hi
theorem Off.of_blk {v : Value} {vs : List Value} (h : ∀ k, v.ownBlock = some k → ¬ blk vs k) : Off v vs := fun i hi k hk e => h k hk ⟨i, hi, e⟩
theorem Off.not_blk {v : Value} {vs : List Value} (h : Off v vs) {k : Nat} (hk : v.ownBlock = some k) : ¬ blk vs k := fun ⟨i, hi, e⟩ => h i hi k hk e
theorem Apart.snoc {v : Value} {vs : List Value} (h : ∀ k, v.ownBlock = some k → ¬ blk vs k) (hs : Apart vs) : Apart (vs ++ [v]) := fun i j hi hj hne k hk => by
  simp at hi hj
  by_cases h1 : i < vs.length
  · rw [List.getElem_append_left h1] at hk
    by_cases h2 : j < vs.length
    · rw [List.getElem_append_left h2]; exact hs i j h1 h2 hne k hk
    · obtain rfl : j = vs.length := by omega
      rw [List.getElem_append_right (Nat.le_refl _)]
      intro e; exact h k (by simpa using e) ⟨i, h1, hk⟩
  · obtain rfl : i = vs.length := by omega
    rw [List.getElem_append_right (Nat.le_refl _)] at hk
    have h2 : j < vs.length := by omega
    rw [List.getElem_append_left h2]
    intro e; exact h k (by simpa using hk) ⟨j, h2, e⟩
/-- how many nodes the lists have in all -/
def tot : List (List Nd) → Nat
  | [] => 0
  | x :: xs => x.length + tot xs
theorem tot_append (xs ys : List (List Nd)) : tot (xs ++ ys) = tot xs + tot ys := by
  induction xs with
  | nil => simp [tot]
  | cons x xs ih => simp [tot, ih]; omega
theorem tot_take (xs : List (List Nd)) (i : Nat) (h : i < xs.length) : tot (xs.take (i + 1)) = tot (xs.take i) + xs[i].length := by
  rw [List.take_succ_eq_append_getElem h, tot_append]; simp [tot]
theorem tot_le (xs : List (List Nd)) (i : Nat) : tot (xs.take i) ≤ tot xs := by
  have := tot_append (xs.take i) (xs.drop i)
  rw [List.take_append_drop] at this; omega
theorem tot_mem (xs : List (List Nd)) (i : Nat) (h : i < xs.length) : tot (xs.take i) + xs[i].length ≤ tot xs := by
  rw [← tot_take xs i h]; exact tot_le xs _
def marksL : List (List Nd) → Int → List (List Nd)
  | [], _ => []
  | x :: xs, k => marksN x.length k :: marksL xs (k + 2 * x.length)
theorem marksL_length (xs : List (List Nd)) : ∀ k, (marksL xs k).length = xs.length := by
  induction xs with
  | nil => intro k; rfl
  | cons x xs ih => intro k; simp [marksL, ih]
theorem marksL_get (xs : List (List Nd)) : ∀ (k : Int) (i : Nat) (h : i < (marksL xs k).length) (h' : i < xs.length), (marksL xs k)[i] = marksN xs[i].length (k + 2 * tot (xs.take i)) := by
  induction xs with
  | nil => intro k i h h'; simp at h'
  | cons x xs ih =>
    intro k i h h'
    cases i with
    | zero => simp [marksL, tot]
    | succ i =>
      have := ih (k + 2 * x.length) i (by simpa [marksL] using h) (by simpa using h')
      simp only [marksL, List.getElem_cons_succ, this, List.take_succ_cons, tot]
      congr 1; omega
theorem tot_marks (xs : List (List Nd)) : ∀ k, tot (marksL xs k) = tot xs := by
  induction xs with
  | nil => intro k; rfl
  | cons x xs ih => intro k; simp [marksL, tot, ih, marksN_length]
/-- an owned list of owned lists that lie apart -/
def OwnL (w : World) (B : Nat) (v : Value) (xs : List (List Nd)) : Prop := ∃ vs, w.ownsRow B 24 1 v xs.length vs ∧ RowsN w B vs xs ∧ Apart vs ∧ Off v vs
/-- the rows of a list's header read as lists -/
theorem rows_ndsL {w : World} {B : Nat} {p : Option Addr} {cap : Nat} {vs : List Value} {xs : List (List Nd)} (hat : At w p vs) (hr : RowsN w B vs xs) (h1 : xs.length ≤ cap) (h2 : cap ≤ maxLen) (h3 : xs.length ≤ 2147483648) (h4 : tot xs ≤ 2147483648) : NdsL w (.slice p xs.length cap) xs := by
  refine ⟨p, cap, rfl, h1, h2, h3, fun i hi => ?_⟩
  have hl := hr.1
  obtain ⟨b, off, hp, hc⟩ := hat i (by omega)
  refine ⟨b, off, fun _ => vs[i], hp, fun c hc' => ?_, (hr.2 i (by omega) hi).nds (by have := tot_mem xs i hi; omega)⟩
  obtain rfl : c = 0 := by omega
  simpa using hc
theorem OwnL.ndsL {w : World} {B : Nat} {v : Value} {xs : List (List Nd)} (h : OwnL w B v xs) (h3 : xs.length ≤ 2147483648) (h4 : tot xs ≤ 2147483648) : NdsL w v xs := by
  obtain ⟨vs, ho, hr, _, _⟩ := h
  obtain ⟨p, cap, rfl, h1, h2, hat⟩ := At.of_own ho
  exact rows_ndsL hat hr h1 h2 h3 h4
theorem OwnL.keeps {w w' : World} {B : Nat} {v : Value} {xs : List (List Nd)} (h : OwnL w B v xs) (k : Keeps w w') : OwnL w' B v xs := by
  obtain ⟨vs, ho, hr, ha, hf⟩ := h
  exact ⟨vs, own_keeps ho k, hr.keeps k, ha, hf⟩
theorem OwnL.mono {w : World} {B B' : Nat} {v : Value} {xs : List (List Nd)} (h : OwnL w B v xs) (k : B' ≤ B) : OwnL w B' v xs := by
  obtain ⟨vs, ho, hr, ha, hf⟩ := h
  exact ⟨vs, own_mono ho k, hr.mono k, ha, hf⟩
/-- an owned rule: premises and a conclusion -/
def OwnR (w : World) (B : Nat) (v u : Value) (xs : List (List Nd)) (c : List Nd) : Prop := ∃ vs, w.ownsRow B 24 1 v xs.length vs ∧ RowsN w B (u :: vs) (c :: xs) ∧ Apart (u :: vs) ∧ Off v (u :: vs)
theorem RowsN.head {w : World} {B : Nat} {v : Value} {vs : List Value} {x : List Nd} {xs : List (List Nd)} (h : RowsN w B (v :: vs) (x :: xs)) : OwnN w B v x := h.2 0 (by simp) (by simp)
theorem RowsN.tail {w : World} {B : Nat} {v : Value} {vs : List Value} {x : List Nd} {xs : List (List Nd)} (h : RowsN w B (v :: vs) (x :: xs)) : RowsN w B vs xs :=
  ⟨by simpa using h.1, fun i h1 h2 => h.2 (i + 1) (by simpa using h1) (by simpa using h2)⟩
theorem OwnR.ndsL {w : World} {B : Nat} {v u : Value} {xs : List (List Nd)} {c : List Nd} (h : OwnR w B v u xs c) (h3 : xs.length ≤ 2147483648) (h4 : tot xs ≤ 2147483648) : NdsL w v xs := by
  obtain ⟨vs, ho, hr, _, _⟩ := h
  obtain ⟨p, cap, rfl, h1, h2, hat⟩ := At.of_own ho
  exact rows_ndsL hat hr.tail h1 h2 h3 h4
theorem OwnR.nds {w : World} {B : Nat} {v u : Value} {xs : List (List Nd)} {c : List Nd} (h : OwnR w B v u xs c) (h4 : c.length ≤ 2147483648) : Nds w u c := by
  obtain ⟨vs, ho, hr, _, _⟩ := h
  exact hr.head.nds h4
theorem OwnR.keeps {w w' : World} {B : Nat} {v u : Value} {xs : List (List Nd)} {c : List Nd} (h : OwnR w B v u xs c) (k : Keeps w w') : OwnR w' B v u xs c := by
  obtain ⟨vs, ho, hr, ha, hf⟩ := h
  exact ⟨vs, own_keeps ho k, hr.keeps k, ha, hf⟩
theorem OwnR.mono {w : World} {B B' : Nat} {v u : Value} {xs : List (List Nd)} {c : List Nd} (h : OwnR w B v u xs c) (k : B' ≤ B) : OwnR w B' v u xs c := by
  obtain ⟨vs, ho, hr, ha, hf⟩ := h
  exact ⟨vs, own_mono ho k, hr.mono k, ha, hf⟩
theorem OwnR.nil (w : World) (B : Nat) : OwnR w B (.slice none 0 0) (.slice none 0 0) [] [] :=
  ⟨[], World.ownsRow_nil w B _ 1, RowsN.cons (OwnN.nil _ _) (RowsN.nil _ _), Apart.cons (Off.nil _) Apart.nil, fun i hi k hk => by simp [Value.ownBlock] at hk⟩
end Go.Proofs.YtodeecmhcfbheaaGreat
