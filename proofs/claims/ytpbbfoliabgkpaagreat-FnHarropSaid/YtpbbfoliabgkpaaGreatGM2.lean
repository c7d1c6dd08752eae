/- Walks: the laws' own copies, comparisons and marks of node lists and number lists. -/
import Derived.Test.YtpbbfoliabgkpaaGreatGW4
import Derived.Test.YtpbbfoliabgkpaaGreatGM1
namespace Go.Proofs.YtpbbfoliabgkpaaGreat
open Go.RowKit

/-- the marks of a list of nodes, counted from k on -/
def marksN : Nat → Int → List Nd
  | 0, _ => []
  | n + 1, k => ⟨k, k + 1⟩ :: marksN n (k + 2)
theorem marksN_length (n : Nat) : ∀ k, (marksN n k).length = n := by
  induction n with
  | zero => intro k; rfl
  | succ n ih => intro k; simp [marksN, ih]
theorem marksN_succ (n : Nat) : ∀ k, marksN (n + 1) k = marksN n k ++ [⟨k + 2 * n, k + 2 * n + 1⟩] := by
  induction n with
  | zero => intro k; simp [marksN]
  | succ n ih =>
    intro k
    rw [marksN, ih (k + 2), marksN]
    simp; omega
theorem marksN_get (n : Nat) : ∀ (k : Int) (i : Nat) (h : i < (marksN n k).length), (marksN n k)[i] = ⟨k + 2 * i, k + 2 * i + 1⟩ := by
  induction n with
  | zero => intro k i h; simp [marksN] at h
  | succ n ih =>
    intro k i h
    cases i with
    | zero => simp [marksN]
    | succ i =>
      have := ih (k + 2) i (by simpa [marksN] using h)
      simp only [marksN, List.getElem_cons_succ, this]
      simp; omega
end Go.Proofs.YtpbbfoliabgkpaaGreat
/- Worlds in which some blocks are written; lists of owned node lists that lie apart. -/
namespace Go.Proofs.YtpbbfoliabgkpaaGreat
open Go.RowKit

/-- blocks outside a set are as they were -/
structure Touch (w w' : World) (S : Nat → Prop) : Prop where
  os : w'.os = w.os
  tape : w'.tape = w.tape
  output : w'.output = w.output
  size : w.heap.size ≤ w'.heap.size
  block : ∀ k, k < w.heap.size → ¬ S k → w'.heap[k]? = w.heap[k]?
theorem Touch.refl (w : World) (S : Nat → Prop) : Touch w w S := ⟨rfl, rfl, rfl, Nat.le_refl _, fun _ _ _ => rfl⟩
theorem Touch.trans {a b c : World} {S : Nat → Prop} (h : Touch a b S) (k : Touch b c S) : Touch a c S :=
  ⟨k.os.trans h.os, k.tape.trans h.tape, k.output.trans h.output, Nat.le_trans h.size k.size, fun i hi hs => (k.block i (Nat.lt_of_lt_of_le hi h.size) hs).trans (h.block i hi hs)⟩
theorem Touch.mono {a b : World} {S S' : Nat → Prop} (h : Touch a b S) (hs : ∀ k, S k → S' k) : Touch a b S' :=
  ⟨h.os, h.tape, h.output, h.size, fun i hi hn => h.block i hi (fun e => hn (hs i e))⟩
theorem Touch.grown {a b : World} {row : Option Nat} (h : a.grownBy b row) : Touch a b (fun k => some k = row) :=
  ⟨h.os, h.tape, h.output, h.size, fun i hi hn => h.block i hi hn⟩
theorem Touch.of_keeps {a b : World} (h : Keeps a b) (S : Nat → Prop) : Touch a b S :=
  ⟨h.os, h.tape, h.output, h.size, fun _ hi _ => h.block hi⟩
theorem Touch.cell {w w' : World} {S : Nat → Prop} (h : Touch w w' S) {b : Nat} (hb : b < w.heap.size) (hs : ¬ S b) :
    (∀ o, w'.cell? ⟨b, o, none⟩ = w.cell? ⟨b, o, none⟩) ∧ (∀ o, w'.frozen? ⟨b, o, none⟩ = w.frozen? ⟨b, o, none⟩) :=
  ⟨fun o => World.cell?_of_block (a := ⟨b, o, none⟩) (h.block b hb hs), fun o => World.frozen?_of_block (a := ⟨b, o, none⟩) (h.block b hb hs)⟩
theorem Keeps.touch {a w w' : World} {S : Nat → Prop} (h : Keeps a w) (k : Touch w w' S) (hS : ∀ i, S i → a.heap.size ≤ i) : Keeps a w' :=
  ⟨k.os.trans h.os, k.tape.trans h.tape, k.output.trans h.output, Nat.le_trans h.size k.size, fun i hi => (k.block i (Nat.lt_of_lt_of_le hi h.size) (fun e => by have := hS i e; omega)).trans (h.block hi)⟩
theorem own_touch {w w' : World} {S : Nat → Prop} {base : Nat} {e : TypeId} {size : Nat} {v : Value} {n : Nat} {xs : List Value} (h : w.ownsRow base e size v n xs) (k : Touch w w' S) (hS : ∀ i, v.ownBlock = some i → ¬ S i) : w'.ownsRow base e size v n xs := by
  refine ⟨h.1, ?_⟩
  rcases h.2 with hn | ⟨g, cap, cur, rfl, hb, hgg, rest⟩
  · exact .inl hn
  · exact .inr ⟨g, cap, cur, rfl, hb, (k.block g (Array.getElem?_eq_some_iff.1 hgg).1 (hS g rfl)).trans hgg, rest⟩
--
/-- values whose rows lie apart -/
def Apart (vs : List Value) : Prop := ∀ i j (hi : i < vs.length) (hj : j < vs.length), i ≠ j → ∀ k, vs[i].ownBlock = some k → vs[j].ownBlock ≠ some k
def Off (v : Value) (vs : List Value) : Prop := ∀ i (hi : i < vs.length) k, v.ownBlock = some k → vs[i].ownBlock ≠ some k
def blk (vs : List Value) (k : Nat) : Prop := ∃ i, ∃ h : i < vs.length, vs[i].ownBlock = some k
def RowsN (w : World) (B : Nat) (vs : List Value) (xs : List (List Nd)) : Prop := vs.length = xs.length ∧ ∀ i (h1 : i < vs.length) (h2 : i < xs.length), OwnN w B vs[i] xs[i]
theorem OwnN.touch {w w' : World} {S : Nat → Prop} {B : Nat} {v : Value} {x : List Nd} (h : OwnN w B v x) (k : Touch w w' S) (hS : ∀ i, v.ownBlock = some i → ¬ S i) : OwnN w' B v x := own_touch h k hS
theorem RowsN.nil (w : World) (B : Nat) : RowsN w B [] [] := ⟨rfl, fun i h => by simp at h⟩
theorem RowsN.cons {w : World} {B : Nat} {v : Value} {vs : List Value} {x : List Nd} {xs : List (List Nd)} (h : OwnN w B v x) (hs : RowsN w B vs xs) : RowsN w B (v :: vs) (x :: xs) :=
  ⟨by simp [hs.1], fun i h1 h2 => by
    cases i with
    | zero => exact h
    | succ i => exact hs.2 i (by simpa using h1) (by simpa using h2)⟩
theorem RowsN.snoc {w : World} {B : Nat} {v : Value} {vs : List Value} {x : List Nd} {xs : List (List Nd)} (h : OwnN w B v x) (hs : RowsN w B vs xs) : RowsN w B (vs ++ [v]) (xs ++ [x]) :=
  ⟨by simp [hs.1], fun i h1 h2 => by
    have hl := hs.1
    by_cases hi : i < vs.length
    · rw [List.getElem_append_left hi, List.getElem_append_left (by omega)]; exact hs.2 i hi (by omega)
    · simp at h1
      obtain rfl : i = vs.length := by omega
      rw [List.getElem_append_right (Nat.le_refl _), List.getElem_append_right (by omega)]
      simpa [hl] using h⟩
theorem RowsN.keeps {w w' : World} {B : Nat} {vs : List Value} {xs : List (List Nd)} (h : RowsN w B vs xs) (k : Keeps w w') : RowsN w' B vs xs := ⟨h.1, fun i h1 h2 => (h.2 i h1 h2).keeps k⟩
theorem RowsN.mono {w : World} {B B' : Nat} {vs : List Value} {xs : List (List Nd)} (h : RowsN w B vs xs) (k : B' ≤ B) : RowsN w B' vs xs := ⟨h.1, fun i h1 h2 => (h.2 i h1 h2).mono k⟩
theorem RowsN.touch {w w' : World} {S : Nat → Prop} {B : Nat} {vs : List Value} {xs : List (List Nd)} (h : RowsN w B vs xs) (k : Touch w w' S) (hS : ∀ i, blk vs i → ¬ S i) : RowsN w' B vs xs :=
  ⟨h.1, fun i h1 h2 => (h.2 i h1 h2).touch k (fun j e => hS j ⟨i, h1, e⟩)⟩
theorem RowsN.lt {w : World} {B : Nat} {vs : List Value} {xs : List (List Nd)} (h : RowsN w B vs xs) {k : Nat} (hk : blk vs k) : B ≤ k ∧ k < w.heap.size := by
  obtain ⟨i, hi, e⟩ := hk
  exact (h.2 i hi (by have := h.1; omega)).len k e
/-- one row is written anew -/
theorem RowsN.update {w w' : World} {B : Nat} {vs : List Value} {xs : List (List Nd)} (h : RowsN w B vs xs) (ha : Apart vs) (i : Nat) (hi : i < vs.length) (hg : w.grownBy w' vs[i].ownBlock) {z : List Nd} (hz : OwnN w' B vs[i] z) : RowsN w' B vs (xs.set i z) :=
  ⟨by simp [h.1], fun j h1 h2 => by
    by_cases e : i = j
    · subst e; simpa using hz
    · rw [List.getElem_set_ne e]
      exact (h.2 j h1 (by have := h.1; omega)).touch (Touch.grown hg) (fun k hk hs => ha i j hi h1 e k hs.symm hk)⟩
theorem Apart.nil : Apart [] := fun i j hi => by simp at hi
theorem Apart.cons {v : Value} {vs : List Value} (h : Off v vs) (hs : Apart vs) : Apart (v :: vs) := fun i j hi hj hne k hk => by
  cases i with
  | zero =>
    cases j with
    | zero => exact absurd rfl hne
    | succ j => exact h j (by simpa using hj) k hk
  | succ i =>
    cases j with
    | zero => exact fun e => h i (by simpa using hi) k e hk
    | succ j => exact hs i j (by simpa using hi) (by simpa using hj) (fun e => hne (by rw [e])) k hk
theorem Apart.tail {v : Value} {vs : List Value} (h : Apart (v :: vs)) : Apart vs := fun i j hi hj hne k hk =>
  h (i + 1) (j + 1) (by simpa using hi) (by simpa using hj) (by omega) k hk
theorem Apart.head {v : Value} {vs : List Value} (h : Apart (v :: vs)) : Off v vs := fun i hi k hk =>
  h 0 (i + 1) (by simp) (by simpa using hi) (by omega) k hk
theorem Off.nil (v : Value) : Off v [] := fun i hi => by simp at hi
theorem Off.of_blk {v : Value} {vs : List Value} (h : ∀ k, v.ownBlock = some k → ¬ blk vs k) : Off v vs := fun i hi k hk e => h k hk ⟨i, hi, e⟩
theorem Off.not_blk {v : Value} {vs : List Value} (h : Off v vs) {k : Nat} (hk : v.ownBlock = some k) : ¬ blk vs k := fun ⟨i, hi, e⟩ => h i hi k hk e
theorem Apart.snoc {v : Value} {vs : List Value} (h : ∀ k, v.ownBlock = some k → ¬ blk vs k) (hs : Apart vs) : Apart (vs ++ [v]) := fun i j hi hj hne k hk => by
  simp at hi hj
  by_cases h1 : i < vs.length
  · rw [List.getElem_append_left h1] at hk
    by_cases h2 : j < vs.length
    · rw [List.getElem_append_left h2]; exact hs i j h1 h2 hne k hk
    · obtain rfl : j = vs.length := by omega
      rw [List.getElem_append_right (Nat.le_refl _)]
      intro e; exact h k (by simpa using e) ⟨i, h1, hk⟩
  · obtain rfl : i = vs.length := by omega
    rw [List.getElem_append_right (Nat.le_refl _)] at hk
    have h2 : j < vs.length := by omega
    rw [List.getElem_append_left h2]
    intro e; exact h k (by simpa using hk) ⟨j, h2, e⟩
/-- how many nodes the lists have in all -/
def tot : List (List Nd) → Nat
  | [] => 0
  | x :: xs => x.length + tot xs
theorem tot_append (xs ys : List (List Nd)) : tot (xs ++ ys) = tot xs + tot ys := by
  induction xs with
  | nil => simp [tot]
  | cons x xs ih => simp [tot, ih]; omega
theorem tot_take (xs : List (List Nd)) (i : Nat) (h : i < xs.length) : tot (xs.take (i + 1)) = tot (xs.take i) + xs[i].length := by
  rw [List.take_succ_eq_append_getElem h, tot_append]; simp [tot]
theorem tot_le (xs : List (List Nd)) (i : Nat) : tot (xs.take i) ≤ tot xs := by
  have := tot_append (xs.take i) (xs.drop i)
  rw [List.take_append_drop] at this; omega
theorem tot_mem (xs : List (List Nd)) (i : Nat) (h : i < xs.length) : tot (xs.take i) + xs[i].length ≤ tot xs := by
  rw [← tot_take xs i h]; exact tot_le xs _
def marksL : List (List Nd) → Int → List (List Nd)
  | [], _ => []
  | x :: xs, k => marksN x.length k :: marksL xs (k + 2 * x.length)
theorem marksL_length (xs : List (List Nd)) : ∀ k, (marksL xs k).length = xs.length := by
  induction xs with
  | nil => intro k; rfl
  | cons x xs ih => intro k; simp [marksL, ih]
theorem marksL_get (xs : List (List Nd)) : ∀ (k : Int) (i : Nat) (h : i < (marksL xs k).length) (h' : i < xs.length), (marksL xs k)[i] = marksN xs[i].length (k + 2 * tot (xs.take i)) := by
  induction xs with
  | nil => intro k i h h'; simp at h'
  | cons x xs ih =>
    intro k i h h'
    cases i with
    | zero => simp [marksL, tot]
    | succ i =>
      have := ih (k + 2 * x.length) i (by simpa [marksL] using h) (by simpa using h')
      simp only [marksL, List.getElem_cons_succ, this, List.take_succ_cons, tot]
      congr 1; omega
theorem tot_marks (xs : List (List Nd)) : ∀ k, tot (marksL xs k) = tot xs := by
  induction xs with
  | nil => intro k; rfl
  | cons x xs ih => intro k; simp [marksL, tot, ih, marksN_length]
/-- an owned list of owned lists that lie apart -/
def OwnL (w : World) (B : Nat) (v : Value) (xs : List (List Nd)) : Prop := ∃ vs, w.ownsRow B 24 1 v xs.length vs ∧ RowsN w B vs xs ∧ Apart vs ∧ Off v vs
/-- the rows of a list's header read as lists -/
theorem rows_ndsL {w : World} {B : Nat} {p : Option Addr} {cap : Nat} {vs : List Value} {xs : List (List Nd)} (hat : At w p vs) (hr : RowsN w B vs xs) (h1 : xs.length ≤ cap) (h2 : cap ≤ maxLen) (h3 : xs.length ≤ 2147483648) (h4 : tot xs ≤ 2147483648) : NdsL w (.slice p xs.length cap) xs := by
  refine ⟨p, cap, rfl, h1, h2, h3, fun i hi => ?_⟩
  have hl := hr.1
  obtain ⟨b, off, hp, hc⟩ := hat i (by omega)
  refine ⟨b, off, fun _ => vs[i], hp, fun c hc' => ?_, (hr.2 i (by omega) hi).nds (by have := tot_mem xs i hi; omega)⟩
  obtain rfl : c = 0 := by omega
  simpa using hc
theorem OwnL.ndsL {w : World} {B : Nat} {v : Value} {xs : List (List Nd)} (h : OwnL w B v xs) (h3 : xs.length ≤ 2147483648) (h4 : tot xs ≤ 2147483648) : NdsL w v xs := by
  obtain ⟨vs, ho, hr, _, _⟩ := h
  obtain ⟨p, cap, rfl, h1, h2, hat⟩ := At.of_own ho
  exact rows_ndsL hat hr h1 h2 h3 h4
theorem OwnL.keeps {w w' : World} {B : Nat} {v : Value} {xs : List (List Nd)} (h : OwnL w B v xs) (k : Keeps w w') : OwnL w' B v xs := by
  obtain ⟨vs, ho, hr, ha, hf⟩ := h
  exact ⟨vs, own_keeps ho k, hr.keeps k, ha, hf⟩
theorem OwnL.mono {w : World} {B B' : Nat} {v : Value} {xs : List (List Nd)} (h : OwnL w B v xs) (k : B' ≤ B) : OwnL w B' v xs := by
  obtain ⟨vs, ho, hr, ha, hf⟩ := h
  exact ⟨vs, own_mono ho k, hr.mono k, ha, hf⟩
/-- an owned rule: premises and a conclusion -/
def OwnR (w : World) (B : Nat) (v u : Value) (xs : List (List Nd)) (c : List Nd) : Prop := ∃ vs, w.ownsRow B 24 1 v xs.length vs ∧ RowsN w B (u :: vs) (c :: xs) ∧ Apart (u :: vs) ∧ Off v (u :: vs)
theorem RowsN.head {w : World} {B : Nat} {v : Value} {vs : List Value} {x : List Nd} {xs : List (List Nd)} (h : RowsN w B (v :: vs) (x :: xs)) : OwnN w B v x := h.2 0 (by simp) (by simp)
theorem RowsN.tail {w : World} {B : Nat} {v : Value} {vs : List Value} {x : List Nd} {xs : List (List Nd)} (h : RowsN w B (v :: vs) (x :: xs)) : RowsN w B vs xs :=
  ⟨by simpa using h.1, fun i h1 h2 => h.2 (i + 1) (by simpa using h1) (by simpa using h2)⟩
theorem OwnR.ndsL {w : World} {B : Nat} {v u : Value} {xs : List (List Nd)} {c : List Nd} (h : OwnR w B v u xs c) (h3 : xs.length ≤ 2147483648) (h4 : tot xs ≤ 2147483648) : NdsL w v xs := by
  obtain ⟨vs, ho, hr, _, _⟩ := h
  obtain ⟨p, cap, rfl, h1, h2, hat⟩ := At.of_own ho
  exact rows_ndsL hat hr.tail h1 h2 h3 h4
theorem OwnR.nds {w : World} {B : Nat} {v u : Value} {xs : List (List Nd)} {c : List Nd} (h : OwnR w B v u xs c) (h4 : c.length ≤ 2147483648) : Nds w u c := by
  obtain ⟨vs, ho, hr, _, _⟩ := h
  exact hr.head.nds h4
theorem OwnR.keeps {w w' : World} {B : Nat} {v u : Value} {xs : List (List Nd)} {c : List Nd} (h : OwnR w B v u xs c) (k : Keeps w w') : OwnR w' B v u xs c := by
  obtain ⟨vs, ho, hr, ha, hf⟩ := h
  exact ⟨vs, own_keeps ho k, hr.keeps k, ha, hf⟩
theorem OwnR.mono {w : World} {B B' : Nat} {v u : Value} {xs : List (List Nd)} {c : List Nd} (h : OwnR w B v u xs c) (k : B' ≤ B) : OwnR w B' v u xs c := by
  obtain ⟨vs, ho, hr, ha, hf⟩ := h
  exact ⟨vs, own_mono ho k, hr.mono k, ha, hf⟩
theorem OwnR.nil (w : World) (B : Nat) : OwnR w B (.slice none 0 0) (.slice none 0 0) [] [] :=
  ⟨[], World.ownsRow_nil w B _ 1, RowsN.cons (OwnN.nil _ _) (RowsN.nil _ _), Apart.cons (Off.nil _) Apart.nil, fun i hi k hk => by simp [Value.ownBlock] at hk⟩
end Go.Proofs.YtpbbfoliabgkpaaGreat
/- Walks: the variables of formulas; errors and limits of lists of formulas, on both sides. -/
namespace Go.Proofs.YtpbbfoliabgkpaaGreat
open Go.RowKit
--
set_option maxRecDepth 20000 in
set_option maxHeartbeats 1000000 in
theorem l02Variables_any (a : List Nd) (v : Value) (w : World) (hv : Nds w v a) (ha : a.all okNd = true) : Calls Tryz.prog 112 #[v] w (RetI w (mem (vm a))) := by
  have hv0 := hv
  obtain ⟨p, cap, rfl, hle, hmx, hata, hlen⟩ := hv
  unfold maxLen at hmx
  have HA := hid ha; clear ha
  go_enter Tryz.func112, Tryz.ntmps112
  go_wp2
  go_loop [3, 4] (fun c i' => ∃ k : Nat, k ≤ a.length ∧ i' = .int .i64 k ∧ c = .int .i64 (vm (a.take k))) (fun _ i => a.length - (intOf i).toNat)
  case atStart => exact ⟨0, by omega, rfl, by simp [vm]⟩
  case round =>
    obtain ⟨k, hk, rfl, rfl⟩ := hrel
    by_cases hlt : k < a.length
    · obtain ⟨b1, o1, rfl, h1, h2⟩ := hata.nd k hlt
      clear hata hv0
      have hlt' : (k : Int) < a.length := by omega
      have hvl := vm_lt HA.out k hk
      have hst := vm_take a k hlt
      by_cases h0 : a[k].k = 0
      · obtain ⟨s, hs, e⟩ := ok_sym HA.out k hlt h0
        rw [if_pos h0, e] at hst
        have hor := or_table ⟨_, hvl⟩ ⟨s, hs⟩
        rw [h0] at h1
        rw [e] at h2
        have HO := hid hor; clear hor
        have HS := hid hst; clear hst
        have H1 := hid (l01One_any (s : Int) w (by omega) (by omega))
        clear e h0
        generalize vm (List.take k a) = m at *
        go_wp2_with fail
        refine H1.out.mono ?_; rintro e w' ⟨rfl, rfl⟩
        simp only [Int.toNat_natCast]
        go_wp2_with fail
        go_round
        case rel => exact ⟨k + 1, by omega, by go_num, by rw [HS.out]; have h := HO.out; simp only [Int.toNat_natCast] at *; rw [h]⟩
        case measure => simp [intOf]; omega
      · have hb : (a[k].k == 0) = false := by simp [h0]
        rw [if_neg h0] at hst
        have HS := hid hst; clear hst
        clear h0
        go_wp2
        go_round
        case rel => exact ⟨k + 1, by omega, by go_num, by rw [HS.out]⟩
        case measure => simp [intOf]; omega
    · have hm64 := vm_lt HA.out k hk
      rw [List.take_of_length_le (by omega)] at *
      have HL := hid (l01List_any (vm a) w hm64)
      generalize vm a = m at *
      clear hata hv0
      go_wp2_with fail
      refine HL.out.mono ?_; rintro e w2 ⟨v2, rfl, hv2, k2⟩
      go_wp2_with fail
      go_ret
      exact ⟨_, rfl, hv2, k2⟩
--
set_option maxRecDepth 20000 in
set_option maxHeartbeats 1000000 in
theorem variablesIn_one (a : List Nd) (v : Value) (w : World) (hv : NdsL w v [a]) (ha : a.all okNd = true) : Calls Tryz.prog 99 #[v] w (RetI w (mem (vm a))) := by
  have hv0 := hv
  obtain ⟨p, cap, rfl, hle, hmx, hlen, _⟩ := hv
  simp only [List.length_cons, List.length_nil, Nat.zero_add] at *
  unfold maxLen at hmx
  obtain ⟨b, off, u, rfl, hc, hu⟩ := hv0.get 0 (by simp)
  simp only [List.getElem_cons_zero] at hu
  rw [Nat.add_zero] at hc
  have hm64 := vm_lt ha a.length (Nat.le_refl _)
  rw [List.take_length] at hm64
  have HV := hid (variableMask_any a u w hu ha)
  have HM := hid (fun w2 => membersOf_any (vm a) w2 hm64)
  have hor : bits BinOp.or IntKind.i64 0 ((vm a : Nat) : Int) = ((vm a : Nat) : Int) := by
    have : ∀ m : Fin 64, bits BinOp.or IntKind.i64 0 ((m : Nat) : Int) = ((m : Nat) : Int) := by decide +kernel
    exact this ⟨_, hm64⟩
  generalize vm a = m at *
  clear hv0 hu ha
  go_enter Tryz.func99, Tryz.ntmps99
  go_wp2
  go_loopw [3, 8] (fun c i' wr => (i' = .int .i64 0 ∧ c = .int .i64 0 ∧ wr = w) ∨ (i' = .int .i64 1 ∧ c = .int .i64 m ∧ Keeps w wr)) (fun _ i _ => 1 - (intOf i).toNat)
  case atStart => exact .inl ⟨rfl, rfl, rfl⟩
  case round =>
    rcases hrel with ⟨rfl, rfl, rfl⟩ | ⟨rfl, rfl, kw⟩
    · go_wp2_with fail
      refine HV.out.mono ?_; rintro e w2 ⟨rfl, k2⟩
      go_wp2_with fail
      go_roundw
      case rel => exact .inr ⟨by first | rfl | go_num, by first | rw [hor] | rfl, k2⟩
      case measure => simp [intOf]
    · go_wp2_with fail
      refine (HM.out _).mono ?_; rintro e w2 ⟨v2, rfl, hv2, k2⟩
      go_wp2_with fail
      go_ret
      exact ⟨_, rfl, hv2.mono kw.size, kw.trans k2⟩
--
set_option maxRecDepth 20000 in
set_option maxHeartbeats 1000000 in
theorem l04Code_any (l : List (List Nd)) (v : Value) (w : World) (hv : NdsL w v l) : Calls Tryz.prog 200 #[v] w fun e w' => e = .returned (.int .i64 (plainErrs l)) ∧ w = w' := by
  have hv0 := hv
  obtain ⟨p, cap, rfl, hle, hmx, hlen, _⟩ := hv
  unfold maxLen at hmx
  go_enter Tryz.func200, Tryz.ntmps200
  go_wp2
  go_loop [2, 3] (fun r i' => r = .int .i64 0 ∧ ∃ k : Nat, k ≤ l.length ∧ i' = .int .i64 k ∧ ∀ j (h : j < l.length), j < k → isFm l[j] = true) (fun _ i => l.length - (intOf i).toNat)
  case atStart => exact ⟨rfl, 0, by omega, rfl, fun j h hj => by omega⟩
  case round =>
    obtain ⟨rfl, k, hk, rfl, hs⟩ := hrel
    have Hs := hid hs; clear hs
    by_cases hlt : k < l.length
    · obtain ⟨b, off, u, rfl, hc, hu⟩ := hv0.get k hlt
      clear hv0
      have hlt' : (k : Int) < l.length := by omega
      have HF := hid (l02Is_any _ _ w hu)
      obtain ⟨p1, n1, q1, rfl⟩ := hu.shape
      clear hu
      cases hf : isFm l[k]
      · rw [hf] at HF
        have Hf := hid hf; clear hf
        go_wp2_with fail
        refine HF.out.mono ?_; rintro e w' ⟨rfl, rfl⟩
        go_wp2_with fail
        go_ret
        refine ⟨ret_int ?_, rfl⟩
        have h1 : l.any (fun x => !isFm x) = true := List.any_eq_true.2 ⟨_, List.getElem_mem hlt, by rw [Hf.out]; rfl⟩
        simp [plainErrs, allFm, h1]
      · rw [hf] at HF
        have Hf := hid hf; clear hf
        go_wp2_with fail
        refine HF.out.mono ?_; rintro e w' ⟨rfl, rfl⟩
        go_wp2_with fail
        go_round
        case rel => exact ⟨rfl, k + 1, by omega, by go_num, fun j h hj => by
          by_cases e : j = k
          · subst e; exact Hf.out
          · exact Hs.out j h (by omega)⟩
        case measure => simp [intOf]; omega
    · have hall : l.any (fun x => !isFm x) = false := by
        rw [Bool.eq_false_iff]; intro h
        obtain ⟨x, hx, h2⟩ := List.any_eq_true.1 h
        obtain ⟨j, hj, rfl⟩ := List.getElem_of_mem hx
        rw [Hs.out j hj (by omega)] at h2; cases h2
      have Hall := hid hall; clear hall
      clear Hs
      go_wp2
      go_loop [2, 4] (fun r i' => r = .int .i64 0 ∧ ∃ k : Nat, k ≤ l.length ∧ i' = .int .i64 k ∧ ∀ j (h : j < l.length), j < k → plainL l[j] = true) (fun _ i => l.length - (intOf i).toNat)
      case atStart => exact ⟨rfl, 0, by omega, rfl, fun j h hj => by omega⟩
      case round =>
        obtain ⟨rfl, k, hk, rfl, hs⟩ := hrel
        have Hs := hid hs; clear hs
        by_cases hlt : k < l.length
        · obtain ⟨b, off, u, rfl, hc, hu⟩ := hv0.get k hlt
          clear hv0
          have hlt' : (k : Int) < l.length := by omega
          have HF := hid (l02Plain_any _ _ w hu)
          obtain ⟨p1, n1, q1, rfl⟩ := hu.shape
          clear hu
          cases hf : plainL l[k]
          · rw [hf] at HF
            have Hf := hid hf; clear hf
            go_wp2_with fail
            refine HF.out.mono ?_; rintro e w' ⟨rfl, rfl⟩
            go_wp2_with fail
            go_ret
            refine ⟨ret_int ?_, rfl⟩
            have h1 : l.any (fun x => !plainL x) = true := List.any_eq_true.2 ⟨_, List.getElem_mem hlt, by rw [Hf.out]; rfl⟩
            simp [plainErrs, allFm, allPlainL, h1, Hall.out]
          · rw [hf] at HF
            have Hf := hid hf; clear hf
            go_wp2_with fail
            refine HF.out.mono ?_; rintro e w' ⟨rfl, rfl⟩
            go_wp2_with fail
            go_round
            case rel => exact ⟨rfl, k + 1, by omega, by go_num, fun j h hj => by
              by_cases e : j = k
              · subst e; exact Hf.out
              · exact Hs.out j h (by omega)⟩
            case measure => simp [intOf]; omega
        · go_wp2
          go_ret
          refine ⟨ret_int ?_, rfl⟩
          have h1 : l.any (fun x => !plainL x) = false := by
            rw [Bool.eq_false_iff]; intro h
            obtain ⟨x, hx, h2⟩ := List.any_eq_true.1 h
            obtain ⟨j, hj, rfl⟩ := List.getElem_of_mem hx
            rw [Hs.out j hj (by omega)] at h2; cases h2
          simp [plainErrs, allFm, allPlainL, h1, Hall.out]
theorem l31Plain_any (l : List (List Nd)) (v : Value) (w : World) (hv : NdsL w v l) : Calls Tryz.prog 111 #[v] w fun e w' => e = .returned (.int .i64 (plainErrs l)) ∧ w = w' := by
  have H := hid (l04Code_any l v w hv)
  obtain ⟨p1, c1, rfl, _⟩ := hv
  go_enter Tryz.func111, Tryz.ntmps111
  go_wp2_with fail
  refine H.out.mono ?_; rintro e w' ⟨rfl, rfl⟩
  go_wp2_with fail
  go_ret
  exact ⟨rfl, rfl⟩
--
theorem isMask6_any (x : Int) (w : World) : Calls Tryz.prog 117 #[.int .i64 6, .int .i64 x] w fun e w' => e = .returned (.bool (inR x 0 63)) ∧ w = w' := by
  have h1 := inRange_any 6 0 30 w
  have h2 := inRange_any x 0 63 w
  rw [show inR 6 0 30 = true from by decide] at h1
  have H1 := hid h1; clear h1
  have H2 := hid h2; clear h2
  go_enter Tryz.func117, Tryz.ntmps117
  go_wp2_with fail
  refine H1.out.mono ?_; rintro e w' ⟨rfl, rfl⟩
  go_wp2_with fail
  refine H2.out.mono ?_; rintro e w' ⟨rfl, rfl⟩
  go_wp2_with fail
  go_ret
  exact ⟨rfl, rfl⟩
--
def bigL (l : List (List Nd)) : Bool := l.any fun x => decide (40 < x.length)
theorem limitedAll_1_any (x : List Nd) (u : Value) (w : World) (hu : Nds w u x) : Calls Tryz.prog 188 #[u] w fun e w' => e = .returned (.bool (decide (40 < x.length))) ∧ Keeps w w' := by
  obtain ⟨p, cap, rfl, hle, hmx, _, hlen⟩ := hu
  go_enter Tryz.func188, Tryz.ntmps188
  go_wp2
  go_ret
  exact ⟨ret_bool (by first | rfl | (apply decide_eq_decide.2; omega)), Keeps.refl _⟩
theorem enters_limitedAll_1 : Enters 188 := fun _ _ => by kernel_rfl
set_option maxRecDepth 20000 in
set_option maxHeartbeats 1000000 in
theorem limitedAll_any (l : List (List Nd)) (v : Value) (w : World) (hv : NdsL w v l) :
    Calls Tryz.prog 95 #[v] w fun e w' => e = .returned (.tuple #[if bigL l then .slice none 0 0 else v, .int .i64 (if bigL l then 3 else 0)]) ∧ Keeps w w' := by
  have HC := hid (containsFuncL (fun x => decide (40 < x.length)) 188 #[] l v w hv enters_limitedAll_1 (fun x u w1 _ _ h => limitedAll_1_any x u w1 h))
  obtain ⟨p, cap, rfl, _⟩ := hv
  cases hb : bigL l
  all_goals
    have Hb := hid hb; clear hb
    go_enter Tryz.func95, Tryz.ntmps95
    go_wp2_with fail
    refine HC.out.mono ?_; rintro e w2 ⟨rfl, k2⟩
    have h : (l.any fun x => decide (40 < x.length)) = _ := Hb.out
    rw [h]
    go_wp2_with fail
    go_ret2
    exact ⟨rfl, k2⟩
end Go.Proofs.YtpbbfoliabgkpaaGreat
