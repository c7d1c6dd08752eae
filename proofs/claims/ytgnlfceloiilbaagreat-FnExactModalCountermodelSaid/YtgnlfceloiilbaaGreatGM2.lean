/- Walks: masks of variables and their members, on both sides; errors of lists of formulas. -/
import Derived.Test.YtgnlfceloiilbaaGreatGW7
import Derived.Test.YtgnlfceloiilbaaGreatGQ1
import Derived.Test.YtgnlfceloiilbaaGreatGBase
import Derived.Test.YtgnlfceloiilbaaGreatGSR
namespace Go.Proofs.YtgnlfceloiilbaaGreat
open Go.RowKit
theorem bit_table : ∀ (m : Fin 64) (i : Fin 7), (bits BinOp.and IntKind.i64 (((m : Nat) : Int) / 2 ^ (i : Nat)) 1 == 1) = (m : Nat).testBit i := by decide +kernel
theorem or_table : ∀ (m : Fin 64) (s : Fin 6), bits BinOp.or IntKind.i64 ((m : Nat) : Int) (2 ^ (s : Nat)) = (((m : Nat) ||| 2 ^ (s : Nat) : Nat) : Int) := by decide +kernel
theorem or_lt : ∀ (m : Fin 64) (s : Fin 6), (m : Nat) ||| 2 ^ (s : Nat) < 64 := by decide +kernel
/-- the mask of the variables of a list of nodes -/
def vm (a : List Nd) : Nat := a.foldl (fun m n => if n.k = 0 then m ||| 2 ^ n.s.toNat else m) 0
theorem vm_snoc (a : List Nd) (x : Nd) : vm (a ++ [x]) = if x.k = 0 then vm a ||| 2 ^ x.s.toNat else vm a := by simp [vm, List.foldl_append]
theorem vm_take (a : List Nd) (k : Nat) (h : k < a.length) : vm (a.take (k + 1)) = if a[k].k = 0 then vm (a.take k) ||| 2 ^ a[k].s.toNat else vm (a.take k) := by
  rw [List.take_succ_eq_append_getElem h, vm_snoc]
theorem ok_sym {a : List Nd} (h : a.all okNd = true) (k : Nat) (hk : k < a.length) (h0 : a[k].k = 0) : ∃ s : Nat, s < 6 ∧ a[k].s = s := by
  have := List.all_eq_true.1 h a[k] (List.getElem_mem hk)
  simp [okNd, h0] at this
  exact ⟨a[k].s.toNat, by omega, by omega⟩
theorem vm_lt {a : List Nd} (h : a.all okNd = true) : ∀ k, k ≤ a.length → vm (a.take k) < 64 := by
  intro k
  induction k with
  | zero => intro _; simp [vm]
  | succ k ih =>
    intro hk
    have h1 := ih (by omega)
    rw [vm_take a k (by omega)]
    split
    · rename_i h0
      obtain ⟨s, hs, e⟩ := ok_sym h k (by omega) h0
      rw [e]
      exact or_lt ⟨_, h1⟩ ⟨s, hs⟩
    · exact h1
/-- the members of a mask below a bound -/
def low (m i : Nat) : List Int := ((List.range i).filter (fun j => m.testBit j)).map Int.ofNat
def mem (m : Nat) : List Int := low m 6
theorem low_succ (m i : Nat) : low m (i + 1) = if m.testBit i then low m i ++ [(i : Int)] else low m i := by
  unfold low
  rw [List.range_succ, List.filter_append, List.map_append]
  by_cases h : m.testBit i <;> simp [h]
theorem low_len (m : Nat) : ∀ i, (low m i).length ≤ i := by
  intro i
  unfold low
  rw [List.length_map]
  exact Nat.le_trans (List.length_filter_le _ _) (by simp)
theorem low_end : ∀ (m : Fin 64) (i : Fin 7), (m : Nat) / 2 ^ (i : Nat) = 0 → low m i = mem m := by decide +kernel
theorem mem_range (m : Nat) : ∀ x ∈ mem m, ∃ k : Nat, k < 6 ∧ x = k := by
  intro x hx
  simp [mem, low] at hx
  obtain ⟨k, ⟨h1, _⟩, rfl⟩ := hx
  exact ⟨k, h1, rfl⟩
theorem wrap_table : ∀ (q : Fin 64), wrap64 (((q : Nat) / 2 : Nat) : Int) = (((q : Nat) / 2 : Nat) : Int) := by decide +kernel
theorem div_table : ∀ (m : Fin 64), (m : Nat) / 2 ^ 6 = 0 := by decide +kernel
theorem mod_table : ∀ (m : Fin 64) (i : Fin 7), ((m : Nat) / 2 ^ (i : Nat)) % 2 = 1 ↔ (m : Nat).testBit i = true := by decide +kernel
--
theorem has_any (m i : Nat) (w : World) (hm : m < 64) (hi : i ≤ 6) : Calls Tryz.prog 162 #[.int .i64 m, .int .i64 i] w fun e w' => e = .returned (.bool (m.testBit i)) ∧ w = w' := by
  go_enter Tryz.func162, Tryz.ntmps162
  go_wp2
  go_ret
  exact ⟨ret_bool (bit_table ⟨m, hm⟩ ⟨i, by omega⟩), rfl⟩
--
theorem l01Bit_any (m i : Nat) (w : World) (hm : m < 64) (hi : i ≤ 6) : Calls Tryz.prog 139 #[.int .i64 m, .int .i64 i] w fun e w' => e = .returned (.bool (m.testBit i)) ∧ w = w' := by
  go_enter Tryz.func139, Tryz.ntmps139
  go_wp2
  go_ret
  exact ⟨ret_bool (bit_table ⟨m, hm⟩ ⟨i, by omega⟩), rfl⟩
--
set_option maxRecDepth 20000 in
set_option maxHeartbeats 1000000 in
theorem variableMask_any (a : List Nd) (v : Value) (w : World) (hv : Nds w v a) (ha : a.all okNd = true) : Calls Tryz.prog 282 #[v] w fun e w' => e = .returned (.int .i64 (vm a)) ∧ Keeps w w' := by
  have hv0 := hv
  obtain ⟨p, cap, rfl, hle, hmx, _, hlen⟩ := hv
  unfold maxLen at hmx
  have HA := hid ha; clear ha
  go_enter Tryz.func282, Tryz.ntmps282
  go_wp2
  go_loopw [3, 8] (fun c i' wr => ∃ k : Nat, k ≤ a.length ∧ i' = .int .i64 k ∧ c = .int .i64 (vm (a.take k)) ∧ Keeps w wr) (fun _ i _ => a.length - (intOf i).toNat)
  case atStart => exact ⟨0, by omega, rfl, by simp [vm], Keeps.refl w⟩
  case round =>
    obtain ⟨k, hk, rfl, rfl, kw⟩ := hrel
    by_cases hlt : k < a.length
    · obtain ⟨_, _, e1, _, _, hata, _⟩ := hv0.keeps kw
      cases e1
      obtain ⟨b1, o1, rfl, h1, h2⟩ := hata.nd k hlt
      clear hata hv0
      have hlt' : (k : Int) < a.length := by omega
      have hvl := vm_lt HA.out k hk
      have hst := vm_take a k hlt
      have hkk := kw.alloc (.cells #[.int .i64 a[k].k, .int .i64 a[k].s] 145)
      by_cases h0 : a[k].k = 0
      · obtain ⟨s, hs, e⟩ := ok_sym HA.out k hlt h0
        rw [if_pos h0, e] at hst
        have hor := or_table ⟨_, hvl⟩ ⟨s, hs⟩
        have hwp := wrap_pow s (by omega)
        rw [h0] at h1 hkk
        rw [e] at h2 hkk
        have HO := hid hor; clear hor
        have HS := hid hst; clear hst
        clear e h0
        generalize vm (List.take k a) = m at *
        go_wp2
        go_roundw
        case rel => exact ⟨k + 1, by omega, by go_num, by rw [HS.out]; have h := HO.out; simp only [Int.toNat_natCast] at *; rw [h], hkk⟩
        case measure => simp [intOf]; omega
      · have hb : (a[k].k == 0) = false := by simp [h0]
        rw [if_neg h0] at hst
        have HS := hid hst; clear hst
        clear h0
        go_wp2
        go_roundw
        case rel => exact ⟨k + 1, by omega, by go_num, by rw [HS.out], hkk⟩
        case measure => simp [intOf]; omega
    · go_wp2
      go_ret
      rw [List.take_of_length_le (by omega)]
      exact ⟨rfl, kw⟩
--
set_option maxRecDepth 20000 in
set_option maxHeartbeats 1000000 in
theorem membersOf_any (m : Nat) (w : World) (hm : m < 64) : Calls Tryz.prog 283 #[.int .i64 m] w (RetI w (mem m)) := by
  go_enter Tryz.func283, Tryz.ntmps283
  go_wp2
  go_loopw [3, 4] (fun o i' wr => ∃ i : Nat, i ≤ 6 ∧ i' = .int .i64 i ∧ OwnI wr w.heap.size o (low m i) ∧ Keeps w wr) (fun _ i _ => 7 - (intOf i).toNat)
  case atStart => exact ⟨0, by omega, rfl, by simpa [low] using OwnI.nil w w.heap.size, Keeps.refl w⟩
  case round =>
    obtain ⟨i, hi, rfl, hown, kw⟩ := hrel
    have hcast : (m : Int) / 2 ^ i = ((m / 2 ^ i : Nat) : Int) := by push_cast; rfl
    by_cases hp : 0 < m / 2 ^ i
    · have hi6 : i < 6 := by
        rcases Nat.lt_or_ge i 6 with h | h
        · exact h
        · obtain rfl : i = 6 := by omega
          have := div_table ⟨m, hm⟩
          simp only at this; omega
      have hd : decide ((m : Int) / 2 ^ i > 0) = true := by rw [hcast]; simp only [decide_eq_true_eq]; omega
      have hd' : (0 : Int) < (m : Int) / 2 ^ i := by rw [hcast]; omega
      have hls := low_succ m i
      have hll := low_len m i
      have HH := hid (has_any m i wr hm (by omega))
      have HLS := hid hls; clear hls
      clear hcast hp
      cases hb : m.testBit i
      · rw [hb] at HH HLS
        clear hb
        go_wp2_with fail
        refine HH.out.mono ?_; rintro e w' ⟨rfl, rfl⟩
        go_wp2_with fail
        go_roundw
        case rel => exact ⟨i + 1, by omega, by go_num, by have h := HLS.out; simp only [Bool.false_eq_true, if_false] at h; rw [h]; exact hown, kw⟩
        case measure => simp [intOf]; omega
      · rw [hb] at HH HLS
        clear hb
        go_wp2_with fail
        refine HH.out.mono ?_; rintro e w' ⟨rfl, rfl⟩
        go_wp2_with (at_builtin; refine appI rfl _ _ rfl w.heap.size _ (low m i) rfl (hown.keeps ((Keeps.refl wr).alloc _)) _ [(i : Int)] rfl (Ints.lit1 wr i) (by have := kw.size; simp; omega) (by simp; omega) ?_; intro v1 w1 hv1 hg1 hr1; have k2 := (kw.alloc (.cells #[.int .i64 i] 2)).grown hg1 (by simpa using hr1))
        go_roundw
        case rel => exact ⟨i + 1, by omega, by go_num, by have h := HLS.out; simp only [if_true] at h; rw [h]; exact hv1, k2⟩
        case measure => simp [intOf]; omega
    · have hz : m / 2 ^ i = 0 := Nat.eq_zero_of_not_pos hp
      have hd : decide ((m : Int) / 2 ^ i > 0) = false := by rw [hcast, hz]; simp
      have hd' : ¬ (0 : Int) < (m : Int) / 2 ^ i := by rw [hcast, hz]; simp
      have hle := low_end ⟨m, hm⟩ ⟨i, by omega⟩ hz
      simp only at hle
      rw [hle] at hown
      clear hle hz hp hcast
      go_wp2
      go_ret
      exact ⟨_, rfl, hown, kw⟩
end Go.Proofs.YtgnlfceloiilbaaGreat
/- Worlds in which some blocks are written: what lies elsewhere is as it was. -/
namespace Go.Proofs.YtgnlfceloiilbaaGreat
open Go.RowKit

/-- blocks outside a set are as they were -/
structure Touch (w w' : World) (S : Nat → Prop) : Prop where
  os : w'.os = w.os
  tape : w'.tape = w.tape
  output : w'.output = w.output
  size : w.heap.size ≤ w'.heap.size
  block : ∀ k, k < w.heap.size → ¬ S k → w'.heap[k]? = w.heap[k]?
theorem Touch.refl (w : World) (S : Nat → Prop) : Touch w w S := ⟨rfl, rfl, rfl, Nat.le_refl _, fun _ _ _ => rfl⟩
theorem Touch.trans {a b c : World} {S : Nat → Prop} (h : Touch a b S) (k : Touch b c S) : Touch a c S :=
  ⟨k.os.trans h.os, k.tape.trans h.tape, k.output.trans h.output, Nat.le_trans h.size k.size, fun i hi hs => (k.block i (Nat.lt_of_lt_of_le hi h.size) hs).trans (h.block i hi hs)⟩
theorem Touch.mono {a b : World} {S S' : Nat → Prop} (h : Touch a b S) (hs : ∀ k, S k → S' k) : Touch a b S' :=
  ⟨h.os, h.tape, h.output, h.size, fun i hi hn => h.block i hi (fun e => hn (hs i e))⟩
theorem Touch.grown {a b : World} {row : Option Nat} (h : a.grownBy b row) : Touch a b (fun k => some k = row) :=
  ⟨h.os, h.tape, h.output, h.size, fun i hi hn => h.block i hi hn⟩
theorem Touch.of_keeps {a b : World} (h : Keeps a b) (S : Nat → Prop) : Touch a b S :=
  ⟨h.os, h.tape, h.output, h.size, fun _ hi _ => h.block hi⟩
theorem Touch.cell {w w' : World} {S : Nat → Prop} (h : Touch w w' S) {b : Nat} (hb : b < w.heap.size) (hs : ¬ S b) :
    (∀ o, w'.cell? ⟨b, o, none⟩ = w.cell? ⟨b, o, none⟩) ∧ (∀ o, w'.frozen? ⟨b, o, none⟩ = w.frozen? ⟨b, o, none⟩) :=
  ⟨fun o => World.cell?_of_block (a := ⟨b, o, none⟩) (h.block b hb hs), fun o => World.frozen?_of_block (a := ⟨b, o, none⟩) (h.block b hb hs)⟩
theorem Keeps.touch {a w w' : World} {S : Nat → Prop} (h : Keeps a w) (k : Touch w w' S) (hS : ∀ i, S i → a.heap.size ≤ i) : Keeps a w' :=
  ⟨k.os.trans h.os, k.tape.trans h.tape, k.output.trans h.output, Nat.le_trans h.size k.size, fun i hi => (k.block i (Nat.lt_of_lt_of_le hi h.size) (fun e => by have := hS i e; omega)).trans (h.block hi)⟩
theorem own_touch {w w' : World} {S : Nat → Prop} {base : Nat} {e : TypeId} {size : Nat} {v : Value} {n : Nat} {xs : List Value} (h : w.ownsRow base e size v n xs) (k : Touch w w' S) (hS : ∀ i, v.ownBlock = some i → ¬ S i) : w'.ownsRow base e size v n xs := by
  refine ⟨h.1, ?_⟩
  rcases h.2 with hn | ⟨g, cap, cur, rfl, hb, hgg, rest⟩
  · exact .inl hn
  · exact .inr ⟨g, cap, cur, rfl, hb, (k.block g (Array.getElem?_eq_some_iff.1 hgg).1 (hS g rfl)).trans hgg, rest⟩
/-- nothing from block B on has changed -/
def Low (w w' : World) (B : Nat) : Prop := Touch w w' (fun i => i < B)
theorem Low.of {w w' : World} (h : Keeps w w') (B : Nat) : Low w w' B := Touch.of_keeps h _
theorem Low.trans {a b c : World} {B : Nat} (h : Low a b B) (k : Low b c B) : Low a c B := Touch.trans h k
theorem Low.keeps {a b c : World} {B : Nat} (h : Low a b B) (k : Keeps b c) : Low a c B := Touch.trans h (Touch.of_keeps k _)
theorem Low.touch {a b c : World} {B : Nat} {S : Nat → Prop} (h : Low a b B) (k : Touch b c S) (hS : ∀ i, S i → i < B) : Low a c B := Touch.trans h (k.mono hS)
theorem Keeps.touched {a w w' : World} {B U : Nat} (h : Keeps a w) (k : Touch w w' (fun i => B ≤ i ∧ i < U)) (hB : a.heap.size ≤ B) : Keeps a w' := h.touch k (fun i hi => by omega)
theorem cell_touched {w w' : World} {B U : Nat} {b o : Nat} {v : Value} (h : w.cell? ⟨b, o, none⟩ = some v) (k : Touch w w' (fun i => B ≤ i ∧ i < U)) (hb : b < B ∨ U ≤ b) : w'.cell? ⟨b, o, none⟩ = some v := by
  have hlt : b < w.heap.size := World.block_lt_of_cell? _ _ h
  rw [(k.cell hlt (fun hh => by omega)).1]; exact h
theorem touch_pre {w w1 w2 : World} {S : Nat → Prop} (h : Keeps w w1) (k : Touch w1 w2 S) : Touch w w2 S := (Touch.of_keeps h S).trans k
end Go.Proofs.YtgnlfceloiilbaaGreat
/- Worlds in which some blocks are written; lists of owned node lists that lie apart. -/
namespace Go.Proofs.YtgnlfceloiilbaaGreat
open Go.RowKit

--
/-- values whose rows lie apart -/
def Apart (vs : List Value) : Prop := ∀ i j (hi : i < vs.length) (hj : j < vs.length), i ≠ j → ∀ k, vs[i].ownBlock = some k → vs[j].ownBlock ≠ some k
def Off (v : Value) (vs : List Value) : Prop := ∀ i (hi : i < vs.length) k, v.ownBlock = some k → vs[i].ownBlock ≠ some k
def blk (vs : List Value) (k : Nat) : Prop := ∃ i, ∃ h : i < vs.length, vs[i].ownBlock = some k
def RowsN (w : World) (B : Nat) (vs : List Value) (xs : List (List Nd)) : Prop := vs.length = xs.length ∧ ∀ i (h1 : i < vs.length) (h2 : i < xs.length), OwnN w B vs[i] xs[i]
theorem OwnN.touch {w w' : World} {S : Nat → Prop} {B : Nat} {v : Value} {x : List Nd} (h : OwnN w B v x) (k : Touch w w' S) (hS : ∀ i, v.ownBlock = some i → ¬ S i) : OwnN w' B v x := own_touch h k hS
theorem RowsN.nil (w : World) (B : Nat) : RowsN w B [] [] := ⟨rfl, fun i h => by simp at h⟩
theorem RowsN.cons {w : World} {B : Nat} {v : Value} {vs : List Value} {x : List Nd} {xs : List (List Nd)} (h : OwnN w B v x) (hs : RowsN w B vs xs) : RowsN w B (v :: vs) (x :: xs) :=
  ⟨by simp [hs.1], fun i h1 h2 => by
    cases i with
    | zero => exact h
    | succ i => exact hs.2 i (by simpa using h1) (by simpa using h2)⟩
theorem RowsN.snoc {w : World} {B : Nat} {v : Value} {vs : List Value} {x : List Nd} {xs : List (List Nd)} (h : OwnN w B v x) (hs : RowsN w B vs xs) : RowsN w B (vs ++ [v]) (xs ++ [x]) :=
  ⟨by simp [hs.1], fun i h1 h2 => by
    have hl := hs.1
    by_cases hi : i < vs.length
    · rw [List.getElem_append_left hi, List.getElem_append_left (by omega)]; exact hs.2 i hi (by omega)
    · simp at h1
      obtain rfl : i = vs.length := by omega
      rw [List.getElem_append_right (Nat.le_refl _), List.getElem_append_right (by omega)]
      simpa [hl] using h⟩
theorem RowsN.keeps {w w' : World} {B : Nat} {vs : List Value} {xs : List (List Nd)} (h : RowsN w B vs xs) (k : Keeps w w') : RowsN w' B vs xs := ⟨h.1, fun i h1 h2 => (h.2 i h1 h2).keeps k⟩
theorem RowsN.mono {w : World} {B B' : Nat} {vs : List Value} {xs : List (List Nd)} (h : RowsN w B vs xs) (k : B' ≤ B) : RowsN w B' vs xs := ⟨h.1, fun i h1 h2 => (h.2 i h1 h2).mono k⟩
theorem RowsN.touch {w w' : World} {S : Nat → Prop} {B : Nat} {vs : List Value} {xs : List (List Nd)} (h : RowsN w B vs xs) (k : Touch w w' S) (hS : ∀ i, blk vs i → ¬ S i) : RowsN w' B vs xs :=
  ⟨h.1, fun i h1 h2 => (h.2 i h1 h2).touch k (fun j e => hS j ⟨i, h1, e⟩)⟩
theorem RowsN.lt {w : World} {B : Nat} {vs : List Value} {xs : List (List Nd)} (h : RowsN w B vs xs) {k : Nat} (hk : blk vs k) : B ≤ k ∧ k < w.heap.size := by
  obtain ⟨i, hi, e⟩ := hk
  exact (h.2 i hi (by have := h.1; omega)).len k e
/-- one row is written anew -/
theorem RowsN.update {w w' : World} {B : Nat} {vs : List Value} {xs : List (List Nd)} (h : RowsN w B vs xs) (ha : Apart vs) (i : Nat) (hi : i < vs.length) (hg : w.grownBy w' vs[i].ownBlock) {z : List Nd} (hz : OwnN w' B vs[i] z) : RowsN w' B vs (xs.set i z) :=
  ⟨by simp [h.1], fun j h1 h2 => by
    by_cases e : i = j
    · subst e; simpa using hz
    · rw [List.getElem_set_ne e]
      exact (h.2 j h1 (by have := h.1; omega)).touch (Touch.grown hg) (fun k hk hs => ha i j hi h1 e k hs.symm hk)⟩
theorem Apart.nil : Apart [] := fun i j hi => by simp at hi
theorem Apart.cons {v : Value} {vs : List Value} (h : Off v vs) (hs : Apart vs) : Apart (v :: vs) := fun i j hi hj hne k hk => by
  cases i with
  | zero =>
    cases j with
    | zero => exact absurd rfl hne
    | succ j => exact h j (by simpa using hj) k hk
  | succ i =>
    cases j with
    | zero => exact fun e => h i (by simpa using hi) k e hk
    | succ j => exact hs i j (by simpa using hi) (by simpa using hj) (fun e => hne (by rw [e])) k hk
theorem Apart.tail {v : Value} {vs : List Value} (h : Apart (v :: vs)) : Apart vs := fun i j hi hj hne k hk =>
  h (i + 1) (j + 1) (by simpa using hi) (by simpa using hj) (by omega) k hk
theorem Apart.head {v : Value} {vs : List Value} (h : Apart (v :: vs)) : Off v vs := fun i hi k hk =>
  h 0 (i + 1) (by simp) (by simpa using hi) (by omega) k hk
theorem Off.nil (v : Value) : Off v [] := fun i hi => by simp at hi
theorem Off.of_blk {v : Value} {vs : List Value} (h : ∀ k, v.ownBlock = some k → ¬ blk vs k) : Off v vs := fun i hi k hk e => h k hk ⟨i, hi, e⟩
theorem Off.not_blk {v : Value} {vs : List Value} (h : Off v vs) {k : Nat} (hk : v.ownBlock = some k) : ¬ blk vs k := fun ⟨i, hi, e⟩ => h i hi k hk e
theorem Apart.snoc {v : Value} {vs : List Value} (h : ∀ k, v.ownBlock = some k → ¬ blk vs k) (hs : Apart vs) : Apart (vs ++ [v]) := fun i j hi hj hne k hk => by
  simp at hi hj
  by_cases h1 : i < vs.length
  · rw [List.getElem_append_left h1] at hk
    by_cases h2 : j < vs.length
    · rw [List.getElem_append_left h2]; exact hs i j h1 h2 hne k hk
    · obtain rfl : j = vs.length := by omega
      rw [List.getElem_append_right (Nat.le_refl _)]
      intro e; exact h k (by simpa using e) ⟨i, h1, hk⟩
  · obtain rfl : i = vs.length := by omega
    rw [List.getElem_append_right (Nat.le_refl _)] at hk
    have h2 : j < vs.length := by omega
    rw [List.getElem_append_left h2]
    intro e; exact h k (by simpa using hk) ⟨j, h2, e⟩
/-- how many nodes the lists have in all -/
def tot : List (List Nd) → Nat
  | [] => 0
  | x :: xs => x.length + tot xs
theorem tot_append (xs ys : List (List Nd)) : tot (xs ++ ys) = tot xs + tot ys := by
  induction xs with
  | nil => simp [tot]
  | cons x xs ih => simp [tot, ih]; omega
theorem tot_take (xs : List (List Nd)) (i : Nat) (h : i < xs.length) : tot (xs.take (i + 1)) = tot (xs.take i) + xs[i].length := by
  rw [List.take_succ_eq_append_getElem h, tot_append]; simp [tot]
theorem tot_le (xs : List (List Nd)) (i : Nat) : tot (xs.take i) ≤ tot xs := by
  have := tot_append (xs.take i) (xs.drop i)
  rw [List.take_append_drop] at this; omega
theorem tot_mem (xs : List (List Nd)) (i : Nat) (h : i < xs.length) : tot (xs.take i) + xs[i].length ≤ tot xs := by
  rw [← tot_take xs i h]; exact tot_le xs _
def marksL : List (List Nd) → Int → List (List Nd)
  | [], _ => []
  | x :: xs, k => marksN x.length k :: marksL xs (k + 2 * x.length)
theorem marksL_length (xs : List (List Nd)) : ∀ k, (marksL xs k).length = xs.length := by
  induction xs with
  | nil => intro k; rfl
  | cons x xs ih => intro k; simp [marksL, ih]
theorem marksL_get (xs : List (List Nd)) : ∀ (k : Int) (i : Nat) (h : i < (marksL xs k).length) (h' : i < xs.length), (marksL xs k)[i] = marksN xs[i].length (k + 2 * tot (xs.take i)) := by
  induction xs with
  | nil => intro k i h h'; simp at h'
  | cons x xs ih =>
    intro k i h h'
    cases i with
    | zero => simp [marksL, tot]
    | succ i =>
      have := ih (k + 2 * x.length) i (by simpa [marksL] using h) (by simpa using h')
      simp only [marksL, List.getElem_cons_succ, this, List.take_succ_cons, tot]
      congr 1; omega
theorem tot_marks (xs : List (List Nd)) : ∀ k, tot (marksL xs k) = tot xs := by
  induction xs with
  | nil => intro k; rfl
  | cons x xs ih => intro k; simp [marksL, tot, ih, marksN_length]
/-- an owned list of owned lists that lie apart -/
def OwnL (w : World) (B : Nat) (v : Value) (xs : List (List Nd)) : Prop := ∃ vs, w.ownsRow B 73 1 v xs.length vs ∧ RowsN w B vs xs ∧ Apart vs ∧ Off v vs
/-- the rows of a list's header read as lists -/
theorem rows_ndsL {w : World} {B : Nat} {p : Option Addr} {cap : Nat} {vs : List Value} {xs : List (List Nd)} (hat : At w p vs) (hr : RowsN w B vs xs) (h1 : xs.length ≤ cap) (h2 : cap ≤ maxLen) (h3 : xs.length ≤ 2147483648) (h4 : tot xs ≤ 2147483648) : NdsL w (.slice p xs.length cap) xs := by
  refine ⟨p, cap, rfl, h1, h2, h3, fun i hi => ?_⟩
  have hl := hr.1
  obtain ⟨b, off, hp, hc⟩ := hat i (by omega)
  refine ⟨b, off, fun _ => vs[i], hp, fun c hc' => ?_, (hr.2 i (by omega) hi).nds (by have := tot_mem xs i hi; omega)⟩
  obtain rfl : c = 0 := by omega
  simpa using hc
theorem OwnL.ndsL {w : World} {B : Nat} {v : Value} {xs : List (List Nd)} (h : OwnL w B v xs) (h3 : xs.length ≤ 2147483648) (h4 : tot xs ≤ 2147483648) : NdsL w v xs := by
  obtain ⟨vs, ho, hr, _, _⟩ := h
  obtain ⟨p, cap, rfl, h1, h2, hat⟩ := At.of_own ho
  exact rows_ndsL hat hr h1 h2 h3 h4
theorem OwnL.keeps {w w' : World} {B : Nat} {v : Value} {xs : List (List Nd)} (h : OwnL w B v xs) (k : Keeps w w') : OwnL w' B v xs := by
  obtain ⟨vs, ho, hr, ha, hf⟩ := h
  exact ⟨vs, own_keeps ho k, hr.keeps k, ha, hf⟩
theorem OwnL.mono {w : World} {B B' : Nat} {v : Value} {xs : List (List Nd)} (h : OwnL w B v xs) (k : B' ≤ B) : OwnL w B' v xs := by
  obtain ⟨vs, ho, hr, ha, hf⟩ := h
  exact ⟨vs, own_mono ho k, hr.mono k, ha, hf⟩
/-- an owned rule: premises and a conclusion -/
def OwnR (w : World) (B : Nat) (v u : Value) (xs : List (List Nd)) (c : List Nd) : Prop := ∃ vs, w.ownsRow B 73 1 v xs.length vs ∧ RowsN w B (u :: vs) (c :: xs) ∧ Apart (u :: vs) ∧ Off v (u :: vs)
theorem RowsN.head {w : World} {B : Nat} {v : Value} {vs : List Value} {x : List Nd} {xs : List (List Nd)} (h : RowsN w B (v :: vs) (x :: xs)) : OwnN w B v x := h.2 0 (by simp) (by simp)
theorem RowsN.tail {w : World} {B : Nat} {v : Value} {vs : List Value} {x : List Nd} {xs : List (List Nd)} (h : RowsN w B (v :: vs) (x :: xs)) : RowsN w B vs xs :=
  ⟨by simpa using h.1, fun i h1 h2 => h.2 (i + 1) (by simpa using h1) (by simpa using h2)⟩
theorem OwnR.ndsL {w : World} {B : Nat} {v u : Value} {xs : List (List Nd)} {c : List Nd} (h : OwnR w B v u xs c) (h3 : xs.length ≤ 2147483648) (h4 : tot xs ≤ 2147483648) : NdsL w v xs := by
  obtain ⟨vs, ho, hr, _, _⟩ := h
  obtain ⟨p, cap, rfl, h1, h2, hat⟩ := At.of_own ho
  exact rows_ndsL hat hr.tail h1 h2 h3 h4
theorem OwnR.nds {w : World} {B : Nat} {v u : Value} {xs : List (List Nd)} {c : List Nd} (h : OwnR w B v u xs c) (h4 : c.length ≤ 2147483648) : Nds w u c := by
  obtain ⟨vs, ho, hr, _, _⟩ := h
  exact hr.head.nds h4
theorem OwnR.keeps {w w' : World} {B : Nat} {v u : Value} {xs : List (List Nd)} {c : List Nd} (h : OwnR w B v u xs c) (k : Keeps w w') : OwnR w' B v u xs c := by
  obtain ⟨vs, ho, hr, ha, hf⟩ := h
  exact ⟨vs, own_keeps ho k, hr.keeps k, ha, hf⟩
theorem OwnR.mono {w : World} {B B' : Nat} {v u : Value} {xs : List (List Nd)} {c : List Nd} (h : OwnR w B v u xs c) (k : B' ≤ B) : OwnR w B' v u xs c := by
  obtain ⟨vs, ho, hr, ha, hf⟩ := h
  exact ⟨vs, own_mono ho k, hr.mono k, ha, hf⟩
theorem OwnR.nil (w : World) (B : Nat) : OwnR w B (.slice none 0 0) (.slice none 0 0) [] [] :=
  ⟨[], World.ownsRow_nil w B _ 1, RowsN.cons (OwnN.nil _ _) (RowsN.nil _ _), Apart.cons (Off.nil _) Apart.nil, fun i hi k hk => by simp [Value.ownBlock] at hk⟩
end Go.Proofs.YtgnlfceloiilbaaGreat
/- Walks: the variables of formulas; errors and limits of lists of formulas, on both sides. -/
namespace Go.Proofs.YtgnlfceloiilbaaGreat
open Go.RowKit
--
set_option maxRecDepth 20000 in
set_option maxHeartbeats 1000000 in
theorem variablesIn_one (a : List Nd) (v : Value) (w : World) (hv : NdsL w v [a]) (ha : a.all okNd = true) : Calls Tryz.prog 213 #[v] w (RetI w (mem (vm a))) := by
  have hv0 := hv
  obtain ⟨p, cap, rfl, hle, hmx, hlen, _⟩ := hv
  simp only [List.length_cons, List.length_nil, Nat.zero_add] at *
  unfold maxLen at hmx
  obtain ⟨b, off, u, rfl, hc, hu⟩ := hv0.get 0 (by simp)
  simp only [List.getElem_cons_zero] at hu
  rw [Nat.add_zero] at hc
  have hm64 := vm_lt ha a.length (Nat.le_refl _)
  rw [List.take_length] at hm64
  have HV := hid (variableMask_any a u w hu ha)
  have HM := hid (fun w2 => membersOf_any (vm a) w2 hm64)
  have hor : bits BinOp.or IntKind.i64 0 ((vm a : Nat) : Int) = ((vm a : Nat) : Int) := by
    have : ∀ m : Fin 64, bits BinOp.or IntKind.i64 0 ((m : Nat) : Int) = ((m : Nat) : Int) := by decide +kernel
    exact this ⟨_, hm64⟩
  generalize vm a = m at *
  clear hv0 hu ha
  go_enter Tryz.func213, Tryz.ntmps213
  go_wp2
  go_loopw [3, 8] (fun c i' wr => (i' = .int .i64 0 ∧ c = .int .i64 0 ∧ wr = w) ∨ (i' = .int .i64 1 ∧ c = .int .i64 m ∧ Keeps w wr)) (fun _ i _ => 1 - (intOf i).toNat)
  case atStart => exact .inl ⟨rfl, rfl, rfl⟩
  case round =>
    rcases hrel with ⟨rfl, rfl, rfl⟩ | ⟨rfl, rfl, kw⟩
    · go_wp2_with fail
      refine HV.out.mono ?_; rintro e w2 ⟨rfl, k2⟩
      go_wp2_with fail
      go_roundw
      case rel => exact .inr ⟨by first | rfl | go_num, by first | rw [hor] | rfl, k2⟩
      case measure => simp [intOf]
    · go_wp2_with fail
      refine (HM.out _).mono ?_; rintro e w2 ⟨v2, rfl, hv2, k2⟩
      go_wp2_with fail
      go_ret
      exact ⟨_, rfl, hv2.mono kw.size, kw.trans k2⟩
--
theorem isMask6_any (x : Int) (w : World) : Calls Tryz.prog 270 #[.int .i64 6, .int .i64 x] w fun e w' => e = .returned (.bool (inR x 0 63)) ∧ w = w' := by
  have h1 := inRange_any 6 0 30 w
  have h2 := inRange_any x 0 63 w
  rw [show inR 6 0 30 = true from by decide] at h1
  have H1 := hid h1; clear h1
  have H2 := hid h2; clear h2
  go_enter Tryz.func270, Tryz.ntmps270
  go_wp2_with fail
  refine H1.out.mono ?_; rintro e w' ⟨rfl, rfl⟩
  go_wp2_with fail
  refine H2.out.mono ?_; rintro e w' ⟨rfl, rfl⟩
  go_wp2_with fail
  go_ret
  exact ⟨rfl, rfl⟩
end Go.Proofs.YtgnlfceloiilbaaGreat
