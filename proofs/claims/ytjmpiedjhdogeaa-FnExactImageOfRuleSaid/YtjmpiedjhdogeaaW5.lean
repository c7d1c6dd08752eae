/- Walks: the library's Grow and Concat at nodes; the program's joins. -/
import Derived.Test.YtjmpiedjhdogeaaW4
import Derived.Lib.AppendZeros
namespace Go.Proofs.Ytjmpiedjhdogeaa
open Go.RowKit

--
theorem zeroCells_size (n : Nat) (z : Array Value) : (Builtin.zeroCells z n).size = n * z.size := by simp [Builtin.zeroCells]
set_option maxRecDepth 20000 in
set_option maxHeartbeats 400000 in
theorem growN_any (n : Nat) (w : World) (hn : n ≤ 2147483648) :
    Calls Try.prog 155 #[.slice none 0 0, .int .i64 n] w (RetN w []) := by
  obtain ⟨i0, hi, hz0, hz1, hz2⟩ := info_parts infoN
  by_cases h0 : 0 < n
  · have hrun := Lib.run_append_nil_zeros (P := Try.prog) w 25 3 25 81 i0 _ .i64 .i64 Try.underlying25 Try.underlying3 hi hz0 n h0 (by rw [hz1]; decide) (by omega) (by rw [hz2]; omega)
    have hge := grownCap_ge w n 0 81
    have hle := grownCap_le_maxLen w n 0 81 (by unfold maxLen; omega)
    unfold maxLen at hle
    have hown : OwnN (w.drew.alloc (.cells (Builtin.zeroCells (Value.agg #[.int .i64 0, .int .i64 0]).cells n ++ Builtin.zeroCells (Value.agg #[.int .i64 0, .int .i64 0]).cells (grownCap w n 0 81 - n)) 81)) w.heap.size (.slice (some ⟨w.heap.size, 0, none⟩) 0 (grownCap w n 0 81)) [] := by
      refine World.ownsRow_made w.drew _ _ (Nat.le_refl _) (by unfold maxLen; omega) ?_
      rw [Array.size_append, zeroCells_size, zeroCells_size]
      simp [Value.cells]
      omega
    have hk := ((Keeps.refl w).drew).alloc (.cells (Builtin.zeroCells (Value.agg #[.int .i64 0, .int .i64 0]).cells n ++ Builtin.zeroCells (Value.agg #[.int .i64 0, .int .i64 0]).cells (grownCap w n 0 81 - n)) 81)
    generalize w.drew.alloc (.cells (Builtin.zeroCells (Value.agg #[.int .i64 0, .int .i64 0]).cells n ++ Builtin.zeroCells (Value.agg #[.int .i64 0, .int .i64 0]).cells (grownCap w n 0 81 - n)) 81) = w1 at hrun hown hk
    generalize grownCap w n 0 81 = c1 at *
    have HR := hid hrun; clear hrun
    clear hz0 hz1 hz2 hi
    go_enter Try.func155, Try.ntmps155
    go_wp2_with (at_builtin; refine Lib.wpList_append_run _ rfl _ _ _ _ rfl _ _ rfl rfl _ _ HR.out ?_)
    go_ret
    exact ⟨_, rfl, hown, hk⟩
  · obtain rfl : n = 0 := by omega
    go_enter Try.func155, Try.ntmps155
    go_wp2
    go_ret
    exact ⟨_, rfl, OwnN.nil _ _, Keeps.refl _⟩
--
/-- the first k lists in a row -/
def fl {α : Type} (l : List (List α)) (k : Nat) : List α := (l.take k).flatten
theorem fl_succ {α : Type} (l : List (List α)) (k : Nat) (h : k < l.length) : fl l (k + 1) = fl l k ++ l[k] := by
  unfold fl
  rw [List.take_succ_eq_append_getElem h, List.flatten_append]; simp
theorem fl_le {α : Type} (l : List (List α)) (k : Nat) : (fl l k).length ≤ (fl l l.length).length := by
  unfold fl
  rw [List.take_length]
  conv => rhs; rw [← List.take_append_drop k l]
  simp only [List.flatten_append, List.length_append]; omega
theorem fl_zero {α : Type} (l : List (List α)) : fl l 0 = [] := rfl
theorem fl_all {α : Type} (l : List (List α)) : fl l l.length = l.flatten := by unfold fl; rw [List.take_length]
set_option maxHeartbeats 1000000 in
theorem concatN_any (l : List (List Nd)) (v : Value) (w : World) (hv : NdsL w v l) (hl : (fl l l.length).length ≤ 2147483648) :
    Calls Try.prog 99 #[v] w (RetN w (fl l l.length)) := by
  have hv0 := hv
  obtain ⟨p, cap, rfl, hle, hmx, hlen, _⟩ := hv
  unfold maxLen at hmx
  go_enter Try.func99, Try.ntmps99
  go_wp2
  go_loop [3, 11] (fun s i' => ∃ k : Nat, k ≤ l.length ∧ i' = .int .i64 k ∧ s = .int .i64 (fl l k).length) (fun _ i => l.length - (intOf i).toNat)
  case atStart => exact ⟨0, by omega, rfl, rfl⟩
  case round =>
    obtain ⟨k, hk, rfl, rfl⟩ := hrel
    have hf := fl_le l k
    by_cases hlt : k < l.length
    · obtain ⟨b, off, u, rfl, h1, pu, capu, rfl, g1, g2, g3, g4⟩ := hv0.get k hlt
      have hft := fl_succ l k hlt
      have hf2 := fl_le l (k + 1)
      have hlen2 : (fl l (k + 1)).length = (fl l k).length + l[k].length := by rw [hft]; simp
      have hsum : (fl l k).length + l[k].length ≤ 2147483648 := by omega
      have HL := hid hlen2; clear hlen2 hft hf2
      clear hv0
      go_wp2
      go_round
      case rel => exact ⟨k + 1, by omega, by go_num, by rw [HL.out]; go_num⟩
      case measure => simp [intOf]; omega
    · obtain rfl : k = l.length := by omega
      clear hf hk hlt
      go_wp2_with (go_at_call 155; refine (growN_any _ _ hl).mono ?_; rintro e w1 ⟨v1, rfl, hv1, k1⟩)
      go_loopw [6, 27] (fun s i' wr => ∃ k : Nat, k ≤ l.length ∧ i' = .int .i64 k ∧ OwnN wr w.heap.size s (fl l k) ∧ Keeps w wr) (fun _ i _ => l.length - (intOf i).toNat)
      case atStart => exact ⟨0, by omega, rfl, hv1, k1⟩
      case round =>
        obtain ⟨k, hk, rfl, hown, kw⟩ := hrel
        by_cases hlt : k < l.length
        · obtain ⟨b, off, u, rfl, h1, hu⟩ := (hv0.keeps kw).get k hlt
          have hft := fl_succ l k hlt
          have hf2 := fl_le l (k + 1)
          have hsum : (fl l k).length + l[k].length ≤ 2147483648 := by
            have : (fl l (k + 1)).length = (fl l k).length + l[k].length := by rw [hft]; simp
            omega
          have HF := hid hft; clear hft hf2
          clear hv0
          have hsz := kw.size
          go_wp2_with (at_builtin; refine appN rfl _ _ rfl w.heap.size _ _ rfl hown _ _ rfl hu hsz hsum ?_; intro v2 w2 hv2 hg2 hr2; have k2 : Keeps w w2 := kw.grown hg2 hr2)
          go_roundw
          case rel => exact ⟨k + 1, by omega, by go_num, by rw [HF.out]; exact hv2, k2⟩
          case measure => simp [intOf]; omega
        · obtain rfl : k = l.length := by omega
          go_wp2
          go_ret
          exact ⟨_, rfl, hown, kw⟩
end Go.Proofs.Ytjmpiedjhdogeaa
