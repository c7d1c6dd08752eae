/- slices.Grow and slices.Concat at []string. -/
import Derived.Test.YtajjlnonmaghlaaGreatGV5
import Derived.Test.YtajjlnonmaghlaaGreatGW7
import Derived.Lib.AppendZeros
namespace Go.Proofs.YtajjlnonmaghlaaGreat
open Go.RowKit
/-- a fresh list of strings -/
def RetSt (w : World) (r : List ByteArray) (e : Ending) (w' : World) : Prop := ∃ v, e = .returned v ∧ OwnS w' w.heap.size v r ∧ Keeps w w'
def StrL (w : World) (v : Value) (xs : List (List ByteArray)) : Prop := SlC 1 (fun w f x => Strs w (f 0) x) w v xs
theorem StrL.keeps {w w' : World} {v : Value} {xs : List (List ByteArray)} (h : StrL w v xs) (k : Keeps w w') : StrL w' v xs :=
  SlC.keeps (R := fun w f x => Strs w (f 0) x) (fun _ _ _ _ k h => Strs.keeps h k) h k
theorem StrL.get {w : World} {p : Option Addr} {n cap : Nat} {xs : List (List ByteArray)} (h : StrL w (.slice p n cap) xs) (i : Nat) (hi : i < xs.length) :
    ∃ b off u, p = some ⟨b, off, none⟩ ∧ w.cell? ⟨b, off + i, none⟩ = some u ∧ Strs w u xs[i] := by
  obtain ⟨p', cap', hv, h1, h2, h3, h4⟩ := h
  cases hv
  obtain ⟨b, off, f, hp, hc, hr⟩ := h4 i hi
  exact ⟨b, off, f 0, hp, by simpa using hc 0 (by omega), hr⟩
theorem StrL.lit2 {w : World} {u u' : Value} {x x' : List ByteArray} (h : Strs w u x) (h' : Strs w u' x') : StrL (w.alloc (.cells #[u, u'] 72)) (.slice (some ⟨w.heap.size, 0, none⟩) 2 2) [x, x'] :=
  SlC.lit (R := fun w f x => Strs w (f 0) x) (fun _ _ _ _ k h => Strs.keeps h k) w _ [u, u'] [x, x'] rfl (by simp) (fun i h1 h2 => by
    simp at h1
    have hi : i = 0 ∨ i = 1 := by omega
    rcases hi with rfl | rfl
    · exact h
    · exact h')
--
set_option maxRecDepth 20000 in
set_option maxHeartbeats 400000 in
theorem growS_any (n : Nat) (w : World) (hn : n ≤ 2147483648) :
    Calls Tryz.prog 136 #[.slice none 0 0, .int .i64 n] w (RetSt w []) := by
  obtain ⟨i0, hi, hz0, hz1, hz2⟩ := info_parts infoS
  by_cases h0 : 0 < n
  · have hrun := Lib.run_append_nil_zeros (P := Tryz.prog) w 72 3 72 9 i0 _ .i64 .i64 Tryz.underlying72 Tryz.underlying3 hi hz0 n h0 (by rw [hz1]; decide) (by omega) (by rw [hz2]; omega)
    have hge := grownCap_ge w n 0 9
    have hle := grownCap_le_maxLen w n 0 9 (by unfold maxLen; omega)
    unfold maxLen at hle
    have hown : OwnS (w.drew.alloc (.cells (Builtin.zeroCells (Value.string ⟨#[]⟩).cells n ++ Builtin.zeroCells (Value.string ⟨#[]⟩).cells (grownCap w n 0 9 - n)) 9)) w.heap.size (.slice (some ⟨w.heap.size, 0, none⟩) 0 (grownCap w n 0 9)) [] := by
      refine World.ownsRow_made w.drew _ _ (Nat.le_refl _) (by unfold maxLen; omega) ?_
      rw [Array.size_append, zeroCells_size, zeroCells_size]
      simp [Value.cells]
      omega
    have hk := ((Keeps.refl w).drew).alloc (.cells (Builtin.zeroCells (Value.string ⟨#[]⟩).cells n ++ Builtin.zeroCells (Value.string ⟨#[]⟩).cells (grownCap w n 0 9 - n)) 9)
    generalize w.drew.alloc (.cells (Builtin.zeroCells (Value.string ⟨#[]⟩).cells n ++ Builtin.zeroCells (Value.string ⟨#[]⟩).cells (grownCap w n 0 9 - n)) 9) = w1 at hrun hown hk
    generalize grownCap w n 0 9 = c1 at *
    have HR := hid hrun; clear hrun
    clear hz0 hz1 hz2 hi
    go_enter Tryz.func136, Tryz.ntmps136
    go_wp2_with (at_builtin; refine Lib.wpList_append_run _ rfl _ _ _ _ rfl _ _ rfl rfl _ _ HR.out ?_)
    go_ret
    exact ⟨_, rfl, hown, hk⟩
  · obtain rfl : n = 0 := by omega
    go_enter Tryz.func136, Tryz.ntmps136
    go_wp2
    go_ret
    exact ⟨_, rfl, OwnS.nil _ _, Keeps.refl _⟩
--
set_option maxHeartbeats 1000000 in
theorem concatS_any (l : List (List ByteArray)) (v : Value) (w : World) (hv : StrL w v l) (hl : (fl l l.length).length ≤ 2147483648) :
    Calls Tryz.prog 100 #[v] w (RetSt w (fl l l.length)) := by
  have hv0 := hv
  obtain ⟨p, cap, rfl, hle, hmx, hlen, _⟩ := hv
  unfold maxLen at hmx
  go_enter Tryz.func100, Tryz.ntmps100
  go_wp2
  go_loop [3, 11] (fun s i' => ∃ k : Nat, k ≤ l.length ∧ i' = .int .i64 k ∧ s = .int .i64 (fl l k).length) (fun _ i => l.length - (intOf i).toNat)
  case atStart => exact ⟨0, by omega, rfl, rfl⟩
  case round =>
    obtain ⟨k, hk, rfl, rfl⟩ := hrel
    have hf := fl_le l k
    by_cases hlt : k < l.length
    · obtain ⟨b, off, u, rfl, h1, hu0⟩ := hv0.get k hlt
      obtain ⟨pu, capu, rfl, g1, g2, g3, g4⟩ := hu0.at
      have hft := fl_succ l k hlt
      have hf2 := fl_le l (k + 1)
      have hlen2 : (fl l (k + 1)).length = (fl l k).length + l[k].length := by rw [hft]; simp
      have hsum : (fl l k).length + l[k].length ≤ 2147483648 := by omega
      have HL := hid hlen2; clear hlen2 hft hf2
      clear hv0
      go_wp2
      go_round
      case rel => exact ⟨k + 1, by omega, by go_num, by rw [HL.out]; go_num⟩
      case measure => simp [intOf]; omega
    · obtain rfl : k = l.length := by omega
      clear hf hk hlt
      go_wp2_with (go_at_call 136; refine (growS_any _ _ hl).mono ?_; rintro e w1 ⟨v1, rfl, hv1, k1⟩)
      go_loopw [6, 27] (fun s i' wr => ∃ k : Nat, k ≤ l.length ∧ i' = .int .i64 k ∧ OwnS wr w.heap.size s (fl l k) ∧ Keeps w wr) (fun _ i _ => l.length - (intOf i).toNat)
      case atStart => exact ⟨0, by omega, rfl, hv1, k1⟩
      case round =>
        obtain ⟨k, hk, rfl, hown, kw⟩ := hrel
        by_cases hlt : k < l.length
        · obtain ⟨b, off, u, rfl, h1, hu⟩ := (hv0.keeps kw).get k hlt
          have hft := fl_succ l k hlt
          have hf2 := fl_le l (k + 1)
          have hsum : (fl l k).length + l[k].length ≤ 2147483648 := by
            have : (fl l (k + 1)).length = (fl l k).length + l[k].length := by rw [hft]; simp
            omega
          have HF := hid hft; clear hft hf2
          clear hv0
          have hsz := kw.size
          go_wp2_with (at_builtin; refine appS rfl _ _ rfl w.heap.size _ _ rfl hown _ _ rfl hu hsz hsum ?_; intro v2 w2 hv2 hg2 hr2; have k2 : Keeps w w2 := kw.grown hg2 hr2)
          go_roundw
          case rel => exact ⟨k + 1, by omega, by go_num, by rw [HF.out]; exact hv2, k2⟩
          case measure => simp [intOf]; omega
        · obtain rfl : k = l.length := by omega
          go_wp2
          go_ret
          exact ⟨_, rfl, hown, kw⟩
end Go.Proofs.YtajjlnonmaghlaaGreat
