import Derived.Test.YtfmmajgkjkmghaaGreatEW7
import Derived.Test.YtfmmajgkjkmghaaGreatEPP
import Derived.Test.YtfmmajgkjkmghaaGreatEVS
import Derived.Test.YtfmmajgkjkmghaaGreatETU
/- Walks: masks of variables and their members, on both sides; errors of lists of formulas. -/
namespace Go.Proofs.YtfmmajgkjkmghaaGreat
open Go.RowKit
theorem bit_table : ∀ (m : Fin 64) (i : Fin 7), (bits BinOp.and IntKind.i64 (((m : Nat) : Int) / 2 ^ (i : Nat)) 1 == 1) = (m : Nat).testBit i := by decide +kernel
theorem or_table : ∀ (m : Fin 64) (s : Fin 6), bits BinOp.or IntKind.i64 ((m : Nat) : Int) (2 ^ (s : Nat)) = (((m : Nat) ||| 2 ^ (s : Nat) : Nat) : Int) := by decide +kernel
theorem or_lt : ∀ (m : Fin 64) (s : Fin 6), (m : Nat) ||| 2 ^ (s : Nat) < 64 := by decide +kernel
def vm (a : List Nd) : Nat := a.foldl (fun m n => if n.k = 0 then m ||| 2 ^ n.s.toNat else m) 0
theorem vm_snoc (a : List Nd) (x : Nd) : vm (a ++ [x]) = if x.k = 0 then vm a ||| 2 ^ x.s.toNat else vm a := by simp [vm, List.foldl_append]
theorem vm_take (a : List Nd) (k : Nat) (h : k < a.length) : vm (a.take (k + 1)) = if a[k].k = 0 then vm (a.take k) ||| 2 ^ a[k].s.toNat else vm (a.take k) := by
 rw [List.take_succ_eq_append_getElem h, vm_snoc]
theorem ok_sym {a : List Nd} (h : a.all okNd = true) (k : Nat) (hk : k < a.length) (h0 : a[k].k = 0) : ∃ s : Nat, s < 6 ∧ a[k].s = s := by
 have := List.all_eq_true.1 h a[k] (List.getElem_mem hk)
 simp [okNd, h0] at this
 exact ⟨a[k].s.toNat, by omega, by omega⟩
theorem vm_lt {a : List Nd} (h : a.all okNd = true) : ∀ k, k ≤ a.length → vm (a.take k) < 64 := by
 intro k
 induction k with
 | zero => intro _; simp [vm]
 | succ k ih =>
  intro hk
  have h1 := ih (by omega)
  rw [vm_take a k (by omega)]
  split
  ·rename_i h0
   obtain ⟨s, hs, e⟩ := ok_sym h k (by omega) h0
   rw [e]
   exact or_lt ⟨_, h1⟩ ⟨s, hs⟩
  ·exact h1
def low (m i : Nat) : List Int := ((List.range i).filter (fun j => m.testBit j)).map Int.ofNat
def mem (m : Nat) : List Int := low m 6
theorem low_succ (m i : Nat) : low m (i + 1) = if m.testBit i then low m i ++ [(i : Int)] else low m i := by
 unfold low
 rw [List.range_succ, List.filter_append, List.map_append]
 by_cases h : m.testBit i <;> simp [h]
theorem low_len (m : Nat) : ∀ i, (low m i).length ≤ i := by
 intro i
 unfold low
 rw [List.length_map]
 exact Nat.le_trans (List.length_filter_le _ _) (by simp)
theorem low_end : ∀ (m : Fin 64) (i : Fin 7), (m : Nat) / 2 ^ (i : Nat) = 0 → low m i = mem m := by decide +kernel
theorem div_table : ∀ (m : Fin 64), (m : Nat) / 2 ^ 6 = 0 := by decide +kernel
theorem has_any (m i : Nat) (w : World) (hm : m < 64) (hi : i ≤ 6) : Calls Tryz.prog 127 #[.int .i64 m, .int .i64 i] w fun e w' => e = .returned (.bool (m.testBit i)) ∧ w = w' := by
 go_enter Tryz.func127, Tryz.ntmps127
 go_wp2
 go_ret
 exact ⟨ret_bool (bit_table ⟨m, hm⟩ ⟨i, by omega⟩), rfl⟩
set_option maxRecDepth 20000 in
set_option maxHeartbeats 1000000 in
theorem variableMask_any (a : List Nd) (v : Value) (w : World) (hv : Nds w v a) (ha : a.all okNd = true) : Calls Tryz.prog 186 #[v] w fun e w' => e = .returned (.int .i64 (vm a)) ∧ Keeps w w' := by
 have hv0 := hv
 obtain ⟨p, cap, rfl, hle, hmx, _, hlen⟩ := hv
 unfold maxLen at hmx
 have HA := hid ha; clear ha
 go_enter Tryz.func186, Tryz.ntmps186
 go_wp2
 go_loopw [3, 8] (fun c i' wr => ∃ k : Nat, k ≤ a.length ∧ i' = .int .i64 k ∧ c = .int .i64 (vm (a.take k)) ∧ Keeps w wr) (fun _ i _ => a.length - (intOf i).toNat)
 case atStart => exact ⟨0, by omega, rfl, by simp [vm], Keeps.refl w⟩
 case round =>
  obtain ⟨k, hk, rfl, rfl, kw⟩ := hrel
  by_cases hlt : k < a.length
  ·obtain ⟨_, _, e1, _, _, hata, _⟩ := hv0.keeps kw
   cases e1
   obtain ⟨b1, o1, rfl, h1, h2⟩ := hata.nd k hlt
   clear hata hv0
   have hlt' : (k : Int) < a.length := by omega
   have hvl := vm_lt HA.out k hk
   have hst := vm_take a k hlt
   have hkk := kw.alloc (.cells #[.int .i64 a[k].k, .int .i64 a[k].s] 61)
   by_cases h0 : a[k].k = 0
   ·obtain ⟨s, hs, e⟩ := ok_sym HA.out k hlt h0
    rw [if_pos h0, e] at hst
    have hor := or_table ⟨_, hvl⟩ ⟨s, hs⟩
    have hwp := wrap_pow s (by omega)
    rw [h0] at h1 hkk
    rw [e] at h2 hkk
    have HO := hid hor; clear hor
    have HS := hid hst; clear hst
    clear e h0
    generalize vm (List.take k a) = m at *
    go_wp2
    go_roundw
    case rel => exact ⟨k + 1, by omega, by go_num, by rw [HS.out]; have h := HO.out; simp only [Int.toNat_natCast] at *; rw [h], hkk⟩
    case measure => simp [intOf]; omega
   ·have hb : (a[k].k == 0) = false := by simp [h0]
    rw [if_neg h0] at hst
    have HS := hid hst; clear hst
    clear h0
    go_wp2
    go_roundw
    case rel => exact ⟨k + 1, by omega, by go_num, by rw [HS.out], hkk⟩
    case measure => simp [intOf]; omega
  ·go_wp2
   go_ret
   rw [List.take_of_length_le (by omega)]
   exact ⟨rfl, kw⟩
set_option maxRecDepth 20000 in
set_option maxHeartbeats 1000000 in
theorem membersOf_any (m : Nat) (w : World) (hm : m < 64) : Calls Tryz.prog 134 #[.int .i64 m] w (RetI w (mem m)) := by
 go_enter Tryz.func134, Tryz.ntmps134
 go_wp2
 go_loopw [3, 4] (fun o i' wr => ∃ i : Nat, i ≤ 6 ∧ i' = .int .i64 i ∧ OwnI wr w.heap.size o (low m i) ∧ Keeps w wr) (fun _ i _ => 7 - (intOf i).toNat)
 case atStart => exact ⟨0, by omega, rfl, by simpa [low] using OwnI.nil w w.heap.size, Keeps.refl w⟩
 case round =>
  obtain ⟨i, hi, rfl, hown, kw⟩ := hrel
  have hcast : (m : Int) / 2 ^ i = ((m / 2 ^ i : Nat) : Int) := by push_cast; rfl
  by_cases hp : 0 < m / 2 ^ i
  ·have hi6 : i < 6 := by
    rcases Nat.lt_or_ge i 6 with h | h
    ·exact h
    ·obtain rfl : i = 6 := by omega
     have := div_table ⟨m, hm⟩
     simp only at this; omega
   have hd : decide ((m : Int) / 2 ^ i > 0) = true := by rw [hcast]; simp only [decide_eq_true_eq]; omega
   have hd' : (0 : Int) < (m : Int) / 2 ^ i := by rw [hcast]; omega
   have hls := low_succ m i
   have hll := low_len m i
   have HH := hid (has_any m i wr hm (by omega))
   have HLS := hid hls; clear hls
   clear hcast hp
   cases hb : m.testBit i
   ·rw [hb] at HH HLS
    clear hb
    go_wp2_with fail
    refine HH.out.mono ?_; rintro e w' ⟨rfl, rfl⟩
    go_wp2_with fail
    go_roundw
    case rel => exact ⟨i + 1, by omega, by go_num, by have h := HLS.out; simp only [Bool.false_eq_true, if_false] at h; rw [h]; exact hown, kw⟩
    case measure => simp [intOf]; omega
   ·rw [hb] at HH HLS
    clear hb
    go_wp2_with fail
    refine HH.out.mono ?_; rintro e w' ⟨rfl, rfl⟩
    go_wp2_with (at_builtin; refine appI rfl _ _ rfl w.heap.size _ (low m i) rfl (hown.keeps ((Keeps.refl wr).alloc _)) _ [(i : Int)] rfl (Ints.lit1 wr i) (by have := kw.size; simp; omega) (by simp; omega) ?_; intro v1 w1 hv1 hg1 hr1; have k2 := (kw.alloc (.cells #[.int .i64 i] 2)).grown hg1 (by simpa using hr1))
    go_roundw
    case rel => exact ⟨i + 1, by omega, by go_num, by have h := HLS.out; simp only [if_true] at h; rw [h]; exact hv1, k2⟩
    case measure => simp [intOf]; omega
  ·have hz : m / 2 ^ i = 0 := Nat.eq_zero_of_not_pos hp
   have hd : decide ((m : Int) / 2 ^ i > 0) = false := by rw [hcast, hz]; simp
   have hd' : ¬ (0 : Int) < (m : Int) / 2 ^ i := by rw [hcast, hz]; simp
   have hle := low_end ⟨m, hm⟩ ⟨i, by omega⟩ hz
   simp only at hle
   rw [hle] at hown
   clear hle hz hp hcast
   go_wp2
   go_ret
   exact ⟨_, rfl, hown, kw⟩
end Go.Proofs.YtfmmajgkjkmghaaGreat
namespace Go.Proofs.YtfmmajgkjkmghaaGreat
open Go.RowKit
end Go.Proofs.YtfmmajgkjkmghaaGreat
namespace Go.Proofs.YtfmmajgkjkmghaaGreat
open Go.RowKit
theorem OwnN.touch {w w' : World} {S : Nat → Prop} {B : Nat} {v : Value} {x : List Nd} (h : OwnN w B v x) (k : Touch w w' S) (hS : ∀ i, v.ownBlock = some i → ¬ S i) : OwnN w' B v x := own_touch h k hS
end Go.Proofs.YtfmmajgkjkmghaaGreat
namespace Go.Proofs.YtfmmajgkjkmghaaGreat
open Go.RowKit
end Go.Proofs.YtfmmajgkjkmghaaGreat
