/- Walks: masks of variables and their members, on both sides; errors of lists of formulas. -/
import Derived.Test.YtodeecmhcfbheaaGreatGW7
import Derived.Test.YtodeecmhcfbheaaGreatGB2
import Derived.Test.YtodeecmhcfbheaaGreatGP4
import Derived.Test.YtodeecmhcfbheaaGreatGP5
namespace Go.Proofs.YtodeecmhcfbheaaGreat
open Go.RowKit
theorem bit_table : ∀ (m : Fin 64) (i : Fin 7), (bits BinOp.and IntKind.i64 (((m : Nat) : Int) / 2 ^ (i : Nat)) 1 == 1) = (m : Nat).testBit i := by decide +kernel
theorem or_table : ∀ (m : Fin 64) (s : Fin 6), bits BinOp.or IntKind.i64 ((m : Nat) : Int) (2 ^ (s : Nat)) = (((m : Nat) ||| 2 ^ (s : Nat) : Nat) : Int) := by decide +kernel
theorem or_lt : ∀ (m : Fin 64) (s : Fin 6), (m : Nat) ||| 2 ^ (s : Nat) < 64 := by decide +kernel
/-- the mask of the variables of a list of nodes -/
def vm (a : List Nd) : Nat := a.foldl (fun m n => if n.k = 0 then m ||| 2 ^ n.s.toNat else m) 0
theorem vm_snoc (a : List Nd) (x : Nd) : vm (a ++ [x]) = if x.k = 0 then vm a ||| 2 ^ x.s.toNat else vm a := by simp [vm, List.foldl_append]
theorem vm_take (a : List Nd) (k : Nat) (h : k < a.length) : vm (a.take (k + 1)) = if a[k].k = 0 then vm (a.take k) ||| 2 ^ a[k].s.toNat else vm (a.take k) := by
  rw [List.take_succ_eq_append_getElem h, vm_snoc]
theorem ok_sym {a : List Nd} (h : a.all okNd = true) (k : Nat) (hk : k < a.length) (h0 : a[k].k = 0) : ∃ s : Nat, s < 6 ∧ a[k].s = s := by
  have := List.all_eq_true.1 h a[k] (List.getElem_mem hk)
  simp [okNd, h0] at this
  exact ⟨a[k].s.toNat, by omega, by omega⟩
theorem vm_lt {a : List Nd} (h : a.all okNd = true) : ∀ k, k ≤ a.length → vm (a.take k) < 64 := by
  intro k
  induction k with
  | zero => intro _; simp [vm]
  | succ k ih =>
    intro hk
    have h1 := ih (by omega)
    rw [vm_take a k (by omega)]
    split
    · rename_i h0
      obtain ⟨s, hs, e⟩ := ok_sym h k (by omega) h0
      rw [e]
      exact or_lt ⟨_, h1⟩ ⟨s, hs⟩
    · exact h1
/-- the members of a mask below a bound -/
def low (m i : Nat) : List Int := ((List.range i).filter (fun j => m.testBit j)).map Int.ofNat
def mem (m : Nat) : List Int := low m 6
theorem low_succ (m i : Nat) : low m (i + 1) = if m.testBit i then low m i ++ [(i : Int)] else low m i := by
  unfold low
  rw [List.range_succ, List.filter_append, List.map_append]
  by_cases h : m.testBit i <;> simp [h]
theorem low_len (m : Nat) : ∀ i, (low m i).length ≤ i := by
  intro i
  unfold low
  rw [List.length_map]
  exact Nat.le_trans (List.length_filter_le _ _) (by simp)
theorem low_end : ∀ (m : Fin 64) (i : Fin 7), (m : Nat) / 2 ^ (i : Nat) = 0 → low m i = mem m := by decide +kernel
theorem mem_range (m : Nat) : ∀ x ∈ mem m, ∃ k : Nat, k < 6 ∧ x = k := by
  intro x hx
  simp [mem, low] at hx
  obtain ⟨k, ⟨h1, _⟩, rfl⟩ := hx
  exact ⟨k, h1, rfl⟩
theorem wrap_table : ∀ (q : Fin 64), wrap64 (((q : Nat) / 2 : Nat) : Int) = (((q : Nat) / 2 : Nat) : Int) := by decide +kernel
theorem div_table : ∀ (m : Fin 64), (m : Nat) / 2 ^ 6 = 0 := by decide +kernel
theorem mod_table : ∀ (m : Fin 64) (i : Fin 7), ((m : Nat) / 2 ^ (i : Nat)) % 2 = 1 ↔ (m : Nat).testBit i = true := by decide +kernel
--
theorem has_any (m i : Nat) (w : World) (hm : m < 64) (hi : i ≤ 6) : Calls Tryz.prog 126 #[.int .i64 m, .int .i64 i] w fun e w' => e = .returned (.bool (m.testBit i)) ∧ w = w' := by
  go_enter Tryz.func126, Tryz.ntmps126
  go_wp2
  go_ret
  exact ⟨ret_bool (bit_table ⟨m, hm⟩ ⟨i, by omega⟩), rfl⟩
--
theorem l01Bit_any (m i : Nat) (w : World) (hm : m < 64) (hi : i ≤ 6) : Calls Tryz.prog 193 #[.int .i64 m, .int .i64 i] w fun e w' => e = .returned (.bool (m.testBit i)) ∧ w = w' := by
  go_enter Tryz.func193, Tryz.ntmps193
  go_wp2
  go_ret
  exact ⟨ret_bool (bit_table ⟨m, hm⟩ ⟨i, by omega⟩), rfl⟩
--
set_option maxRecDepth 20000 in
set_option maxHeartbeats 1000000 in
theorem variableMask_any (a : List Nd) (v : Value) (w : World) (hv : Nds w v a) (ha : a.all okNd = true) : Calls Tryz.prog 115 #[v] w fun e w' => e = .returned (.int .i64 (vm a)) ∧ Keeps w w' := by
  have hv0 := hv
  obtain ⟨p, cap, rfl, hle, hmx, _, hlen⟩ := hv
  unfold maxLen at hmx
  have HA := hid ha; clear ha
  go_enter Tryz.func115, Tryz.ntmps115
  go_wp2
  go_loopw [3, 8] (fun c i' wr => ∃ k : Nat, k ≤ a.length ∧ i' = .int .i64 k ∧ c = .int .i64 (vm (a.take k)) ∧ Keeps w wr) (fun _ i _ => a.length - (intOf i).toNat)
  case atStart => exact ⟨0, by omega, rfl, by simp [vm], Keeps.refl w⟩
  case round =>
    obtain ⟨k, hk, rfl, rfl, kw⟩ := hrel
    by_cases hlt : k < a.length
    · obtain ⟨_, _, e1, _, _, hata, _⟩ := hv0.keeps kw
      cases e1
      obtain ⟨b1, o1, rfl, h1, h2⟩ := hata.nd k hlt
      clear hata hv0
      have hlt' : (k : Int) < a.length := by omega
      have hvl := vm_lt HA.out k hk
      have hst := vm_take a k hlt
      have hkk := kw.alloc (.cells #[.int .i64 a[k].k, .int .i64 a[k].s] 73)
      by_cases h0 : a[k].k = 0
      · obtain ⟨s, hs, e⟩ := ok_sym HA.out k hlt h0
        rw [if_pos h0, e] at hst
        have hor := or_table ⟨_, hvl⟩ ⟨s, hs⟩
        have hwp := wrap_pow s (by omega)
        rw [h0] at h1 hkk
        rw [e] at h2 hkk
        have HO := hid hor; clear hor
        have HS := hid hst; clear hst
        clear e h0
        generalize vm (List.take k a) = m at *
        go_wp2
        go_roundw
        case rel => exact ⟨k + 1, by omega, by go_num, by rw [HS.out]; have h := HO.out; simp only [Int.toNat_natCast] at *; rw [h], hkk⟩
        case measure => simp [intOf]; omega
      · have hb : (a[k].k == 0) = false := by simp [h0]
        rw [if_neg h0] at hst
        have HS := hid hst; clear hst
        clear h0
        go_wp2
        go_roundw
        case rel => exact ⟨k + 1, by omega, by go_num, by rw [HS.out], hkk⟩
        case measure => simp [intOf]; omega
    · go_wp2
      go_ret
      rw [List.take_of_length_le (by omega)]
      exact ⟨rfl, kw⟩
--
set_option maxRecDepth 20000 in
set_option maxHeartbeats 1000000 in
theorem l01List_any (m : Nat) (w : World) (hm : m < 64) : Calls Tryz.prog 191 #[.int .i64 m] w (RetI w (mem m)) := by
  have h0 := OwnI.empty w
  have k0 := (Keeps.refl w).alloc (.cells #[] 2)
  go_enter Tryz.func191, Tryz.ntmps191
  go_wp2
  go_loopw [0, 3, 4] (fun x o i' wr => ∃ i : Nat, i ≤ 6 ∧ x = .int .i64 ((m / 2 ^ i : Nat) : Int) ∧ i' = .int .i64 i ∧ OwnI wr w.heap.size o (low m i) ∧ Keeps w wr) (fun x _ _ _ => (intOf x).toNat)
  case atStart => exact ⟨0, by omega, by simp, rfl, by simpa [low] using h0, k0⟩
  case round =>
    obtain ⟨i, hi, rfl, rfl, hown, kw⟩ := hrel
    clear h0 k0
    generalize hq : m / 2 ^ i = q at *
    by_cases hp : 0 < q
    · have hi6 : i < 6 := by
        rcases Nat.lt_or_ge i 6 with h | h
        · exact h
        · obtain rfl : i = 6 := by omega
          have := div_table ⟨m, hm⟩
          simp at this hq; omega
      have hq2 : m / 2 ^ (i + 1) = q / 2 := by rw [← hq, Nat.pow_succ, Nat.div_div_eq_div_mul]
      have hmt := mod_table ⟨m, hm⟩ ⟨i, by omega⟩
      simp only [hq] at hmt
      have hls := low_succ m i
      have hll := low_len m i
      have hq64 : q < 64 := by rw [← hq]; exact Nat.lt_of_le_of_lt (Nat.div_le_self _ _) hm
      have hwq : wrap64 ((q : Int) / 2) = ((q / 2 : Nat) : Int) := by have := wrap_table ⟨q, hq64⟩; simp only at this; rw [← this]; congr 1
      have HQ2 := hid hq2; clear hq2
      have HLS := hid hls; clear hls
      have HQ := hid hq; clear hq
      by_cases hb : m.testBit i = true
      · have hb1 : ((q : Int) % 2 == 1) = true := by have := hmt.2 hb; simp; omega
        rw [if_pos hb] at HLS
        clear hmt hb
        go_wp2_with (at_builtin; refine appI rfl _ _ rfl w.heap.size _ (low m i) rfl (hown.keeps ((Keeps.refl wr).alloc _)) _ [(i : Int)] rfl (Ints.lit1 wr i) (by have := kw.size; simp; omega) (by simp; omega) ?_; intro v1 w1 hv1 hg1 hr1; have k2 := (kw.alloc (.cells #[.int .i64 i] 2)).grown hg1 (by simpa using hr1))
        go_roundw
        case rel => exact ⟨i + 1, by omega, by rw [HQ2.out, Int.natCast_ediv]; rfl, by go_num, by rw [HLS.out]; exact hv1, k2⟩
        case measure => first | (simp [intOf]; omega) | (simp [intOf, hwq]; omega)
      · have hb1 : ((q : Int) % 2 == 1) = false := by have := mt hmt.1 hb; simp; omega
        rw [if_neg hb] at HLS
        clear hmt hb
        go_wp2
        go_roundw
        case rel => exact ⟨i + 1, by omega, by rw [HQ2.out, Int.natCast_ediv]; rfl, by go_num, by rw [HLS.out]; exact hown, kw⟩
        case measure => first | (simp [intOf]; omega) | (simp [intOf, hwq]; omega)
    · obtain rfl : q = 0 := by omega
      have hle := low_end ⟨m, hm⟩ ⟨i, by omega⟩ hq
      simp only at hle
      rw [hle] at hown
      clear hle hq
      go_wp2
      go_ret
      exact ⟨_, rfl, hown, kw⟩
--
set_option maxRecDepth 20000 in
set_option maxHeartbeats 1000000 in
theorem membersOf_any (m : Nat) (w : World) (hm : m < 64) : Calls Tryz.prog 182 #[.int .i64 m] w (RetI w (mem m)) := by
  go_enter Tryz.func182, Tryz.ntmps182
  go_wp2
  go_loopw [3, 4] (fun o i' wr => ∃ i : Nat, i ≤ 6 ∧ i' = .int .i64 i ∧ OwnI wr w.heap.size o (low m i) ∧ Keeps w wr) (fun _ i _ => 7 - (intOf i).toNat)
  case atStart => exact ⟨0, by omega, rfl, by simpa [low] using OwnI.nil w w.heap.size, Keeps.refl w⟩
  case round =>
    obtain ⟨i, hi, rfl, hown, kw⟩ := hrel
    have hcast : (m : Int) / 2 ^ i = ((m / 2 ^ i : Nat) : Int) := by push_cast; rfl
    by_cases hp : 0 < m / 2 ^ i
    · have hi6 : i < 6 := by
        rcases Nat.lt_or_ge i 6 with h | h
        · exact h
        · obtain rfl : i = 6 := by omega
          have := div_table ⟨m, hm⟩
          simp only at this; omega
      have hd : decide ((m : Int) / 2 ^ i > 0) = true := by rw [hcast]; simp only [decide_eq_true_eq]; omega
      have hd' : (0 : Int) < (m : Int) / 2 ^ i := by rw [hcast]; omega
      have hls := low_succ m i
      have hll := low_len m i
      have HH := hid (has_any m i wr hm (by omega))
      have HLS := hid hls; clear hls
      clear hcast hp
      cases hb : m.testBit i
      · rw [hb] at HH HLS
        clear hb
        go_wp2_with fail
        refine HH.out.mono ?_; rintro e w' ⟨rfl, rfl⟩
        go_wp2_with fail
        go_roundw
        case rel => exact ⟨i + 1, by omega, by go_num, by have h := HLS.out; simp only [Bool.false_eq_true, if_false] at h; rw [h]; exact hown, kw⟩
        case measure => simp [intOf]; omega
      · rw [hb] at HH HLS
        clear hb
        go_wp2_with fail
        refine HH.out.mono ?_; rintro e w' ⟨rfl, rfl⟩
        go_wp2_with (at_builtin; refine appI rfl _ _ rfl w.heap.size _ (low m i) rfl (hown.keeps ((Keeps.refl wr).alloc _)) _ [(i : Int)] rfl (Ints.lit1 wr i) (by have := kw.size; simp; omega) (by simp; omega) ?_; intro v1 w1 hv1 hg1 hr1; have k2 := (kw.alloc (.cells #[.int .i64 i] 2)).grown hg1 (by simpa using hr1))
        go_roundw
        case rel => exact ⟨i + 1, by omega, by go_num, by have h := HLS.out; simp only [if_true] at h; rw [h]; exact hv1, k2⟩
        case measure => simp [intOf]; omega
    · have hz : m / 2 ^ i = 0 := Nat.eq_zero_of_not_pos hp
      have hd : decide ((m : Int) / 2 ^ i > 0) = false := by rw [hcast, hz]; simp
      have hd' : ¬ (0 : Int) < (m : Int) / 2 ^ i := by rw [hcast, hz]; simp
      have hle := low_end ⟨m, hm⟩ ⟨i, by omega⟩ hz
      simp only at hle
      rw [hle] at hown
      clear hle hz hp hcast
      go_wp2
      go_ret
      exact ⟨_, rfl, hown, kw⟩
end Go.Proofs.YtodeecmhcfbheaaGreat
/- Walks: the variables of formulas; errors and limits of lists of formulas, on both sides. -/
namespace Go.Proofs.YtodeecmhcfbheaaGreat
open Go.RowKit
--
set_option maxRecDepth 20000 in
set_option maxHeartbeats 1000000 in
theorem l02Variables_any (a : List Nd) (v : Value) (w : World) (hv : Nds w v a) (ha : a.all okNd = true) : Calls Tryz.prog 118 #[v] w (RetI w (mem (vm a))) := by
  have hv0 := hv
  obtain ⟨p, cap, rfl, hle, hmx, hata, hlen⟩ := hv
  unfold maxLen at hmx
  have HA := hid ha; clear ha
  go_enter Tryz.func118, Tryz.ntmps118
  go_wp2
  go_loop [3, 4] (fun c i' => ∃ k : Nat, k ≤ a.length ∧ i' = .int .i64 k ∧ c = .int .i64 (vm (a.take k))) (fun _ i => a.length - (intOf i).toNat)
  case atStart => exact ⟨0, by omega, rfl, by simp [vm]⟩
  case round =>
    obtain ⟨k, hk, rfl, rfl⟩ := hrel
    by_cases hlt : k < a.length
    · obtain ⟨b1, o1, rfl, h1, h2⟩ := hata.nd k hlt
      clear hata hv0
      have hlt' : (k : Int) < a.length := by omega
      have hvl := vm_lt HA.out k hk
      have hst := vm_take a k hlt
      by_cases h0 : a[k].k = 0
      · obtain ⟨s, hs, e⟩ := ok_sym HA.out k hlt h0
        rw [if_pos h0, e] at hst
        have hor := or_table ⟨_, hvl⟩ ⟨s, hs⟩
        rw [h0] at h1
        rw [e] at h2
        have HO := hid hor; clear hor
        have HS := hid hst; clear hst
        have H1 := hid (l01One_any (s : Int) w (by omega) (by omega))
        clear e h0
        generalize vm (List.take k a) = m at *
        go_wp2_with fail
        refine H1.out.mono ?_; rintro e w' ⟨rfl, rfl⟩
        simp only [Int.toNat_natCast]
        go_wp2_with fail
        go_round
        case rel => exact ⟨k + 1, by omega, by go_num, by rw [HS.out]; have h := HO.out; simp only [Int.toNat_natCast] at *; rw [h]⟩
        case measure => simp [intOf]; omega
      · have hb : (a[k].k == 0) = false := by simp [h0]
        rw [if_neg h0] at hst
        have HS := hid hst; clear hst
        clear h0
        go_wp2
        go_round
        case rel => exact ⟨k + 1, by omega, by go_num, by rw [HS.out]⟩
        case measure => simp [intOf]; omega
    · have hm64 := vm_lt HA.out k hk
      rw [List.take_of_length_le (by omega)] at *
      have HL := hid (l01List_any (vm a) w hm64)
      generalize vm a = m at *
      clear hata hv0
      go_wp2_with fail
      refine HL.out.mono ?_; rintro e w2 ⟨v2, rfl, hv2, k2⟩
      go_wp2_with fail
      go_ret
      exact ⟨_, rfl, hv2, k2⟩
--
set_option maxRecDepth 20000 in
set_option maxHeartbeats 1000000 in
theorem variablesIn_one (a : List Nd) (v : Value) (w : World) (hv : NdsL w v [a]) (ha : a.all okNd = true) : Calls Tryz.prog 100 #[v] w (RetI w (mem (vm a))) := by
  have hv0 := hv
  obtain ⟨p, cap, rfl, hle, hmx, hlen, _⟩ := hv
  simp only [List.length_cons, List.length_nil, Nat.zero_add] at *
  unfold maxLen at hmx
  obtain ⟨b, off, u, rfl, hc, hu⟩ := hv0.get 0 (by simp)
  simp only [List.getElem_cons_zero] at hu
  rw [Nat.add_zero] at hc
  have hm64 := vm_lt ha a.length (Nat.le_refl _)
  rw [List.take_length] at hm64
  have HV := hid (variableMask_any a u w hu ha)
  have HM := hid (fun w2 => membersOf_any (vm a) w2 hm64)
  have hor : bits BinOp.or IntKind.i64 0 ((vm a : Nat) : Int) = ((vm a : Nat) : Int) := by
    have : ∀ m : Fin 64, bits BinOp.or IntKind.i64 0 ((m : Nat) : Int) = ((m : Nat) : Int) := by decide +kernel
    exact this ⟨_, hm64⟩
  generalize vm a = m at *
  clear hv0 hu ha
  go_enter Tryz.func100, Tryz.ntmps100
  go_wp2
  go_loopw [3, 8] (fun c i' wr => (i' = .int .i64 0 ∧ c = .int .i64 0 ∧ wr = w) ∨ (i' = .int .i64 1 ∧ c = .int .i64 m ∧ Keeps w wr)) (fun _ i _ => 1 - (intOf i).toNat)
  case atStart => exact .inl ⟨rfl, rfl, rfl⟩
  case round =>
    rcases hrel with ⟨rfl, rfl, rfl⟩ | ⟨rfl, rfl, kw⟩
    · go_wp2_with fail
      refine HV.out.mono ?_; rintro e w2 ⟨rfl, k2⟩
      go_wp2_with fail
      go_roundw
      case rel => exact .inr ⟨by first | rfl | go_num, by first | rw [hor] | rfl, k2⟩
      case measure => simp [intOf]
    · go_wp2_with fail
      refine (HM.out _).mono ?_; rintro e w2 ⟨v2, rfl, hv2, k2⟩
      go_wp2_with fail
      go_ret
      exact ⟨_, rfl, hv2.mono kw.size, kw.trans k2⟩
--
set_option maxRecDepth 20000 in
set_option maxHeartbeats 1000000 in
theorem l04Code_any (l : List (List Nd)) (v : Value) (w : World) (hv : NdsL w v l) : Calls Tryz.prog 190 #[v] w fun e w' => e = .returned (.int .i64 (plainErrs l)) ∧ w = w' := by
  have hv0 := hv
  obtain ⟨p, cap, rfl, hle, hmx, hlen, _⟩ := hv
  unfold maxLen at hmx
  go_enter Tryz.func190, Tryz.ntmps190
  go_wp2
  go_loop [2, 3] (fun r i' => r = .int .i64 0 ∧ ∃ k : Nat, k ≤ l.length ∧ i' = .int .i64 k ∧ ∀ j (h : j < l.length), j < k → isFm l[j] = true) (fun _ i => l.length - (intOf i).toNat)
  case atStart => exact ⟨rfl, 0, by omega, rfl, fun j h hj => by omega⟩
  case round =>
    obtain ⟨rfl, k, hk, rfl, hs⟩ := hrel
    have Hs := hid hs; clear hs
    by_cases hlt : k < l.length
    · obtain ⟨b, off, u, rfl, hc, hu⟩ := hv0.get k hlt
      clear hv0
      have hlt' : (k : Int) < l.length := by omega
      have HF := hid (l02Is_any _ _ w hu)
      obtain ⟨p1, n1, q1, rfl⟩ := hu.shape
      clear hu
      cases hf : isFm l[k]
      · rw [hf] at HF
        have Hf := hid hf; clear hf
        go_wp2_with fail
        refine HF.out.mono ?_; rintro e w' ⟨rfl, rfl⟩
        go_wp2_with fail
        go_ret
        refine ⟨ret_int ?_, rfl⟩
        have h1 : l.any (fun x => !isFm x) = true := List.any_eq_true.2 ⟨_, List.getElem_mem hlt, by rw [Hf.out]; rfl⟩
        simp [plainErrs, allFm, h1]
      · rw [hf] at HF
        have Hf := hid hf; clear hf
        go_wp2_with fail
        refine HF.out.mono ?_; rintro e w' ⟨rfl, rfl⟩
        go_wp2_with fail
        go_round
        case rel => exact ⟨rfl, k + 1, by omega, by go_num, fun j h hj => by
          by_cases e : j = k
          · subst e; exact Hf.out
          · exact Hs.out j h (by omega)⟩
        case measure => simp [intOf]; omega
    · have hall : l.any (fun x => !isFm x) = false := by
        rw [Bool.eq_false_iff]; intro h
        obtain ⟨x, hx, h2⟩ := List.any_eq_true.1 h
        obtain ⟨j, hj, rfl⟩ := List.getElem_of_mem hx
        rw [Hs.out j hj (by omega)] at h2; cases h2
      have Hall := hid hall; clear hall
      clear Hs
      go_wp2
      go_loop [2, 4] (fun r i' => r = .int .i64 0 ∧ ∃ k : Nat, k ≤ l.length ∧ i' = .int .i64 k ∧ ∀ j (h : j < l.length), j < k → plainL l[j] = true) (fun _ i => l.length - (intOf i).toNat)
      case atStart => exact ⟨rfl, 0, by omega, rfl, fun j h hj => by omega⟩
      case round =>
        obtain ⟨rfl, k, hk, rfl, hs⟩ := hrel
        have Hs := hid hs; clear hs
        by_cases hlt : k < l.length
        · obtain ⟨b, off, u, rfl, hc, hu⟩ := hv0.get k hlt
          clear hv0
          have hlt' : (k : Int) < l.length := by omega
          have HF := hid (l02Plain_any _ _ w hu)
          obtain ⟨p1, n1, q1, rfl⟩ := hu.shape
          clear hu
          cases hf : plainL l[k]
          · rw [hf] at HF
            have Hf := hid hf; clear hf
            go_wp2_with fail
            refine HF.out.mono ?_; rintro e w' ⟨rfl, rfl⟩
            go_wp2_with fail
            go_ret
            refine ⟨ret_int ?_, rfl⟩
            have h1 : l.any (fun x => !plainL x) = true := List.any_eq_true.2 ⟨_, List.getElem_mem hlt, by rw [Hf.out]; rfl⟩
            simp [plainErrs, allFm, allPlainL, h1, Hall.out]
          · rw [hf] at HF
            have Hf := hid hf; clear hf
            go_wp2_with fail
            refine HF.out.mono ?_; rintro e w' ⟨rfl, rfl⟩
            go_wp2_with fail
            go_round
            case rel => exact ⟨rfl, k + 1, by omega, by go_num, fun j h hj => by
              by_cases e : j = k
              · subst e; exact Hf.out
              · exact Hs.out j h (by omega)⟩
            case measure => simp [intOf]; omega
        · go_wp2
          go_ret
          refine ⟨ret_int ?_, rfl⟩
          have h1 : l.any (fun x => !plainL x) = false := by
            rw [Bool.eq_false_iff]; intro h
            obtain ⟨x, hx, h2⟩ := List.any_eq_true.1 h
            obtain ⟨j, hj, rfl⟩ := List.getElem_of_mem hx
            rw [Hs.out j hj (by omega)] at h2; cases h2
          simp [plainErrs, allFm, allPlainL, h1, Hall.out]
theorem l31Plain_any (l : List (List Nd)) (v : Value) (w : World) (hv : NdsL w v l) : Calls Tryz.prog 117 #[v] w fun e w' => e = .returned (.int .i64 (plainErrs l)) ∧ w = w' := by
  have H := hid (l04Code_any l v w hv)
  obtain ⟨p1, c1, rfl, _⟩ := hv
  go_enter Tryz.func117, Tryz.ntmps117
  go_wp2_with fail
  refine H.out.mono ?_; rintro e w' ⟨rfl, rfl⟩
  go_wp2_with fail
  go_ret
  exact ⟨rfl, rfl⟩
--
theorem isMask6_any (x : Int) (w : World) : Calls Tryz.prog 123 #[.int .i64 6, .int .i64 x] w fun e w' => e = .returned (.bool (inR x 0 63)) ∧ w = w' := by
  have h1 := inRange_any 6 0 30 w
  have h2 := inRange_any x 0 63 w
  rw [show inR 6 0 30 = true from by decide] at h1
  have H1 := hid h1; clear h1
  have H2 := hid h2; clear h2
  go_enter Tryz.func123, Tryz.ntmps123
  go_wp2_with fail
  refine H1.out.mono ?_; rintro e w' ⟨rfl, rfl⟩
  go_wp2_with fail
  refine H2.out.mono ?_; rintro e w' ⟨rfl, rfl⟩
  go_wp2_with fail
  go_ret
  exact ⟨rfl, rfl⟩
--
def bigL (l : List (List Nd)) : Bool := l.any fun x => decide (40 < x.length)
theorem limitedAll_1_any (x : List Nd) (u : Value) (w : World) (hu : Nds w u x) : Calls Tryz.prog 178 #[u] w fun e w' => e = .returned (.bool (decide (40 < x.length))) ∧ Keeps w w' := by
  obtain ⟨p, cap, rfl, hle, hmx, _, hlen⟩ := hu
  go_enter Tryz.func178, Tryz.ntmps178
  go_wp2
  go_ret
  exact ⟨ret_bool (by first | rfl | (apply decide_eq_decide.2; omega)), Keeps.refl _⟩
theorem enters_limitedAll_1 : Enters 178 := fun _ _ => by kernel_rfl
set_option maxRecDepth 20000 in
set_option maxHeartbeats 1000000 in
theorem limitedAll_any (l : List (List Nd)) (v : Value) (w : World) (hv : NdsL w v l) :
    Calls Tryz.prog 96 #[v] w fun e w' => e = .returned (.tuple #[if bigL l then .slice none 0 0 else v, .int .i64 (if bigL l then 3 else 0)]) ∧ Keeps w w' := by
  have HC := hid (containsFuncL (fun x => decide (40 < x.length)) 178 #[] l v w hv enters_limitedAll_1 (fun x u w1 _ _ h => limitedAll_1_any x u w1 h))
  obtain ⟨p, cap, rfl, _⟩ := hv
  cases hb : bigL l
  all_goals
    have Hb := hid hb; clear hb
    go_enter Tryz.func96, Tryz.ntmps96
    go_wp2_with fail
    refine HC.out.mono ?_; rintro e w2 ⟨rfl, k2⟩
    have h : (l.any fun x => decide (40 < x.length)) = _ := Hb.out
    rw [h]
    go_wp2_with fail
    go_ret2
    exact ⟨rfl, k2⟩
end Go.Proofs.YtodeecmhcfbheaaGreat
/- Lists of node lists that grow and are written; the identical substitution on both sides. -/
namespace Go.Proofs.YtodeecmhcfbheaaGreat
open Go.RowKit
theorem type_ne {w : World} {B B' : Nat} {T1 T2 : TypeId} {s s' n m : Nat} {v u : Value} {xs ys : List Value} (h1 : w.ownsRow B T1 s v n xs) (h2 : w.ownsRow B' T2 s' u m ys) (hne : T1 ≠ T2) {k : Nat} (hv : v.ownBlock = some k) : u.ownBlock ≠ some k := by
  intro hu
  rcases h1.2 with ⟨rfl, _⟩ | ⟨g, cap, cur, rfl, _, hg, _⟩
  · simp [Value.ownBlock] at hv
  rcases h2.2 with ⟨rfl, _⟩ | ⟨g', cap', cur', rfl, _, hg', _⟩
  · simp [Value.ownBlock] at hu
  simp [Value.ownBlock] at hv hu
  subst hv; subst hu
  rw [hg] at hg'
  injection hg' with e
  injection e with _ e2 _
  exact hne e2
theorem tyne : (24 : TypeId) ≠ 73 := by decide
theorem infoL : (Tryz.prog.info? 24).map (fun i => (i.zero, i.size, i.bytes)) = some (some (.slice none 0 0), 1, 24) := by kernel_rfl
theorem At.lit1 (w : World) (u : Value) (E : TypeId) : At (w.alloc (.cells #[u] E)) (some ⟨w.heap.size, 0, none⟩) [u] := by
  intro j hj
  simp at hj
  subst hj
  exact ⟨_, _, rfl, by simp⟩
theorem off_rows {w : World} {B B' : Nat} {v : Value} {n : Nat} {hs vs : List Value} {xs : List (List Nd)} (ho : w.ownsRow B 24 1 v n hs) (hr : RowsN w B' vs xs) : Off v vs := fun i hi k hk =>
  type_ne ho (hr.2 i hi (by have := hr.1; omega)) tyne hk
theorem OwnL.nil (w : World) (B : Nat) : OwnL w B (.slice none 0 0) [] := ⟨[], World.ownsRow_nil w B _ 1, RowsN.nil _ _, Apart.nil, Off.nil _⟩
theorem OwnL.empty (w : World) : OwnL (w.alloc (.cells #[] 24)) w.heap.size (.slice (some ⟨w.heap.size, 0, none⟩) 0 0) [] :=
  ⟨[], World.ownsRow_made w #[] 0 (Nat.le_refl _) (by simp [maxLen]) (by simp), RowsN.nil _ _, Apart.nil, Off.nil _⟩
theorem OwnL.snoc {w0 w w' : World} {B : Nat} {v v' u : Value} {xs : List (List Nd)} {x : List Nd} {vs : List Value} (hr : RowsN w0 B vs xs) (ha : Apart vs) (ho : w.ownsRow B 24 1 v xs.length vs) (k : Keeps w0 w) (hu : OwnN w w0.heap.size u x) (hB : B ≤ w0.heap.size)
    (ho' : w'.ownsRow B 24 1 v' (xs.length + 1) (vs ++ [u])) (hg : w.grownBy w' v.ownBlock) : OwnL w' B v' (xs ++ [x]) := by
  have hrw := hr.keeps k
  have hoff := off_rows ho hrw
  have hr' : RowsN w' B vs xs := hrw.touch (Touch.grown hg) (fun i hb e => hoff.not_blk e.symm hb)
  have hu' : OwnN w' B u x := (hu.touch (Touch.grown hg) (fun i hi e => type_ne ho hu tyne e.symm hi)).mono hB
  have hrows := RowsN.snoc hu' hr'
  refine ⟨vs ++ [u], by simpa using ho', hrows, Apart.snoc (fun i hi hb => ?_) ha, off_rows ho' hrows⟩
  have := (hu.len i hi).1
  have := (hr.lt hb).2
  omega
theorem appLK {w : World} {o : Oper} {a : Act} {K : Act → World → Prop} {Q : Exit → Act → World → Prop} (s x : Operand)
    (ho : o.op = .call { callee := .builtin .append, args := #[s, x], argTypes := #[35, 35] }) (base : Nat) (v : Value) (xs : List (List Nd)) (hs : a.eval s = v)
    (w0 : World) (hown : OwnL w0 base v xs) (k : Keeps w0 w) (u : Value) (y : List Nd) (hu : OwnN w w0.heap.size u y) (hbase : base ≤ w0.heap.size)
    (p : Option Addr) (c : Nat) (hx : a.eval x = .slice p 1 c) (hat : At w p [u]) (hlen : xs.length ≤ 2147483648)
    (h : ∀ v' w', OwnL w' base v' (xs ++ [y]) → w.grownBy w' v.ownBlock → (∀ k, v.ownBlock = some k → base ≤ k) → K (a.put o.dst v') w') : o.wp Tryz.prog a w K Q := by
  obtain ⟨i0, hi, hz0, hz1, hz2⟩ := info_parts infoL
  obtain ⟨vs, hrow, hr, ha, _⟩ := hown
  have hone : ∀ z ∈ [u], z.oneCell' = true := by
    intro z hz
    simp at hz; subst hz
    obtain ⟨p, c, e, _⟩ := At.of_own hu
    rw [e]; rfl
  have hrow' := own_keeps hrow k
  refine wp_append_at s x _ ho _ i0 _ 1 24 Tryz.underlying35 hi hz0 hz1 hz2 rfl (by decide) base v _ _ hs hrow' p 1 c [u] hx (by simp) hat hone (by unfold maxLen; omega) (by omega) (by have := k.size; omega) ?_
  intro v' w' h1 h2 h3
  exact h v' w' (OwnL.snoc hr ha hrow' k hu hbase h1 h2) h2 h3
theorem appL {w : World} {ops : Array Oper} {rest : List Oper} {o : Oper} {a : Act} {Q : Exit → Act → World → Prop} (hgd : o.guard = none) (s x : Operand)
    (ho : o.op = .call { callee := .builtin .append, args := #[s, x], argTypes := #[35, 35] }) (base : Nat) (v : Value) (xs : List (List Nd)) (hs : a.eval s = v)
    (w0 : World) (hown : OwnL w0 base v xs) (k : Keeps w0 w) (u : Value) (y : List Nd) (hu : OwnN w w0.heap.size u y) (hbase : base ≤ w0.heap.size)
    (p : Option Addr) (c : Nat) (hx : a.eval x = .slice p 1 c) (hat : At w p [u]) (hlen : xs.length ≤ 2147483648)
    (h : ∀ v' w', OwnL w' base v' (xs ++ [y]) → w.grownBy w' v.ownBlock → (∀ k, v.ownBlock = some k → base ≤ k) → wpList Tryz.prog ops Q rest (a.put o.dst v') w') : wpList Tryz.prog ops Q (o :: rest) a w :=
  wpList_plain hgd fun _ hK => appLK s x ho base v xs hs w0 hown k u y hu hbase p c hx hat hlen fun v' w' h1 h2 h3 => hK _ _ (h v' w' h1 h2 h3)
theorem OwnL.store {w0 w : World} {B : Nat} {v u : Value} {xs : List (List Nd)} {x : List Nd} (h : OwnL w0 B v xs) (k : Keeps w0 w) (hu : OwnN w w0.heap.size u x) (hB : B ≤ w0.heap.size) (i : Nat) (hi : i < xs.length) :
    ∃ g cap c, v = .slice (some ⟨g, 0, none⟩) xs.length cap ∧ B ≤ g ∧ g < w0.heap.size ∧ w.cell? ⟨g, i, none⟩ = some c ∧ w.frozen? ⟨g, i, none⟩ = false ∧ OwnL (w.setCell ⟨g, i, none⟩ u) B v (xs.set i x) ∧ w.grownBy (w.setCell ⟨g, i, none⟩ u) (some g) := by
  obtain ⟨vs, ho0, hr0, ha, _⟩ := h
  have hl := hr0.1
  obtain ⟨g, cap, e, hBg, hgl⟩ : ∃ g cap, v = .slice (some ⟨g, 0, none⟩) xs.length cap ∧ B ≤ g ∧ g < w0.heap.size := by
    rcases ho0.2 with ⟨_, h0⟩ | ⟨g, cap, cur, e, hb, hg, _⟩
    · omega
    · exact ⟨g, cap, e, hb, (Array.getElem?_eq_some_iff.1 hg).1⟩
  have ho := own_keeps ho0 k
  have hr := hr0.keeps k
  subst e
  have hst := ho.stored i u
  have hoff := off_rows ho hr
  have hlu := hu.len
  refine ⟨g, cap, vs[i]'(by omega), rfl, hBg, hgl, ?_, ho.frozenAt i, ?_, hst.2⟩
  · rw [ho.cellAt i (by omega)]; simp [show i < vs.length by omega]
  have hr' : RowsN (w.setCell ⟨g, i, none⟩ u) B vs xs := hr.touch (Touch.grown hst.2) (fun j hb e => hoff.not_blk (k := j) (by cases e; rfl) hb)
  have hu' : OwnN (w.setCell ⟨g, i, none⟩ u) B u x := (hu.touch (Touch.grown hst.2) (fun j hj e => type_ne ho hu tyne (k := j) (by cases e; rfl) hj)).mono hB
  have hrows : RowsN (w.setCell ⟨g, i, none⟩ u) B (vs.set i u) (xs.set i x) := ⟨by simp [hl], fun j h1 h2 => by
    by_cases e : i = j
    · subst e; simpa using hu'
    · rw [List.getElem_set_ne e, List.getElem_set_ne e]
      exact hr'.2 j (by simpa using h1) (by simpa using h2)⟩
  refine ⟨vs.set i u, by rw [List.length_set]; exact hst.1, hrows, ?_, off_rows hst.1 hrows⟩
  intro j l hj hl' hne q hq
  simp at hj hl'
  by_cases e1 : i = j
  · subst e1
    rw [List.getElem_set_ne hne]
    simp only [List.getElem_set_self] at hq
    intro e
    have := (hlu q hq).1
    have := (hr0.lt ⟨l, hl', e⟩).2
    omega
  · rw [List.getElem_set_ne e1] at hq
    by_cases e2 : i = l
    · subst e2
      simp only [List.getElem_set_self]
      intro e
      have := (hlu q e).1
      have := (hr0.lt ⟨j, hj, hq⟩).2
      omega
    · rw [List.getElem_set_ne e2]
      exact ha j l hj hl' hne q hq
/-- the identical substitution -/
def idL (n : Nat) : List (List Nd) := (List.range n).map fun v => (Fm.var v).enc
theorem idL_succ (n : Nat) : idL (n + 1) = idL n ++ [(Fm.var n).enc] := by simp [idL, List.range_succ]
theorem idL_len (n : Nat) : (idL n).length = n := by simp [idL]
theorem idL_tot (n : Nat) : tot (idL n) = n := by
  induction n with
  | zero => rfl
  | succ n ih => rw [idL_succ, tot_append, ih]; rfl
/-- an owned list of lists comes back -/
def RetL (w : World) (xs : List (List Nd)) (e : Ending) (w' : World) : Prop := ∃ v, e = .returned v ∧ OwnL w' w.heap.size v xs ∧ Keeps w w'
--
set_option maxRecDepth 20000 in
set_option maxHeartbeats 1000000 in
theorem identity_any (w : World) : Calls Tryz.prog 183 #[] w (RetL w (idL 6)) := by
  go_enter Tryz.func183, Tryz.ntmps183
  go_wp2
  go_loopw [1, 3] (fun o i' wr => ∃ k : Nat, k ≤ 6 ∧ i' = .int .i64 k ∧ OwnL wr w.heap.size o (idL k) ∧ Keeps w wr) (fun _ i _ => 6 - (intOf i).toNat)
  case atStart => exact ⟨0, by omega, rfl, OwnL.nil _ _, Keeps.refl w⟩
  case round =>
    obtain ⟨k, hk, rfl, hown, kw⟩ := hrel
    have hsz := kw.size
    by_cases hlt : k < 6
    · have hlt' : (k : Int) < 6 := by omega
      have hll := idL_len k
      go_wp2_with fail
      refine (variable_any k _).mono ?_; rintro e w2 ⟨v2, rfl, hv2, k2⟩
      obtain ⟨p2, n2, c2, rfl⟩ : ∃ p n c, v2 = .slice p n c := by obtain ⟨p, c, e, _⟩ := At.of_own hv2; exact ⟨p, _, c, e⟩
      have k3 := k2.alloc (.cells #[.slice p2 n2 c2] 24)
      have hv3 := hv2.keeps ((Keeps.refl w2).alloc (.cells #[.slice p2 n2 c2] 24))
      have hat := At.lit1 w2 (.slice p2 n2 c2) 24
      go_wp2_with (at_builtin; refine appL rfl _ _ rfl w.heap.size _ (idL k) rfl wr hown k3 _ _ hv3 hsz _ _ rfl hat (by omega) ?_; intro v4 w4 hv4 hg4 hr4; have k4 := (kw.trans k3).grown hg4 hr4)
      go_roundw
      case rel => exact ⟨k + 1, by omega, by go_num, by rw [idL_succ]; exact hv4, k4⟩
      case measure => simp [intOf]; omega
    · obtain rfl : k = 6 := by omega
      go_wp2
      go_ret
      exact ⟨_, rfl, hown, kw⟩
--
set_option maxRecDepth 20000 in
set_option maxHeartbeats 1000000 in
theorem l03Self_any (w : World) : Calls Tryz.prog 192 #[] w (RetL w (idL 6)) := by
  have h0 := OwnL.empty w
  have k0 := (Keeps.refl w).alloc (.cells #[] 24)
  go_enter Tryz.func192, Tryz.ntmps192
  go_wp2
  go_loopw [1, 2] (fun o i' wr => ∃ k : Nat, k ≤ 6 ∧ i' = .int .i64 k ∧ OwnL wr w.heap.size o (idL k) ∧ Keeps w wr) (fun _ i _ => 6 - (intOf i).toNat)
  case atStart => exact ⟨0, by omega, rfl, h0, k0⟩
  case round =>
    obtain ⟨k, hk, rfl, hown, kw⟩ := hrel
    clear h0 k0
    have hsz := kw.size
    by_cases hlt : k < 6
    · have hlt' : (k : Int) < 6 := by omega
      have hll := idL_len k
      go_wp2_with fail
      refine (l02Var_any k _).mono ?_; rintro e w2 ⟨v2, rfl, hv2, k2⟩
      obtain ⟨p2, n2, c2, rfl⟩ : ∃ p n c, v2 = .slice p n c := by obtain ⟨p, c, e, _⟩ := At.of_own hv2; exact ⟨p, _, c, e⟩
      have k3 := k2.alloc (.cells #[.slice p2 n2 c2] 24)
      have hv3 := hv2.keeps ((Keeps.refl w2).alloc (.cells #[.slice p2 n2 c2] 24))
      have hat := At.lit1 w2 (.slice p2 n2 c2) 24
      go_wp2_with (at_builtin; refine appL rfl _ _ rfl w.heap.size _ (idL k) rfl wr hown k3 _ _ hv3 hsz _ _ rfl hat (by omega) ?_; intro v4 w4 hv4 hg4 hr4; have k4 := (kw.trans k3).grown hg4 hr4)
      go_roundw
      case rel => exact ⟨k + 1, by omega, by go_num, by rw [idL_succ]; exact hv4, k4⟩
      case measure => simp [intOf]; omega
    · obtain rfl : k = 6 := by omega
      go_wp2
      go_ret
      exact ⟨_, rfl, hown, kw⟩
end Go.Proofs.YtodeecmhcfbheaaGreat
