import Derived.Test.YtfmmajgkjkmghaaGreatDoorHW4
import Derived.Lib.AppendZeros
import Derived.Test.YtfmmajgkjkmghaaGreatDoorHPP
/- Walks: the library's Grow and Concat at nodes; the program's joins. -/
namespace Go.Proofs.YtfmmajgkjkmghaaGreatDoor
open Go.RowKit
theorem zeroCells_size (n : Nat) (z : Array Value) : (Builtin.zeroCells z n).size = n * z.size := by simp [Builtin.zeroCells]
set_option maxRecDepth 20000 in
set_option maxHeartbeats 400000 in
theorem growN_any (n : Nat) (w : World) (hn : n ≤ 2147483648) :
  Calls Tryz.prog 191 #[.slice none 0 0, .int .i64 n] w (RetN w []) := by
 obtain ⟨i0, hi, hz0, hz1, hz2⟩ := info_parts infoN
 by_cases h0 : 0 < n
 ·have hrun := Lib.run_append_nil_zeros (P := Tryz.prog) w 31 3 31 147 i0 _ .i64 .i64 Tryz.underlying31 Tryz.underlying3 hi hz0 n h0 (by rw [hz1]; decide) (by omega) (by rw [hz2]; omega)
  have hge := grownCap_ge w n 0 147
  have hle := grownCap_le_maxLen w n 0 147 (by unfold maxLen; omega)
  unfold maxLen at hle
  have hown : OwnN (w.drew.alloc (.cells (Builtin.zeroCells (Value.agg #[.int .i64 0, .int .i64 0]).cells n ++ Builtin.zeroCells (Value.agg #[.int .i64 0, .int .i64 0]).cells (grownCap w n 0 147 - n)) 147)) w.heap.size (.slice (some ⟨w.heap.size, 0, none⟩) 0 (grownCap w n 0 147)) [] := by
   refine World.ownsRow_made w.drew _ _ (Nat.le_refl _) (by unfold maxLen; omega) ?_
   rw [Array.size_append, zeroCells_size, zeroCells_size]
   simp [Value.cells]
   omega
  have hk := ((Keeps.refl w).drew).alloc (.cells (Builtin.zeroCells (Value.agg #[.int .i64 0, .int .i64 0]).cells n ++ Builtin.zeroCells (Value.agg #[.int .i64 0, .int .i64 0]).cells (grownCap w n 0 147 - n)) 147)
  generalize w.drew.alloc (.cells (Builtin.zeroCells (Value.agg #[.int .i64 0, .int .i64 0]).cells n ++ Builtin.zeroCells (Value.agg #[.int .i64 0, .int .i64 0]).cells (grownCap w n 0 147 - n)) 147) = w1 at hrun hown hk
  generalize grownCap w n 0 147 = c1 at *
  have HR := hid hrun; clear hrun
  clear hz0 hz1 hz2 hi
  go_enter Tryz.func191, Tryz.ntmps191
  go_wp2_with (at_builtin; refine Lib.wpList_append_run _ rfl _ _ _ _ rfl _ _ rfl rfl _ _ HR.out ?_)
  go_ret
  exact ⟨_, rfl, hown, hk⟩
 ·obtain rfl : n = 0 := by omega
  go_enter Tryz.func191, Tryz.ntmps191
  go_wp2
  go_ret
  exact ⟨_, rfl, OwnN.nil _ _, Keeps.refl _⟩
def fl {α : Type} (l : List (List α)) (k : Nat) : List α := (l.take k).flatten
theorem fl_succ {α : Type} (l : List (List α)) (k : Nat) (h : k < l.length) : fl l (k + 1) = fl l k ++ l[k] := by
 unfold fl
 rw [List.take_succ_eq_append_getElem h, List.flatten_append]; simp
theorem fl_le {α : Type} (l : List (List α)) (k : Nat) : (fl l k).length ≤ (fl l l.length).length := by
 unfold fl
 rw [List.take_length]
 conv => rhs; rw [← List.take_append_drop k l]
 simp only [List.flatten_append, List.length_append]; omega
set_option maxHeartbeats 1000000 in
theorem concatN_any (l : List (List Nd)) (v : Value) (w : World) (hv : NdsL w v l) (hl : (fl l l.length).length ≤ 2147483648) :
  Calls Tryz.prog 182 #[v] w (RetN w (fl l l.length)) := by
 have hv0 := hv
 obtain ⟨p, cap, rfl, hle, hmx, hlen, _⟩ := hv
 unfold maxLen at hmx
 go_enter Tryz.func182, Tryz.ntmps182
 go_wp2
 go_loop [3, 11] (fun s i' => ∃ k : Nat, k ≤ l.length ∧ i' = .int .i64 k ∧ s = .int .i64 (fl l k).length) (fun _ i => l.length - (intOf i).toNat)
 case atStart => exact ⟨0, by omega, rfl, rfl⟩
 case round =>
  obtain ⟨k, hk, rfl, rfl⟩ := hrel
  have hf := fl_le l k
  by_cases hlt : k < l.length
  ·obtain ⟨b, off, u, rfl, h1, pu, capu, rfl, g1, g2, g3, g4⟩ := hv0.get k hlt
   have hft := fl_succ l k hlt
   have hf2 := fl_le l (k + 1)
   have hlen2 : (fl l (k + 1)).length = (fl l k).length + l[k].length := by rw [hft]; simp
   have hsum : (fl l k).length + l[k].length ≤ 2147483648 := by omega
   have HL := hid hlen2; clear hlen2 hft hf2
   clear hv0
   go_wp2
   go_round
   case rel => exact ⟨k + 1, by omega, by go_num, by rw [HL.out]; go_num⟩
   case measure => simp [intOf]; omega
  ·obtain rfl : k = l.length := by omega
   clear hf hk hlt
   go_wp2_with (go_at_call 191; refine (growN_any _ _ hl).mono ?_; rintro e w1 ⟨v1, rfl, hv1, k1⟩)
   go_loopw [6, 27] (fun s i' wr => ∃ k : Nat, k ≤ l.length ∧ i' = .int .i64 k ∧ OwnN wr w.heap.size s (fl l k) ∧ Keeps w wr) (fun _ i _ => l.length - (intOf i).toNat)
   case atStart => exact ⟨0, by omega, rfl, hv1, k1⟩
   case round =>
    obtain ⟨k, hk, rfl, hown, kw⟩ := hrel
    by_cases hlt : k < l.length
    ·obtain ⟨b, off, u, rfl, h1, hu⟩ := (hv0.keeps kw).get k hlt
     have hft := fl_succ l k hlt
     have hf2 := fl_le l (k + 1)
     have hsum : (fl l k).length + l[k].length ≤ 2147483648 := by
      have : (fl l (k + 1)).length = (fl l k).length + l[k].length := by rw [hft]; simp
      omega
     have HF := hid hft; clear hft hf2
     clear hv0
     have hsz := kw.size
     go_wp2_with (at_builtin; refine appN rfl _ _ rfl w.heap.size _ _ rfl hown _ _ rfl hu hsz hsum ?_; intro v2 w2 hv2 hg2 hr2; have k2 : Keeps w w2 := kw.grown hg2 hr2)
     go_roundw
     case rel => exact ⟨k + 1, by omega, by go_num, by rw [HF.out]; exact hv2, k2⟩
     case measure => simp [intOf]; omega
    ·obtain rfl : k = l.length := by omega
     go_wp2
     go_ret
     exact ⟨_, rfl, hown, kw⟩
end Go.Proofs.YtfmmajgkjkmghaaGreatDoor
namespace Go.Proofs.YtfmmajgkjkmghaaGreatDoor
open Go.RowKit
theorem falsum_any (w : World) : Calls Tryz.prog 198 #[] w (RetN w Fm.fls.enc) := by
 go_enter Tryz.func198, Tryz.ntmps198
 go_wp2
 go_ret
 exact ⟨_, rfl, OwnN.lit1 w ⟨1, 0⟩, (Keeps.refl w).alloc _⟩
set_option maxHeartbeats 400000 in
theorem join_any (k : Int) (a b : List Nd) (va vb : Value) (w : World) (hva : Nds w va a) (hvb : Nds w vb b) (hl : 1 + a.length + b.length ≤ 2147483648) :
  Calls Tryz.prog 159 #[.int .i64 k, va, vb] w (RetN w (⟨k, 0⟩ :: (a ++ b))) := by
 obtain ⟨pa, na, ca, rfl⟩ := hva.shape
 obtain ⟨pb, nb, cb, rfl⟩ := hvb.shape
 have k1 := (Keeps.refl w).alloc (.cells #[.int .i64 k, .int .i64 0] 147)
 have h1 := (OwnN.lit1 w ⟨k, 0⟩).nds (by simp)
 have h2 := NdsL.lit3N (N := w.heap.size + 1) (by simp) h1 (hva.keeps k1) (hvb.keeps k1)
 have k2 := k1.alloc (.cells #[.slice (some ⟨w.heap.size, 0, none⟩) 1 1, .slice pa na ca, .slice pb nb cb] 31)
 have hfl : fl [[⟨k, 0⟩], a, b] [[⟨k, 0⟩], a, b].length = ⟨k, 0⟩ :: (a ++ b) := by simp [fl]
 have hfl2 : (fl [[⟨k, 0⟩], a, b] [[(⟨k, 0⟩ : Nd)], a, b].length).length ≤ 2147483648 := by rw [hfl]; simp; omega
 have hc := concatN_any _ _ _ h2 hfl2
 rw [hfl] at hc
 have HC := hid hc
 clear hfl2 h1 h2 hfl hc
 go_enter Tryz.func159, Tryz.ntmps159
 go_wp2_with (go_at_call 182; go_must (refine HC.out.mono ?_); rintro e w3 ⟨v3, rfl, hv3, k3⟩)
 go_ret
 exact ⟨_, rfl, hv3.mono k2.size, k2.trans k3⟩
set_option maxHeartbeats 400000 in
theorem negation_any (t : Fm) (v : Value) (w : World) (hv : Nds w v t.enc) (hl : t.enc.length ≤ 1073741824) :
  Calls Tryz.prog 194 #[v] w (RetN w (Fm.not t).enc) := by
 go_enter Tryz.func194, Tryz.ntmps194
 go_wp2_with (first | (go_at_call 198; refine (falsum_any _).mono ?_; rintro e w1 ⟨v1, rfl, hv1, k1⟩) | (go_at_call 159; refine (join_any _ _ _ _ _ _ (hv.keeps k1) (hv1.nds (by simp [Fm.enc])) (by simp [Fm.enc]; omega)).mono ?_; rintro e w2 ⟨v2, rfl, hv2, k2⟩))
 go_ret
 exact ⟨_, rfl, hv2.mono k1.size, k1.trans k2⟩
set_option maxHeartbeats 400000 in
theorem indexFuncL (pr : List Nd → Bool) (f : FuncId) (cp : Array Value) (a : List (List Nd)) (v : Value) (w : World) (hv : NdsL w v a) (hcf : Enters f)
  (hf : ∀ x u w1, x ∈ a → Keeps w w1 → Nds w1 u x → Calls Tryz.prog f (#[u] ++ cp) w1 fun e w2 => e = .returned (.bool (pr x)) ∧ Keeps w1 w2) :
  Calls Tryz.prog 160 #[v, .func (.func f) #[] cp] w fun e w' => e = .returned (.int .i64 (idxOf pr a 0)) ∧ Keeps w w' := by
 have hv0 := hv
 obtain ⟨p, cap, rfl, hle, hmx, hlen, _⟩ := hv
 unfold maxLen at hmx
 have HF := hid hf; clear hf
 have hcf' : ∀ args w, (callFunc f args).run Tryz.prog w = .ok (.enter f args) w := hcf
 clear hcf
 go_enter Tryz.func160, Tryz.ntmps160
 go_wp2
 go_loopw [4, 8] (fun r i' wr => ∃ k : Nat, k ≤ a.length ∧ idxOf pr a 0 = idxOf pr (a.drop k) k ∧ Keeps w wr ∧ i' = .int .i64 k ∧ r = .int .i64 0) (fun _ i _ => a.length - (intOf i).toNat)
 case atStart => exact ⟨0, by omega, by simp, Keeps.refl w, rfl, rfl⟩
 case round =>
  obtain ⟨k, hk, hs, kw, rfl, rfl⟩ := hrel
  have Hs := hid hs; clear hs
  by_cases hlt : k < a.length
  ·obtain ⟨b, off, u, rfl, h1, hu⟩ := (hv0.keeps kw).get k hlt
   have hd := hid (idxOf_drop pr a k hlt)
   clear hv0
   cases hp : pr a[k]
   all_goals
    have Hp := hid hp; clear hp
    go_wp2_with ((with_reducible refine (HF.out a[k] u wr (List.getElem_mem hlt) kw hu).mono ?_); rintro e w2 ⟨rfl, k2⟩; rw [Hp.out])
   ·go_roundw
    case rel => exact ⟨k + 1, by omega, by rw [Hs.out, hd.out, Hp.out]; rfl, kw.trans k2, by go_num, rfl⟩
    case measure => simp [intOf]; omega
   ·go_ret
    exact ⟨ret_int (by rw [Hs.out, hd.out, Hp.out]; rfl), kw.trans k2⟩
  ·go_wp2
   go_ret
   exact ⟨ret_int (by rw [Hs.out, idxOf_end _ _ _ (by omega)]), kw⟩
theorem containsFuncL (pr : List Nd → Bool) (f : FuncId) (cp : Array Value) (a : List (List Nd)) (v : Value) (w : World) (hv : NdsL w v a) (hcf : Enters f)
  (hf : ∀ x u w1, x ∈ a → Keeps w w1 → Nds w1 u x → Calls Tryz.prog f (#[u] ++ cp) w1 fun e w2 => e = .returned (.bool (pr x)) ∧ Keeps w1 w2) :
  Calls Tryz.prog 124 #[v, .func (.func f) #[] cp] w fun e w' => e = .returned (.bool (a.any pr)) ∧ Keeps w w' := by
 have H := hid (indexFuncL pr f cp a v w hv hcf hf)
 clear hv hf hcf
 have he := hid (idxOf_any pr a 0)
 go_enter Tryz.func124, Tryz.ntmps124
 go_wp2_with (go_at_call 160; refine H.out.mono ?_; rintro e w2 ⟨rfl, k2⟩)
 go_ret
 exact ⟨ret_bool he.out, k2⟩
theorem areFormulas_1_any (x : List Nd) (u : Value) (w : World) (hu : Nds w u x) : Calls Tryz.prog 125 #[u] w fun e w' => e = .returned (.bool (!isFm x)) ∧ Keeps w w' := by
 go_enter Tryz.func125, Tryz.ntmps125
 go_wp2_with (go_at_call 126; refine (isFormula_any x _ _ hu).mono ?_; rintro e w' ⟨rfl, k1⟩)
 go_ret
 exact ⟨rfl, k1⟩
theorem enters_areFormulas_1 : Enters 125 := fun _ _ => by kernel_rfl
def allFm (l : List (List Nd)) : Bool := !(l.any fun x => !isFm x)
theorem areFormulas_any (l : List (List Nd)) (v : Value) (w : World) (hv : NdsL w v l) :
  Calls Tryz.prog 63 #[v] w fun e w' => e = .returned (.bool (allFm l)) ∧ Keeps w w' := by
 go_enter Tryz.func63, Tryz.ntmps63
 go_wp2_with (go_at_call 124; refine (containsFuncL (fun x => !isFm x) _ #[] l _ _ hv enters_areFormulas_1 (fun x u w1 _ _ hu => areFormulas_1_any x u w1 hu)).mono ?_; rintro e w1 ⟨rfl, k1⟩)
 go_ret
 exact ⟨rfl, k1⟩
end Go.Proofs.YtfmmajgkjkmghaaGreatDoor
namespace Go.Proofs.YtfmmajgkjkmghaaGreatDoor
open Go.RowKit
set_option maxRecDepth 20000 in
set_option maxHeartbeats 400000 in
theorem prefix_any (k : Int) (a : List Nd) (va : Value) (w : World) (hva : Nds w va a) (hl : 1 + a.length ≤ 2147483648) :
  Calls Tryz.prog 196 #[.int .i64 k, va] w (RetN w (⟨k, 0⟩ :: a)) := by
 obtain ⟨pa, na, ca, rfl⟩ := hva.shape
 have k1 := (Keeps.refl w).alloc (.cells #[.int .i64 k, .int .i64 0] 147)
 have h1 := (OwnN.lit1 w ⟨k, 0⟩).nds (by simp)
 have h2 := NdsL.lit2N (N := w.heap.size + 1) (by simp) h1 (hva.keeps k1)
 have k2 := k1.alloc (.cells #[.slice (some ⟨w.heap.size, 0, none⟩) 1 1, .slice pa na ca] 31)
 have hfl : fl [[⟨k, 0⟩], a] [[⟨k, 0⟩], a].length = ⟨k, 0⟩ :: a := by simp [fl]
 have hfl2 : (fl [[⟨k, 0⟩], a] [[(⟨k, 0⟩ : Nd)], a].length).length ≤ 2147483648 := by rw [hfl]; simp; omega
 have hc := concatN_any _ _ _ h2 hfl2
 rw [hfl] at hc
 have HC := hid hc
 clear hfl2 h1 h2 hfl hc
 go_enter Tryz.func196, Tryz.ntmps196
 go_wp2_with (go_at_call 182; go_must (refine HC.out.mono ?_); rintro e w3 ⟨v3, rfl, hv3, k3⟩)
 go_ret
 exact ⟨_, rfl, hv3.mono k2.size, k2.trans k3⟩
end Go.Proofs.YtfmmajgkjkmghaaGreatDoor
namespace Go.Proofs.YtfmmajgkjkmghaaGreatDoor
open Go.RowKit
theorem bit_table : ∀ (m : Fin 64) (i : Fin 7), (bits BinOp.and IntKind.i64 (((m : Nat) : Int) / 2 ^ (i : Nat)) 1 == 1) = (m : Nat).testBit i := by decide +kernel
theorem or_table : ∀ (m : Fin 64) (s : Fin 6), bits BinOp.or IntKind.i64 ((m : Nat) : Int) (2 ^ (s : Nat)) = (((m : Nat) ||| 2 ^ (s : Nat) : Nat) : Int) := by decide +kernel
theorem or_lt : ∀ (m : Fin 64) (s : Fin 6), (m : Nat) ||| 2 ^ (s : Nat) < 64 := by decide +kernel
def vm (a : List Nd) : Nat := a.foldl (fun m n => if n.k = 0 then m ||| 2 ^ n.s.toNat else m) 0
theorem vm_snoc (a : List Nd) (x : Nd) : vm (a ++ [x]) = if x.k = 0 then vm a ||| 2 ^ x.s.toNat else vm a := by simp [vm, List.foldl_append]
theorem vm_take (a : List Nd) (k : Nat) (h : k < a.length) : vm (a.take (k + 1)) = if a[k].k = 0 then vm (a.take k) ||| 2 ^ a[k].s.toNat else vm (a.take k) := by
 rw [List.take_succ_eq_append_getElem h, vm_snoc]
theorem ok_sym {a : List Nd} (h : a.all okNd = true) (k : Nat) (hk : k < a.length) (h0 : a[k].k = 0) : ∃ s : Nat, s < 6 ∧ a[k].s = s := by
 have := List.all_eq_true.1 h a[k] (List.getElem_mem hk)
 simp [okNd, h0] at this
 exact ⟨a[k].s.toNat, by omega, by omega⟩
theorem vm_lt {a : List Nd} (h : a.all okNd = true) : ∀ k, k ≤ a.length → vm (a.take k) < 64 := by
 intro k
 induction k with
 | zero => intro _; simp [vm]
 | succ k ih =>
  intro hk
  have h1 := ih (by omega)
  rw [vm_take a k (by omega)]
  split
  ·rename_i h0
   obtain ⟨s, hs, e⟩ := ok_sym h k (by omega) h0
   rw [e]
   exact or_lt ⟨_, h1⟩ ⟨s, hs⟩
  ·exact h1
def low (m i : Nat) : List Int := ((List.range i).filter (fun j => m.testBit j)).map Int.ofNat
def mem (m : Nat) : List Int := low m 6
theorem low_succ (m i : Nat) : low m (i + 1) = if m.testBit i then low m i ++ [(i : Int)] else low m i := by
 unfold low
 rw [List.range_succ, List.filter_append, List.map_append]
 by_cases h : m.testBit i <;> simp [h]
theorem low_len (m : Nat) : ∀ i, (low m i).length ≤ i := by
 intro i
 unfold low
 rw [List.length_map]
 exact Nat.le_trans (List.length_filter_le _ _) (by simp)
theorem low_end : ∀ (m : Fin 64) (i : Fin 7), (m : Nat) / 2 ^ (i : Nat) = 0 → low m i = mem m := by decide +kernel
theorem div_table : ∀ (m : Fin 64), (m : Nat) / 2 ^ 6 = 0 := by decide +kernel
theorem has_any (m i : Nat) (w : World) (hm : m < 64) (hi : i ≤ 6) : Calls Tryz.prog 106 #[.int .i64 m, .int .i64 i] w fun e w' => e = .returned (.bool (m.testBit i)) ∧ w = w' := by
 go_enter Tryz.func106, Tryz.ntmps106
 go_wp2
 go_ret
 exact ⟨ret_bool (bit_table ⟨m, hm⟩ ⟨i, by omega⟩), rfl⟩
set_option maxRecDepth 20000 in
set_option maxHeartbeats 1000000 in
theorem variableMask_any (a : List Nd) (v : Value) (w : World) (hv : Nds w v a) (ha : a.all okNd = true) : Calls Tryz.prog 129 #[v] w fun e w' => e = .returned (.int .i64 (vm a)) ∧ Keeps w w' := by
 have hv0 := hv
 obtain ⟨p, cap, rfl, hle, hmx, _, hlen⟩ := hv
 unfold maxLen at hmx
 have HA := hid ha; clear ha
 go_enter Tryz.func129, Tryz.ntmps129
 go_wp2
 go_loopw [3, 8] (fun c i' wr => ∃ k : Nat, k ≤ a.length ∧ i' = .int .i64 k ∧ c = .int .i64 (vm (a.take k)) ∧ Keeps w wr) (fun _ i _ => a.length - (intOf i).toNat)
 case atStart => exact ⟨0, by omega, rfl, by simp [vm], Keeps.refl w⟩
 case round =>
  obtain ⟨k, hk, rfl, rfl, kw⟩ := hrel
  by_cases hlt : k < a.length
  ·obtain ⟨_, _, e1, _, _, hata, _⟩ := hv0.keeps kw
   cases e1
   obtain ⟨b1, o1, rfl, h1, h2⟩ := hata.nd k hlt
   clear hata hv0
   have hlt' : (k : Int) < a.length := by omega
   have hvl := vm_lt HA.out k hk
   have hst := vm_take a k hlt
   have hkk := kw.alloc (.cells #[.int .i64 a[k].k, .int .i64 a[k].s] 147)
   by_cases h0 : a[k].k = 0
   ·obtain ⟨s, hs, e⟩ := ok_sym HA.out k hlt h0
    rw [if_pos h0, e] at hst
    have hor := or_table ⟨_, hvl⟩ ⟨s, hs⟩
    have hwp := wrap_pow s (by omega)
    rw [h0] at h1 hkk
    rw [e] at h2 hkk
    have HO := hid hor; clear hor
    have HS := hid hst; clear hst
    clear e h0
    generalize vm (List.take k a) = m at *
    go_wp2
    go_roundw
    case rel => exact ⟨k + 1, by omega, by go_num, by rw [HS.out]; have h := HO.out; simp only [Int.toNat_natCast] at *; rw [h], hkk⟩
    case measure => simp [intOf]; omega
   ·have hb : (a[k].k == 0) = false := by simp [h0]
    rw [if_neg h0] at hst
    have HS := hid hst; clear hst
    clear h0
    go_wp2
    go_roundw
    case rel => exact ⟨k + 1, by omega, by go_num, by rw [HS.out], hkk⟩
    case measure => simp [intOf]; omega
  ·go_wp2
   go_ret
   rw [List.take_of_length_le (by omega)]
   exact ⟨rfl, kw⟩
set_option maxRecDepth 20000 in
set_option maxHeartbeats 1000000 in
theorem membersOf_any (m : Nat) (w : World) (hm : m < 64) : Calls Tryz.prog 130 #[.int .i64 m] w (RetI w (mem m)) := by
 go_enter Tryz.func130, Tryz.ntmps130
 go_wp2
 go_loopw [3, 4] (fun o i' wr => ∃ i : Nat, i ≤ 6 ∧ i' = .int .i64 i ∧ OwnI wr w.heap.size o (low m i) ∧ Keeps w wr) (fun _ i _ => 7 - (intOf i).toNat)
 case atStart => exact ⟨0, by omega, rfl, by simpa [low] using OwnI.nil w w.heap.size, Keeps.refl w⟩
 case round =>
  obtain ⟨i, hi, rfl, hown, kw⟩ := hrel
  have hcast : (m : Int) / 2 ^ i = ((m / 2 ^ i : Nat) : Int) := by push_cast; rfl
  by_cases hp : 0 < m / 2 ^ i
  ·have hi6 : i < 6 := by
    rcases Nat.lt_or_ge i 6 with h | h
    ·exact h
    ·obtain rfl : i = 6 := by omega
     have := div_table ⟨m, hm⟩
     simp only at this; omega
   have hd : decide ((m : Int) / 2 ^ i > 0) = true := by rw [hcast]; simp only [decide_eq_true_eq]; omega
   have hd' : (0 : Int) < (m : Int) / 2 ^ i := by rw [hcast]; omega
   have hls := low_succ m i
   have hll := low_len m i
   have HH := hid (has_any m i wr hm (by omega))
   have HLS := hid hls; clear hls
   clear hcast hp
   cases hb : m.testBit i
   ·rw [hb] at HH HLS
    clear hb
    go_wp2_with fail
    refine HH.out.mono ?_; rintro e w' ⟨rfl, rfl⟩
    go_wp2_with fail
    go_roundw
    case rel => exact ⟨i + 1, by omega, by go_num, by have h := HLS.out; simp only [Bool.false_eq_true, if_false] at h; rw [h]; exact hown, kw⟩
    case measure => simp [intOf]; omega
   ·rw [hb] at HH HLS
    clear hb
    go_wp2_with fail
    refine HH.out.mono ?_; rintro e w' ⟨rfl, rfl⟩
    go_wp2_with (at_builtin; refine appI rfl _ _ rfl w.heap.size _ (low m i) rfl (hown.keeps ((Keeps.refl wr).alloc _)) _ [(i : Int)] rfl (Ints.lit1 wr i) (by have := kw.size; simp; omega) (by simp; omega) ?_; intro v1 w1 hv1 hg1 hr1; have k2 := (kw.alloc (.cells #[.int .i64 i] 2)).grown hg1 (by simpa using hr1))
    go_roundw
    case rel => exact ⟨i + 1, by omega, by go_num, by have h := HLS.out; simp only [if_true] at h; rw [h]; exact hv1, k2⟩
    case measure => simp [intOf]; omega
  ·have hz : m / 2 ^ i = 0 := Nat.eq_zero_of_not_pos hp
   have hd : decide ((m : Int) / 2 ^ i > 0) = false := by rw [hcast, hz]; simp
   have hd' : ¬ (0 : Int) < (m : Int) / 2 ^ i := by rw [hcast, hz]; simp
   have hle := low_end ⟨m, hm⟩ ⟨i, by omega⟩ hz
   simp only at hle
   rw [hle] at hown
   clear hle hz hp hcast
   go_wp2
   go_ret
   exact ⟨_, rfl, hown, kw⟩
end Go.Proofs.YtfmmajgkjkmghaaGreatDoor
namespace Go.Proofs.YtfmmajgkjkmghaaGreatDoor
open Go.RowKit
end Go.Proofs.YtfmmajgkjkmghaaGreatDoor
