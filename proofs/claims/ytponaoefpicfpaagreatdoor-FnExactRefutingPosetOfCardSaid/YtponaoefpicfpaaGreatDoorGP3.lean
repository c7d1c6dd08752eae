/- Walks: the library's Grow and Concat at nodes; the program's joins. -/
import Derived.Test.YtponaoefpicfpaaGreatDoorGW4
import Derived.Lib.AppendZeros
import Derived.Test.YtponaoefpicfpaaGreatDoorGPP
import Derived.Test.YtponaoefpicfpaaGreatDoorGBase
import Derived.Test.YtponaoefpicfpaaGreatDoorGSR
namespace Go.Proofs.YtponaoefpicfpaaGreatDoor
open Go.RowKit

--
theorem zeroCells_size (n : Nat) (z : Array Value) : (Builtin.zeroCells z n).size = n * z.size := by simp [Builtin.zeroCells]
set_option maxRecDepth 20000 in
set_option maxHeartbeats 400000 in
theorem growN_any (n : Nat) (w : World) (hn : n ≤ 2147483648) :
    Calls Tryz.prog 275 #[.slice none 0 0, .int .i64 n] w (RetN w []) := by
  obtain ⟨i0, hi, hz0, hz1, hz2⟩ := info_parts infoN
  by_cases h0 : 0 < n
  · have hrun := Lib.run_append_nil_zeros (P := Tryz.prog) w 42 3 42 86 i0 _ .i64 .i64 Tryz.underlying42 Tryz.underlying3 hi hz0 n h0 (by rw [hz1]; decide) (by omega) (by rw [hz2]; omega)
    have hge := grownCap_ge w n 0 86
    have hle := grownCap_le_maxLen w n 0 86 (by unfold maxLen; omega)
    unfold maxLen at hle
    have hown : OwnN (w.drew.alloc (.cells (Builtin.zeroCells (Value.agg #[.int .i64 0, .int .i64 0]).cells n ++ Builtin.zeroCells (Value.agg #[.int .i64 0, .int .i64 0]).cells (grownCap w n 0 86 - n)) 86)) w.heap.size (.slice (some ⟨w.heap.size, 0, none⟩) 0 (grownCap w n 0 86)) [] := by
      refine World.ownsRow_made w.drew _ _ (Nat.le_refl _) (by unfold maxLen; omega) ?_
      rw [Array.size_append, zeroCells_size, zeroCells_size]
      simp [Value.cells]
      omega
    have hk := ((Keeps.refl w).drew).alloc (.cells (Builtin.zeroCells (Value.agg #[.int .i64 0, .int .i64 0]).cells n ++ Builtin.zeroCells (Value.agg #[.int .i64 0, .int .i64 0]).cells (grownCap w n 0 86 - n)) 86)
    generalize w.drew.alloc (.cells (Builtin.zeroCells (Value.agg #[.int .i64 0, .int .i64 0]).cells n ++ Builtin.zeroCells (Value.agg #[.int .i64 0, .int .i64 0]).cells (grownCap w n 0 86 - n)) 86) = w1 at hrun hown hk
    generalize grownCap w n 0 86 = c1 at *
    have HR := hid hrun; clear hrun
    clear hz0 hz1 hz2 hi
    go_enter Tryz.func275, Tryz.ntmps275
    go_wp2_with (at_builtin; refine Lib.wpList_append_run _ rfl _ _ _ _ rfl _ _ rfl rfl _ _ HR.out ?_)
    go_ret
    exact ⟨_, rfl, hown, hk⟩
  · obtain rfl : n = 0 := by omega
    go_enter Tryz.func275, Tryz.ntmps275
    go_wp2
    go_ret
    exact ⟨_, rfl, OwnN.nil _ _, Keeps.refl _⟩
--
/-- the first k lists in a row -/
def fl {α : Type} (l : List (List α)) (k : Nat) : List α := (l.take k).flatten
theorem fl_succ {α : Type} (l : List (List α)) (k : Nat) (h : k < l.length) : fl l (k + 1) = fl l k ++ l[k] := by
  unfold fl
  rw [List.take_succ_eq_append_getElem h, List.flatten_append]; simp
theorem fl_le {α : Type} (l : List (List α)) (k : Nat) : (fl l k).length ≤ (fl l l.length).length := by
  unfold fl
  rw [List.take_length]
  conv => rhs; rw [← List.take_append_drop k l]
  simp only [List.flatten_append, List.length_append]; omega
theorem fl_zero {α : Type} (l : List (List α)) : fl l 0 = [] := rfl
theorem fl_all {α : Type} (l : List (List α)) : fl l l.length = l.flatten := by unfold fl; rw [List.take_length]
set_option maxHeartbeats 1000000 in
theorem concatN_any (l : List (List Nd)) (v : Value) (w : World) (hv : NdsL w v l) (hl : (fl l l.length).length ≤ 2147483648) :
    Calls Tryz.prog 224 #[v] w (RetN w (fl l l.length)) := by
  have hv0 := hv
  obtain ⟨p, cap, rfl, hle, hmx, hlen, _⟩ := hv
  unfold maxLen at hmx
  go_enter Tryz.func224, Tryz.ntmps224
  go_wp2
  go_loop [3, 11] (fun s i' => ∃ k : Nat, k ≤ l.length ∧ i' = .int .i64 k ∧ s = .int .i64 (fl l k).length) (fun _ i => l.length - (intOf i).toNat)
  case atStart => exact ⟨0, by omega, rfl, rfl⟩
  case round =>
    obtain ⟨k, hk, rfl, rfl⟩ := hrel
    have hf := fl_le l k
    by_cases hlt : k < l.length
    · obtain ⟨b, off, u, rfl, h1, pu, capu, rfl, g1, g2, g3, g4⟩ := hv0.get k hlt
      have hft := fl_succ l k hlt
      have hf2 := fl_le l (k + 1)
      have hlen2 : (fl l (k + 1)).length = (fl l k).length + l[k].length := by rw [hft]; simp
      have hsum : (fl l k).length + l[k].length ≤ 2147483648 := by omega
      have HL := hid hlen2; clear hlen2 hft hf2
      clear hv0
      go_wp2
      go_round
      case rel => exact ⟨k + 1, by omega, by go_num, by rw [HL.out]; go_num⟩
      case measure => simp [intOf]; omega
    · obtain rfl : k = l.length := by omega
      clear hf hk hlt
      go_wp2_with (go_at_call 275; refine (growN_any _ _ hl).mono ?_; rintro e w1 ⟨v1, rfl, hv1, k1⟩)
      go_loopw [6, 27] (fun s i' wr => ∃ k : Nat, k ≤ l.length ∧ i' = .int .i64 k ∧ OwnN wr w.heap.size s (fl l k) ∧ Keeps w wr) (fun _ i _ => l.length - (intOf i).toNat)
      case atStart => exact ⟨0, by omega, rfl, hv1, k1⟩
      case round =>
        obtain ⟨k, hk, rfl, hown, kw⟩ := hrel
        by_cases hlt : k < l.length
        · obtain ⟨b, off, u, rfl, h1, hu⟩ := (hv0.keeps kw).get k hlt
          have hft := fl_succ l k hlt
          have hf2 := fl_le l (k + 1)
          have hsum : (fl l k).length + l[k].length ≤ 2147483648 := by
            have : (fl l (k + 1)).length = (fl l k).length + l[k].length := by rw [hft]; simp
            omega
          have HF := hid hft; clear hft hf2
          clear hv0
          have hsz := kw.size
          go_wp2_with (at_builtin; refine appN rfl _ _ rfl w.heap.size _ _ rfl hown _ _ rfl hu hsz hsum ?_; intro v2 w2 hv2 hg2 hr2; have k2 : Keeps w w2 := kw.grown hg2 hr2)
          go_roundw
          case rel => exact ⟨k + 1, by omega, by go_num, by rw [HF.out]; exact hv2, k2⟩
          case measure => simp [intOf]; omega
        · obtain rfl : k = l.length := by omega
          go_wp2
          go_ret
          exact ⟨_, rfl, hown, kw⟩
end Go.Proofs.YtponaoefpicfpaaGreatDoor
/- Walks: the program's joins, negations and checks of lists. -/
namespace Go.Proofs.YtponaoefpicfpaaGreatDoor
open Go.RowKit

--
theorem falsum_any (w : World) : Calls Tryz.prog 223 #[] w (RetN w Fm.fls.enc) := by
  go_enter Tryz.func223, Tryz.ntmps223
  go_wp2
  go_ret
  exact ⟨_, rfl, OwnN.lit1 w ⟨1, 0⟩, (Keeps.refl w).alloc _⟩
--
set_option maxHeartbeats 400000 in
theorem join_any (k : Int) (a b : List Nd) (va vb : Value) (w : World) (hva : Nds w va a) (hvb : Nds w vb b) (hl : 1 + a.length + b.length ≤ 2147483648) :
    Calls Tryz.prog 146 #[.int .i64 k, va, vb] w (RetN w (⟨k, 0⟩ :: (a ++ b))) := by
  obtain ⟨pa, na, ca, rfl⟩ := hva.shape
  obtain ⟨pb, nb, cb, rfl⟩ := hvb.shape
  have k1 := (Keeps.refl w).alloc (.cells #[.int .i64 k, .int .i64 0] 86)
  have h1 := (OwnN.lit1 w ⟨k, 0⟩).nds (by simp)
  have h2 := NdsL.lit3N (N := w.heap.size + 1) (by simp) h1 (hva.keeps k1) (hvb.keeps k1)
  have k2 := k1.alloc (.cells #[.slice (some ⟨w.heap.size, 0, none⟩) 1 1, .slice pa na ca, .slice pb nb cb] 42)
  have hfl : fl [[⟨k, 0⟩], a, b] [[⟨k, 0⟩], a, b].length = ⟨k, 0⟩ :: (a ++ b) := by simp [fl]
  have hfl2 : (fl [[⟨k, 0⟩], a, b] [[(⟨k, 0⟩ : Nd)], a, b].length).length ≤ 2147483648 := by rw [hfl]; simp; omega
  have hc := concatN_any _ _ _ h2 hfl2
  rw [hfl] at hc
  have HC := hid hc
  clear hfl2 h1 h2 hfl hc
  go_enter Tryz.func146, Tryz.ntmps146
  go_wp2_with (go_at_call 224; go_must (refine HC.out.mono ?_); rintro e w3 ⟨v3, rfl, hv3, k3⟩)
  go_ret
  exact ⟨_, rfl, hv3.mono k2.size, k2.trans k3⟩
--
set_option maxHeartbeats 400000 in
theorem negation_any (t : Fm) (v : Value) (w : World) (hv : Nds w v t.enc) (hl : t.enc.length ≤ 1073741824) :
    Calls Tryz.prog 144 #[v] w (RetN w (Fm.not t).enc) := by
  go_enter Tryz.func144, Tryz.ntmps144
  go_wp2_with (first | (go_at_call 223; refine (falsum_any _).mono ?_; rintro e w1 ⟨v1, rfl, hv1, k1⟩) | (go_at_call 146; refine (join_any _ _ _ _ _ _ (hv.keeps k1) (hv1.nds (by simp [Fm.enc])) (by simp [Fm.enc]; omega)).mono ?_; rintro e w2 ⟨v2, rfl, hv2, k2⟩))
  go_ret
  exact ⟨_, rfl, hv2.mono k1.size, k1.trans k2⟩
--
set_option maxHeartbeats 400000 in
theorem indexFuncL (pr : List Nd → Bool) (f : FuncId) (cp : Array Value) (a : List (List Nd)) (v : Value) (w : World) (hv : NdsL w v a) (hcf : Enters f)
    (hf : ∀ x u w1, x ∈ a → Keeps w w1 → Nds w1 u x → Calls Tryz.prog f (#[u] ++ cp) w1 fun e w2 => e = .returned (.bool (pr x)) ∧ Keeps w1 w2) :
    Calls Tryz.prog 286 #[v, .func (.func f) #[] cp] w fun e w' => e = .returned (.int .i64 (idxOf pr a 0)) ∧ Keeps w w' := by
  have hv0 := hv
  obtain ⟨p, cap, rfl, hle, hmx, hlen, _⟩ := hv
  unfold maxLen at hmx
  have HF := hid hf; clear hf
  have hcf' : ∀ args w, (callFunc f args).run Tryz.prog w = .ok (.enter f args) w := hcf
  clear hcf
  go_enter Tryz.func286, Tryz.ntmps286
  go_wp2
  go_loopw [4, 8] (fun r i' wr => ∃ k : Nat, k ≤ a.length ∧ idxOf pr a 0 = idxOf pr (a.drop k) k ∧ Keeps w wr ∧ i' = .int .i64 k ∧ r = .int .i64 0) (fun _ i _ => a.length - (intOf i).toNat)
  case atStart => exact ⟨0, by omega, by simp, Keeps.refl w, rfl, rfl⟩
  case round =>
    obtain ⟨k, hk, hs, kw, rfl, rfl⟩ := hrel
    have Hs := hid hs; clear hs
    by_cases hlt : k < a.length
    · obtain ⟨b, off, u, rfl, h1, hu⟩ := (hv0.keeps kw).get k hlt
      have hd := hid (idxOf_drop pr a k hlt)
      clear hv0
      cases hp : pr a[k]
      all_goals
        have Hp := hid hp; clear hp
        go_wp2_with ((with_reducible refine (HF.out a[k] u wr (List.getElem_mem hlt) kw hu).mono ?_); rintro e w2 ⟨rfl, k2⟩; rw [Hp.out])
      · go_roundw
        case rel => exact ⟨k + 1, by omega, by rw [Hs.out, hd.out, Hp.out]; rfl, kw.trans k2, by go_num, rfl⟩
        case measure => simp [intOf]; omega
      · go_ret
        exact ⟨ret_int (by rw [Hs.out, hd.out, Hp.out]; rfl), kw.trans k2⟩
    · go_wp2
      go_ret
      exact ⟨ret_int (by rw [Hs.out, idxOf_end _ _ _ (by omega)]), kw⟩
theorem containsFuncL (pr : List Nd → Bool) (f : FuncId) (cp : Array Value) (a : List (List Nd)) (v : Value) (w : World) (hv : NdsL w v a) (hcf : Enters f)
    (hf : ∀ x u w1, x ∈ a → Keeps w w1 → Nds w1 u x → Calls Tryz.prog f (#[u] ++ cp) w1 fun e w2 => e = .returned (.bool (pr x)) ∧ Keeps w1 w2) :
    Calls Tryz.prog 245 #[v, .func (.func f) #[] cp] w fun e w' => e = .returned (.bool (a.any pr)) ∧ Keeps w w' := by
  have H := hid (indexFuncL pr f cp a v w hv hcf hf)
  clear hv hf hcf
  have he := hid (idxOf_any pr a 0)
  go_enter Tryz.func245, Tryz.ntmps245
  go_wp2_with (go_at_call 286; refine H.out.mono ?_; rintro e w2 ⟨rfl, k2⟩)
  go_ret
  exact ⟨ret_bool he.out, k2⟩
--
theorem areFormulas_1_any (x : List Nd) (u : Value) (w : World) (hu : Nds w u x) : Calls Tryz.prog 246 #[u] w fun e w' => e = .returned (.bool (!isFm x)) ∧ Keeps w w' := by
  go_enter Tryz.func246, Tryz.ntmps246
  go_wp2_with (go_at_call 65; refine (isFormula_any x _ _ hu).mono ?_; rintro e w' ⟨rfl, k1⟩)
  go_ret
  exact ⟨rfl, k1⟩
theorem enters_areFormulas_1 : Enters 246 := fun _ _ => by kernel_rfl
def allFm (l : List (List Nd)) : Bool := !(l.any fun x => !isFm x)
theorem areFormulas_any (l : List (List Nd)) (v : Value) (w : World) (hv : NdsL w v l) :
    Calls Tryz.prog 167 #[v] w fun e w' => e = .returned (.bool (allFm l)) ∧ Keeps w w' := by
  go_enter Tryz.func167, Tryz.ntmps167
  go_wp2_with (go_at_call 245; refine (containsFuncL (fun x => !isFm x) _ #[] l _ _ hv enters_areFormulas_1 (fun x u w1 _ _ hu => areFormulas_1_any x u w1 hu)).mono ?_; rintro e w1 ⟨rfl, k1⟩)
  go_ret
  exact ⟨rfl, k1⟩
end Go.Proofs.YtponaoefpicfpaaGreatDoor
/- Walks: formulas with one part on both sides. -/
namespace Go.Proofs.YtponaoefpicfpaaGreatDoor
open Go.RowKit
--
set_option maxRecDepth 20000 in
set_option maxHeartbeats 400000 in
theorem prefix_any (k : Int) (a : List Nd) (va : Value) (w : World) (hva : Nds w va a) (hl : 1 + a.length ≤ 2147483648) :
    Calls Tryz.prog 352 #[.int .i64 k, va] w (RetN w (⟨k, 0⟩ :: a)) := by
  obtain ⟨pa, na, ca, rfl⟩ := hva.shape
  have k1 := (Keeps.refl w).alloc (.cells #[.int .i64 k, .int .i64 0] 86)
  have h1 := (OwnN.lit1 w ⟨k, 0⟩).nds (by simp)
  have h2 := NdsL.lit2N (N := w.heap.size + 1) (by simp) h1 (hva.keeps k1)
  have k2 := k1.alloc (.cells #[.slice (some ⟨w.heap.size, 0, none⟩) 1 1, .slice pa na ca] 42)
  have hfl : fl [[⟨k, 0⟩], a] [[⟨k, 0⟩], a].length = ⟨k, 0⟩ :: a := by simp [fl]
  have hfl2 : (fl [[⟨k, 0⟩], a] [[(⟨k, 0⟩ : Nd)], a].length).length ≤ 2147483648 := by rw [hfl]; simp; omega
  have hc := concatN_any _ _ _ h2 hfl2
  rw [hfl] at hc
  have HC := hid hc
  clear hfl2 h1 h2 hfl hc
  go_enter Tryz.func352, Tryz.ntmps352
  go_wp2_with (go_at_call 224; go_must (refine HC.out.mono ?_); rintro e w3 ⟨v3, rfl, hv3, k3⟩)
  go_ret
  exact ⟨_, rfl, hv3.mono k2.size, k2.trans k3⟩
end Go.Proofs.YtponaoefpicfpaaGreatDoor
/- Walks: masks of variables and their members, on both sides; errors of lists of formulas. -/
namespace Go.Proofs.YtponaoefpicfpaaGreatDoor
open Go.RowKit
theorem bit_table : ∀ (m : Fin 64) (i : Fin 7), (bits BinOp.and IntKind.i64 (((m : Nat) : Int) / 2 ^ (i : Nat)) 1 == 1) = (m : Nat).testBit i := by decide +kernel
theorem or_table : ∀ (m : Fin 64) (s : Fin 6), bits BinOp.or IntKind.i64 ((m : Nat) : Int) (2 ^ (s : Nat)) = (((m : Nat) ||| 2 ^ (s : Nat) : Nat) : Int) := by decide +kernel
theorem or_lt : ∀ (m : Fin 64) (s : Fin 6), (m : Nat) ||| 2 ^ (s : Nat) < 64 := by decide +kernel
/-- the mask of the variables of a list of nodes -/
def vm (a : List Nd) : Nat := a.foldl (fun m n => if n.k = 0 then m ||| 2 ^ n.s.toNat else m) 0
theorem vm_snoc (a : List Nd) (x : Nd) : vm (a ++ [x]) = if x.k = 0 then vm a ||| 2 ^ x.s.toNat else vm a := by simp [vm, List.foldl_append]
theorem vm_take (a : List Nd) (k : Nat) (h : k < a.length) : vm (a.take (k + 1)) = if a[k].k = 0 then vm (a.take k) ||| 2 ^ a[k].s.toNat else vm (a.take k) := by
  rw [List.take_succ_eq_append_getElem h, vm_snoc]
theorem ok_sym {a : List Nd} (h : a.all okNd = true) (k : Nat) (hk : k < a.length) (h0 : a[k].k = 0) : ∃ s : Nat, s < 6 ∧ a[k].s = s := by
  have := List.all_eq_true.1 h a[k] (List.getElem_mem hk)
  simp [okNd, h0] at this
  exact ⟨a[k].s.toNat, by omega, by omega⟩
theorem vm_lt {a : List Nd} (h : a.all okNd = true) : ∀ k, k ≤ a.length → vm (a.take k) < 64 := by
  intro k
  induction k with
  | zero => intro _; simp [vm]
  | succ k ih =>
    intro hk
    have h1 := ih (by omega)
    rw [vm_take a k (by omega)]
    split
    · rename_i h0
      obtain ⟨s, hs, e⟩ := ok_sym h k (by omega) h0
      rw [e]
      exact or_lt ⟨_, h1⟩ ⟨s, hs⟩
    · exact h1
/-- the members of a mask below a bound -/
def low (m i : Nat) : List Int := ((List.range i).filter (fun j => m.testBit j)).map Int.ofNat
def mem (m : Nat) : List Int := low m 6
theorem low_succ (m i : Nat) : low m (i + 1) = if m.testBit i then low m i ++ [(i : Int)] else low m i := by
  unfold low
  rw [List.range_succ, List.filter_append, List.map_append]
  by_cases h : m.testBit i <;> simp [h]
theorem low_len (m : Nat) : ∀ i, (low m i).length ≤ i := by
  intro i
  unfold low
  rw [List.length_map]
  exact Nat.le_trans (List.length_filter_le _ _) (by simp)
theorem low_end : ∀ (m : Fin 64) (i : Fin 7), (m : Nat) / 2 ^ (i : Nat) = 0 → low m i = mem m := by decide +kernel
theorem mem_range (m : Nat) : ∀ x ∈ mem m, ∃ k : Nat, k < 6 ∧ x = k := by
  intro x hx
  simp [mem, low] at hx
  obtain ⟨k, ⟨h1, _⟩, rfl⟩ := hx
  exact ⟨k, h1, rfl⟩
theorem wrap_table : ∀ (q : Fin 64), wrap64 (((q : Nat) / 2 : Nat) : Int) = (((q : Nat) / 2 : Nat) : Int) := by decide +kernel
theorem div_table : ∀ (m : Fin 64), (m : Nat) / 2 ^ 6 = 0 := by decide +kernel
theorem mod_table : ∀ (m : Fin 64) (i : Fin 7), ((m : Nat) / 2 ^ (i : Nat)) % 2 = 1 ↔ (m : Nat).testBit i = true := by decide +kernel
--
theorem has_any (m i : Nat) (w : World) (hm : m < 64) (hi : i ≤ 6) : Calls Tryz.prog 210 #[.int .i64 m, .int .i64 i] w fun e w' => e = .returned (.bool (m.testBit i)) ∧ w = w' := by
  go_enter Tryz.func210, Tryz.ntmps210
  go_wp2
  go_ret
  exact ⟨ret_bool (bit_table ⟨m, hm⟩ ⟨i, by omega⟩), rfl⟩
--
theorem l01Bit_any (m i : Nat) (w : World) (hm : m < 64) (hi : i ≤ 6) : Calls Tryz.prog 105 #[.int .i64 m, .int .i64 i] w fun e w' => e = .returned (.bool (m.testBit i)) ∧ w = w' := by
  go_enter Tryz.func105, Tryz.ntmps105
  go_wp2
  go_ret
  exact ⟨ret_bool (bit_table ⟨m, hm⟩ ⟨i, by omega⟩), rfl⟩
--
set_option maxRecDepth 20000 in
set_option maxHeartbeats 1000000 in
theorem variableMask_any (a : List Nd) (v : Value) (w : World) (hv : Nds w v a) (ha : a.all okNd = true) : Calls Tryz.prog 140 #[v] w fun e w' => e = .returned (.int .i64 (vm a)) ∧ Keeps w w' := by
  have hv0 := hv
  obtain ⟨p, cap, rfl, hle, hmx, _, hlen⟩ := hv
  unfold maxLen at hmx
  have HA := hid ha; clear ha
  go_enter Tryz.func140, Tryz.ntmps140
  go_wp2
  go_loopw [3, 8] (fun c i' wr => ∃ k : Nat, k ≤ a.length ∧ i' = .int .i64 k ∧ c = .int .i64 (vm (a.take k)) ∧ Keeps w wr) (fun _ i _ => a.length - (intOf i).toNat)
  case atStart => exact ⟨0, by omega, rfl, by simp [vm], Keeps.refl w⟩
  case round =>
    obtain ⟨k, hk, rfl, rfl, kw⟩ := hrel
    by_cases hlt : k < a.length
    · obtain ⟨_, _, e1, _, _, hata, _⟩ := hv0.keeps kw
      cases e1
      obtain ⟨b1, o1, rfl, h1, h2⟩ := hata.nd k hlt
      clear hata hv0
      have hlt' : (k : Int) < a.length := by omega
      have hvl := vm_lt HA.out k hk
      have hst := vm_take a k hlt
      have hkk := kw.alloc (.cells #[.int .i64 a[k].k, .int .i64 a[k].s] 86)
      by_cases h0 : a[k].k = 0
      · obtain ⟨s, hs, e⟩ := ok_sym HA.out k hlt h0
        rw [if_pos h0, e] at hst
        have hor := or_table ⟨_, hvl⟩ ⟨s, hs⟩
        have hwp := wrap_pow s (by omega)
        rw [h0] at h1 hkk
        rw [e] at h2 hkk
        have HO := hid hor; clear hor
        have HS := hid hst; clear hst
        clear e h0
        generalize vm (List.take k a) = m at *
        go_wp2
        go_roundw
        case rel => exact ⟨k + 1, by omega, by go_num, by rw [HS.out]; have h := HO.out; simp only [Int.toNat_natCast] at *; rw [h], hkk⟩
        case measure => simp [intOf]; omega
      · have hb : (a[k].k == 0) = false := by simp [h0]
        rw [if_neg h0] at hst
        have HS := hid hst; clear hst
        clear h0
        go_wp2
        go_roundw
        case rel => exact ⟨k + 1, by omega, by go_num, by rw [HS.out], hkk⟩
        case measure => simp [intOf]; omega
    · go_wp2
      go_ret
      rw [List.take_of_length_le (by omega)]
      exact ⟨rfl, kw⟩
--
set_option maxRecDepth 20000 in
set_option maxHeartbeats 1000000 in
theorem l01List_any (m : Nat) (w : World) (hm : m < 64) : Calls Tryz.prog 123 #[.int .i64 m] w (RetI w (mem m)) := by
  have h0 := OwnI.empty w
  have k0 := (Keeps.refl w).alloc (.cells #[] 2)
  go_enter Tryz.func123, Tryz.ntmps123
  go_wp2
  go_loopw [0, 3, 4] (fun x o i' wr => ∃ i : Nat, i ≤ 6 ∧ x = .int .i64 ((m / 2 ^ i : Nat) : Int) ∧ i' = .int .i64 i ∧ OwnI wr w.heap.size o (low m i) ∧ Keeps w wr) (fun x _ _ _ => (intOf x).toNat)
  case atStart => exact ⟨0, by omega, by simp, rfl, by simpa [low] using h0, k0⟩
  case round =>
    obtain ⟨i, hi, rfl, rfl, hown, kw⟩ := hrel
    clear h0 k0
    generalize hq : m / 2 ^ i = q at *
    by_cases hp : 0 < q
    · have hi6 : i < 6 := by
        rcases Nat.lt_or_ge i 6 with h | h
        · exact h
        · obtain rfl : i = 6 := by omega
          have := div_table ⟨m, hm⟩
          simp at this hq; omega
      have hq2 : m / 2 ^ (i + 1) = q / 2 := by rw [← hq, Nat.pow_succ, Nat.div_div_eq_div_mul]
      have hmt := mod_table ⟨m, hm⟩ ⟨i, by omega⟩
      simp only [hq] at hmt
      have hls := low_succ m i
      have hll := low_len m i
      have hq64 : q < 64 := by rw [← hq]; exact Nat.lt_of_le_of_lt (Nat.div_le_self _ _) hm
      have hwq : wrap64 ((q : Int) / 2) = ((q / 2 : Nat) : Int) := by have := wrap_table ⟨q, hq64⟩; simp only at this; rw [← this]; congr 1
      have HQ2 := hid hq2; clear hq2
      have HLS := hid hls; clear hls
      have HQ := hid hq; clear hq
      by_cases hb : m.testBit i = true
      · have hb1 : ((q : Int) % 2 == 1) = true := by have := hmt.2 hb; simp; omega
        rw [if_pos hb] at HLS
        clear hmt hb
        go_wp2_with (at_builtin; refine appI rfl _ _ rfl w.heap.size _ (low m i) rfl (hown.keeps ((Keeps.refl wr).alloc _)) _ [(i : Int)] rfl (Ints.lit1 wr i) (by have := kw.size; simp; omega) (by simp; omega) ?_; intro v1 w1 hv1 hg1 hr1; have k2 := (kw.alloc (.cells #[.int .i64 i] 2)).grown hg1 (by simpa using hr1))
        go_roundw
        case rel => exact ⟨i + 1, by omega, by rw [HQ2.out, Int.natCast_ediv]; rfl, by go_num, by rw [HLS.out]; exact hv1, k2⟩
        case measure => first | (simp [intOf]; omega) | (simp [intOf, hwq]; omega)
      · have hb1 : ((q : Int) % 2 == 1) = false := by have := mt hmt.1 hb; simp; omega
        rw [if_neg hb] at HLS
        clear hmt hb
        go_wp2
        go_roundw
        case rel => exact ⟨i + 1, by omega, by rw [HQ2.out, Int.natCast_ediv]; rfl, by go_num, by rw [HLS.out]; exact hown, kw⟩
        case measure => first | (simp [intOf]; omega) | (simp [intOf, hwq]; omega)
    · obtain rfl : q = 0 := by omega
      have hle := low_end ⟨m, hm⟩ ⟨i, by omega⟩ hq
      simp only at hle
      rw [hle] at hown
      clear hle hq
      go_wp2
      go_ret
      exact ⟨_, rfl, hown, kw⟩
--
set_option maxRecDepth 20000 in
set_option maxHeartbeats 1000000 in
theorem membersOf_any (m : Nat) (w : World) (hm : m < 64) : Calls Tryz.prog 141 #[.int .i64 m] w (RetI w (mem m)) := by
  go_enter Tryz.func141, Tryz.ntmps141
  go_wp2
  go_loopw [3, 4] (fun o i' wr => ∃ i : Nat, i ≤ 6 ∧ i' = .int .i64 i ∧ OwnI wr w.heap.size o (low m i) ∧ Keeps w wr) (fun _ i _ => 7 - (intOf i).toNat)
  case atStart => exact ⟨0, by omega, rfl, by simpa [low] using OwnI.nil w w.heap.size, Keeps.refl w⟩
  case round =>
    obtain ⟨i, hi, rfl, hown, kw⟩ := hrel
    have hcast : (m : Int) / 2 ^ i = ((m / 2 ^ i : Nat) : Int) := by push_cast; rfl
    by_cases hp : 0 < m / 2 ^ i
    · have hi6 : i < 6 := by
        rcases Nat.lt_or_ge i 6 with h | h
        · exact h
        · obtain rfl : i = 6 := by omega
          have := div_table ⟨m, hm⟩
          simp only at this; omega
      have hd : decide ((m : Int) / 2 ^ i > 0) = true := by rw [hcast]; simp only [decide_eq_true_eq]; omega
      have hd' : (0 : Int) < (m : Int) / 2 ^ i := by rw [hcast]; omega
      have hls := low_succ m i
      have hll := low_len m i
      have HH := hid (has_any m i wr hm (by omega))
      have HLS := hid hls; clear hls
      clear hcast hp
      cases hb : m.testBit i
      · rw [hb] at HH HLS
        clear hb
        go_wp2_with fail
        refine HH.out.mono ?_; rintro e w' ⟨rfl, rfl⟩
        go_wp2_with fail
        go_roundw
        case rel => exact ⟨i + 1, by omega, by go_num, by have h := HLS.out; simp only [Bool.false_eq_true, if_false] at h; rw [h]; exact hown, kw⟩
        case measure => simp [intOf]; omega
      · rw [hb] at HH HLS
        clear hb
        go_wp2_with fail
        refine HH.out.mono ?_; rintro e w' ⟨rfl, rfl⟩
        go_wp2_with (at_builtin; refine appI rfl _ _ rfl w.heap.size _ (low m i) rfl (hown.keeps ((Keeps.refl wr).alloc _)) _ [(i : Int)] rfl (Ints.lit1 wr i) (by have := kw.size; simp; omega) (by simp; omega) ?_; intro v1 w1 hv1 hg1 hr1; have k2 := (kw.alloc (.cells #[.int .i64 i] 2)).grown hg1 (by simpa using hr1))
        go_roundw
        case rel => exact ⟨i + 1, by omega, by go_num, by have h := HLS.out; simp only [if_true] at h; rw [h]; exact hv1, k2⟩
        case measure => simp [intOf]; omega
    · have hz : m / 2 ^ i = 0 := Nat.eq_zero_of_not_pos hp
      have hd : decide ((m : Int) / 2 ^ i > 0) = false := by rw [hcast, hz]; simp
      have hd' : ¬ (0 : Int) < (m : Int) / 2 ^ i := by rw [hcast, hz]; simp
      have hle := low_end ⟨m, hm⟩ ⟨i, by omega⟩ hz
      simp only at hle
      rw [hle] at hown
      clear hle hz hp hcast
      go_wp2
      go_ret
      exact ⟨_, rfl, hown, kw⟩
end Go.Proofs.YtponaoefpicfpaaGreatDoor
/- Walks: the variables of formulas; errors and limits of lists of formulas, on both sides. -/
namespace Go.Proofs.YtponaoefpicfpaaGreatDoor
open Go.RowKit
--
set_option maxRecDepth 20000 in
set_option maxHeartbeats 1000000 in
theorem l02Variables_any (a : List Nd) (v : Value) (w : World) (hv : Nds w v a) (ha : a.all okNd = true) : Calls Tryz.prog 55 #[v] w (RetI w (mem (vm a))) := by
  have hv0 := hv
  obtain ⟨p, cap, rfl, hle, hmx, hata, hlen⟩ := hv
  unfold maxLen at hmx
  have HA := hid ha; clear ha
  go_enter Tryz.func55, Tryz.ntmps55
  go_wp2
  go_loop [3, 4] (fun c i' => ∃ k : Nat, k ≤ a.length ∧ i' = .int .i64 k ∧ c = .int .i64 (vm (a.take k))) (fun _ i => a.length - (intOf i).toNat)
  case atStart => exact ⟨0, by omega, rfl, by simp [vm]⟩
  case round =>
    obtain ⟨k, hk, rfl, rfl⟩ := hrel
    by_cases hlt : k < a.length
    · obtain ⟨b1, o1, rfl, h1, h2⟩ := hata.nd k hlt
      clear hata hv0
      have hlt' : (k : Int) < a.length := by omega
      have hvl := vm_lt HA.out k hk
      have hst := vm_take a k hlt
      by_cases h0 : a[k].k = 0
      · obtain ⟨s, hs, e⟩ := ok_sym HA.out k hlt h0
        rw [if_pos h0, e] at hst
        have hor := or_table ⟨_, hvl⟩ ⟨s, hs⟩
        rw [h0] at h1
        rw [e] at h2
        have HO := hid hor; clear hor
        have HS := hid hst; clear hst
        have H1 := hid (l01One_any (s : Int) w (by omega) (by omega))
        clear e h0
        generalize vm (List.take k a) = m at *
        go_wp2_with fail
        refine H1.out.mono ?_; rintro e w' ⟨rfl, rfl⟩
        simp only [Int.toNat_natCast]
        go_wp2_with fail
        go_round
        case rel => exact ⟨k + 1, by omega, by go_num, by rw [HS.out]; have h := HO.out; simp only [Int.toNat_natCast] at *; rw [h]⟩
        case measure => simp [intOf]; omega
      · have hb : (a[k].k == 0) = false := by simp [h0]
        rw [if_neg h0] at hst
        have HS := hid hst; clear hst
        clear h0
        go_wp2
        go_round
        case rel => exact ⟨k + 1, by omega, by go_num, by rw [HS.out]⟩
        case measure => simp [intOf]; omega
    · have hm64 := vm_lt HA.out k hk
      rw [List.take_of_length_le (by omega)] at *
      have HL := hid (l01List_any (vm a) w hm64)
      generalize vm a = m at *
      clear hata hv0
      go_wp2_with fail
      refine HL.out.mono ?_; rintro e w2 ⟨v2, rfl, hv2, k2⟩
      go_wp2_with fail
      go_ret
      exact ⟨_, rfl, hv2, k2⟩
--
set_option maxRecDepth 20000 in
set_option maxHeartbeats 1000000 in
theorem variablesIn_one (a : List Nd) (v : Value) (w : World) (hv : NdsL w v [a]) (ha : a.all okNd = true) : Calls Tryz.prog 67 #[v] w (RetI w (mem (vm a))) := by
  have hv0 := hv
  obtain ⟨p, cap, rfl, hle, hmx, hlen, _⟩ := hv
  simp only [List.length_cons, List.length_nil, Nat.zero_add] at *
  unfold maxLen at hmx
  obtain ⟨b, off, u, rfl, hc, hu⟩ := hv0.get 0 (by simp)
  simp only [List.getElem_cons_zero] at hu
  rw [Nat.add_zero] at hc
  have hm64 := vm_lt ha a.length (Nat.le_refl _)
  rw [List.take_length] at hm64
  have HV := hid (variableMask_any a u w hu ha)
  have HM := hid (fun w2 => membersOf_any (vm a) w2 hm64)
  have hor : bits BinOp.or IntKind.i64 0 ((vm a : Nat) : Int) = ((vm a : Nat) : Int) := by
    have : ∀ m : Fin 64, bits BinOp.or IntKind.i64 0 ((m : Nat) : Int) = ((m : Nat) : Int) := by decide +kernel
    exact this ⟨_, hm64⟩
  generalize vm a = m at *
  clear hv0 hu ha
  go_enter Tryz.func67, Tryz.ntmps67
  go_wp2
  go_loopw [3, 8] (fun c i' wr => (i' = .int .i64 0 ∧ c = .int .i64 0 ∧ wr = w) ∨ (i' = .int .i64 1 ∧ c = .int .i64 m ∧ Keeps w wr)) (fun _ i _ => 1 - (intOf i).toNat)
  case atStart => exact .inl ⟨rfl, rfl, rfl⟩
  case round =>
    rcases hrel with ⟨rfl, rfl, rfl⟩ | ⟨rfl, rfl, kw⟩
    · go_wp2_with fail
      refine HV.out.mono ?_; rintro e w2 ⟨rfl, k2⟩
      go_wp2_with fail
      go_roundw
      case rel => exact .inr ⟨by first | rfl | go_num, by first | rw [hor] | rfl, k2⟩
      case measure => simp [intOf]
    · go_wp2_with fail
      refine (HM.out _).mono ?_; rintro e w2 ⟨v2, rfl, hv2, k2⟩
      go_wp2_with fail
      go_ret
      exact ⟨_, rfl, hv2.mono kw.size, kw.trans k2⟩
--
theorem isMask6_any (x : Int) (w : World) : Calls Tryz.prog 197 #[.int .i64 6, .int .i64 x] w fun e w' => e = .returned (.bool (inR x 0 63)) ∧ w = w' := by
  have h1 := inRange_any 6 0 30 w
  have h2 := inRange_any x 0 63 w
  rw [show inR 6 0 30 = true from by decide] at h1
  have H1 := hid h1; clear h1
  have H2 := hid h2; clear h2
  go_enter Tryz.func197, Tryz.ntmps197
  go_wp2_with fail
  refine H1.out.mono ?_; rintro e w' ⟨rfl, rfl⟩
  go_wp2_with fail
  refine H2.out.mono ?_; rintro e w' ⟨rfl, rfl⟩
  go_wp2_with fail
  go_ret
  exact ⟨rfl, rfl⟩
end Go.Proofs.YtponaoefpicfpaaGreatDoor
/- Plain law: the text of a formula at each level of the grammar, and how a reader's contracts for all levels follow from those for its parts. -/
namespace Go.Proofs.YtponaoefpicfpaaGreatDoor
open Fm
namespace Fm
/-- the level of the grammar at which the text of a formula stands -/
def lev : Fm → Nat
  | .imp _ b => if b.isFls then 3 else 0
  | .or _ _ => 1
  | .and _ _ => 2
  | _ => 3
/-- a text in parentheses, if they are needed -/
def par (b : Bool) (s : List UInt8) : List UInt8 := if b then 40 :: (s ++ [41]) else s
/-- the text of a formula without parentheses of its own -/
def body : Fm → List UInt8
  | .var v => [UInt8.ofNat (112 + v)]
  | .fls => [70]
  | .and a b => par (decide (a.lev < 2)) a.body ++ 38 :: par (decide (b.lev < 3)) b.body
  | .or a b => par (decide (a.lev < 1)) a.body ++ 124 :: par (decide (b.lev < 2)) b.body
  | .imp a b => if b.isFls then (if a.isFls then [84] else 126 :: par (decide (a.lev < 3)) a.body) else par (decide (a.lev < 1)) a.body ++ 62 :: b.body
  | .box a => 91 :: 93 :: par (decide (a.lev < 3)) a.body
  | .dia a => 60 :: 62 :: par (decide (a.lev < 3)) a.body
/-- the text of a formula at a level -/
def txt (t : Fm) (l : Nat) : List UInt8 := par (decide (t.lev < l)) t.body
theorem txt0 (t : Fm) : t.txt 0 = t.body := by simp [txt, par]
theorem lev_le (t : Fm) : t.lev ≤ 3 := by
  cases t <;> simp only [lev] <;> (try split) <;> omega
theorem txt_eq (t : Fm) (l m : Nat) (h : t.lev < l ↔ t.lev < m) : t.txt l = t.txt m := by
  unfold txt; rw [show decide (t.lev < l) = decide (t.lev < m) from decide_eq_decide.2 h]
def andHead : Fm → Fm
  | .and a _ => a.andHead
  | t => t
def andTail : Fm → List Fm
  | .and a b => a.andTail ++ [b]
  | _ => []
def orHead : Fm → Fm
  | .or a _ => a.orHead
  | t => t
def orTail : Fm → List Fm
  | .or a b => a.orTail ++ [b]
  | _ => []
/-- texts behind a byte each -/
def behind (c : UInt8) (l : Nat) : List Fm → List UInt8
  | [] => []
  | x :: xs => c :: (x.txt l ++ behind c l xs)
theorem behind_append (c : UInt8) (l : Nat) (xs ys : List Fm) : behind c l (xs ++ ys) = behind c l xs ++ behind c l ys := by
  induction xs with
  | nil => rfl
  | cons x xs ih => simp [behind, ih]
theorem and_fold (t : Fm) : t.andTail.foldl Fm.and t.andHead = t := by
  induction t with
  | and a b iha _ => simp [andTail, andHead, List.foldl_append, iha]
  | _ => rfl
theorem or_fold (t : Fm) : t.orTail.foldl Fm.or t.orHead = t := by
  induction t with
  | or a b iha _ => simp [orTail, orHead, List.foldl_append, iha]
  | _ => rfl
theorem and_txt (t : Fm) : t.txt 2 = t.andHead.txt 3 ++ behind 38 3 t.andTail := by
  induction t with
  | and a b iha _ =>
    have h : (Fm.and a b).txt 2 = a.txt 2 ++ 38 :: b.txt 3 := by simp [txt, body, par, lev]
    rw [h, iha]
    simp [andTail, andHead, behind_append, behind]
  | var v => simp [andTail, andHead, behind]; exact txt_eq _ _ _ (by simp [lev])
  | fls => simp [andTail, andHead, behind]; exact txt_eq _ _ _ (by simp [lev])
  | or a b _ _ => simp [andTail, andHead, behind]; exact txt_eq _ _ _ (by simp [lev])
  | imp a b _ _ => simp [andTail, andHead, behind]; exact txt_eq _ _ _ (by simp only [lev]; split <;> omega)
  | box a _ => simp [andTail, andHead, behind]; exact txt_eq _ _ _ (by simp [lev])
  | dia a _ => simp [andTail, andHead, behind]; exact txt_eq _ _ _ (by simp [lev])
theorem or_txt (t : Fm) : t.txt 1 = t.orHead.txt 2 ++ behind 124 2 t.orTail := by
  induction t with
  | or a b iha _ =>
    have h : (Fm.or a b).txt 1 = a.txt 1 ++ 124 :: b.txt 2 := by simp [txt, body, par, lev]
    rw [h, iha]
    simp [orTail, orHead, behind_append, behind]
  | var v => simp [orTail, orHead, behind]; exact txt_eq _ _ _ (by simp [lev])
  | fls => simp [orTail, orHead, behind]; exact txt_eq _ _ _ (by simp [lev])
  | and a b _ _ => simp [orTail, orHead, behind]; exact txt_eq _ _ _ (by simp [lev])
  | imp a b _ _ => simp [orTail, orHead, behind]; exact txt_eq _ _ _ (by simp only [lev]; split <;> omega)
  | box a _ => simp [orTail, orHead, behind]; exact txt_eq _ _ _ (by simp [lev])
  | dia a _ => simp [orTail, orHead, behind]; exact txt_eq _ _ _ (by simp [lev])
theorem and_parts (t : Fm) : (t.lev = 2 → ∀ x ∈ t.andHead :: t.andTail, x.enc.length < t.enc.length) ∧ (∀ x ∈ t.andHead :: t.andTail, x.enc.length ≤ t.enc.length) := by
  induction t with
  | and a b iha _ =>
    have h : ∀ x ∈ (Fm.and a b).andHead :: (Fm.and a b).andTail, x.enc.length < (Fm.and a b).enc.length := by
      intro x hx
      simp only [andHead, andTail, List.mem_cons, List.mem_append] at hx
      have := iha.2
      simp only [enc, List.length_cons, List.length_append]
      rcases hx with rfl | hx | rfl | hx
      · have := this _ (List.mem_cons_self ..); omega
      · have := this _ (List.mem_cons_of_mem _ hx); omega
      · omega
      · cases hx
    exact ⟨fun _ => h, fun x hx => Nat.le_of_lt (h x hx)⟩
  | imp a b _ _ => exact ⟨fun h => by simp only [lev] at h; split at h <;> omega, fun x hx => by simp [andHead, andTail] at hx; subst hx; exact Nat.le_refl _⟩
  | _ => exact ⟨fun h => by simp [lev] at h, fun x hx => by simp [andHead, andTail] at hx; subst hx; exact Nat.le_refl _⟩
theorem or_parts (t : Fm) : (t.lev = 1 → ∀ x ∈ t.orHead :: t.orTail, x.enc.length < t.enc.length) ∧ (∀ x ∈ t.orHead :: t.orTail, x.enc.length ≤ t.enc.length) := by
  induction t with
  | or a b iha _ =>
    have h : ∀ x ∈ (Fm.or a b).orHead :: (Fm.or a b).orTail, x.enc.length < (Fm.or a b).enc.length := by
      intro x hx
      simp only [orHead, orTail, List.mem_cons, List.mem_append] at hx
      have := iha.2
      simp only [enc, List.length_cons, List.length_append]
      rcases hx with rfl | hx | rfl | hx
      · have := this _ (List.mem_cons_self ..); omega
      · have := this _ (List.mem_cons_of_mem _ hx); omega
      · omega
      · cases hx
    exact ⟨fun _ => h, fun x hx => Nat.le_of_lt (h x hx)⟩
  | imp a b _ _ => exact ⟨fun h => by simp only [lev] at h; split at h <;> omega, fun x hx => by simp [orHead, orTail] at hx; subst hx; exact Nat.le_refl _⟩
  | _ => exact ⟨fun h => by simp [lev] at h, fun x hx => by simp [orHead, orTail] at hx; subst hx; exact Nat.le_refl _⟩
theorem and_wf (t : Fm) (h : t.wf) : ∀ x ∈ t.andHead :: t.andTail, x.wf := by
  induction t with
  | and a b iha _ =>
    intro x hx
    simp only [andHead, andTail, List.mem_cons, List.mem_append] at hx
    have := iha h.1
    rcases hx with rfl | hx | rfl | hx
    · exact this _ (List.mem_cons_self ..)
    · exact this _ (List.mem_cons_of_mem _ hx)
    · exact h.2
    · cases hx
  | _ => intro x hx; simp [andHead, andTail] at hx; subst hx; exact h
theorem or_wf (t : Fm) (h : t.wf) : ∀ x ∈ t.orHead :: t.orTail, x.wf := by
  induction t with
  | or a b iha _ =>
    intro x hx
    simp only [orHead, orTail, List.mem_cons, List.mem_append] at hx
    have := iha h.1
    rcases hx with rfl | hx | rfl | hx
    · exact this _ (List.mem_cons_self ..)
    · exact this _ (List.mem_cons_of_mem _ hx)
    · exact h.2
    · cases hx
  | _ => intro x hx; simp [orHead, orTail] at hx; subst hx; exact h
end Fm
/-- what a reader's contract says of a formula at a level, for a list of bytes: `R level t bytes` -/
theorem reads_all (R : Nat → Fm → List UInt8 → Prop)
    (h3 : ∀ t : Fm, t.wf → t.lev = 3 → (∀ x : Fm, x.wf → x.enc.length < t.enc.length → R 3 x (x.txt 3)) → R 3 t t.body)
    (hp : ∀ t : Fm, R 0 t t.body → R 3 t (40 :: (t.body ++ [41])))
    (h2 : ∀ x0 xs, R 3 x0 (x0.txt 3) → (∀ x ∈ xs, R 3 x (x.txt 3)) → R 2 (xs.foldl Fm.and x0) (x0.txt 3 ++ behind 38 3 xs))
    (h1 : ∀ x0 xs, R 2 x0 (x0.txt 2) → (∀ x ∈ xs, R 2 x (x.txt 2)) → R 1 (xs.foldl Fm.or x0) (x0.txt 2 ++ behind 124 2 xs))
    (h0 : ∀ t X, R 1 t X → R 0 t X)
    (hi : ∀ a b, R 1 a (a.txt 1) → R 0 b b.body → R 0 (Fm.imp a b) (a.txt 1 ++ 62 :: b.body)) :
    ∀ (n : Nat) (t : Fm), t.enc.length ≤ n → t.wf → R 0 t (t.txt 0) ∧ R 1 t (t.txt 1) ∧ R 2 t (t.txt 2) ∧ R 3 t (t.txt 3) := by
  intro n
  induction n with
  | zero => intro t h; have := t.enc_pos; omega
  | succ n ih =>
    intro t hn hw
    have sm : ∀ x : Fm, x.wf → x.enc.length < t.enc.length → R 0 x (x.txt 0) ∧ R 1 x (x.txt 1) ∧ R 2 x (x.txt 2) ∧ R 3 x (x.txt 3) := fun x hx hl => ih x (by omega) hx
    have s2 : (∀ x ∈ t.andHead :: t.andTail, R 3 x (x.txt 3)) → R 2 t (t.txt 2) := fun h => by
      have := h2 t.andHead t.andTail (h _ (List.mem_cons_self ..)) (fun x hx => h x (List.mem_cons_of_mem _ hx))
      rwa [and_fold, ← and_txt] at this
    have s1 : (∀ x ∈ t.orHead :: t.orTail, R 2 x (x.txt 2)) → R 1 t (t.txt 1) := fun h => by
      have := h1 t.orHead t.orTail (h _ (List.mem_cons_self ..)) (fun x hx => h x (List.mem_cons_of_mem _ hx))
      rwa [or_fold, ← or_txt] at this
    have hle := t.lev_le
    have up2 : t.lev ≠ 2 → R 3 t (t.txt 3) → R 2 t (t.txt 2) := fun hl h => by
      apply s2
      intro x hx
      have hx' : x = t := by
        cases t with
        | and a b => exact absurd rfl hl
        | _ => simp [andHead, andTail] at hx; exact hx
      subst hx'; exact h
    have up1 : t.lev ≠ 1 → R 2 t (t.txt 2) → R 1 t (t.txt 1) := fun hl h => by
      apply s1
      intro x hx
      have hx' : x = t := by
        cases t with
        | or a b => exact absurd rfl hl
        | _ => simp [orHead, orTail] at hx; exact hx
      subst hx'; exact h
    have up0 : t.lev ≠ 0 → R 1 t (t.txt 1) → R 0 t (t.txt 0) := fun hl h => by
      rw [txt_eq t 0 1 (by omega)]
      exact h0 _ _ h
    have dn : t.lev < 3 → R 0 t (t.txt 0) → R 3 t (t.txt 3) := fun hl h => by
      rw [txt0] at h
      have := hp t h
      unfold txt par
      rw [decide_eq_true hl]
      simpa using this
    by_cases e3 : t.lev = 3
    · have r3 : R 3 t (t.txt 3) := by
        have := h3 t hw e3 (fun x hx hl => (sm x hx hl).2.2.2)
        unfold txt par
        rw [decide_eq_false (by omega)]
        simpa using this
      have r2 := up2 (by omega) r3
      have r1 := up1 (by omega) r2
      exact ⟨up0 (by omega) r1, r1, r2, r3⟩
    by_cases e2 : t.lev = 2
    · have r2 := s2 (fun x hx => (sm x (t.and_wf hw x hx) (t.and_parts.1 e2 x hx)).2.2.2)
      have r1 := up1 (by omega) r2
      have r0 := up0 (by omega) r1
      exact ⟨r0, r1, r2, dn (by omega) r0⟩
    by_cases e1 : t.lev = 1
    · have r1 := s1 (fun x hx => (sm x (t.or_wf hw x hx) (t.or_parts.1 e1 x hx)).2.2.1)
      have r0 := up0 (by omega) r1
      have r3 := dn (by omega) r0
      exact ⟨r0, r1, up2 (by omega) r3, r3⟩
    · have r0 : R 0 t (t.txt 0) := by
        have hz : t.lev = 0 := by omega
        cases t with
        | imp a b =>
          have hb : b.isFls = false := by
            simp only [lev] at hz; split at hz
            · omega
            · simpa using ‹¬ b.isFls = true›
          have ra := (sm a hw.1 (by simp only [enc, List.length_cons, List.length_append]; omega)).2.1
          have rb := (sm b hw.2 (by simp only [enc, List.length_cons, List.length_append]; omega)).1
          rw [txt0] at rb
          have := hi a b ra rb
          rw [txt0]
          simp only [body, hb]
          simpa [txt] using this
        | _ => simp [lev] at hz
      have r3 := dn (by omega) r0
      have r2 := up2 (by omega) r3
      exact ⟨r0, up1 (by omega) r2, r2, r3⟩
end Go.Proofs.YtponaoefpicfpaaGreatDoor
/- What the contract of a reader says: a box that holds a text, a place in it and a mark. -/
namespace Go.Proofs.YtponaoefpicfpaaGreatDoor
open Go.RowKit

/-- a reader stands at a place of a text -/
structure RdAt (w : World) (r : Nat) (s : ByteArray) (i : Nat) (bad : Bool) : Prop where
  c0 : w.cell? ⟨r, 0, none⟩ = some (.string s)
  c1 : w.cell? ⟨r, 1, none⟩ = some (.int .i64 i)
  c2 : w.cell? ⟨r, 2, none⟩ = some (.bool bad)
  f1 : w.frozen? ⟨r, 1, none⟩ = false
  f2 : w.frozen? ⟨r, 2, none⟩ = false
  le : i ≤ s.size
  sz : s.size ≤ 2147483648
theorem RdAt.lt {w : World} {r : Nat} {s : ByteArray} {i : Nat} {bad : Bool} (h : RdAt w r s i bad) : r < w.heap.size := World.block_lt_of_cell? _ _ h.c0
theorem RdAt.keeps {w w' : World} {r : Nat} {s : ByteArray} {i : Nat} {bad : Bool} (h : RdAt w r s i bad) (k : Keeps w w') : RdAt w' r s i bad := by
  have hl := h.lt
  obtain ⟨kc, kf⟩ := k.both
  exact ⟨k.cell h.c0, k.cell h.c1, k.cell h.c2, (kf _ _ hl).trans h.f1, (kf _ _ hl).trans h.f2, h.le, h.sz⟩
/-- what may follow a text that is read at a level -/
def stops (l : Nat) (r : List UInt8) : Prop := (l ≤ 2 → r.head? ≠ some 38) ∧ (l ≤ 1 → r.head? ≠ some 124) ∧ (l = 0 → r.head? ≠ some 62)
theorem stops.up {l m : Nat} {r : List UInt8} (h : stops l r) (k : l ≤ m) : stops m r := ⟨fun e => h.1 (by omega), fun e => h.2.1 (by omega), fun e => h.2.2 (by omega)⟩
theorem stops3 (r : List UInt8) : stops 3 r := ⟨fun e => by omega, fun e => by omega, fun e => by omega⟩
/-- a formula has been read up to a place -/
def RetRd (w : World) (r : Nat) (s : ByteArray) (j : Nat) (a : List Nd) (e : Ending) (w' : World) : Prop :=
  ∃ v, e = .returned v ∧ OwnN w' w.heap.size v a ∧ RdAt w' r s j false ∧ w.grownBy w' (some r)
/-- a function reads a formula where its text at a level begins -/
def Reads (f : FuncId) (l : Nat) (t : Fm) (X : List UInt8) : Prop :=
  ∀ (w : World) (r : Nat) (s : ByteArray) (i : Nat) (rest : List UInt8), RdAt w r s i false → (bts s).drop i = X ++ rest → stops l rest → t.enc.length ≤ 100000000 →
    Calls Tryz.prog f #[.pointer (some ⟨r, 0, none⟩)] w (RetRd w r s (i + X.length) t.enc)
/-- the next byte of a text -/
theorem bts_head {s : ByteArray} {i : Nat} {b : UInt8} {l : List UInt8} (h : (bts s).drop i = b :: l) : ∃ hi : i < s.size, s[i] = b ∧ (bts s).drop (i + 1) = l := by
  have hl : i < (bts s).length := by
    rcases Nat.lt_or_ge i (bts s).length with h' | h'
    · exact h'
    · rw [List.drop_eq_nil_of_le h'] at h; cases h
  have hs : (bts s).length = s.size := by show s.data.toList.length = s.data.size; simp
  rw [List.drop_eq_getElem_cons hl] at h
  injection h with h1 h2
  exact ⟨by omega, by rw [← h1]; simp [bts]; rfl, h2⟩
theorem bts_end {s : ByteArray} {i : Nat} (hi : i ≤ s.size) (h : (bts s).drop i = []) : i = s.size := by
  have hs : (bts s).length = s.size := by show s.data.toList.length = s.data.size; simp
  have := List.drop_eq_nil_iff.1 h
  omega
theorem drop_more {s : ByteArray} {i : Nat} {X Y : List UInt8} (h : (bts s).drop i = X ++ Y) : (bts s).drop (i + X.length) = Y := by
  rw [← List.drop_drop, h, List.drop_left]
theorem fold_and_len (ys : List Fm) : ∀ a : Fm, a.enc.length ≤ (ys.foldl Fm.and a).enc.length := by
  induction ys with
  | nil => intro a; exact Nat.le_refl _
  | cons y ys ih => intro a; have := ih (Fm.and a y); simp only [List.foldl_cons, Fm.enc, List.length_cons, List.length_append] at *; omega
theorem fold_or_len (ys : List Fm) : ∀ a : Fm, a.enc.length ≤ (ys.foldl Fm.or a).enc.length := by
  induction ys with
  | nil => intro a; exact Nat.le_refl _
  | cons y ys ih => intro a; have := ih (Fm.or a y); simp only [List.foldl_cons, Fm.enc, List.length_cons, List.length_append] at *; omega
theorem OwnN.grown {w w' : World} {B r : Nat} {v : Value} {x : List Nd} (h : OwnN w B v x) (k : w.grownBy w' (some r)) (hr : r < B) : OwnN w' B v x := by
  refine ⟨h.1, ?_⟩
  rcases h.2 with hn | ⟨g, cap, cur, rfl, hb, hgg, rest⟩
  · exact .inl hn
  · exact .inr ⟨g, cap, cur, rfl, hb, (k.block g (Array.getElem?_eq_some_iff.1 hgg).1 (fun e => by cases e; omega)).trans hgg, rest⟩
theorem grown_keeps {w w1 w2 : World} {row : Option Nat} (h : w.grownBy w1 row) (k : Keeps w1 w2) : w.grownBy w2 row :=
  ⟨k.os.trans h.os, k.tape.trans h.tape, k.output.trans h.output, Nat.le_trans h.size k.size, fun i hi hr => (k.block (Nat.lt_of_lt_of_le hi h.size)).trans (h.block i hi hr)⟩
end Go.Proofs.YtponaoefpicfpaaGreatDoor
/- Walks: the readers' first steps, and truth and variables, on both sides. -/
namespace Go.Proofs.YtponaoefpicfpaaGreatDoor
open Go.RowKit

theorem grown_pre0 {w w1 w2 : World} {row : Option Nat} (h : Keeps w w1) (k : w1.grownBy w2 row) : w.grownBy w2 row :=
  ⟨k.os.trans h.os, k.tape.trans h.tape, k.output.trans h.output, Nat.le_trans h.size k.size, fun i hi hr => (k.block i (Nat.lt_of_lt_of_le hi h.size) hr).trans (h.block hi)⟩
/-- a byte is taken -/
def RetHit (w : World) (r : Nat) (s : ByteArray) (i : Nat) (e : Ending) (w' : World) : Prop :=
  e = .returned (.bool true) ∧ RdAt w' r s (i + 1) false ∧ w.grownBy w' (some r)
/-- a byte is not taken -/
def RetMiss (w : World) (r : Nat) (s : ByteArray) (i : Nat) (e : Ending) (w' : World) : Prop :=
  e = .returned (.bool false) ∧ RdAt w' r s i false ∧ Keeps w w'
theorem RdAt.moved {w : World} {r : Nat} {s : ByteArray} {i : Nat} (h : RdAt w r s i false) (hi : i < s.size) : RdAt (w.setCell ⟨r, 1, none⟩ (.int .i64 ((i : Int) + 1))) r s (i + 1) false := by
  refine ⟨?_, ?_, ?_, ?_, ?_, hi, h.sz⟩
  · exact (World.cell?_setCell_other (a := ⟨r, 1, none⟩) (b := ⟨r, 0, none⟩) (h := by simp) ..).trans h.c0
  · exact World.cell?_setCell_same (h := h.c1) ..
  · exact (World.cell?_setCell_other (a := ⟨r, 1, none⟩) (b := ⟨r, 2, none⟩) (h := by simp) ..).trans h.c2
  · rw [World.frozen?_setCell]; exact h.f1
  · rw [World.frozen?_setCell]; exact h.f2
--
set_option maxRecDepth 20000 in
set_option maxHeartbeats 1000000 in
theorem take_hit {w : World} {r : Nat} {s : ByteArray} {i : Nat} {b : UInt8} {l : List UInt8} {k : Int} (h : RdAt w r s i false) (hd : (bts s).drop i = b :: l) (hk : k = (b.toNat : Int)) :
    Calls Tryz.prog 285 #[.pointer (some ⟨r, 0, none⟩), .int .u8 k] w (RetHit w r s i) := by
  subst hk
  obtain ⟨hi, hb, _⟩ := bts_head hd
  have hm := fun n => (h.keeps ((Keeps.refl w).drewN n)).moved hi
  obtain ⟨c0, c1, c2, f1, f2, le, sz⟩ := h
  have hlt : decide ((i : Int) < s.size) = true := by simp; omega
  have hge : decide ((i : Int) ≥ s.size) = false := by simp; omega
  have hbb : s[i].toNat = b.toNat := by rw [hb]
  clear hd
  go_enter Tryz.func285, Tryz.ntmps285
  go_wp2_with fail
  go_quiet (fail)
  go_wp2_with fail
  go_ret
  exact ⟨rfl, hm _, grown_pre0 ((Keeps.refl w).drewN _) (grown_set _ _ _)⟩
set_option maxRecDepth 20000 in
set_option maxHeartbeats 1000000 in
theorem take_miss {w : World} {r : Nat} {s : ByteArray} {i : Nat} {l : List UInt8} {k : Int} (b : UInt8) (h : RdAt w r s i false) (hd : (bts s).drop i = l) (hne : l.head? ≠ some b) (hk : k = (b.toNat : Int)) :
    Calls Tryz.prog 285 #[.pointer (some ⟨r, 0, none⟩), .int .u8 k] w (RetMiss w r s i) := by
  subst hk
  have hm := fun n => h.keeps ((Keeps.refl w).drewN n)
  cases l with
  | nil =>
    have hi := bts_end h.le hd
    obtain ⟨c0, c1, c2, f1, f2, le, sz⟩ := h
    have hlt : decide ((i : Int) < s.size) = false := by simp; omega
    have hge : decide ((i : Int) ≥ s.size) = true := by simp; omega
    clear hd hne
    go_enter Tryz.func285, Tryz.ntmps285
    go_wp2_with fail
    go_quiet (fail)
    go_wp2_with fail
    go_ret
    exact ⟨rfl, hm _, (Keeps.refl w).drewN _⟩
  | cons c l =>
    obtain ⟨hi, hb, _⟩ := bts_head hd
    obtain ⟨c0, c1, c2, f1, f2, le, sz⟩ := h
    have hlt : decide ((i : Int) < s.size) = true := by simp; omega
    have hge : decide ((i : Int) ≥ s.size) = false := by simp; omega
    have hb1 : ((c.toNat : Int) == (b.toNat : Int)) = false := by simp only [beq_eq_false_iff_ne, ne_eq]; intro e; apply hne; simp [UInt8.toNat_inj.1 (Int.ofNat_inj.1 e)]
    have hb2 : ((c.toNat : Int) != (b.toNat : Int)) = true := by simp [bne, hb1]
    clear hd hne
    go_enter Tryz.func285, Tryz.ntmps285
    go_wp2_with fail
    go_quiet (fail)
    go_wp2_with fail
    go_ret
    exact ⟨rfl, hm _, (Keeps.refl w).drewN _⟩
end Go.Proofs.YtponaoefpicfpaaGreatDoor
