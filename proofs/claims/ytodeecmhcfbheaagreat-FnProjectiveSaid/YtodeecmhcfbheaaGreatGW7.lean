/- Walks: the library's Grow and Concat at nodes; the program's joins. -/
import Derived.Test.YtodeecmhcfbheaaGreatGW4
import Derived.Lib.AppendZeros
namespace Go.Proofs.YtodeecmhcfbheaaGreat
open Go.RowKit

--
theorem zeroCells_size (n : Nat) (z : Array Value) : (Builtin.zeroCells z n).size = n * z.size := by simp [Builtin.zeroCells]
set_option maxRecDepth 20000 in
set_option maxHeartbeats 400000 in
theorem growN_any (n : Nat) (w : World) (hn : n ≤ 2147483648) :
    Calls Tryz.prog 213 #[.slice none 0 0, .int .i64 n] w (RetN w []) := by
  obtain ⟨i0, hi, hz0, hz1, hz2⟩ := info_parts infoN
  by_cases h0 : 0 < n
  · have hrun := Lib.run_append_nil_zeros (P := Tryz.prog) w 24 3 24 73 i0 _ .i64 .i64 Tryz.underlying24 Tryz.underlying3 hi hz0 n h0 (by rw [hz1]; decide) (by omega) (by rw [hz2]; omega)
    have hge := grownCap_ge w n 0 73
    have hle := grownCap_le_maxLen w n 0 73 (by unfold maxLen; omega)
    unfold maxLen at hle
    have hown : OwnN (w.drew.alloc (.cells (Builtin.zeroCells (Value.agg #[.int .i64 0, .int .i64 0]).cells n ++ Builtin.zeroCells (Value.agg #[.int .i64 0, .int .i64 0]).cells (grownCap w n 0 73 - n)) 73)) w.heap.size (.slice (some ⟨w.heap.size, 0, none⟩) 0 (grownCap w n 0 73)) [] := by
      refine World.ownsRow_made w.drew _ _ (Nat.le_refl _) (by unfold maxLen; omega) ?_
      rw [Array.size_append, zeroCells_size, zeroCells_size]
      simp [Value.cells]
      omega
    have hk := ((Keeps.refl w).drew).alloc (.cells (Builtin.zeroCells (Value.agg #[.int .i64 0, .int .i64 0]).cells n ++ Builtin.zeroCells (Value.agg #[.int .i64 0, .int .i64 0]).cells (grownCap w n 0 73 - n)) 73)
    generalize w.drew.alloc (.cells (Builtin.zeroCells (Value.agg #[.int .i64 0, .int .i64 0]).cells n ++ Builtin.zeroCells (Value.agg #[.int .i64 0, .int .i64 0]).cells (grownCap w n 0 73 - n)) 73) = w1 at hrun hown hk
    generalize grownCap w n 0 73 = c1 at *
    have HR := hid hrun; clear hrun
    clear hz0 hz1 hz2 hi
    go_enter Tryz.func213, Tryz.ntmps213
    go_wp2_with (at_builtin; refine Lib.wpList_append_run _ rfl _ _ _ _ rfl _ _ rfl rfl _ _ HR.out ?_)
    go_ret
    exact ⟨_, rfl, hown, hk⟩
  · obtain rfl : n = 0 := by omega
    go_enter Tryz.func213, Tryz.ntmps213
    go_wp2
    go_ret
    exact ⟨_, rfl, OwnN.nil _ _, Keeps.refl _⟩
--
/-- the first k lists in a row -/
def fl {α : Type} (l : List (List α)) (k : Nat) : List α := (l.take k).flatten
theorem fl_succ {α : Type} (l : List (List α)) (k : Nat) (h : k < l.length) : fl l (k + 1) = fl l k ++ l[k] := by
  unfold fl
  rw [List.take_succ_eq_append_getElem h, List.flatten_append]; simp
theorem fl_le {α : Type} (l : List (List α)) (k : Nat) : (fl l k).length ≤ (fl l l.length).length := by
  unfold fl
  rw [List.take_length]
  conv => rhs; rw [← List.take_append_drop k l]
  simp only [List.flatten_append, List.length_append]; omega
theorem fl_zero {α : Type} (l : List (List α)) : fl l 0 = [] := rfl
theorem fl_all {α : Type} (l : List (List α)) : fl l l.length = l.flatten := by unfold fl; rw [List.take_length]
set_option maxHeartbeats 1000000 in
theorem concatN_any (l : List (List Nd)) (v : Value) (w : World) (hv : NdsL w v l) (hl : (fl l l.length).length ≤ 2147483648) :
    Calls Tryz.prog 159 #[v] w (RetN w (fl l l.length)) := by
  have hv0 := hv
  obtain ⟨p, cap, rfl, hle, hmx, hlen, _⟩ := hv
  unfold maxLen at hmx
  go_enter Tryz.func159, Tryz.ntmps159
  go_wp2
  go_loop [3, 11] (fun s i' => ∃ k : Nat, k ≤ l.length ∧ i' = .int .i64 k ∧ s = .int .i64 (fl l k).length) (fun _ i => l.length - (intOf i).toNat)
  case atStart => exact ⟨0, by omega, rfl, rfl⟩
  case round =>
    obtain ⟨k, hk, rfl, rfl⟩ := hrel
    have hf := fl_le l k
    by_cases hlt : k < l.length
    · obtain ⟨b, off, u, rfl, h1, pu, capu, rfl, g1, g2, g3, g4⟩ := hv0.get k hlt
      have hft := fl_succ l k hlt
      have hf2 := fl_le l (k + 1)
      have hlen2 : (fl l (k + 1)).length = (fl l k).length + l[k].length := by rw [hft]; simp
      have hsum : (fl l k).length + l[k].length ≤ 2147483648 := by omega
      have HL := hid hlen2; clear hlen2 hft hf2
      clear hv0
      go_wp2
      go_round
      case rel => exact ⟨k + 1, by omega, by go_num, by rw [HL.out]; go_num⟩
      case measure => simp [intOf]; omega
    · obtain rfl : k = l.length := by omega
      clear hf hk hlt
      go_wp2_with (go_at_call 213; refine (growN_any _ _ hl).mono ?_; rintro e w1 ⟨v1, rfl, hv1, k1⟩)
      go_loopw [6, 27] (fun s i' wr => ∃ k : Nat, k ≤ l.length ∧ i' = .int .i64 k ∧ OwnN wr w.heap.size s (fl l k) ∧ Keeps w wr) (fun _ i _ => l.length - (intOf i).toNat)
      case atStart => exact ⟨0, by omega, rfl, hv1, k1⟩
      case round =>
        obtain ⟨k, hk, rfl, hown, kw⟩ := hrel
        by_cases hlt : k < l.length
        · obtain ⟨b, off, u, rfl, h1, hu⟩ := (hv0.keeps kw).get k hlt
          have hft := fl_succ l k hlt
          have hf2 := fl_le l (k + 1)
          have hsum : (fl l k).length + l[k].length ≤ 2147483648 := by
            have : (fl l (k + 1)).length = (fl l k).length + l[k].length := by rw [hft]; simp
            omega
          have HF := hid hft; clear hft hf2
          clear hv0
          have hsz := kw.size
          go_wp2_with (at_builtin; refine appN rfl _ _ rfl w.heap.size _ _ rfl hown _ _ rfl hu hsz hsum ?_; intro v2 w2 hv2 hg2 hr2; have k2 : Keeps w w2 := kw.grown hg2 hr2)
          go_roundw
          case rel => exact ⟨k + 1, by omega, by go_num, by rw [HF.out]; exact hv2, k2⟩
          case measure => simp [intOf]; omega
        · obtain rfl : k = l.length := by omega
          go_wp2
          go_ret
          exact ⟨_, rfl, hown, kw⟩
end Go.Proofs.YtodeecmhcfbheaaGreat
/- Walks: the program's joins, negations and checks of lists. -/
namespace Go.Proofs.YtodeecmhcfbheaaGreat
open Go.RowKit

--
theorem falsum_any (w : World) : Calls Tryz.prog 196 #[] w (RetN w Fm.fls.enc) := by
  go_enter Tryz.func196, Tryz.ntmps196
  go_wp2
  go_ret
  exact ⟨_, rfl, OwnN.lit1 w ⟨1, 0⟩, (Keeps.refl w).alloc _⟩
--
set_option maxHeartbeats 400000 in
theorem join_any (k : Int) (a b : List Nd) (va vb : Value) (w : World) (hva : Nds w va a) (hvb : Nds w vb b) (hl : 1 + a.length + b.length ≤ 2147483648) :
    Calls Tryz.prog 72 #[.int .i64 k, va, vb] w (RetN w (⟨k, 0⟩ :: (a ++ b))) := by
  obtain ⟨pa, na, ca, rfl⟩ := hva.shape
  obtain ⟨pb, nb, cb, rfl⟩ := hvb.shape
  have k1 := (Keeps.refl w).alloc (.cells #[.int .i64 k, .int .i64 0] 73)
  have h1 := (OwnN.lit1 w ⟨k, 0⟩).nds (by simp)
  have h2 := NdsL.lit3N (N := w.heap.size + 1) (by simp) h1 (hva.keeps k1) (hvb.keeps k1)
  have k2 := k1.alloc (.cells #[.slice (some ⟨w.heap.size, 0, none⟩) 1 1, .slice pa na ca, .slice pb nb cb] 24)
  have hfl : fl [[⟨k, 0⟩], a, b] [[⟨k, 0⟩], a, b].length = ⟨k, 0⟩ :: (a ++ b) := by simp [fl]
  have hfl2 : (fl [[⟨k, 0⟩], a, b] [[(⟨k, 0⟩ : Nd)], a, b].length).length ≤ 2147483648 := by rw [hfl]; simp; omega
  have hc := concatN_any _ _ _ h2 hfl2
  rw [hfl] at hc
  have HC := hid hc
  clear hfl2 h1 h2 hfl hc
  go_enter Tryz.func72, Tryz.ntmps72
  go_wp2_with (go_at_call 159; go_must (refine HC.out.mono ?_); rintro e w3 ⟨v3, rfl, hv3, k3⟩)
  go_ret
  exact ⟨_, rfl, hv3.mono k2.size, k2.trans k3⟩
--
set_option maxHeartbeats 400000 in
theorem negation_any (t : Fm) (v : Value) (w : World) (hv : Nds w v t.enc) (hl : t.enc.length ≤ 1073741824) :
    Calls Tryz.prog 134 #[v] w (RetN w (Fm.not t).enc) := by
  go_enter Tryz.func134, Tryz.ntmps134
  go_wp2_with (first | (go_at_call 196; refine (falsum_any _).mono ?_; rintro e w1 ⟨v1, rfl, hv1, k1⟩) | (go_at_call 72; refine (join_any _ _ _ _ _ _ (hv.keeps k1) (hv1.nds (by simp [Fm.enc])) (by simp [Fm.enc]; omega)).mono ?_; rintro e w2 ⟨v2, rfl, hv2, k2⟩))
  go_ret
  exact ⟨_, rfl, hv2.mono k1.size, k1.trans k2⟩
--
theorem limited_any (a : List Nd) (v : Value) (w : World) (hv : Nds w v a) :
    Calls Tryz.prog 133 #[v] w fun e w' => e = .returned (.tuple #[if a.length ≤ 40 then v else .slice none 0 0, .int .i64 (madeL a).2]) ∧ w = w' := by
  obtain ⟨p, cap, rfl, hle, hmx, hr, hlen⟩ := hv
  unfold maxLen at hmx
  by_cases h : a.length ≤ 40
  all_goals
    go_enter Tryz.func133, Tryz.ntmps133
    go_wp2
    go_ret2
    exact ⟨by simp [h, madeL], rfl⟩
--
theorem limited_own (a : List Nd) (v : Value) (w : World) (B : Nat) (hv : OwnN w B v a) (hl : a.length ≤ 2147483648) :
    Calls Tryz.prog 133 #[v] w fun e w' => ∃ u, e = .returned (.tuple #[u, .int .i64 (madeL a).2]) ∧ OwnN w' B u (madeL a).1 ∧ w = w' :=
  (limited_any a v w (hv.nds hl)).mono fun e w' ⟨he, hw⟩ => ⟨_, he, by subst hw; exact made_own hv, hw⟩
--
set_option maxHeartbeats 400000 in
theorem indexFuncL (pr : List Nd → Bool) (f : FuncId) (cp : Array Value) (a : List (List Nd)) (v : Value) (w : World) (hv : NdsL w v a) (hcf : Enters f)
    (hf : ∀ x u w1, x ∈ a → Keeps w w1 → Nds w1 u x → Calls Tryz.prog f (#[u] ++ cp) w1 fun e w2 => e = .returned (.bool (pr x)) ∧ Keeps w1 w2) :
    Calls Tryz.prog 200 #[v, .func (.func f) #[] cp] w fun e w' => e = .returned (.int .i64 (idxOf pr a 0)) ∧ Keeps w w' := by
  have hv0 := hv
  obtain ⟨p, cap, rfl, hle, hmx, hlen, _⟩ := hv
  unfold maxLen at hmx
  have HF := hid hf; clear hf
  have hcf' : ∀ args w, (callFunc f args).run Tryz.prog w = .ok (.enter f args) w := hcf
  clear hcf
  go_enter Tryz.func200, Tryz.ntmps200
  go_wp2
  go_loopw [4, 8] (fun r i' wr => ∃ k : Nat, k ≤ a.length ∧ idxOf pr a 0 = idxOf pr (a.drop k) k ∧ Keeps w wr ∧ i' = .int .i64 k ∧ r = .int .i64 0) (fun _ i _ => a.length - (intOf i).toNat)
  case atStart => exact ⟨0, by omega, by simp, Keeps.refl w, rfl, rfl⟩
  case round =>
    obtain ⟨k, hk, hs, kw, rfl, rfl⟩ := hrel
    have Hs := hid hs; clear hs
    by_cases hlt : k < a.length
    · obtain ⟨b, off, u, rfl, h1, hu⟩ := (hv0.keeps kw).get k hlt
      have hd := hid (idxOf_drop pr a k hlt)
      clear hv0
      cases hp : pr a[k]
      all_goals
        have Hp := hid hp; clear hp
        go_wp2_with ((with_reducible refine (HF.out a[k] u wr (List.getElem_mem hlt) kw hu).mono ?_); rintro e w2 ⟨rfl, k2⟩; rw [Hp.out])
      · go_roundw
        case rel => exact ⟨k + 1, by omega, by rw [Hs.out, hd.out, Hp.out]; rfl, kw.trans k2, by go_num, rfl⟩
        case measure => simp [intOf]; omega
      · go_ret
        exact ⟨ret_int (by rw [Hs.out, hd.out, Hp.out]; rfl), kw.trans k2⟩
    · go_wp2
      go_ret
      exact ⟨ret_int (by rw [Hs.out, idxOf_end _ _ _ (by omega)]), kw⟩
theorem containsFuncL (pr : List Nd → Bool) (f : FuncId) (cp : Array Value) (a : List (List Nd)) (v : Value) (w : World) (hv : NdsL w v a) (hcf : Enters f)
    (hf : ∀ x u w1, x ∈ a → Keeps w w1 → Nds w1 u x → Calls Tryz.prog f (#[u] ++ cp) w1 fun e w2 => e = .returned (.bool (pr x)) ∧ Keeps w1 w2) :
    Calls Tryz.prog 142 #[v, .func (.func f) #[] cp] w fun e w' => e = .returned (.bool (a.any pr)) ∧ Keeps w w' := by
  have H := hid (indexFuncL pr f cp a v w hv hcf hf)
  clear hv hf hcf
  have he := hid (idxOf_any pr a 0)
  go_enter Tryz.func142, Tryz.ntmps142
  go_wp2_with (go_at_call 200; refine H.out.mono ?_; rintro e w2 ⟨rfl, k2⟩)
  go_ret
  exact ⟨ret_bool he.out, k2⟩
--
theorem areFormulas_1_any (x : List Nd) (u : Value) (w : World) (hu : Nds w u x) : Calls Tryz.prog 199 #[u] w fun e w' => e = .returned (.bool (!isFm x)) ∧ Keeps w w' := by
  go_enter Tryz.func199, Tryz.ntmps199
  go_wp2_with (go_at_call 66; refine (isFormula_any x _ _ hu).mono ?_; rintro e w' ⟨rfl, k1⟩)
  go_ret
  exact ⟨rfl, k1⟩
theorem enters_areFormulas_1 : Enters 199 := fun _ _ => by kernel_rfl
def allFm (l : List (List Nd)) : Bool := !(l.any fun x => !isFm x)
theorem areFormulas_any (l : List (List Nd)) (v : Value) (w : World) (hv : NdsL w v l) :
    Calls Tryz.prog 141 #[v] w fun e w' => e = .returned (.bool (allFm l)) ∧ Keeps w w' := by
  go_enter Tryz.func141, Tryz.ntmps141
  go_wp2_with (go_at_call 142; refine (containsFuncL (fun x => !isFm x) _ #[] l _ _ hv enters_areFormulas_1 (fun x u w1 _ _ hu => areFormulas_1_any x u w1 hu)).mono ?_; rintro e w1 ⟨rfl, k1⟩)
  go_ret
  exact ⟨rfl, k1⟩
--
theorem plainCode_1_any (x : List Nd) (u : Value) (w : World) (hu : Nds w u x) : Calls Tryz.prog 143 #[u] w fun e w' => e = .returned (.bool (!plainL x)) ∧ Keeps w w' := by
  go_enter Tryz.func143, Tryz.ntmps143
  go_wp2_with (go_at_call 144; refine (isPlain_any x _ _ hu).mono ?_; rintro e w' ⟨rfl, k1⟩)
  go_ret
  exact ⟨rfl, k1⟩
theorem enters_plainCode_1 : Enters 143 := fun _ _ => by kernel_rfl
def allPlainL (l : List (List Nd)) : Bool := l.any fun x => !plainL x
def plainErrs (l : List (List Nd)) : Int := if allFm l then (if allPlainL l then 5 else 0) else 1
set_option maxHeartbeats 400000 in
theorem plainCode_any (l : List (List Nd)) (v : Value) (w : World) (hv : NdsL w v l) :
    Calls Tryz.prog 62 #[v] w fun e w' => e = .returned (.int .i64 (plainErrs l)) ∧ Keeps w w' := by
  have h1 := areFormulas_any l v w hv
  have h2 := fun w1 (k : Keeps w w1) => containsFuncL (fun x => !plainL x) _ #[] l v w1 (hv.keeps k) enters_plainCode_1 (fun x u w1 _ _ hu => plainCode_1_any x u w1 hu)
  have h2' : ∀ w1 (k : Keeps w w1), Calls Tryz.prog 142 #[v, .func (.func 143) #[] #[]] w1 fun e w' => e = .returned (.bool (allPlainL l)) ∧ Keeps w1 w' := h2
  clear h2
  cases hf : allFm l <;> cases hp : allPlainL l <;> rw [hf] at h1 <;> rw [hp] at h2'
  all_goals
    have Hf := hid hf; clear hf
    have Hp := hid hp; clear hp
    have H1 := hid h1; clear h1
    have H2 := hid h2'; clear h2'
    go_enter Tryz.func62, Tryz.ntmps62
    go_wp2_with (first | (go_at_call 141; refine H1.out.mono ?_; rintro e w1 ⟨rfl, k1⟩) | (go_at_call 142; refine (H2.out _ k1).mono ?_; rintro e w2 ⟨rfl, k2⟩))
    go_ret
    refine ⟨ret_int (by simp [plainErrs, Hf.out, Hp.out]), ?_⟩
    first | exact k1.trans k2 | exact k1
end Go.Proofs.YtodeecmhcfbheaaGreat
/- Walks: formulas with one part on both sides. -/
namespace Go.Proofs.YtodeecmhcfbheaaGreat
open Go.RowKit
--
set_option maxHeartbeats 400000 in
theorem l02Pre_any (k : Int) (a : List Nd) (va : Value) (w : World) (hva : Nds w va a) (hl : 1 + a.length ≤ 2147483648) :
    Calls Tryz.prog 179 #[.int .i64 k, va] w (RetN w (⟨k, 0⟩ :: a)) := by
  go_enter Tryz.func179, Tryz.ntmps179
  have h1 := OwnN.lit1 w ⟨k, 0⟩
  have k1 := (Keeps.refl w).alloc (.cells #[.int .i64 k, .int .i64 0] 73)
  have ha1 := hva.keeps k1
  go_wp2_with (at_builtin; refine appN rfl _ _ rfl w.heap.size _ [⟨k, 0⟩] rfl h1 _ a rfl ha1 (by simp) (by simp; omega) ?_; intro v1 w1 hv1 hg1 hr1; have k2 : Keeps w w1 := k1.grown hg1 hr1)
  go_ret
  exact ⟨_, rfl, by simpa using hv1, k2⟩
--
set_option maxRecDepth 20000 in
set_option maxHeartbeats 400000 in
theorem prefix_any (k : Int) (a : List Nd) (va : Value) (w : World) (hva : Nds w va a) (hl : 1 + a.length ≤ 2147483648) :
    Calls Tryz.prog 277 #[.int .i64 k, va] w (RetN w (⟨k, 0⟩ :: a)) := by
  obtain ⟨pa, na, ca, rfl⟩ := hva.shape
  have k1 := (Keeps.refl w).alloc (.cells #[.int .i64 k, .int .i64 0] 73)
  have h1 := (OwnN.lit1 w ⟨k, 0⟩).nds (by simp)
  have h2 := NdsL.lit2N (N := w.heap.size + 1) (by simp) h1 (hva.keeps k1)
  have k2 := k1.alloc (.cells #[.slice (some ⟨w.heap.size, 0, none⟩) 1 1, .slice pa na ca] 24)
  have hfl : fl [[⟨k, 0⟩], a] [[⟨k, 0⟩], a].length = ⟨k, 0⟩ :: a := by simp [fl]
  have hfl2 : (fl [[⟨k, 0⟩], a] [[(⟨k, 0⟩ : Nd)], a].length).length ≤ 2147483648 := by rw [hfl]; simp; omega
  have hc := concatN_any _ _ _ h2 hfl2
  rw [hfl] at hc
  have HC := hid hc
  clear hfl2 h1 h2 hfl hc
  go_enter Tryz.func277, Tryz.ntmps277
  go_wp2_with (go_at_call 159; go_must (refine HC.out.mono ?_); rintro e w3 ⟨v3, rfl, hv3, k3⟩)
  go_ret
  exact ⟨_, rfl, hv3.mono k2.size, k2.trans k3⟩
end Go.Proofs.YtodeecmhcfbheaaGreat
