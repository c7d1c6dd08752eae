/- Walks: the laws' sizes and copies of lists of node lists and of rules. -/
import Derived.Test.YtodeecmhcfbheaaGreatGL5
import Derived.Test.YtodeecmhcfbheaaGreatGM3
import Derived.Test.YtodeecmhcfbheaaGreatGV1
namespace Go.Proofs.YtodeecmhcfbheaaGreat
open Go.RowKit
/-- a list of lists whose lengths are known -/
def LenL (w : World) (v : Value) (ns : List Nat) : Prop := SlC 1 (fun _ f (n : Nat) => ∃ p cap, f 0 = .slice p n cap ∧ n ≤ maxLen) w v ns
theorem LenL.keeps {w w' : World} {v : Value} {ns : List Nat} (h : LenL w v ns) (k : Keeps w w') : LenL w' v ns := SlC.keeps (fun _ _ _ _ _ h => h) h k
theorem NdsL.lens {w : World} {v : Value} {xs : List (List Nd)} (h : NdsL w v xs) : LenL w v (xs.map List.length) := by
  obtain ⟨p, cap, hv, h1, h2, h3, h4⟩ := h
  refine ⟨p, cap, by simpa using hv, by simpa using h1, h2, by simpa using h3, fun i hi => ?_⟩
  obtain ⟨b, off, f, hp, hc, hr⟩ := h4 i (by simpa using hi)
  refine ⟨b, off, f, hp, hc, ?_⟩
  obtain ⟨p', cap', e, h5, h6, _⟩ := hr
  exact ⟨p', cap', by simpa using e, by simp; omega⟩
def szF : Int → List Nat → Int
  | l, [] => l
  | l, n :: ns => if l < n then -1 else szF (l - n) ns
def sumN : List Nat → Nat
  | [] => 0
  | n :: ns => n + sumN ns
theorem szF_eq (ns : List Nat) : ∀ l : Int, 0 ≤ l → szF l ns = if l < sumN ns then -1 else l - sumN ns := by
  induction ns with
  | nil => intro l h; simp [szF, sumN]; omega
  | cons n ns ih =>
    intro l h
    have e : (sumN (n :: ns) : Int) = n + sumN ns := by simp [sumN]
    rw [e]
    simp only [szF]
    split
    · rw [if_pos (by omega)]
    · rw [ih _ (by omega)]
      split
      · rw [if_pos (by omega)]
      · rw [if_neg (by omega)]; omega
theorem sumN_tot (xs : List (List Nd)) : sumN (xs.map List.length) = tot xs := by
  induction xs with
  | nil => rfl
  | cons x xs ih => simp [sumN, tot, ih]
--
set_option maxRecDepth 20000 in
set_option maxHeartbeats 1000000 in
theorem szNodeSS_len (ns : List Nat) (v : Value) (left : Int) (w : World) (hv : LenL w v ns) (h0 : 0 ≤ left) (h1 : left ≤ 1048576) :
    Calls Tryz.prog 28 #[v, .int .i64 left] w fun e w' => e = .returned (.int .i64 (if left < ns.length then -1 else if left - ns.length < sumN ns then -1 else left - ns.length - sumN ns)) ∧ w = w' := by
  obtain ⟨p, cap, rfl, hle, hmx, hlen, hel⟩ := hv
  unfold maxLen at hmx
  by_cases hb : left < ns.length
  · go_enter Tryz.func28, Tryz.ntmps28
    go_wp2
    go_ret
    exact ⟨ret_int (by first | rfl | rw [if_pos hb]), rfl⟩
  · rw [if_neg hb, ← szF_eq ns _ (by omega)]
    go_enter Tryz.func28, Tryz.ntmps28
    go_wp2
    go_loop [1, 4, 5] (fun l r i' => ∃ (k : Nat) (L : Int), k ≤ ns.length ∧ i' = .int .i64 k ∧ l = .int .i64 L ∧ r = .int .i64 0 ∧ 0 ≤ L ∧ L ≤ 1048576 ∧ szF (left - ns.length) ns = szF L (ns.drop k)) (fun _ _ i => ns.length - (intOf i).toNat)
    case atStart => exact ⟨0, _, by omega, rfl, rfl, rfl, by omega, by omega, rfl⟩
    case round =>
      obtain ⟨k, L, hk, rfl, rfl, rfl, hL0, hL1, hs⟩ := hrel
      have HS := hid hs; clear hs
      by_cases hlt : k < ns.length
      · obtain ⟨b, off, f, rfl, hc, pk, ck, hf, hm⟩ := hel k hlt
        have hc0 := hc 0 (by omega)
        rw [hf] at hc0
        simp only [Nat.mul_one, Nat.add_zero] at hc0
        have hd : szF L (ns.drop k) = if L < (ns[k] : Nat) then -1 else szF (L - (ns[k] : Nat)) (ns.drop (k + 1)) := by rw [List.drop_eq_getElem_cons hlt]; rfl
        have HD := hid hd; clear hd hel hf
        have hlt' : (k : Int) < ns.length := by omega
        clear hc
        generalize hnk : ns[k] = nk at *
        have HZ := hid (szNodeS_any pk nk ck L w hm hL0 hL1)
        clear hnk
        by_cases hq : L < nk
        · rw [if_pos hq] at HZ HD
          go_wp2_with fail
          refine HZ.out.mono ?_; rintro e w' ⟨rfl, rfl⟩
          go_wp2_with fail
          go_ret
          exact ⟨ret_int (by rw [HS.out, HD.out]), rfl⟩
        · rw [if_neg hq] at HZ HD
          have hq2 : 0 ≤ L - nk := by omega
          have HQ := hid hq; clear hq
          go_wp2_with fail
          refine HZ.out.mono ?_; rintro e w' ⟨rfl, rfl⟩
          go_wp2_with fail
          go_round
          case rel => exact ⟨k + 1, L - nk, by omega, by go_num, by go_num, rfl, by omega, by omega, by rw [HS.out, HD.out]⟩
          case measure => simp [intOf]; omega
      · go_wp2
        go_ret
        refine ⟨ret_int ?_, rfl⟩
        rw [HS.out, List.drop_eq_nil_of_le (by omega)]
        rfl
theorem szNodeSS_any (xs : List (List Nd)) (v : Value) (left : Int) (w : World) (hv : NdsL w v xs) (h0 : 0 ≤ left) (h1 : left ≤ 1048576) (hb : xs.length + tot xs ≤ left) :
    Calls Tryz.prog 28 #[v, .int .i64 left] w fun e w' => e = .returned (.int .i64 (left - xs.length - tot xs)) ∧ w = w' := by
  have h := szNodeSS_len _ v left w hv.lens h0 h1
  rw [List.length_map, sumN_tot, if_neg (by omega), if_neg (by omega)] at h
  exact h
theorem szNodeSS_long (p : Option Addr) (n cap : Nat) (left : Int) (w : World) (hn : n ≤ maxLen) (h0 : 0 ≤ left) (h1 : left ≤ 1048576) (hb : left < n) :
    Calls Tryz.prog 28 #[.slice p n cap, .int .i64 left] w fun e w' => e = .returned (.int .i64 (-1)) ∧ w = w' := by
  unfold maxLen at hn
  go_enter Tryz.func28, Tryz.ntmps28
  go_wp2
  go_ret
  exact ⟨rfl, rfl⟩
--
theorem madeLL (n : Nat) : (madeCells (Value.cells (.slice none 0 0)) (n * 1)).toList = List.replicate n (.slice none 0 0) := by
  rw [Nat.mul_one, show Value.cells (.slice none 0 0) = #[.slice none 0 0] from rfl, toList_madeCells_one]
theorem run_makeL (w : World) (n : Nat) (hn : n ≤ 2147483648) : ∃ w', (Instr.makeSlice 35 (.int .i64 (n : Int)) (.int .i64 (n : Int))).run Tryz.prog w = .ok (.slice (some ⟨w.heap.size, 0, none⟩) n n) w' ∧
      OwnL w' w.heap.size (.slice (some ⟨w.heap.size, 0, none⟩) n n) (List.replicate n []) ∧ Keeps w w' := by
  obtain ⟨i0, hi, hz0, hz1, hz2⟩ := info_parts infoL
  obtain ⟨w', hr, ho, hg⟩ := run_make_full (P := Tryz.prog) w w.heap.size 35 24 i0 _ 1 Tryz.underlying35 hi hz0 hz1 .i64 .i64 n (by rw [hz2]; omega) (by unfold maxLen; omega) (Nat.le_refl _)
  rw [madeLL] at ho
  refine ⟨w', hr, ⟨List.replicate n (.slice none 0 0), by simpa using ho, ⟨by simp, fun i h1 h2 => ?_⟩, fun i j hi hj hne k hk => ?_, fun i hi k hk => ?_⟩, (Keeps.refl w).grown hg (by simp)⟩
  · simp only [List.getElem_replicate]; exact OwnN.nil _ _
  · simp [Value.ownBlock] at hk
  · simp [Value.ownBlock]
/-- an owned list of lists comes back -/
theorem OwnL.lenv {w : World} {B : Nat} {v : Value} {xs : List (List Nd)} (h : OwnL w B v xs) : ∃ p cap, v = .slice p xs.length cap ∧ xs.length ≤ cap ∧ cap ≤ maxLen := by
  obtain ⟨vs, ho, _⟩ := h
  obtain ⟨p, cap, e, h1, h2, _⟩ := At.of_own ho
  exact ⟨p, cap, e, h1, h2⟩
set_option maxRecDepth 20000 in
set_option maxHeartbeats 2000000 in
theorem toNodeSS_any (a : List (List Nd)) (v : Value) (w : World) (hv : NdsL w v a) (hl : a.length + tot a ≤ 1048576) :
    Calls Tryz.prog 31 #[v] w (RetL w a) := by
  have hv0 := hv
  obtain ⟨p, cap, rfl, hle, hmx, hlen, _⟩ := hv
  unfold maxLen at hmx
  obtain ⟨w1, hmk, hown, k1⟩ := run_makeL w a.length (by omega)
  have Hown := hid hown; clear hown
  go_enter Tryz.func31, Tryz.ntmps31
  go_wp2
  clear hmk
  have hown := Hown.out
  go_loopw [4] (fun i' wr => ∃ (k : Nat) (xs : List (List Nd)), k ≤ a.length ∧ i' = .int .i64 k ∧ xs.length = a.length ∧ xs.take k = a.take k ∧ OwnL wr w.heap.size (.slice (some ⟨w.heap.size, 0, none⟩) a.length a.length) xs ∧ Keeps w wr) (fun i _ => a.length - (intOf i).toNat)
  case atStart => exact ⟨0, _, by omega, rfl, by simp, by simp, hown, k1⟩
  case round =>
    obtain ⟨k, xs, hk, rfl, hxl, htk, hownk, kw⟩ := hrel
    have HX := hid hxl; clear hxl
    have HT := hid htk; clear htk
    clear Hown hown
    by_cases hlt : k < a.length
    · have hltx : k < xs.length := by have := HX.out; omega
      have hsz := kw.size
      obtain ⟨b1, o1, u1, e1, hc1, hu1⟩ := (hv0.keeps kw).get k hlt
      subst e1
      have htm := tot_mem a k hlt
      obtain ⟨p1, n1, q1, rfl⟩ := hu1.shape
      have HC := hid (toNodeS_any a[k] _ wr hu1 (by omega))
      clear hv0 hu1
      have hlt' : (k : Int) < a.length := by omega
      go_wp2_with fail
      refine HC.out.mono ?_; rintro e w2 ⟨v2, rfl, hv2, k2⟩
      obtain ⟨p2, n2, q2, rfl⟩ : ∃ p n c, v2 = .slice p n c := by obtain ⟨p, c, e, _⟩ := At.of_own hv2; exact ⟨p, _, c, e⟩
      obtain ⟨g, cap', c, ev, hBg, hgl, hcell, hfz, hst, hgr⟩ := OwnL.store hownk k2 hv2 hsz k hltx
      have eg : g = w.heap.size := by injection ev with e1 _ _; cases e1; rfl
      subst eg
      clear ev
      have HST := hid hst; clear hst
      go_wp2_with fail
      go_roundw
      case rel =>
        refine ⟨k + 1, _, by omega, by go_num, ?_, ?_, HST.out, ?_⟩
        · rw [List.length_set]; exact HX.out
        · rw [take_set _ _ _ hltx, List.take_succ_eq_append_getElem hlt, HT.out]
        · exact (kw.trans k2).grown hgr (fun q hq => by cases hq; exact Nat.le_refl _)
      case measure => simp [intOf]; omega
    · go_wp2
      go_ret
      have hx : xs = a := by
        have h1 := HX.out; have h2 := HT.out
        rw [List.take_of_length_le (by omega), List.take_of_length_le (by omega)] at h2
        exact h2
      subst hx
      exact ⟨_, rfl, hownk, kw⟩
--
set_option maxRecDepth 20000 in
set_option maxHeartbeats 1000000 in
theorem szLogicRule_any (xs : List (List Nd)) (c : List Nd) (v u : Value) (left : Int) (w : World) (hv : NdsL w v xs) (hu : Nds w u c) (h0 : 0 ≤ left) (h1 : left ≤ 1048576) (hb : xs.length + tot xs + c.length ≤ left) :
    Calls Tryz.prog 38 #[.agg #[v, u], .int .i64 left] w fun e w' => e = .returned (.int .i64 (left - xs.length - tot xs - c.length)) ∧ Keeps w w' := by
  obtain ⟨p1, n1, q1, rfl⟩ := agg_shape hv
  obtain ⟨p2, n2, q2, rfl⟩ := hu.shape
  have hn2 : n2 = c.length ∧ n2 ≤ maxLen := by obtain ⟨_, _, e, h1, h2, _⟩ := hu; cases e; exact ⟨rfl, by omega⟩
  obtain ⟨rfl, hm2⟩ := hn2
  have k1 := (Keeps.refl w).alloc (.cells #[.slice p1 n1 q1, .slice p2 c.length q2] 59)
  have HZ := hid (szNodeSS_any xs _ left _ (hv.keeps k1) h0 h1 (by omega))
  have hz2 := szNodeS_any p2 c.length q2 (left - xs.length - tot xs) (w.alloc (.cells #[.slice p1 n1 q1, .slice p2 c.length q2] 59)) hm2 (by omega) (by omega)
  rw [if_neg (by omega)] at hz2
  have HZ2 := hid hz2; clear hz2
  have hp1 : (0 : Int) ≤ left - xs.length - tot xs := by omega
  have hp2 : (0 : Int) ≤ left - xs.length - tot xs - c.length := by omega
  clear hv hu
  go_enter Tryz.func38, Tryz.ntmps38
  go_wp2_with fail
  refine HZ.out.mono ?_; rintro e w' ⟨rfl, rfl⟩
  go_wp2_with fail
  refine HZ2.out.mono ?_; rintro e w' ⟨rfl, rfl⟩
  go_wp2_with fail
  go_ret
  exact ⟨rfl, k1⟩
--
theorem OwnL.touched {w w' : World} {S : Nat → Prop} {B : Nat} {v : Value} {xs : List (List Nd)} (h : OwnL w B v xs) (k : Touch w w' S) (hS : ∀ i, B ≤ i → ¬ S i) : OwnL w' B v xs := by
  obtain ⟨vs, ho, hr, ha, hf⟩ := h
  exact ⟨vs, own_touch ho k (fun i e => hS i (World.ownsRow.lt ho i e).1), hr.touch k (fun i e => hS i (hr.lt e).1), ha, hf⟩
theorem OwnL.setBelow {w : World} {B : Nat} {v : Value} {xs : List (List Nd)} (h : OwnL w B v xs) {b o : Nat} (hb : b < B) (x : Value) : OwnL (w.setCell ⟨b, o, none⟩ x) B v xs :=
  h.touched (Touch.grown (grown_set b o x)) (fun i hi e => by cases e; omega)
theorem OwnR.of {w0 w : World} {B : Nat} {v u : Value} {xs : List (List Nd)} {c : List Nd} (h : OwnL w0 B v xs) (k : Keeps w0 w) (hu : OwnN w w0.heap.size u c) (hB : B ≤ w0.heap.size) : OwnR w B v u xs c := by
  obtain ⟨vs, ho, hr, ha, hf⟩ := h
  have hlt := fun k hk => (World.ownsRow.lt ho k hk).2
  refine ⟨vs, own_keeps ho k, RowsN.cons (hu.mono hB) (hr.keeps k), Apart.cons (Off.of_blk fun k hk hb => ?_) ha, fun i hi k hk => ?_⟩
  · have := (hu.len k hk).1; have := (hr.lt hb).2; omega
  · cases i with
    | zero => intro e; have := (hu.len k e).1; have := hlt k hk; omega
    | succ i => exact hf i (by simpa using hi) k hk
--
def RetR (w : World) (xs : List (List Nd)) (c : List Nd) (e : Ending) (w' : World) : Prop := ∃ v u, e = .returned (.agg #[v, u]) ∧ OwnR w' w.heap.size v u xs c ∧ Keeps w w'
set_option maxRecDepth 20000 in
set_option maxHeartbeats 1000000 in
theorem toLogicRule_any (xs : List (List Nd)) (c : List Nd) (v u : Value) (w : World) (hv : NdsL w v xs) (hu : Nds w u c) (hl : xs.length + tot xs + c.length ≤ 1048576) :
    Calls Tryz.prog 39 #[.agg #[v, u]] w (RetR w xs c) := by
  obtain ⟨p1, n1, q1, rfl⟩ := agg_shape hv
  obtain ⟨p2, n2, q2, rfl⟩ := hu.shape
  have kA := (((Keeps.refl w).alloc (.cells #[.slice p1 n1 q1, .slice p2 n2 q2] 59)).alloc (.cells #[.slice none 0 0, .slice none 0 0] 37)).alloc (.cells #[.slice none 0 0, .slice none 0 0] 37)
  have HS := hid (toNodeSS_any xs _ _ (hv.keeps kA) (by omega))
  have HU := hid (fun w2 (k : Keeps w w2) => toNodeS_any c _ w2 (hu.keeps k) (by omega))
  clear hv hu
  go_enter Tryz.func39, Tryz.ntmps39
  go_wp2_with fail
  refine HS.out.mono ?_; rintro e w2 ⟨v2, rfl, hv2, k2⟩
  obtain ⟨p3, n3, q3, rfl⟩ : ∃ p n c, v2 = .slice p n c := by obtain ⟨vs, ho, _⟩ := hv2; obtain ⟨p, c, e, _⟩ := At.of_own ho; exact ⟨p, _, c, e⟩
  obtain ⟨hc2, hf2⟩ := k2.both
  have hs2 := k2.size
  simp at hs2
  have kS := (kA.trans k2).setCell (p := ⟨w.heap.size + 1 + 1, 0, none⟩) (by simp; omega) (.slice p3 n3 q3)
  have hO := hv2.setBelow (b := w.heap.size + 1 + 1) (o := 0) (by simp) (.slice p3 n3 q3)
  go_wp2_with fail
  refine (HU.out _ kS).mono ?_; rintro e w3 ⟨v3, rfl, hv3, k3⟩
  obtain ⟨p4, n4, q4, rfl⟩ : ∃ p n c, v3 = .slice p n c := by obtain ⟨p, c, e, _⟩ := At.of_own hv3; exact ⟨p, _, c, e⟩
  obtain ⟨hc3, hf3⟩ := k3.both
  have hs3 := k3.size
  simp at hs3
  have hR := OwnR.of hO k3 hv3 (by simp; omega)
  have g2 : w.heap.size + 1 + 1 < w2.heap.size := by omega
  have g1 : w.heap.size + 1 < w2.heap.size := by omega
  go_wp2_with fail
  refine bodyPost_ret (v := .agg #[.slice p3 n3 q3, .slice p4 n4 q4]) (by simp [results, Tryz.results39, go_sem, hc3, hc2, g1]) rfl ?_
  exact ⟨_, _, rfl, (((hR.setBelow (by simp) _).setBelow (by simp) _).setBelow (by simp) _).mono (by simp; omega), (((kS.trans k3).setCell (by simp; omega) _).setCell (by simp) _).setCell (by simp) _⟩
end Go.Proofs.YtodeecmhcfbheaaGreat
