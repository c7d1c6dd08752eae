/- Walks: the laws' own measures, copies, comparisons and marks of modal sequents. -/
import Derived.Test.YtgnehffglhbggaaGreatGLS
import Derived.Test.YtgnehffglhbggaaGreatGL2
import Derived.Deep.RegionHeld3
namespace Go.Proofs.YtgnehffglhbggaaGreat
open Go.RowKit
def totS (ss : List ByteArray) : Nat := (ss.map ByteArray.size).sum
theorem totS_snoc (ss : List ByteArray) (k : Nat) (h : k < ss.length) : totS (ss.take (k + 1)) = totS (ss.take k) + ss[k].size := by
  unfold totS; rw [List.take_succ_eq_append_getElem h, List.map_append, List.sum_append]; simp
theorem totS_le (ss : List ByteArray) (k : Nat) : totS (ss.take k) ≤ totS ss := by
  have h : ss.take k ++ ss.drop k = ss := List.take_append_drop k ss
  have : totS ss = totS (ss.take k) + totS (ss.drop k) := by
    conv => lhs; rw [← h]
    unfold totS; rw [List.map_append, List.sum_append]
  omega
theorem totS_mem {ss : List ByteArray} {s : ByteArray} (h : s ∈ ss) : s.size ≤ totS ss := by
  unfold totS
  induction ss with
  | nil => simp at h
  | cons x l ih =>
    rw [List.map_cons, List.sum_cons]
    rcases List.mem_cons.1 h with e | e
    · subst e; omega
    · have := ih e; omega
/-- how much a list of texts counts -/
def szB (ss : List ByteArray) : Nat := ss.length + totS ss
theorem szB_len (ss : List ByteArray) : ss.length ≤ szB ss := Nat.le_add_right _ _
theorem szB_mem {ss : List ByteArray} {s : ByteArray} (h : s ∈ ss) : s.size ≤ szB ss := by have := totS_mem h; unfold szB; omega
theorem szB_small {ss : List ByteArray} (h : szB ss ≤ 1048576) : ∀ s ∈ ss, s.size ≤ maxLen := fun s hs => by have := szB_mem hs; unfold maxLen; omega
/-- a slice of texts of whatever length -/
def WkS (w : World) (v : Value) : Prop := ∃ p n cap, v = .slice p n cap ∧ n ≤ maxLen ∧ (n ≤ 2147483648 → ∃ ss : List ByteArray, ss.length = n ∧ Strs w v ss ∧ ∀ s ∈ ss, s.size ≤ maxLen)
--
set_option maxRecDepth 20000 in
set_option maxHeartbeats 1000000 in
theorem szStringS_any (ss : List ByteArray) (v : Value) (left : Int) (w : World) (hv : Strs w v ss) (hz : ∀ s ∈ ss, s.size ≤ maxLen) (h0 : 0 ≤ left) (h1 : left ≤ 1048576) :
    Calls Tryz.prog 42 #[v, .int .i64 left] w fun e w' => e = .returned (.int .i64 (if left < szB ss then -1 else left - szB ss)) ∧ w = w' := by
  obtain ⟨p, cap, rfl, hle, hmx, hlen⟩ := hv.shape
  unfold maxLen at hmx
  have HV := hid hv; clear hv
  have HD : Hid (szB ss = ss.length + totS ss) := hid rfl
  have HSZ := hid (fun k (h : k < ss.length) => hz _ (List.getElem_mem h)); clear hz
  have HT0 : Hid (totS (ss.take 0) = 0) := hid rfl
  have HTE : Hid (totS (ss.take ss.length) = totS ss) := hid (by rw [List.take_length])
  have HTS := hid (totS_snoc ss)
  have HTL := hid (totS_le ss)
  generalize szB ss = sz at *
  obtain ⟨r, hr⟩ : ∃ r : Int, (if left < sz then -1 else left - sz) = r := ⟨_, rfl⟩
  rw [hr]
  have HR1 : Hid (left < sz → r = -1) := hid (fun h => by rw [← hr, if_pos h])
  have HR2 : Hid (¬ left < sz → r = left - sz) := hid (fun h => by rw [← hr, if_neg h])
  clear hr
  by_cases hl : left < ss.length
  · obtain rfl : r = -1 := HR1.out (by have := HD.out; omega)
    clear HR1 HR2
    have hl' : left - ss.length < 0 := by omega
    go_enter Tryz.func42, Tryz.ntmps42
    go_wp2
    go_ret
    exact ⟨rfl, rfl⟩
  · have hl' : ¬ (left - ss.length < 0) := by omega
    go_enter Tryz.func42, Tryz.ntmps42
    go_wp2
    go_loop [1, 4, 5] (fun c r i' => ∃ k : Nat, k ≤ ss.length ∧ i' = .int .i64 k ∧ c = .int .i64 (left - ss.length - totS (ss.take k)) ∧ r = .int .i64 0 ∧ (totS (ss.take k) : Int) ≤ left - ss.length) (fun _ _ i => ss.length - (intOf i).toNat)
    case atStart => exact ⟨0, by omega, rfl, by rw [HT0.out]; simp, rfl, by rw [HT0.out]; omega⟩
    case round =>
      obtain ⟨k, hk, rfl, rfl, rfl, hb⟩ := hrel
      by_cases hlt : k < ss.length
      · have hlt' : (k : Int) < ss.length := by omega
        obtain ⟨b, off, rfl, hc⟩ := HV.out.get k hlt
        have hs := HTS.out k hlt
        have hs2 := HTL.out (k + 1)
        have HS := hid hs; clear hs
        have hxs := HSZ.out k hlt
        unfold maxLen at hxs
        generalize ss[k] = x at *
        generalize totS (ss.take k) = t at *
        by_cases hlx : left - ss.length - t - x.size < 0
        · have hx : r = -1 := HR1.out (by have hx := HD.out; have hx2 := HS.out; omega)
          have HRR := hid hx; clear hx HR1 HR2
          go_wp2
          go_ret
          exact ⟨ret_int (by rw [HRR.out]), rfl⟩
        · have hx0 : 0 ≤ left - ss.length - t - x.size := by omega
          have hx1 : left - ss.length - t - x.size ≤ 1048576 := by omega
          go_wp2
          go_round
          case rel => exact ⟨k + 1, by omega, by go_num, by rw [HS.out]; first | (push_cast; go_num) | (congr 1; omega) | go_num, rfl, by rw [HS.out]; push_cast; omega⟩
          case measure => simp [intOf]; omega
      · obtain rfl : k = ss.length := by omega
        have hlt' : ¬ ((ss.length : Int) < ss.length) := by omega
        rw [HTE.out] at hb ⊢
        have hx : r = left - ss.length - (totS ss : Int) := by
          rw [HR2.out (by have := HD.out; omega), HD.out]; push_cast; omega
        have HRR := hid hx; clear hx HR1 HR2
        go_wp2
        go_ret
        exact ⟨ret_int (by rw [HRR.out]), rfl⟩
theorem szStringS_big (p : Option Addr) (n cap : Nat) (left : Int) (w : World) (hn : n ≤ maxLen) (h0 : 0 ≤ left) (h1 : left ≤ 1048576) (hl : left < n) :
    Calls Tryz.prog 42 #[.slice p n cap, .int .i64 left] w fun e w' => e = .returned (.int .i64 (-1)) ∧ w = w' := by
  unfold maxLen at hn
  have hl' : left - n < 0 := by omega
  go_enter Tryz.func42, Tryz.ntmps42
  go_wp2
  go_ret
  exact ⟨rfl, rfl⟩
/-- what is counted for a slice of texts -/
def SzS (w : World) (v : Value) (N : Nat) : Prop :=
  (∀ (w' : World) (left : Int), Keeps w w' → 0 ≤ left → left ≤ 1048576 → Calls Tryz.prog 42 #[v, .int .i64 left] w' fun e w'' => e = .returned (.int .i64 (if left < N then -1 else left - N)) ∧ w' = w'') ∧
  (N ≤ 1048576 → ∃ ss : List ByteArray, N = szB ss ∧ Strs w v ss)
theorem SzS.keeps {w w' : World} {v : Value} {N : Nat} (h : SzS w v N) (k : Keeps w w') : SzS w' v N :=
  ⟨fun w2 left k2 h0 h1 => h.1 w2 left (k.trans k2) h0 h1, fun hN => by
    obtain ⟨ss, e, hs⟩ := h.2 hN
    exact ⟨ss, e, hs.keeps k⟩⟩
theorem SzS.of {w : World} {v : Value} {ss : List ByteArray} (h : Strs w v ss) (hz : szB ss ≤ 1048576) : SzS w v (szB ss) :=
  ⟨fun w' left k h0 h1 => szStringS_any ss _ left w' (h.keeps k) (szB_small hz) h0 h1, fun _ => ⟨ss, rfl, h⟩⟩
theorem WkS.sz {w : World} {v : Value} (h : WkS w v) : ∃ N, SzS w v N := by
  obtain ⟨p, n, cap, rfl, hm, hr⟩ := h
  by_cases hn : n ≤ 2147483648
  · obtain ⟨ss, rfl, hv, hz⟩ := hr hn
    exact ⟨szB ss, fun w' left k h0 h1 => szStringS_any ss _ left w' (hv.keeps k) hz h0 h1, fun _ => ⟨ss, rfl, hv⟩⟩
  · exact ⟨n, fun w' left _ h0 h1 => by
      rw [if_pos (by omega)]
      exact szStringS_big p n cap left w' hm h0 h1 (by omega), fun h => by omega⟩
theorem SepS.of {w1 w2 : World} {B1 B2 : Nat} {va vb : Value} {a b : List ByteArray} (h1 : OwnS w1 B1 va a) (h2 : OwnS w2 B2 vb b) (h : w1.heap.size ≤ B2) : Sep va vb := fun k e1 e2 => by
  have := h1.len k e1; have := h2.len k e2; omega
/-- a sequent's two owned rows, which lie apart -/
def OwnQ (w : World) (B : Nat) (va vb : Value) (a b : List ByteArray) : Prop := OwnS w B va a ∧ OwnS w B vb b ∧ Sep va vb
theorem OwnQ.keeps {w w' : World} {B : Nat} {va vb : Value} {a b : List ByteArray} (h : OwnQ w B va vb a b) (k : Keeps w w') : OwnQ w' B va vb a b := ⟨h.1.keeps k, h.2.1.keeps k, h.2.2⟩
theorem OwnQ.mono {w : World} {B B' : Nat} {va vb : Value} {a b : List ByteArray} (h : OwnQ w B va vb a b) (k : B' ≤ B) : OwnQ w B' va vb a b := ⟨h.1.mono k, h.2.1.mono k, h.2.2⟩
theorem OwnQ.low {w w' : World} {B : Nat} {va vb : Value} {a b : List ByteArray} (h : OwnQ w B va vb a b) (k : Low w w' B) : OwnQ w' B va vb a b := ⟨h.1.low k, h.2.1.low k, h.2.2⟩
theorem OwnQ.lowOf {w0 w : World} {B : Nat} {va vb : Value} {a b : List ByteArray} (h : OwnQ w0 B va vb a b) (k : Keeps w0 w) : Low w0 w B := by have _ := h; exact Low.of k B
theorem OwnS.setBelow {w : World} {B : Nat} {v : Value} {a : List ByteArray} (h : OwnS w B v a) {b o : Nat} (hb : b < B) (u : Value) : OwnS (w.setCell ⟨b, o, none⟩ u) B v a := ownsRow_setCell_below h (a := ⟨b, o, none⟩) hb u
--
set_option maxRecDepth 20000 in
theorem szModalSequent_any (va vb : Value) (A B : Nat) (left : Int) (w : World) (ha : SzS w va A) (hb : SzS w vb B) (hsa : ∃ p n c, va = .slice p n c) (hsb : ∃ p n c, vb = .slice p n c) (h0 : 0 ≤ left) (h1 : left ≤ 1048576) :
    Calls Tryz.prog 9 #[.agg #[va, vb], .int .i64 left] w fun e w' => e = .returned (.int .i64 (if left < A + B then -1 else left - A - B)) ∧ Keeps w w' := by
  have k1 := (Keeps.refl w).alloc (.cells #[va, vb] 24)
  have HA := hid (ha.1 _ left k1 h0 h1)
  have HB := hid (fun l h2 h3 => hb.1 (w.alloc (.cells #[va, vb] 24)) l k1 h2 h3)
  obtain ⟨p, n, c, rfl⟩ := hsa
  obtain ⟨q, n2, c2, rfl⟩ := hsb
  clear ha hb
  by_cases h : left < A
  · rw [if_pos h] at HA
    rw [if_pos (by omega)]
    go_enter Tryz.func9, Tryz.ntmps9
    go_wp2_with fail
    refine HA.out.mono ?_; rintro e w2 ⟨rfl, rfl⟩
    go_wp2_with fail
    go_ret
    exact ⟨rfl, k1⟩
  · rw [if_neg h] at HA
    have HB2 := hid (HB.out (left - A) (by omega) (by omega))
    have hlo : ¬ (left - A < 0) := by omega
    by_cases h2 : left - A < B
    · rw [if_pos h2] at HB2
      rw [if_pos (by omega)]
      go_enter Tryz.func9, Tryz.ntmps9
      go_wp2_with fail
      refine HA.out.mono ?_; rintro e w2 ⟨rfl, rfl⟩
      go_wp2_with fail
      refine HB2.out.mono ?_; rintro e w3 ⟨rfl, rfl⟩
      go_wp2_with fail
      go_ret
      exact ⟨rfl, k1⟩
    · rw [if_neg h2] at HB2
      rw [if_neg (by omega)]
      have hlo2 : ¬ (left - A - B < 0) := by omega
      go_enter Tryz.func9, Tryz.ntmps9
      go_wp2_with fail
      refine HA.out.mono ?_; rintro e w2 ⟨rfl, rfl⟩
      go_wp2_with fail
      refine HB2.out.mono ?_; rintro e w3 ⟨rfl, rfl⟩
      go_wp2_with fail
      go_ret
      exact ⟨rfl, k1⟩
--
theorem madeS (n : Nat) : (madeCells (Value.cells (.string ⟨#[]⟩)) (n * 1)).toList = strCells (List.replicate n ⟨#[]⟩) := by
  rw [Nat.mul_one, show Value.cells (.string ⟨#[]⟩) = #[.string ⟨#[]⟩] from rfl, toList_madeCells_one]; simp [strCells]
theorem run_makeS (w : World) (n : Nat) (hn : n ≤ 2147483648) : ∃ w', (Instr.makeSlice 22 (.int .i64 (n : Int)) (.int .i64 (n : Int))).run Tryz.prog w = .ok (.slice (some ⟨w.heap.size, 0, none⟩) n n) w' ∧
      OwnS w' w.heap.size (.slice (some ⟨w.heap.size, 0, none⟩) n n) (List.replicate n ⟨#[]⟩) ∧ Keeps w w' := by
  obtain ⟨i0, hi, hz0, hz1, hz2⟩ := info_parts infoS
  obtain ⟨w', hr, ho, hg⟩ := run_make_full (P := Tryz.prog) w w.heap.size 22 9 i0 _ 1 Tryz.underlying22 hi hz0 hz1 .i64 .i64 n (by rw [hz2]; omega) (by unfold maxLen; omega) (Nat.le_refl _)
  refine ⟨w', hr, ?_, (Keeps.refl w).grown hg (by simp)⟩
  unfold OwnS
  rw [List.length_replicate, ← madeS]
  exact ho
set_option maxRecDepth 20000 in
set_option maxHeartbeats 1000000 in
theorem toStringS_any (a : List ByteArray) (v : Value) (w : World) (hv : Strs w v a) : Calls Tryz.prog 45 #[v] w fun e w' => ∃ v', e = .returned v' ∧ OwnS w' w.heap.size v' a ∧ Keeps w w' := by
  have hv0 := hv
  obtain ⟨p, cap, rfl, hle, hmx, hlen⟩ := hv.shape
  unfold maxLen at hmx
  obtain ⟨w1, hmk, hown, k1⟩ := run_makeS w a.length (by omega)
  have Hown := hid hown; clear hown
  have HV := hid hv0; clear hv hv0
  go_enter Tryz.func45, Tryz.ntmps45
  go_wp2
  clear hmk
  have hown := Hown.out
  go_loopw [4] (fun i' wr => ∃ (k : Nat) (xs : List ByteArray), k ≤ a.length ∧ i' = .int .i64 k ∧ xs.length = a.length ∧ xs.take k = a.take k ∧ OwnS wr w.heap.size (.slice (some ⟨w.heap.size, 0, none⟩) a.length a.length) xs ∧ Keeps w wr) (fun i _ => a.length - (intOf i).toNat)
  case atStart => exact ⟨0, _, by omega, rfl, by simp, by simp, hown, k1⟩
  case round =>
    obtain ⟨k, xs, hk, rfl, hxl, htk, hownk, kw⟩ := hrel
    have HX := hid hxl; clear hxl
    have HT := hid htk; clear htk
    clear Hown hown
    by_cases hlt : k < a.length
    · have hltx : k < xs.length := by have := HX.out; omega
      obtain ⟨b1, o1, rfl, h1⟩ := (HV.out.keeps kw).get k hlt
      have hlt' : (k : Int) < a.length := by omega
      obtain ⟨c1, c3⟩ := OwnS.cellAt (a := xs) (by rw [HX.out]; exact hownk) (List.getElem?_eq_getElem hltx)
      have h3 := (OwnS.store (a := xs) (by rw [HX.out]; exact hownk) k a[k]).1
      rw [HX.out] at h3
      have H3 := hid h3; clear h3
      have HO := hid hownk; clear hownk
      go_wp2
      go_roundw
      case rel =>
        refine ⟨k + 1, _, by omega, by go_num, ?_, ?_, H3.out, ?_⟩
        · rw [List.length_set]; exact HX.out
        · rw [take_set _ _ _ hltx, List.take_succ_eq_append_getElem hlt, HT.out]
        · exact kw.setCell (Nat.le_refl _) _
      case measure => simp [intOf]; omega
    · have hlt' : ¬ (k : Int) < a.length := by omega
      go_wp2
      go_ret
      have hx : xs = a := by
        have h1 := HX.out; have h2 := HT.out
        rw [List.take_of_length_le (by omega), List.take_of_length_le (by omega)] at h2
        exact h2
      subst hx
      exact ⟨_, rfl, hownk, kw⟩
--
set_option maxRecDepth 20000 in
theorem toModalSequent_any (a b : List ByteArray) (va vb : Value) (w : World) (hva : Strs w va a) (hvb : Strs w vb b) :
    Calls Tryz.prog 11 #[.agg #[va, vb]] w fun e w' => ∃ va' vb', e = .returned (.agg #[va', vb']) ∧ OwnQ w' w.heap.size va' vb' a b ∧ Keeps w w' := by
  obtain ⟨p, m, c, rfl⟩ := hva.shape0
  obtain ⟨q, m2, c2, rfl⟩ := hvb.shape0
  have kA := (((Keeps.refl w).alloc (.cells #[.slice p m c, .slice q m2 c2] 24)).alloc (.cells #[.slice none 0 0, .slice none 0 0] 29)).alloc (.cells #[.slice none 0 0, .slice none 0 0] 29)
  have HF := hid (toStringS_any a _ _ (hva.keeps kA))
  have HT := hid (fun w2 (k : Keeps w w2) => toStringS_any b _ w2 (hvb.keeps k))
  clear hva hvb
  go_enter Tryz.func11, Tryz.ntmps11
  go_wp2_with fail
  refine HF.out.mono ?_; rintro e w2 ⟨v2, rfl, hv2, k2⟩
  obtain ⟨p2, m3, c3, rfl⟩ := hv2.shape0
  obtain ⟨hc2, hf2⟩ := k2.both
  have hs2 := k2.size
  simp at hs2
  have g2 : w.heap.size + 1 + 1 < w2.heap.size := by omega
  have g1 : w.heap.size + 1 < w2.heap.size := by omega
  have kS := (kA.trans k2).setCell (p := ⟨w.heap.size + 1 + 1, 0, none⟩) (by simp; omega) (.slice p2 m3 c3)
  have hO := hv2.setBelow (b := w.heap.size + 1 + 1) (o := 0) (by simp) (.slice p2 m3 c3)
  have HT2 := hid (HT.out _ kS)
  clear HT
  go_wp2_with fail
  refine HT2.out.mono ?_; rintro e w3 ⟨v3, rfl, hv3, k3⟩
  have hsep : Sep (.slice p2 m3 c3) v3 := SepS.of hO hv3 (Nat.le_refl _)
  obtain ⟨p4, m4, c4, rfl⟩ := hv3.shape0
  obtain ⟨hc3, hf3⟩ := k3.both
  have hs3 := k3.size
  simp at hs3
  have g3 : w.heap.size + 1 + 1 < w3.heap.size := by omega
  go_wp2_with fail
  refine bodyPost_ret (v := .agg #[.slice p2 m3 c3, .slice p4 m4 c4]) (by simp [results, Tryz.results11, go_sem, hc2, hc3, g1]) rfl ?_
  have hO3 := hO.keeps k3
  exact ⟨_, _, rfl, ⟨(((hO3.setBelow (by simp) _).setBelow (by simp) _).setBelow (by simp) _).mono (by simp; omega), (((hv3.setBelow (by simp; omega) _).setBelow (by simp; omega) _).setBelow (by simp; omega) _).mono (by simp; omega), hsep⟩, (((kS.trans k3).setCell (by simp; omega) _).setCell (by simp) _).setCell (by simp) _⟩
--
set_option maxRecDepth 20000 in
theorem eqModalSequent_same (a b : List ByteArray) (va vb ua ub : Value) (w : World) (hva : Strs w va a) (hvb : Strs w vb b) (hua : Strs w ua a) (hub : Strs w ub b) :
    Calls Tryz.prog 14 #[.agg #[va, vb], .agg #[ua, ub]] w fun e w' => e = .returned (.bool true) ∧ Keeps w w' := by
  obtain ⟨p1, n1, c1, rfl⟩ := hva.shape0
  obtain ⟨p2, n2, c2, rfl⟩ := hvb.shape0
  obtain ⟨p3, n3, c3, rfl⟩ := hua.shape0
  obtain ⟨p4, n4, c4, rfl⟩ := hub.shape0
  have k1 := ((Keeps.refl w).alloc (.cells #[.slice p1 n1 c1, .slice p2 n2 c2] 29)).alloc (.cells #[.slice p3 n3 c3, .slice p4 n4 c4] 29)
  have HF := hid (eqStringS_same a _ _ _ (hva.keeps k1) (hua.keeps k1))
  have HE := hid (fun w2 (k : Keeps w w2) => eqStringS_same b _ _ w2 (hvb.keeps k) (hub.keeps k))
  clear hva hvb hua hub
  go_enter Tryz.func14, Tryz.ntmps14
  go_wp2_with fail
  refine HF.out.mono ?_; rintro e w2 ⟨rfl, k2⟩
  have HE2 := hid (HE.out _ (k1.trans k2))
  clear HE
  obtain ⟨hc2, hf2⟩ := k2.both
  go_wp2_with fail
  refine HE2.out.mono ?_; rintro e w3 ⟨rfl, k3⟩
  go_wp2_with fail
  go_ret
  exact ⟨rfl, k1.trans (k2.trans k3)⟩
--
set_option maxRecDepth 20000 in
theorem markQ_t (a b : List ByteArray) (va vb : Value) (k0 : Int) (w0 w : World) (B : Nat) (hv : OwnQ w0 B va vb a b) (k : Low w0 w B) (hl : a.length + b.length ≤ 100000000) (hk0 : 0 < k0) (hk1 : k0 ≤ 100000000) :
    Calls Tryz.prog 15 #[.agg #[va, vb], .int .i64 k0] w fun e w' => e = .returned (.int .i64 (k0 + a.length + b.length)) ∧ OwnQ w' B va vb (marksS a.length k0) (marksS b.length (k0 + a.length)) ∧ Touch w w' (fun i => B ≤ i ∧ i < w0.heap.size) := by
  obtain ⟨h1, h2, hs⟩ := hv
  have hl1 := h1.len
  have hl2 := h2.len
  obtain ⟨p1, n1, c1, rfl⟩ := h1.shape0
  obtain ⟨p2, n2, c2, rfl⟩ := h2.shape0
  have k1 := (Keeps.refl w).alloc (.cells #[.slice p1 n1 c1, .slice p2 n2 c2] 29)
  have hBw := k.size
  have HF := hid (markS_o a _ k0 _ B (h1.low (k.keeps k1)) (by omega) hk0 (by omega))
  have hb0 := (h2.low (k.keeps k1))
  have HO := hid hb0; clear hb0
  have HS := hid hs; clear hs
  have HL1 := hid hl1; clear hl1
  have HL2 := hid hl2; clear hl2
  have HM := hid (fun w2 (h : OwnS w2 B (.slice p2 n2 c2) b) => markS_o b _ (k0 + a.length) w2 B h (by omega) (by omega) (by omega))
  have HK := hid k; clear k
  clear h1 h2
  go_enter Tryz.func15, Tryz.ntmps15
  go_wp2_with fail
  refine HF.out.mono ?_; rintro e w2 ⟨rfl, hv2, t2⟩
  have hbx : (w.alloc (.cells #[.slice p1 n1 c1, .slice p2 n2 c2] 29)).cell? ⟨w.heap.size, 1, none⟩ = some (.slice p2 n2 c2) := by simp
  have hnb : ¬ (some w.heap.size = (Value.slice p1 n1 c1).ownBlock) := fun e => by have := HL1.out _ e.symm; omega
  have hc2 : w2.cell? ⟨w.heap.size, 1, none⟩ = some (.slice p2 n2 c2) := by rw [(t2.cell (b := w.heap.size) (by simp) hnb).1]; exact hbx
  have HB := hid (HO.out.touch t2 (fun i e1 e2 => HS.out i e2.symm e1))
  clear hbx hnb
  have HM2 := hid (HM.out _ HB.out)
  clear HM
  go_wp2_with fail
  refine HM2.out.mono ?_; rintro e w3 ⟨rfl, hv3, g3⟩
  go_wp2_with fail
  go_ret
  refine ⟨ret_int (by omega), ⟨hv2.touch g3 (fun i e1 e2 => HS.out i e1 e2.symm), hv3, HS.out⟩, ?_⟩
  refine touch_pre k1 (Touch.trans (t2.mono fun i e => HL1.out i e.symm) (g3.mono fun i e => HL2.out i e.symm))
end Go.Proofs.YtgnehffglhbggaaGreat
/- Arguments of the laws: modal sequents. -/
namespace Go.Proofs.YtgnehffglhbggaaGreat
open Go.ChangeShapes Go.WideShapes Go.ChangeAt Go.RowKit Go.Deep
section
variable {H : Type} {enc : TypeId × Value → H} {W : World}
--
set_option maxRecDepth 100000 in
theorem wkS_trod {u : Value} {fuel : Nat} {x : DataW H × List MemPlace} (hf : DataW.trod enc Tryz.prog W 0 (fun _ => true) true fuel 22 [u] = some x) : WkS W u := by
  have hC : Tryz.prog.cellsOf 9 = 1 := by kernel_rfl
  rcases open_slice1 Tryz.underlying22 hC hf with ⟨hcs, _⟩ | ⟨a, n, cap, m, n', V, D, Pl, hcs, _, hl, hm, hmm, _, hi⟩
  · obtain rfl : u = .slice none 0 0 := by simpa using hcs
    exact ⟨none, 0, 0, rfl, by simp [maxLen], fun _ => ⟨[], rfl, (OwnS.nil W 0).strs (by simp), fun s h => by simp at h⟩⟩
  · obtain rfl : u = .slice (some a) n cap := by simpa using hcs
    refine ⟨some a, n, cap, rfl, by omega, fun hn => ?_⟩
    simp at hmm
    have hel : ∀ i, i < n → ∃ x : ByteArray, W.cell? (a.add i) = some (.string x) ∧ x.size ≤ maxLen := fun i hin => by
      obtain ⟨h1, h2⟩ := hi i (by omega)
      obtain ⟨x, hx, _, hxz⟩ := DataW.trod_string Tryz.underlying9 h2
      simp at hx
      exact ⟨x, by rw [h1, hx], hxz⟩
    have hspot : 0 < n → ∃ b off, a = ⟨b, off, none⟩ := fun h0 => by
      obtain ⟨b, off, spot⟩ := a
      obtain ⟨x, hx, _⟩ := hel 0 h0
      have hs : spot = none := by simpa [Addr.add] using World.cell?_spot hx
      subst hs
      exact ⟨b, off, rfl⟩
    have hadd : ∀ b off k, (⟨b, off, none⟩ : Addr).add k = ⟨b, off + k, none⟩ := fun b off k => by unfold Addr.add; split <;> simp_all
    obtain ⟨l, hnl, hns⟩ := choose_allI (α := ByteArray) (P := fun i x => W.cell? (a.add i) = some (.string x) ∧ x.size ≤ maxLen) (n := n) hel
    subst hnl
    refine ⟨l, rfl, Strs.ofAt hl hm ?_ hn, fun s hs => by
      obtain ⟨i, hi, rfl⟩ := List.getElem_of_mem hs
      exact (hns i hi).2⟩
    intro j hj
    have hj' : j < l.length := by simpa [strCells] using hj
    obtain ⟨b, off, rfl⟩ := hspot (by omega)
    refine ⟨b, off, rfl, ?_⟩
    have := (hns j hj').1
    rw [hadd] at this
    rw [this]; simp [strCells]
set_option maxRecDepth 100000 in
theorem open_sequent {r : Reach} {b0 : Nat} {v : Value} {d : DataW H} {ps : List MemPlace} (hval : Value.okWide Tryz.prog W r b0 24 v)
    (h : DataW.Trod enc Tryz.prog W 0 (fun _ => true) true 24 v d ps) : ∃ y z, v = .agg #[y, z] ∧ WkS W y ∧ WkS W z := by
  obtain ⟨x, y, _, _, n, rfl, _, _, h1, h2⟩ := Go.Joins.open_agg2 Tryz.underlying24 (by kernel_rfl) (by kernel_rfl) hval h
  exact ⟨x, y, rfl, wkS_trod h1, wkS_trod h2⟩
end
end Go.Proofs.YtgnehffglhbggaaGreat
/- The law of SurvivingTypes. -/
namespace Go.Proofs.YtgnehffglhbggaaGreat
open Go.RowKit
--
set_option maxRecDepth 20000 in
set_option maxHeartbeats 8000000 in
theorem lawSurvivingTypes (s0 : ByteArray) (a1 b1 : List ByteArray) (v1 u1 : Value) (x0 : List Int) (code : Int) (hrl : x0.length ≤ 100000) (hs : ∀ (v1' : Value) (u1' : Value) (w : World), Strs w v1' a1 → Strs w u1' b1 → Calls Tryz.prog 10 #[.string s0, .agg #[v1', u1']] w (fun e w' => ∃ r0a, e = .returned (.tuple #[r0a, .int .i64 code]) ∧ Ints w' r0a x0 ∧ Keeps w w')) (hi : ∀ (v1' : Value) (u1' : Value) (w : World), Strs w v1' a1 → Strs w u1' b1 → Calls Tryz.prog 12 #[.string s0, .agg #[v1', u1']] w (fun e w' => ∃ r0a, e = .returned (.tuple #[r0a, .int .i64 code]) ∧ OwnI w' w.heap.size r0a x0 ∧ Keeps w w')) (w : World)  (hv1 : Strs w v1 a1) (hu1 : Strs w u1 b1) (hsum : szB a1 + szB b1 ≤ 1048576) (hlen0 : s0.size ≤ 1048576) :
    Calls Tryz.prog 3 #[.string s0, .agg #[v1, u1]] w fun e w' => e = .returned (.bool true) ∧ Keeps w w' := by
  have HS := hid hs; clear hs
  have HI := hid hi; clear hi
  obtain ⟨v1p, v1m, v1q, rfl⟩ := hv1.shape0
  obtain ⟨hn, hxv1⟩ : v1m = a1.length ∧ v1m ≤ maxLen := by obtain ⟨_, _, e, h1, h2, _⟩ := hv1.shape; cases e; exact ⟨rfl, by omega⟩
  subst hn
  obtain ⟨u1p, u1m, u1q, rfl⟩ := hu1.shape0
  obtain ⟨hn, hxu1⟩ : u1m = b1.length ∧ u1m ≤ maxLen := by obtain ⟨_, _, e, h1, h2, _⟩ := hu1.shape; cases e; exact ⟨rfl, by omega⟩
  subst hn
  have hlba1 := szB_len a1
  have hlbb1 := szB_len b1
  have kP : Keeps w (w.alloc (.cells #[.slice v1p a1.length v1q, .slice u1p b1.length u1q] 24)) := ((Keeps.refl w).alloc (.cells #[.slice v1p a1.length v1q, .slice u1p b1.length u1q] 24))
  have pc10 : (w.alloc (.cells #[.slice v1p a1.length v1q, .slice u1p b1.length u1q] 24)).cell? ⟨w.heap.size, 0, none⟩ = some (.slice v1p a1.length v1q) := by simp
  have pc11 : (w.alloc (.cells #[.slice v1p a1.length v1q, .slice u1p b1.length u1q] 24)).cell? ⟨w.heap.size, 1, none⟩ = some (.slice u1p b1.length u1q) := by simp
  replace hv1 := hv1.keeps kP
  replace hu1 := hu1.keeps kP
  have kW := Keeps.refl (w.alloc (.cells #[.slice v1p a1.length v1q, .slice u1p b1.length u1q] 24))
  go_enter Tryz.func3, Tryz.ntmps3
  have qc0 := kW.cell pc10
  have qc1 := kW.cell pc11
  go_wp2_with fail
  refine (szModalSequent_any _ _ (szB a1) (szB b1) (1048576) _ (SzS.of (hv1.keeps kW) (by omega)) (SzS.of (hu1.keeps kW) (by omega)) ⟨_, _, _, rfl⟩ ⟨_, _, _, rfl⟩ (by omega) (by omega)).mono ?_; rintro e w1 ⟨rfl, kw1⟩
  replace kW := kW.trans kw1
  rw [if_neg (by omega)]
  clear qc0 qc1
  have hp1 : (0 : Int) ≤ 1048576 - (szB a1 : Int) - (szB b1 : Int) := by omega
  clear hxv1 hxu1
  have qc0 := kW.cell pc10
  have qc1 := kW.cell pc11
  go_wp2_with fail
  refine (toModalSequent_any a1 b1 _ _ _ (hv1.keeps kW) (hu1.keeps kW)).mono ?_; rintro e w2 ⟨s1a, s1b, rfl, hs1, kw2⟩
  replace kW := kW.trans kw2
  clear qc0 qc1
  have kS1 := Keeps.refl w2
  go_wp2_with fail
  refine (HS.out _ _ _ ((hs1.keeps kS1).1.strs (by omega)) ((hs1.keeps kS1).2.1.strs (by omega))).mono ?_; rintro e w3 ⟨f0a, rfl, hf0a, kw3⟩
  replace kW := kW.trans kw3
  replace kS1 := kS1.trans kw3
  clear hs1 kS1
  obtain ⟨f0ap, f0am, f0aq, rfl⟩ := hf0a.shape
  have kS := Keeps.refl w3
  have nWx1 := kW.size
  have nSx1 := kS.size
  have qc0 := kW.cell pc10
  have qc1 := kW.cell pc11
  go_wp2_with fail
  refine (toModalSequent_any a1 b1 _ _ _ (hv1.keeps kW) (hu1.keeps kW)).mono ?_; rintro e w4 ⟨x1a, x1b, rfl, hx1, kw4⟩
  replace kW := kW.trans kw4
  replace kS := kS.trans kw4
  clear qc0 qc1
  have kX1 := Keeps.refl w4
  obtain ⟨x1ap, x1am, x1aq, rfl⟩ := hx1.1.shape0
  obtain ⟨x1bp, x1bm, x1bq, rfl⟩ := hx1.2.1.shape0
  have kb := (Keeps.refl w4).alloc (.cells #[.slice x1ap x1am x1aq, .slice x1bp x1bm x1bq] 29)
  replace kW := kW.trans kb
  replace kS := kS.trans kb
  replace kX1 := kX1.trans kb
  have xc10 : (w4.alloc (.cells #[.slice x1ap x1am x1aq, .slice x1bp x1bm x1bq] 29)).cell? ⟨w4.heap.size, 0, none⟩ = some (.slice x1ap x1am x1aq) := by simp
  have xc11 : (w4.alloc (.cells #[.slice x1ap x1am x1aq, .slice x1bp x1bm x1bq] 29)).cell? ⟨w4.heap.size, 1, none⟩ = some (.slice x1bp x1bm x1bq) := by simp
  have kB1 := Keeps.refl (w4.alloc (.cells #[.slice x1ap x1am x1aq, .slice x1bp x1bm x1bq] 29))
  clear kb
  have nWg := kW.size
  have nSg := kS.size
  have nX1g := kX1.size
  have yc10 := kB1.cell xc10
  have yc11 := kB1.cell xc11
  go_wp2_with fail
  refine (HI.out _ _ _ ((hx1.keeps kX1).1.strs (by omega)) ((hx1.keeps kX1).2.1.strs (by omega))).mono ?_; rintro e w5 ⟨g0a, rfl, hg0, kw5⟩
  replace kW := kW.trans kw5
  replace kS := kS.trans kw5
  replace kX1 := kX1.trans kw5
  replace kB1 := kB1.trans kw5
  clear yc10 yc11
  obtain ⟨g0ap, g0am, g0aq, rfl⟩ := hg0.shape0
  have nWh := kW.size
  have nSh := kS.size
  have nX1h := kX1.size
  have kG := Keeps.refl w5
  have kB := Keeps.refl w5
  go_wp2_with fail
  refine (eqInt64S_any x0 x0 _ _ _ ((hg0.keeps kG).ints (by omega)) (hf0a.keeps kS)).mono ?_; rintro e w6 ⟨rfl, kw6⟩
  replace kW := kW.trans kw6
  replace kS := kS.trans kw6
  replace kX1 := kX1.trans kw6
  replace kB1 := kB1.trans kw6
  replace kG := kG.trans kw6
  replace kB := kB.trans kw6
  rw [decide_eq_true rfl]
  go_wp2_with fail
  have kd := (Keeps.refl w6).drew
  replace kW := kW.trans kd
  replace kS := kS.trans kd
  replace kX1 := kX1.trans kd
  replace kB1 := kB1.trans kd
  replace kG := kG.trans kd
  replace kB := kB.trans kd
  have ya0 := kB1.cell xc10
  have ya1 := kB1.cell xc11
  have qc0 := kW.cell pc10
  have qc1 := kW.cell pc11
  have HR := hid (toModalSequent_any a1 b1 _ _ _ (hv1.keeps kW) (hu1.keeps kW))
  have HQ := hid (fun (w' : World) (k' : Keeps w6.drew w') v u h1 h2 => eqModalSequent_same a1 b1 _ _ v u w' ((hx1.keeps (kX1.trans k')).1.strs (by omega)) ((hx1.keeps (kX1.trans k')).2.1.strs (by omega)) h1 h2)
  go_region_held3 (fun w' => w'.cell? ⟨w4.heap.size, 0, none⟩ = some (.slice x1ap x1am x1aq) ∧ w'.cell? ⟨w4.heap.size, 1, none⟩ = some (.slice x1bp x1bm x1bq) ∧ w'.cell? ⟨w.heap.size, 0, none⟩ = some (.slice v1p a1.length v1q) ∧ w'.cell? ⟨w.heap.size, 1, none⟩ = some (.slice u1p b1.length u1q)) (first | exact ⟨ya0, ya1, qc0, qc1⟩ | exact ⟨za0, za1, oc0, oc1⟩ | exact ⟨ta0, ta1, va0, va1⟩) (first | (go_at_call 11; refine HR.out.mono ?_; rintro e w7 ⟨ra, rb, rfl, hr1, kw7⟩; have za0 := kw7.cell ya0; have za1 := kw7.cell ya1; have oc0 := kw7.cell qc0; have oc1 := kw7.cell qc1) | (go_at_call 14; refine (HQ.out w7 kw7 _ _ (hr1.1.strs (by omega)) (hr1.2.1.strs (by omega))).mono ?_; rintro e w8 ⟨rfl, kw8⟩; have ta0 := kw8.cell za0; have ta1 := kw8.cell za1; have va0 := kw8.cell oc0; have va1 := kw8.cell oc1))
  replace kW := kW.trans (kw7.trans kw8)
  replace kS := kS.trans (kw7.trans kw8)
  replace kX1 := kX1.trans (kw7.trans kw8)
  replace kB1 := kB1.trans (kw7.trans kw8)
  replace kG := kG.trans (kw7.trans kw8)
  replace kB := kB.trans (kw7.trans kw8)
  clear HR HQ hr1 ya0 qc0 za0 oc0 ta0 va0 ya1 qc1 za1 oc1 ta1 va1
  have kL1 := hx1.lowOf kX1
  clear kX1
  have kGL := hg0.lowOf kG
  clear kG
  replace xc10 := kB1.cell xc10
  replace xc11 := kB1.cell xc11
  clear kB1
  clear kB
  have yc0 := xc10
  have yc1 := xc11
  go_wp2_with fail
  refine (markQ_t a1 b1 _ _ (1) _ _ _ hx1 kL1 (by omega) (by omega) (by omega)).mono ?_; rintro e w9 ⟨rfl, _, tw9⟩
  clear yc0 yc1
  replace kW := kW.touched tw9 (by first | omega | (simp at *; omega))
  replace kS := kS.touched tw9 (by first | omega | (simp at *; omega))
  replace kGL := kGL.touch tw9 (fun i hi => by first | omega | (simp at *; omega))
  clear hx1 kL1 tw9 xc10 xc11
  have hm1' : (0 : Int) ≤ 1 + (a1.length : Int) + (b1.length : Int) := by omega
  have kB := Keeps.refl w9
  go_wp2_with fail
  refine (eqInt64S_any x0 x0 _ _ _ ((hg0.low (kGL.keeps kB)).ints (by omega)) (hf0a.keeps kS)).mono ?_; rintro e w10 ⟨rfl, kw10⟩
  replace kW := kW.trans kw10
  replace kS := kS.trans kw10
  replace kB := kB.trans kw10
  rw [decide_eq_true rfl]
  replace kGL := kGL.keeps kB
  clear kB
  go_wp2_with fail
  refine (markI_t x0 _ 1 _ _ _ hg0 kGL (by omega) (by omega) (by omega)).mono ?_; rintro e w11 ⟨rfl, hM0, tw11⟩
  replace kW := kW.touched tw11 (by first | omega | (simp at *; omega))
  replace kS := kS.touched tw11 (by first | omega | (simp at *; omega))
  clear hg0 kGL
  have kM := Keeps.refl w11
  go_wp2_with fail
  refine (heldInt64S_any x0.length _ (1) _ ((hM0.keeps kM).ints (by rw [marksI_length]; omega)) (by omega) (by omega)).mono ?_; rintro e w' ⟨rfl, rfl⟩
  have qc0 := kW.cell pc10
  have qc1 := kW.cell pc11
  go_wp2_with fail
  refine (toModalSequent_any a1 b1 _ _ _ (hv1.keeps kW) (hu1.keeps kW)).mono ?_; rintro e w12 ⟨e1a, e1b, rfl, he1, kw12⟩
  replace kW := kW.trans kw12
  replace kS := kS.trans kw12
  replace kM := kM.trans kw12
  clear qc0 qc1
  have kZ1 := Keeps.refl w12
  go_wp2_with fail
  refine (HI.out _ _ _ ((he1.keeps kZ1).1.strs (by omega)) ((he1.keeps kZ1).2.1.strs (by omega))).mono ?_; rintro e w13 ⟨h0a, rfl, hh0, kw13⟩
  replace kW := kW.trans kw13
  replace kS := kS.trans kw13
  replace kM := kM.trans kw13
  replace kZ1 := kZ1.trans kw13
  clear he1 kZ1
  obtain ⟨h0ap, h0am, h0aq, rfl⟩ := hh0.shape0
  have kH := Keeps.refl w13
  go_wp2_with fail
  refine (eqInt64S_any x0 x0 _ _ _ ((hh0.keeps kH).ints (by omega)) (hf0a.keeps kS)).mono ?_; rintro e w14 ⟨rfl, kw14⟩
  replace kW := kW.trans kw14
  replace kS := kS.trans kw14
  replace kM := kM.trans kw14
  replace kH := kH.trans kw14
  rw [decide_eq_true rfl]
  go_wp2_with fail
  refine (heldInt64S_any x0.length _ (1) _ ((hM0.keeps kM).ints (by rw [marksI_length]; omega)) (by omega) (by omega)).mono ?_; rintro e w' ⟨rfl, rfl⟩
  go_wp2_with fail
  go_ret
  exact ⟨rfl, kP.trans kW⟩
--
set_option maxRecDepth 20000 in
set_option maxHeartbeats 1000000 in
theorem lawSurvivingTypesBig (s0 : ByteArray) (v1 u1 : Value) (w : World) (hv1 : WkS w v1) (hu1 : WkS w u1) (hb : ¬ (s0.size ≤ 1048576 ∧ ∃ a b, Strs w v1 a ∧ Strs w u1 b ∧ szB a + szB b ≤ 1048576)) :
    Calls Tryz.prog 3 #[.string s0, .agg #[v1, u1]] w fun e w' => e = .returned (.bool true) ∧ Keeps w w' := by
  obtain ⟨A, hA⟩ := hv1.sz
  obtain ⟨B, hB⟩ := hu1.sz
  have kP := (Keeps.refl w).alloc (.cells #[v1, u1] 24)
  have hA' := hA.keeps kP
  have hB' := hB.keeps kP
  by_cases c0 : s0.size ≤ 1048576
  case neg =>
    have hd : decide (((s0.size : Nat) : Int) > 1048576) = true := by simp; omega
    clear hb hA hB hA' hB'
    obtain ⟨p1, n1, q1, rfl, _⟩ := hv1
    obtain ⟨p2, n2, q2, rfl, _⟩ := hu1
    go_enter Tryz.func3, Tryz.ntmps3
    go_wp2
    go_ret
    exact ⟨rfl, kP⟩
  have hlt : (1048576 : Int) < A + B := by
    rcases Nat.lt_or_ge 1048576 (A + B) with h | h
    · omega
    · exfalso
      obtain ⟨a, ea, ra⟩ := hA.2 (by omega)
      obtain ⟨b, eb, rb⟩ := hB.2 (by omega)
      exact hb ⟨c0, a, b, ra, rb, by omega⟩
  clear hb hA hB
  obtain ⟨p1, n1, q1, rfl, _⟩ := hv1
  obtain ⟨p2, n2, q2, rfl, _⟩ := hu1
  have HS := hid (szModalSequent_any _ _ A B 1048576 _ hA' hB' ⟨_, _, _, rfl⟩ ⟨_, _, _, rfl⟩ (by omega) (by omega))
  rw [if_pos (by omega)] at HS
  clear hA' hB'
  go_enter Tryz.func3, Tryz.ntmps3
  go_wp2_with fail
  refine HS.out.mono ?_; rintro e w' ⟨rfl, kw⟩
  go_wp2_with fail
  go_ret
  exact ⟨rfl, kP.trans kw⟩
end Go.Proofs.YtgnehffglhbggaaGreat
/- The law of IsModalTheorem. -/
namespace Go.Proofs.YtgnehffglhbggaaGreat
open Go.RowKit
--
set_option maxRecDepth 20000 in
set_option maxHeartbeats 8000000 in
theorem lawIsModalTheorem (s0 : ByteArray) (a1 b1 : List ByteArray) (v1 u1 : Value) (r : Bool) (c : Int) (hs : ∀ (v1' : Value) (u1' : Value) (w : World), Strs w v1' a1 → Strs w u1' b1 → Calls Tryz.prog 18 #[.string s0, .agg #[v1', u1']] w (fun e w' => e = .returned (.tuple #[.bool r, .int .i64 c]) ∧ Keeps w w')) (hi : ∀ (v1' : Value) (u1' : Value) (w : World), Strs w v1' a1 → Strs w u1' b1 → Calls Tryz.prog 19 #[.string s0, .agg #[v1', u1']] w (fun e w' => e = .returned (.tuple #[.bool r, .int .i64 c]) ∧ Keeps w w')) (w : World)  (hv1 : Strs w v1 a1) (hu1 : Strs w u1 b1) (hsum : szB a1 + szB b1 ≤ 1048576) (hlen0 : s0.size ≤ 1048576) :
    Calls Tryz.prog 4 #[.string s0, .agg #[v1, u1]] w fun e w' => e = .returned (.bool true) ∧ Keeps w w' := by
  have HS := hid hs; clear hs
  have HI := hid hi; clear hi
  obtain ⟨v1p, v1m, v1q, rfl⟩ := hv1.shape0
  obtain ⟨hn, hxv1⟩ : v1m = a1.length ∧ v1m ≤ maxLen := by obtain ⟨_, _, e, h1, h2, _⟩ := hv1.shape; cases e; exact ⟨rfl, by omega⟩
  subst hn
  obtain ⟨u1p, u1m, u1q, rfl⟩ := hu1.shape0
  obtain ⟨hn, hxu1⟩ : u1m = b1.length ∧ u1m ≤ maxLen := by obtain ⟨_, _, e, h1, h2, _⟩ := hu1.shape; cases e; exact ⟨rfl, by omega⟩
  subst hn
  have hlba1 := szB_len a1
  have hlbb1 := szB_len b1
  have kP : Keeps w (w.alloc (.cells #[.slice v1p a1.length v1q, .slice u1p b1.length u1q] 24)) := ((Keeps.refl w).alloc (.cells #[.slice v1p a1.length v1q, .slice u1p b1.length u1q] 24))
  have pc10 : (w.alloc (.cells #[.slice v1p a1.length v1q, .slice u1p b1.length u1q] 24)).cell? ⟨w.heap.size, 0, none⟩ = some (.slice v1p a1.length v1q) := by simp
  have pc11 : (w.alloc (.cells #[.slice v1p a1.length v1q, .slice u1p b1.length u1q] 24)).cell? ⟨w.heap.size, 1, none⟩ = some (.slice u1p b1.length u1q) := by simp
  replace hv1 := hv1.keeps kP
  replace hu1 := hu1.keeps kP
  have kW := Keeps.refl (w.alloc (.cells #[.slice v1p a1.length v1q, .slice u1p b1.length u1q] 24))
  go_enter Tryz.func4, Tryz.ntmps4
  have qc0 := kW.cell pc10
  have qc1 := kW.cell pc11
  go_wp2_with fail
  refine (szModalSequent_any _ _ (szB a1) (szB b1) (1048576) _ (SzS.of (hv1.keeps kW) (by omega)) (SzS.of (hu1.keeps kW) (by omega)) ⟨_, _, _, rfl⟩ ⟨_, _, _, rfl⟩ (by omega) (by omega)).mono ?_; rintro e w1 ⟨rfl, kw1⟩
  replace kW := kW.trans kw1
  rw [if_neg (by omega)]
  clear qc0 qc1
  have hp1 : (0 : Int) ≤ 1048576 - (szB a1 : Int) - (szB b1 : Int) := by omega
  clear hxv1 hxu1
  have qc0 := kW.cell pc10
  have qc1 := kW.cell pc11
  go_wp2_with fail
  refine (toModalSequent_any a1 b1 _ _ _ (hv1.keeps kW) (hu1.keeps kW)).mono ?_; rintro e w2 ⟨s1a, s1b, rfl, hs1, kw2⟩
  replace kW := kW.trans kw2
  clear qc0 qc1
  have kS1 := Keeps.refl w2
  go_wp2_with fail
  refine (HS.out _ _ _ ((hs1.keeps kS1).1.strs (by omega)) ((hs1.keeps kS1).2.1.strs (by omega))).mono ?_; rintro e w3 ⟨rfl, kw3⟩
  replace kW := kW.trans kw3
  replace kS1 := kS1.trans kw3
  clear hs1 kS1
  have qc0 := kW.cell pc10
  have qc1 := kW.cell pc11
  go_wp2_with fail
  refine (toModalSequent_any a1 b1 _ _ _ (hv1.keeps kW) (hu1.keeps kW)).mono ?_; rintro e w4 ⟨x1a, x1b, rfl, hx1, kw4⟩
  replace kW := kW.trans kw4
  clear qc0 qc1
  have kX1 := Keeps.refl w4
  obtain ⟨x1ap, x1am, x1aq, rfl⟩ := hx1.1.shape0
  obtain ⟨x1bp, x1bm, x1bq, rfl⟩ := hx1.2.1.shape0
  have kb := (Keeps.refl w4).alloc (.cells #[.slice x1ap x1am x1aq, .slice x1bp x1bm x1bq] 29)
  replace kW := kW.trans kb
  replace kX1 := kX1.trans kb
  have xc10 : (w4.alloc (.cells #[.slice x1ap x1am x1aq, .slice x1bp x1bm x1bq] 29)).cell? ⟨w4.heap.size, 0, none⟩ = some (.slice x1ap x1am x1aq) := by simp
  have xc11 : (w4.alloc (.cells #[.slice x1ap x1am x1aq, .slice x1bp x1bm x1bq] 29)).cell? ⟨w4.heap.size, 1, none⟩ = some (.slice x1bp x1bm x1bq) := by simp
  have kB1 := Keeps.refl (w4.alloc (.cells #[.slice x1ap x1am x1aq, .slice x1bp x1bm x1bq] 29))
  clear kb
  have yc10 := kB1.cell xc10
  have yc11 := kB1.cell xc11
  go_wp2_with fail
  refine (HI.out _ _ _ ((hx1.keeps kX1).1.strs (by omega)) ((hx1.keeps kX1).2.1.strs (by omega))).mono ?_; rintro e w5 ⟨rfl, kw5⟩
  replace kW := kW.trans kw5
  replace kX1 := kX1.trans kw5
  replace kB1 := kB1.trans kw5
  clear yc10 yc11
  go_wp2_with fail
  have kd := (Keeps.refl w5).drew
  replace kW := kW.trans kd
  replace kX1 := kX1.trans kd
  replace kB1 := kB1.trans kd
  have ya0 := kB1.cell xc10
  have ya1 := kB1.cell xc11
  have qc0 := kW.cell pc10
  have qc1 := kW.cell pc11
  have HR := hid (toModalSequent_any a1 b1 _ _ _ (hv1.keeps kW) (hu1.keeps kW))
  have HQ := hid (fun (w' : World) (k' : Keeps w5.drew w') v u h1 h2 => eqModalSequent_same a1 b1 _ _ v u w' ((hx1.keeps (kX1.trans k')).1.strs (by omega)) ((hx1.keeps (kX1.trans k')).2.1.strs (by omega)) h1 h2)
  go_region_held3 (fun w' => w'.cell? ⟨w4.heap.size, 0, none⟩ = some (.slice x1ap x1am x1aq) ∧ w'.cell? ⟨w4.heap.size, 1, none⟩ = some (.slice x1bp x1bm x1bq) ∧ w'.cell? ⟨w.heap.size, 0, none⟩ = some (.slice v1p a1.length v1q) ∧ w'.cell? ⟨w.heap.size, 1, none⟩ = some (.slice u1p b1.length u1q)) (first | exact ⟨ya0, ya1, qc0, qc1⟩ | exact ⟨za0, za1, oc0, oc1⟩ | exact ⟨ta0, ta1, va0, va1⟩) (first | (go_at_call 11; refine HR.out.mono ?_; rintro e w6 ⟨ra, rb, rfl, hr1, kw6⟩; have za0 := kw6.cell ya0; have za1 := kw6.cell ya1; have oc0 := kw6.cell qc0; have oc1 := kw6.cell qc1) | (go_at_call 14; refine (HQ.out w6 kw6 _ _ (hr1.1.strs (by omega)) (hr1.2.1.strs (by omega))).mono ?_; rintro e w7 ⟨rfl, kw7⟩; have ta0 := kw7.cell za0; have ta1 := kw7.cell za1; have va0 := kw7.cell oc0; have va1 := kw7.cell oc1))
  replace kW := kW.trans (kw6.trans kw7)
  replace kX1 := kX1.trans (kw6.trans kw7)
  replace kB1 := kB1.trans (kw6.trans kw7)
  clear HR HQ hr1 ya0 qc0 za0 oc0 ta0 va0 ya1 qc1 za1 oc1 ta1 va1
  go_wp2_with fail
  go_ret
  exact ⟨rfl, kP.trans kW⟩
--
set_option maxRecDepth 20000 in
set_option maxHeartbeats 1000000 in
theorem lawIsModalTheoremBig (s0 : ByteArray) (v1 u1 : Value) (w : World) (hv1 : WkS w v1) (hu1 : WkS w u1) (hb : ¬ (s0.size ≤ 1048576 ∧ ∃ a b, Strs w v1 a ∧ Strs w u1 b ∧ szB a + szB b ≤ 1048576)) :
    Calls Tryz.prog 4 #[.string s0, .agg #[v1, u1]] w fun e w' => e = .returned (.bool true) ∧ Keeps w w' := by
  obtain ⟨A, hA⟩ := hv1.sz
  obtain ⟨B, hB⟩ := hu1.sz
  have kP := (Keeps.refl w).alloc (.cells #[v1, u1] 24)
  have hA' := hA.keeps kP
  have hB' := hB.keeps kP
  by_cases c0 : s0.size ≤ 1048576
  case neg =>
    have hd : decide (((s0.size : Nat) : Int) > 1048576) = true := by simp; omega
    clear hb hA hB hA' hB'
    obtain ⟨p1, n1, q1, rfl, _⟩ := hv1
    obtain ⟨p2, n2, q2, rfl, _⟩ := hu1
    go_enter Tryz.func4, Tryz.ntmps4
    go_wp2
    go_ret
    exact ⟨rfl, kP⟩
  have hlt : (1048576 : Int) < A + B := by
    rcases Nat.lt_or_ge 1048576 (A + B) with h | h
    · omega
    · exfalso
      obtain ⟨a, ea, ra⟩ := hA.2 (by omega)
      obtain ⟨b, eb, rb⟩ := hB.2 (by omega)
      exact hb ⟨c0, a, b, ra, rb, by omega⟩
  clear hb hA hB
  obtain ⟨p1, n1, q1, rfl, _⟩ := hv1
  obtain ⟨p2, n2, q2, rfl, _⟩ := hu1
  have HS := hid (szModalSequent_any _ _ A B 1048576 _ hA' hB' ⟨_, _, _, rfl⟩ ⟨_, _, _, rfl⟩ (by omega) (by omega))
  rw [if_pos (by omega)] at HS
  clear hA' hB'
  go_enter Tryz.func4, Tryz.ntmps4
  go_wp2_with fail
  refine HS.out.mono ?_; rintro e w' ⟨rfl, kw⟩
  go_wp2_with fail
  go_ret
  exact ⟨rfl, kP.trans kw⟩
end Go.Proofs.YtgnehffglhbggaaGreat
