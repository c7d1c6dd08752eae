import Derived.Test.YtkkcfifnkcnceaaGreatHR3
import Derived.Test.YtkkcfifnkcnceaaGreatHM2
import Derived.Test.YtkkcfifnkcnceaaGreatHSU
import Derived.Deep.RegionHeld3
/- Walks: the laws' own measures, copies, comparisons and marks of number lists, posets, frames and models. -/
namespace Go.Proofs.YtkkcfifnkcnceaaGreat
open Go.RowKit
theorem OwnI.shape0 {w : World} {B : Nat} {v : Value} {a : List Int} (h : OwnI w B v a) : ∃ p n c, v = .slice p n c := by obtain ⟨p, c, e, _⟩ := At.of_own h; exact ⟨p, _, c, e⟩
theorem szInt64S_any (p : Option Addr) (n cap : Nat) (left : Int) (w : World) (hn : n ≤ maxLen) (h0 : 0 ≤ left) (h1 : left ≤ 1048576) :
  Calls Tryz.prog 81 #[.slice p n cap, .int .i64 left] w fun e w' => e = .returned (.int .i64 (if left < n then -1 else left - n)) ∧ w = w' := by
 unfold maxLen at hn
 by_cases h : left < n
 all_goals
  go_enter Tryz.func81, Tryz.ntmps81
  go_wp2
  go_ret
  exact ⟨ret_int (by first | rfl | omega), rfl⟩
set_option maxRecDepth 20000 in
set_option maxHeartbeats 1000000 in
theorem toInt64S_any (a : List Int) (v : Value) (w : World) (hv : Ints w v a) : Calls Tryz.prog 86 #[v] w (RetI w a) := by
 have hv0 := hv
 obtain ⟨p, cap, rfl, hle, hmx, _, hlen⟩ := hv
 unfold maxLen at hmx
 obtain ⟨w1, hmk, hown, k1⟩ := run_makeI w a.length (by omega)
 have Hown := hid hown; clear hown
 go_enter Tryz.func86, Tryz.ntmps86
 go_wp2
 clear hmk
 have hown := Hown.out
 go_loopw [4] (fun i' wr => ∃ (k : Nat) (xs : List Int), k ≤ a.length ∧ i' = .int .i64 k ∧ xs.length = a.length ∧ xs.take k = a.take k ∧ OwnI wr w.heap.size (.slice (some ⟨w.heap.size, 0, none⟩) a.length a.length) xs ∧ Keeps w wr) (fun i _ => a.length - (intOf i).toNat)
 case atStart => exact ⟨0, _, by omega, rfl, by simp, by simp, hown, k1⟩
 case round =>
  obtain ⟨k, xs, hk, rfl, hxl, htk, hownk, kw⟩ := hrel
  have HX := hid hxl; clear hxl
  have HT := hid htk; clear htk
  clear Hown hown
  by_cases hlt : k < a.length
  ·have hltx : k < xs.length := by have := HX.out; omega
   obtain ⟨_, _, e1, _, _, hata, _⟩ := hv0.keeps kw
   cases e1
   obtain ⟨b1, o1, rfl, h1⟩ := hata.int k hlt
   clear hata hv0
   have hlt' : (k : Int) < a.length := by omega
   obtain ⟨c1, c3⟩ := hownk.cell k hltx
   have h3 := (hownk.store k hltx a[k]).1
   have H3 := hid h3; clear h3
   have HO := hid hownk; clear hownk
   go_wp2
   go_roundw
   case rel =>
    refine ⟨k + 1, _, by omega, by go_num, ?_, ?_, H3.out, ?_⟩
    ·rw [List.length_set]; exact HX.out
    ·rw [take_set _ _ _ hltx, List.take_succ_eq_append_getElem hlt, HT.out]
    ·exact kw.setCell (Nat.le_refl _) _
   case measure => simp [intOf]; omega
  ·have hlt' : ¬ (k : Int) < a.length := by omega
   go_wp2
   go_ret
   have hx : xs = a := by
    have h1 := HX.out; have h2 := HT.out
    rw [List.take_of_length_le (by omega), List.take_of_length_le (by omega)] at h2
    exact h2
   subst hx
   exact ⟨_, rfl, hownk, kw⟩
end Go.Proofs.YtkkcfifnkcnceaaGreat
namespace Go.Proofs.YtkkcfifnkcnceaaGreat
open Go.RowKit
set_option maxHeartbeats 400000 in
theorem eqStringS_same (a : List ByteArray) (va vb : Value) (w : World) (hva : Strs w va a) (hvb : Strs w vb a) :
  Calls Tryz.prog 101 #[va, vb] w fun e w' => e = .returned (.bool true) ∧ Keeps w w' := by
 obtain ⟨pa, ca, rfl, hlea, hmxa, hlena⟩ := hva.shape
 obtain ⟨pb, cb, rfl, hleb, hmxb, hlenb⟩ := hvb.shape
 unfold maxLen at hmxa hmxb
 have HA := hid hva; clear hva
 have HB := hid hvb; clear hvb
 have hl' : ((a.length : Int) != (a.length : Int)) = false := by simp
 go_enter Tryz.func101, Tryz.ntmps101
 go_wp2
 go_loopw [4, 5] (fun r i' wr => ∃ k : Nat, k ≤ a.length ∧ Keeps w wr ∧ i' = .int .i64 k ∧ r = .bool false) (fun _ i _ => a.length - (intOf i).toNat)
 case atStart => exact ⟨0, by omega, Keeps.refl w, rfl, rfl⟩
 case round =>
  obtain ⟨k, hk, kw, rfl, rfl⟩ := hrel
  clear hl'
  by_cases hlt : k < a.length
  ·obtain ⟨b1, o1, rfl, h1⟩ := (HA.out.keeps kw).get k hlt
   obtain ⟨b2, o2, rfl, h2⟩ := (HB.out.keeps kw).get k hlt
   have hlt' : (k : Int) < a.length := by omega
   generalize a[k] = x at *
   have hd : (x.toList != x.toList) = false := by simp
   go_wp2_with fail
   go_quiet (fail)
   go_wp2
   go_roundw
   case rel => exact ⟨k + 1, by omega, kw.drewN _, by go_num, rfl⟩
   case measure => simp [intOf]; omega
  ·have hlt' : ¬ (k : Int) < a.length := by omega
   go_wp2
   go_ret
   exact ⟨rfl, kw⟩
theorem OwnS.shape0 {w : World} {B : Nat} {v : Value} {a : List ByteArray} (h : OwnS w B v a) : ∃ p n c, v = .slice p n c := by obtain ⟨p, c, e, _⟩ := At.of_own h; exact ⟨p, _, c, e⟩
theorem Strs.shape0 {w : World} {v : Value} {a : List ByteArray} (h : Strs w v a) : ∃ p n c, v = .slice p n c := by obtain ⟨p, c, e, _⟩ := h.shape; exact ⟨p, _, c, e⟩
end Go.Proofs.YtkkcfifnkcnceaaGreat
namespace Go.Proofs.YtkkcfifnkcnceaaGreat
open Go.RowKit
def totS (ss : List ByteArray) : Nat := (ss.map ByteArray.size).sum
theorem totS_snoc (ss : List ByteArray) (k : Nat) (h : k < ss.length) : totS (ss.take (k + 1)) = totS (ss.take k) + ss[k].size := by
 unfold totS; rw [List.take_succ_eq_append_getElem h, List.map_append, List.sum_append]; simp
theorem totS_le (ss : List ByteArray) (k : Nat) : totS (ss.take k) ≤ totS ss := by
 have h : ss.take k ++ ss.drop k = ss := List.take_append_drop k ss
 have : totS ss = totS (ss.take k) + totS (ss.drop k) := by
  conv => lhs; rw [← h]
  unfold totS; rw [List.map_append, List.sum_append]
 omega
theorem totS_mem {ss : List ByteArray} {s : ByteArray} (h : s ∈ ss) : s.size ≤ totS ss := by
 unfold totS
 induction ss with
 | nil => simp at h
 | cons x l ih =>
  rw [List.map_cons, List.sum_cons]
  rcases List.mem_cons.1 h with e | e
  ·subst e; omega
  ·have := ih e; omega
def szB (ss : List ByteArray) : Nat := ss.length + totS ss
theorem szB_mem {ss : List ByteArray} {s : ByteArray} (h : s ∈ ss) : s.size ≤ szB ss := by have := totS_mem h; unfold szB; omega
def WkS (w : World) (v : Value) : Prop := ∃ p n cap, v = .slice p n cap ∧ n ≤ maxLen ∧ (n ≤ 2147483648 → ∃ ss : List ByteArray, ss.length = n ∧ Strs w v ss ∧ ∀ s ∈ ss, s.size ≤ maxLen)
set_option maxRecDepth 20000 in
set_option maxHeartbeats 1000000 in
theorem szStringS_any (ss : List ByteArray) (v : Value) (left : Int) (w : World) (hv : Strs w v ss) (hz : ∀ s ∈ ss, s.size ≤ maxLen) (h0 : 0 ≤ left) (h1 : left ≤ 1048576) :
  Calls Tryz.prog 82 #[v, .int .i64 left] w fun e w' => e = .returned (.int .i64 (if left < szB ss then -1 else left - szB ss)) ∧ w = w' := by
 obtain ⟨p, cap, rfl, hle, hmx, hlen⟩ := hv.shape
 unfold maxLen at hmx
 have HV := hid hv; clear hv
 have HD : Hid (szB ss = ss.length + totS ss) := hid rfl
 have HSZ := hid (fun k (h : k < ss.length) => hz _ (List.getElem_mem h)); clear hz
 have HT0 : Hid (totS (ss.take 0) = 0) := hid rfl
 have HTE : Hid (totS (ss.take ss.length) = totS ss) := hid (by rw [List.take_length])
 have HTS := hid (totS_snoc ss)
 have HTL := hid (totS_le ss)
 generalize szB ss = sz at *
 obtain ⟨r, hr⟩ : ∃ r : Int, (if left < sz then -1 else left - sz) = r := ⟨_, rfl⟩
 rw [hr]
 have HR1 : Hid (left < sz → r = -1) := hid (fun h => by rw [← hr, if_pos h])
 have HR2 : Hid (¬ left < sz → r = left - sz) := hid (fun h => by rw [← hr, if_neg h])
 clear hr
 by_cases hl : left < ss.length
 ·obtain rfl : r = -1 := HR1.out (by have := HD.out; omega)
  clear HR1 HR2
  have hl' : left - ss.length < 0 := by omega
  go_enter Tryz.func82, Tryz.ntmps82
  go_wp2
  go_ret
  exact ⟨rfl, rfl⟩
 ·have hl' : ¬ (left - ss.length < 0) := by omega
  go_enter Tryz.func82, Tryz.ntmps82
  go_wp2
  go_loop [1, 4, 5] (fun c r i' => ∃ k : Nat, k ≤ ss.length ∧ i' = .int .i64 k ∧ c = .int .i64 (left - ss.length - totS (ss.take k)) ∧ r = .int .i64 0 ∧ (totS (ss.take k) : Int) ≤ left - ss.length) (fun _ _ i => ss.length - (intOf i).toNat)
  case atStart => exact ⟨0, by omega, rfl, by rw [HT0.out]; simp, rfl, by rw [HT0.out]; omega⟩
  case round =>
   obtain ⟨k, hk, rfl, rfl, rfl, hb⟩ := hrel
   by_cases hlt : k < ss.length
   ·have hlt' : (k : Int) < ss.length := by omega
    obtain ⟨b, off, rfl, hc⟩ := HV.out.get k hlt
    have hs := HTS.out k hlt
    have hs2 := HTL.out (k + 1)
    have HS := hid hs; clear hs
    have hxs := HSZ.out k hlt
    unfold maxLen at hxs
    generalize ss[k] = x at *
    generalize totS (ss.take k) = t at *
    by_cases hlx : left - ss.length - t - x.size < 0
    ·have hx : r = -1 := HR1.out (by have hx := HD.out; have hx2 := HS.out; omega)
     have HRR := hid hx; clear hx HR1 HR2
     go_wp2
     go_ret
     exact ⟨ret_int (by rw [HRR.out]), rfl⟩
    ·have hx0 : 0 ≤ left - ss.length - t - x.size := by omega
     have hx1 : left - ss.length - t - x.size ≤ 1048576 := by omega
     go_wp2
     go_round
     case rel => exact ⟨k + 1, by omega, by go_num, by rw [HS.out]; first | (push_cast; go_num) | (congr 1; omega) | go_num, rfl, by rw [HS.out]; push_cast; omega⟩
     case measure => simp [intOf]; omega
   ·obtain rfl : k = ss.length := by omega
    have hlt' : ¬ ((ss.length : Int) < ss.length) := by omega
    rw [HTE.out] at hb ⊢
    have hx : r = left - ss.length - (totS ss : Int) := by
     rw [HR2.out (by have := HD.out; omega), HD.out]; push_cast; omega
    have HRR := hid hx; clear hx HR1 HR2
    go_wp2
    go_ret
    exact ⟨ret_int (by rw [HRR.out]), rfl⟩
theorem szStringS_big (p : Option Addr) (n cap : Nat) (left : Int) (w : World) (hn : n ≤ maxLen) (h0 : 0 ≤ left) (h1 : left ≤ 1048576) (hl : left < n) :
  Calls Tryz.prog 82 #[.slice p n cap, .int .i64 left] w fun e w' => e = .returned (.int .i64 (-1)) ∧ w = w' := by
 unfold maxLen at hn
 have hl' : left - n < 0 := by omega
 go_enter Tryz.func82, Tryz.ntmps82
 go_wp2
 go_ret
 exact ⟨rfl, rfl⟩
def SzS (w : World) (v : Value) (N : Nat) : Prop :=
 (∀ (w' : World) (left : Int), Keeps w w' → 0 ≤ left → left ≤ 1048576 → Calls Tryz.prog 82 #[v, .int .i64 left] w' fun e w'' => e = .returned (.int .i64 (if left < N then -1 else left - N)) ∧ w' = w'') ∧
 (N ≤ 1048576 → ∃ ss : List ByteArray, N = szB ss ∧ Strs w v ss)
theorem SzS.keeps {w w' : World} {v : Value} {N : Nat} (h : SzS w v N) (k : Keeps w w') : SzS w' v N :=
 ⟨fun w2 left k2 h0 h1 => h.1 w2 left (k.trans k2) h0 h1, fun hN => by
  obtain ⟨ss, e, hs⟩ := h.2 hN
  exact ⟨ss, e, hs.keeps k⟩⟩
theorem WkS.sz {w : World} {v : Value} (h : WkS w v) : ∃ N, SzS w v N := by
 obtain ⟨p, n, cap, rfl, hm, hr⟩ := h
 by_cases hn : n ≤ 2147483648
 ·obtain ⟨ss, rfl, hv, hz⟩ := hr hn
  exact ⟨szB ss, fun w' left k h0 h1 => szStringS_any ss _ left w' (hv.keeps k) hz h0 h1, fun _ => ⟨ss, rfl, hv⟩⟩
 ·exact ⟨n, fun w' left _ h0 h1 => by
   rw [if_pos (by omega)]
   exact szStringS_big p n cap left w' hm h0 h1 (by omega), fun h => by omega⟩
theorem OwnS.setBelow {w : World} {B : Nat} {v : Value} {a : List ByteArray} (h : OwnS w B v a) {b o : Nat} (hb : b < B) (u : Value) : OwnS (w.setCell ⟨b, o, none⟩ u) B v a := ownsRow_setCell_below h (a := ⟨b, o, none⟩) hb u
theorem madeS (n : Nat) : (madeCells (Value.cells (.string ⟨#[]⟩)) (n * 1)).toList = strCells (List.replicate n ⟨#[]⟩) := by
 rw [Nat.mul_one, show Value.cells (.string ⟨#[]⟩) = #[.string ⟨#[]⟩] from rfl, toList_madeCells_one]; simp [strCells]
theorem run_makeS (w : World) (n : Nat) (hn : n ≤ 2147483648) : ∃ w', (Instr.makeSlice 24 (.int .i64 (n : Int)) (.int .i64 (n : Int))).run Tryz.prog w = .ok (.slice (some ⟨w.heap.size, 0, none⟩) n n) w' ∧
   OwnS w' w.heap.size (.slice (some ⟨w.heap.size, 0, none⟩) n n) (List.replicate n ⟨#[]⟩) ∧ Keeps w w' := by
 obtain ⟨i0, hi, hz0, hz1, hz2⟩ := info_parts infoS
 obtain ⟨w', hr, ho, hg⟩ := run_make_full (P := Tryz.prog) w w.heap.size 24 9 i0 _ 1 Tryz.underlying24 hi hz0 hz1 .i64 .i64 n (by rw [hz2]; omega) (by unfold maxLen; omega) (Nat.le_refl _)
 refine ⟨w', hr, ?_, (Keeps.refl w).grown hg (by simp)⟩
 unfold OwnS
 rw [List.length_replicate, ← madeS]
 exact ho
set_option maxRecDepth 20000 in
set_option maxHeartbeats 1000000 in
theorem toStringS_any (a : List ByteArray) (v : Value) (w : World) (hv : Strs w v a) : Calls Tryz.prog 87 #[v] w fun e w' => ∃ v', e = .returned v' ∧ OwnS w' w.heap.size v' a ∧ Keeps w w' := by
 have hv0 := hv
 obtain ⟨p, cap, rfl, hle, hmx, hlen⟩ := hv.shape
 unfold maxLen at hmx
 obtain ⟨w1, hmk, hown, k1⟩ := run_makeS w a.length (by omega)
 have Hown := hid hown; clear hown
 have HV := hid hv0; clear hv hv0
 go_enter Tryz.func87, Tryz.ntmps87
 go_wp2
 clear hmk
 have hown := Hown.out
 go_loopw [4] (fun i' wr => ∃ (k : Nat) (xs : List ByteArray), k ≤ a.length ∧ i' = .int .i64 k ∧ xs.length = a.length ∧ xs.take k = a.take k ∧ OwnS wr w.heap.size (.slice (some ⟨w.heap.size, 0, none⟩) a.length a.length) xs ∧ Keeps w wr) (fun i _ => a.length - (intOf i).toNat)
 case atStart => exact ⟨0, _, by omega, rfl, by simp, by simp, hown, k1⟩
 case round =>
  obtain ⟨k, xs, hk, rfl, hxl, htk, hownk, kw⟩ := hrel
  have HX := hid hxl; clear hxl
  have HT := hid htk; clear htk
  clear Hown hown
  by_cases hlt : k < a.length
  ·have hltx : k < xs.length := by have := HX.out; omega
   obtain ⟨b1, o1, rfl, h1⟩ := (HV.out.keeps kw).get k hlt
   have hlt' : (k : Int) < a.length := by omega
   obtain ⟨c1, c3⟩ := OwnS.cellAt (a := xs) (by rw [HX.out]; exact hownk) (List.getElem?_eq_getElem hltx)
   have h3 := (OwnS.store (a := xs) (by rw [HX.out]; exact hownk) k a[k]).1
   rw [HX.out] at h3
   have H3 := hid h3; clear h3
   have HO := hid hownk; clear hownk
   go_wp2
   go_roundw
   case rel =>
    refine ⟨k + 1, _, by omega, by go_num, ?_, ?_, H3.out, ?_⟩
    ·rw [List.length_set]; exact HX.out
    ·rw [take_set _ _ _ hltx, List.take_succ_eq_append_getElem hlt, HT.out]
    ·exact kw.setCell (Nat.le_refl _) _
   case measure => simp [intOf]; omega
  ·have hlt' : ¬ (k : Int) < a.length := by omega
   go_wp2
   go_ret
   have hx : xs = a := by
    have h1 := HX.out; have h2 := HT.out
    rw [List.take_of_length_le (by omega), List.take_of_length_le (by omega)] at h2
    exact h2
   subst hx
   exact ⟨_, rfl, hownk, kw⟩
end Go.Proofs.YtkkcfifnkcnceaaGreat
namespace Go.Proofs.YtkkcfifnkcnceaaGreat
open Go.ChangeShapes Go.WideShapes Go.ChangeAt Go.RowKit Go.Deep
section
variable {H : Type} {enc : TypeId × Value → H} {W : World}
set_option maxRecDepth 100000 in
theorem wkS_trod {u : Value} {fuel : Nat} {x : DataW H × List MemPlace} (hf : DataW.trod enc Tryz.prog W 0 (fun _ => true) true fuel 24 [u] = some x) : WkS W u := by
 have hC : Tryz.prog.cellsOf 9 = 1 := by kernel_rfl
 rcases open_slice1 Tryz.underlying24 hC hf with ⟨hcs, _⟩ | ⟨a, n, cap, m, n', V, D, Pl, hcs, _, hl, hm, hmm, _, hi⟩
 ·obtain rfl : u = .slice none 0 0 := by simpa using hcs
  exact ⟨none, 0, 0, rfl, by simp [maxLen], fun _ => ⟨[], rfl, (OwnS.nil W 0).strs (by simp), fun s h => by simp at h⟩⟩
 ·obtain rfl : u = .slice (some a) n cap := by simpa using hcs
  refine ⟨some a, n, cap, rfl, by omega, fun hn => ?_⟩
  simp at hmm
  have hel : ∀ i, i < n → ∃ x : ByteArray, W.cell? (a.add i) = some (.string x) ∧ x.size ≤ maxLen := fun i hin => by
   obtain ⟨h1, h2⟩ := hi i (by omega)
   obtain ⟨x, hx, _, hxz⟩ := DataW.trod_string Tryz.underlying9 h2
   simp at hx
   exact ⟨x, by rw [h1, hx], hxz⟩
  have hspot : 0 < n → ∃ b off, a = ⟨b, off, none⟩ := fun h0 => by
   obtain ⟨b, off, spot⟩ := a
   obtain ⟨x, hx, _⟩ := hel 0 h0
   have hs : spot = none := by simpa [Addr.add] using World.cell?_spot hx
   subst hs
   exact ⟨b, off, rfl⟩
  have hadd : ∀ b off k, (⟨b, off, none⟩ : Addr).add k = ⟨b, off + k, none⟩ := fun b off k => by unfold Addr.add; split <;> simp_all
  obtain ⟨l, hnl, hns⟩ := choose_allI (α := ByteArray) (P := fun i x => W.cell? (a.add i) = some (.string x) ∧ x.size ≤ maxLen) (n := n) hel
  subst hnl
  refine ⟨l, rfl, Strs.ofAt hl hm ?_ hn, fun s hs => by
   obtain ⟨i, hi, rfl⟩ := List.getElem_of_mem hs
   exact (hns i hi).2⟩
  intro j hj
  have hj' : j < l.length := by simpa [strCells] using hj
  obtain ⟨b, off, rfl⟩ := hspot (by omega)
  refine ⟨b, off, rfl, ?_⟩
  have := (hns j hj').1
  rw [hadd] at this
  rw [this]; simp [strCells]
end
end Go.Proofs.YtkkcfifnkcnceaaGreat
