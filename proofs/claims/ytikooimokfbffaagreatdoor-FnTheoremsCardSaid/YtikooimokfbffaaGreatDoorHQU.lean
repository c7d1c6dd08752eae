import Derived.Test.YtikooimokfbffaaGreatDoorHPD
import Derived.Test.YtikooimokfbffaaGreatDoorHQJ
import Derived.Deep.CutBlock
import Derived.Deep.DeepCutAuto
import Derived.Deep.RegionWith
import Derived.Test.YtikooimokfbffaaGreatDoorHQS
import Derived.Deep.RegionHeld3
import Derived.Laws.CopyOwn
import Derived.Deep.RegionLaw
/- The quotient of a preorder: both sides. -/
namespace Go.Proofs.YtikooimokfbffaaGreatDoor
open Go.RowKit
def maxTo (c : List Nat) : Nat → Nat
 | 0 => 0
 | i + 1 => max (maxTo c i) (c.getD i 0)
theorem maxTo_le {c : List Nat} {n : Nat} : ∀ k, (∀ i, i < k → c.getD i 0 < n) → 0 < n → maxTo c k < n
 | 0, _, h => h
 | k + 1, h, h0 => by
  have h1 := maxTo_le k (fun i hi => h i (by omega)) h0
  have h2 := h k (by omega)
  unfold maxTo
  omega
theorem le_maxTo {c : List Nat} : ∀ {k i : Nat}, i < k → c.getD i 0 ≤ maxTo c k
 | 0, i, h => by omega
 | k + 1, i, h => by
  unfold maxTo
  by_cases e : i = k
  ·subst e; omega
  ·have := le_maxTo (c := c) (show i < k by omega); omega
set_option maxRecDepth 20000 in
theorem maxI_any (c : List Nat) (v : Value) (w : World) (hv : Ints w v (zs c)) (hc : 0 < c.length) (hcl : ∀ i, c.getD i 0 < 256) (h8 : c.length ≤ 8) :
  Calls Tryz.prog 195 #[v] w fun e w' => e = .returned (.int .i64 (maxTo c c.length)) ∧ w = w' := by
 have hv0 := hv
 obtain ⟨p, cap, rfl, hle, hmx, _, _⟩ := hv
 unfold maxLen at hmx
 rw [zs_length] at *
 have HM := hid (fun k => maxTo_le (c := c) (n := 256) k (fun i _ => hcl i) (by omega))
 have HCL := hid hcl
 have h1' : ¬ ((c.length : Int) < 1) := by omega
 obtain ⟨b0, o0, rfl, hz⟩ := hv0.zs_cell 0 hc
 have hm1 : maxTo c 1 = c.getD 0 0 := by simp [maxTo]
 rw [Nat.add_zero, ← hm1] at hz
 clear hcl
 have HM1 := hid hm1; clear hm1
 go_enter Tryz.func195, Tryz.ntmps195
 go_wp2
 go_loop [3, 4] (fun o i' => ∃ i : Nat, 1 ≤ i ∧ i ≤ c.length ∧ i' = .int .i64 i ∧ o = .int .i64 (maxTo c i)) (fun _ i => c.length - (intOf i).toNat)
 case atStart => exact ⟨1, by omega, by omega, rfl, rfl⟩
 case round =>
  obtain ⟨i, h1, hi, rfl, rfl⟩ := hrel
  by_cases hlt : i < c.length
  ·obtain ⟨b1, o1, e1, h2⟩ := hv0.zs_cell i hlt
   cases e1
   have hlt' : (i : Int) < c.length := by omega
   have hs : ((maxTo c (i + 1) : Nat) : Int) = max ((maxTo c i : Nat) : Int) ((c.getD i 0 : Nat) : Int) := by
    show ((max (maxTo c i) (c.getD i 0) : Nat) : Int) = _
    omega
   have HS := hid hs; clear hs
   clear hz
   generalize c.getD i 0 = x at *
   generalize maxTo c i = z at *
   go_wp2
   go_round
   case rel => exact ⟨i + 1, by omega, by omega, by go_num, by rw [HS.out]; first | rfl | (congr 1; omega)⟩
   case measure => simp [intOf]; omega
  ·obtain rfl : i = c.length := by omega
   have hlt' : ¬ (c.length : Int) < c.length := by omega
   clear hz
   go_wp2
   go_ret
   exact ⟨rfl, rfl⟩
end Go.Proofs.YtikooimokfbffaaGreatDoor
namespace Go.Proofs.YtikooimokfbffaaGreatDoor
open Go.RowKit
theorem range_get {n i : Nat} (h : i < n) : (List.range n).getD i 0 = i := by simp [List.getD_eq_getElem?_getD, h]
def Pos (b : List Nat) : Prop := b.length ≤ 8 ∧ Bnd b.length b ∧ reflB b = true ∧ transB b = true ∧ antiB b = true
theorem Pos.of {b : List Nat} (h8 : b.length ≤ 8) (hb : Bnd b.length b) (h : posB b = true) : Pos b := by
 unfold posB at h
 rw [Bool.and_eq_true, Bool.and_eq_true] at h
 exact ⟨h8, hb, h.1.1, h.1.2, h.2⟩
end Go.Proofs.YtikooimokfbffaaGreatDoor
namespace Go.Proofs.YtikooimokfbffaaGreatDoor
open Go.RowKit
theorem two_u64 {a b c d : Int} (h1 : a = c) (h2 : b = d) : Ending.returned (.tuple #[.int .u64 a, .int .u64 b]) = .returned (.tuple #[.int .u64 c, .int .u64 d]) := by rw [h1, h2]
set_option maxRecDepth 20000 in
theorem mul64_one (n : Nat) (w : World) (hn : n ≤ 8) : Calls Tryz.prog 323 #[.int .u64 1, .int .u64 n] w fun e w' => e = .returned (.tuple #[.int .u64 0, .int .u64 n]) ∧ w = w' := by
 go_enter Tryz.func323, Tryz.ntmps323
 go_wp2
 refine bodyPost_ret (v := ?v) ?h rfl ?_
 case h => simp [results, Tryz.results323, go_sem]; rfl
 refine ⟨two_u64 ?_ ?_, rfl⟩
 ·clear w
  revert n
  decide +kernel
 ·clear w
  revert n
  decide +kernel
set_option maxRecDepth 20000 in
theorem mul_one (n : Nat) (w : World) (hn : n ≤ 8) : Calls Tryz.prog 305 #[.int .u64 1, .int .u64 n] w fun e w' => e = .returned (.tuple #[.int .u64 0, .int .u64 n]) ∧ w = w' := by
 have HM := hid (mul64_one n w hn)
 have hw : IntKind.u64.wrap (n : Int) = n := by
  have : ∀ k : Fin 9, IntKind.u64.wrap ((k : Nat) : Int) = ((k : Nat) : Int) := by decide +kernel
  exact this ⟨n, by omega⟩
 go_enter Tryz.func305, Tryz.ntmps305
 go_wp2_with fail
 refine HM.out.mono ?_; rintro e w' ⟨rfl, rfl⟩
 go_wp2_with fail
 refine bodyPost_ret (v := .tuple #[.int .u64 0, .int .u64 n]) (by simp [results, Tryz.results305, go_sem]) rfl ?_
 exact ⟨rfl, rfl⟩
def rowR (k N : Nat) : List Value := List.replicate k (.int .i64 1) ++ List.replicate (N - k) (.int .i64 0)
theorem rowR_len {k N : Nat} (h : k ≤ N) : (rowR k N).length = N := by simp [rowR]; omega
theorem rowR_splice {k j N : Nat} (h : k + j ≤ N) : splice (rowR k N) k (List.replicate j (.int .i64 1)) = rowR (k + j) N := by
 unfold splice rowR
 rw [List.take_left' (by simp), List.length_replicate, List.drop_append, List.drop_eq_nil_of_le (by simp), List.length_replicate, List.nil_append, List.drop_replicate, ← List.append_assoc, List.replicate_append_replicate]
 congr 2
 omega
theorem rowR_get {k N j : Nat} (h : j < k) : (rowR k N)[j]? = some (.int .i64 1) := by
 unfold rowR
 rw [List.getElem?_append_left (by simpa using h)]
 simp [h]
theorem OwnI.heap {w : World} {B g n : Nat} {a : List Int} (h : OwnI w B (.slice (some ⟨g, 0, none⟩) n n) a) (hl : a.length = n) : w.heap[g]? = some (.cells (intCells a).toArray 2 (0, 0)) := by
 rcases h.2 with ⟨e, _⟩ | ⟨g', cap, cur, e, _, hg, _, _, hs, ht⟩
 ·cases e
 ·cases e
  rw [hg]
  have : cur.toList = intCells a := by
   rw [← ht, List.take_of_length_le (by simp at hs ⊢; omega)]
  rw [← this]
theorem OwnI.ofHeap {w : World} {B g : Nat} {a : List Int} (h : w.heap[g]? = some (.cells (intCells a).toArray 2 (0, 0))) (hB : B ≤ g) (hl : a.length ≤ maxLen) : OwnI w B (.slice (some ⟨g, 0, none⟩) a.length a.length) a := by
 refine ⟨by simp [intCells], .inr ⟨g, a.length, _, rfl, hB, h, Nat.le_refl _, hl, by simp [intCells], ?_⟩⟩
 rw [Nat.mul_one, List.take_of_length_le (by simp [intCells])]
theorem rowR_ints (N : Nat) : rowR N N = intCells (List.replicate N 1) := by simp [rowR, intCells]
theorem rowR_zero (N : Nat) : rowR 0 N = intCells (List.replicate N 0) := by simp [rowR, intCells]
set_option maxRecDepth 20000 in
set_option maxHeartbeats 400000 in
theorem repeat_one (N : Nat) (v : Value) (w : World) (hv : Ints w v [1]) (hN : N ≤ 8) :
  Calls Tryz.prog 280 #[v, .int .i64 N] w (RetI w (List.replicate N 1)) := by
 have HM := hid (mul_one N w hN)
 obtain ⟨p, cap, rfl, hle, hmx, hat, _⟩ := hv
 unfold maxLen at hmx
 obtain ⟨bs, os, rfl, hsrc⟩ := hat.int 0 (by simp)
 simp only [List.getElem_cons_zero, List.length_cons, List.length_nil, Nat.zero_add, Nat.add_zero] at *
 have hw : IntKind.u64.wrap (N : Int) = N := by
  have : ∀ k : Fin 9, IntKind.u64.wrap ((k : Nat) : Int) = ((k : Nat) : Int) := by decide +kernel
  exact this ⟨N, by omega⟩
 have hw1 : IntKind.u64.wrap 1 = 1 := by decide +kernel
 have hd1 : ¬ ((N : Int) > 9223372036854775807) := by omega
 obtain ⟨wm, hmk, hown0, km⟩ := run_makeI w N (by omega)
 have hg0 := hown0.heap (by simp)
 rw [← rowR_zero] at hg0
 have hsm := km.cell hsrc
 have HG0 := hid hg0
 have KM := hid km
 clear hg0 hown0 km hat
 go_enter Tryz.func280, Tryz.ntmps280
 go_wp2_with fail
 refine HM.out.mono ?_; rintro e w' ⟨rfl, rfl⟩
 have hrep : ∀ (m j : Nat) (x u : Value), (List.replicate m x)[j]? = some u → j < m ∧ u = x := fun m j x u h => by
  rw [List.getElem?_replicate] at h
  split at h
  ·rename_i hj; exact ⟨hj, by injection h with h; exact h.symm⟩
  ·cases h
 have HREP := hid hrep
 have hadd : ∀ b o j, (⟨b, o, none⟩ : Addr).add j = ⟨b, o + j, none⟩ := fun b o j => by unfold Addr.add; split <;> simp_all
 have HADD := hid hadd
 have HSM := hid hsm
 have HLN := hid (fun k (h : k ≤ N) => rowR_len h)
 have HSP := hid (fun k j (h : k + j ≤ N) => rowR_splice h)
 have HGET := hid (fun k j (h : j < k) => rowR_get (N := N) h)
 have HEND := hid (rowR_ints N)
 clear hrep hadd hsm
 obtain ⟨one, hone⟩ : ∃ one : Value, one = .int .i64 1 := ⟨_, rfl⟩
 obtain ⟨RW, hRW⟩ : ∃ RW : Nat → List Value, ∀ k, RW k = rowR k N := ⟨fun k => rowR k N, fun _ => rfl⟩
 obtain ⟨CS, hCS⟩ : ∃ CS : Nat → List Value, ∀ k, CS k = List.replicate k one := ⟨fun k => List.replicate k one, fun _ => rfl⟩
 have HOo := hid hone
 have HRW := hid hRW
 have HCS := hid hCS
 have HG1 := hid (show wm.heap[w.heap.size]? = some (.cells (RW 0).toArray 2 (0, 0)) by rw [hRW]; exact HG0.out)
 have HCL := hid (fun k => show (CS k).length = k by rw [hCS, List.length_replicate])
 have HRL := hid (fun k (h : k ≤ N) => show (RW k).length = N by rw [hRW]; exact HLN.out k h)
 have HC1 := hid (fun k => show ∀ u ∈ CS k, u.oneCell' = true by
  intro u hu
  rw [hCS] at hu
  rw [List.eq_of_mem_replicate hu, hone]; rfl)
 have HSS := hid (fun k j (h : k + j ≤ N) => show splice (RW k) k (CS j) = RW (k + j) by rw [hRW, hRW, hCS, hone]; exact HSP.out k j h)
 have HSRC := hid (fun k j u (h : (CS k)[j]? = some u) => show j < k ∧ u = .int .i64 1 by
  rw [hCS] at h
  have := HREP.out _ _ _ _ h
  exact ⟨this.1, this.2.trans hone⟩)
 have HRG := hid (fun k j (h : j < k) => show (RW k)[j]? = some (.int .i64 1) by rw [hRW]; exact HGET.out k j h)
 clear hone hRW hCS HG0
 have A1 := hid (show (CS (min 1 N)).length = Nat.min 1 N from HCL.out _)
 have A2 := hid (show 0 < (CS (min 1 N)).length → ∀ (j : Nat) (u : Value), (CS (min 1 N))[j]? = some u → wm.cell? ⟨bs, os + j, none⟩ = some u from fun _ j u hj => by
  obtain ⟨h1, h2⟩ := HSRC.out _ _ _ hj
  obtain rfl : j = 0 := by omega
  rw [h2]; exact HSM.out)
 have A3 := hid (show 0 + (CS (min 1 N)).length ≤ (RW 0).length by rw [HCL.out, HRL.out 0 (by omega)]; omega)
 have A4 := hid (HSS.out 0 (min 1 N) (by omega))
 have HSZ := hid (show (Tryz.prog.info? 2).map (·.size) = some 1 by kernel_rfl)
 go_wp2_with (refine wpList_copy_splice rfl _ _ _ _ rfl 2 Tryz.underlying32 HSZ.out _ _ _ _ _ _ rfl rfl w.heap.size 0 (RW 0) 2 HG1.out (CS (min 1 N)) ?_ ?_ ?_ (HC1.out _) w.heap.size w KM.out (Nat.le_refl _) ?_; exact A1.out; (first | exact A2.out | (intro hq; exact ⟨rfl, _, rfl, fun j u hj => by rw [HADD.out]; exact A2.out hq j u hj⟩)); exact A3.out; intro w2 hG2 hB2; rw [A4.out, Nat.zero_add] at hG2; rw [HCL.out (min 1 N)])
 go_loopw [8] (fun o wr => ∃ k : Nat, k ≤ N ∧ (k = 0 → N = 0) ∧ o = .int .i64 k ∧ Hid (wr.heap[w.heap.size]? = some (.cells (RW k).toArray 2 (0, 0))) ∧ Below w.heap.size w wr) (fun o _ => N - (intOf o).toNat)
 case atStart => exact ⟨min 1 N, by omega, by omega, rfl, hG2, hB2⟩
 case round =>
  obtain ⟨k, hk, hk0, rfl, hG, hB⟩ := hrel
  clear hG2 hB2 A1 A2 A3 A4
  by_cases hlt : k < N
  ·have hlt' : (k : Int) < N := by omega
   have hk1 : 1 ≤ k := by
    rcases Nat.eq_zero_or_pos k with h | h
    ·have := hk0 h; omega
    ·exact h
   have B1 := hid (show (CS (min k (N - k))).length = Nat.min k (N - k) from HCL.out _)
   have B2 := hid (fun (wz : World) (hz : wz.heap[w.heap.size]? = some (.cells (RW k).toArray 2 (0, 0))) => show ∀ (j : Nat) (u : Value), (CS (min k (N - k)))[j]? = some u → wz.cell? ⟨w.heap.size, j, none⟩ = some u from fun j u hj => by
    obtain ⟨h1, h2⟩ := HSRC.out _ _ _ hj
    rw [h2]
    have := HRG.out k j (by omega)
    simp only [World.cell?, hz]
    simpa using this)
   have B3 := hid (show k + (CS (min k (N - k))).length ≤ (RW k).length by rw [HCL.out, HRL.out k hk]; omega)
   have B4 := hid (HSS.out k (min k (N - k)) (by omega))
   have hkN : min k (N - k) ≤ N := by omega
   go_wp2_with fail
   have HWK := hid (show IntKind.i64.wrap ((k : Int) + ((min k (N - k) : Nat) : Int)) = ((k + min k (N - k) : Nat) : Int) by
    rw [← Int.natCast_add]; exact wrapN _ (by omega))
   clear HG1
   have hNk : ¬ N = k := by omega
   have hGd : wr.drew.heap[w.heap.size]? = some (.cells (RW k).toArray 2 (0, 0)) := hG.out
   have HGD := hid hGd; clear hGd
   have hBd : Below w.heap.size w wr.drew := Below.drew hB
   have B5 := hid (show 0 < (CS (min k (N - k))).length → (some (⟨w.heap.size, k, none⟩ : Addr)) = some ⟨w.heap.size, k, none⟩ ∧ ∃ ad, (some (⟨w.heap.size, 0, none⟩ : Addr)) = some ad ∧ ∀ (j : Nat) (u : Value), (CS (min k (N - k)))[j]? = some u → wr.drew.cell? (ad.add j) = some u from fun _ => ⟨rfl, _, rfl, fun j u hj => by
    rw [HADD.out, Nat.zero_add]; exact B2.out wr.drew HGD.out j u hj⟩)
   have hgi : goInt ((CS (min k (N - k))).length : Int) = .int .i64 ((min k (N - k) : Nat) : Int) := by rw [HCL.out]; rfl
   have HGI := hid hgi; clear hgi
   go_region_law ((refine step_copy_splice rfl (.tmp 41) (.tmp 44) _ _ rfl 2 Tryz.underlying32 HSZ.out (some ⟨w.heap.size, k, none⟩) (some ⟨w.heap.size, 0, none⟩) (N - k) (N - k) k N ?_ ?_ w.heap.size k (RW k) 2 HGD.out (CS (min k (N - k))) B1.out B5.out B3.out (HC1.out _) w.heap.size w hBd (Nat.le_refl _) ?_; go_simp; (try go_simp); intro w3 hG3 hB3; rw [HGI.out]))
   all_goals
    rw [B4.out] at hG3
    go_wp2_with fail
    go_roundw
    case rel => first | exact ⟨k + min k (N - k), by omega, by omega, HWK.out, hG3⟩ | exact ⟨k + min k (N - k), by omega, by omega, by rw [HWK.out], hG3, hB3⟩
    case measure =>
     have hwk := HWK.out
     simp only [intOf, hwk]
     omega
  ·obtain rfl : k = N := by omega
   have hlt' : ¬ (k : Int) < k := by omega
   have HF := hid (show OwnI wr w.heap.size (.slice (some ⟨w.heap.size, 0, none⟩) k k) (List.replicate k 1) by
    have h1 := hG.out
    rw [HRW.out, HEND.out] at h1
    have := OwnI.ofHeap h1 (Nat.le_refl _) (by simp [maxLen]; omega)
    simpa using this)
   go_wp2_with fail
   go_ret
   exact ⟨_, rfl, HF.out, hB⟩
end Go.Proofs.YtikooimokfbffaaGreatDoor
