/- Depths of an order: lists of them, on both sides. -/
import Derived.Test.YtponaoefpicfpaaGreatDoorGQT
import Derived.Laws.CopyOwn
import Derived.Deep.RegionLaw
import Derived.Test.YtponaoefpicfpaaGreatDoorGQE0
import Derived.Test.YtponaoefpicfpaaGreatDoorGQ2
import Derived.Test.YtponaoefpicfpaaGreatDoorGQJ
import Derived.Test.YtponaoefpicfpaaGreatDoorGAL
import Derived.Deep.RegionHeld3
namespace Go.Proofs.YtponaoefpicfpaaGreatDoor
open Go.RowKit
theorem dptL_take {b : List Nat} {k : Nat} (h : k < b.length) : (dptL b).take (k + 1) = (dptL b).take k ++ [dptB b k] := by
  have hl : k < (dptL b).length := by rw [dptL_len]; exact h
  rw [List.take_succ_eq_append_getElem hl]
  congr 2
  have := dptL_get h
  rw [getD_get hl] at this
  exact this
--
set_option maxRecDepth 20000 in
set_option maxHeartbeats 2000000 in
theorem l05Depths_any (b : List Nat) (hp : Pos b) (v : Value) (w : World) (hv : Ints w v (zs b)) :
    Calls Tryz.prog 194 #[.agg #[.int .i64 b.length, v]] w (RetI w (zs (dptL b))) := by
  obtain ⟨hb, hbm, hr, ht, ha⟩ := id hp
  have kA := (Keeps.refl w).alloc (.cells #[.int .i64 b.length, v] 109)
  obtain ⟨c0, c1⟩ := BoxF.made w b.length v 109
  have HCL := hid (l05Clusters_any b v _ (hv.keeps kA) hb hbm hr ht)
  rw [clB_range hb hbm hr ht ha] at HCL
  have HD := hid (fun x u wz (hx : x < b.length) (kz : Keeps w wz) (hu : Ints wz u (zs (List.range b.length))) => l05Depth_any b hp 8 x hx (cntB_le _) v u wz (hv.keeps kz) hu)
  have HTK := hid (fun k (hk : k < b.length) => dptL_take hk)
  have hdl := dptL_len b
  have HALL : Hid ((dptL b).take b.length = dptL b) := hid (by rw [List.take_of_length_le (by omega)])
  obtain ⟨p, cap, rfl, hle, hmx, _, _⟩ := hv
  unfold maxLen at hmx
  rw [zs_length b] at *
  clear hbm hr ht ha hp
  generalize hn : b.length = n at *
  go_enter Tryz.func194, Tryz.ntmps194
  go_wp2_with fail
  refine HCL.out.mono ?_; rintro e w2 ⟨vc, rfl, hvc, k2⟩
  have z0 := k2.cell c0
  have z1 := k2.cell c1
  obtain ⟨pc, mc, qc, rfl⟩ := hvc.shape0
  have HVC := hid (hvc.ints (by rw [zs_length, List.length_range]; omega))
  have kk := kA.trans k2
  have hE := OwnI.empty w2
  have HE := hid hE
  have k3 := (Keeps.refl w2).alloc (.cells #[] 2)
  have hs2 := kk.size
  clear hvc hE
  go_wp2_with fail
  go_loopw [4, 5] (fun o x' wr => ∃ k : Nat, k ≤ n ∧ x' = .int .i64 k ∧ OwnI wr w2.heap.size o (zs ((dptL b).take k)) ∧ Keeps w2 wr) (fun _ x' _ => n - (intOf x').toNat)
  case atStart => exact ⟨0, by omega, rfl, by simpa [zs] using HE.out, k3⟩
  case round =>
    obtain ⟨k, hk, rfl, hown, kw⟩ := hrel
    have y0 := kw.cell z0
    have y1 := kw.cell z1
    by_cases hlt : k < n
    · have hlt' : (k : Int) < n := by omega
      have HDk := hid (HD.out k _ wr (by first | exact hlt | omega) (kk.trans kw) (HVC.out.keeps kw))
      have hll : (zs ((dptL b).take k)).length ≤ 8 := by rw [zs_length, List.length_take]; omega
      have HT := hid (HTK.out k (by first | exact hlt | omega))
      have HO := hid hown; clear hown
      generalize dptB b k = d at *
      generalize hL : zs ((dptL b).take k) = L at *
      have HL := hid hL; clear hL
      go_wp2_with (first | (go_at_call 270; refine HDk.out.mono ?_; rintro e w4 ⟨rfl, k4⟩) | (at_builtin; refine appI rfl _ _ rfl w2.heap.size _ L rfl (HO.out.keeps (k4.alloc _)) _ [(d : Int)] rfl (Ints.lit1 w4 d) (by have h1 := k4.size; have h2 := kw.size; simp; omega) (by simp; omega) ?_; intro v1 w5 hv1 hg1 hr1; have k5 := ((kw.trans k4).alloc (.cells #[.int .i64 d] 2)).grown hg1 (by simpa using hr1)))
      go_roundw
      case rel => exact ⟨k + 1, by omega, by go_num, by rw [HT.out, zs_snoc, HL.out]; exact hv1, k5⟩
      case measure => simp [intOf]; omega
    · obtain rfl : k = n := by omega
      have hlt' : ¬ (k : Int) < k := by omega
      rw [HALL.out] at hown
      go_wp2_with fail
      go_ret
      exact ⟨_, rfl, hown.mono (by omega), kk.trans kw⟩
--
set_option maxRecDepth 20000 in
theorem l16Depths_any (b : List Nat) (hp : Pos b) (v : Value) (w : World) (hv : Ints w v (zs b)) :
    Calls Tryz.prog 110 #[.agg #[.int .i64 b.length, v]] w (RetI w (zs (dptL b))) := by
  have kA := (Keeps.refl w).alloc (.cells #[.int .i64 b.length, v] 32)
  have HD := hid (l05Depths_any b hp v _ (hv.keeps kA))
  obtain ⟨p, cap, rfl, _⟩ := hv
  have kz := kA.size
  clear hp
  go_enter Tryz.func110, Tryz.ntmps110
  go_wp2_with fail
  refine HD.out.mono ?_; rintro e w2 ⟨vd, rfl, hvd, k2⟩
  go_wp2_with fail
  go_ret
  exact ⟨_, rfl, hvd.mono kz, kA.trans k2⟩
theorem two_u64 {a b c d : Int} (h1 : a = c) (h2 : b = d) : Ending.returned (.tuple #[.int .u64 a, .int .u64 b]) = .returned (.tuple #[.int .u64 c, .int .u64 d]) := by rw [h1, h2]
--
set_option maxRecDepth 20000 in
theorem mul64_one (n : Nat) (w : World) (hn : n ≤ 8) : Calls Tryz.prog 350 #[.int .u64 1, .int .u64 n] w fun e w' => e = .returned (.tuple #[.int .u64 0, .int .u64 n]) ∧ w = w' := by
  go_enter Tryz.func350, Tryz.ntmps350
  go_wp2
  refine bodyPost_ret (v := ?v) ?h rfl ?_
  case h => simp [results, Tryz.results350, go_sem]; rfl
  refine ⟨two_u64 ?_ ?_, rfl⟩
  · clear w
    revert n
    decide +kernel
  · clear w
    revert n
    decide +kernel
--
set_option maxRecDepth 20000 in
theorem mul_one (n : Nat) (w : World) (hn : n ≤ 8) : Calls Tryz.prog 341 #[.int .u64 1, .int .u64 n] w fun e w' => e = .returned (.tuple #[.int .u64 0, .int .u64 n]) ∧ w = w' := by
  have HM := hid (mul64_one n w hn)
  have hw : IntKind.u64.wrap (n : Int) = n := by
    have : ∀ k : Fin 9, IntKind.u64.wrap ((k : Nat) : Int) = ((k : Nat) : Int) := by decide +kernel
    exact this ⟨n, by omega⟩
  go_enter Tryz.func341, Tryz.ntmps341
  go_wp2_with fail
  refine HM.out.mono ?_; rintro e w' ⟨rfl, rfl⟩
  go_wp2_with fail
  refine bodyPost_ret (v := .tuple #[.int .u64 0, .int .u64 n]) (by simp [results, Tryz.results341, go_sem]) rfl ?_
  exact ⟨rfl, rfl⟩
--
/-- the row while it is filled -/
def rowR (k N : Nat) : List Value := List.replicate k (.int .i64 1) ++ List.replicate (N - k) (.int .i64 0)
theorem rowR_len {k N : Nat} (h : k ≤ N) : (rowR k N).length = N := by simp [rowR]; omega
theorem rowR_splice {k j N : Nat} (h : k + j ≤ N) : splice (rowR k N) k (List.replicate j (.int .i64 1)) = rowR (k + j) N := by
  unfold splice rowR
  rw [List.take_left' (by simp), List.length_replicate, List.drop_append, List.drop_eq_nil_of_le (by simp), List.length_replicate, List.nil_append, List.drop_replicate, ← List.append_assoc, List.replicate_append_replicate]
  congr 2
  omega
theorem rowR_get {k N j : Nat} (h : j < k) : (rowR k N)[j]? = some (.int .i64 1) := by
  unfold rowR
  rw [List.getElem?_append_left (by simpa using h)]
  simp [h]
theorem OwnI.heap {w : World} {B g n : Nat} {a : List Int} (h : OwnI w B (.slice (some ⟨g, 0, none⟩) n n) a) (hl : a.length = n) : w.heap[g]? = some (.cells (intCells a).toArray 2 (0, 0)) := by
  rcases h.2 with ⟨e, _⟩ | ⟨g', cap, cur, e, _, hg, _, _, hs, ht⟩
  · cases e
  · cases e
    rw [hg]
    have : cur.toList = intCells a := by
      rw [← ht, List.take_of_length_le (by simp at hs ⊢; omega)]
    rw [← this]
theorem OwnI.ofHeap {w : World} {B g : Nat} {a : List Int} (h : w.heap[g]? = some (.cells (intCells a).toArray 2 (0, 0))) (hB : B ≤ g) (hl : a.length ≤ maxLen) : OwnI w B (.slice (some ⟨g, 0, none⟩) a.length a.length) a := by
  refine ⟨by simp [intCells], .inr ⟨g, a.length, _, rfl, hB, h, Nat.le_refl _, hl, by simp [intCells], ?_⟩⟩
  rw [Nat.mul_one, List.take_of_length_le (by simp [intCells])]
theorem rowR_ints (N : Nat) : rowR N N = intCells (List.replicate N 1) := by simp [rowR, intCells]
theorem rowR_zero (N : Nat) : rowR 0 N = intCells (List.replicate N 0) := by simp [rowR, intCells]
set_option maxRecDepth 20000 in
set_option maxHeartbeats 400000 in
theorem repeat_one (N : Nat) (v : Value) (w : World) (hv : Ints w v [1]) (hN : N ≤ 8) :
    Calls Tryz.prog 315 #[v, .int .i64 N] w (RetI w (List.replicate N 1)) := by
  have HM := hid (mul_one N w hN)
  obtain ⟨p, cap, rfl, hle, hmx, hat, _⟩ := hv
  unfold maxLen at hmx
  obtain ⟨bs, os, rfl, hsrc⟩ := hat.int 0 (by simp)
  simp only [List.getElem_cons_zero, List.length_cons, List.length_nil, Nat.zero_add, Nat.add_zero] at *
  have hw : IntKind.u64.wrap (N : Int) = N := by
    have : ∀ k : Fin 9, IntKind.u64.wrap ((k : Nat) : Int) = ((k : Nat) : Int) := by decide +kernel
    exact this ⟨N, by omega⟩
  have hw1 : IntKind.u64.wrap 1 = 1 := by decide +kernel
  have hd1 : ¬ ((N : Int) > 9223372036854775807) := by omega
  obtain ⟨wm, hmk, hown0, km⟩ := run_makeI w N (by omega)
  have hg0 := hown0.heap (by simp)
  rw [← rowR_zero] at hg0
  have hsm := km.cell hsrc
  have HG0 := hid hg0
  have KM := hid km
  clear hg0 hown0 km hat
  go_enter Tryz.func315, Tryz.ntmps315
  go_wp2_with fail
  refine HM.out.mono ?_; rintro e w' ⟨rfl, rfl⟩
  have hrep : ∀ (m j : Nat) (x u : Value), (List.replicate m x)[j]? = some u → j < m ∧ u = x := fun m j x u h => by
    rw [List.getElem?_replicate] at h
    split at h
    · rename_i hj; exact ⟨hj, by injection h with h; exact h.symm⟩
    · cases h
  have HREP := hid hrep
  have hadd : ∀ b o j, (⟨b, o, none⟩ : Addr).add j = ⟨b, o + j, none⟩ := fun b o j => by unfold Addr.add; split <;> simp_all
  have HADD := hid hadd
  have HSM := hid hsm
  have HLN := hid (fun k (h : k ≤ N) => rowR_len h)
  have HSP := hid (fun k j (h : k + j ≤ N) => rowR_splice h)
  have HGET := hid (fun k j (h : j < k) => rowR_get (N := N) h)
  have HEND := hid (rowR_ints N)
  clear hrep hadd hsm
  obtain ⟨one, hone⟩ : ∃ one : Value, one = .int .i64 1 := ⟨_, rfl⟩
  obtain ⟨RW, hRW⟩ : ∃ RW : Nat → List Value, ∀ k, RW k = rowR k N := ⟨fun k => rowR k N, fun _ => rfl⟩
  obtain ⟨CS, hCS⟩ : ∃ CS : Nat → List Value, ∀ k, CS k = List.replicate k one := ⟨fun k => List.replicate k one, fun _ => rfl⟩
  have HOo := hid hone
  have HRW := hid hRW
  have HCS := hid hCS
  have HG1 := hid (show wm.heap[w.heap.size]? = some (.cells (RW 0).toArray 2 (0, 0)) by rw [hRW]; exact HG0.out)
  have HCL := hid (fun k => show (CS k).length = k by rw [hCS, List.length_replicate])
  have HRL := hid (fun k (h : k ≤ N) => show (RW k).length = N by rw [hRW]; exact HLN.out k h)
  have HC1 := hid (fun k => show ∀ u ∈ CS k, u.oneCell' = true by
    intro u hu
    rw [hCS] at hu
    rw [List.eq_of_mem_replicate hu, hone]; rfl)
  have HSS := hid (fun k j (h : k + j ≤ N) => show splice (RW k) k (CS j) = RW (k + j) by rw [hRW, hRW, hCS, hone]; exact HSP.out k j h)
  have HSRC := hid (fun k j u (h : (CS k)[j]? = some u) => show j < k ∧ u = .int .i64 1 by
    rw [hCS] at h
    have := HREP.out _ _ _ _ h
    exact ⟨this.1, this.2.trans hone⟩)
  have HRG := hid (fun k j (h : j < k) => show (RW k)[j]? = some (.int .i64 1) by rw [hRW]; exact HGET.out k j h)
  clear hone hRW hCS HG0
  have A1 := hid (show (CS (min 1 N)).length = Nat.min 1 N from HCL.out _)
  have A2 := hid (show 0 < (CS (min 1 N)).length → ∀ (j : Nat) (u : Value), (CS (min 1 N))[j]? = some u → wm.cell? ⟨bs, os + j, none⟩ = some u from fun _ j u hj => by
    obtain ⟨h1, h2⟩ := HSRC.out _ _ _ hj
    obtain rfl : j = 0 := by omega
    rw [h2]; exact HSM.out)
  have A3 := hid (show 0 + (CS (min 1 N)).length ≤ (RW 0).length by rw [HCL.out, HRL.out 0 (by omega)]; omega)
  have A4 := hid (HSS.out 0 (min 1 N) (by omega))
  have HSZ := hid (show (Tryz.prog.info? 2).map (·.size) = some 1 by kernel_rfl)
  go_wp2_with (refine wpList_copy_splice rfl _ _ _ _ rfl 2 Tryz.underlying25 HSZ.out _ _ _ _ _ _ rfl rfl w.heap.size 0 (RW 0) 2 HG1.out (CS (min 1 N)) ?_ ?_ ?_ (HC1.out _) w.heap.size w KM.out (Nat.le_refl _) ?_; exact A1.out; (first | exact A2.out | (intro hq; exact ⟨rfl, _, rfl, fun j u hj => by rw [HADD.out]; exact A2.out hq j u hj⟩)); exact A3.out; intro w2 hG2 hB2; rw [A4.out, Nat.zero_add] at hG2; rw [HCL.out (min 1 N)])
  go_loopw [8] (fun o wr => ∃ k : Nat, k ≤ N ∧ (k = 0 → N = 0) ∧ o = .int .i64 k ∧ Hid (wr.heap[w.heap.size]? = some (.cells (RW k).toArray 2 (0, 0))) ∧ Below w.heap.size w wr) (fun o _ => N - (intOf o).toNat)
  case atStart => exact ⟨min 1 N, by omega, by omega, rfl, hG2, hB2⟩
  case round =>
    obtain ⟨k, hk, hk0, rfl, hG, hB⟩ := hrel
    clear hG2 hB2 A1 A2 A3 A4
    by_cases hlt : k < N
    · have hlt' : (k : Int) < N := by omega
      have hk1 : 1 ≤ k := by
        rcases Nat.eq_zero_or_pos k with h | h
        · have := hk0 h; omega
        · exact h
      have B1 := hid (show (CS (min k (N - k))).length = Nat.min k (N - k) from HCL.out _)
      have B2 := hid (fun (wz : World) (hz : wz.heap[w.heap.size]? = some (.cells (RW k).toArray 2 (0, 0))) => show ∀ (j : Nat) (u : Value), (CS (min k (N - k)))[j]? = some u → wz.cell? ⟨w.heap.size, j, none⟩ = some u from fun j u hj => by
        obtain ⟨h1, h2⟩ := HSRC.out _ _ _ hj
        rw [h2]
        have := HRG.out k j (by omega)
        simp only [World.cell?, hz]
        simpa using this)
      have B3 := hid (show k + (CS (min k (N - k))).length ≤ (RW k).length by rw [HCL.out, HRL.out k hk]; omega)
      have B4 := hid (HSS.out k (min k (N - k)) (by omega))
      have hkN : min k (N - k) ≤ N := by omega
      go_wp2_with fail
      have HWK := hid (show IntKind.i64.wrap ((k : Int) + ((min k (N - k) : Nat) : Int)) = ((k + min k (N - k) : Nat) : Int) by
        rw [← Int.natCast_add]; exact wrapN _ (by omega))
      clear HG1
      have hNk : ¬ N = k := by omega
      have hGd : wr.drew.heap[w.heap.size]? = some (.cells (RW k).toArray 2 (0, 0)) := hG.out
      have HGD := hid hGd; clear hGd
      have hBd : Below w.heap.size w wr.drew := Below.drew hB
      have B5 := hid (show 0 < (CS (min k (N - k))).length → (some (⟨w.heap.size, k, none⟩ : Addr)) = some ⟨w.heap.size, k, none⟩ ∧ ∃ ad, (some (⟨w.heap.size, 0, none⟩ : Addr)) = some ad ∧ ∀ (j : Nat) (u : Value), (CS (min k (N - k)))[j]? = some u → wr.drew.cell? (ad.add j) = some u from fun _ => ⟨rfl, _, rfl, fun j u hj => by
        rw [HADD.out, Nat.zero_add]; exact B2.out wr.drew HGD.out j u hj⟩)
      have hgi : goInt ((CS (min k (N - k))).length : Int) = .int .i64 ((min k (N - k) : Nat) : Int) := by rw [HCL.out]; rfl
      have HGI := hid hgi; clear hgi
      go_region_law ((refine step_copy_splice rfl (.tmp 41) (.tmp 44) _ _ rfl 2 Tryz.underlying25 HSZ.out (some ⟨w.heap.size, k, none⟩) (some ⟨w.heap.size, 0, none⟩) (N - k) (N - k) k N ?_ ?_ w.heap.size k (RW k) 2 HGD.out (CS (min k (N - k))) B1.out B5.out B3.out (HC1.out _) w.heap.size w hBd (Nat.le_refl _) ?_; go_simp; (try go_simp); intro w3 hG3 hB3; rw [HGI.out]))
      all_goals
        rw [B4.out] at hG3
        go_wp2_with fail
        go_roundw
        case rel => first | exact ⟨k + min k (N - k), by omega, by omega, HWK.out, hG3⟩ | exact ⟨k + min k (N - k), by omega, by omega, by rw [HWK.out], hG3, hB3⟩
        case measure =>
          have hwk := HWK.out
          simp only [intOf, hwk]
          omega
    · obtain rfl : k = N := by omega
      have hlt' : ¬ (k : Int) < k := by omega
      have HF := hid (show OwnI wr w.heap.size (.slice (some ⟨w.heap.size, 0, none⟩) k k) (List.replicate k 1) by
        have h1 := hG.out
        rw [HRW.out, HEND.out] at h1
        have := OwnI.ofHeap h1 (Nat.le_refl _) (by simp [maxLen]; omega)
        simpa using this)
      go_wp2_with fail
      go_ret
      exact ⟨_, rfl, HF.out, hB⟩
end Go.Proofs.YtponaoefpicfpaaGreatDoor
/- Depths of an order: the program's side. -/
namespace Go.Proofs.YtponaoefpicfpaaGreatDoor
open Go.RowKit
theorem zs_one (n : Nat) : List.replicate n (1 : Int) = zs (List.replicate n 1) := by simp [zs]
--
set_option maxRecDepth 20000 in
set_option maxHeartbeats 4000000 in
theorem worldDepths_any (b : List Nat) (hp : Pos b) (v : Value) (w : World) (hv : Ints w v (zs b)) :
    Calls Tryz.prog 279 #[.agg #[.int .i64 b.length, v]] w (RetI w (zs (dptL b))) := by
  obtain ⟨hb, hbm, hr, ht, ha⟩ := hp
  have kA := (Keeps.refl w).alloc (.cells #[.int .i64 b.length, v] 109)
  obtain ⟨c0, c1⟩ := BoxF.made w b.length v 109
  have HRB := hid (fun wz (k : Keeps w wz) => reachable_id b b.length v wz (hv.keeps k) hb hbm hr ht)
  have HCB := hid (fun wz (k : Keeps w wz) => clusters_any b v wz (hv.keeps k) hb hbm hr ht)
  rw [clB_range hb hbm hr ht ha] at HCB
  have HRP := hid (fun u wz (hu : Ints wz u [1]) => repeat_one b.length u wz hu hb)
  rw [zs_one] at HRP
  have HMB := hid (fun k wz => membersB_any (b.getD k 0) wz (by have := hbm k; have := two8 hb; omega))
  have HS0 := hid (rnd_start hb hbm hr ht ha)
  have HSE := hid (fun a (h : RndA b a (b.length + 1)) => rnd_end hb hbm hr ht ha h)
  have HST := hid (fun t x l j a (h : InnA b t x l j a) (hx : x < b.length) (hj : j < l.length) (hbit : (b.getD x 0).testBit l[j] = true) (hne : l[j] ≠ x) => inn_step hb hbm hr ht ha h hx hj hbit hne)
  have HIE := hid (fun t x a (h : InnA b t x (memB (b.getD x 0)) (memB (b.getD x 0)).length a) (hx : x < b.length) => inn_end hb hbm hr ht ha h hx)
  have HML := hid (fun x => show (memB (b.getD x 0)).length ≤ 8 from lowB_len _ 8)
  have HMM := hid (fun x y (h : y ∈ memB (b.getD x 0)) => show y < b.length ∧ (b.getD x 0).testBit y = true from ⟨memB_lt (hbm x) h, (memB_mem h).2⟩)
  have HD8 := hid (fun i (hi : i < b.length) => dptB_8 hb hbm hr ht ha hi)
  obtain ⟨p, cap, rfl, hle, hmx, _, _⟩ := hv
  unfold maxLen at hmx
  rw [zs_length b] at *
  clear hbm hr ht ha
  have kd0 := (Keeps.refl (w.alloc (.cells #[.int .i64 b.length, .slice p b.length cap] 109))).drew
  have e0 := And.intro (kd0.cell c0) (kd0.cell c1)
  have kD := kA.drew
  go_enter Tryz.func279, Tryz.ntmps279
  go_wp2_with fail
  go_region_held3 (fun w' => w'.cell? ⟨w.heap.size, 0, none⟩ = some (.int .i64 b.length) ∧ w'.cell? ⟨w.heap.size, 1, none⟩ = some (.slice p b.length cap)) (first | exact e0 | exact e1 | exact e2) (first | (go_at_call 313; refine (HRB.out _ kD).mono ?_; rintro e w2 ⟨v2, rfl, hv2, k2⟩; have e1 := And.intro (k2.cell e0.1) (k2.cell e0.2)) | (go_at_call 314; refine (HCB.out _ (kD.trans k2)).mono ?_; rintro e w3 ⟨v3, rfl, hv3, k3⟩; have e2 := And.intro (k3.cell e1.1) (k3.cell e1.2)))
  obtain ⟨p2, m2, q2, rfl⟩ := hv2.shape0
  obtain ⟨p3, m3, q3, rfl⟩ := hv3.shape0
  have HV2 := hid ((hv2.keeps k3).ints (by rw [zs_length]; omega))
  have HV3 := hid (hv3.ints (by rw [zs_length, List.length_range]; omega))
  have kk := kD.trans (k2.trans k3)
  have k4 := (Keeps.refl w3).alloc (.cells #[.int .i64 1] 2)
  have z0 := k4.cell e2.1
  have z1 := k4.cell e2.2
  have HR := hid (HRP.out _ _ (Ints.lit1 w3 1))
  have hl2 : m2 = b.length := by obtain ⟨_, _, e, _⟩ := HV2.out; cases e; exact zs_length b
  have hl3 : m3 = b.length := by obtain ⟨_, _, e, _⟩ := HV3.out; cases e; rw [zs_length, List.length_range]
  subst hl2
  subst hl3
  have E2 := hid e2
  clear hv2 hv3 e0 e1 e2 c0 c1
  go_wp2_with fail
  refine HR.out.mono ?_; rintro e w4 ⟨v4, rfl, hv4, k5⟩
  replace z0 := k5.cell z0
  replace z1 := k5.cell z1
  have k45 := k4.trans k5
  have kall := kk.trans k45
  have hs4 := kall.size
  obtain ⟨p4, m4, q4, rfl⟩ := hv4.shape0
  have hm4 : m4 = b.length := by
    obtain ⟨p', c', e, _⟩ := At.of_own hv4
    rw [zs_length, List.length_replicate] at e
    injection e
  subst hm4
  have HO := hid hv4
  have hgo : ∀ g, p4 = some ⟨g, 0, none⟩ → w3.heap.size < g := fun g e => by
    subst e
    have := (hv4.len g rfl).1
    simp at this; omega
  have HGO := hid hgo
  have hs3 := kk.size
  clear hv4 HR hgo
  go_wp2_with fail
  clear z0 z1
  go_loopw [19] (fun r' wr => ∃ (t : Nat) (a : List Nat), t ≤ b.length ∧ r' = .int .i64 t ∧ RndA b a (t + 1) ∧ OwnI wr (w3.heap.size + 1) (.slice p4 b.length q4) (zs a) ∧ Keeps w3 wr) (fun r' _ => b.length - (intOf r').toNat)
  case atStart => exact ⟨0, _, by omega, rfl, HS0.out, HO.out.mono (by simp), k45⟩
  case round =>
    obtain ⟨t, a, htl, rfl, hrnd, hown, kw⟩ := hrel
    clear HO
    have z0 := kw.cell E2.out.1
    by_cases hlt : t < b.length
    · have hlt' : (t : Int) < b.length := by omega
      have HM0 := hid (mid_start hrnd)
      have HO1 := hid hown
      have KW := hid kw
      clear hrnd hown kw
      go_wp2_with fail
      go_loopw [23] (fun x' wr => ∃ (x : Nat) (a : List Nat), x ≤ b.length ∧ x' = .int .i64 x ∧ MidA b t x a ∧ OwnI wr (w3.heap.size + 1) (.slice p4 b.length q4) (zs a) ∧ Keeps w3 wr) (fun x' _ => b.length - (intOf x').toNat)
      case atStart => exact ⟨0, a, by omega, rfl, HM0.out, HO1.out, KW.out⟩
      case round =>
        obtain ⟨x, a, hxl, rfl, hmid, hown, kw⟩ := hrel
        clear HM0 HO1 KW z0
        by_cases hxt : x < b.length
        · have hxt' : (x : Int) < b.length := by omega
          have hal := hmid.1.1
          obtain ⟨g, cap4, ev, hBg, hgl, _⟩ := hown.shape (by rw [zs_length, hal]; omega)
          have ev1 : p4 = some ⟨g, 0, none⟩ := by injection ev
          clear ev
          subst ev1
          clear hal
          obtain ⟨b2, o2, rfl, h2⟩ := (HV2.out.keeps kw).zs_cell x hxt
          have HM := hid (HMB.out x wr)
          have hml := HML.out x
          have HMMx := hid (HMM.out x)
          have HIEx := hid (fun a h => HIE.out t x a h hxt)
          have HSTx := hid (fun a j h (hj : j < (memB (b.getD x 0)).length) hbit hne => HST.out t x (memB (b.getD x 0)) j a h hxt hj hbit hne)
          have HI0 := hid (inn_start (l := memB (b.getD x 0)) hmid)
          have HO1 := hid hown
          have KW := hid kw
          clear hmid hown kw
          generalize memB (b.getD x 0) = l at *
          generalize hbx : b.getD x 0 = bx at *
          have HBX := hid hbx; clear hbx
          go_wp2_with fail
          refine HM.out.mono ?_; rintro e w5 ⟨v5, rfl, hv5, k6⟩
          obtain ⟨p5, c5, rfl, _, hm5, _, _⟩ := hv5.ints (by rw [zs_length]; omega)
          unfold maxLen at hm5
          rw [zs_length] at *
          have HL5 := hid hv5
          have HO2 := hid (HO1.out.keeps k6)
          have KW2 := hid (KW.out.trans k6)
          have hw5 := k6.size
          clear hv5 HO1 KW HM
          go_wp2_with fail
          go_loopw [32] (fun j' wq => ∃ (j : Nat) (a : List Nat), j ≤ l.length ∧ j' = .int .i64 j ∧ InnA b t x l j a ∧ OwnI wq (w3.heap.size + 1) (.slice (some ⟨g, 0, none⟩) b.length q4) (zs a) ∧ OwnI wq wr.heap.size (.slice p5 l.length c5) (zs l) ∧ Keeps w3 wq) (fun j' _ => l.length - (intOf j').toNat)
          case atStart => exact ⟨0, a, by omega, rfl, HI0.out, HO2.out, HL5.out, KW2.out⟩
          case round =>
            obtain ⟨j, a, hjl, rfl, hinn, hown, hl5, kw⟩ := hrel
            clear HI0 HO2 HL5 KW2
            by_cases hjt : j < l.length
            · have hjt' : (j : Int) < l.length := by omega
              obtain ⟨b5, o5, e5, h5⟩ := (hl5.ints (by rw [zs_length]; omega)).zs_cell j hjt
              rw [getD_get hjt] at h5
              obtain ⟨hy, hbit⟩ := HMMx.out l[j] (List.getElem_mem hjt)
              obtain ⟨b3, o3, e3, h3⟩ := (HV3.out.keeps kw).zs_cell x (by rw [List.length_range]; exact hxt)
              obtain ⟨b3', o3', e3', h3'⟩ := (HV3.out.keeps kw).zs_cell l[j] (by rw [List.length_range]; exact hy)
              rw [range_get hxt] at h3
              rw [range_get hy] at h3'
              rw [e3] at e3'
              cases e3'
              subst e3
              subst e5
              have hal := hinn.1.1.1
              have hax := (hinn.1.1.2.1 x hxt).2
              have hay := (hinn.1.1.2.1 l[j] hy).2
              have hdx := HD8.out x hxt
              have hdy := HD8.out l[j] hy
              have hxt' : (x : Int) < b.length := by omega
              have hy' : (l[j] : Int) < b.length := by omega
              by_cases hyx : l[j] = x
              · have HI := hid (inn_skip hinn hjt hyx)
                rw [hyx] at h5 h3' hy
                have HO := hid hown; clear hown
                have HL := hid hl5; clear hl5
                have KW := hid kw; clear kw
                clear hinn hal hax hay hdx hdy hbit
                go_wp2_with fail
                go_quiet (fail)
                go_wp2_with fail
                go_roundw
                case rel => exact ⟨j + 1, a, by omega, by go_num, HI.out, HO.out.keeps ((Keeps.refl _).drewN _), HL.out.keeps ((Keeps.refl _).drewN _), KW.out.drewN _⟩
                case measure => simp [intOf]; omega
              · have HI := HSTx.out a j hinn hjt hbit hyx
                obtain ⟨ci, fi⟩ := hown.cell x (by rw [zs_length]; omega)
                obtain ⟨cj, fj⟩ := hown.cell l[j] (by rw [zs_length]; omega)
                rw [zs_get] at ci cj
                rw [← getD_get (b := a)] at ci cj
                have hst : ∀ n : Nat, OwnI ((wr.drewN n).setCell ⟨g, x, none⟩ (.int .i64 ((max (a.getD x 0) (a.getD l[j] 0 + 1) : Nat) : Int))) (w3.heap.size + 1) (.slice (some ⟨g, 0, none⟩) b.length q4) (zs (a.set x (max (a.getD x 0) (a.getD l[j] 0 + 1)))) ∧ (wr.drewN n).grownBy ((wr.drewN n).setCell ⟨g, x, none⟩ (.int .i64 ((max (a.getD x 0) (a.getD l[j] 0 + 1) : Nat) : Int))) (some g) := fun n => by
                  rw [zs_set]
                  exact OwnI.store (hown.keeps ((Keeps.refl _).drewN n)) x (by rw [zs_length]; omega) _
                have hl6 := fun n : Nat => OwnI.setBelow (hl5.keeps ((Keeps.refl _).drewN n)) (o := x) hgl (.int .i64 ((max (a.getD x 0) (a.getD l[j] 0 + 1) : Nat) : Int))
                have hxy : (x : Int) ≠ l[j] := by omega
                have hax8 : a.getD x 0 ≤ 8 := by omega
                have hay8 : a.getD l[j] 0 ≤ 8 := by omega
                clear hal hax hay hdx hdy hbit hinn hown hl5
                generalize l[j] = y at *
                generalize ha' : a.set x (max (a.getD x 0) (a.getD y 0 + 1)) = a' at *
                clear ha'
                generalize a.getD x 0 = ax at *
                generalize a.getD y 0 = ay at *
                have HI := hid HI
                rcases Nat.lt_or_ge ax (ay + 1) with hlt3 | hlt3
                · rw [Nat.max_eq_right (by omega), show ((ay + 1 : Nat) : Int) = (ay : Int) + 1 from by omega] at hst hl6
                  have HST := hid hst; clear hst
                  have HL6 := hid hl6; clear hl6
                  have KW := hid kw; clear kw
                  go_wp2_with fail
                  go_quiet (fail)
                  go_wp2_with fail
                  go_region
                  go_wp2
                  go_roundw
                  case rel => exact ⟨j + 1, _, by omega, by go_num, HI.out, (HST.out _).1, HL6.out _, (KW.out.drewN _).grown (HST.out _).2 (fun k hk => by cases hk; omega)⟩
                  case measure => simp [intOf]; omega
                · rw [Nat.max_eq_left (by omega)] at hst hl6
                  have HST := hid hst; clear hst
                  have HL6 := hid hl6; clear hl6
                  have KW := hid kw; clear kw
                  go_wp2_with fail
                  go_quiet (fail)
                  go_wp2_with fail
                  go_region
                  go_wp2
                  go_roundw
                  case rel => exact ⟨j + 1, _, by omega, by go_num, HI.out, (HST.out _).1, HL6.out _, (KW.out.drewN _).grown (HST.out _).2 (fun k hk => by cases hk; omega)⟩
                  case measure => simp [intOf]; omega
            · obtain rfl : j = l.length := by omega
              have hjt' : ¬ (l.length : Int) < l.length := by omega
              have HI := hid (HIEx.out a hinn)
              clear hinn
              go_wp2_with fail
              go_roundw
              case rel => exact ⟨x + 1, a, by omega, by go_num, HI.out, hown, kw⟩
              case measure => simp [intOf]; omega
        · obtain rfl : x = b.length := by omega
          have hxt' : ¬ (b.length : Int) < b.length := by omega
          have HI := hid (mid_end hmid)
          clear hmid
          go_wp2_with fail
          go_roundw
          case rel => exact ⟨t + 1, a, by omega, by go_num, HI.out, hown, kw⟩
          case measure => simp [intOf]; omega
    · obtain rfl : t = b.length := by omega
      have hlt' : ¬ (b.length : Int) < b.length := by omega
      have he := HSE.out a hrnd
      subst he
      go_wp2_with fail
      go_ret
      exact ⟨_, rfl, hown.mono (by omega), kk.trans kw⟩
end Go.Proofs.YtponaoefpicfpaaGreatDoor
/- Depths of an order: the poset's own call. -/
namespace Go.Proofs.YtponaoefpicfpaaGreatDoor
open Go.RowKit
--
set_option maxRecDepth 20000 in
theorem posetDepths_any (b : List Nat) (hp : Pos b) (v : Value) (w : World) (hv : Ints w v (zs b)) :
    Calls Tryz.prog 235 #[.agg #[.int .i64 b.length, v]] w (RetI w (zs (dptL b))) := by
  have kA := (Keeps.refl w).alloc (.cells #[.int .i64 b.length, v] 32)
  have HF := hid (frame_any b.length (zs b) v _ (hv.keeps kA))
  rw [zs_length] at HF
  have HW := hid (fun wz (k : Keeps w wz) => worldDepths_any b hp v wz (hv.keeps k))
  obtain ⟨p, cap, rfl, _⟩ := hv
  have kz := kA.size
  clear hp
  go_enter Tryz.func235, Tryz.ntmps235
  go_wp2_with fail
  refine HF.out.mono ?_; rintro e w2 ⟨rfl, k2⟩
  go_wp2_with fail
  refine (HW.out _ (kA.trans k2)).mono ?_; rintro e w3 ⟨vd, rfl, hvd, k3⟩
  have hs2 := (kA.trans k2).size
  go_wp2_with fail
  go_ret
  exact ⟨_, rfl, hvd.mono (by omega), (kA.trans k2).trans k3⟩
end Go.Proofs.YtponaoefpicfpaaGreatDoor
/- The depth of an order: the poset's own call. -/
namespace Go.Proofs.YtponaoefpicfpaaGreatDoor
open Go.RowKit
--
set_option maxRecDepth 20000 in
theorem posetDepth_any (b : List Nat) (hp : Pos b) (v : Value) (w : World) (hv : Ints w v (zs b)) :
    Calls Tryz.prog 154 #[.agg #[.int .i64 b.length, v]] w fun e w' => e = .returned (.int .i64 (maxTo (dptL b) b.length)) ∧ Keeps w w' := by
  obtain ⟨hb, hbm, hr, ht, ha⟩ := id hp
  have kA := (Keeps.refl w).alloc (.cells #[.int .i64 b.length, v] 32)
  obtain ⟨c0, c1⟩ := BoxF.made w b.length v 32
  have HW := hid (posetDepths_any b hp v _ (hv.keeps kA))
  have hdl := dptL_len b
  have HM := hid (fun u wz (hu : Ints wz u (zs (dptL b))) (h0 : 0 < b.length) => maxI_any (dptL b) u wz hu (by omega) (fun i => by
    by_cases h : i < b.length
    · rw [dptL_get h]; have := dptB_8 hb hbm hr ht ha h; omega
    · rw [List.getD_eq_getElem?_getD, List.getElem?_eq_none (by omega)]; simp) (by omega))
  rw [hdl] at HM
  obtain ⟨p, cap, rfl, _⟩ := hv
  have HZ : Hid (b.length = 0 → maxTo (dptL b) b.length = 0) := hid (fun h => by rw [h]; rfl)
  clear hp hbm hr ht ha
  rw [zs_length] at *
  by_cases hz : b.length = 0
  · have hz' : (b.length : Int) = 0 := by omega
    rw [HZ.out hz]
    go_enter Tryz.func154, Tryz.ntmps154
    go_wp2_with fail
    go_ret
    exact ⟨rfl, (Keeps.refl w).alloc _⟩
  · have hz' : ¬ (b.length : Int) = 0 := by omega
    go_enter Tryz.func154, Tryz.ntmps154
    go_wp2_with fail
    refine HW.out.mono ?_; rintro e w2 ⟨vd, rfl, hvd, k2⟩
    have HM2 := hid (HM.out vd w2 (hvd.ints (by rw [zs_length]; omega)) (by omega))
    obtain ⟨p2, m2, q2, rfl⟩ := hvd.shape0
    go_wp2_with fail
    refine HM2.out.mono ?_; rintro e w3 ⟨rfl, rfl⟩
    go_wp2_with fail
    go_ret
    exact ⟨rfl, kA.trans k2⟩
end Go.Proofs.YtponaoefpicfpaaGreatDoor
/- The reference's antichains and widths; what it says of an order and a logic. -/
namespace Go.Proofs.YtponaoefpicfpaaGreatDoor
open Go.RowKit
theorem memB_intro {m x : Nat} (h : m.testBit x = true) (h8 : x < 8) : x ∈ memB m := by
  simp [memB, lowB, h, h8]
theorem antiC_true {b : List Nat} {s : Nat} (_hb : b.length ≤ 8) (hs : s < 2 ^ b.length) (h : ∀ j, j < b.length → s.testBit j = true → b.getD j 0 &&& s = 2 ^ j) : antiC b s = true := by
  unfold antiC
  rw [List.all_eq_true]
  intro x hx
  rw [beq_iff_eq]
  exact h x (memB_lt hs hx) (memB_mem hx).2
theorem antiC_false {b : List Nat} {s i : Nat} (hb : b.length ≤ 8) (hi : i < b.length) (ht : s.testBit i = true) (h : b.getD i 0 &&& s ≠ 2 ^ i) : antiC b s = false := by
  unfold antiC
  rw [Bool.eq_false_iff]
  intro h2
  have := List.all_eq_true.1 h2 i (memB_intro ht (by omega))
  rw [beq_iff_eq] at this
  exact h this
--
set_option maxRecDepth 20000 in
set_option maxHeartbeats 1000000 in
theorem l16Antichain_any (b : List Nat) (s : Nat) (v : Value) (w : World) (hv : Ints w v (zs b)) (hb : b.length ≤ 8) (hbm : Bnd b.length b) (hs : s < 2 ^ b.length) :
    Calls Tryz.prog 195 #[.agg #[.int .i64 b.length, v], .int .i64 s] w fun e w' => e = .returned (.bool (antiC b s)) ∧ Keeps w w' := by
  have h256 := two8 hb
  have kA := (Keeps.refl w).alloc (.cells #[.int .i64 b.length, v] 32)
  obtain ⟨c0, c1⟩ := BoxF.made w b.length v 32
  have hv0 := hv.keeps kA
  obtain ⟨p, cap, rfl, hle, hmx, _, _⟩ := hv
  unfold maxLen at hmx
  rw [zs_length] at *
  have HB : Hid (∀ i, b.getD i 0 < 256) := hid (fun i => Nat.lt_of_lt_of_le (hbm i) h256)
  have HBIT := hid (fun (i : Nat) wz (hi : i ≤ 8) => l01BitB_any s i wz (by omega) hi)
  have HONE := hid (fun (x : Nat) wz (h : x ≤ 62) => l01One_any (x : Int) wz (by omega) (by omega))
  simp only [Int.toNat_natCast] at HONE
  have HT := hid (antiC_true hb hs)
  have HF := hid (fun i => antiC_false (b := b) (s := s) (i := i) hb)
  clear hbm
  generalize hn : b.length = n at *
  have Hn := hid hn; clear hn
  go_enter Tryz.func195, Tryz.ntmps195
  go_wp2
  go_loopw [4, 5] (fun r i' wr => ∃ i : Nat, i ≤ n ∧ i' = .int .i64 i ∧ r = .bool false ∧ (∀ j, j < i → s.testBit j = true → b.getD j 0 &&& s = 2 ^ j) ∧ Keeps (w.alloc (.cells #[.int .i64 n, .slice p n cap] 32)) wr) (fun _ i _ => n - (intOf i).toNat)
  case atStart => exact ⟨0, by omega, rfl, rfl, fun j h => by omega, Keeps.refl _⟩
  case round =>
    obtain ⟨i, hi, rfl, rfl, hall, kw⟩ := hrel
    have HA := hid hall; clear hall
    have z0 := kw.cell c0
    have z1 := kw.cell c1
    by_cases hlt : i < n
    · obtain ⟨b1, o1, rfl, h1⟩ := (hv0.keeps kw).zs_cell i (by rw [Hn.out]; exact hlt)
      have hlt' : (i : Int) < n := by omega
      have HX := hid (fun wz => HBIT.out i wz (by omega))
      have HO := hid (fun wz => HONE.out i wz (by omega))
      cases ht : s.testBit i
      · rw [ht] at HX
        have HN : Hid (∀ j, j < i + 1 → s.testBit j = true → b.getD j 0 &&& s = 2 ^ j) := hid (fun j hj h => by
          by_cases e : j = i
          · subst e; rw [ht] at h; cases h
          · exact HA.out j (by omega) h)
        clear ht
        generalize b.getD i 0 = g at *
        go_wp2_with fail
        go_quiet (first | (go_at_call 105; refine quietS (HX.out _)))
        go_wp2_with fail
        go_roundw
        case rel => exact ⟨i + 1, by omega, by go_num, rfl, HN.out, kw.drewN _⟩
        case measure => simp [intOf]; omega
      · rw [ht] at HX
        have hg := HB.out i
        have hand := andN (b.getD i 0) s (by omega) (by omega)
        have e2 : ((2 ^ i : Nat) : Int) = 2 ^ i := by push_cast; rfl
        by_cases hc : b.getD i 0 &&& s = 2 ^ i
        · have hd : (bits .and .i64 ((b.getD i 0 : Nat) : Int) (s : Int) != 2 ^ i) = false := by rw [hand, ← e2, hc]; simp
          have HN : Hid (∀ j, j < i + 1 → s.testBit j = true → b.getD j 0 &&& s = 2 ^ j) := hid (fun j hj h => by
            by_cases e : j = i
            · subst e; exact hc
            · exact HA.out j (by omega) h)
          clear ht hc hand e2 hg
          generalize b.getD i 0 = g at *
          generalize (2 : Int) ^ i = P at *
          go_wp2_with fail
          go_quiet (first | (go_at_call 105; refine quietS (HX.out _)) | (go_at_call 122; refine quietS (HO.out _)))
          go_wp2_with fail
          go_roundw
          case rel => exact ⟨i + 1, by omega, by go_num, rfl, HN.out, kw.drewN _⟩
          case measure => simp [intOf]; omega
        · have hd : (bits .and .i64 ((b.getD i 0 : Nat) : Int) (s : Int) != 2 ^ i) = true := by
            rw [hand, ← e2, bne_iff_ne]
            intro e; exact hc (Int.ofNat.inj e)
          have HN := hid (HF.out i hlt ht hc)
          clear ht hc hand e2 hg
          generalize b.getD i 0 = g at *
          generalize (2 : Int) ^ i = P at *
          go_wp2_with fail
          go_quiet (first | (go_at_call 105; refine quietS (HX.out _)) | (go_at_call 122; refine quietS (HO.out _)))
          go_wp2_with fail
          go_ret
          exact ⟨ret_bool (by rw [HN.out]), (kA.trans kw).drewN _⟩
    · obtain rfl : i = n := by omega
      have hlt' : ¬ (i : Int) < i := by omega
      have HN := hid (HT.out HA.out)
      go_wp2_with fail
      go_ret
      exact ⟨ret_bool (by rw [HN.out]), kA.trans kw⟩
theorem okW_any {b : List Nat} {s : Nat} (ha : antiC b s = true) : okW b s = (List.range b.length).any fun x => inB s (b.getD x 0) := by
  unfold okW; rw [ha, Bool.true_and]
theorem okW_none {b : List Nat} {s : Nat} (ha : antiC b s = false) : okW b s = false := by
  unfold okW; rw [ha, Bool.false_and]
theorem anyR_succ (P : Nat → Bool) (k : Nat) : (List.range (k + 1)).any P = ((List.range k).any P || P k) := by
  rw [List.range_succ, List.any_append]; simp
--
set_option maxRecDepth 20000 in
set_option maxHeartbeats 2000000 in
theorem l16Width_any (b : List Nat) (v : Value) (w : World) (hv : Ints w v (zs b)) (hb : b.length ≤ 8) (hbm : Bnd b.length b) :
    Calls Tryz.prog 111 #[.agg #[.int .i64 b.length, v]] w fun e w' => e = .returned (.int .i64 (widB b)) ∧ Keeps w w' := by
  have h256 := two8 hb
  have kA := (Keeps.refl w).alloc (.cells #[.int .i64 b.length, v] 32)
  obtain ⟨c0, c1⟩ := BoxF.made w b.length v 32
  have HAC := hid (fun s wz (k : Keeps w wz) (hs : s < 2 ^ b.length) => l16Antichain_any b s v wz (hv.keeps k) hb hbm hs)
  have HCM := hid (fun s wz (hs : s < 256) => l01Bits_any s wz hs)
  have HFULL := hid (fun wz => l01Full_any (b.length : Int) wz (by omega) (by omega))
  simp only [Int.toNat_natCast] at HFULL
  have HBN : Hid (∀ i, b.getD i 0 < 2 ^ b.length) := hid hbm
  have HFIN := hid (fun v (h : WidAt b v) (ha : ∀ s, s < 2 ^ b.length → okW b s = true → cntB s ≤ v) => WidAt.eq h (fun s _ ho => ha s (okW_lt hbm ho) ho))
  have hv0 := hv
  obtain ⟨p, cap, rfl, hle, hmx, _, _⟩ := hv
  unfold maxLen at hmx
  rw [zs_length] at *
  have HRD := hid (fun x (hx : x < b.length) wz (k : Keeps w wz) => (hv0.keeps k).zs_cell x hx)
  clear hv0
  clear hbm
  have H00 : Hid (∀ s, s < 1 → cntB s ≤ 0) := hid (fun s hs => by
    obtain rfl : s = 0 := by omega
    decide)
  have h2pos : 0 < 2 ^ b.length := Nat.two_pow_pos _
  have e2 : ((2 : Int) ^ b.length - 1) = ((2 ^ b.length : Nat) : Int) - 1 := by push_cast; rfl
  rw [e2] at HFULL
  clear e2
  generalize hN : 2 ^ b.length = N at *
  have HNN := hid hN; clear hN
  generalize hn : b.length = n at *
  have Hn := hid hn; clear hn
  go_enter Tryz.func111, Tryz.ntmps111
  go_wp2
  go_loopw [3, 4, 5] (fun o m' x' wr => ∃ (m t : Nat), 1 ≤ m ∧ m ≤ N ∧ m' = .int .i64 m ∧ o = .int .i64 t ∧ t ≤ 8 ∧ WidAt b t ∧ (∀ s, s < m → okW b s = true → cntB s ≤ t) ∧ Keeps (w.alloc (.cells #[.int .i64 n, .slice p n cap] 32)) wr) (fun _ m' _ _ => N - (intOf m').toNat)
  case atStart => exact ⟨1, 0, by omega, by omega, rfl, rfl, by omega, .inl rfl, fun s hs _ => H00.out s hs, Keeps.refl _⟩
  case round =>
    obtain ⟨m, t, h1m, hmN, rfl, rfl, ht8, hwid, hall, kw⟩ := hrel
    have HW := hid hwid; clear hwid
    have HA := hid hall; clear hall
    have z0 := kw.cell c0
    have z1 := kw.cell c1
    by_cases hlt : m < N
    · have hlt' : (m : Int) ≤ (N : Int) - 1 := by omega
      have HACs := hid (HAC.out m wr (kA.trans kw) hlt)
      have HCMs := hid (fun wz => HCM.out m wz (by omega))
      have hc8 := cntB_le m
      have HSK : Hid (okW b m = true → cntB m ≤ t → ∀ s, s < m + 1 → okW b s = true → cntB s ≤ t) := hid (fun _ hc s hs ho => by
        by_cases e : s = m
        · subst e; exact hc
        · exact HA.out s (by omega) ho)
      by_cases hle2 : cntB m ≤ t
      · have hle3 : ((cntB m : Nat) : Int) ≤ t := by omega
        have HN : Hid (∀ s, s < m + 1 → okW b s = true → cntB s ≤ t) := hid (fun s hs ho => by
          by_cases e : s = m
          · subst e; exact hle2
          · exact HA.out s (by omega) ho)
        clear hle2 HSK
        generalize cntB m = cm at *
        go_wp2_with fail
        refine HFULL.out _ |>.mono ?_; rintro e w' ⟨rfl, rfl⟩
        go_wp2_with fail
        refine (HCMs.out _).mono ?_; rintro e w' ⟨rfl, rfl⟩
        go_wp2_with fail
        go_roundw
        case rel => exact ⟨m + 1, t, by omega, by omega, by go_num, rfl, ht8, HW.out, HN.out, kw⟩
        case measure => simp [intOf]; omega
      · have hle3 : ¬ ((cntB m : Nat) : Int) ≤ t := by omega
        cases ha : antiC b m
        · rw [ha] at HACs
          have HN : Hid (∀ s, s < m + 1 → okW b s = true → cntB s ≤ t) := hid (fun s hs ho => by
            by_cases e : s = m
            · subst e; rw [okW_none ha] at ho; cases ho
            · exact HA.out s (by omega) ho)
          clear ha hle2 HSK
          generalize cntB m = cm at *
          go_wp2_with fail
          refine HFULL.out _ |>.mono ?_; rintro e w' ⟨rfl, rfl⟩
          go_wp2_with fail
          refine (HCMs.out _).mono ?_; rintro e w' ⟨rfl, rfl⟩
          go_wp2_with fail
          refine HACs.out.mono ?_; rintro e w4 ⟨rfl, k4⟩
          go_wp2_with fail
          go_roundw
          case rel => exact ⟨m + 1, t, by omega, by omega, by go_num, rfl, ht8, HW.out, HN.out, kw.trans k4⟩
          case measure => simp [intOf]; omega
        · rw [ha] at HACs
          have HOK := hid (okW_any (b := b) ha)
          rw [Hn.out] at HOK
          have HWM := hid (fun (ho : okW b m = true) => WidAt.max HW.out (show m < 256 by omega) ho)
          have HALL : Hid (∀ q, (okW b m = true → cntB m ≤ q) → t ≤ q → ∀ s, s < m + 1 → okW b s = true → cntB s ≤ q) := hid (fun q h1 h2 s hs ho => by
            by_cases e : s = m
            · subst e; exact h1 ho
            · have := HA.out s (by omega) ho; omega)
          clear ha HSK
          have HINB := hid (fun y (hy : b.getD y 0 < N) => withinN m (b.getD y 0) (by omega) (by omega))
          generalize okW b m = ok at *
          obtain ⟨G, hG⟩ : ∃ G : Nat → Bool, ∀ y, G y = inB m (b.getD y 0) := ⟨_, fun _ => rfl⟩
          have HOK2 : Hid (ok = (List.range n).any G) := hid (by rw [HOK.out]; congr 1; funext y; rw [hG])
          have HG := hid hG; clear hG HOK
          generalize cntB m = cm at *
          go_wp2_with fail
          refine HFULL.out _ |>.mono ?_; rintro e w' ⟨rfl, rfl⟩
          go_wp2_with fail
          refine (HCMs.out _).mono ?_; rintro e w' ⟨rfl, rfl⟩
          go_wp2_with fail
          refine HACs.out.mono ?_; rintro e w4 ⟨rfl, k4⟩
          have y0 := k4.cell z0
          have y1 := k4.cell z1
          have k5 := kw.trans k4
          go_wp2
          go_loopw [3, 5] (fun o x' wr' => ∃ x : Nat, x ≤ n ∧ x' = .int .i64 x ∧ o = .int .i64 (if (List.range x).any G then (cm : Int) else t) ∧ Keeps w4 wr') (fun _ x' _ => n - (intOf x').toNat)
          case atStart => exact ⟨0, by omega, rfl, rfl, Keeps.refl _⟩
          case round =>
            obtain ⟨x, hx, rfl, rfl, kv⟩ := hrel
            have k6 := k5.trans kv
            replace y0 := kv.cell y0
            replace y1 := kv.cell y1
            by_cases hxn : x < n
            · have hxn' : (x : Int) < n := by omega
              obtain ⟨b1, o1, rfl, h1⟩ := HRD.out x hxn _ (kA.trans k6)
              have hbx := HBN.out x
              have hin := HINB.out x hbx
              rw [← HG.out x] at hin
              have HS := hid (anyR_succ G x)
              cases hgx : G x
              · rw [hgx] at hin HS
                have HT : Hid ((if (List.range (x + 1)).any G then (cm : Int) else t) = if (List.range x).any G then (cm : Int) else t) := hid (by rw [HS.out, Bool.or_false])
                clear hgx
                generalize (if (List.range x).any G then (cm : Int) else t) = z at *
                generalize b.getD x 0 = g at *
                go_wp2_with fail
                go_roundw
                case rel => exact ⟨x + 1, by omega, by go_num, by rw [HT.out], kv⟩
                case measure => simp [intOf]; omega
              · rw [hgx] at hin HS
                have HT : Hid ((if (List.range (x + 1)).any G then (cm : Int) else t) = cm) := hid (by rw [HS.out, Bool.or_true]; rfl)
                clear hgx
                generalize (if (List.range x).any G then (cm : Int) else t) = z at *
                generalize b.getD x 0 = g at *
                go_wp2_with fail
                refine (HCMs.out _).mono ?_; rintro e w' ⟨rfl, rfl⟩
                go_wp2_with fail
                go_roundw
                case rel => exact ⟨x + 1, by omega, by go_num, by rw [HT.out], kv⟩
                case measure => simp [intOf]; omega
            · obtain rfl : x = n := by omega
              have hxn' : ¬ (x : Int) < x := by omega
              rw [← HOK2.out]
              clear HOK2
              cases ok
              · go_wp2_with fail
                go_roundw
                case rel => exact ⟨m + 1, t, by omega, by omega, by go_num, rfl, ht8, HW.out, HALL.out t (fun h => by cases h) (Nat.le_refl _), k6⟩
                case measure => simp [intOf]; omega
              · go_wp2_with fail
                go_roundw
                case rel =>
                  refine ⟨m + 1, cm, by omega, by omega, by go_num, rfl, by omega, ?_, HALL.out cm (fun _ => Nat.le_refl _) (by omega), k6⟩
                  have := HWM.out rfl
                  rwa [show Max.max t cm = cm by omega] at this
                case measure => simp [intOf]; omega
    · obtain rfl : m = N := by omega
      have hlt' : ¬ (m : Int) ≤ (m : Int) - 1 := by omega
      have HE := hid (HFIN.out t HW.out HA.out)
      go_wp2_with fail
      refine HFULL.out _ |>.mono ?_; rintro e w' ⟨rfl, rfl⟩
      go_wp2_with fail
      go_ret
      exact ⟨ret_int (by rw [HE.out]), kA.trans kw⟩
end Go.Proofs.YtponaoefpicfpaaGreatDoor
