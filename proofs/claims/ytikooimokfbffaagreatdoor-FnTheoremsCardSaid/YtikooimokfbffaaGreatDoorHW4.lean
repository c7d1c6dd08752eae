import Derived.Test.YtikooimokfbffaaGreatDoorHOZ
import Derived.Test.YtikooimokfbffaaGreatDoorHOI
import Derived.Test.YtikooimokfbffaaGreatDoorHOM
/- The value of a plain formula in an order: the reference's recursion. -/
namespace Go.Proofs.YtikooimokfbffaaGreatDoor
open Go.RowKit
set_option maxRecDepth 20000 in
set_option maxHeartbeats 2000000 in
theorem l17Force_any (b vs : List Nat) (hb : b.length ≤ 8) (hbm : Bnd b.length b) (hvs : Bnd b.length vs) (h6 : vs.length = 6) : ∀ (t : Fm), t.wf → t.plain = true → ∀ (pv vv v : Value) (w : World), Ints w pv (zs b) → Ints w vv (zs vs) → Nds w v t.enc →
  Calls Tryz.prog 155 #[.agg #[.int .i64 b.length, pv], vv, v] w fun e w' => e = .returned (.int .i64 (frcP b vs t)) ∧ Keeps w w' := by
 intro t
 induction t with
 | var p =>
  intro hw hp pv vv v w hpv hvv hv
  have kA := (Keeps.refl w).alloc (.cells #[.int .i64 b.length, pv] 34)
  have hp6 : p < 6 := by simp [Fm.wf] at hw; omega
  have hvk := hvv.keeps kA
  have hF : frcP b vs (.var p) = vs.getD p 0 := rfl
  rw [hF]
  obtain ⟨b0, off, n, cap, rfl, g0, g1, g2, g3, gc, gs⟩ := (hv.keeps kA).root
  rw [show (Fm.var p).kind = 0 from rfl] at gc
  rw [show (Fm.var p).sym = p from rfl] at gs
  obtain ⟨pq, cq, rfl, _⟩ := hpv
  obtain ⟨pp, cap2, rfl, _, hmx, _, _⟩ := hvv
  obtain ⟨b1, o1, e1, hc⟩ := hvk.zs_cell p (show p < vs.length by omega)
  clear hvk
  unfold maxLen at g2 hmx
  rw [zs_length b] at *
  rw [zs_length vs] at *
  rw [h6] at *
  clear hbm hvs hv hF h6
  subst e1
  generalize vs.getD p 0 = x at *
  generalize b.length = m at *
  have hp6' : (p : Int) < 6 := by omega
  go_enter Tryz.func155, Tryz.ntmps155
  go_wp2_with fail
  go_ret
  exact ⟨rfl, kA⟩
 | fls =>
  intro hw hp pv vv v w hpv hvv hv
  have kA := (Keeps.refl w).alloc (.cells #[.int .i64 b.length, pv] 34)
  have hF : frcP b vs .fls = 0 := rfl
  rw [hF]
  obtain ⟨b0, off, n, cap, rfl, g0, g1, g2, g3, gc, gs⟩ := (hv.keeps kA).root
  rw [show Fm.fls.kind = 1 from rfl] at gc
  obtain ⟨pq, cq, rfl, _⟩ := hpv
  unfold maxLen at g2
  rw [zs_length b] at *
  clear hbm hvs hv hF h6 gs
  generalize b.length = m at *
  go_enter Tryz.func155, Tryz.ntmps155
  go_wp2_with fail
  go_ret
  exact ⟨rfl, kA⟩
 | box x ih => intro hw hp; simp [Fm.plain] at hp
 | dia x ih => intro hw hp; simp [Fm.plain] at hp
 | and x y ihx ihy =>
  intro hw hp pv vv v w hpv hvv hv
  simp [Fm.plain] at hp
  simp [Fm.wf] at hw
  have kA := (Keeps.refl w).alloc (.cells #[.int .i64 b.length, pv] 34)
  obtain ⟨c0, c1⟩ := BoxF.made w b.length pv 34
  have d0 := kA.drew
  have e0 := (Keeps.refl (w.alloc (.cells #[.int .i64 b.length, pv] 34))).drew.cell c0
  have e1 := (Keeps.refl (w.alloc (.cells #[.int .i64 b.length, pv] 34))).drew.cell c1
  have HX := hid (fun vz wz (kz : Keeps w wz) (hz : Nds wz vz x.enc) => ihx hw.1 hp.1 pv vv vz wz (hpv.keeps kz) (hvv.keeps kz) hz)
  have HY := hid (fun vz wz (kz : Keeps w wz) (hz : Nds wz vz y.enc) => ihy hw.2 hp.2 pv vv vz wz (hpv.keeps kz) (hvv.keeps kz) hz)
  have hx := frcP_lt hvs x
  have hy := frcP_lt hvs y
  have h256 := two8 hb
  have hF : frcP b vs (.and x y) = frcP b vs x &&& frcP b vs y := rfl
  have HO := hid (andN (frcP b vs x) (frcP b vs y) (by omega) (by omega))
  rw [hF, ← HO.out]
  clear hF HO
  have HL := hid (fun wz (kz : Keeps w wz) => l02Left_any (Fm.and x y).enc ⟨2, 0⟩ x y.enc v wz (hv.keeps kz) rfl)
  have HR := hid (fun wz (kz : Keeps w wz) => l02Right_any (Fm.and x y).enc ⟨2, 0⟩ x y v wz (hv.keeps kz) rfl)
  obtain ⟨b0, off, n, cap, rfl, g0, g1, g2, g3, gc, gs⟩ := (hv.keeps kA).root
  rw [show (Fm.and x y).kind = 2 from rfl] at gc
  obtain ⟨pq, cq, rfl, _⟩ := hpv
  obtain ⟨pp, cap2, rfl, _⟩ := hvv
  unfold maxLen at g2
  rw [zs_length b] at *
  rw [zs_length vs] at *
  clear hbm hvs hv ihx ihy hx hy h256 hw hp gs
  simp only [h6] at *
  clear h6
  generalize frcP b vs x = fx at *
  generalize frcP b vs y = fy at *
  generalize b.length = m at *
  go_enter Tryz.func155, Tryz.ntmps155
  go_wp2_with fail
  go_region_held3 (fun w' => w'.cell? ⟨w.heap.size, 0, none⟩ = some (.int .i64 m) ∧ w'.cell? ⟨w.heap.size, 1, none⟩ = some (.slice pq m cq)) (first | exact ⟨c0, c1⟩ | exact ⟨e0, e1⟩ | exact ⟨f0, f1⟩ | exact ⟨h0, h1⟩ | exact ⟨j0, j1⟩) (first
   | (go_at_call 77; refine (HL.out _ d0).mono ?_; rintro e w' ⟨v1, rfl, hv1, rfl⟩)
   | (go_at_call 78; refine (HR.out _ k3).mono ?_; rintro e w' ⟨v3, rfl, hv3, rfl⟩)
   | (go_at_call 155; first
    | ((with_reducible refine (HX.out v1 _ d0 hv1).mono ?_); rintro e w2 ⟨rfl, k2⟩; have k3 := d0.trans k2; have f0 := k2.cell e0; have f1 := k2.cell e1)
    | ((with_reducible refine (HY.out v3 _ k3 hv3).mono ?_); rintro e w4 ⟨rfl, k4⟩; have k5 := k3.trans k4; have h0 := k4.cell f0; have h1 := k4.cell f1)))
  go_wp2_with fail
  go_ret
  exact ⟨rfl, k5⟩
 | or x y ihx ihy =>
  intro hw hp pv vv v w hpv hvv hv
  simp [Fm.plain] at hp
  simp [Fm.wf] at hw
  have kA := (Keeps.refl w).alloc (.cells #[.int .i64 b.length, pv] 34)
  obtain ⟨c0, c1⟩ := BoxF.made w b.length pv 34
  have d0 := kA.drew
  have e0 := (Keeps.refl (w.alloc (.cells #[.int .i64 b.length, pv] 34))).drew.cell c0
  have e1 := (Keeps.refl (w.alloc (.cells #[.int .i64 b.length, pv] 34))).drew.cell c1
  have HX := hid (fun vz wz (kz : Keeps w wz) (hz : Nds wz vz x.enc) => ihx hw.1 hp.1 pv vv vz wz (hpv.keeps kz) (hvv.keeps kz) hz)
  have HY := hid (fun vz wz (kz : Keeps w wz) (hz : Nds wz vz y.enc) => ihy hw.2 hp.2 pv vv vz wz (hpv.keeps kz) (hvv.keeps kz) hz)
  have hx := frcP_lt hvs x
  have hy := frcP_lt hvs y
  have h256 := two8 hb
  have hF : frcP b vs (.or x y) = frcP b vs x ||| frcP b vs y := rfl
  have HO := hid (orN (frcP b vs x) (frcP b vs y) (by omega) (by omega))
  rw [hF, ← HO.out]
  clear hF HO
  have HL := hid (fun wz (kz : Keeps w wz) => l02Left_any (Fm.or x y).enc ⟨3, 0⟩ x y.enc v wz (hv.keeps kz) rfl)
  have HR := hid (fun wz (kz : Keeps w wz) => l02Right_any (Fm.or x y).enc ⟨3, 0⟩ x y v wz (hv.keeps kz) rfl)
  obtain ⟨b0, off, n, cap, rfl, g0, g1, g2, g3, gc, gs⟩ := (hv.keeps kA).root
  rw [show (Fm.or x y).kind = 3 from rfl] at gc
  obtain ⟨pq, cq, rfl, _⟩ := hpv
  obtain ⟨pp, cap2, rfl, _⟩ := hvv
  unfold maxLen at g2
  rw [zs_length b] at *
  rw [zs_length vs] at *
  clear hbm hvs hv ihx ihy hx hy h256 hw hp gs
  simp only [h6] at *
  clear h6
  generalize frcP b vs x = fx at *
  generalize frcP b vs y = fy at *
  generalize b.length = m at *
  go_enter Tryz.func155, Tryz.ntmps155
  go_wp2_with fail
  go_region_held3 (fun w' => w'.cell? ⟨w.heap.size, 0, none⟩ = some (.int .i64 m) ∧ w'.cell? ⟨w.heap.size, 1, none⟩ = some (.slice pq m cq)) (first | exact ⟨c0, c1⟩ | exact ⟨e0, e1⟩ | exact ⟨f0, f1⟩ | exact ⟨h0, h1⟩ | exact ⟨j0, j1⟩) (first
   | (go_at_call 77; refine (HL.out _ d0).mono ?_; rintro e w' ⟨v1, rfl, hv1, rfl⟩)
   | (go_at_call 78; refine (HR.out _ k3).mono ?_; rintro e w' ⟨v3, rfl, hv3, rfl⟩)
   | (go_at_call 155; first
    | ((with_reducible refine (HX.out v1 _ d0 hv1).mono ?_); rintro e w2 ⟨rfl, k2⟩; have k3 := d0.trans k2; have f0 := k2.cell e0; have f1 := k2.cell e1)
    | ((with_reducible refine (HY.out v3 _ k3 hv3).mono ?_); rintro e w4 ⟨rfl, k4⟩; have k5 := k3.trans k4; have h0 := k4.cell f0; have h1 := k4.cell f1)))
  go_wp2_with fail
  go_ret
  exact ⟨rfl, k5⟩
 | imp x y ihx ihy =>
  intro hw hp pv vv v w hpv hvv hv
  simp [Fm.plain] at hp
  simp [Fm.wf] at hw
  have kA := (Keeps.refl w).alloc (.cells #[.int .i64 b.length, pv] 34)
  obtain ⟨c0, c1⟩ := BoxF.made w b.length pv 34
  have d0 := kA.drew
  have e0 := (Keeps.refl (w.alloc (.cells #[.int .i64 b.length, pv] 34))).drew.cell c0
  have e1 := (Keeps.refl (w.alloc (.cells #[.int .i64 b.length, pv] 34))).drew.cell c1
  have HX := hid (fun vz wz (kz : Keeps w wz) (hz : Nds wz vz x.enc) => ihx hw.1 hp.1 pv vv vz wz (hpv.keeps kz) (hvv.keeps kz) hz)
  have HY := hid (fun vz wz (kz : Keeps w wz) (hz : Nds wz vz y.enc) => ihy hw.2 hp.2 pv vv vz wz (hpv.keeps kz) (hvv.keeps kz) hz)
  have hx := frcP_lt hvs x
  have hy := frcP_lt hvs y
  have h256 := two8 hb
  have hF : frcP b vs (.imp x y) = impB b (frcP b vs x) (frcP b vs y) := rfl
  have HA := hid (fun wz (kz : Keeps w wz) => l17Arrow_any b (frcP b vs x) (frcP b vs y) pv wz (hpv.keeps kz) hb hbm hx hy)
  rw [hF]
  generalize impB b (frcP b vs x) (frcP b vs y) = r at *
  clear hF
  have HL := hid (fun wz (kz : Keeps w wz) => l02Left_any (Fm.imp x y).enc ⟨4, 0⟩ x y.enc v wz (hv.keeps kz) rfl)
  have HR := hid (fun wz (kz : Keeps w wz) => l02Right_any (Fm.imp x y).enc ⟨4, 0⟩ x y v wz (hv.keeps kz) rfl)
  obtain ⟨b0, off, n, cap, rfl, g0, g1, g2, g3, gc, gs⟩ := (hv.keeps kA).root
  rw [show (Fm.imp x y).kind = 4 from rfl] at gc
  obtain ⟨pq, cq, rfl, _⟩ := hpv
  obtain ⟨pp, cap2, rfl, _⟩ := hvv
  unfold maxLen at g2
  rw [zs_length b] at *
  rw [zs_length vs] at *
  clear hbm hvs hv ihx ihy hx hy h256 hw hp gs
  simp only [h6] at *
  clear h6
  generalize frcP b vs x = fx at *
  generalize frcP b vs y = fy at *
  generalize b.length = m at *
  go_enter Tryz.func155, Tryz.ntmps155
  go_wp2_with fail
  go_region_held3 (fun w' => w'.cell? ⟨w.heap.size, 0, none⟩ = some (.int .i64 m) ∧ w'.cell? ⟨w.heap.size, 1, none⟩ = some (.slice pq m cq)) (first | exact ⟨c0, c1⟩ | exact ⟨e0, e1⟩ | exact ⟨f0, f1⟩ | exact ⟨h0, h1⟩ | exact ⟨j0, j1⟩) (first
   | (go_at_call 77; refine (HL.out _ d0).mono ?_; rintro e w' ⟨v1, rfl, hv1, rfl⟩)
   | (go_at_call 78; refine (HR.out _ k3).mono ?_; rintro e w' ⟨v3, rfl, hv3, rfl⟩)
   | (go_at_call 155; first
    | ((with_reducible refine (HX.out v1 _ d0 hv1).mono ?_); rintro e w2 ⟨rfl, k2⟩; have k3 := d0.trans k2; have f0 := k2.cell e0; have f1 := k2.cell e1)
    | ((with_reducible refine (HY.out v3 _ k3 hv3).mono ?_); rintro e w4 ⟨rfl, k4⟩; have k5 := k3.trans k4; have h0 := k4.cell f0; have h1 := k4.cell f1))
   | (go_at_call 231; refine (HA.out _ k5).mono ?_; rintro e w8 ⟨rfl, k8⟩; have j0 := k8.cell h0; have j1 := k8.cell h1))
  go_wp2_with fail
  go_ret
  exact ⟨rfl, k5.trans k8⟩
end Go.Proofs.YtikooimokfbffaaGreatDoor
namespace Go.Proofs.YtikooimokfbffaaGreatDoor
open Go.RowKit
def powG (n : Nat) : Nat → Nat → Nat
 | 0, out => out
 | k + 1, out => if 4096 < out then out else powG n k (out * n)
theorem powG_eq (n : Nat) (hn : 0 < n) : ∀ k out, 0 < out → (out * n ^ k ≤ 4096 → powG n k out = out * n ^ k) ∧ (4096 < out * n ^ k → 4096 < powG n k out)
 | 0, out, _ => by simp [powG]
 | k + 1, out, ho => by
  have ih := powG_eq n hn k (out * n) (Nat.mul_pos ho hn)
  have e : out * n ^ (k + 1) = out * n * n ^ k := by rw [Nat.pow_succ, Nat.mul_comm (n ^ k) n, Nat.mul_assoc]
  rw [e]
  unfold powG
  by_cases h : 4096 < out
  ·rw [if_pos h]
   have h2 : out ≤ out * n * n ^ k := by
    rw [Nat.mul_assoc]
    exact Nat.le_mul_of_pos_right _ (Nat.mul_pos hn (Nat.pow_pos hn))
   exact ⟨fun h3 => by omega, fun _ => h⟩
  ·rw [if_neg h]; exact ih
def powL (n k : Nat) : Nat := powG n k 1
theorem powL_eq {n k : Nat} (hn : 0 < n) : (n ^ k ≤ 4096 → powL n k = n ^ k) ∧ (4096 < n ^ k → 4096 < powL n k) := by
 have h := powG_eq n hn k 1 (by omega)
 simpa [powL] using h
set_option maxRecDepth 20000 in
theorem l17Power_any (n k : Nat) (w : World) (hn : n ≤ 256) (hk : k ≤ 1000000) :
  Calls Tryz.prog 29 #[.int .i64 n, .int .i64 k] w fun e w' => e = .returned (.int .i64 (powL n k : Nat)) ∧ w = w' := by
 have HS : Hid (∀ k out, powG n (k + 1) out = if 4096 < out then out else powG n k (out * n)) := hid fun _ _ => rfl
 have H0 : Hid (∀ out, powG n 0 out = out) := hid fun _ => rfl
 have HP : Hid (powL n k = powG n k 1) := hid rfl
 rw [HP.out]
 generalize hR : powG n k 1 = r at *
 have HR := hid hR; clear hR HP
 go_enter Tryz.func29, Tryz.ntmps29
 go_wp2_with fail
 go_loopw [1, 5] (fun s1 s5 wr => ∃ j out : Nat, j ≤ k ∧ s1 = .int .i64 j ∧ s5 = .int .i64 out ∧ out ≤ 1048576 ∧ Hid (powG n j out = r) ∧ wr = w) (fun s1 _ _ => (intOf s1).toNat)
 case atStart => exact ⟨k, 1, by omega, rfl, rfl, by omega, HR, rfl⟩
 case round =>
  obtain ⟨j, out, hj, rfl, rfl, hout, HJ, rfl⟩ := hrel
  cases j with
  | zero =>
   have h := HJ.out
   rw [H0.out] at h
   have hz : decide ((0 : Int) < ((0 : Nat) : Int)) = false := by decide
   go_wp2_with fail
   go_ret
   exact ⟨by rw [← h]; rfl, rfl⟩
  | succ j =>
   have h := HJ.out
   rw [HS.out] at h
   by_cases h1 : 4096 < out
   ·rw [if_pos h1] at h
    have hz : (0 : Int) < ((j + 1 : Nat) : Int) := by omega
    have hz2 : ¬ ((out : Int) ≤ 4096) := by omega
    go_wp2_with fail
    go_ret
    exact ⟨by rw [← h]; rfl, rfl⟩
   ·rw [if_neg h1] at h
    have HH := hid h; clear h HJ
    have hz : (0 : Int) < ((j + 1 : Nat) : Int) := by omega
    have hz2 : ((out : Int) ≤ 4096) := by omega
    have hmb : out * n ≤ 4096 * 256 := Nat.mul_le_mul (by omega) hn
    have hmc : out * n ≤ 1048576 := by omega
    have hm : (out : Int) * (n : Int) ≤ 1048576 := by rw [← Int.natCast_mul]; omega
    have hm0 : 0 ≤ (out : Int) * (n : Int) := Int.mul_nonneg (by omega) (by omega)
    have e1 : ((j + 1 : Nat) : Int) - 1 = (j : Int) := by omega
    go_wp2_with fail
    go_roundw
    case rel => exact ⟨j, out * n, by omega, by go_num, by rw [Int.natCast_mul], by omega, HH, trivial⟩
    case measure => simp [intOf] <;> omega
theorem numL_drop (U V : List Nat) (N i : Nat) (h : i < V.length) : numL U (V.drop i) N = (numL U (V.drop (i + 1)) N).set (V.getD i 0) (U.getD (N / U.length ^ (V.length - (i + 1)) % U.length) 0) := by
 rw [List.drop_eq_getElem_cons h, numL, getD_get h, List.length_drop]
set_option maxRecDepth 20000 in
set_option maxHeartbeats 2000000 in
theorem l17Values_any (U V : List Nat) (N : Nat) (vu vv : Value) (w : World) (hu : Ints w vu (zs U)) (hv : Ints w vv (zs V)) (hU : 0 < U.length) (hN : N ≤ 1048576) (hV : ∀ x ∈ V, x < 6) :
  Calls Tryz.prog 154 #[vu, vv, .int .i64 N] w fun e w' => ∃ v', e = .returned v' ∧ OwnI w' w.heap.size v' (zs (numL U V N)) ∧ Keeps w w' := by
 have hu0 := hu
 have hv0 := hv
 obtain ⟨p, cap, rfl, _, hmx, _, _⟩ := hu
 obtain ⟨q, cap2, rfl, _, hmx2, _, _⟩ := hv
 unfold maxLen at hmx hmx2
 rw [zs_length U] at *
 rw [zs_length V] at *
 have HU := hid (fun i (hi : i < U.length) wr (k : Keeps w wr) => (hu0.keeps k).zs_cell i hi)
 have HV := hid (fun i (hi : i < V.length) wr (k : Keeps w wr) => (hv0.keeps k).zs_cell i hi)
 clear hu0 hv0
 obtain ⟨wm, hmk, hown0, km⟩ := run_makeI w 6 (by omega)
 rw [show ((6 : Nat) : Int) = 6 from rfl] at hmk
 rw [← zs_rep] at hown0
 have HT := hid (fun i (h : i < V.length) => numL_drop U V N i h)
 have HTL := hid (fun i => numL_len U (V.drop i) N)
 have HT0 : Hid (numL U (V.drop V.length) N = List.replicate 6 0) := hid (by rw [List.drop_length]; rfl)
 have HTE : Hid (numL U (V.drop 0) N = numL U V N) := hid rfl
 rw [← HTE.out]
 rw [← HT0.out] at hown0
 have HX : Hid (∀ i, i < V.length → V.getD i 0 < 6) := hid fun i hi => by rw [getD_get hi]; exact hV _ (List.getElem_mem hi)
 have HM0 : Hid (N / U.length ^ (V.length - V.length) = N) := hid (by simp)
 have HM : Hid (∀ i, i < V.length → N / U.length ^ (V.length - i) = N / U.length ^ (V.length - (i + 1)) / U.length) := hid fun i hi => by
  rw [Nat.div_div_eq_div_mul, ← Nat.pow_succ, show (V.length - (i + 1)).succ = V.length - i by omega]
 have HMB : Hid (∀ i, N / U.length ^ (V.length - i) ≤ 1048576) := hid fun i => Nat.le_trans (Nat.div_le_self _ _) hN
 obtain ⟨T, hT⟩ : ∃ T : Nat → List Nat, ∀ i, T i = numL U (V.drop i) N := ⟨_, fun _ => rfl⟩
 obtain ⟨M, hM⟩ : ∃ M : Nat → Nat, ∀ i, M i = N / U.length ^ (V.length - i) := ⟨_, fun _ => rfl⟩
 obtain ⟨UU, hUU⟩ : ∃ UU : Nat → Nat, ∀ i, UU i = U.getD i 0 := ⟨_, fun _ => rfl⟩
 obtain ⟨VV, hVV⟩ : ∃ VV : Nat → Nat, ∀ i, VV i = V.getD i 0 := ⟨_, fun _ => rfl⟩
 simp only [← hT, ← hM, ← hUU, ← hVV] at *
 clear hT hM hUU hVV HT0 HTE hV
 generalize U.length = L at *
 generalize V.length = n at *
 have KM := hid km; clear km
 have HO0 := hid hown0; clear hown0
 go_enter Tryz.func154, Tryz.ntmps154
 go_wp2
 clear hmk
 go_loopw [2, 8] (fun s2 s8 wr => ∃ i : Nat, i ≤ n ∧ s2 = .int .i64 (M i : Nat) ∧ s8 = .int .i64 ((i : Int) - 1) ∧ OwnI wr w.heap.size (.slice (some ⟨w.heap.size, 0, none⟩) 6 6) (zs (T i)) ∧ Keeps w wr) (fun _ s8 _ => (intOf s8 + 1).toNat)
 case atStart => exact ⟨n, by omega, by rw [HM0.out], by go_num, HO0.out, KM.out⟩
 case round =>
  obtain ⟨i, hi, rfl, rfl, hown, kw⟩ := hrel
  clear HO0 KM
  cases i with
  | zero =>
   have hm1 : ((0 : Nat) : Int) - 1 = -1 := rfl
   go_wp2_with fail
   go_ret
   exact ⟨_, rfl, hown, kw⟩
  | succ i =>
   have hi1 : ((i + 1 : Nat) : Int) - 1 = (i : Int) := by omega
   rw [hi1]
   have hlt : (i : Int) < n := by omega
   have hge : (0 : Int) ≤ i := by omega
   have hTi := HT.out i (by omega)
   have hMi := HM.out i (by omega)
   have hmb := HMB.out (i + 1)
   have hml : M (i + 1) % L < L := Nat.mod_lt _ hU
   obtain ⟨b1, o1, e1, h1⟩ := HV.out i (by omega) _ kw
   obtain ⟨b2, o2, e2, h2⟩ := HU.out (M (i + 1) % L) hml _ kw
   have hx := HX.out i (by omega)
   have htl := HTL.out (i + 1)
   have hod := hown.keeps (Keeps.refl wr).drew
   have hc := hod.cell (VV i) (by rw [zs_length, htl]; exact hx)
   obtain ⟨old, ci⟩ : ∃ old, wr.drew.cell? ⟨w.heap.size, VV i, none⟩ = some old := ⟨_, hc.1⟩
   have fi := hc.2
   have hst := hod.store (VV i) (by rw [zs_length, htl]; exact hx) (UU (M (i + 1) % L) : Int)
   rw [← zs_set, ← hTi] at hst
   have HST := hid hst; clear hst hTi hc hown hod htl
   have KW := hid (kw.trans (Keeps.refl wr).drew); clear kw
   have htm : ((M (i + 1) : Nat) : Int).tmod (L : Int) = ((M (i + 1) % L : Nat) : Int) := by rw [Int.tmod_eq_emod_of_nonneg (by omega)]; rfl
   have htd : ((M (i + 1) : Nat) : Int).tdiv (L : Int) = ((M i : Nat) : Int) := by rw [Int.tdiv_eq_ediv_of_nonneg (by omega), hMi]; rfl
   have hxl : ((VV i : Nat) : Int) < 6 := by omega
   have hml2 : ((M (i + 1) % L : Nat) : Int) < (L : Int) := by omega
   have hr0 : (0 : Int) ≤ ((M (i + 1) % L : Nat) : Int) := by omega
   have hr2 : ((M (i + 1) : Nat) : Int) % (L : Int) < L := Int.emod_lt_of_pos _ (by omega)
   have hr3 : 0 ≤ ((M (i + 1) : Nat) : Int) % (L : Int) := Int.emod_nonneg _ (by omega)
   have htn : (((M (i + 1) : Nat) : Int) % (L : Int)).toNat = M (i + 1) % L := rfl
   have hLz : ¬ L = 0 := by omega
   have hw64 : wrap64 (((M (i + 1) : Nat) : Int) / (L : Int)) = ((M i : Nat) : Int) := by
    have h1 : ((M (i + 1) : Nat) : Int) / (L : Int) = ((M (i + 1) / L : Nat) : Int) := rfl
    have h2 : M (i + 1) / L ≤ 1048576 := Nat.le_trans (Nat.div_le_self _ _) hmb
    rw [h1, hMi]; generalize M (i + 1) / L = dd at h2 ⊢; unfold wrap64; omega
   have HW64 := hid hw64; clear hw64
   have hnxt := HMB.out i
   subst e1 e2
   clear hMi
   generalize M (i + 1) % L = r at *
   generalize hMM : M (i + 1) = m1 at *
   generalize VV i = x at *
   generalize UU r = u at *
   go_wp2_with fail
   go_still_tail 13, (by kernel_rfl)
   change wpList _ _ _ _ _ wr.drew
   go_wp2_with fail
   go_roundw
   case rel => exact ⟨i, by omega, by first | go_num | (rw [HW64.out]), by go_num, HST.out.1, KW.out.grown HST.out.2 (fun k hk => by cases hk; simp)⟩
   case measure => simp [intOf] <;> omega
end Go.Proofs.YtikooimokfbffaaGreatDoor
namespace Go.Proofs.YtikooimokfbffaaGreatDoor
open Go.RowKit
set_option maxHeartbeats 400000 in
theorem indexFuncN (pr : Nd → Bool) (f : FuncId) (cp : Array Value) (a : List Nd) (v : Value) (w : World) (hv : Nds w v a) (hcf : Enters f)
  (hf : ∀ x w1, x ∈ a → Keeps w w1 → Calls Tryz.prog f (#[.agg #[.int .i64 x.k, .int .i64 x.s]] ++ cp) w1 fun e w2 => e = .returned (.bool (pr x)) ∧ Keeps w1 w2) :
  Calls Tryz.prog 156 #[v, .func (.func f) #[] cp] w fun e w' => e = .returned (.int .i64 (idxOf pr a 0)) ∧ Keeps w w' := by
 obtain ⟨p, cap, rfl, hle, hmx, hr, hlen⟩ := hv
 unfold maxLen at hmx
 have HF := hid hf; clear hf
 have hcf' : ∀ args w, (callFunc f args).run Tryz.prog w = .ok (.enter f args) w := hcf
 clear hcf
 go_enter Tryz.func156, Tryz.ntmps156
 go_wp2
 go_loopw [4, 8] (fun r i' wr => ∃ k : Nat, k ≤ a.length ∧ idxOf pr a 0 = idxOf pr (a.drop k) k ∧ Keeps w wr ∧ i' = .int .i64 k ∧ r = .int .i64 0) (fun _ i _ => a.length - (intOf i).toNat)
 case atStart => exact ⟨0, by omega, by simp, Keeps.refl w, rfl, rfl⟩
 case round =>
  obtain ⟨k, hk, hs, kw, rfl, rfl⟩ := hrel
  have Hs := hid hs; clear hs
  by_cases hlt : k < a.length
  ·obtain ⟨b, off, rfl, h1, h2⟩ := (hr.keeps kw).nd k hlt
   have hd := hid (idxOf_drop pr a k hlt)
   clear hr
   cases hp : pr a[k]
   all_goals
    have Hp := hid hp; clear hp
    go_wp2_with ((with_reducible refine (HF.out a[k] wr (List.getElem_mem hlt) kw).mono ?_); rintro e w2 ⟨rfl, k2⟩; rw [Hp.out])
   ·go_roundw
    case rel => exact ⟨k + 1, by omega, by rw [Hs.out, hd.out, Hp.out]; rfl, kw.trans k2, by go_num, rfl⟩
    case measure => simp [intOf]; omega
   ·go_ret
    exact ⟨ret_int (by rw [Hs.out, hd.out, Hp.out]; rfl), kw.trans k2⟩
  ·go_wp2
   go_ret
   exact ⟨ret_int (by rw [Hs.out, idxOf_end _ _ _ (by omega)]), kw⟩
theorem containsFuncN (pr : Nd → Bool) (f : FuncId) (cp : Array Value) (a : List Nd) (v : Value) (w : World) (hv : Nds w v a) (hcf : Enters f)
  (hf : ∀ x w1, x ∈ a → Keeps w w1 → Calls Tryz.prog f (#[.agg #[.int .i64 x.k, .int .i64 x.s]] ++ cp) w1 fun e w2 => e = .returned (.bool (pr x)) ∧ Keeps w1 w2) :
  Calls Tryz.prog 84 #[v, .func (.func f) #[] cp] w fun e w' => e = .returned (.bool (a.any pr)) ∧ Keeps w w' := by
 have H := hid (indexFuncN pr f cp a v w hv hcf hf)
 clear hv hf hcf
 have he := hid (idxOf_any pr a 0)
 go_enter Tryz.func84, Tryz.ntmps84
 go_wp2_with (go_at_call 156; refine H.out.mono ?_; rintro e w2 ⟨rfl, k2⟩)
 go_ret
 exact ⟨ret_bool he.out, k2⟩
theorem isVariable_any (x : Int) (w : World) : Calls Tryz.prog 157 #[.int .i64 x] w fun e w' => e = .returned (.bool (inR x 0 5)) ∧ w = w' := by
 go_enter Tryz.func157, Tryz.ntmps157
 go_wp2_with (go_at_call 106; refine (inRange_any _ _ _ _).mono ?_; rintro e w' ⟨rfl, rfl⟩)
 go_ret
 exact ⟨rfl, rfl⟩
set_option maxHeartbeats 400000 in
theorem isNode_any (x : Nd) (w : World) : Calls Tryz.prog 86 #[.agg #[.int .i64 x.k, .int .i64 x.s]] w fun e w' => e = .returned (.bool (okNd x)) ∧ Keeps w w' := by
 by_cases h : x.k = 0
 ·have h' : (x.k == 0) = true := by simp [h]
  have H := hid h; clear h
  go_enter Tryz.func86, Tryz.ntmps86
  go_wp2_with (go_at_call 157; refine (isVariable_any _ _).mono ?_; rintro e w' ⟨rfl, rfl⟩)
  go_ret
  exact ⟨ret_bool (by simp [okNd, H.out, inR]), (Keeps.refl w).alloc _⟩
 ·have h' : (x.k == 0) = false := by simp [h]
  have H := hid h; clear h
  cases hi : inR x.k 1 6
  all_goals
   have Hi := hid hi; clear hi
   go_enter Tryz.func86, Tryz.ntmps86
   go_wp2_with (go_at_call 106; refine (inRange_any _ _ _ _).mono ?_; rintro e w' ⟨rfl, rfl⟩; rw [Hi.out])
   go_ret
   refine ⟨ret_bool ?_, (Keeps.refl w).alloc _⟩
   have := Hi.out
   simp only [inR, decide_eq_true_eq, decide_eq_false_iff_not] at this
   unfold okNd
   rw [if_neg H.out]
   by_cases h0 : x.s = 0 <;> simp [h0] <;> omega
theorem isFormula_1_any (x : Nd) (w : World) : Calls Tryz.prog 85 #[.agg #[.int .i64 x.k, .int .i64 x.s]] w fun e w' => e = .returned (.bool (!okNd x)) ∧ Keeps w w' := by
 go_enter Tryz.func85, Tryz.ntmps85
 go_wp2_with (go_at_call 86; refine (isNode_any x _).mono ?_; rintro e w' ⟨rfl, k1⟩)
 go_ret
 exact ⟨rfl, ((Keeps.refl w).alloc _).trans k1⟩
theorem enters_isFormula_1 : Enters 85 := fun _ _ => by kernel_rfl
theorem isFm_split (a : List Nd) : isFm a = (decide (1 ≤ a.length) && (decide (a.length ≤ 40) && (!(a.any fun x => !okNd x) && (skipInt 1 a 0 == (a.length : Int))))) := by
 unfold isFm isTree
 have : (!(a.any fun x => !okNd x)) = a.all okNd := by
  induction a with
  | nil => rfl
  | cons x l ih => simp [List.all_cons, List.any_cons, ← ih]
 rw [this]
 cases a.all okNd <;> simp
 by_cases h : 0 < a.length <;> simp [h]
 all_goals omega
set_option maxHeartbeats 400000 in
theorem isFormula_any (a : List Nd) (v : Value) (w : World) (hv : Nds w v a) :
  Calls Tryz.prog 33 #[v] w fun e w' => e = .returned (.bool (isFm a)) ∧ Keeps w w' := by
 have hsp := hid (isFm_split a)
 have hv0 := hv
 obtain ⟨p, cap, rfl, hle, hmx, hr, hlen⟩ := hv
 unfold maxLen at hmx
 clear hr
 by_cases h1 : 1 ≤ a.length
 ·by_cases h40 : a.length ≤ 40
  ·cases ho : a.any fun x => !okNd x
   all_goals
    have Ho := hid ho; clear ho
    go_enter Tryz.func33, Tryz.ntmps33
    go_wp2_with (first
     | (go_at_call 84; refine (containsFuncN (fun x => !okNd x) _ #[] a _ _ hv0 enters_isFormula_1 (fun x w1 _ _ => isFormula_1_any x w1)).mono ?_; rintro e w1 ⟨rfl, k1⟩; rw [Ho.out])
     | (go_at_call 87; refine (partEnd_any a _ _ _ (hv0.keeps k1) (by omega) (by omega)).mono ?_; rintro e w' ⟨rfl, rfl⟩))
    go_ret
    refine ⟨ret_bool ?_, k1⟩
    rw [hsp.out, Ho.out]
    simp [h1, h40]
  ·go_enter Tryz.func33, Tryz.ntmps33
   go_wp2
   go_ret
   refine ⟨ret_bool ?_, Keeps.refl _⟩
   rw [hsp.out]; simp; omega
 ·go_enter Tryz.func33, Tryz.ntmps33
  go_wp2
  go_ret
  refine ⟨ret_bool ?_, Keeps.refl _⟩
  rw [hsp.out]; simp; omega
def modalB (k : Int) : Bool := decide (k = 5 ∨ k = 6)
theorem isModal_any (x : Int) (w : World) : Calls Tryz.prog 89 #[.int .i64 x] w fun e w' => e = .returned (.bool (modalB x)) ∧ w = w' := by
 go_enter Tryz.func89, Tryz.ntmps89
 go_wp2
 all_goals go_ret
 all_goals exact ⟨ret_bool (by by_cases h5 : x = 5 <;> by_cases h6 : x = 6 <;> simp_all [modalB]), rfl⟩
theorem isPlain_1_any (x : Nd) (w : World) : Calls Tryz.prog 88 #[.agg #[.int .i64 x.k, .int .i64 x.s]] w fun e w' => e = .returned (.bool (modalB x.k)) ∧ Keeps w w' := by
 go_enter Tryz.func88, Tryz.ntmps88
 go_wp2_with (go_at_call 89; refine (isModal_any _ _).mono ?_; rintro e w' ⟨rfl, rfl⟩)
 go_ret
 exact ⟨rfl, (Keeps.refl w).alloc _⟩
theorem enters_isPlain_1 : Enters 88 := fun _ _ => by kernel_rfl
theorem plainL_any (a : List Nd) : (!(a.any fun x => modalB x.k)) = plainL a := by
 unfold plainL
 induction a with
 | nil => rfl
 | cons x l ih => simp only [List.all_cons, List.any_cons, ← ih]; by_cases h : x.k = 5 <;> by_cases h' : x.k = 6 <;> simp [h, h', modalB]
theorem isPlain_any (a : List Nd) (v : Value) (w : World) (hv : Nds w v a) :
  Calls Tryz.prog 35 #[v] w fun e w' => e = .returned (.bool (plainL a)) ∧ Keeps w w' := by
 have hp := hid (plainL_any a)
 go_enter Tryz.func35, Tryz.ntmps35
 go_wp2_with (go_at_call 84; refine (containsFuncN (fun x => modalB x.k) _ #[] a _ _ hv enters_isPlain_1 (fun x w1 _ _ => isPlain_1_any x w1)).mono ?_; rintro e w1 ⟨rfl, k1⟩)
 go_ret
 exact ⟨ret_bool hp.out, k1⟩
end Go.Proofs.YtikooimokfbffaaGreatDoor
namespace Go.Proofs.YtikooimokfbffaaGreatDoor
open Go.RowKit
set_option maxHeartbeats 400000 in
theorem part_any (a l : List Nd) (t : Fm) (r : List Nd) (v : Value) (i : Int) (w : World) (hv : Nds w v a) (ha : a = l ++ (t.enc ++ r)) (hi : i = l.length) :
  Calls Tryz.prog 237 #[v, .int .i64 i] w (RetS w t.enc) := by
 subst hi
 have hv0 := hv
 obtain ⟨p, cap, rfl, hle, hmx, hr, hlen⟩ := hv
 have hp := Fm.enc_pos t
 have hs : skipInt 1 a (l.length : Int).toNat = l.length + t.enc.length := by subst ha; exact skipInt_enc l t r
 have hl : l.length + t.enc.length ≤ a.length := by subst ha; simp
 obtain ⟨b, off, rfl⟩ := hr.ptrN (by omega)
 have hmx0 := hid hmx
 unfold maxLen at hmx
 have Ha := hid ha; clear ha
 have Hs := hid hs; clear hs
 have hc1 : ¬ l.length + t.enc.length = l.length := by omega
 go_enter Tryz.func237, Tryz.ntmps237
 go_wp2_with (go_at_call 87; refine (partEnd_any _ _ _ _ hv0 (by omega) (by omega)).mono ?_; rintro e w' ⟨rfl, rfl⟩; rw [Hs.out])
 go_ret
 have e := Ha.out
 rw [e] at hr
 exact ⟨_, rfl, Nds.sub (l := l) (m := t.enc) (r := r) hr (by omega) rfl (by omega) (by omega) (by have := hmx0.out; omega), rfl⟩
theorem first_any (a : List Nd) (x : Nd) (t : Fm) (r : List Nd) (v : Value) (w : World) (hv : Nds w v a) (ha : a = x :: (t.enc ++ r)) :
  Calls Tryz.prog 167 #[v] w (RetS w t.enc) := by
 go_enter Tryz.func167, Tryz.ntmps167
 go_wp2_with (go_at_call 237; refine (part_any a [x] t r _ _ _ hv ha rfl).mono ?_; rintro e w' ⟨v1, rfl, hv1, rfl⟩)
 go_ret
 exact ⟨_, rfl, hv1, rfl⟩
theorem second_any (a : List Nd) (x : Nd) (t u : Fm) (v : Value) (w : World) (hv : Nds w v a) (ha : a = x :: (t.enc ++ u.enc)) :
  Calls Tryz.prog 168 #[v] w (RetS w u.enc) := by
 have hs : skipInt 1 a (1 : Int).toNat = 1 + t.enc.length := by subst ha; exact skipInt_enc [x] t u.enc
 have ha2 : a = (x :: t.enc) ++ (u.enc ++ []) := by subst ha; simp
 have hl1 : (1 : Int) ≤ a.length := by subst ha; simp; omega
 have Ha := hid ha2; clear ha2 ha
 have Hs := hid hs; clear hs
 go_enter Tryz.func168, Tryz.ntmps168
 go_wp2_with (first
  | (go_at_call 87; refine (partEnd_any _ _ _ _ hv (by omega) hl1).mono ?_; rintro e w' ⟨rfl, rfl⟩; rw [Hs.out])
  | (go_at_call 237; refine (part_any a (x :: t.enc) u [] _ _ _ hv Ha.out (by simp; omega)).mono ?_; rintro e w' ⟨v1, rfl, hv1, rfl⟩))
 go_ret
 exact ⟨_, rfl, hv1, rfl⟩
theorem isFalsum_any (t : Fm) (v : Value) (w : World) (hv : Nds w v t.enc) :
  Calls Tryz.prog 170 #[v] w fun e w' => e = .returned (.bool t.isFls) ∧ w = w' := by
 obtain ⟨b, off, n, cap, rfl, h0, h1, h2, h3, hc, _⟩ := hv.root
 have hk := hid (Fm.kind_isFls t)
 go_enter Tryz.func170, Tryz.ntmps170
 go_wp2
 go_ret
 exact ⟨ret_bool hk.out, rfl⟩
set_option maxHeartbeats 400000 in
theorem isNegation_any (t : Fm) (v : Value) (w : World) (hv : Nds w v t.enc) :
  Calls Tryz.prog 169 #[v] w fun e w' => e = .returned (.bool t.isNeg) ∧ w = w' := by
 have hv0 := hv
 obtain ⟨b, off, n, cap, rfl, h0, h1, h2, h3, hc, _⟩ := hv.root
 clear hv
 cases t with
 | imp x y =>
  go_enter Tryz.func169, Tryz.ntmps169
  go_wp2_with (first
   | (go_at_call 168; refine (second_any _ _ x y _ _ hv0 rfl).mono ?_; rintro e w' ⟨v2, rfl, hv2, rfl⟩)
   | (go_at_call 170; refine (isFalsum_any y _ _ hv2).mono ?_; rintro e w' ⟨rfl, rfl⟩))
  go_ret
  exact ⟨rfl, rfl⟩
 | _ =>
  clear hv0
  simp only [Fm.kind] at hc
  go_enter Tryz.func169, Tryz.ntmps169
  go_wp2
  go_ret
  exact ⟨rfl, rfl⟩
end Go.Proofs.YtikooimokfbffaaGreatDoor
