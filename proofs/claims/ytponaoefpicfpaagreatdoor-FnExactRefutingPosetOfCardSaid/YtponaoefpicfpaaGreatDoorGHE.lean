/- The value of a plain formula in an order: the reference's recursion. -/
import Derived.Test.YtponaoefpicfpaaGreatDoorGOZ
import Derived.Test.YtponaoefpicfpaaGreatDoorGW4
import Derived.Test.YtponaoefpicfpaaGreatDoorGOI
import Derived.Test.YtponaoefpicfpaaGreatDoorGP3
namespace Go.Proofs.YtponaoefpicfpaaGreatDoor
open Go.RowKit
--
set_option maxRecDepth 20000 in
set_option maxHeartbeats 2000000 in
theorem l17Force_any (b vs : List Nat) (hb : b.length ≤ 8) (hbm : Bnd b.length b) (hvs : Bnd b.length vs) (h6 : vs.length = 6) : ∀ (t : Fm), t.wf → t.plain = true → ∀ (pv vv v : Value) (w : World), Ints w pv (zs b) → Ints w vv (zs vs) → Nds w v t.enc →
    Calls Tryz.prog 218 #[.agg #[.int .i64 b.length, pv], vv, v] w fun e w' => e = .returned (.int .i64 (frcP b vs t)) ∧ Keeps w w' := by
  intro t
  induction t with
  | var p =>
    intro hw hp pv vv v w hpv hvv hv
    have kA := (Keeps.refl w).alloc (.cells #[.int .i64 b.length, pv] 32)
    have hp6 : p < 6 := by simp [Fm.wf] at hw; omega
    have hvk := hvv.keeps kA
    have hF : frcP b vs (.var p) = vs.getD p 0 := rfl
    rw [hF]
    obtain ⟨b0, off, n, cap, rfl, g0, g1, g2, g3, gc, gs⟩ := (hv.keeps kA).root
    rw [show (Fm.var p).kind = 0 from rfl] at gc
    rw [show (Fm.var p).sym = p from rfl] at gs
    obtain ⟨pq, cq, rfl, _⟩ := hpv
    obtain ⟨pp, cap2, rfl, _, hmx, _, _⟩ := hvv
    obtain ⟨b1, o1, e1, hc⟩ := hvk.zs_cell p (show p < vs.length by omega)
    clear hvk
    unfold maxLen at g2 hmx
    rw [zs_length b] at *
    rw [zs_length vs] at *
    rw [h6] at *
    clear hbm hvs hv hF h6
    subst e1
    generalize vs.getD p 0 = x at *
    generalize b.length = m at *
    have hp6' : (p : Int) < 6 := by omega
    go_enter Tryz.func218, Tryz.ntmps218
    go_wp2_with fail
    go_ret
    exact ⟨rfl, kA⟩
  | fls =>
    intro hw hp pv vv v w hpv hvv hv
    have kA := (Keeps.refl w).alloc (.cells #[.int .i64 b.length, pv] 32)
    have hF : frcP b vs .fls = 0 := rfl
    rw [hF]
    obtain ⟨b0, off, n, cap, rfl, g0, g1, g2, g3, gc, gs⟩ := (hv.keeps kA).root
    rw [show Fm.fls.kind = 1 from rfl] at gc
    obtain ⟨pq, cq, rfl, _⟩ := hpv
    unfold maxLen at g2
    rw [zs_length b] at *
    clear hbm hvs hv hF h6 gs
    generalize b.length = m at *
    go_enter Tryz.func218, Tryz.ntmps218
    go_wp2_with fail
    go_ret
    exact ⟨rfl, kA⟩
  | box x ih => intro hw hp; simp [Fm.plain] at hp
  | dia x ih => intro hw hp; simp [Fm.plain] at hp
  | and x y ihx ihy =>
    intro hw hp pv vv v w hpv hvv hv
    simp [Fm.plain] at hp
    simp [Fm.wf] at hw
    have kA := (Keeps.refl w).alloc (.cells #[.int .i64 b.length, pv] 32)
    obtain ⟨c0, c1⟩ := BoxF.made w b.length pv 32
    have d0 := kA.drew
    have e0 := (Keeps.refl (w.alloc (.cells #[.int .i64 b.length, pv] 32))).drew.cell c0
    have e1 := (Keeps.refl (w.alloc (.cells #[.int .i64 b.length, pv] 32))).drew.cell c1
    have HX := hid (fun vz wz (kz : Keeps w wz) (hz : Nds wz vz x.enc) => ihx hw.1 hp.1 pv vv vz wz (hpv.keeps kz) (hvv.keeps kz) hz)
    have HY := hid (fun vz wz (kz : Keeps w wz) (hz : Nds wz vz y.enc) => ihy hw.2 hp.2 pv vv vz wz (hpv.keeps kz) (hvv.keeps kz) hz)
    have hx := frcP_lt hvs x
    have hy := frcP_lt hvs y
    have h256 := two8 hb
    have hF : frcP b vs (.and x y) = frcP b vs x &&& frcP b vs y := rfl
    have HO := hid (andN (frcP b vs x) (frcP b vs y) (by omega) (by omega))
    rw [hF, ← HO.out]
    clear hF HO
    have HL := hid (fun wz (kz : Keeps w wz) => l02Left_any (Fm.and x y).enc ⟨2, 0⟩ x y.enc v wz (hv.keeps kz) rfl)
    have HR := hid (fun wz (kz : Keeps w wz) => l02Right_any (Fm.and x y).enc ⟨2, 0⟩ x y v wz (hv.keeps kz) rfl)
    obtain ⟨b0, off, n, cap, rfl, g0, g1, g2, g3, gc, gs⟩ := (hv.keeps kA).root
    rw [show (Fm.and x y).kind = 2 from rfl] at gc
    obtain ⟨pq, cq, rfl, _⟩ := hpv
    obtain ⟨pp, cap2, rfl, _⟩ := hvv
    unfold maxLen at g2
    rw [zs_length b] at *
    rw [zs_length vs] at *
    clear hbm hvs hv ihx ihy hx hy h256 hw hp gs
    simp only [h6] at *
    clear h6
    generalize frcP b vs x = fx at *
    generalize frcP b vs y = fy at *
    generalize b.length = m at *
    go_enter Tryz.func218, Tryz.ntmps218
    go_wp2_with fail
    go_region_held3 (fun w' => w'.cell? ⟨w.heap.size, 0, none⟩ = some (.int .i64 m) ∧ w'.cell? ⟨w.heap.size, 1, none⟩ = some (.slice pq m cq)) (first | exact ⟨c0, c1⟩ | exact ⟨e0, e1⟩ | exact ⟨f0, f1⟩ | exact ⟨h0, h1⟩ | exact ⟨j0, j1⟩) (first
      | (go_at_call 128; refine (HL.out _ d0).mono ?_; rintro e w' ⟨v1, rfl, hv1, rfl⟩)
      | (go_at_call 129; refine (HR.out _ k3).mono ?_; rintro e w' ⟨v3, rfl, hv3, rfl⟩)
      | (go_at_call 218; first
        | ((with_reducible refine (HX.out v1 _ d0 hv1).mono ?_); rintro e w2 ⟨rfl, k2⟩; have k3 := d0.trans k2; have f0 := k2.cell e0; have f1 := k2.cell e1)
        | ((with_reducible refine (HY.out v3 _ k3 hv3).mono ?_); rintro e w4 ⟨rfl, k4⟩; have k5 := k3.trans k4; have h0 := k4.cell f0; have h1 := k4.cell f1)))
    go_wp2_with fail
    go_ret
    exact ⟨rfl, k5⟩
  | or x y ihx ihy =>
    intro hw hp pv vv v w hpv hvv hv
    simp [Fm.plain] at hp
    simp [Fm.wf] at hw
    have kA := (Keeps.refl w).alloc (.cells #[.int .i64 b.length, pv] 32)
    obtain ⟨c0, c1⟩ := BoxF.made w b.length pv 32
    have d0 := kA.drew
    have e0 := (Keeps.refl (w.alloc (.cells #[.int .i64 b.length, pv] 32))).drew.cell c0
    have e1 := (Keeps.refl (w.alloc (.cells #[.int .i64 b.length, pv] 32))).drew.cell c1
    have HX := hid (fun vz wz (kz : Keeps w wz) (hz : Nds wz vz x.enc) => ihx hw.1 hp.1 pv vv vz wz (hpv.keeps kz) (hvv.keeps kz) hz)
    have HY := hid (fun vz wz (kz : Keeps w wz) (hz : Nds wz vz y.enc) => ihy hw.2 hp.2 pv vv vz wz (hpv.keeps kz) (hvv.keeps kz) hz)
    have hx := frcP_lt hvs x
    have hy := frcP_lt hvs y
    have h256 := two8 hb
    have hF : frcP b vs (.or x y) = frcP b vs x ||| frcP b vs y := rfl
    have HO := hid (orN (frcP b vs x) (frcP b vs y) (by omega) (by omega))
    rw [hF, ← HO.out]
    clear hF HO
    have HL := hid (fun wz (kz : Keeps w wz) => l02Left_any (Fm.or x y).enc ⟨3, 0⟩ x y.enc v wz (hv.keeps kz) rfl)
    have HR := hid (fun wz (kz : Keeps w wz) => l02Right_any (Fm.or x y).enc ⟨3, 0⟩ x y v wz (hv.keeps kz) rfl)
    obtain ⟨b0, off, n, cap, rfl, g0, g1, g2, g3, gc, gs⟩ := (hv.keeps kA).root
    rw [show (Fm.or x y).kind = 3 from rfl] at gc
    obtain ⟨pq, cq, rfl, _⟩ := hpv
    obtain ⟨pp, cap2, rfl, _⟩ := hvv
    unfold maxLen at g2
    rw [zs_length b] at *
    rw [zs_length vs] at *
    clear hbm hvs hv ihx ihy hx hy h256 hw hp gs
    simp only [h6] at *
    clear h6
    generalize frcP b vs x = fx at *
    generalize frcP b vs y = fy at *
    generalize b.length = m at *
    go_enter Tryz.func218, Tryz.ntmps218
    go_wp2_with fail
    go_region_held3 (fun w' => w'.cell? ⟨w.heap.size, 0, none⟩ = some (.int .i64 m) ∧ w'.cell? ⟨w.heap.size, 1, none⟩ = some (.slice pq m cq)) (first | exact ⟨c0, c1⟩ | exact ⟨e0, e1⟩ | exact ⟨f0, f1⟩ | exact ⟨h0, h1⟩ | exact ⟨j0, j1⟩) (first
      | (go_at_call 128; refine (HL.out _ d0).mono ?_; rintro e w' ⟨v1, rfl, hv1, rfl⟩)
      | (go_at_call 129; refine (HR.out _ k3).mono ?_; rintro e w' ⟨v3, rfl, hv3, rfl⟩)
      | (go_at_call 218; first
        | ((with_reducible refine (HX.out v1 _ d0 hv1).mono ?_); rintro e w2 ⟨rfl, k2⟩; have k3 := d0.trans k2; have f0 := k2.cell e0; have f1 := k2.cell e1)
        | ((with_reducible refine (HY.out v3 _ k3 hv3).mono ?_); rintro e w4 ⟨rfl, k4⟩; have k5 := k3.trans k4; have h0 := k4.cell f0; have h1 := k4.cell f1)))
    go_wp2_with fail
    go_ret
    exact ⟨rfl, k5⟩
  | imp x y ihx ihy =>
    intro hw hp pv vv v w hpv hvv hv
    simp [Fm.plain] at hp
    simp [Fm.wf] at hw
    have kA := (Keeps.refl w).alloc (.cells #[.int .i64 b.length, pv] 32)
    obtain ⟨c0, c1⟩ := BoxF.made w b.length pv 32
    have d0 := kA.drew
    have e0 := (Keeps.refl (w.alloc (.cells #[.int .i64 b.length, pv] 32))).drew.cell c0
    have e1 := (Keeps.refl (w.alloc (.cells #[.int .i64 b.length, pv] 32))).drew.cell c1
    have HX := hid (fun vz wz (kz : Keeps w wz) (hz : Nds wz vz x.enc) => ihx hw.1 hp.1 pv vv vz wz (hpv.keeps kz) (hvv.keeps kz) hz)
    have HY := hid (fun vz wz (kz : Keeps w wz) (hz : Nds wz vz y.enc) => ihy hw.2 hp.2 pv vv vz wz (hpv.keeps kz) (hvv.keeps kz) hz)
    have hx := frcP_lt hvs x
    have hy := frcP_lt hvs y
    have h256 := two8 hb
    have hF : frcP b vs (.imp x y) = impB b (frcP b vs x) (frcP b vs y) := rfl
    have HA := hid (fun wz (kz : Keeps w wz) => l17Arrow_any b (frcP b vs x) (frcP b vs y) pv wz (hpv.keeps kz) hb hbm hx hy)
    rw [hF]
    generalize impB b (frcP b vs x) (frcP b vs y) = r at *
    clear hF
    have HL := hid (fun wz (kz : Keeps w wz) => l02Left_any (Fm.imp x y).enc ⟨4, 0⟩ x y.enc v wz (hv.keeps kz) rfl)
    have HR := hid (fun wz (kz : Keeps w wz) => l02Right_any (Fm.imp x y).enc ⟨4, 0⟩ x y v wz (hv.keeps kz) rfl)
    obtain ⟨b0, off, n, cap, rfl, g0, g1, g2, g3, gc, gs⟩ := (hv.keeps kA).root
    rw [show (Fm.imp x y).kind = 4 from rfl] at gc
    obtain ⟨pq, cq, rfl, _⟩ := hpv
    obtain ⟨pp, cap2, rfl, _⟩ := hvv
    unfold maxLen at g2
    rw [zs_length b] at *
    rw [zs_length vs] at *
    clear hbm hvs hv ihx ihy hx hy h256 hw hp gs
    simp only [h6] at *
    clear h6
    generalize frcP b vs x = fx at *
    generalize frcP b vs y = fy at *
    generalize b.length = m at *
    go_enter Tryz.func218, Tryz.ntmps218
    go_wp2_with fail
    go_region_held3 (fun w' => w'.cell? ⟨w.heap.size, 0, none⟩ = some (.int .i64 m) ∧ w'.cell? ⟨w.heap.size, 1, none⟩ = some (.slice pq m cq)) (first | exact ⟨c0, c1⟩ | exact ⟨e0, e1⟩ | exact ⟨f0, f1⟩ | exact ⟨h0, h1⟩ | exact ⟨j0, j1⟩) (first
      | (go_at_call 128; refine (HL.out _ d0).mono ?_; rintro e w' ⟨v1, rfl, hv1, rfl⟩)
      | (go_at_call 129; refine (HR.out _ k3).mono ?_; rintro e w' ⟨v3, rfl, hv3, rfl⟩)
      | (go_at_call 218; first
        | ((with_reducible refine (HX.out v1 _ d0 hv1).mono ?_); rintro e w2 ⟨rfl, k2⟩; have k3 := d0.trans k2; have f0 := k2.cell e0; have f1 := k2.cell e1)
        | ((with_reducible refine (HY.out v3 _ k3 hv3).mono ?_); rintro e w4 ⟨rfl, k4⟩; have k5 := k3.trans k4; have h0 := k4.cell f0; have h1 := k4.cell f1))
      | (go_at_call 272; refine (HA.out _ k5).mono ?_; rintro e w8 ⟨rfl, k8⟩; have j0 := k8.cell h0; have j1 := k8.cell h1))
    go_wp2_with fail
    go_ret
    exact ⟨rfl, k5.trans k8⟩
end Go.Proofs.YtponaoefpicfpaaGreatDoor
/- The reference: powers up to 4096, the valuation with a number. -/
namespace Go.Proofs.YtponaoefpicfpaaGreatDoor
open Go.RowKit
def powG (n : Nat) : Nat → Nat → Nat
  | 0, out => out
  | k + 1, out => if 4096 < out then out else powG n k (out * n)
theorem powG_eq (n : Nat) (hn : 0 < n) : ∀ k out, 0 < out → (out * n ^ k ≤ 4096 → powG n k out = out * n ^ k) ∧ (4096 < out * n ^ k → 4096 < powG n k out)
  | 0, out, _ => by simp [powG]
  | k + 1, out, ho => by
    have ih := powG_eq n hn k (out * n) (Nat.mul_pos ho hn)
    have e : out * n ^ (k + 1) = out * n * n ^ k := by rw [Nat.pow_succ, Nat.mul_comm (n ^ k) n, Nat.mul_assoc]
    rw [e]
    unfold powG
    by_cases h : 4096 < out
    · rw [if_pos h]
      have h2 : out ≤ out * n * n ^ k := by
        rw [Nat.mul_assoc]
        exact Nat.le_mul_of_pos_right _ (Nat.mul_pos hn (Nat.pow_pos hn))
      exact ⟨fun h3 => by omega, fun _ => h⟩
    · rw [if_neg h]; exact ih
def powL (n k : Nat) : Nat := powG n k 1
theorem powL_eq {n k : Nat} (hn : 0 < n) : (n ^ k ≤ 4096 → powL n k = n ^ k) ∧ (4096 < n ^ k → 4096 < powL n k) := by
  have h := powG_eq n hn k 1 (by omega)
  simpa [powL] using h
--
set_option maxRecDepth 20000 in
theorem l17Power_any (n k : Nat) (w : World) (hn : n ≤ 256) (hk : k ≤ 1000000) :
    Calls Tryz.prog 61 #[.int .i64 n, .int .i64 k] w fun e w' => e = .returned (.int .i64 (powL n k : Nat)) ∧ w = w' := by
  have HS : Hid (∀ k out, powG n (k + 1) out = if 4096 < out then out else powG n k (out * n)) := hid fun _ _ => rfl
  have H0 : Hid (∀ out, powG n 0 out = out) := hid fun _ => rfl
  have HP : Hid (powL n k = powG n k 1) := hid rfl
  rw [HP.out]
  generalize hR : powG n k 1 = r at *
  have HR := hid hR; clear hR HP
  go_enter Tryz.func61, Tryz.ntmps61
  go_wp2_with fail
  go_loopw [1, 5] (fun s1 s5 wr => ∃ j out : Nat, j ≤ k ∧ s1 = .int .i64 j ∧ s5 = .int .i64 out ∧ out ≤ 1048576 ∧ Hid (powG n j out = r) ∧ wr = w) (fun s1 _ _ => (intOf s1).toNat)
  case atStart => exact ⟨k, 1, by omega, rfl, rfl, by omega, HR, rfl⟩
  case round =>
    obtain ⟨j, out, hj, rfl, rfl, hout, HJ, rfl⟩ := hrel
    cases j with
    | zero =>
      have h := HJ.out
      rw [H0.out] at h
      have hz : decide ((0 : Int) < ((0 : Nat) : Int)) = false := by decide
      go_wp2_with fail
      go_ret
      exact ⟨by rw [← h]; rfl, rfl⟩
    | succ j =>
      have h := HJ.out
      rw [HS.out] at h
      by_cases h1 : 4096 < out
      · rw [if_pos h1] at h
        have hz : (0 : Int) < ((j + 1 : Nat) : Int) := by omega
        have hz2 : ¬ ((out : Int) ≤ 4096) := by omega
        go_wp2_with fail
        go_ret
        exact ⟨by rw [← h]; rfl, rfl⟩
      · rw [if_neg h1] at h
        have HH := hid h; clear h HJ
        have hz : (0 : Int) < ((j + 1 : Nat) : Int) := by omega
        have hz2 : ((out : Int) ≤ 4096) := by omega
        have hmb : out * n ≤ 4096 * 256 := Nat.mul_le_mul (by omega) hn
        have hmc : out * n ≤ 1048576 := by omega
        have hm : (out : Int) * (n : Int) ≤ 1048576 := by rw [← Int.natCast_mul]; omega
        have hm0 : 0 ≤ (out : Int) * (n : Int) := Int.mul_nonneg (by omega) (by omega)
        have e1 : ((j + 1 : Nat) : Int) - 1 = (j : Int) := by omega
        go_wp2_with fail
        go_roundw
        case rel => exact ⟨j, out * n, by omega, by go_num, by rw [Int.natCast_mul], by omega, HH, trivial⟩
        case measure => simp [intOf] <;> omega
theorem numL_drop (U V : List Nat) (N i : Nat) (h : i < V.length) : numL U (V.drop i) N = (numL U (V.drop (i + 1)) N).set (V.getD i 0) (U.getD (N / U.length ^ (V.length - (i + 1)) % U.length) 0) := by
  rw [List.drop_eq_getElem_cons h, numL, getD_get h, List.length_drop]
--
set_option maxRecDepth 20000 in
set_option maxHeartbeats 2000000 in
theorem l17Values_any (U V : List Nat) (N : Nat) (vu vv : Value) (w : World) (hu : Ints w vu (zs U)) (hv : Ints w vv (zs V)) (hU : 0 < U.length) (hN : N ≤ 1048576) (hV : ∀ x ∈ V, x < 6) :
    Calls Tryz.prog 217 #[vu, vv, .int .i64 N] w fun e w' => ∃ v', e = .returned v' ∧ OwnI w' w.heap.size v' (zs (numL U V N)) ∧ Keeps w w' := by
  have hu0 := hu
  have hv0 := hv
  obtain ⟨p, cap, rfl, _, hmx, _, _⟩ := hu
  obtain ⟨q, cap2, rfl, _, hmx2, _, _⟩ := hv
  unfold maxLen at hmx hmx2
  rw [zs_length U] at *
  rw [zs_length V] at *
  have HU := hid (fun i (hi : i < U.length) wr (k : Keeps w wr) => (hu0.keeps k).zs_cell i hi)
  have HV := hid (fun i (hi : i < V.length) wr (k : Keeps w wr) => (hv0.keeps k).zs_cell i hi)
  clear hu0 hv0
  obtain ⟨wm, hmk, hown0, km⟩ := run_makeI w 6 (by omega)
  rw [show ((6 : Nat) : Int) = 6 from rfl] at hmk
  rw [← zs_rep] at hown0
  have HT := hid (fun i (h : i < V.length) => numL_drop U V N i h)
  have HTL := hid (fun i => numL_len U (V.drop i) N)
  have HT0 : Hid (numL U (V.drop V.length) N = List.replicate 6 0) := hid (by rw [List.drop_length]; rfl)
  have HTE : Hid (numL U (V.drop 0) N = numL U V N) := hid rfl
  rw [← HTE.out]
  rw [← HT0.out] at hown0
  have HX : Hid (∀ i, i < V.length → V.getD i 0 < 6) := hid fun i hi => by rw [getD_get hi]; exact hV _ (List.getElem_mem hi)
  have HM0 : Hid (N / U.length ^ (V.length - V.length) = N) := hid (by simp)
  have HM : Hid (∀ i, i < V.length → N / U.length ^ (V.length - i) = N / U.length ^ (V.length - (i + 1)) / U.length) := hid fun i hi => by
    rw [Nat.div_div_eq_div_mul, ← Nat.pow_succ, show (V.length - (i + 1)).succ = V.length - i by omega]
  have HMB : Hid (∀ i, N / U.length ^ (V.length - i) ≤ 1048576) := hid fun i => Nat.le_trans (Nat.div_le_self _ _) hN
  obtain ⟨T, hT⟩ : ∃ T : Nat → List Nat, ∀ i, T i = numL U (V.drop i) N := ⟨_, fun _ => rfl⟩
  obtain ⟨M, hM⟩ : ∃ M : Nat → Nat, ∀ i, M i = N / U.length ^ (V.length - i) := ⟨_, fun _ => rfl⟩
  obtain ⟨UU, hUU⟩ : ∃ UU : Nat → Nat, ∀ i, UU i = U.getD i 0 := ⟨_, fun _ => rfl⟩
  obtain ⟨VV, hVV⟩ : ∃ VV : Nat → Nat, ∀ i, VV i = V.getD i 0 := ⟨_, fun _ => rfl⟩
  simp only [← hT, ← hM, ← hUU, ← hVV] at *
  clear hT hM hUU hVV HT0 HTE hV
  generalize U.length = L at *
  generalize V.length = n at *
  have KM := hid km; clear km
  have HO0 := hid hown0; clear hown0
  go_enter Tryz.func217, Tryz.ntmps217
  go_wp2
  clear hmk
  go_loopw [2, 8] (fun s2 s8 wr => ∃ i : Nat, i ≤ n ∧ s2 = .int .i64 (M i : Nat) ∧ s8 = .int .i64 ((i : Int) - 1) ∧ OwnI wr w.heap.size (.slice (some ⟨w.heap.size, 0, none⟩) 6 6) (zs (T i)) ∧ Keeps w wr) (fun _ s8 _ => (intOf s8 + 1).toNat)
  case atStart => exact ⟨n, by omega, by rw [HM0.out], by go_num, HO0.out, KM.out⟩
  case round =>
    obtain ⟨i, hi, rfl, rfl, hown, kw⟩ := hrel
    clear HO0 KM
    cases i with
    | zero =>
      have hm1 : ((0 : Nat) : Int) - 1 = -1 := rfl
      go_wp2_with fail
      go_ret
      exact ⟨_, rfl, hown, kw⟩
    | succ i =>
      have hi1 : ((i + 1 : Nat) : Int) - 1 = (i : Int) := by omega
      rw [hi1]
      have hlt : (i : Int) < n := by omega
      have hge : (0 : Int) ≤ i := by omega
      have hTi := HT.out i (by omega)
      have hMi := HM.out i (by omega)
      have hmb := HMB.out (i + 1)
      have hml : M (i + 1) % L < L := Nat.mod_lt _ hU
      obtain ⟨b1, o1, e1, h1⟩ := HV.out i (by omega) _ kw
      obtain ⟨b2, o2, e2, h2⟩ := HU.out (M (i + 1) % L) hml _ kw
      have hx := HX.out i (by omega)
      have htl := HTL.out (i + 1)
      have hod := hown.keeps (Keeps.refl wr).drew
      have hc := hod.cell (VV i) (by rw [zs_length, htl]; exact hx)
      obtain ⟨old, ci⟩ : ∃ old, wr.drew.cell? ⟨w.heap.size, VV i, none⟩ = some old := ⟨_, hc.1⟩
      have fi := hc.2
      have hst := hod.store (VV i) (by rw [zs_length, htl]; exact hx) (UU (M (i + 1) % L) : Int)
      rw [← zs_set, ← hTi] at hst
      have HST := hid hst; clear hst hTi hc hown hod htl
      have KW := hid (kw.trans (Keeps.refl wr).drew); clear kw
      have htm : ((M (i + 1) : Nat) : Int).tmod (L : Int) = ((M (i + 1) % L : Nat) : Int) := by rw [Int.tmod_eq_emod_of_nonneg (by omega)]; rfl
      have htd : ((M (i + 1) : Nat) : Int).tdiv (L : Int) = ((M i : Nat) : Int) := by rw [Int.tdiv_eq_ediv_of_nonneg (by omega), hMi]; rfl
      have hxl : ((VV i : Nat) : Int) < 6 := by omega
      have hml2 : ((M (i + 1) % L : Nat) : Int) < (L : Int) := by omega
      have hr0 : (0 : Int) ≤ ((M (i + 1) % L : Nat) : Int) := by omega
      have hr2 : ((M (i + 1) : Nat) : Int) % (L : Int) < L := Int.emod_lt_of_pos _ (by omega)
      have hr3 : 0 ≤ ((M (i + 1) : Nat) : Int) % (L : Int) := Int.emod_nonneg _ (by omega)
      have htn : (((M (i + 1) : Nat) : Int) % (L : Int)).toNat = M (i + 1) % L := rfl
      have hLz : ¬ L = 0 := by omega
      have hw64 : wrap64 (((M (i + 1) : Nat) : Int) / (L : Int)) = ((M i : Nat) : Int) := by
        have h1 : ((M (i + 1) : Nat) : Int) / (L : Int) = ((M (i + 1) / L : Nat) : Int) := rfl
        have h2 : M (i + 1) / L ≤ 1048576 := Nat.le_trans (Nat.div_le_self _ _) hmb
        rw [h1, hMi]; generalize M (i + 1) / L = dd at h2 ⊢; unfold wrap64; omega
      have HW64 := hid hw64; clear hw64
      have hnxt := HMB.out i
      subst e1 e2
      clear hMi
      generalize M (i + 1) % L = r at *
      generalize hMM : M (i + 1) = m1 at *
      generalize VV i = x at *
      generalize UU r = u at *
      go_wp2_with fail
      go_still_tail 13, (by kernel_rfl)
      change wpList _ _ _ _ _ wr.drew
      go_wp2_with fail
      go_roundw
      case rel => exact ⟨i, by omega, by first | go_num | (rw [HW64.out]), by go_num, HST.out.1, KW.out.grown HST.out.2 (fun k hk => by cases hk; simp)⟩
      case measure => simp [intOf] <;> omega
end Go.Proofs.YtponaoefpicfpaaGreatDoor
/- The reference: is a formula valid on an order? -/
namespace Go.Proofs.YtponaoefpicfpaaGreatDoor
open Go.RowKit
def varL (t : Fm) : List Nat := lowB (vm t.enc) 6
theorem varL_mem (t : Fm) : mem (vm t.enc) = zs (varL t) := rfl
theorem varL_lt {t : Fm} {x : Nat} (h : x ∈ varL t) : x < 6 := by
  unfold varL lowB at h
  simpa using (List.mem_filter.1 h).1
theorem varL_nodup (t : Fm) : (varL t).Nodup := by
  unfold varL lowB
  exact List.nodup_range.filter _
/-- a formula has the greatest value under the valuation with a number -/
def okV (b : List Nat) (t : Fm) (N : Nat) : Bool := frcP b (numL (upL b) (varL t) N) t == 2 ^ b.length - 1
def vldR (b : List Nat) (t : Fm) : Bool := (List.range ((upL b).length ^ (varL t).length)).all (okV b t)
theorem vldR_true {b : List Nat} {t : Fm} (h : ∀ j, j < (upL b).length ^ (varL t).length → okV b t j = true) : vldR b t = true := by
  unfold vldR
  rw [List.all_eq_true]
  intro x hx
  exact h x (by simpa using hx)
theorem vldR_false {b : List Nat} {t : Fm} {j : Nat} (hj : j < (upL b).length ^ (varL t).length) (h : okV b t j = false) : vldR b t = false := by
  unfold vldR
  rw [Bool.eq_false_iff]
  intro e
  have := List.all_eq_true.1 e j (by simpa using hj)
  rw [h] at this; cases this
theorem numL_bnd {U V : List Nat} {M : Nat} (hM : 0 < M) (hU : ∀ x ∈ U, x < M) (N : Nat) : ∀ i, (numL U V N).getD i 0 < M := by
  induction V with
  | nil =>
    intro i
    have : (List.replicate 6 0).getD i 0 = 0 := by rw [List.getD_eq_getElem?_getD, List.getElem?_replicate]; split <;> rfl
    rw [numL, this]; exact hM
  | cons v V ih =>
    intro i
    rw [numL]
    by_cases e : v = i
    · subst e
      by_cases h6 : v < 6
      · have : ((numL U V N).set v (U.getD (N / U.length ^ V.length % U.length) 0)).getD v 0 = U.getD (N / U.length ^ V.length % U.length) 0 := by
          simp [List.getD_eq_getElem?_getD, numL_len, h6]
        rw [this]
        by_cases h : N / U.length ^ V.length % U.length < U.length
        · rw [getD_get h]; exact hU _ (List.getElem_mem h)
        · rw [List.getD_eq_getElem?_getD, List.getElem?_eq_none (by omega)]; exact hM
      · have : ((numL U V N).set v (U.getD (N / U.length ^ V.length % U.length) 0)).getD v 0 = 0 := by
          rw [List.getD_eq_getElem?_getD, List.getElem?_eq_none (by rw [List.length_set, numL_len]; omega)]; rfl
        rw [this]; exact hM
    · have : ((numL U V N).set v (U.getD (N / U.length ^ V.length % U.length) 0)).getD i 0 = (numL U V N).getD i 0 := by
        simp [List.getD_eq_getElem?_getD, e]
      rw [this]; exact ih i
theorem numL_Bnd (b : List Nat) (V : List Nat) (N : Nat) : Bnd b.length (numL (upL b) V N) := numL_bnd (Nat.two_pow_pos _) (fun _ h => upK_lt h) N
--
set_option maxRecDepth 20000 in
set_option maxHeartbeats 2000000 in
theorem l17First_any (b : List Nat) (hb : b.length ≤ 8) (hbm : Bnd b.length b) (hbm2 : ∀ x ∈ b, x < 2 ^ b.length) (t : Fm) (hw : t.wf) (hp : t.plain = true) (hcap : (upL b).length ^ (varL t).length ≤ 4096) (pv v : Value) (w : World)
    (hpv : Ints w pv (zs b)) (hv : Nds w v t.enc) :
    Calls Tryz.prog 133 #[.agg #[.int .i64 b.length, pv], v] w fun e w' => (∃ p n c x, e = .returned (.tuple #[.slice p n c, .int .i64 x, .bool (!vldR b t)])) ∧ Keeps w w' := by
  have kA := (Keeps.refl w).alloc (.cells #[.int .i64 b.length, pv] 32)
  obtain ⟨c0, c1⟩ := BoxF.made w b.length pv 32
  have HU := hid (fun wz (kz : Keeps w wz) => l16Upsets_any b pv wz (hpv.keeps kz) hb hbm2)
  have HV := hid (fun wz (kz : Keeps w wz) => l02Variables_any t.enc v wz (hv.keeps kz) (List.all_eq_true.2 (okNd_enc hw)))
  have hul : (upL b).length ≤ 256 := Nat.le_trans (upK_len b _) (two8 hb)
  have hvl : (varL t).length ≤ 6 := by
    have := List.length_filter_le (fun j => (vm t.enc).testBit j) (List.range 6)
    unfold varL lowB
    simpa using this
  have HPW := hid (fun wz => l17Power_any (upL b).length (varL t).length wz hul (by omega))
  rw [(powL_eq (upL_pos b)).1 hcap] at HPW
  have HVAL := hid (fun N vu vv wz (hN : N ≤ 1048576) (hu : Ints wz vu (zs (upL b))) (hq : Ints wz vv (zs (varL t))) => l17Values_any (upL b) (varL t) N vu vv wz hu hq (upL_pos b) hN (fun x hx => varL_lt hx))
  have HFR := hid (fun N vv wz (kz : Keeps w wz) (hq : Ints wz vv (zs (numL (upL b) (varL t) N))) => l17Force_any b (numL (upL b) (varL t) N) hb hbm (numL_Bnd b _ N) (numL_len _ _ _) t hw hp pv vv v wz (hpv.keeps kz) hq (hv.keeps kz))
  have HAL := hid (fun wz => l01Full_any (b.length : Int) wz (by omega) (by omega))
  have hpos : 0 < 2 ^ b.length := Nat.two_pow_pos _
  have e2 : (2 : Int) ^ b.length - 1 = ((2 ^ b.length - 1 : Nat) : Int) := by
    rw [Int.ofNat_sub (by omega)]; push_cast; rfl
  simp only [Int.toNat_natCast, e2] at HAL
  have HT := hid (fun (h : ∀ j, j < (upL b).length ^ (varL t).length → okV b t j = true) => vldR_true h)
  have HFA := hid (fun j (hj : j < (upL b).length ^ (varL t).length) (h : okV b t j = false) => vldR_false hj h)
  have HOK : Hid (∀ j, okV b t j = (((frcP b (numL (upL b) (varL t) j) t : Nat) : Int) == ((2 ^ b.length - 1 : Nat) : Int))) := hid (fun j => by
    unfold okV; rw [Bool.eq_iff_iff]; simp only [beq_iff_eq]; omega)
  have hnl : ∀ N, (zs (numL (upL b) (varL t) N)).length = 6 := fun N => by rw [zs_length, numL_len]
  have hUL := zs_length (upL b)
  have hVL := zs_length (varL t)
  rw [varL_mem] at HV
  obtain ⟨pq, cq, rfl, _⟩ := hpv
  obtain ⟨pn, cn, rfl, _⟩ := hv
  rw [zs_length b] at *
  clear hbm hbm2 hw hp e2 hpos
  have HNL := hid hnl; clear hnl
  obtain ⟨OK, hOK⟩ : ∃ OK : Nat → Bool, ∀ j, OK j = okV b t j := ⟨_, fun _ => rfl⟩
  obtain ⟨NL, hNL⟩ : ∃ NL : Nat → List Nat, ∀ j, NL j = numL (upL b) (varL t) j := ⟨_, fun _ => rfl⟩
  obtain ⟨FR, hFR⟩ : ∃ FR : Nat → Nat, ∀ j, FR j = frcP b (numL (upL b) (varL t) j) t := ⟨_, fun _ => rfl⟩
  simp only [← hFR] at *
  simp only [← hNL] at *
  simp only [← hOK] at *
  clear hOK hNL hFR
  generalize vldR b t = res at *
  generalize (upL b).length ^ (varL t).length = tot at *
  generalize upL b = U at *
  generalize varL t = V at *
  generalize 2 ^ b.length - 1 = M at *
  generalize b.length = n at *
  generalize t.enc.length = nn at *
  go_enter Tryz.func133, Tryz.ntmps133
  go_wp2_with fail
  refine (HU.out _ kA).mono ?_; rintro e w2 ⟨vu, rfl, hvu, k2⟩
  go_wp2_with fail
  refine (HV.out _ (kA.trans k2)).mono ?_; rintro e w3 ⟨vv, rfl, hvv, k3⟩
  have hui := (hvu.ints (by rw [hUL]; omega)).keeps k3
  have hvi := hvv.ints (by rw [hVL]; omega)
  have k23 := k2.trans k3
  have c0' := k23.cell c0
  have c1' := k23.cell c1
  have HUI := hid hui
  have HVI := hid hvi
  obtain ⟨pu, qu, rfl, _⟩ := hui
  obtain ⟨pw, qw, rfl, _⟩ := hvi
  rw [hUL] at HUI ⊢
  rw [hVL] at HVI ⊢
  have KW3 := hid (kA.trans k23)
  clear hvu hvv c0 c1 k2 k3 k23
  go_wp2_with fail
  refine (HPW.out _).mono ?_; rintro e w' ⟨rfl, rfl⟩
  go_wp2_with fail
  go_loopw [10] (fun s10 wr => ∃ k : Nat, k ≤ tot ∧ s10 = .int .i64 k ∧ Hid (∀ j, j < k → OK j = true) ∧ Keeps w3 wr) (fun s10 _ => tot - (intOf s10).toNat)
  case atStart => exact ⟨0, by omega, rfl, hid (fun j h => by omega), Keeps.refl w3⟩
  case round =>
    obtain ⟨k, hk, rfl, HI, kw⟩ := hrel
    have KW := hid kw
    by_cases hlt : k < tot
    · have hlt' : (k : Int) < tot := by omega
      have HV1 := hid (HVAL.out k _ _ wr (by omega) (HUI.out.keeps kw) (HVI.out.keeps kw))
      have d0 := kw.cell c0'
      have d1 := kw.cell c1'
      clear kw
      go_wp2_with fail
      refine HV1.out.mono ?_; rintro e w4 ⟨v4, rfl, hv4, k4⟩
      have hv4i := hv4.ints (by rw [HNL.out]; omega)
      replace d0 := k4.cell d0
      replace d1 := k4.cell d1
      have KW4 := hid (KW.out.trans k4)
      have HF1 := hid (HFR.out k v4 w4 (KW3.out.trans KW4.out) hv4i)
      obtain ⟨p4, c4, rfl, -⟩ := hv4i
      rw [HNL.out] at HF1 ⊢
      clear hv4 k4
      have hok := HOK.out k
      generalize FR k = fr at *
      cases hc : (((fr : Nat) : Int) == (M : Int))
      · have hne : (((fr : Nat) : Int) != (M : Int)) = true := by simp [bne, hc]
        rw [hc] at hok
        have HOKK := hid hok; clear hok hc
        go_wp2_with fail
        refine HF1.out.mono ?_; rintro e w5 ⟨rfl, k5⟩
        replace d0 := k5.cell d0
        replace d1 := k5.cell d1
        have KW5 := hid (KW4.out.trans k5)
        go_wp2_with fail
        refine (HAL.out _).mono ?_; rintro e w' ⟨rfl, rfl⟩
        go_wp2_with fail
        go_ret3
        exact ⟨⟨_, _, _, _, by rw [HFA.out k hlt HOKK.out]; rfl⟩, KW3.out.trans KW5.out⟩
      · have hne : (((fr : Nat) : Int) != (M : Int)) = false := by simp [bne, hc]
        rw [hc] at hok
        have HOKK := hid hok; clear hok hc
        go_wp2_with fail
        refine HF1.out.mono ?_; rintro e w5 ⟨rfl, k5⟩
        replace d0 := k5.cell d0
        replace d1 := k5.cell d1
        have KW5 := hid (KW4.out.trans k5)
        go_wp2_with fail
        refine (HAL.out _).mono ?_; rintro e w' ⟨rfl, rfl⟩
        go_wp2_with fail
        go_roundw
        case rel => exact ⟨k + 1, by omega, by go_num, hid (fun j hj => by
          rcases Nat.lt_or_ge j k with h | h
          · exact HI.out j h
          · obtain rfl : j = k := by omega
            exact HOKK.out), KW5.out⟩
        case measure => simp [intOf] <;> omega
    · have e : tot = k := by omega
      subst e
      have hlt' : ¬ (tot : Int) < tot := by omega
      go_wp2_with fail
      go_ret3
      exact ⟨⟨_, _, _, _, by rw [HT.out HI.out]; rfl⟩, KW3.out.trans KW.out⟩
--
set_option maxRecDepth 20000 in
theorem l17Valid_any (b : List Nat) (hb : b.length ≤ 8) (hbm : Bnd b.length b) (hbm2 : ∀ x ∈ b, x < 2 ^ b.length) (t : Fm) (hw : t.wf) (hp : t.plain = true) (hcap : (upL b).length ^ (varL t).length ≤ 4096) (pv v : Value) (w : World)
    (hpv : Ints w pv (zs b)) (hv : Nds w v t.enc) :
    Calls Tryz.prog 63 #[.agg #[.int .i64 b.length, pv], v] w fun e w' => e = .returned (.bool (vldR b t)) ∧ Keeps w w' := by
  have kA := (Keeps.refl w).alloc (.cells #[.int .i64 b.length, pv] 32)
  obtain ⟨c0, c1⟩ := BoxF.made w b.length pv 32
  have HF := hid (fun wz (kz : Keeps w wz) => l17First_any b hb hbm hbm2 t hw hp hcap pv v wz (hpv.keeps kz) (hv.keeps kz))
  obtain ⟨pq, cq, rfl, _⟩ := hpv
  obtain ⟨pn, cn, rfl, _⟩ := hv
  rw [zs_length b] at *
  clear hbm hbm2 hw hp hcap
  generalize vldR b t = res at *
  generalize b.length = n at *
  generalize t.enc.length = nn at *
  go_enter Tryz.func63, Tryz.ntmps63
  go_wp2_with fail
  refine (HF.out _ kA).mono ?_; rintro e w2 ⟨⟨p, m, c, x, rfl⟩, k2⟩
  go_wp2_with fail
  go_ret
  exact ⟨ret_bool (by simp), kA.trans k2⟩
end Go.Proofs.YtponaoefpicfpaaGreatDoor
