/- What is a poset: both sides. -/
import Derived.Test.YtpbjeoigpbnekaaDoorGQE8
import Derived.Test.YtpbjeoigpbnekaaDoorGPD
import Derived.Test.YtpbjeoigpbnekaaDoorGLO
namespace Go.Proofs.YtpbjeoigpbnekaaDoor
open Go.RowKit
/-- a size and a list are a poset -/
def isPos (n : Int) (a : List Int) : Bool := inR n 0 8 && decide ((a.length : Int) = n) && a.all (isM a.length) && posB (a.map Int.toNat)
theorem zs_toNat (b : List Nat) : (zs b).map Int.toNat = b := by
  unfold zs
  rw [List.map_map]
  conv => rhs; rw [← List.map_id b]
  rfl
theorem isPos_iff (n : Int) (a : List Int) : isPos n a = true ↔ ∃ b : List Nat, a = zs b ∧ n = b.length ∧ b.length ≤ 8 ∧ Bnd b.length b ∧ posB b = true := by
  unfold isPos
  rw [Bool.and_eq_true, Bool.and_eq_true, Bool.and_eq_true, decide_eq_true_eq]
  constructor
  · rintro ⟨⟨⟨h1, h2⟩, h3⟩, h4⟩
    obtain ⟨b, rfl, hb⟩ := all_isM h3
    rw [zs_length] at *
    rw [zs_toNat] at h4
    simp [inR] at h1
    exact ⟨b, rfl, h2.symm, by omega, mem_bnd hb, h4⟩
  · rintro ⟨b, rfl, rfl, h8, hb, hp⟩
    rw [zs_length, zs_toNat]
    exact ⟨⟨⟨by simp [inR]; omega, rfl⟩, isM_all (bnd_mem hb)⟩, hp⟩
--
set_option maxRecDepth 20000 in
theorem frameOf_any (a : List Int) (v : Value) (w : World) (hv : Ints w v a) : Calls Tryd.prog 63 #[v] w fun e w' => e = .returned (.agg #[.int .i64 a.length, v]) ∧ Keeps w w' := by
  have HS := hid (fun w2 (k : Keeps w w2) => sizeI_any a v w2 (hv.keeps k))
  have kA := (Keeps.refl w).alloc (.cells #[.int .i64 0, .slice none 0 0] 57)
  obtain ⟨p, cap, rfl, _⟩ := hv
  go_enter Tryd.func63, Tryd.ntmps63
  go_wp2_with fail
  refine (HS.out _ kA).mono ?_; rintro e w2 ⟨rfl, rfl⟩
  go_wp2_with fail
  refine bodyPost_ret (v := .agg #[.int .i64 a.length, .slice p a.length cap]) (by simp [results, Tryd.results63, go_sem]) rfl ?_
  exact ⟨rfl, (Keeps.refl w).alloc _⟩
--
set_option maxRecDepth 20000 in
theorem frame_any (n : Int) (a : List Int) (v : Value) (w : World) (hv : Ints w v a) : Calls Tryd.prog 37 #[.agg #[.int .i64 n, v]] w fun e w' => e = .returned (.agg #[.int .i64 a.length, v]) ∧ Keeps w w' := by
  have kA := ((Keeps.refl w).alloc (.cells #[.int .i64 n, v] 28)).alloc (.cells #[.int .i64 0, .slice none 0 0] 57)
  have HF := hid (fun w2 (k : Keeps w w2) => frameOf_any a v w2 (hv.keeps k))
  obtain ⟨p, cap, rfl, _⟩ := hv
  go_enter Tryd.func37, Tryd.ntmps37
  go_wp2_with fail
  refine (HF.out _ kA).mono ?_; rintro e w2 ⟨rfl, k2⟩
  have e0 : w2.cell? ⟨w.heap.size + 1, 0, none⟩ = some (.int .i64 0) := k2.cell (by simp)
  have e1 : w2.cell? ⟨w.heap.size + 1, 1, none⟩ = some (.slice none 0 0) := k2.cell (by simp)
  obtain ⟨hc2, hf2⟩ := k2.both
  go_wp2_with fail
  refine bodyPost_ret (v := .agg #[.int .i64 a.length, .slice p a.length cap]) (by simp [results, Tryd.results37, go_sem, e0, e1]) rfl ?_
  exact ⟨rfl, ((kA.trans k2).setCell (by simp) _).setCell (by simp) _⟩
--
set_option maxRecDepth 20000 in
set_option maxHeartbeats 1000000 in
theorem isPoset_any (n : Int) (a : List Int) (v : Value) (w : World) (hv : Ints w v a) : Calls Tryd.prog 20 #[.agg #[.int .i64 n, v]] w fun e w' => e = .returned (.bool (isPos n a)) ∧ Keeps w w' := by
  have kA := (Keeps.refl w).alloc (.cells #[.int .i64 n, v] 28)
  have hc := BoxF.made w n v 28
  have HN := hid (fun w2 => inRange_any n 0 8 w2)
  have HS := hid (fun w2 (k : Keeps w w2) => sizeI_any a v w2 (hv.keeps k))
  have HR := hid (fun w2 (k : Keeps w w2) => isRelation_any a v w2 (hv.keeps k))
  have HF := hid (fun w2 (k : Keeps w w2) => frame_any n a v w2 (hv.keeps k))
  have H0 := hid (fun w2 b (e : a = zs b) (k : Keeps w w2) => hasFlag0_any b v w2 (e ▸ hv.keeps k))
  have H2 := hid (fun w2 b (e : a = zs b) (k : Keeps w w2) => hasFlag2_any b v w2 (e ▸ hv.keeps k))
  have H8 := hid (fun w2 b (e : a = zs b) (k : Keeps w w2) => hasFlag8_any b v w2 (e ▸ hv.keeps k))
  have HP : Hid (isPos n a = (inR n 0 8 && decide ((a.length : Int) = n) && a.all (isM a.length) && posB (a.map Int.toNat))) := hid rfl
  obtain ⟨c0, c1⟩ := hc
  obtain ⟨p, cap, rfl, _⟩ := hv
  cases h1 : inR n 0 8
  · rw [h1] at HN HP
    simp only [Bool.false_and] at HP
    clear h1
    go_enter Tryd.func20, Tryd.ntmps20
    go_wp2_with fail
    go_quiet (first | (go_at_call 34; refine quietS (HN.out _)))
    go_wp2_with fail
    go_ret
    exact ⟨by rw [HP.out]; rfl, kA.drewN _⟩
  · rw [h1] at HN HP
    have h8 : n ≤ 8 := by simp [inR] at h1; omega
    clear h1
    by_cases h2 : (a.length : Int) = n
    · have hd : ((a.length : Int) != n) = false := by simp [h2]
      rw [decide_eq_true h2] at HP
      have hl8 : a.length ≤ 8 := by omega
      replace HR := hid (fun w2 k => HR.out w2 k hl8)
      subst h2
      have kd0 := (Keeps.refl (w.alloc (.cells #[.int .i64 a.length, .slice p a.length cap] 28))).drew
      have kD := kA.drew
      have e0 := kd0.cell c0
      have e1 := kd0.cell c1
      cases h3 : a.all (isM a.length)
      · rw [h3] at HR HP
        simp only [Bool.true_and, Bool.false_and] at HP
        clear h3
        go_enter Tryd.func20, Tryd.ntmps20
        go_wp2_with fail
        go_region_held3 (fun w' => w'.cell? ⟨w.heap.size, 0, none⟩ = some (.int .i64 a.length) ∧ w'.cell? ⟨w.heap.size, 1, none⟩ = some (.slice p a.length cap)) (first | exact ⟨e0, e1⟩ | exact ⟨z0, z1⟩) (first | (go_at_call 34; refine (HN.out _).mono ?_; rintro e w' ⟨rfl, rfl⟩) | (go_at_call 35; refine (HS.out _ kD).mono ?_; rintro e w' ⟨rfl, rfl⟩) | (go_at_call 36; refine (HR.out _ kD).mono ?_; rintro e w2 ⟨rfl, k2⟩; have z0 := k2.cell e0; have z1 := k2.cell e1))
        go_wp2_with fail
        go_ret
        exact ⟨by rw [HP.out]; rfl, kD.trans k2⟩
      · rw [h3] at HR HP
        obtain ⟨b, rfl, hb⟩ := all_isM h3
        have hbm := mem_bnd hb
        clear h3 hb
        simp only [Bool.true_and, zs_toNat] at HP
        rw [zs_length] at *
        have H0' := hid (fun w2 k => H0.out w2 b rfl k hl8 hbm)
        have H2' := hid (fun w2 k => H2.out w2 b rfl k hl8 hbm)
        have H8' := hid (fun w2 k => H8.out w2 b rfl k hl8 hbm)
        have HQ : Hid (posB b = (reflB b && transB b && antiB b)) := hid rfl
        clear H0 H2 H8 hbm
        generalize reflB b = q0 at *
        generalize transB b = q2 at *
        generalize antiB b = q8 at *
        generalize b.length = m at *
        go_enter Tryd.func20, Tryd.ntmps20
        go_wp2_with fail
        go_region_held3 (fun w' => w'.cell? ⟨w.heap.size, 0, none⟩ = some (.int .i64 m) ∧ w'.cell? ⟨w.heap.size, 1, none⟩ = some (.slice p m cap)) (first | exact ⟨e0, e1⟩ | exact ⟨z0, z1⟩) (first | (go_at_call 34; refine (HN.out _).mono ?_; rintro e w' ⟨rfl, rfl⟩) | (go_at_call 35; refine (HS.out _ kD).mono ?_; rintro e w' ⟨rfl, rfl⟩) | (go_at_call 36; refine (HR.out _ kD).mono ?_; rintro e w2 ⟨rfl, k2⟩; have z0 := k2.cell e0; have z1 := k2.cell e1))
        have k2' := kD.trans k2
        clear e0 e1 c0 c1 HN HS HR
        go_wp2_with fail
        refine (HF.out _ k2').mono ?_; rintro e w3 ⟨rfl, k3⟩
        have k4 := (k2'.trans k3).alloc (.cells #[.int .i64 m, .slice p m cap] 57)
        have y0 : (w3.alloc (.cells #[.int .i64 m, .slice p m cap] 57)).cell? ⟨w3.heap.size, 0, none⟩ = some (.int .i64 m) := by simp
        have y1 : (w3.alloc (.cells #[.int .i64 m, .slice p m cap] 57)).cell? ⟨w3.heap.size, 1, none⟩ = some (.slice p m cap) := by simp
        clear z0 z1
        go_wp2_with fail
        refine (H0'.out _ k4).mono ?_; rintro e w4 ⟨rfl, k5⟩
        replace k4 := k4.trans k5
        replace y0 := k5.cell y0
        replace y1 := k5.cell y1
        cases q0
        · go_wp2_with fail
          go_ret
          exact ⟨by rw [HP.out, HQ.out]; rfl, k4⟩
        · go_wp2_with fail
          refine (H2'.out _ k4).mono ?_; rintro e w5 ⟨rfl, k6⟩
          replace k4 := k4.trans k6
          replace y0 := k6.cell y0
          replace y1 := k6.cell y1
          cases q2
          · go_wp2_with fail
            go_ret
            exact ⟨by rw [HP.out, HQ.out]; rfl, k4⟩
          · go_wp2_with fail
            refine (H8'.out _ k4).mono ?_; rintro e w6 ⟨rfl, k7⟩
            go_wp2_with fail
            go_ret
            exact ⟨by rw [HP.out, HQ.out]; cases q8 <;> rfl, k4.trans k7⟩
    · have hd : ((a.length : Int) != n) = true := by simp [h2]
      rw [decide_eq_false h2] at HP
      simp only [Bool.and_false, Bool.false_and] at HP
      clear h2
      go_enter Tryd.func20, Tryd.ntmps20
      go_wp2_with fail
      go_quiet (first | (go_at_call 34; refine quietS (HN.out _)) | (go_at_call 35; refine quietS (HS.out _ (kA.drewN _))))
      go_wp2_with fail
      go_ret
      exact ⟨by rw [HP.out]; rfl, kA.drewN _⟩
--
set_option maxRecDepth 20000 in
set_option maxHeartbeats 1000000 in
theorem l16Is_any (n : Int) (a : List Int) (v : Value) (w : World) (hv : Ints w v a) : Calls Tryd.prog 24 #[.agg #[.int .i64 n, v]] w fun e w' => e = .returned (.bool (isPos n a)) ∧ Keeps w w' := by
  have kA := (Keeps.refl w).alloc (.cells #[.int .i64 n, v] 28)
  have hc := BoxF.made w n v 28
  have HN := hid (fun w2 => l01In_any n 0 8 w2)
  have HR := hid (fun w2 m (hm : m ≤ 8) (k : Keeps w w2) => l01Masks_any m a v w2 hm (hv.keeps k))
  have H0 := hid (fun w2 b (e : a = zs b) (k : Keeps w w2) => l05Flag0_any b v w2 (e ▸ hv.keeps k))
  have H2 := hid (fun w2 b (e : a = zs b) (k : Keeps w w2) => l05Flag2_any b v w2 (e ▸ hv.keeps k))
  have H8 := hid (fun w2 b (e : a = zs b) (k : Keeps w w2) => l05Flag8_any b v w2 (e ▸ hv.keeps k))
  have HP : Hid (isPos n a = (inR n 0 8 && decide ((a.length : Int) = n) && a.all (isM a.length) && posB (a.map Int.toNat))) := hid rfl
  obtain ⟨c0, c1⟩ := hc
  obtain ⟨p, cap, rfl, _, hmx, _⟩ := hv
  unfold maxLen at hmx
  cases h1 : inR n 0 8
  · rw [h1] at HN HP
    simp only [Bool.false_and] at HP
    clear h1
    go_enter Tryd.func24, Tryd.ntmps24
    go_wp2_with fail
    refine (HN.out _).mono ?_; rintro e w2 ⟨rfl, rfl⟩
    go_wp2_with fail
    go_ret
    exact ⟨by rw [HP.out]; rfl, kA⟩
  · rw [h1] at HN HP
    have h8 : n ≤ 8 := by simp [inR] at h1; omega
    clear h1
    by_cases h2 : (a.length : Int) = n
    · have hd : ((a.length : Int) != n) = false := by simp [h2]
      rw [decide_eq_true h2] at HP
      have hl8 : a.length ≤ 8 := by omega
      replace HR := hid (fun w2 k => HR.out w2 a.length hl8 k)
      subst h2
      cases h3 : a.all (isM a.length)
      · rw [h3] at HR HP
        simp only [Bool.true_and, Bool.false_and] at HP
        clear h3
        go_enter Tryd.func24, Tryd.ntmps24
        go_wp2_with fail
        refine (HN.out _).mono ?_; rintro e w2 ⟨rfl, rfl⟩
        go_wp2_with fail
        refine (HR.out _ kA).mono ?_; rintro e w3 ⟨rfl, k3⟩
        go_wp2_with fail
        go_ret
        exact ⟨by rw [HP.out]; rfl, kA.trans k3⟩
      · rw [h3] at HR HP
        obtain ⟨b, rfl, hb⟩ := all_isM h3
        have hbm := mem_bnd hb
        clear h3 hb
        simp only [Bool.true_and, zs_toNat] at HP
        rw [zs_length] at *
        have H0' := hid (fun w2 k => H0.out w2 b rfl k hl8 hbm)
        have H2' := hid (fun w2 k => H2.out w2 b rfl k hl8 hbm)
        have H8' := hid (fun w2 k => H8.out w2 b rfl k hl8 hbm)
        have HQ : Hid (posB b = (reflB b && transB b && antiB b)) := hid rfl
        clear H0 H2 H8 hbm
        generalize reflB b = q0 at *
        generalize transB b = q2 at *
        generalize antiB b = q8 at *
        generalize b.length = m at *
        go_enter Tryd.func24, Tryd.ntmps24
        go_wp2_with fail
        refine (HN.out _).mono ?_; rintro e w2 ⟨rfl, rfl⟩
        go_wp2_with fail
        refine (HR.out _ kA).mono ?_; rintro e w3 ⟨rfl, k3⟩
        have z0 := k3.cell c0
        have z1 := k3.cell c1
        have k4 := (kA.trans k3).alloc (.cells #[.int .i64 m, .slice p m cap] 57)
        have y0 : (w3.alloc (.cells #[.int .i64 m, .slice p m cap] 57)).cell? ⟨w3.heap.size, 0, none⟩ = some (.int .i64 m) := by simp
        have y1 : (w3.alloc (.cells #[.int .i64 m, .slice p m cap] 57)).cell? ⟨w3.heap.size, 1, none⟩ = some (.slice p m cap) := by simp
        clear c0 c1 HN HR
        go_wp2_with fail
        refine (H0'.out _ k4).mono ?_; rintro e w4 ⟨rfl, k5⟩
        replace k4 := k4.trans k5
        replace y0 := k5.cell y0
        replace y1 := k5.cell y1
        clear z0 z1
        cases q0
        · go_wp2_with fail
          go_ret
          exact ⟨by rw [HP.out, HQ.out]; rfl, k4⟩
        · go_wp2_with fail
          refine (H2'.out _ k4).mono ?_; rintro e w5 ⟨rfl, k6⟩
          replace k4 := k4.trans k6
          replace y0 := k6.cell y0
          replace y1 := k6.cell y1
          cases q2
          · go_wp2_with fail
            go_ret
            exact ⟨by rw [HP.out, HQ.out]; rfl, k4⟩
          · go_wp2_with fail
            refine (H8'.out _ k4).mono ?_; rintro e w6 ⟨rfl, k7⟩
            go_wp2_with fail
            go_ret
            exact ⟨by rw [HP.out, HQ.out]; cases q8 <;> rfl, k4.trans k7⟩
    · have hd : ((a.length : Int) != n) = true := by simp [h2]
      rw [decide_eq_false h2] at HP
      simp only [Bool.and_false, Bool.false_and] at HP
      clear h2
      go_enter Tryd.func24, Tryd.ntmps24
      go_wp2_with fail
      refine (HN.out _).mono ?_; rintro e w2 ⟨rfl, rfl⟩
      go_wp2_with fail
      go_ret
      exact ⟨by rw [HP.out]; rfl, kA⟩
end Go.Proofs.YtpbjeoigpbnekaaDoor
/- Members counted, masks below a mask: walks. -/
namespace Go.Proofs.YtpbjeoigpbnekaaDoor
open Go.RowKit
/-- how many members are below i -/
def cntL (m : Nat) : Nat → Nat
  | 0 => 0
  | i + 1 => cntL m i + m / 2 ^ i % 2
theorem cntL_table : ∀ m : Fin 256, cntL m 8 = cntB m := by decide +kernel
theorem cntL_le (m : Nat) : ∀ i, cntL m i ≤ i
  | 0 => Nat.le_refl _
  | i + 1 => by have := cntL_le m i; unfold cntL; omega
theorem cntL_end {m i : Nat} (h : m / 2 ^ i = 0) : ∀ d, cntL m (i + d) = cntL m i
  | 0 => rfl
  | d + 1 => by
    have h2 : m / 2 ^ (i + d) = 0 := by rw [Nat.pow_add, ← Nat.div_div_eq_div_mul, h]; simp
    show cntL m (i + d) + m / 2 ^ (i + d) % 2 = cntL m i
    rw [cntL_end h d, h2]
    omega
theorem half_wrap : ∀ q : Fin 257, wrap64 (((q : Nat) : Int) / 2) = (((q : Nat) / 2 : Nat) : Int) := by decide +kernel
theorem all_false_at' {α : Type} {l : List α} {P : α → Bool} {k : Nat} (hk : k < l.length) (h : P l[k] = false) : l.all P = false := by
  rw [Bool.eq_false_iff]
  intro h2
  have := List.all_eq_true.1 h2 l[k] (List.getElem_mem hk)
  rw [h] at this; cases this
--
set_option maxRecDepth 20000 in
set_option maxHeartbeats 1000000 in
theorem l01Bits_any (m : Nat) (w : World) (hm : m < 256) : Calls Tryd.prog 32 #[.int .i64 m] w fun e w' => e = .returned (.int .i64 (cntB m)) ∧ w = w' := by
  have hE : cntL m 8 = cntB m := cntL_table ⟨m, hm⟩
  have HE := hid hE; clear hE
  go_enter Tryd.func32, Tryd.ntmps32
  go_wp2
  go_loop [0, 3] (fun x o => ∃ i : Nat, i ≤ 8 ∧ x = .int .i64 ((m / 2 ^ i : Nat) : Int) ∧ o = .int .i64 (cntL m i)) (fun x _ => (intOf x).toNat)
  case atStart => exact ⟨0, by omega, by simp, rfl⟩
  case round =>
    obtain ⟨i, hi, rfl, rfl⟩ := hrel
    have hs : cntL m (i + 1) = cntL m i + m / 2 ^ i % 2 := rfl
    have hle := cntL_le m i
    have hq2 : m / 2 ^ (i + 1) = m / 2 ^ i / 2 := by rw [Nat.pow_succ, Nat.div_div_eq_div_mul]
    have hqm : m / 2 ^ i ≤ m := Nat.div_le_self _ _
    have h8 : 0 < m / 2 ^ i → i < 8 := fun h => by
      rcases Nat.lt_or_ge i 8 with h' | h'
      · exact h'
      · obtain rfl : i = 8 := by omega
        omega
    have hend : m / 2 ^ i = 0 → cntL m i = cntB m := fun h => by
      rw [← HE.out, ← cntL_end h (8 - i), show i + (8 - i) = 8 by omega]
    generalize m / 2 ^ i = q at *
    have HQ2 := hid hq2; clear hq2
    have HS := hid hs; clear hs
    have HEND := hid hend; clear hend
    generalize hc : cntL m i = cc at *
    have HC := hid hc; clear hc
    by_cases hp : 0 < q
    · have hi8 := h8 hp
      have hwq := half_wrap ⟨q, by omega⟩
      simp only at hwq
      clear h8
      go_wp2
      go_round
      case rel => exact ⟨i + 1, by omega, by rw [HQ2.out, Int.natCast_ediv]; rfl, by rw [HS.out]; first | (push_cast; rfl) | go_num⟩
      case measure => first | (simp [intOf]; omega) | (simp [intOf, hwq]; omega)
    · obtain rfl : q = 0 := by omega
      have he := HEND.out rfl
      clear h8
      rw [he]
      go_wp2
      go_ret
      exact ⟨rfl, rfl⟩
--
set_option maxRecDepth 20000 in
set_option maxHeartbeats 1000000 in
theorem onesCount_any (m : Nat) (w : World) (hm : m < 256) : Calls Tryd.prog 86 #[.int .u64 m] w fun e w' => e = .returned (.int .i64 (cntB m)) ∧ w = w' := by
  go_enter Tryd.func86, Tryd.ntmps86
  go_wp2
  go_ret
  refine ⟨ret_int ?_, rfl⟩
  clear w
  revert m
  decide +kernel
--
set_option maxRecDepth 20000 in
theorem countMembers_any (m : Nat) (w : World) (hm : m < 256) : Calls Tryd.prog 47 #[.int .i64 m] w fun e w' => e = .returned (.int .i64 (cntB m)) ∧ w = w' := by
  have HO := hid (onesCount_any m w hm)
  have hw : IntKind.u64.wrap (m : Int) = m := by
    have : ∀ k : Fin 256, IntKind.u64.wrap ((k : Nat) : Int) = ((k : Nat) : Int) := by decide +kernel
    exact this ⟨m, hm⟩
  go_enter Tryd.func47, Tryd.ntmps47
  go_wp2_with fail
  refine HO.out.mono ?_; rintro e w' ⟨rfl, rfl⟩
  go_wp2_with fail
  go_ret
  exact ⟨rfl, rfl⟩
--
set_option maxRecDepth 20000 in
set_option maxHeartbeats 1000000 in
theorem subMasksB_any (m : Nat) (hm : m < 256) (w : World) : Calls Tryd.prog 84 #[.int .i64 m] w (RetI w (zs (subB m (m + 1)))) := by
  have HN := hid (fun s (hs : s < 256) (h : inB s m = true) => nxt_of hm hs h)
  have HG := hid (fun s (hs : s < 256) (h : inB s m = true) (hne : s ≠ m) => gap_of hm hs h hne)
  have HX := hid (fun s (hs : s < 256) (h : inB s m = true) (hne : s ≠ m) => subB_next hm hs h hne)
  have HZ := hid (inB_zero m)
  have k0 := (Keeps.refl w).alloc (.cells #[.int .i64 0] 2)
  have hO : OwnI (w.alloc (.cells #[.int .i64 0] 2)) w.heap.size (.slice (some ⟨w.heap.size, 0, none⟩) 1 1) [0] := World.ownsRow_lit w #[.int .i64 0] 1 (Nat.le_refl _) (by simp [maxLen]) (by simp)
  have h1 : zs (subB m 1) = [0] := by simp [subB, zs, inB_zero]
  rw [← h1] at hO
  have HO := hid hO
  clear h1 hO
  go_enter Tryd.func84, Tryd.ntmps84
  go_wp2
  go_loopw [3, 4] (fun r i' wr => ∃ s : Nat, s < 256 ∧ inB s m = true ∧ i' = .int .i64 s ∧ OwnI wr w.heap.size r (zs (subB m (s + 1))) ∧ Keeps w wr) (fun _ i' _ => 256 - (intOf i').toNat)
  case atStart => exact ⟨0, by omega, HZ.out, rfl, HO.out, k0⟩
  case round =>
    obtain ⟨s, hs, hin, rfl, hown, kw⟩ := hrel
    have HI := hid hin; clear hin
    clear HO k0
    have hlen : (zs (subB m (s + 1))).length ≤ 256 := by rw [zs_length]; have := subB_len m (s + 1); omega
    by_cases hne : s = m
    · subst hne
      have hd : ((s : Int) != (s : Int)) = false := by simp
      go_wp2
      go_ret
      exact ⟨_, rfl, hown, kw⟩
    · have hd : ((s : Int) != (m : Int)) = true := by simp; omega
      have hnx := HN.out s hs HI.out
      obtain ⟨g1, g2, g3, _⟩ := HG.out s hs HI.out hne
      have hx := HX.out s hs HI.out hne
      have HXs := hid hx; clear hx
      have HI2 := hid g3; clear g3
      generalize nxtB m s = t at *
      have hsz := kw.size
      clear HN HG HX
      generalize hL : zs (subB m (s + 1)) = L at *
      have HL := hid hL; clear hL
      go_wp2_with (at_builtin; refine appI rfl _ _ rfl w.heap.size _ L rfl (hown.keeps ((Keeps.refl wr).alloc _)) _ [(t : Int)] rfl (Ints.lit1 wr _) (by simp; omega) (by simp; omega) ?_; intro v3 w3 hv3 hg3 hr3; have k3 := (kw.alloc (.cells #[.int .i64 t] 2)).grown hg3 (fun q hq => hr3 q hq))
      go_roundw
      case rel => exact ⟨t, g2, HI2.out, rfl, by rw [HXs.out, zs_snoc, HL.out]; exact hv3, k3⟩
      case measure => simp [intOf]; omega
--
set_option maxRecDepth 20000 in
set_option maxHeartbeats 1000000 in
theorem isAntichain_any (b : List Nat) (n : Int) (s : Nat) (v : Value) (w : World) (hv : Ints w v (zs b)) (hb : b.length ≤ 8) (hbm : Bnd b.length b) (hs : s < 2 ^ b.length) :
    Calls Tryd.prog 85 #[.agg #[.int .i64 n, v], .int .i64 s] w fun e w' => e = .returned (.bool (antiC b s)) ∧ Keeps w w' := by
  have h256 := two8 hb
  have kA := (Keeps.refl w).alloc (.cells #[.int .i64 n, v] 28)
  obtain ⟨c0, c1⟩ := BoxF.made w n v 28
  have HM := hid (fun wz => membersB_any s wz (by omega))
  have hmem : ∀ x ∈ memB s, x < b.length := fun x hx => memB_lt hs hx
  have hml : (memB s).length ≤ 8 := lowB_len s 8
  have hdef : antiC b s = (memB s).all (fun x => b.getD x 0 &&& s == 2 ^ x) := rfl
  have HB : Hid (∀ i, b.getD i 0 < 256) := hid (fun i => Nat.lt_of_lt_of_le (hbm i) h256)
  have hv0 := hv
  obtain ⟨p, cap, rfl, hle, hmx, _, _⟩ := hv
  unfold maxLen at hmx
  rw [zs_length b] at *
  have HMEM := hid hmem
  have HDEF := hid hdef
  clear hbm hmem hdef
  generalize memB s = l at *
  obtain ⟨G, hG⟩ : ∃ G : Nat → Nat, ∀ x, G x = b.getD x 0 := ⟨fun x => b.getD x 0, fun _ => rfl⟩
  obtain ⟨Q, hQ⟩ : ∃ Q : Nat → Bool, ∀ x, Q x = (b.getD x 0 &&& s == 2 ^ x) := ⟨fun x => (b.getD x 0 &&& s == 2 ^ x), fun _ => rfl⟩
  have HALL : Hid (antiC b s = l.all Q) := hid (by rw [HDEF.out]; congr 1; funext x; rw [hQ])
  have HQ := hid hQ; clear hQ
  have HRD := hid (fun x (hx : x < b.length) wz (k : Keeps w wz) => (hv0.keeps k).zs_cell x hx)
  clear HDEF hG
  go_enter Tryd.func85, Tryd.ntmps85
  go_wp2_with fail
  refine (HM.out _).mono ?_; rintro e w2 ⟨v2, rfl, hv2, k2⟩
  have z1 := k2.cell c1
  have hv2i := hv2.ints (by rw [zs_length]; omega)
  obtain ⟨p2, c2, rfl, _, hm2, _, _⟩ := hv2.ints (by rw [zs_length]; omega)
  unfold maxLen at hm2
  rw [zs_length] at *
  have kk := kA.trans k2
  go_wp2
  go_loopw [4, 10] (fun r i' wr => ∃ i : Nat, i ≤ l.length ∧ i' = .int .i64 i ∧ r = .bool false ∧ (∀ j (h : j < l.length), j < i → Q l[j] = true) ∧ Keeps w2 wr) (fun _ i' _ => l.length - (intOf i').toNat)
  case atStart => exact ⟨0, by omega, rfl, rfl, fun j _ h => by omega, Keeps.refl _⟩
  case round =>
    obtain ⟨i, hi, rfl, rfl, hall, kw⟩ := hrel
    have HA := hid hall; clear hall
    by_cases hlt : i < l.length
    · obtain ⟨b1, o1, rfl, h1⟩ := (hv2i.keeps kw).zs_cell i hlt
      rw [getD_get hlt] at h1
      have hx := HMEM.out l[i] (List.getElem_mem hlt)
      obtain ⟨b2, o2, rfl, h2⟩ := HRD.out l[i] hx wr (kk.trans kw)
      have y1 := kw.cell z1
      have hlt' : (i : Int) < l.length := by omega
      have hx' : ((l[i] : Nat) : Int) < b.length := by omega
      have hg := HB.out l[i]
      have hand := andN (b.getD l[i] 0) s (by omega) (by omega)
      have e1 := (pow63 l[i] (by omega)).1
      have e2 : ((2 ^ l[i] : Nat) : Int) = 2 ^ l[i] := by push_cast; rfl
      have hq := HQ.out l[i]
      have HL : Hid (∀ r, Q l[i] = r → Q l[i] = r) := hid fun _ h => h
      cases hc : Q l[i]
      · have hne : (bits .and .i64 ((b.getD l[i] 0 : Nat) : Int) (s : Int) != 2 ^ l[i]) = true := by
          rw [hc] at hq
          rw [hand, ← e2]
          simp only [bne_iff_ne, ne_eq]
          intro e
          have : b.getD l[i] 0 &&& s = 2 ^ l[i] := Int.ofNat.inj e
          rw [this] at hq; simp at hq
        have HC := hid (show l.all Q = false from all_false_at' hlt hc)
        clear hc hq hand e2 HL
        generalize b.getD l[i] 0 = g at *
        generalize l[i] = x at *
        go_wp2_with fail
        go_quiet (fail)
        go_wp2_with fail
        go_ret
        exact ⟨ret_bool (by rw [HALL.out, HC.out]), (kk.trans kw).drewN _⟩
      · have hne : (bits .and .i64 ((b.getD l[i] 0 : Nat) : Int) (s : Int) != 2 ^ l[i]) = false := by
          rw [hc] at hq
          rw [hand, ← e2]
          have : b.getD l[i] 0 &&& s = 2 ^ l[i] := by simpa using hq.symm
          rw [this]; simp
        have HN : Hid (∀ j (h : j < l.length), j < i + 1 → Q l[j] = true) := hid (fun j h hj => by
          by_cases e : j = i
          · subst e; exact hc
          · exact HA.out j h (by omega))
        clear hc hq hand e2 HL
        generalize b.getD l[i] 0 = g at *
        generalize l[i] = x at *
        go_wp2_with fail
        go_quiet (fail)
        go_wp2_with fail
        go_roundw
        case rel => exact ⟨i + 1, by omega, by go_num, rfl, HN.out, kw.drewN _⟩
        case measure => simp [intOf]; omega
    · have hlt' : ¬ (i : Int) < l.length := by omega
      have HC : Hid (l.all Q = true) := hid (by
        rw [List.all_eq_true]
        intro x hx
        obtain ⟨j, hj, rfl⟩ := List.getElem_of_mem hx
        exact HA.out j hj (by omega))
      go_wp2_with fail
      go_ret
      exact ⟨ret_bool (by rw [HALL.out, HC.out]), kk.trans kw⟩
end Go.Proofs.YtpbjeoigpbnekaaDoor
/- Widths and maximal elements of an order: both sides. -/
namespace Go.Proofs.YtpbjeoigpbnekaaDoor
open Go.RowKit
theorem okW_sub {b : List Nat} {x s : Nat} (hx : x < b.length) (hs : inB s (b.getD x 0) = true) (ha : antiC b s = true) : okW b s = true := by
  unfold okW
  rw [ha, Bool.true_and, List.any_eq_true]
  exact ⟨x, by simpa using hx, hs⟩
theorem okW_anti {b : List Nat} {s : Nat} (h : okW b s = true) : antiC b s = true ∧ ∃ x, x < b.length ∧ inB s (b.getD x 0) = true := by
  unfold okW at h
  rw [Bool.and_eq_true, List.any_eq_true] at h
  obtain ⟨h1, x, hx, h2⟩ := h
  exact ⟨h1, x, by simpa using hx, h2⟩
--
set_option maxRecDepth 20000 in
set_option maxHeartbeats 2000000 in
theorem width_any (b : List Nat) (n : Int) (v : Value) (w : World) (hv : Ints w v (zs b)) (hb : b.length ≤ 8) (hbm : Bnd b.length b) :
    Calls Tryd.prog 43 #[.agg #[.int .i64 n, v]] w fun e w' => e = .returned (.int .i64 (widB b)) ∧ Keeps w w' := by
  have h256 := two8 hb
  have kA := (Keeps.refl w).alloc (.cells #[.int .i64 n, v] 28)
  obtain ⟨c0, c1⟩ := BoxF.made w n v 28
  have HSM := hid (fun m wz (hm : m < 256) => subMasksB_any m hm wz)
  have HAC := hid (fun s wz (k : Keeps w wz) (hs : s < 2 ^ b.length) => isAntichain_any b n s v wz (hv.keeps k) hb hbm hs)
  have HCM := hid (fun s wz (hs : s < 256) => countMembers_any s wz hs)
  have HBN : Hid (∀ i, b.getD i 0 < 2 ^ b.length) := hid hbm
  have HFIN := hid (fun v (h : WidAt b v) (ha : ∀ s, s < 256 → okW b s = true → cntB s ≤ v) => WidAt.eq h ha)
  have hv0 := hv
  obtain ⟨p, cap, rfl, hle, hmx, _, _⟩ := hv
  unfold maxLen at hmx
  rw [zs_length] at *
  have HRD := hid (fun x (hx : x < b.length) wz (k : Keeps w wz) => (hv0.keeps k).zs_cell x hx)
  clear hbm hv0
  go_enter Tryd.func43, Tryd.ntmps43
  go_wp2
  go_loopw [3, 11] (fun o i' wr => ∃ (x : Nat) (m : Nat), x ≤ b.length ∧ i' = .int .i64 x ∧ o = .int .i64 m ∧ m ≤ 8 ∧ WidAt b m ∧ (∀ y, y < x → ∀ s, inB s (b.getD y 0) = true → antiC b s = true → cntB s ≤ m) ∧ Keeps (w.alloc (.cells #[.int .i64 n, .slice p b.length cap] 28)) wr) (fun _ i' _ => b.length - (intOf i').toNat)
  case atStart => exact ⟨0, 0, by omega, rfl, rfl, by omega, .inl rfl, fun y h => by omega, Keeps.refl _⟩
  case round =>
    obtain ⟨x, m, hx, rfl, rfl, hm8, hwid, hall, kw⟩ := hrel
    have HW := hid hwid; clear hwid
    have HA := hid hall; clear hall
    have z0 := kw.cell c0
    have z1 := kw.cell c1
    by_cases hlt : x < b.length
    · have hlt' : (x : Int) < b.length := by omega
      obtain ⟨b1, o1, rfl, h1⟩ := HRD.out x hlt wr (kA.trans kw)
      have hbx := HBN.out x
      have HS := hid (HSM.out (b.getD x 0) wr (by omega))
      have hml := subB_len (b.getD x 0) (b.getD x 0 + 1)
      have HMEM := hid (fun s (h : s ∈ subB (b.getD x 0) (b.getD x 0 + 1)) => (subB_mem.1 h).2)
      have HCV := hid (fun s (h : inB s (b.getD x 0) = true) => subB_mem.2 ⟨Nat.lt_succ_of_le (inB_le h), h⟩)
      have HOK := hid (fun s (h : inB s (b.getD x 0) = true) (ha : antiC b s = true) => okW_sub hlt h ha)
      have HLE := hid (fun s (h : inB s (b.getD x 0) = true) => Nat.lt_of_le_of_lt (inB_le h) hbx)
      generalize subB (b.getD x 0) (b.getD x 0 + 1) = l at *
      generalize hbxe : b.getD x 0 = bx at *
      have HBXE := hid hbxe; clear hbxe
      go_wp2_with fail
      refine HS.out.mono ?_; rintro e w2 ⟨v2, rfl, hv2, k2⟩
      have hv2i := hv2.ints (by rw [zs_length]; omega)
      obtain ⟨p2, c2, rfl, _, hm2, _, _⟩ := hv2.ints (by rw [zs_length]; omega)
      unfold maxLen at hm2
      rw [zs_length] at *
      have HV2 := hid hv2i
      clear hv2 hv2i
      go_wp2
      go_loopw [3, 18] (fun o j' wr' => ∃ (j : Nat) (m' : Nat), j ≤ l.length ∧ j' = .int .i64 j ∧ o = .int .i64 m' ∧ m' ≤ 8 ∧ m ≤ m' ∧ WidAt b m' ∧ (∀ t (h : t < l.length), t < j → antiC b l[t] = true → cntB l[t] ≤ m') ∧ Keeps w2 wr') (fun _ j' _ => l.length - (intOf j').toNat)
      case atStart => exact ⟨0, m, by omega, rfl, rfl, hm8, Nat.le_refl _, HW.out, fun t _ h => by omega, Keeps.refl _⟩
      case round =>
        obtain ⟨j, m', hj, rfl, rfl, hm8', hmm, hwid', hall', kv⟩ := hrel
        have HW' := hid hwid'; clear hwid'
        have HA' := hid hall'; clear hall'
        have k3 := k2.trans kv
        have y0 := k3.cell z0
        have y1 := k3.cell z1
        by_cases hjt : j < l.length
        · have hjt' : (j : Int) < l.length := by omega
          obtain ⟨b2, o2, rfl, h2⟩ := (HV2.out.keeps kv).zs_cell j hjt
          rw [getD_get hjt] at h2
          have hin := HMEM.out l[j] (List.getElem_mem hjt)
          have hls := HLE.out l[j] hin
          have HACs := hid (HAC.out l[j] wr (kA.trans (kw.trans k3)) hls)
          have HCMs := hid (fun wz => HCM.out l[j] wz (by omega))
          have hc8 := cntB_le l[j]
          cases ha : antiC b l[j]
          · rw [ha] at HACs
            have HN : Hid (∀ t (h : t < l.length), t < j + 1 → antiC b l[t] = true → cntB l[t] ≤ m') := hid (fun t h ht hat => by
              by_cases e : t = j
              · subst e; rw [ha] at hat; cases hat
              · exact HA'.out t h (by omega) hat)
            clear ha hin
            generalize l[j] = s at *
            go_wp2_with fail
            refine HACs.out.mono ?_; rintro e w4 ⟨rfl, k4⟩
            go_wp2_with fail
            go_roundw
            case rel => exact ⟨j + 1, m', by omega, by go_num, rfl, hm8', hmm, HW'.out, HN.out, kv.trans k4⟩
            case measure => simp [intOf]; omega
          · rw [ha] at HACs
            have HN : Hid (∀ t (h : t < l.length), t < j + 1 → antiC b l[t] = true → cntB l[t] ≤ max m' (cntB l[j])) := hid (fun t h ht hat => by
              by_cases e : t = j
              · subst e; omega
              · have := HA'.out t h (by omega) hat; omega)
            have HW2 := hid (WidAt.max HW'.out (show l[j] < 256 by omega) (HOK.out _ hin ha))
            clear ha hin
            generalize l[j] = s at *
            generalize cntB s = cs at *
            go_wp2_with fail
            refine HACs.out.mono ?_; rintro e w4 ⟨rfl, k4⟩
            go_wp2_with fail
            refine (HCMs.out _).mono ?_; rintro e w5 ⟨rfl, rfl⟩
            go_wp2_with fail
            go_roundw
            case rel => exact ⟨j + 1, max m' cs, by omega, by go_num, by first | rfl | (congr 1; split <;> omega), by omega, by omega, HW2.out, HN.out, kv.trans k4⟩
            case measure => simp [intOf]; omega
        · have hjt' : ¬ (j : Int) < l.length := by omega
          go_wp2_with fail
          go_roundw
          case rel =>
            refine ⟨x + 1, m', by omega, by go_num, rfl, hm8', HW'.out, fun y hy s hs ha => ?_, kw.trans k3⟩
            by_cases e : y = x
            · subst e
              rw [HBXE.out] at hs
              obtain ⟨t, ht, rfl⟩ := List.getElem_of_mem (HCV.out s hs)
              exact HA'.out t ht (by omega) ha
            · exact Nat.le_trans (HA.out y (by omega) s hs ha) hmm
          case measure => simp [intOf]; omega
    · obtain rfl : x = b.length := by omega
      have hlt' : ¬ (b.length : Int) < b.length := by omega
      have he := HFIN.out m HW.out (fun s hs ho => by
        obtain ⟨ha, y, hy, hi⟩ := okW_anti ho
        exact HA.out y hy s hi ha)
      have HE := hid he; clear he
      go_wp2_with fail
      go_ret
      exact ⟨ret_int (by rw [HE.out]), kA.trans kw⟩
--
set_option maxRecDepth 20000 in
set_option maxHeartbeats 1000000 in
theorem maximal_any (b : List Nat) (n : Int) (v : Value) (w : World) (hv : Ints w v (zs b)) (hb : b.length ≤ 8) :
    Calls Tryd.prog 44 #[.agg #[.int .i64 n, v]] w fun e w' => e = .returned (.int .i64 (mxB b)) ∧ Keeps w w' := by
  have kA := (Keeps.refl w).alloc (.cells #[.int .i64 n, v] 28)
  obtain ⟨c0, c1⟩ := BoxF.made w n v 28
  have hv0 := hv.keeps kA
  obtain ⟨p, cap, rfl, hle, hmx, _, _⟩ := hv
  unfold maxLen at hmx
  rw [zs_length] at *
  have HL := hid (mxT_lt b)
  have HD : Hid (mxB b = mxT b b.length) := hid rfl
  go_enter Tryd.func44, Tryd.ntmps44
  go_wp2
  go_loop [3, 9] (fun o i' => ∃ i : Nat, i ≤ b.length ∧ i' = .int .i64 i ∧ o = .int .i64 (mxT b i)) (fun _ i => b.length - (intOf i).toNat)
  case atStart => exact ⟨0, by omega, rfl, rfl⟩
  case round =>
    obtain ⟨i, hi, rfl, rfl⟩ := hrel
    by_cases hlt : i < b.length
    · obtain ⟨b1, o1, rfl, h1⟩ := hv0.zs_cell i hlt
      have hlt' : (i : Int) < b.length := by omega
      have hs : mxT b (i + 1) = if b.getD i 0 == 2 ^ i then mxT b i ||| 2 ^ i else mxT b i := rfl
      have hb1 := HL.out i
      have hb2 : 2 ^ i < 2 ^ 8 := Nat.pow_lt_pow_right (by omega) (by omega)
      have hb3 : 2 ^ i ≤ 2 ^ 8 := by omega
      have e1 := (pow63 i (by omega)).1
      have e2 : ((2 ^ i : Nat) : Int) = 2 ^ i := by push_cast; rfl
      have HS := hid hs; clear hs
      by_cases hc : b.getD i 0 = 2 ^ i
      · have hor := orN (mxT b i) (b.getD i 0) (by omega) (by omega)
        have hd : (((b.getD i 0 : Nat) : Int) == 2 ^ i) = true := by rw [← e2, hc]; simp
        have HN : Hid (mxT b (i + 1) = mxT b i ||| b.getD i 0) := hid (by rw [HS.out, if_pos (by simpa using hc), hc])
        have HO := hid hor
        clear hor hc e2 hb1 hb2
        generalize b.getD i 0 = g at *
        generalize mxT b i = z at *
        go_wp2
        go_round
        case rel => exact ⟨i + 1, by omega, by go_num, by rw [HN.out, ← HO.out]⟩
        case measure => simp [intOf]; omega
      · have hd : (((b.getD i 0 : Nat) : Int) == 2 ^ i) = false := by
          rw [← e2, beq_eq_false_iff_ne]
          intro e; exact hc (Int.ofNat.inj e)
        have HN : Hid (mxT b (i + 1) = mxT b i) := hid (by rw [HS.out, if_neg (by simpa using hc)])
        clear hc e2 hb1 hb2
        generalize b.getD i 0 = g at *
        generalize mxT b i = z at *
        go_wp2
        go_round
        case rel => exact ⟨i + 1, by omega, by go_num, by rw [HN.out]⟩
        case measure => simp [intOf]; omega
    · obtain rfl : i = b.length := by omega
      have hlt' : ¬ (b.length : Int) < b.length := by omega
      go_wp2
      go_ret
      exact ⟨ret_int (by rw [HD.out]), kA⟩
--
set_option maxRecDepth 20000 in
set_option maxHeartbeats 1000000 in
theorem l16Maximal_any (b : List Nat) (v : Value) (w : World) (hv : Ints w v (zs b)) (hb : b.length ≤ 8) :
    Calls Tryd.prog 33 #[.agg #[.int .i64 b.length, v]] w fun e w' => e = .returned (.int .i64 (mxB b)) ∧ Keeps w w' := by
  have kA := (Keeps.refl w).alloc (.cells #[.int .i64 b.length, v] 28)
  obtain ⟨c0, c1⟩ := BoxF.made w b.length v 28
  have hv0 := hv.keeps kA
  obtain ⟨p, cap, rfl, hle, hmx, _, _⟩ := hv
  unfold maxLen at hmx
  rw [zs_length] at *
  have HL := hid (mxT_lt b)
  have HD : Hid (mxB b = mxT b b.length) := hid rfl
  have HONE := hid (fun (x : Nat) wz (h : x ≤ 62) => l01One_any (x : Int) wz (by omega) (by omega))
  simp only [Int.toNat_natCast] at HONE
  generalize hn : b.length = n at *
  have Hn := hid hn; clear hn
  go_enter Tryd.func33, Tryd.ntmps33
  go_wp2
  go_loopw [3, 4] (fun o i' wr => ∃ i : Nat, i ≤ n ∧ i' = .int .i64 i ∧ o = .int .i64 (mxT b i) ∧ Keeps (w.alloc (.cells #[.int .i64 n, .slice p n cap] 28)) wr) (fun _ i _ => n - (intOf i).toNat)
  case atStart => exact ⟨0, by omega, rfl, rfl, Keeps.refl _⟩
  case round =>
    obtain ⟨i, hi, rfl, rfl, kw⟩ := hrel
    have z0 := kw.cell c0
    have z1 := kw.cell c1
    by_cases hlt : i < n
    · obtain ⟨b1, o1, rfl, h1⟩ := (hv0.keeps kw).zs_cell i (by rw [Hn.out]; exact hlt)
      have hlt' : (i : Int) < n := by omega
      have hs : mxT b (i + 1) = if b.getD i 0 == 2 ^ i then mxT b i ||| 2 ^ i else mxT b i := rfl
      have hb1 := HL.out i
      have hb2 : 2 ^ i < 2 ^ 8 := Nat.pow_lt_pow_right (by omega) (by omega)
      have e2 : ((2 ^ i : Nat) : Int) = 2 ^ i := by push_cast; rfl
      have HX := hid (fun wz => HONE.out i wz (by omega))
      have HS := hid hs; clear hs
      by_cases hc : b.getD i 0 = 2 ^ i
      · have hor := orN (mxT b i) (2 ^ i) (by omega) (by omega)
        rw [e2] at hor
        have hd : (((b.getD i 0 : Nat) : Int) == 2 ^ i) = true := by rw [← e2, hc]; simp
        have HN : Hid (mxT b (i + 1) = mxT b i ||| 2 ^ i) := hid (by rw [HS.out, if_pos (by simpa using hc)])
        have HO := hid hor
        clear hor hc e2 hb1 hb2
        generalize b.getD i 0 = g at *
        generalize mxT b i = z at *
        generalize (2 : Int) ^ i = P at *
        go_wp2_with fail
        go_quiet (first | (go_at_call 60; refine quietS (HX.out _)))
        go_wp2_with fail
        refine (HX.out _).mono ?_; rintro e w' ⟨rfl, rfl⟩
        go_wp2_with fail
        go_roundw
        case rel => exact ⟨i + 1, by omega, by go_num, by rw [HN.out, ← HO.out], kw.drewN _⟩
        case measure => simp [intOf]; omega
      · have hd : (((b.getD i 0 : Nat) : Int) == 2 ^ i) = false := by
          rw [← e2, beq_eq_false_iff_ne]
          intro e; exact hc (Int.ofNat.inj e)
        have HN : Hid (mxT b (i + 1) = mxT b i) := hid (by rw [HS.out, if_neg (by simpa using hc)])
        clear hc e2 hb1 hb2
        generalize b.getD i 0 = g at *
        generalize mxT b i = z at *
        generalize (2 : Int) ^ i = P at *
        go_wp2_with fail
        go_quiet (first | (go_at_call 60; refine quietS (HX.out _)))
        go_wp2_with fail
        go_roundw
        case rel => exact ⟨i + 1, by omega, by go_num, by rw [HN.out], kw.drewN _⟩
        case measure => simp [intOf]; omega
    · obtain rfl : i = n := by omega
      have hlt' : ¬ (i : Int) < i := by omega
      go_wp2
      go_ret
      exact ⟨ret_int (by rw [HD.out]), kA.trans kw⟩
end Go.Proofs.YtpbjeoigpbnekaaDoor
