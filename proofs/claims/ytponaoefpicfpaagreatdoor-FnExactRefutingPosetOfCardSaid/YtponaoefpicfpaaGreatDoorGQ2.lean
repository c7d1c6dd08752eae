/- The reference's l05Flag: transitive frames. -/
import Derived.Test.YtponaoefpicfpaaGreatDoorGQE0
import Derived.Test.YtponaoefpicfpaaGreatDoorGPP
import Derived.Deep.RegionLaw
namespace Go.Proofs.YtponaoefpicfpaaGreatDoor
open Go.RowKit
--
set_option maxRecDepth 20000 in
set_option maxHeartbeats 4000000 in
theorem l05Flag2_any (b : List Nat) (v : Value) (w : World) (hv : Ints w v (zs b)) (hb : b.length ≤ 8) (hbm : Bnd b.length b) :
    Calls Tryz.prog 103 #[.agg #[.int .i64 b.length, v], .int .i64 2] w fun e w' => e = .returned (.bool (transB b)) ∧ Keeps w w' := by
  have hv0 := hv
  obtain ⟨p, cap, rfl, hle, hmx, hat0, hlen⟩ := hv
  clear hat0
  unfold maxLen at hmx
  rw [zs_length] at *
  have h256 := two8 hb
  have kA := (Keeps.refl w).alloc (.cells #[.int .i64 b.length, .slice p b.length cap] 109)
  have HB := hid (fun i j w2 (hj : j ≤ 8) => l01BitB_any (b.getD i 0) j w2 (Nat.lt_of_lt_of_le (hbm i) h256) hj)
  have HG := hid (fun i w2 (k : Keeps w w2) => l01Image_any b (b.getD i 0) _ w2 (hv0.keeps k) hb (bnd_mem hbm) (hbm i))
  have HW := hid (fun i => withinN (img b (b.getD i 0)) (b.getD i 0) (Nat.lt_of_lt_of_le (img_lt (bnd_mem hbm) _) (by omega)) (Nat.lt_of_lt_of_le (hbm i) (by omega)))
  have HP : Hid (transB b = (List.range b.length).all (fun x => inB (img b (b.getD x 0)) (b.getD x 0))) := hid rfl
  obtain ⟨G, hGe⟩ : ∃ G : Nat → Nat, ∀ i, G i = b.getD i 0 := ⟨fun i => b.getD i 0, fun _ => rfl⟩
  simp only [← hGe] at HB HP HG HW
  obtain ⟨I, hIe⟩ : ∃ I : Nat → Nat, ∀ i, I i = img b (G i) := ⟨fun i => img b (G i), fun _ => rfl⟩
  simp only [← hIe] at HP HG HW
  generalize hn : b.length = n at hle hmx hlen hb kA hv0 HG ⊢
  generalize hP : (fun x => inB (I x) (G x)) = P at HP
  have HGe := hid hGe; clear hGe
  have HIe := hid hIe; clear hIe
  have HPP := hid hP; clear hP
  have HV0 := hid hv0; clear hv0
  have HN := hid hn; clear hn
  clear h256 hbm
  go_enter Tryz.func103, Tryz.ntmps103
  go_wp2_with fail
  go_quiet (fail)
  go_wp2
  go_loopw [4, 7] (fun r x' wr => ∃ x : Nat, x ≤ n ∧ x' = .int .i64 x ∧ r = .bool false ∧ (∀ j, j < x → P j = true) ∧ Keeps w wr) (fun _ x' _ => n - (intOf x').toNat)
  case atStart => exact ⟨0, by omega, rfl, rfl, fun j h => by omega, kA.drewN _⟩
  case round =>
    obtain ⟨x, hx, rfl, rfl, hall, kw⟩ := hrel
    have HA := hid hall; clear hall
    by_cases hlt : x < n
    · have hlt' : (x : Int) < n := by omega
      have hread : ∀ (j : Nat) (wq : World), Keeps w wq → j < n → ∃ b1 o1, p = some ⟨b1, o1, none⟩ ∧ wq.cell? ⟨b1, o1 + j, none⟩ = some (.int .i64 (G j : Nat)) := by
        intro j wq kq hj
        obtain ⟨_, _, e1, _, _, hat, _⟩ := HV0.out.keeps kq
        rw [zs_length, HN.out] at e1
        cases e1
        obtain ⟨b1, o1, e, h1⟩ := hat.int j (by rw [zs_length, HN.out]; omega)
        rw [zs_get, ← getD_get, ← HGe.out] at h1
        exact ⟨b1, o1, e, h1⟩
      have HR := hid hread; clear hread
      obtain ⟨b1, o1, rfl, h1⟩ := HR.out x wr kw hlt
      have hpx : P x = inB (I x) (G x) := by rw [← HPP.out]
      have HH := hid (HG.out x wr kw)
      have hww := HW.out x
      have KW := hid kw; clear kw
      cases hbit : inB (I x) (G x)
      · rw [hbit] at hpx hww
        have HPx := hid hpx; clear hpx
        have hwn : (bits .andNot .i64 ((I x : Nat) : Int) ((G x : Nat) : Int) != 0) = true := by rw [bne, hww]; rfl
        clear hbit hww
        go_wp2_with fail
        go_quiet (first | (go_at_call 132; refine quietS (HG.out x _ (KW.out.drewN _))))
        go_wp2_with fail
        go_ret
        refine ⟨ret_bool ?_, KW.out.drewN _⟩
        rw [HP.out]
        exact (all_false (x := x) (by have := HN.out; omega) HPx.out).symm
      · rw [hbit] at hpx hww
        have HPx := hid hpx; clear hpx
        have hwn : (bits .andNot .i64 ((I x : Nat) : Int) ((G x : Nat) : Int) != 0) = false := by rw [bne, hww]; rfl
        clear hbit hww
        go_wp2_with fail
        go_quiet (first | (go_at_call 132; refine quietS (HG.out x _ (KW.out.drewN _))))
        go_wp2_with fail
        have KWn := hid (fun nn => KW.out.drewN nn)
        clear HH
        go_loopw [4, 8] (fun r y' wr' => ∃ y : Nat, y ≤ n ∧ y' = .int .i64 y ∧ r = .bool false ∧ Keeps w wr') (fun _ y' _ => n - (intOf y').toNat)
        case atStart => exact ⟨0, by omega, rfl, rfl, KWn.out _⟩
        case round =>
          obtain ⟨y, hy, rfl, rfl, kw⟩ := hrel
          clear KW
          by_cases hyt : y < n
          · have hyt' : (y : Int) < n := by omega
            obtain ⟨_, _, e, h1⟩ := HR.out x wr kw hlt
            cases e
            have HH := hid (HB.out x y wr (by omega))
            have KW := hid kw; clear kw
            cases hbit : (G x).testBit y
            · rw [hbit] at HH
              clear hbit
              go_wp2_with fail
              refine HH.out.mono ?_; rintro e w' ⟨rfl, rfl⟩
              go_wp2_with fail
              go_roundw
              case rel => exact ⟨y + 1, by omega, by go_num, rfl, KW.out⟩
              case measure => simp [intOf]; omega
            · rw [hbit] at HH
              clear hbit
              go_wp2_with fail
              refine HH.out.mono ?_; rintro e w' ⟨rfl, rfl⟩
              go_wp2_with fail
              go_loopw [4, 9] (fun r z' wr' => ∃ z : Nat, z ≤ n ∧ z' = .int .i64 z ∧ r = .bool false ∧ Keeps w wr') (fun _ z' _ => n - (intOf z').toNat)
              case atStart => exact ⟨0, by omega, rfl, rfl, KW.out⟩
              case round =>
                obtain ⟨z, hz, rfl, rfl, kw⟩ := hrel
                clear KW HH
                by_cases hzt : z < n
                · have hzt' : (z : Int) < n := by omega
                  obtain ⟨_, _, e, h1⟩ := HR.out x wr kw hlt
                  cases e
                  have HH := hid (HB.out x z wr (by omega))
                  have KW := hid kw; clear kw
                  cases hbit : (G x).testBit z
                  · rw [hbit] at HH
                    clear hbit
                    go_wp2_with fail
                    refine HH.out.mono ?_; rintro e w' ⟨rfl, rfl⟩
                    go_wp2_with fail
                    go_roundw
                    case rel => exact ⟨z + 1, by omega, by go_num, rfl, KW.out⟩
                    case measure => simp [intOf]; omega
                  · rw [hbit] at HH
                    clear hbit
                    go_wp2_with fail
                    refine HH.out.mono ?_; rintro e w' ⟨rfl, rfl⟩
                    go_wp2_with fail
                    go_quiet (fail)
                    go_wp2_with fail
                    go_roundw
                    case rel => exact ⟨z + 1, by omega, by go_num, rfl, KW.out.drewN _⟩
                    case measure => simp [intOf]; omega
                · obtain rfl : z = n := by omega
                  have hzt' : ¬ (z : Int) < z := by omega
                  go_wp2_with fail
                  go_roundw
                  case rel => exact ⟨y + 1, by omega, by go_num, rfl, kw⟩
                  case measure => simp [intOf]; omega
          · obtain rfl : y = n := by omega
            have hyt' : ¬ (y : Int) < y := by omega
            go_wp2_with fail
            go_roundw
            case rel => exact ⟨x + 1, by omega, by go_num, rfl, nextQ HA.out HPx.out, kw⟩
            case measure => simp [intOf]; omega
    · obtain rfl : x = n := by omega
      have hlt' : ¬ (x : Int) < x := by omega
      go_wp2_with fail
      go_ret
      refine ⟨ret_bool ?_, kw⟩
      rw [HP.out]
      exact (all_true (fun j hj => HA.out j (by have := HN.out; omega))).symm
end Go.Proofs.YtponaoefpicfpaaGreatDoor
/- The reference's l05Flag: antisymmetric frames. -/
namespace Go.Proofs.YtponaoefpicfpaaGreatDoor
open Go.RowKit
--
set_option maxRecDepth 20000 in
set_option maxHeartbeats 4000000 in
theorem l05Flag8_any (b : List Nat) (v : Value) (w : World) (hv : Ints w v (zs b)) (hb : b.length ≤ 8) (hbm : Bnd b.length b) :
    Calls Tryz.prog 103 #[.agg #[.int .i64 b.length, v], .int .i64 8] w fun e w' => e = .returned (.bool (antiB b)) ∧ Keeps w w' := by
  have hv0 := hv
  obtain ⟨p, cap, rfl, hle, hmx, hat0, hlen⟩ := hv
  clear hat0
  unfold maxLen at hmx
  rw [zs_length] at *
  have h256 := two8 hb
  have kA := (Keeps.refl w).alloc (.cells #[.int .i64 b.length, .slice p b.length cap] 109)
  have HB := hid (fun i j w2 (hj : j ≤ 8) => l01BitB_any (b.getD i 0) j w2 (Nat.lt_of_lt_of_le (hbm i) h256) hj)
  have HP : Hid (antiB b = (List.range b.length).all (fun x => (List.range b.length).all fun y => antiQ b x y)) := hid rfl
  obtain ⟨G, hGe⟩ : ∃ G : Nat → Nat, ∀ i, G i = b.getD i 0 := ⟨fun i => b.getD i 0, fun _ => rfl⟩
  simp only [← hGe] at HB
  obtain ⟨Q, hQe⟩ : ∃ Q : Nat → Nat → Bool, ∀ i j, Q i j = antiQ b i j := ⟨fun i j => antiQ b i j, fun _ _ => rfl⟩
  simp only [← hQe] at HP
  generalize hn : b.length = n at hle hmx hlen hb kA hv0 ⊢
  generalize hP : (fun x => (List.range b.length).all fun y => Q x y) = P at HP
  have HGe := hid hGe; clear hGe
  have HQe := hid hQe; clear hQe
  have HPP := hid hP; clear hP
  have HV0 := hid hv0; clear hv0
  have HN := hid hn; clear hn
  clear h256 hbm
  go_enter Tryz.func103, Tryz.ntmps103
  go_wp2_with fail
  go_quiet (fail)
  go_wp2
  go_loopw [4, 7] (fun r x' wr => ∃ x : Nat, x ≤ n ∧ x' = .int .i64 x ∧ r = .bool false ∧ (∀ j, j < x → P j = true) ∧ Keeps w wr) (fun _ x' _ => n - (intOf x').toNat)
  case atStart => exact ⟨0, by omega, rfl, rfl, fun j h => by omega, kA.drewN _⟩
  case round =>
    obtain ⟨x, hx, rfl, rfl, hall, kw⟩ := hrel
    have HA := hid hall; clear hall
    by_cases hlt : x < n
    · have hlt' : (x : Int) < n := by omega
      have hread : ∀ (j : Nat) (wq : World), Keeps w wq → j < n → ∃ b1 o1, p = some ⟨b1, o1, none⟩ ∧ wq.cell? ⟨b1, o1 + j, none⟩ = some (.int .i64 (G j : Nat)) := by
        intro j wq kq hj
        obtain ⟨_, _, e1, _, _, hat, _⟩ := HV0.out.keeps kq
        rw [zs_length, HN.out] at e1
        cases e1
        obtain ⟨b1, o1, e, h1⟩ := hat.int j (by rw [zs_length, HN.out]; omega)
        rw [zs_get, ← getD_get, ← HGe.out] at h1
        exact ⟨b1, o1, e, h1⟩
      have HR := hid hread; clear hread
      obtain ⟨b1, o1, rfl, h1⟩ := HR.out x wr kw hlt
      have KW := hid kw; clear kw
      go_wp2_with fail
      go_loopw [4, 8] (fun r y' wr' => ∃ y : Nat, y ≤ n ∧ y' = .int .i64 y ∧ r = .bool false ∧ Keeps w wr' ∧ (∀ j, j < y → Q x j = true)) (fun _ y' _ => n - (intOf y').toNat)
      case atStart => exact ⟨0, by omega, rfl, rfl, KW.out, fun j h => by omega⟩
      case round =>
        obtain ⟨y, hy, rfl, rfl, kw, hqs⟩ := hrel
        clear KW
        by_cases hyt : y < n
        · have hyt' : (y : Int) < n := by omega
          obtain ⟨_, _, e, h1⟩ := HR.out x wr kw hlt
          cases e
          obtain ⟨_, _, e, h2⟩ := HR.out y wr kw hyt
          cases e
          have HQ := hid hqs; clear hqs
          have hq : Q x y = !((G x).testBit y && !(x == y) && (G y).testBit x) := by rw [HQe.out, HGe.out, HGe.out]; rfl
          have Hq := hid hq; clear hq
          have HH := hid (HB.out x y wr (by omega))
          have KW := hid kw; clear kw
          cases hbit : (G x).testBit y
          · rw [hbit] at HH Hq
            clear hbit
            go_wp2_with fail
            refine HH.out.mono ?_; rintro e w' ⟨rfl, rfl⟩
            go_wp2_with fail
            go_roundw
            case rel => exact ⟨y + 1, by omega, by go_num, rfl, KW.out, nextQ HQ.out (by rw [Hq.out]; rfl)⟩
            case measure => simp [intOf]; omega
          · rw [hbit] at HH Hq
            clear hbit
            by_cases hxy : x = y
            · have hd : ((x : Int) != (y : Int)) = false := by simp [hxy]
              have hq1 : Q x y = true := by rw [Hq.out]; simp [hxy]
              have HQ1 := hid hq1; clear hq1 hxy
              go_wp2_with fail
              refine HH.out.mono ?_; rintro e w' ⟨rfl, rfl⟩
              go_wp2_with fail
              go_loopw [4, 9] (fun r z' wr' => ∃ z : Nat, z ≤ n ∧ z' = .int .i64 z ∧ r = .bool false ∧ Keeps w wr') (fun _ z' _ => n - (intOf z').toNat)
              case atStart => exact ⟨0, by omega, rfl, rfl, KW.out⟩
              case round =>
                obtain ⟨z, hz, rfl, rfl, kw⟩ := hrel
                clear KW HH
                by_cases hzt : z < n
                · have hzt' : (z : Int) < n := by omega
                  obtain ⟨_, _, e, h1⟩ := HR.out x wr kw hlt
                  cases e
                  have HH := hid (HB.out x z wr (by omega))
                  have KW := hid kw; clear kw
                  cases hbit : (G x).testBit z
                  · rw [hbit] at HH
                    clear hbit
                    go_wp2_with fail
                    refine HH.out.mono ?_; rintro e w' ⟨rfl, rfl⟩
                    go_wp2_with fail
                    go_roundw
                    case rel => exact ⟨z + 1, by omega, by go_num, rfl, KW.out⟩
                    case measure => simp [intOf]; omega
                  · rw [hbit] at HH
                    clear hbit
                    go_wp2_with fail
                    refine HH.out.mono ?_; rintro e w' ⟨rfl, rfl⟩
                    go_wp2_with fail
                    go_quiet (fail)
                    go_wp2_with fail
                    go_roundw
                    case rel => exact ⟨z + 1, by omega, by go_num, rfl, KW.out.drewN _⟩
                    case measure => simp [intOf]; omega
                · obtain rfl : z = n := by omega
                  have hzt' : ¬ (z : Int) < z := by omega
                  go_wp2_with fail
                  go_roundw
                  case rel => exact ⟨y + 1, by omega, by go_num, rfl, kw, nextQ HQ.out HQ1.out⟩
                  case measure => simp [intOf]; omega
            · have hd : ((x : Int) != (y : Int)) = true := by simp; omega
              have HH2 := hid (HB.out y x wr (by omega))
              cases hbit2 : (G y).testBit x
              · rw [hbit2] at HH2 Hq
                have hq1 : Q x y = true := by rw [Hq.out]; simp
                have HQ1 := hid hq1; clear hq1 hxy hbit2
                go_wp2_with fail
                refine HH.out.mono ?_; rintro e w' ⟨rfl, rfl⟩
                go_wp2_with fail
                refine HH2.out.mono ?_; rintro e w' ⟨rfl, rfl⟩
                go_wp2_with fail
                go_loopw [4, 9] (fun r z' wr' => ∃ z : Nat, z ≤ n ∧ z' = .int .i64 z ∧ r = .bool false ∧ Keeps w wr') (fun _ z' _ => n - (intOf z').toNat)
                case atStart => exact ⟨0, by omega, rfl, rfl, KW.out⟩
                case round =>
                  obtain ⟨z, hz, rfl, rfl, kw⟩ := hrel
                  clear KW HH
                  by_cases hzt : z < n
                  · have hzt' : (z : Int) < n := by omega
                    obtain ⟨_, _, e, h1⟩ := HR.out x wr kw hlt
                    cases e
                    have HH := hid (HB.out x z wr (by omega))
                    have KW := hid kw; clear kw
                    cases hbit : (G x).testBit z
                    · rw [hbit] at HH
                      clear hbit
                      go_wp2_with fail
                      refine HH.out.mono ?_; rintro e w' ⟨rfl, rfl⟩
                      go_wp2_with fail
                      go_roundw
                      case rel => exact ⟨z + 1, by omega, by go_num, rfl, KW.out⟩
                      case measure => simp [intOf]; omega
                    · rw [hbit] at HH
                      clear hbit
                      go_wp2_with fail
                      refine HH.out.mono ?_; rintro e w' ⟨rfl, rfl⟩
                      go_wp2_with fail
                      go_quiet (fail)
                      go_wp2_with fail
                      go_roundw
                      case rel => exact ⟨z + 1, by omega, by go_num, rfl, KW.out.drewN _⟩
                      case measure => simp [intOf]; omega
                  · obtain rfl : z = n := by omega
                    have hzt' : ¬ (z : Int) < z := by omega
                    go_wp2_with fail
                    go_roundw
                    case rel => exact ⟨y + 1, by omega, by go_num, rfl, kw, nextQ HQ.out HQ1.out⟩
                    case measure => simp [intOf]; omega
              · rw [hbit2] at HH2 Hq
                have hq1 : Q x y = false := by rw [Hq.out]; simp [hxy]
                have HQ1 := hid hq1; clear hq1 hxy hbit2
                go_wp2_with fail
                refine HH.out.mono ?_; rintro e w' ⟨rfl, rfl⟩
                go_wp2_with fail
                refine HH2.out.mono ?_; rintro e w' ⟨rfl, rfl⟩
                go_wp2_with fail
                go_ret
                refine ⟨ret_bool ?_, KW.out⟩
                rw [HP.out]
                refine (all_false (x := x) (by have := HN.out; omega) ?_).symm
                rw [← HPP.out]
                exact all_false (x := y) (by have := HN.out; omega) HQ1.out
        · obtain rfl : y = n := by omega
          have hyt' : ¬ (y : Int) < y := by omega
          go_wp2_with fail
          go_roundw
          case rel => exact ⟨x + 1, by omega, by go_num, rfl, nextQ HA.out (by rw [← HPP.out]; exact all_true (fun j hj => hqs j (by have := HN.out; omega))), kw⟩
          case measure => simp [intOf]; omega
    · obtain rfl : x = n := by omega
      have hlt' : ¬ (x : Int) < x := by omega
      go_wp2_with fail
      go_ret
      refine ⟨ret_bool ?_, kw⟩
      rw [HP.out]
      exact (all_true (fun j hj => HA.out j (by have := HN.out; omega))).symm
end Go.Proofs.YtponaoefpicfpaaGreatDoor
/- What is a poset: both sides. -/
namespace Go.Proofs.YtponaoefpicfpaaGreatDoor
open Go.RowKit
/-- a size and a list are a poset -/
def isPos (n : Int) (a : List Int) : Bool := inR n 0 8 && decide ((a.length : Int) = n) && a.all (isM a.length) && posB (a.map Int.toNat)
theorem zs_toNat (b : List Nat) : (zs b).map Int.toNat = b := by
  unfold zs
  rw [List.map_map]
  conv => rhs; rw [← List.map_id b]
  rfl
theorem isPos_iff (n : Int) (a : List Int) : isPos n a = true ↔ ∃ b : List Nat, a = zs b ∧ n = b.length ∧ b.length ≤ 8 ∧ Bnd b.length b ∧ posB b = true := by
  unfold isPos
  rw [Bool.and_eq_true, Bool.and_eq_true, Bool.and_eq_true, decide_eq_true_eq]
  constructor
  · rintro ⟨⟨⟨h1, h2⟩, h3⟩, h4⟩
    obtain ⟨b, rfl, hb⟩ := all_isM h3
    rw [zs_length] at *
    rw [zs_toNat] at h4
    simp [inR] at h1
    exact ⟨b, rfl, h2.symm, by omega, mem_bnd hb, h4⟩
  · rintro ⟨b, rfl, rfl, h8, hb, hp⟩
    rw [zs_length, zs_toNat]
    exact ⟨⟨⟨by simp [inR]; omega, rfl⟩, isM_all (bnd_mem hb)⟩, hp⟩
--
set_option maxRecDepth 20000 in
theorem frameOf_any (a : List Int) (v : Value) (w : World) (hv : Ints w v a) : Calls Tryz.prog 90 #[v] w fun e w' => e = .returned (.agg #[.int .i64 a.length, v]) ∧ Keeps w w' := by
  have HS := hid (fun w2 (k : Keeps w w2) => sizeI_any a v w2 (hv.keeps k))
  have kA := (Keeps.refl w).alloc (.cells #[.int .i64 0, .slice none 0 0] 109)
  obtain ⟨p, cap, rfl, _⟩ := hv
  go_enter Tryz.func90, Tryz.ntmps90
  go_wp2_with fail
  refine (HS.out _ kA).mono ?_; rintro e w2 ⟨rfl, rfl⟩
  go_wp2_with fail
  refine bodyPost_ret (v := .agg #[.int .i64 a.length, .slice p a.length cap]) (by simp [results, Tryz.results90, go_sem]) rfl ?_
  exact ⟨rfl, (Keeps.refl w).alloc _⟩
--
set_option maxRecDepth 20000 in
theorem frame_any (n : Int) (a : List Int) (v : Value) (w : World) (hv : Ints w v a) : Calls Tryz.prog 86 #[.agg #[.int .i64 n, v]] w fun e w' => e = .returned (.agg #[.int .i64 a.length, v]) ∧ Keeps w w' := by
  have kA := ((Keeps.refl w).alloc (.cells #[.int .i64 n, v] 32)).alloc (.cells #[.int .i64 0, .slice none 0 0] 109)
  have HF := hid (fun w2 (k : Keeps w w2) => frameOf_any a v w2 (hv.keeps k))
  obtain ⟨p, cap, rfl, _⟩ := hv
  go_enter Tryz.func86, Tryz.ntmps86
  go_wp2_with fail
  refine (HF.out _ kA).mono ?_; rintro e w2 ⟨rfl, k2⟩
  have e0 : w2.cell? ⟨w.heap.size + 1, 0, none⟩ = some (.int .i64 0) := k2.cell (by simp)
  have e1 : w2.cell? ⟨w.heap.size + 1, 1, none⟩ = some (.slice none 0 0) := k2.cell (by simp)
  obtain ⟨hc2, hf2⟩ := k2.both
  go_wp2_with fail
  refine bodyPost_ret (v := .agg #[.int .i64 a.length, .slice p a.length cap]) (by simp [results, Tryz.results86, go_sem, e0, e1]) rfl ?_
  exact ⟨rfl, ((kA.trans k2).setCell (by simp) _).setCell (by simp) _⟩
--
set_option maxRecDepth 20000 in
set_option maxHeartbeats 1000000 in
theorem isPoset_any (n : Int) (a : List Int) (v : Value) (w : World) (hv : Ints w v a) : Calls Tryz.prog 46 #[.agg #[.int .i64 n, v]] w fun e w' => e = .returned (.bool (isPos n a)) ∧ Keeps w w' := by
  have kA := (Keeps.refl w).alloc (.cells #[.int .i64 n, v] 32)
  have hc := BoxF.made w n v 32
  have HN := hid (fun w2 => inRange_any n 0 8 w2)
  have HS := hid (fun w2 (k : Keeps w w2) => sizeI_any a v w2 (hv.keeps k))
  have HR := hid (fun w2 (k : Keeps w w2) => isRelation_any a v w2 (hv.keeps k))
  have HF := hid (fun w2 (k : Keeps w w2) => frame_any n a v w2 (hv.keeps k))
  have H0 := hid (fun w2 b (e : a = zs b) (k : Keeps w w2) => hasFlag0_any b v w2 (e ▸ hv.keeps k))
  have H2 := hid (fun w2 b (e : a = zs b) (k : Keeps w w2) => hasFlag2_any b v w2 (e ▸ hv.keeps k))
  have H8 := hid (fun w2 b (e : a = zs b) (k : Keeps w w2) => hasFlag8_any b v w2 (e ▸ hv.keeps k))
  have HP : Hid (isPos n a = (inR n 0 8 && decide ((a.length : Int) = n) && a.all (isM a.length) && posB (a.map Int.toNat))) := hid rfl
  obtain ⟨c0, c1⟩ := hc
  obtain ⟨p, cap, rfl, _⟩ := hv
  cases h1 : inR n 0 8
  · rw [h1] at HN HP
    simp only [Bool.false_and] at HP
    clear h1
    go_enter Tryz.func46, Tryz.ntmps46
    go_wp2_with fail
    go_quiet (first | (go_at_call 114; refine quietS (HN.out _)))
    go_wp2_with fail
    go_ret
    exact ⟨by rw [HP.out]; rfl, kA.drewN _⟩
  · rw [h1] at HN HP
    have h8 : n ≤ 8 := by simp [inR] at h1; omega
    clear h1
    by_cases h2 : (a.length : Int) = n
    · have hd : ((a.length : Int) != n) = false := by simp [h2]
      rw [decide_eq_true h2] at HP
      have hl8 : a.length ≤ 8 := by omega
      replace HR := hid (fun w2 k => HR.out w2 k hl8)
      subst h2
      have kd0 := (Keeps.refl (w.alloc (.cells #[.int .i64 a.length, .slice p a.length cap] 32))).drew
      have kD := kA.drew
      have e0 := kd0.cell c0
      have e1 := kd0.cell c1
      cases h3 : a.all (isM a.length)
      · rw [h3] at HR HP
        simp only [Bool.true_and, Bool.false_and] at HP
        clear h3
        go_enter Tryz.func46, Tryz.ntmps46
        go_wp2_with fail
        go_region_held3 (fun w' => w'.cell? ⟨w.heap.size, 0, none⟩ = some (.int .i64 a.length) ∧ w'.cell? ⟨w.heap.size, 1, none⟩ = some (.slice p a.length cap)) (first | exact ⟨e0, e1⟩ | exact ⟨z0, z1⟩) (first | (go_at_call 114; refine (HN.out _).mono ?_; rintro e w' ⟨rfl, rfl⟩) | (go_at_call 72; refine (HS.out _ kD).mono ?_; rintro e w' ⟨rfl, rfl⟩) | (go_at_call 115; refine (HR.out _ kD).mono ?_; rintro e w2 ⟨rfl, k2⟩; have z0 := k2.cell e0; have z1 := k2.cell e1))
        go_wp2_with fail
        go_ret
        exact ⟨by rw [HP.out]; rfl, kD.trans k2⟩
      · rw [h3] at HR HP
        obtain ⟨b, rfl, hb⟩ := all_isM h3
        have hbm := mem_bnd hb
        clear h3 hb
        simp only [Bool.true_and, zs_toNat] at HP
        rw [zs_length] at *
        have H0' := hid (fun w2 k => H0.out w2 b rfl k hl8 hbm)
        have H2' := hid (fun w2 k => H2.out w2 b rfl k hl8 hbm)
        have H8' := hid (fun w2 k => H8.out w2 b rfl k hl8 hbm)
        have HQ : Hid (posB b = (reflB b && transB b && antiB b)) := hid rfl
        clear H0 H2 H8 hbm
        generalize reflB b = q0 at *
        generalize transB b = q2 at *
        generalize antiB b = q8 at *
        generalize b.length = m at *
        go_enter Tryz.func46, Tryz.ntmps46
        go_wp2_with fail
        go_region_held3 (fun w' => w'.cell? ⟨w.heap.size, 0, none⟩ = some (.int .i64 m) ∧ w'.cell? ⟨w.heap.size, 1, none⟩ = some (.slice p m cap)) (first | exact ⟨e0, e1⟩ | exact ⟨z0, z1⟩) (first | (go_at_call 114; refine (HN.out _).mono ?_; rintro e w' ⟨rfl, rfl⟩) | (go_at_call 72; refine (HS.out _ kD).mono ?_; rintro e w' ⟨rfl, rfl⟩) | (go_at_call 115; refine (HR.out _ kD).mono ?_; rintro e w2 ⟨rfl, k2⟩; have z0 := k2.cell e0; have z1 := k2.cell e1))
        have k2' := kD.trans k2
        clear e0 e1 c0 c1 HN HS HR
        go_wp2_with fail
        refine (HF.out _ k2').mono ?_; rintro e w3 ⟨rfl, k3⟩
        have k4 := (k2'.trans k3).alloc (.cells #[.int .i64 m, .slice p m cap] 109)
        have y0 : (w3.alloc (.cells #[.int .i64 m, .slice p m cap] 109)).cell? ⟨w3.heap.size, 0, none⟩ = some (.int .i64 m) := by simp
        have y1 : (w3.alloc (.cells #[.int .i64 m, .slice p m cap] 109)).cell? ⟨w3.heap.size, 1, none⟩ = some (.slice p m cap) := by simp
        clear z0 z1
        go_wp2_with fail
        refine (H0'.out _ k4).mono ?_; rintro e w4 ⟨rfl, k5⟩
        replace k4 := k4.trans k5
        replace y0 := k5.cell y0
        replace y1 := k5.cell y1
        cases q0
        · go_wp2_with fail
          go_ret
          exact ⟨by rw [HP.out, HQ.out]; rfl, k4⟩
        · go_wp2_with fail
          refine (H2'.out _ k4).mono ?_; rintro e w5 ⟨rfl, k6⟩
          replace k4 := k4.trans k6
          replace y0 := k6.cell y0
          replace y1 := k6.cell y1
          cases q2
          · go_wp2_with fail
            go_ret
            exact ⟨by rw [HP.out, HQ.out]; rfl, k4⟩
          · go_wp2_with fail
            refine (H8'.out _ k4).mono ?_; rintro e w6 ⟨rfl, k7⟩
            go_wp2_with fail
            go_ret
            exact ⟨by rw [HP.out, HQ.out]; cases q8 <;> rfl, k4.trans k7⟩
    · have hd : ((a.length : Int) != n) = true := by simp [h2]
      rw [decide_eq_false h2] at HP
      simp only [Bool.and_false, Bool.false_and] at HP
      clear h2
      go_enter Tryz.func46, Tryz.ntmps46
      go_wp2_with fail
      go_quiet (first | (go_at_call 114; refine quietS (HN.out _)) | (go_at_call 72; refine quietS (HS.out _ (kA.drewN _))))
      go_wp2_with fail
      go_ret
      exact ⟨by rw [HP.out]; rfl, kA.drewN _⟩
--
set_option maxRecDepth 20000 in
set_option maxHeartbeats 1000000 in
theorem l16Is_any (n : Int) (a : List Int) (v : Value) (w : World) (hv : Ints w v a) : Calls Tryz.prog 41 #[.agg #[.int .i64 n, v]] w fun e w' => e = .returned (.bool (isPos n a)) ∧ Keeps w w' := by
  have kA := (Keeps.refl w).alloc (.cells #[.int .i64 n, v] 32)
  have hc := BoxF.made w n v 32
  have HN := hid (fun w2 => l01In_any n 0 8 w2)
  have HR := hid (fun w2 m (hm : m ≤ 8) (k : Keeps w w2) => l01Masks_any m a v w2 hm (hv.keeps k))
  have H0 := hid (fun w2 b (e : a = zs b) (k : Keeps w w2) => l05Flag0_any b v w2 (e ▸ hv.keeps k))
  have H2 := hid (fun w2 b (e : a = zs b) (k : Keeps w w2) => l05Flag2_any b v w2 (e ▸ hv.keeps k))
  have H8 := hid (fun w2 b (e : a = zs b) (k : Keeps w w2) => l05Flag8_any b v w2 (e ▸ hv.keeps k))
  have HP : Hid (isPos n a = (inR n 0 8 && decide ((a.length : Int) = n) && a.all (isM a.length) && posB (a.map Int.toNat))) := hid rfl
  obtain ⟨c0, c1⟩ := hc
  obtain ⟨p, cap, rfl, _, hmx, _⟩ := hv
  unfold maxLen at hmx
  cases h1 : inR n 0 8
  · rw [h1] at HN HP
    simp only [Bool.false_and] at HP
    clear h1
    go_enter Tryz.func41, Tryz.ntmps41
    go_wp2_with fail
    refine (HN.out _).mono ?_; rintro e w2 ⟨rfl, rfl⟩
    go_wp2_with fail
    go_ret
    exact ⟨by rw [HP.out]; rfl, kA⟩
  · rw [h1] at HN HP
    have h8 : n ≤ 8 := by simp [inR] at h1; omega
    clear h1
    by_cases h2 : (a.length : Int) = n
    · have hd : ((a.length : Int) != n) = false := by simp [h2]
      rw [decide_eq_true h2] at HP
      have hl8 : a.length ≤ 8 := by omega
      replace HR := hid (fun w2 k => HR.out w2 a.length hl8 k)
      subst h2
      cases h3 : a.all (isM a.length)
      · rw [h3] at HR HP
        simp only [Bool.true_and, Bool.false_and] at HP
        clear h3
        go_enter Tryz.func41, Tryz.ntmps41
        go_wp2_with fail
        refine (HN.out _).mono ?_; rintro e w2 ⟨rfl, rfl⟩
        go_wp2_with fail
        refine (HR.out _ kA).mono ?_; rintro e w3 ⟨rfl, k3⟩
        go_wp2_with fail
        go_ret
        exact ⟨by rw [HP.out]; rfl, kA.trans k3⟩
      · rw [h3] at HR HP
        obtain ⟨b, rfl, hb⟩ := all_isM h3
        have hbm := mem_bnd hb
        clear h3 hb
        simp only [Bool.true_and, zs_toNat] at HP
        rw [zs_length] at *
        have H0' := hid (fun w2 k => H0.out w2 b rfl k hl8 hbm)
        have H2' := hid (fun w2 k => H2.out w2 b rfl k hl8 hbm)
        have H8' := hid (fun w2 k => H8.out w2 b rfl k hl8 hbm)
        have HQ : Hid (posB b = (reflB b && transB b && antiB b)) := hid rfl
        clear H0 H2 H8 hbm
        generalize reflB b = q0 at *
        generalize transB b = q2 at *
        generalize antiB b = q8 at *
        generalize b.length = m at *
        go_enter Tryz.func41, Tryz.ntmps41
        go_wp2_with fail
        refine (HN.out _).mono ?_; rintro e w2 ⟨rfl, rfl⟩
        go_wp2_with fail
        refine (HR.out _ kA).mono ?_; rintro e w3 ⟨rfl, k3⟩
        have z0 := k3.cell c0
        have z1 := k3.cell c1
        have k4 := (kA.trans k3).alloc (.cells #[.int .i64 m, .slice p m cap] 109)
        have y0 : (w3.alloc (.cells #[.int .i64 m, .slice p m cap] 109)).cell? ⟨w3.heap.size, 0, none⟩ = some (.int .i64 m) := by simp
        have y1 : (w3.alloc (.cells #[.int .i64 m, .slice p m cap] 109)).cell? ⟨w3.heap.size, 1, none⟩ = some (.slice p m cap) := by simp
        clear c0 c1 HN HR
        go_wp2_with fail
        refine (H0'.out _ k4).mono ?_; rintro e w4 ⟨rfl, k5⟩
        replace k4 := k4.trans k5
        replace y0 := k5.cell y0
        replace y1 := k5.cell y1
        clear z0 z1
        cases q0
        · go_wp2_with fail
          go_ret
          exact ⟨by rw [HP.out, HQ.out]; rfl, k4⟩
        · go_wp2_with fail
          refine (H2'.out _ k4).mono ?_; rintro e w5 ⟨rfl, k6⟩
          replace k4 := k4.trans k6
          replace y0 := k6.cell y0
          replace y1 := k6.cell y1
          cases q2
          · go_wp2_with fail
            go_ret
            exact ⟨by rw [HP.out, HQ.out]; rfl, k4⟩
          · go_wp2_with fail
            refine (H8'.out _ k4).mono ?_; rintro e w6 ⟨rfl, k7⟩
            go_wp2_with fail
            go_ret
            exact ⟨by rw [HP.out, HQ.out]; cases q8 <;> rfl, k4.trans k7⟩
    · have hd : ((a.length : Int) != n) = true := by simp [h2]
      rw [decide_eq_false h2] at HP
      simp only [Bool.and_false, Bool.false_and] at HP
      clear h2
      go_enter Tryz.func41, Tryz.ntmps41
      go_wp2_with fail
      refine (HN.out _).mono ?_; rintro e w2 ⟨rfl, rfl⟩
      go_wp2_with fail
      go_ret
      exact ⟨by rw [HP.out]; rfl, kA⟩
end Go.Proofs.YtponaoefpicfpaaGreatDoor
/- Walks: the laws' own comparisons and marks of number lists and posets. -/
namespace Go.Proofs.YtponaoefpicfpaaGreatDoor
open Go.RowKit

--
set_option maxHeartbeats 400000 in
theorem eqInt64S_any (a b : List Int) (va vb : Value) (w : World) (hva : Ints w va a) (hvb : Ints w vb b) :
    Calls Tryz.prog 50 #[va, vb] w fun e w' => e = .returned (.bool (decide (a = b))) ∧ Keeps w w' := by
  have hva0 := hva
  have hvb0 := hvb
  obtain ⟨pa, ca, rfl, hlea, hmxa, _, hlena⟩ := hva
  obtain ⟨pb, cb, rfl, hleb, hmxb, _, hlenb⟩ := hvb
  unfold maxLen at hmxa hmxb
  by_cases hl : a.length = b.length
  · have hl' : ((a.length : Int) != (b.length : Int)) = false := by simp [hl]
    have HL := hid hl; clear hl
    go_enter Tryz.func50, Tryz.ntmps50
    go_wp2
    go_loopw [4, 5] (fun r i' wr => ∃ k : Nat, k ≤ a.length ∧ a.take k = b.take k ∧ Keeps w wr ∧ i' = .int .i64 k ∧ r = .bool false) (fun _ i _ => a.length - (intOf i).toNat)
    case atStart => exact ⟨0, by omega, rfl, Keeps.refl w, rfl, rfl⟩
    case round =>
      obtain ⟨k, hk, htk, kw, rfl, rfl⟩ := hrel
      have HT := hid htk; clear htk
      clear hl'
      by_cases hlt : k < a.length
      · have hltb : k < b.length := by have := HL.out; omega
        obtain ⟨_, _, e1, _, _, hata, _⟩ := hva0.keeps kw
        obtain ⟨_, _, e2, _, _, hatb, _⟩ := hvb0.keeps kw
        cases e1; cases e2
        obtain ⟨b1, o1, rfl, h1⟩ := hata.int k hlt
        obtain ⟨b2, o2, rfl, h3⟩ := hatb.int k hltb
        clear hata hatb hva0 hvb0
        have hlt' : (k : Int) < a.length := by omega
        have hltb' : (k : Int) < b.length := by omega
        by_cases he : a[k] = b[k]
        · have hd : (a[k] != b[k]) = false := by simp [he]
          have HE := hid he; clear he
          go_wp2_with fail
          go_quiet (fail)
          go_wp2
          go_roundw
          case rel => exact ⟨k + 1, by omega, by rw [List.take_succ_eq_append_getElem hlt, List.take_succ_eq_append_getElem hltb, HT.out, HE.out], kw.drewN _, by go_num, rfl⟩
          case measure => simp [intOf]; omega
        · have hd : (a[k] != b[k]) = true := by simp [he]
          have HE := hid he; clear he
          go_wp2_with fail
          go_quiet (fail)
          go_wp2
          go_ret
          refine ⟨ret_bool ?_, kw.drewN _⟩
          symm; rw [decide_eq_false_iff_not]
          rintro rfl; exact HE.out rfl
      · go_wp2
        go_ret
        refine ⟨ret_bool ?_, kw⟩
        symm; rw [decide_eq_true_eq]
        have h1 := HL.out; have h2 := HT.out
        rw [List.take_of_length_le (by omega), List.take_of_length_le (by omega)] at h2
        exact h2
  · have hl' : ((a.length : Int) != (b.length : Int)) = true := by simp; omega
    have HL := hid hl; clear hl
    go_enter Tryz.func50, Tryz.ntmps50
    go_wp2
    go_ret
    refine ⟨ret_bool ?_, Keeps.refl _⟩
    symm; rw [decide_eq_false_iff_not]
    rintro rfl; exact HL.out rfl
--
/-- the marks of a list of numbers, counted from k on -/
def marksI : Nat → Int → List Int
  | 0, _ => []
  | n + 1, k => k :: marksI n (k + 1)
theorem marksI_length (n : Nat) : ∀ k, (marksI n k).length = n := by
  induction n with
  | zero => intro k; rfl
  | succ n ih => intro k; simp [marksI, ih]
theorem marksI_succ (n : Nat) : ∀ k, marksI (n + 1) k = marksI n k ++ [k + n] := by
  induction n with
  | zero => intro k; simp [marksI]
  | succ n ih =>
    intro k
    rw [marksI, ih (k + 1), marksI]
    simp; omega
theorem marksI_get (n : Nat) : ∀ (k : Int) (i : Nat) (h : i < (marksI n k).length), (marksI n k)[i] = k + i := by
  induction n with
  | zero => intro k i h; simp [marksI] at h
  | succ n ih =>
    intro k i h
    cases i with
    | zero => simp [marksI]
    | succ i =>
      have := ih (k + 1) i (by simpa [marksI] using h)
      simp only [marksI, List.getElem_cons_succ, this]
      simp; omega
set_option maxHeartbeats 1000000 in
theorem markInt64S_any (a : List Int) (v : Value) (k0 : Int) (w : World) (B : Nat) (hv : OwnI w B v a) (hl : a.length ≤ 2147483648) (hk0 : 0 ≤ k0) (hk1 : k0 ≤ 4294967296) :
    Calls Tryz.prog 51 #[v, .int .i64 k0] w fun e w' => e = .returned (.int .i64 (k0 + a.length)) ∧ OwnI w' B v (marksI a.length k0) ∧ w.grownBy w' v.ownBlock := by
  have hdist : a = [] ∨ 0 < a.length := by cases a with
    | nil => exact .inl rfl
    | cons x l => right; simp
  rcases hdist with rfl | hpos
  · obtain ⟨p, cap, rfl, _, _, _⟩ := At.of_own hv
    go_enter Tryz.func51, Tryz.ntmps51
    go_wp2
    refine wp_loop_once ?_
    go_wp2
    go_ret
    exact ⟨by simp, hv, grown_refl _ _⟩
  · obtain ⟨g, cap, rfl, hB, hg, hle, hmx⟩ := hv.shape hpos
    unfold maxLen at hmx
    go_enter Tryz.func51, Tryz.ntmps51
    go_wp2
    go_loopw [1, 5] (fun c i' wr => ∃ (k : Nat) (xs : List Int), k ≤ a.length ∧ i' = .int .i64 k ∧ c = .int .i64 (k0 + k) ∧ xs.length = a.length ∧ xs.take k = marksI k k0 ∧ OwnI wr B (.slice (some ⟨g, 0, none⟩) a.length cap) xs ∧ w.grownBy wr (some g)) (fun _ i _ => a.length - (intOf i).toNat)
    case atStart => exact ⟨0, a, by omega, rfl, by simp, rfl, by simp [marksI], hv, grown_refl _ _⟩
    case round =>
      obtain ⟨k, xs, hk, rfl, rfl, hxl, htk, hownk, hgr⟩ := hrel
      have HX := hid hxl; clear hxl
      have HT := hid htk; clear htk
      clear hv
      by_cases hlt : k < a.length
      · have hltx : k < xs.length := by have := HX.out; omega
        obtain ⟨c1, c3⟩ := hownk.cell k hltx
        have h3 := (hownk.store k hltx (k0 + k)).1
        have HO := hid hownk; clear hownk
        have H3 := hid h3; clear h3
        go_wp2
        go_roundw
        case rel =>
          refine ⟨k + 1, _, by omega, by go_num, by go_num, ?_, ?_, H3.out, ?_⟩
          · rw [List.length_set]; exact HX.out
          · rw [take_set _ _ _ hltx, marksI_succ, HT.out]
          · exact grown_trans hgr (grown_set _ _ _)
        case measure => simp [intOf]; omega
      · go_wp2
        go_ret
        obtain rfl : k = a.length := by omega
        have hx : xs = marksI a.length k0 := by
          have h1 := HX.out; have h2 := HT.out
          rw [List.take_of_length_le (by omega)] at h2
          exact h2
        subst hx
        exact ⟨rfl, hownk, hgr⟩
--
set_option maxHeartbeats 1000000 in
theorem heldInt64S_any (n : Nat) (v : Value) (k0 : Int) (w : World) (hv : Ints w v (marksI n k0)) (hk0 : 0 ≤ k0) (hk1 : k0 ≤ 4294967296) :
    Calls Tryz.prog 76 #[v, .int .i64 k0] w fun e w' => e = .returned (.int .i64 (k0 + n)) ∧ w = w' := by
  have hn : (marksI n k0).length = n := marksI_length n k0
  have hg := marksI_get n k0
  generalize marksI n k0 = a at *
  obtain ⟨p, cap, rfl, hle, hmx, hr, hlen⟩ := hv
  unfold maxLen at hmx
  have HN := hid hn; clear hn
  go_enter Tryz.func76, Tryz.ntmps76
  go_wp2
  go_loop [1, 4, 5] (fun c r i' => ∃ k : Nat, k ≤ a.length ∧ i' = .int .i64 k ∧ c = .int .i64 (k0 + k) ∧ r = .int .i64 0) (fun _ _ i => a.length - (intOf i).toNat)
  case atStart => exact ⟨0, by omega, rfl, by simp, rfl⟩
  case round =>
    obtain ⟨k, hk, rfl, rfl, rfl⟩ := hrel
    by_cases hlt : k < a.length
    · obtain ⟨b, off, rfl, h1⟩ := hr.int k hlt
      have h1' : w.cell? ⟨b, off + k, none⟩ = some (.int .i64 (k0 + k)) := by rw [h1, hg]
      clear hr h1 hg
      go_wp2
      go_round
      case rel => exact ⟨k + 1, by omega, by go_num, by go_num, rfl⟩
      case measure => simp [intOf]; omega
    · go_wp2
      go_ret
      exact ⟨ret_int (by have := HN.out; omega), rfl⟩
end Go.Proofs.YtponaoefpicfpaaGreatDoor
/- Walks: chains, forks and Medvedev's posets on both sides. -/
namespace Go.Proofs.YtponaoefpicfpaaGreatDoor
open Go.RowKit

def andNot (a b : Int) : Int := bits .andNot .i64 a b
def chainL (n : Nat) : Nat → List Int
  | 0 => []
  | k + 1 => chainL n k ++ [andNot (2 ^ n - 1) (2 ^ k - 1)]
theorem chainL_length (n k : Nat) : (chainL n k).length = k := by
  induction k with
  | zero => rfl
  | succ k ih => simp [chainL, ih]
--
set_option maxHeartbeats 1000000 in
theorem l30Chain_any (n : Nat) (w : World) (hn : n ≤ 8) : Calls Tryz.prog 130 #[.int .i64 n] w (RetP w (chainL n n)) := by
  have kA := (Keeps.refl w).alloc (.cells #[.int .i64 0, .slice none 0 0] 32)
  have hE := OwnI.empty (w.alloc (.cells #[.int .i64 0, .slice none 0 0] 32))
  have hlen := chainL_length n
  have HL := hid hlen; clear hlen
  go_enter Tryz.func130, Tryz.ntmps130
  go_wp2
  go_loopw [3, 4] (fun v x wr => ∃ k : Nat, k ≤ n ∧ x = .int .i64 k ∧ OwnI wr (w.heap.size + 1) v (chainL n k) ∧ Keeps (w.alloc (.cells #[.int .i64 0, .slice none 0 0] 32)) wr) (fun _ x _ => n - (intOf x).toNat)
  case atStart => exact ⟨0, by omega, rfl, by simpa [chainL] using hE, (Keeps.refl _).alloc _⟩
  case round =>
    obtain ⟨k, hk, rfl, hown, kw⟩ := hrel
    have hsz := kw.size
    simp at hsz
    have hlk : (chainL n k).length ≤ 8 := by have := HL.out k; omega
    by_cases hlt : k < n
    · have h1 := l01Full_any (n : Int) wr (by omega) (by omega)
      have h2 := l01Full_any (k : Int) wr (by omega) (by omega)
      simp only [Int.toNat_natCast] at h1 h2
      generalize hP : (2 : Int) ^ n - 1 = P at *
      generalize hR : (2 : Int) ^ k - 1 = R at *
      have hs : chainL n (k + 1) = chainL n k ++ [andNot P R] := by rw [← hP, ← hR]; rfl
      have HS := hid hs; clear hs
      have H1 := hid h1; clear h1
      have H2 := hid h2; clear h2
      clear hP hR hE kA
      go_wp2_with (first
        | (go_at_call 104; first | ((with_reducible refine H1.out.mono ?_); rintro e w' ⟨rfl, rfl⟩) | ((with_reducible refine H2.out.mono ?_); rintro e w' ⟨rfl, rfl⟩))
        | (at_builtin; refine appI rfl _ _ rfl (w.heap.size + 1) _ (chainL n k) rfl (hown.keeps ((Keeps.refl wr).alloc _)) _ [andNot P R] rfl (Ints.lit1 wr (andNot P R)) (by simp; omega) (by simp; omega) ?_; intro v1 w1 hv1 hg1 hr1; have k2 := (kw.alloc (.cells #[.int .i64 (andNot P R)] 2)).grown hg1 (by simpa using hr1)))
      go_roundw
      case rel => exact ⟨k + 1, by omega, by go_num, by rw [HS.out]; exact hv1, k2⟩
      case measure => simp [intOf]; omega
    · obtain rfl : k = n := by omega
      clear hE
      go_wp2_with fail
      refine (l16Make_any _ _ _ (hown.ints (by omega))).mono ?_
      rintro e w2 ⟨v2, rfl, hv2, k2⟩
      obtain ⟨p2, c2, rfl, _⟩ := hv2.ints (by omega)
      rw [HL.out] at *
      obtain ⟨hc2, hf2⟩ := (kw.trans k2).both
      have hB : w.heap.size < wr.heap.size := by omega
      go_wp2_with fail
      refine bodyPost_ret (v := .agg #[.int .i64 k, .slice p2 k c2]) (by simp [results, Tryz.results130, go_sem, hc2]) rfl ?_
      refine ⟨.slice p2 k c2, by rw [HL.out], ((hv2.setBelow hB _).setBelow hB _).mono (by omega), ((kA.trans (kw.trans k2)).setCell (Nat.le_refl _) _).setCell (Nat.le_refl _) _⟩
--
set_option maxHeartbeats 1000000 in
theorem chainOf_any (n : Nat) (w : World) (hn : n ≤ 8) : Calls Tryz.prog 149 #[.int .i64 n] w (RetP w (chainL n n)) := by
  have kA := (Keeps.refl w).alloc (.cells #[.int .i64 0, .slice none 0 0] 32)
  have hlen := chainL_length n
  have HL := hid hlen; clear hlen
  go_enter Tryz.func149, Tryz.ntmps149
  go_wp2
  go_loopw [3, 6] (fun v x wr => ∃ k : Nat, k ≤ n ∧ x = .int .i64 k ∧ OwnI wr (w.heap.size + 1) v (chainL n k) ∧ Keeps (w.alloc (.cells #[.int .i64 0, .slice none 0 0] 32)) wr) (fun _ x _ => n - (intOf x).toNat)
  case atStart => exact ⟨0, by omega, rfl, OwnI.nil _ _, Keeps.refl _⟩
  case round =>
    obtain ⟨k, hk, rfl, hown, kw⟩ := hrel
    have hsz := kw.size
    simp at hsz
    have hlk : (chainL n k).length ≤ 8 := by have := HL.out k; omega
    by_cases hlt : k < n
    · have hs : chainL n (k + 1) = chainL n k ++ [andNot (2 ^ n - 1) (2 ^ k - 1)] := rfl
      have HS := hid hs; clear hs
      have e1 : IntKind.i64.wrap (2 ^ n) = 2 ^ n := by
        have : ∀ j : Fin 63, IntKind.i64.wrap ((2 : Int) ^ (j : Nat)) = (2 : Int) ^ (j : Nat) := by decide +kernel
        exact this ⟨n, by omega⟩
      have e2 : IntKind.i64.wrap (2 ^ k) = 2 ^ k := by
        have : ∀ j : Fin 63, IntKind.i64.wrap ((2 : Int) ^ (j : Nat)) = (2 : Int) ^ (j : Nat) := by decide +kernel
        exact this ⟨k, by omega⟩
      have e3 : IntKind.i64.wrap (2 ^ n - 1) = 2 ^ n - 1 := by
        have : ∀ j : Fin 63, IntKind.i64.wrap ((2 : Int) ^ (j : Nat) - 1) = (2 : Int) ^ (j : Nat) - 1 := by decide +kernel
        exact this ⟨n, by omega⟩
      have e4 : IntKind.i64.wrap (2 ^ k - 1) = 2 ^ k - 1 := by
        have : ∀ j : Fin 63, IntKind.i64.wrap ((2 : Int) ^ (j : Nat) - 1) = (2 : Int) ^ (j : Nat) - 1 := by decide +kernel
        exact this ⟨k, by omega⟩
      clear kA
      go_wp2_with fail
      go_region_law (refine stepI rfl (.tmp 9) (.tmp 17) rfl (w.heap.size + 1) _ (chainL n k) rfl (by exact hown.keeps (by first | exact ((Keeps.refl wr).drew).alloc _ | exact ((Keeps.refl wr).alloc _).drew)) _ [andNot (2 ^ n - 1) (2 ^ k - 1)] rfl (by first | exact Ints.lit1 _ _ | exact (Ints.lit1 _ _).keeps ((Keeps.refl _).drew)) (by simp; omega) (by simp; omega) ?_; intro v1 w1 hv1 hg1 hr1)
      have k2 := (kw.drew.alloc (.cells #[.int .i64 (andNot (2 ^ n - 1) (2 ^ k - 1))] 2)).grown hg1 (by simpa using hr1)
      clear e1 e2 e3 e4
      go_wp2
      go_roundw
      case rel => exact ⟨k + 1, by omega, by go_num, by rw [HS.out]; exact hv1, k2⟩
      case measure => simp [intOf]; omega
    · obtain rfl : k = n := by omega
      go_wp2_with fail
      refine (posetOf_any _ _ _ (hown.ints (by omega))).mono ?_
      rintro e w2 ⟨rfl, k2⟩
      obtain ⟨p2, c2, rfl, _⟩ := hown.ints (by omega)
      have hv2 := hown.keeps k2
      rw [HL.out] at *
      obtain ⟨hc2, hf2⟩ := (kw.trans k2).both
      have hB : w.heap.size < wr.heap.size := by omega
      go_wp2_with fail
      refine bodyPost_ret (v := .agg #[.int .i64 k, .slice p2 k c2]) (by simp [results, Tryz.results149, go_sem, hc2]) rfl ?_
      refine ⟨.slice p2 k c2, by rw [HL.out], ((hv2.setBelow (by omega) _).setBelow (by omega) _).mono (by omega), ((kA.trans (kw.trans k2)).setCell (Nat.le_refl _) _).setCell (Nat.le_refl _) _⟩
end Go.Proofs.YtponaoefpicfpaaGreatDoor
