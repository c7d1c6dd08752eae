/- The reference's l05Flag: antisymmetric frames. -/
import Derived.Test.YtolepbiepebclaaQE0
namespace Go.Proofs.Ytolepbiepebclaa
open Go.RowKit
--
set_option maxRecDepth 20000 in
set_option maxHeartbeats 4000000 in
theorem l05Flag8_any (b : List Nat) (v : Value) (w : World) (hv : Ints w v (zs b)) (hb : b.length ≤ 8) (hbm : Bnd b.length b) :
    Calls Try.prog 35 #[.agg #[.int .i64 b.length, v], .int .i64 8] w fun e w' => e = .returned (.bool (antiB b)) ∧ Keeps w w' := by
  have hv0 := hv
  obtain ⟨p, cap, rfl, hle, hmx, hat0, hlen⟩ := hv
  clear hat0
  unfold maxLen at hmx
  rw [zs_length] at *
  have h256 := two8 hb
  have kA := (Keeps.refl w).alloc (.cells #[.int .i64 b.length, .slice p b.length cap] 27)
  have HB := hid (fun i j w2 (hj : j ≤ 8) => l01BitB_any (b.getD i 0) j w2 (Nat.lt_of_lt_of_le (hbm i) h256) hj)
  have HP : Hid (antiB b = (List.range b.length).all (fun x => (List.range b.length).all fun y => antiQ b x y)) := hid rfl
  obtain ⟨G, hGe⟩ : ∃ G : Nat → Nat, ∀ i, G i = b.getD i 0 := ⟨fun i => b.getD i 0, fun _ => rfl⟩
  simp only [← hGe] at HB
  obtain ⟨Q, hQe⟩ : ∃ Q : Nat → Nat → Bool, ∀ i j, Q i j = antiQ b i j := ⟨fun i j => antiQ b i j, fun _ _ => rfl⟩
  simp only [← hQe] at HP
  generalize hn : b.length = n at hle hmx hlen hb kA hv0 ⊢
  generalize hP : (fun x => (List.range b.length).all fun y => Q x y) = P at HP
  have HGe := hid hGe; clear hGe
  have HQe := hid hQe; clear hQe
  have HPP := hid hP; clear hP
  have HV0 := hid hv0; clear hv0
  have HN := hid hn; clear hn
  clear h256 hbm
  go_enter Try.func35, Try.ntmps35
  go_wp2_with fail
  go_quiet (fail)
  go_wp2
  go_loopw [4, 7] (fun r x' wr => ∃ x : Nat, x ≤ n ∧ x' = .int .i64 x ∧ r = .bool false ∧ (∀ j, j < x → P j = true) ∧ Keeps w wr) (fun _ x' _ => n - (intOf x').toNat)
  case atStart => exact ⟨0, by omega, rfl, rfl, fun j h => by omega, kA.drewN _⟩
  case round =>
    obtain ⟨x, hx, rfl, rfl, hall, kw⟩ := hrel
    have HA := hid hall; clear hall
    by_cases hlt : x < n
    · have hlt' : (x : Int) < n := by omega
      have hread : ∀ (j : Nat) (wq : World), Keeps w wq → j < n → ∃ b1 o1, p = some ⟨b1, o1, none⟩ ∧ wq.cell? ⟨b1, o1 + j, none⟩ = some (.int .i64 (G j : Nat)) := by
        intro j wq kq hj
        obtain ⟨_, _, e1, _, _, hat, _⟩ := HV0.out.keeps kq
        rw [zs_length, HN.out] at e1
        cases e1
        obtain ⟨b1, o1, e, h1⟩ := hat.int j (by rw [zs_length, HN.out]; omega)
        rw [zs_get, ← getD_get, ← HGe.out] at h1
        exact ⟨b1, o1, e, h1⟩
      have HR := hid hread; clear hread
      obtain ⟨b1, o1, rfl, h1⟩ := HR.out x wr kw hlt
      have KW := hid kw; clear kw
      go_wp2_with fail
      go_loopw [4, 8] (fun r y' wr' => ∃ y : Nat, y ≤ n ∧ y' = .int .i64 y ∧ r = .bool false ∧ Keeps w wr' ∧ (∀ j, j < y → Q x j = true)) (fun _ y' _ => n - (intOf y').toNat)
      case atStart => exact ⟨0, by omega, rfl, rfl, KW.out, fun j h => by omega⟩
      case round =>
        obtain ⟨y, hy, rfl, rfl, kw, hqs⟩ := hrel
        clear KW
        by_cases hyt : y < n
        · have hyt' : (y : Int) < n := by omega
          obtain ⟨_, _, e, h1⟩ := HR.out x wr kw hlt
          cases e
          obtain ⟨_, _, e, h2⟩ := HR.out y wr kw hyt
          cases e
          have HQ := hid hqs; clear hqs
          have hq : Q x y = !((G x).testBit y && !(x == y) && (G y).testBit x) := by rw [HQe.out, HGe.out, HGe.out]; rfl
          have Hq := hid hq; clear hq
          have HH := hid (HB.out x y wr (by omega))
          have KW := hid kw; clear kw
          cases hbit : (G x).testBit y
          · rw [hbit] at HH Hq
            clear hbit
            go_wp2_with fail
            refine HH.out.mono ?_; rintro e w' ⟨rfl, rfl⟩
            go_wp2_with fail
            go_roundw
            case rel => exact ⟨y + 1, by omega, by go_num, rfl, KW.out, nextQ HQ.out (by rw [Hq.out]; rfl)⟩
            case measure => simp [intOf]; omega
          · rw [hbit] at HH Hq
            clear hbit
            by_cases hxy : x = y
            · have hd : ((x : Int) != (y : Int)) = false := by simp [hxy]
              have hq1 : Q x y = true := by rw [Hq.out]; simp [hxy]
              have HQ1 := hid hq1; clear hq1 hxy
              go_wp2_with fail
              refine HH.out.mono ?_; rintro e w' ⟨rfl, rfl⟩
              go_wp2_with fail
              go_loopw [4, 9] (fun r z' wr' => ∃ z : Nat, z ≤ n ∧ z' = .int .i64 z ∧ r = .bool false ∧ Keeps w wr') (fun _ z' _ => n - (intOf z').toNat)
              case atStart => exact ⟨0, by omega, rfl, rfl, KW.out⟩
              case round =>
                obtain ⟨z, hz, rfl, rfl, kw⟩ := hrel
                clear KW HH
                by_cases hzt : z < n
                · have hzt' : (z : Int) < n := by omega
                  obtain ⟨_, _, e, h1⟩ := HR.out x wr kw hlt
                  cases e
                  have HH := hid (HB.out x z wr (by omega))
                  have KW := hid kw; clear kw
                  cases hbit : (G x).testBit z
                  · rw [hbit] at HH
                    clear hbit
                    go_wp2_with fail
                    refine HH.out.mono ?_; rintro e w' ⟨rfl, rfl⟩
                    go_wp2_with fail
                    go_roundw
                    case rel => exact ⟨z + 1, by omega, by go_num, rfl, KW.out⟩
                    case measure => simp [intOf]; omega
                  · rw [hbit] at HH
                    clear hbit
                    go_wp2_with fail
                    refine HH.out.mono ?_; rintro e w' ⟨rfl, rfl⟩
                    go_wp2_with fail
                    go_quiet (fail)
                    go_wp2_with fail
                    go_roundw
                    case rel => exact ⟨z + 1, by omega, by go_num, rfl, KW.out.drewN _⟩
                    case measure => simp [intOf]; omega
                · obtain rfl : z = n := by omega
                  have hzt' : ¬ (z : Int) < z := by omega
                  go_wp2_with fail
                  go_roundw
                  case rel => exact ⟨y + 1, by omega, by go_num, rfl, kw, nextQ HQ.out HQ1.out⟩
                  case measure => simp [intOf]; omega
            · have hd : ((x : Int) != (y : Int)) = true := by simp; omega
              have HH2 := hid (HB.out y x wr (by omega))
              cases hbit2 : (G y).testBit x
              · rw [hbit2] at HH2 Hq
                have hq1 : Q x y = true := by rw [Hq.out]; simp
                have HQ1 := hid hq1; clear hq1 hxy hbit2
                go_wp2_with fail
                refine HH.out.mono ?_; rintro e w' ⟨rfl, rfl⟩
                go_wp2_with fail
                refine HH2.out.mono ?_; rintro e w' ⟨rfl, rfl⟩
                go_wp2_with fail
                go_loopw [4, 9] (fun r z' wr' => ∃ z : Nat, z ≤ n ∧ z' = .int .i64 z ∧ r = .bool false ∧ Keeps w wr') (fun _ z' _ => n - (intOf z').toNat)
                case atStart => exact ⟨0, by omega, rfl, rfl, KW.out⟩
                case round =>
                  obtain ⟨z, hz, rfl, rfl, kw⟩ := hrel
                  clear KW HH
                  by_cases hzt : z < n
                  · have hzt' : (z : Int) < n := by omega
                    obtain ⟨_, _, e, h1⟩ := HR.out x wr kw hlt
                    cases e
                    have HH := hid (HB.out x z wr (by omega))
                    have KW := hid kw; clear kw
                    cases hbit : (G x).testBit z
                    · rw [hbit] at HH
                      clear hbit
                      go_wp2_with fail
                      refine HH.out.mono ?_; rintro e w' ⟨rfl, rfl⟩
                      go_wp2_with fail
                      go_roundw
                      case rel => exact ⟨z + 1, by omega, by go_num, rfl, KW.out⟩
                      case measure => simp [intOf]; omega
                    · rw [hbit] at HH
                      clear hbit
                      go_wp2_with fail
                      refine HH.out.mono ?_; rintro e w' ⟨rfl, rfl⟩
                      go_wp2_with fail
                      go_quiet (fail)
                      go_wp2_with fail
                      go_roundw
                      case rel => exact ⟨z + 1, by omega, by go_num, rfl, KW.out.drewN _⟩
                      case measure => simp [intOf]; omega
                  · obtain rfl : z = n := by omega
                    have hzt' : ¬ (z : Int) < z := by omega
                    go_wp2_with fail
                    go_roundw
                    case rel => exact ⟨y + 1, by omega, by go_num, rfl, kw, nextQ HQ.out HQ1.out⟩
                    case measure => simp [intOf]; omega
              · rw [hbit2] at HH2 Hq
                have hq1 : Q x y = false := by rw [Hq.out]; simp [hxy]
                have HQ1 := hid hq1; clear hq1 hxy hbit2
                go_wp2_with fail
                refine HH.out.mono ?_; rintro e w' ⟨rfl, rfl⟩
                go_wp2_with fail
                refine HH2.out.mono ?_; rintro e w' ⟨rfl, rfl⟩
                go_wp2_with fail
                go_ret
                refine ⟨ret_bool ?_, KW.out⟩
                rw [HP.out]
                refine (all_false (x := x) (by have := HN.out; omega) ?_).symm
                rw [← HPP.out]
                exact all_false (x := y) (by have := HN.out; omega) HQ1.out
        · obtain rfl : y = n := by omega
          have hyt' : ¬ (y : Int) < y := by omega
          go_wp2_with fail
          go_roundw
          case rel => exact ⟨x + 1, by omega, by go_num, rfl, nextQ HA.out (by rw [← HPP.out]; exact all_true (fun j hj => hqs j (by have := HN.out; omega))), kw⟩
          case measure => simp [intOf]; omega
    · obtain rfl : x = n := by omega
      have hlt' : ¬ (x : Int) < x := by omega
      go_wp2_with fail
      go_ret
      refine ⟨ret_bool ?_, kw⟩
      rw [HP.out]
      exact (all_true (fun j hj => HA.out j (by have := HN.out; omega))).symm
end Go.Proofs.Ytolepbiepebclaa
