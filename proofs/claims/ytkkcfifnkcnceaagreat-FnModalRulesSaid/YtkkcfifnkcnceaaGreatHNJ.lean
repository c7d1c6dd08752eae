/- The reference's types: which are allowed. -/
import Derived.Test.YtkkcfifnkcnceaaGreatHNH
namespace Go.Proofs.YtkkcfifnkcnceaaGreat
open Go.RowKit
def alQ (E : List Fm) (m i : Nat) : Bool := !isMo (E.getD i .fls) || (!demB E i m || meeB E i m)
theorem alw_alQ (L : Nat) (E : List Fm) (m : Nat) : alwB L E m = (!(decide (L = 2 ∨ L = 4 ∨ L = 6)) || (List.range E.length).all (alQ E m)) := by
 unfold alwB
 rw [show alQ E m = fun i => !isMo (E.getD i .fls) || (!demB E i m || meeB E i m) from rfl, mods_all]
theorem al_no {E : List Fm} {m i : Nat} (hi : i < E.length) (h : alQ E m i = false) : (List.range E.length).all (alQ E m) = false := by
 rw [Bool.eq_false_iff]
 intro ha
 rw [List.all_eq_true] at ha
 rw [ha i (List.mem_range.2 hi)] at h
 cases h
theorem al_yes {E : List Fm} {m : Nat} (h : ∀ j, j < E.length → alQ E m j = true) : (List.range E.length).all (alQ E m) = true := List.all_eq_true.2 fun j hj => h j (List.mem_range.1 hj)
set_option maxRecDepth 20000 in
set_option maxHeartbeats 8000000 in
theorem l12Type_any (r L N : Nat) (E : List Fm) (M : Nat → Nat) (ss : List ByteArray) (m : Nat) (hm : m < N) (w : World) (h : SpR w r L N E M ss) :
  Calls Tryz.prog 121 #[.pointer (some ⟨r, 0, none⟩), .int .i64 m] w fun e w' => e = .returned (.bool (alwB L E m)) ∧ Keeps w w' := by
 have h8 := h.h8
 have hN := h.hN
 have hL := h.hL
 have HH := hid h
 have c0 := h.c0
 have HAW := hid (alw_alQ L E m)
 have HNO := hid (fun i (hi : i < E.length) (e : alQ E m i = false) => al_no hi e)
 have HYE := hid (fun h => al_yes (E := E) (m := m) h)
 have hMm := h.hM m hm
 have HB1 := hid (fun i (hi : i ≤ 8) wz => l01BitB_any m i wz (by omega) hi)
 have HB2 := hid (fun i (hi : i ≤ 8) wz => l01BitB_any (M m) i wz hMm hi)
 have HQ : Hid (∀ i, alQ E m i = (!isMo (E.getD i .fls) || (!(m.testBit i == bxB E i) || (innB E i m == bxB E i)))) := hid (fun i => rfl)
 have HB := hid (fun i hi hz => h.hb m hm i hi hz)
 obtain ⟨v1, c1, hv1⟩ := h.c1
 have hs := h.hs
 obtain ⟨p1, q1, rfl, hl1, hx1, _⟩ := hv1.shape
 unfold maxLen at hx1
 rw [hs] at c1 hl1
 have HT := hid hm
 clear h hs hv1 hm hMm
 generalize alwB L E m = R at *
 generalize alQ E m = aq at *
 by_cases hr : L = 2 ∨ L = 4 ∨ L = 6
 ·have HR := hid hr
  have HAR : Hid (R = (List.range E.length).all aq) := hid (by rw [HAW.out, decide_eq_true HR.out]; rfl)
  rcases hr with rfl | rfl | rfl
  all_goals
   simp only [lgS] at c0
   go_enter Tryz.func121, Tryz.ntmps121
   go_wp2_with fail
   go_loopw [4, 5] (fun o i' wr => ∃ i : Nat, i ≤ E.length ∧ i' = .int .i64 i ∧ o = .bool false ∧ (∀ j, j < i → aq j = true) ∧ w = wr) (fun _ i' _ => E.length - (intOf i').toNat)
   case atStart => exact ⟨0, by omega, rfl, rfl, fun j hj => by omega, rfl⟩
   case round =>
    obtain ⟨i, hi, rfl, rfl, hall, rfl⟩ := hrel
    have HAL := hid hall; clear hall
    by_cases hlt : i < E.length
    ·have hlt' : (i : Int) < E.length := by omega
     have hi8 : i ≤ 8 := by omega
     obtain ⟨b, o, n, c, c2, hn, hnc, hc, hk, hcase⟩ := HH.out.kind i hlt
     obtain ⟨b4, o4, n4, q4, c4, hn4, hnc4, hc4, hm4⟩ := HH.out.mask m HT.out
     have hin : (i : Int) < n := by omega
     have hit : (m : Int) < n4 := by have := HT.out; omega
     unfold maxLen at hc hc4
     have HBi := hid (HB.out i hlt)
     have HX := hid (HB1.out i hi8)
     have HY := hid (HB2.out i hi8)
     have HQi := hid (HQ.out i)
     have HNi := hid (HNO.out i hlt)
     clear hn hn4 hi8
     generalize innB E i m = s3 at *
     generalize bxB E i = x at *
     generalize isMo (E.getD i .fls) = z at *
     generalize (E.getD i .fls).kind = kd at *
     generalize m.testBit i = p at *
     generalize hs0 : (M m).testBit i = s at *
     have HE : Hid (z = true → s = s3) := hid (fun hz => by rw [← HBi.out hz])
     clear hs0
     rcases hcase with ⟨rfl, rfl⟩ | ⟨rfl, rfl, rfl⟩ | ⟨rfl, rfl, rfl⟩
     ·go_wp2_with fail
      go_roundw
      case rel => exact ⟨i + 1, by omega, by go_num, rfl, fun j hj => by rcases Nat.lt_succ_iff_lt_or_eq.1 hj with h3 | rfl; exact HAL.out j h3; rw [HQi.out]; rfl, by trivial⟩
      case measure => simp [intOf]; omega
     all_goals
      obtain rfl := HE.out rfl
      clear HE HBi
      cases p <;> cases s
     all_goals
      go_wp2_with fail
      refine (HX.out _).mono ?_; rintro e w2 ⟨rfl, rfl⟩
      go_wp2_with fail
      first
       | (go_roundw
          case rel => exact ⟨i + 1, by omega, by go_num, rfl, fun j hj => by rcases Nat.lt_succ_iff_lt_or_eq.1 hj with h3 | rfl; exact HAL.out j h3; rw [HQi.out]; rfl, by trivial⟩
          case measure => simp [intOf]; omega)
       | (refine (HY.out _).mono ?_; rintro e w3 ⟨rfl, rfl⟩
          go_wp2_with fail
          first
           | (go_roundw
              case rel => exact ⟨i + 1, by omega, by go_num, rfl, fun j hj => by rcases Nat.lt_succ_iff_lt_or_eq.1 hj with h3 | rfl; exact HAL.out j h3; rw [HQi.out]; rfl, by trivial⟩
              case measure => simp [intOf]; omega)
           | (go_ret
              exact ⟨ret_bool (by rw [HAR.out, HNi.out (by rw [HQi.out]; rfl)]), Keeps.refl _⟩))
    ·have hlt' : ¬ (i : Int) < E.length := by omega
     obtain rfl : i = E.length := by omega
     have HR2 := hid (HYE.out HAL.out)
     go_wp2_with fail
     go_ret
     exact ⟨ret_bool (by rw [HAR.out, HR2.out]), Keeps.refl _⟩
 ·have HAR : Hid (R = true) := hid (by rw [HAW.out, decide_eq_false hr]; rfl)
  have h8' : L = 0 ∨ L = 1 ∨ L = 3 ∨ L = 5 ∨ L = 7 := by omega
  clear hr
  rcases h8' with rfl | rfl | rfl | rfl | rfl
  all_goals
   simp only [lgS] at c0
   go_enter Tryz.func121, Tryz.ntmps121
   go_wp2_with fail
   go_ret
   exact ⟨ret_bool (by rw [HAR.out]), Keeps.refl _⟩
end Go.Proofs.YtkkcfifnkcnceaaGreat
