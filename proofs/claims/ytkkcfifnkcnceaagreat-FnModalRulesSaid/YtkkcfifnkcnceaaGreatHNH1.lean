/- The reference's types: one test, logic 0 (printed by mkone.py). -/
import Derived.Test.YtkkcfifnkcnceaaGreatHNH
namespace Go.Proofs.YtkkcfifnkcnceaaGreat
open Go.RowKit
set_option maxRecDepth 20000 in
set_option maxHeartbeats 16000000 in
theorem l12One_0 (r N : Nat) (E : List Fm) (M : Nat → Nat) (ss : List ByteArray) (f t : Nat) (hf : f < N) (ht : t < N) (w : World) (h : SpR w r 0 N E M ss) :
  Calls Tryz.prog 197 #[.pointer (some ⟨r, 0, none⟩), .int .i64 f, .int .i64 t] w fun e w' => e = .returned (.bool (oneB 0 E f t)) ∧ Keeps w w' := by
 have h8 := h.h8
 have hN := h.hN
 have HN := hid (fun i (hi : i < E.length) (e : oneQ 0 E f t i = false) => one_no hi e)
 have HY := hid (fun h => one_yes (L := 0) (E := E) (f := f) (t := t) h)
 have HH := hid h
 have HA := hid (fun i => any_snoc (frQ E f t) i)
 have hMt := h.hM t ht
 have HBF := hid (fun i (hi : i ≤ 8) wz => l01BitB_any f i wz (by omega) hi)
 have HBT := hid (fun i (hi : i ≤ 8) wz => l01BitB_any t i wz (by omega) hi)
 have HBM := hid (fun i (hi : i ≤ 8) wz => l01BitB_any (M t) i wz hMt hi)
 have HQ : Hid (∀ i, oneQ 0 E f t i = (!isMo (E.getD i .fls) || (if (0 : Nat) = 6 then (f.testBit i == bxB E i) == (t.testBit i == bxB E i) else (!(f.testBit i == bxB E i) || (if (0 : Nat) = 3 ∨ (0 : Nat) = 5 then (innB E i t == bxB E i) && (t.testBit i == bxB E i) else if (0 : Nat) = 4 then (t.testBit i == bxB E i) else (innB E i t == bxB E i)))))) := hid (fun i => rfl)
 have HF : Hid (∀ i, frQ E f t i = (isMo (E.getD i .fls) && ((t.testBit i == bxB E i) && !(f.testBit i == bxB E i)))) := hid (fun i => rfl)
 have HB := hid (fun i hi hm => h.hb t ht i hi hm)
 obtain ⟨v1, c1, hv1⟩ := h.c1
 have hs := h.hs
 obtain ⟨p1, q1, rfl, hl1, hx1, _⟩ := hv1.shape
 unfold maxLen at hx1
 rw [hs] at c1 hl1
 have HT := hid ht
 clear h hs hv1 hf ht hMt
 generalize oneB 0 E f t = R at *
 generalize oneQ 0 E f t = oq at *
 generalize frQ E f t = fq at *
 go_enter Tryz.func197, Tryz.ntmps197
 go_wp2_with fail
 go_loopw [6, 7, 8] (fun o fr i' wr => ∃ i : Nat, i ≤ E.length ∧ i' = .int .i64 i ∧ o = .bool false ∧ fr = .bool ((List.range i).any fq) ∧ (∀ j, j < i → oq j = true) ∧ Keeps w wr) (fun _ _ i' _ => E.length - (intOf i').toNat)
 case atStart => exact ⟨0, by omega, rfl, rfl, by simp, fun j hj => by omega, Keeps.refl w⟩
 case round =>
  obtain ⟨i, hi, rfl, rfl, rfl, hall, kw⟩ := hrel
  have HAL := hid hall; clear hall
  have hS := HH.out.keeps kw
  have d0 := hS.c0
  simp only [lgS] at d0
  have d1 := kw.cell c1
  by_cases hlt : i < E.length
  ·have hlt' : (i : Int) < E.length := by omega
   have hi8 : i ≤ 8 := by omega
   obtain ⟨b, o, n, c, c2, hn, hnc, hc, hk, hcase⟩ := hS.kind i hlt
   obtain ⟨b4, o4, n4, q4, c4, hn4, hnc4, hc4, hm4⟩ := hS.mask t HT.out
   have hin : (i : Int) < n := by omega
   have hit : (t : Int) < n4 := by have := HT.out; omega
   unfold maxLen at hc hc4
   have HB1 := hid (HBF.out i hi8)
   have HB2 := hid (HBT.out i hi8)
   have HB3 := hid (HBM.out i hi8)
   have HQi := hid (HQ.out i)
   have HFi := hid (HF.out i)
   have HBi := hid (HB.out i hlt)
   have HAi := hid (HA.out i)
   have HNi := hid (HN.out i hlt)
   clear hS hn hn4 hi8
   generalize innB E i t = s3 at *
   generalize bxB E i = x at *
   generalize isMo (E.getD i .fls) = z at *
   generalize (E.getD i .fls).kind = kd at *
   generalize f.testBit i = p at *
   generalize t.testBit i = q at *
   generalize hs0 : (M t).testBit i = s at *
   generalize (List.range i).any fq = fr at *
   have HE : Hid (z = true → s = s3) := hid (fun hz => by rw [← HBi.out hz])
   clear hs0
   rcases hcase with ⟨rfl, rfl⟩ | ⟨rfl, rfl, rfl⟩ | ⟨rfl, rfl, rfl⟩
   ·go_wp2_with fail
    go_roundw
    case rel => exact ⟨i + 1, by omega, by go_num, rfl, by rw [HAi.out, HFi.out]; simp, fun j hj => by rcases Nat.lt_succ_iff_lt_or_eq.1 hj with h3 | rfl; exact HAL.out j h3; rw [HQi.out]; rfl, kw⟩
    case measure => simp [intOf]; omega
   all_goals
    obtain rfl := HE.out rfl
    clear HE HBi
    go_wp2_with fail
    go_quiet (first | (go_at_call 156; first | (with_reducible refine quietS (HB1.out _)) | (with_reducible refine quietS (HB2.out _)) | (with_reducible refine quietS (HB3.out _))))
    clear c2 hk c4 hm4 c1 d1
    cases p <;> cases q <;> cases s <;> cases fr
   all_goals
    go_wp2_with fail
    first
     | (go_roundw
        case rel => exact ⟨i + 1, by omega, by go_num, rfl, by rw [HAi.out, HFi.out]; rfl, fun j hj => by rcases Nat.lt_succ_iff_lt_or_eq.1 hj with h3 | rfl; exact HAL.out j h3; rw [HQi.out]; rfl, kw.drewN _⟩
        case measure => simp [intOf]; omega)
     | (go_ret
        exact ⟨ret_bool (by rw [HNi.out (by rw [HQi.out]; rfl)]), kw.drewN _⟩)
  ·have hlt' : ¬ (i : Int) < E.length := by omega
   obtain rfl : i = E.length := by omega
   have HR := hid (HY.out HAL.out)
   clear hS
   generalize (List.range E.length).any fq = fr at *
   cases fr
   ·go_wp2_with fail
    go_ret
    exact ⟨ret_bool (by rw [HR.out]; rfl), kw⟩
   ·go_wp2_with fail
    go_ret
    exact ⟨ret_bool (by rw [HR.out]; rfl), kw⟩
end Go.Proofs.YtkkcfifnkcnceaaGreat
namespace Go.Proofs.YtkkcfifnkcnceaaGreat
open Go.RowKit
set_option maxRecDepth 20000 in
set_option maxHeartbeats 16000000 in
theorem l12One_1 (r N : Nat) (E : List Fm) (M : Nat → Nat) (ss : List ByteArray) (f t : Nat) (hf : f < N) (ht : t < N) (w : World) (h : SpR w r 1 N E M ss) :
  Calls Tryz.prog 197 #[.pointer (some ⟨r, 0, none⟩), .int .i64 f, .int .i64 t] w fun e w' => e = .returned (.bool (oneB 1 E f t)) ∧ Keeps w w' := by
 have h8 := h.h8
 have hN := h.hN
 have HN := hid (fun i (hi : i < E.length) (e : oneQ 1 E f t i = false) => one_no hi e)
 have HY := hid (fun h => one_yes (L := 1) (E := E) (f := f) (t := t) h)
 have HH := hid h
 have HA := hid (fun i => any_snoc (frQ E f t) i)
 have hMt := h.hM t ht
 have HBF := hid (fun i (hi : i ≤ 8) wz => l01BitB_any f i wz (by omega) hi)
 have HBT := hid (fun i (hi : i ≤ 8) wz => l01BitB_any t i wz (by omega) hi)
 have HBM := hid (fun i (hi : i ≤ 8) wz => l01BitB_any (M t) i wz hMt hi)
 have HQ : Hid (∀ i, oneQ 1 E f t i = (!isMo (E.getD i .fls) || (if (1 : Nat) = 6 then (f.testBit i == bxB E i) == (t.testBit i == bxB E i) else (!(f.testBit i == bxB E i) || (if (1 : Nat) = 3 ∨ (1 : Nat) = 5 then (innB E i t == bxB E i) && (t.testBit i == bxB E i) else if (1 : Nat) = 4 then (t.testBit i == bxB E i) else (innB E i t == bxB E i)))))) := hid (fun i => rfl)
 have HF : Hid (∀ i, frQ E f t i = (isMo (E.getD i .fls) && ((t.testBit i == bxB E i) && !(f.testBit i == bxB E i)))) := hid (fun i => rfl)
 have HB := hid (fun i hi hm => h.hb t ht i hi hm)
 obtain ⟨v1, c1, hv1⟩ := h.c1
 have hs := h.hs
 obtain ⟨p1, q1, rfl, hl1, hx1, _⟩ := hv1.shape
 unfold maxLen at hx1
 rw [hs] at c1 hl1
 have HT := hid ht
 clear h hs hv1 hf ht hMt
 generalize oneB 1 E f t = R at *
 generalize oneQ 1 E f t = oq at *
 generalize frQ E f t = fq at *
 go_enter Tryz.func197, Tryz.ntmps197
 go_wp2_with fail
 go_loopw [6, 7, 8] (fun o fr i' wr => ∃ i : Nat, i ≤ E.length ∧ i' = .int .i64 i ∧ o = .bool false ∧ fr = .bool ((List.range i).any fq) ∧ (∀ j, j < i → oq j = true) ∧ Keeps w wr) (fun _ _ i' _ => E.length - (intOf i').toNat)
 case atStart => exact ⟨0, by omega, rfl, rfl, by simp, fun j hj => by omega, Keeps.refl w⟩
 case round =>
  obtain ⟨i, hi, rfl, rfl, rfl, hall, kw⟩ := hrel
  have HAL := hid hall; clear hall
  have hS := HH.out.keeps kw
  have d0 := hS.c0
  simp only [lgS] at d0
  have d1 := kw.cell c1
  by_cases hlt : i < E.length
  ·have hlt' : (i : Int) < E.length := by omega
   have hi8 : i ≤ 8 := by omega
   obtain ⟨b, o, n, c, c2, hn, hnc, hc, hk, hcase⟩ := hS.kind i hlt
   obtain ⟨b4, o4, n4, q4, c4, hn4, hnc4, hc4, hm4⟩ := hS.mask t HT.out
   have hin : (i : Int) < n := by omega
   have hit : (t : Int) < n4 := by have := HT.out; omega
   unfold maxLen at hc hc4
   have HB1 := hid (HBF.out i hi8)
   have HB2 := hid (HBT.out i hi8)
   have HB3 := hid (HBM.out i hi8)
   have HQi := hid (HQ.out i)
   have HFi := hid (HF.out i)
   have HBi := hid (HB.out i hlt)
   have HAi := hid (HA.out i)
   have HNi := hid (HN.out i hlt)
   clear hS hn hn4 hi8
   generalize innB E i t = s3 at *
   generalize bxB E i = x at *
   generalize isMo (E.getD i .fls) = z at *
   generalize (E.getD i .fls).kind = kd at *
   generalize f.testBit i = p at *
   generalize t.testBit i = q at *
   generalize hs0 : (M t).testBit i = s at *
   generalize (List.range i).any fq = fr at *
   have HE : Hid (z = true → s = s3) := hid (fun hz => by rw [← HBi.out hz])
   clear hs0
   rcases hcase with ⟨rfl, rfl⟩ | ⟨rfl, rfl, rfl⟩ | ⟨rfl, rfl, rfl⟩
   ·go_wp2_with fail
    go_roundw
    case rel => exact ⟨i + 1, by omega, by go_num, rfl, by rw [HAi.out, HFi.out]; simp, fun j hj => by rcases Nat.lt_succ_iff_lt_or_eq.1 hj with h3 | rfl; exact HAL.out j h3; rw [HQi.out]; rfl, kw⟩
    case measure => simp [intOf]; omega
   all_goals
    obtain rfl := HE.out rfl
    clear HE HBi
    go_wp2_with fail
    go_quiet (first | (go_at_call 156; first | (with_reducible refine quietS (HB1.out _)) | (with_reducible refine quietS (HB2.out _)) | (with_reducible refine quietS (HB3.out _))))
    clear c2 hk c4 hm4 c1 d1
    cases p <;> cases q <;> cases s <;> cases fr
   all_goals
    go_wp2_with fail
    first
     | (go_roundw
        case rel => exact ⟨i + 1, by omega, by go_num, rfl, by rw [HAi.out, HFi.out]; rfl, fun j hj => by rcases Nat.lt_succ_iff_lt_or_eq.1 hj with h3 | rfl; exact HAL.out j h3; rw [HQi.out]; rfl, kw.drewN _⟩
        case measure => simp [intOf]; omega)
     | (go_ret
        exact ⟨ret_bool (by rw [HNi.out (by rw [HQi.out]; rfl)]), kw.drewN _⟩)
  ·have hlt' : ¬ (i : Int) < E.length := by omega
   obtain rfl : i = E.length := by omega
   have HR := hid (HY.out HAL.out)
   clear hS
   generalize (List.range E.length).any fq = fr at *
   cases fr
   ·go_wp2_with fail
    go_ret
    exact ⟨ret_bool (by rw [HR.out]; rfl), kw⟩
   ·go_wp2_with fail
    go_ret
    exact ⟨ret_bool (by rw [HR.out]; rfl), kw⟩
end Go.Proofs.YtkkcfifnkcnceaaGreat
