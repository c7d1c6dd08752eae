/- The reference's types: one test, logic 2 (printed by mkone.py). -/
import Derived.Test.YtgnlfceloiilbaaGreatGNH1
namespace Go.Proofs.YtgnlfceloiilbaaGreat
open Go.RowKit
--
set_option maxRecDepth 20000 in
set_option maxHeartbeats 16000000 in
theorem l12One_2 (r N : Nat) (E : List Fm) (M : Nat → Nat) (ss : List ByteArray) (f t : Nat) (hf : f < N) (ht : t < N) (w : World) (h : SpR w r 2 N E M ss) :
    Calls Tryz.prog 228 #[.pointer (some ⟨r, 0, none⟩), .int .i64 f, .int .i64 t] w fun e w' => e = .returned (.bool (oneB 2 E f t)) ∧ Keeps w w' := by
  have h8 := h.h8
  have hN := h.hN
  have HN := hid (fun i (hi : i < E.length) (e : oneQ 2 E f t i = false) => one_no hi e)
  have HY := hid (fun h => one_yes (L := 2) (E := E) (f := f) (t := t) h)
  have HH := hid h
  have HA := hid (fun i => any_snoc (frQ E f t) i)
  have hMt := h.hM t ht
  have HBF := hid (fun i (hi : i ≤ 8) wz => l01BitB_any f i wz (by omega) hi)
  have HBT := hid (fun i (hi : i ≤ 8) wz => l01BitB_any t i wz (by omega) hi)
  have HBM := hid (fun i (hi : i ≤ 8) wz => l01BitB_any (M t) i wz hMt hi)
  have HQ : Hid (∀ i, oneQ 2 E f t i = (!isMo (E.getD i .fls) || (if (2 : Nat) = 6 then (f.testBit i == bxB E i) == (t.testBit i == bxB E i) else (!(f.testBit i == bxB E i) || (if (2 : Nat) = 3 ∨ (2 : Nat) = 5 then (innB E i t == bxB E i) && (t.testBit i == bxB E i) else if (2 : Nat) = 4 then (t.testBit i == bxB E i) else (innB E i t == bxB E i)))))) := hid (fun i => rfl)
  have HF : Hid (∀ i, frQ E f t i = (isMo (E.getD i .fls) && ((t.testBit i == bxB E i) && !(f.testBit i == bxB E i)))) := hid (fun i => rfl)
  have HB := hid (fun i hi hm => h.hb t ht i hi hm)
  obtain ⟨v1, c1, hv1⟩ := h.c1
  have hs := h.hs
  obtain ⟨p1, q1, rfl, hl1, hx1, _⟩ := hv1.shape
  unfold maxLen at hx1
  rw [hs] at c1 hl1
  have HT := hid ht
  clear h hs hv1 hf ht hMt
  generalize oneB 2 E f t = R at *
  generalize oneQ 2 E f t = oq at *
  generalize frQ E f t = fq at *
  go_enter Tryz.func228, Tryz.ntmps228
  go_wp2_with fail
  go_loopw [6, 7, 8] (fun o fr i' wr => ∃ i : Nat, i ≤ E.length ∧ i' = .int .i64 i ∧ o = .bool false ∧ fr = .bool ((List.range i).any fq) ∧ (∀ j, j < i → oq j = true) ∧ Keeps w wr) (fun _ _ i' _ => E.length - (intOf i').toNat)
  case atStart => exact ⟨0, by omega, rfl, rfl, by simp, fun j hj => by omega, Keeps.refl w⟩
  case round =>
    obtain ⟨i, hi, rfl, rfl, rfl, hall, kw⟩ := hrel
    have HAL := hid hall; clear hall
    have hS := HH.out.keeps kw
    have d0 := hS.c0
    simp only [lgS] at d0
    have d1 := kw.cell c1
    by_cases hlt : i < E.length
    · have hlt' : (i : Int) < E.length := by omega
      have hi8 : i ≤ 8 := by omega
      obtain ⟨b, o, n, c, c2, hn, hnc, hc, hk, hcase⟩ := hS.kind i hlt
      obtain ⟨b4, o4, n4, q4, c4, hn4, hnc4, hc4, hm4⟩ := hS.mask t HT.out
      have hin : (i : Int) < n := by omega
      have hit : (t : Int) < n4 := by have := HT.out; omega
      unfold maxLen at hc hc4
      have HB1 := hid (HBF.out i hi8)
      have HB2 := hid (HBT.out i hi8)
      have HB3 := hid (HBM.out i hi8)
      have HQi := hid (HQ.out i)
      have HFi := hid (HF.out i)
      have HBi := hid (HB.out i hlt)
      have HAi := hid (HA.out i)
      have HNi := hid (HN.out i hlt)
      clear hS hn hn4 hi8
      generalize innB E i t = s3 at *
      generalize bxB E i = x at *
      generalize isMo (E.getD i .fls) = z at *
      generalize (E.getD i .fls).kind = kd at *
      generalize f.testBit i = p at *
      generalize t.testBit i = q at *
      generalize hs0 : (M t).testBit i = s at *
      generalize (List.range i).any fq = fr at *
      have HE : Hid (z = true → s = s3) := hid (fun hz => by rw [← HBi.out hz])
      clear hs0
      rcases hcase with ⟨rfl, rfl⟩ | ⟨rfl, rfl, rfl⟩ | ⟨rfl, rfl, rfl⟩
      · go_wp2_with fail
        go_roundw
        case rel => exact ⟨i + 1, by omega, by go_num, rfl, by rw [HAi.out, HFi.out]; simp, fun j hj => by rcases Nat.lt_succ_iff_lt_or_eq.1 hj with h3 | rfl; exact HAL.out j h3; rw [HQi.out]; rfl, kw⟩
        case measure => simp [intOf]; omega
      all_goals
        obtain rfl := HE.out rfl
        clear HE HBi
        go_wp2_with fail
        go_quiet (first | (go_at_call 139; first | (with_reducible refine quietS (HB1.out _)) | (with_reducible refine quietS (HB2.out _)) | (with_reducible refine quietS (HB3.out _))))
        clear c2 hk c4 hm4 c1 d1
        cases p <;> cases q <;> cases s <;> cases fr
      all_goals
        go_wp2_with fail
        first
          | (go_roundw
             case rel => exact ⟨i + 1, by omega, by go_num, rfl, by rw [HAi.out, HFi.out]; rfl, fun j hj => by rcases Nat.lt_succ_iff_lt_or_eq.1 hj with h3 | rfl; exact HAL.out j h3; rw [HQi.out]; rfl, kw.drewN _⟩
             case measure => simp [intOf]; omega)
          | (go_ret
             exact ⟨ret_bool (by rw [HNi.out (by rw [HQi.out]; rfl)]), kw.drewN _⟩)
    · have hlt' : ¬ (i : Int) < E.length := by omega
      obtain rfl : i = E.length := by omega
      have HR := hid (HY.out HAL.out)
      clear hS
      generalize (List.range E.length).any fq = fr at *
      cases fr
      · go_wp2_with fail
        go_ret
        exact ⟨ret_bool (by rw [HR.out]; rfl), kw⟩
      · go_wp2_with fail
        go_ret
        exact ⟨ret_bool (by rw [HR.out]; rfl), kw⟩
end Go.Proofs.YtgnlfceloiilbaaGreat
/- The reference's types: one test, logic 3 (printed by mkone.py). -/
namespace Go.Proofs.YtgnlfceloiilbaaGreat
open Go.RowKit
--
set_option maxRecDepth 20000 in
set_option maxHeartbeats 16000000 in
theorem l12One_3 (r N : Nat) (E : List Fm) (M : Nat → Nat) (ss : List ByteArray) (f t : Nat) (hf : f < N) (ht : t < N) (w : World) (h : SpR w r 3 N E M ss) :
    Calls Tryz.prog 228 #[.pointer (some ⟨r, 0, none⟩), .int .i64 f, .int .i64 t] w fun e w' => e = .returned (.bool (oneB 3 E f t)) ∧ Keeps w w' := by
  have h8 := h.h8
  have hN := h.hN
  have HN := hid (fun i (hi : i < E.length) (e : oneQ 3 E f t i = false) => one_no hi e)
  have HY := hid (fun h => one_yes (L := 3) (E := E) (f := f) (t := t) h)
  have HH := hid h
  have HA := hid (fun i => any_snoc (frQ E f t) i)
  have hMt := h.hM t ht
  have HBF := hid (fun i (hi : i ≤ 8) wz => l01BitB_any f i wz (by omega) hi)
  have HBT := hid (fun i (hi : i ≤ 8) wz => l01BitB_any t i wz (by omega) hi)
  have HBM := hid (fun i (hi : i ≤ 8) wz => l01BitB_any (M t) i wz hMt hi)
  have HQ : Hid (∀ i, oneQ 3 E f t i = (!isMo (E.getD i .fls) || (if (3 : Nat) = 6 then (f.testBit i == bxB E i) == (t.testBit i == bxB E i) else (!(f.testBit i == bxB E i) || (if (3 : Nat) = 3 ∨ (3 : Nat) = 5 then (innB E i t == bxB E i) && (t.testBit i == bxB E i) else if (3 : Nat) = 4 then (t.testBit i == bxB E i) else (innB E i t == bxB E i)))))) := hid (fun i => rfl)
  have HF : Hid (∀ i, frQ E f t i = (isMo (E.getD i .fls) && ((t.testBit i == bxB E i) && !(f.testBit i == bxB E i)))) := hid (fun i => rfl)
  have HB := hid (fun i hi hm => h.hb t ht i hi hm)
  obtain ⟨v1, c1, hv1⟩ := h.c1
  have hs := h.hs
  obtain ⟨p1, q1, rfl, hl1, hx1, _⟩ := hv1.shape
  unfold maxLen at hx1
  rw [hs] at c1 hl1
  have HT := hid ht
  clear h hs hv1 hf ht hMt
  generalize oneB 3 E f t = R at *
  generalize oneQ 3 E f t = oq at *
  generalize frQ E f t = fq at *
  go_enter Tryz.func228, Tryz.ntmps228
  go_wp2_with fail
  go_loopw [6, 7, 8] (fun o fr i' wr => ∃ i : Nat, i ≤ E.length ∧ i' = .int .i64 i ∧ o = .bool false ∧ fr = .bool ((List.range i).any fq) ∧ (∀ j, j < i → oq j = true) ∧ Keeps w wr) (fun _ _ i' _ => E.length - (intOf i').toNat)
  case atStart => exact ⟨0, by omega, rfl, rfl, by simp, fun j hj => by omega, Keeps.refl w⟩
  case round =>
    obtain ⟨i, hi, rfl, rfl, rfl, hall, kw⟩ := hrel
    have HAL := hid hall; clear hall
    have hS := HH.out.keeps kw
    have d0 := hS.c0
    simp only [lgS] at d0
    have d1 := kw.cell c1
    by_cases hlt : i < E.length
    · have hlt' : (i : Int) < E.length := by omega
      have hi8 : i ≤ 8 := by omega
      obtain ⟨b, o, n, c, c2, hn, hnc, hc, hk, hcase⟩ := hS.kind i hlt
      obtain ⟨b4, o4, n4, q4, c4, hn4, hnc4, hc4, hm4⟩ := hS.mask t HT.out
      have hin : (i : Int) < n := by omega
      have hit : (t : Int) < n4 := by have := HT.out; omega
      unfold maxLen at hc hc4
      have HB1 := hid (HBF.out i hi8)
      have HB2 := hid (HBT.out i hi8)
      have HB3 := hid (HBM.out i hi8)
      have HQi := hid (HQ.out i)
      have HFi := hid (HF.out i)
      have HBi := hid (HB.out i hlt)
      have HAi := hid (HA.out i)
      have HNi := hid (HN.out i hlt)
      clear hS hn hn4 hi8
      generalize innB E i t = s3 at *
      generalize bxB E i = x at *
      generalize isMo (E.getD i .fls) = z at *
      generalize (E.getD i .fls).kind = kd at *
      generalize f.testBit i = p at *
      generalize t.testBit i = q at *
      generalize hs0 : (M t).testBit i = s at *
      generalize (List.range i).any fq = fr at *
      have HE : Hid (z = true → s = s3) := hid (fun hz => by rw [← HBi.out hz])
      clear hs0
      rcases hcase with ⟨rfl, rfl⟩ | ⟨rfl, rfl, rfl⟩ | ⟨rfl, rfl, rfl⟩
      · go_wp2_with fail
        go_roundw
        case rel => exact ⟨i + 1, by omega, by go_num, rfl, by rw [HAi.out, HFi.out]; simp, fun j hj => by rcases Nat.lt_succ_iff_lt_or_eq.1 hj with h3 | rfl; exact HAL.out j h3; rw [HQi.out]; rfl, kw⟩
        case measure => simp [intOf]; omega
      all_goals
        obtain rfl := HE.out rfl
        clear HE HBi
        go_wp2_with fail
        go_quiet (first | (go_at_call 139; first | (with_reducible refine quietS (HB1.out _)) | (with_reducible refine quietS (HB2.out _)) | (with_reducible refine quietS (HB3.out _))))
        clear c2 hk c4 hm4 c1 d1
        cases p <;> cases q <;> cases s <;> cases fr
      all_goals
        go_wp2_with fail
        first
          | (go_roundw
             case rel => exact ⟨i + 1, by omega, by go_num, rfl, by rw [HAi.out, HFi.out]; rfl, fun j hj => by rcases Nat.lt_succ_iff_lt_or_eq.1 hj with h3 | rfl; exact HAL.out j h3; rw [HQi.out]; rfl, kw.drewN _⟩
             case measure => simp [intOf]; omega)
          | (go_ret
             exact ⟨ret_bool (by rw [HNi.out (by rw [HQi.out]; rfl)]), kw.drewN _⟩)
    · have hlt' : ¬ (i : Int) < E.length := by omega
      obtain rfl : i = E.length := by omega
      have HR := hid (HY.out HAL.out)
      clear hS
      generalize (List.range E.length).any fq = fr at *
      cases fr
      · go_wp2_with fail
        go_ret
        exact ⟨ret_bool (by rw [HR.out]; rfl), kw⟩
      · go_wp2_with fail
        go_ret
        exact ⟨ret_bool (by rw [HR.out]; rfl), kw⟩
end Go.Proofs.YtgnlfceloiilbaaGreat
/- The reference's types: one test, logic 4 (printed by mkone.py). -/
namespace Go.Proofs.YtgnlfceloiilbaaGreat
open Go.RowKit
--
set_option maxRecDepth 20000 in
set_option maxHeartbeats 16000000 in
theorem l12One_4 (r N : Nat) (E : List Fm) (M : Nat → Nat) (ss : List ByteArray) (f t : Nat) (hf : f < N) (ht : t < N) (w : World) (h : SpR w r 4 N E M ss) :
    Calls Tryz.prog 228 #[.pointer (some ⟨r, 0, none⟩), .int .i64 f, .int .i64 t] w fun e w' => e = .returned (.bool (oneB 4 E f t)) ∧ Keeps w w' := by
  have h8 := h.h8
  have hN := h.hN
  have HN := hid (fun i (hi : i < E.length) (e : oneQ 4 E f t i = false) => one_no hi e)
  have HY := hid (fun h => one_yes (L := 4) (E := E) (f := f) (t := t) h)
  have HH := hid h
  have HA := hid (fun i => any_snoc (frQ E f t) i)
  have hMt := h.hM t ht
  have HBF := hid (fun i (hi : i ≤ 8) wz => l01BitB_any f i wz (by omega) hi)
  have HBT := hid (fun i (hi : i ≤ 8) wz => l01BitB_any t i wz (by omega) hi)
  have HBM := hid (fun i (hi : i ≤ 8) wz => l01BitB_any (M t) i wz hMt hi)
  have HQ : Hid (∀ i, oneQ 4 E f t i = (!isMo (E.getD i .fls) || (if (4 : Nat) = 6 then (f.testBit i == bxB E i) == (t.testBit i == bxB E i) else (!(f.testBit i == bxB E i) || (if (4 : Nat) = 3 ∨ (4 : Nat) = 5 then (innB E i t == bxB E i) && (t.testBit i == bxB E i) else if (4 : Nat) = 4 then (t.testBit i == bxB E i) else (innB E i t == bxB E i)))))) := hid (fun i => rfl)
  have HF : Hid (∀ i, frQ E f t i = (isMo (E.getD i .fls) && ((t.testBit i == bxB E i) && !(f.testBit i == bxB E i)))) := hid (fun i => rfl)
  have HB := hid (fun i hi hm => h.hb t ht i hi hm)
  obtain ⟨v1, c1, hv1⟩ := h.c1
  have hs := h.hs
  obtain ⟨p1, q1, rfl, hl1, hx1, _⟩ := hv1.shape
  unfold maxLen at hx1
  rw [hs] at c1 hl1
  have HT := hid ht
  clear h hs hv1 hf ht hMt
  generalize oneB 4 E f t = R at *
  generalize oneQ 4 E f t = oq at *
  generalize frQ E f t = fq at *
  go_enter Tryz.func228, Tryz.ntmps228
  go_wp2_with fail
  go_loopw [6, 7, 8] (fun o fr i' wr => ∃ i : Nat, i ≤ E.length ∧ i' = .int .i64 i ∧ o = .bool false ∧ fr = .bool ((List.range i).any fq) ∧ (∀ j, j < i → oq j = true) ∧ Keeps w wr) (fun _ _ i' _ => E.length - (intOf i').toNat)
  case atStart => exact ⟨0, by omega, rfl, rfl, by simp, fun j hj => by omega, Keeps.refl w⟩
  case round =>
    obtain ⟨i, hi, rfl, rfl, rfl, hall, kw⟩ := hrel
    have HAL := hid hall; clear hall
    have hS := HH.out.keeps kw
    have d0 := hS.c0
    simp only [lgS] at d0
    have d1 := kw.cell c1
    by_cases hlt : i < E.length
    · have hlt' : (i : Int) < E.length := by omega
      have hi8 : i ≤ 8 := by omega
      obtain ⟨b, o, n, c, c2, hn, hnc, hc, hk, hcase⟩ := hS.kind i hlt
      obtain ⟨b4, o4, n4, q4, c4, hn4, hnc4, hc4, hm4⟩ := hS.mask t HT.out
      have hin : (i : Int) < n := by omega
      have hit : (t : Int) < n4 := by have := HT.out; omega
      unfold maxLen at hc hc4
      have HB1 := hid (HBF.out i hi8)
      have HB2 := hid (HBT.out i hi8)
      have HB3 := hid (HBM.out i hi8)
      have HQi := hid (HQ.out i)
      have HFi := hid (HF.out i)
      have HBi := hid (HB.out i hlt)
      have HAi := hid (HA.out i)
      have HNi := hid (HN.out i hlt)
      clear hS hn hn4 hi8
      generalize innB E i t = s3 at *
      generalize bxB E i = x at *
      generalize isMo (E.getD i .fls) = z at *
      generalize (E.getD i .fls).kind = kd at *
      generalize f.testBit i = p at *
      generalize t.testBit i = q at *
      generalize hs0 : (M t).testBit i = s at *
      generalize (List.range i).any fq = fr at *
      have HE : Hid (z = true → s = s3) := hid (fun hz => by rw [← HBi.out hz])
      clear hs0
      rcases hcase with ⟨rfl, rfl⟩ | ⟨rfl, rfl, rfl⟩ | ⟨rfl, rfl, rfl⟩
      · go_wp2_with fail
        go_roundw
        case rel => exact ⟨i + 1, by omega, by go_num, rfl, by rw [HAi.out, HFi.out]; simp, fun j hj => by rcases Nat.lt_succ_iff_lt_or_eq.1 hj with h3 | rfl; exact HAL.out j h3; rw [HQi.out]; rfl, kw⟩
        case measure => simp [intOf]; omega
      all_goals
        obtain rfl := HE.out rfl
        clear HE HBi
        go_wp2_with fail
        go_quiet (first | (go_at_call 139; first | (with_reducible refine quietS (HB1.out _)) | (with_reducible refine quietS (HB2.out _)) | (with_reducible refine quietS (HB3.out _))))
        clear c2 hk c4 hm4 c1 d1
        cases p <;> cases q <;> cases s <;> cases fr
      all_goals
        go_wp2_with fail
        first
          | (go_roundw
             case rel => exact ⟨i + 1, by omega, by go_num, rfl, by rw [HAi.out, HFi.out]; rfl, fun j hj => by rcases Nat.lt_succ_iff_lt_or_eq.1 hj with h3 | rfl; exact HAL.out j h3; rw [HQi.out]; rfl, kw.drewN _⟩
             case measure => simp [intOf]; omega)
          | (go_ret
             exact ⟨ret_bool (by rw [HNi.out (by rw [HQi.out]; rfl)]), kw.drewN _⟩)
    · have hlt' : ¬ (i : Int) < E.length := by omega
      obtain rfl : i = E.length := by omega
      have HR := hid (HY.out HAL.out)
      clear hS
      generalize (List.range E.length).any fq = fr at *
      cases fr
      · go_wp2_with fail
        go_ret
        exact ⟨ret_bool (by rw [HR.out]; rfl), kw⟩
      · go_wp2_with fail
        go_ret
        exact ⟨ret_bool (by rw [HR.out]; rfl), kw⟩
end Go.Proofs.YtgnlfceloiilbaaGreat
/- The reference's types: one test, logic 5 (printed by mkone.py). -/
namespace Go.Proofs.YtgnlfceloiilbaaGreat
open Go.RowKit
--
set_option maxRecDepth 20000 in
set_option maxHeartbeats 16000000 in
theorem l12One_5 (r N : Nat) (E : List Fm) (M : Nat → Nat) (ss : List ByteArray) (f t : Nat) (hf : f < N) (ht : t < N) (w : World) (h : SpR w r 5 N E M ss) :
    Calls Tryz.prog 228 #[.pointer (some ⟨r, 0, none⟩), .int .i64 f, .int .i64 t] w fun e w' => e = .returned (.bool (oneB 5 E f t)) ∧ Keeps w w' := by
  have h8 := h.h8
  have hN := h.hN
  have HN := hid (fun i (hi : i < E.length) (e : oneQ 5 E f t i = false) => one_no hi e)
  have HY := hid (fun h => one_yes (L := 5) (E := E) (f := f) (t := t) h)
  have HH := hid h
  have HA := hid (fun i => any_snoc (frQ E f t) i)
  have hMt := h.hM t ht
  have HBF := hid (fun i (hi : i ≤ 8) wz => l01BitB_any f i wz (by omega) hi)
  have HBT := hid (fun i (hi : i ≤ 8) wz => l01BitB_any t i wz (by omega) hi)
  have HBM := hid (fun i (hi : i ≤ 8) wz => l01BitB_any (M t) i wz hMt hi)
  have HQ : Hid (∀ i, oneQ 5 E f t i = (!isMo (E.getD i .fls) || (if (5 : Nat) = 6 then (f.testBit i == bxB E i) == (t.testBit i == bxB E i) else (!(f.testBit i == bxB E i) || (if (5 : Nat) = 3 ∨ (5 : Nat) = 5 then (innB E i t == bxB E i) && (t.testBit i == bxB E i) else if (5 : Nat) = 4 then (t.testBit i == bxB E i) else (innB E i t == bxB E i)))))) := hid (fun i => rfl)
  have HF : Hid (∀ i, frQ E f t i = (isMo (E.getD i .fls) && ((t.testBit i == bxB E i) && !(f.testBit i == bxB E i)))) := hid (fun i => rfl)
  have HB := hid (fun i hi hm => h.hb t ht i hi hm)
  obtain ⟨v1, c1, hv1⟩ := h.c1
  have hs := h.hs
  obtain ⟨p1, q1, rfl, hl1, hx1, _⟩ := hv1.shape
  unfold maxLen at hx1
  rw [hs] at c1 hl1
  have HT := hid ht
  clear h hs hv1 hf ht hMt
  generalize oneB 5 E f t = R at *
  generalize oneQ 5 E f t = oq at *
  generalize frQ E f t = fq at *
  go_enter Tryz.func228, Tryz.ntmps228
  go_wp2_with fail
  go_loopw [6, 7, 8] (fun o fr i' wr => ∃ i : Nat, i ≤ E.length ∧ i' = .int .i64 i ∧ o = .bool false ∧ fr = .bool ((List.range i).any fq) ∧ (∀ j, j < i → oq j = true) ∧ Keeps w wr) (fun _ _ i' _ => E.length - (intOf i').toNat)
  case atStart => exact ⟨0, by omega, rfl, rfl, by simp, fun j hj => by omega, Keeps.refl w⟩
  case round =>
    obtain ⟨i, hi, rfl, rfl, rfl, hall, kw⟩ := hrel
    have HAL := hid hall; clear hall
    have hS := HH.out.keeps kw
    have d0 := hS.c0
    simp only [lgS] at d0
    have d1 := kw.cell c1
    by_cases hlt : i < E.length
    · have hlt' : (i : Int) < E.length := by omega
      have hi8 : i ≤ 8 := by omega
      obtain ⟨b, o, n, c, c2, hn, hnc, hc, hk, hcase⟩ := hS.kind i hlt
      obtain ⟨b4, o4, n4, q4, c4, hn4, hnc4, hc4, hm4⟩ := hS.mask t HT.out
      have hin : (i : Int) < n := by omega
      have hit : (t : Int) < n4 := by have := HT.out; omega
      unfold maxLen at hc hc4
      have HB1 := hid (HBF.out i hi8)
      have HB2 := hid (HBT.out i hi8)
      have HB3 := hid (HBM.out i hi8)
      have HQi := hid (HQ.out i)
      have HFi := hid (HF.out i)
      have HBi := hid (HB.out i hlt)
      have HAi := hid (HA.out i)
      have HNi := hid (HN.out i hlt)
      clear hS hn hn4 hi8
      generalize innB E i t = s3 at *
      generalize bxB E i = x at *
      generalize isMo (E.getD i .fls) = z at *
      generalize (E.getD i .fls).kind = kd at *
      generalize f.testBit i = p at *
      generalize t.testBit i = q at *
      generalize hs0 : (M t).testBit i = s at *
      generalize (List.range i).any fq = fr at *
      have HE : Hid (z = true → s = s3) := hid (fun hz => by rw [← HBi.out hz])
      clear hs0
      rcases hcase with ⟨rfl, rfl⟩ | ⟨rfl, rfl, rfl⟩ | ⟨rfl, rfl, rfl⟩
      · go_wp2_with fail
        go_roundw
        case rel => exact ⟨i + 1, by omega, by go_num, rfl, by rw [HAi.out, HFi.out]; simp, fun j hj => by rcases Nat.lt_succ_iff_lt_or_eq.1 hj with h3 | rfl; exact HAL.out j h3; rw [HQi.out]; rfl, kw⟩
        case measure => simp [intOf]; omega
      all_goals
        obtain rfl := HE.out rfl
        clear HE HBi
        go_wp2_with fail
        go_quiet (first | (go_at_call 139; first | (with_reducible refine quietS (HB1.out _)) | (with_reducible refine quietS (HB2.out _)) | (with_reducible refine quietS (HB3.out _))))
        clear c2 hk c4 hm4 c1 d1
        cases p <;> cases q <;> cases s <;> cases fr
      all_goals
        go_wp2_with fail
        first
          | (go_roundw
             case rel => exact ⟨i + 1, by omega, by go_num, rfl, by rw [HAi.out, HFi.out]; rfl, fun j hj => by rcases Nat.lt_succ_iff_lt_or_eq.1 hj with h3 | rfl; exact HAL.out j h3; rw [HQi.out]; rfl, kw.drewN _⟩
             case measure => simp [intOf]; omega)
          | (go_ret
             exact ⟨ret_bool (by rw [HNi.out (by rw [HQi.out]; rfl)]), kw.drewN _⟩)
    · have hlt' : ¬ (i : Int) < E.length := by omega
      obtain rfl : i = E.length := by omega
      have HR := hid (HY.out HAL.out)
      clear hS
      generalize (List.range E.length).any fq = fr at *
      cases fr
      · go_wp2_with fail
        go_ret
        exact ⟨ret_bool (by rw [HR.out]; rfl), kw⟩
      · go_wp2_with fail
        go_ret
        exact ⟨ret_bool (by rw [HR.out]; rfl), kw⟩
end Go.Proofs.YtgnlfceloiilbaaGreat
/- The reference's types: one test, logic 6 (printed by mkone.py). -/
namespace Go.Proofs.YtgnlfceloiilbaaGreat
open Go.RowKit
--
set_option maxRecDepth 20000 in
set_option maxHeartbeats 16000000 in
theorem l12One_6 (r N : Nat) (E : List Fm) (M : Nat → Nat) (ss : List ByteArray) (f t : Nat) (hf : f < N) (ht : t < N) (w : World) (h : SpR w r 6 N E M ss) :
    Calls Tryz.prog 228 #[.pointer (some ⟨r, 0, none⟩), .int .i64 f, .int .i64 t] w fun e w' => e = .returned (.bool (oneB 6 E f t)) ∧ Keeps w w' := by
  have h8 := h.h8
  have hN := h.hN
  have HN := hid (fun i (hi : i < E.length) (e : oneQ 6 E f t i = false) => one_no hi e)
  have HY := hid (fun h => one_yes (L := 6) (E := E) (f := f) (t := t) h)
  have HH := hid h
  have HA := hid (fun i => any_snoc (frQ E f t) i)
  have hMt := h.hM t ht
  have HBF := hid (fun i (hi : i ≤ 8) wz => l01BitB_any f i wz (by omega) hi)
  have HBT := hid (fun i (hi : i ≤ 8) wz => l01BitB_any t i wz (by omega) hi)
  have HBM := hid (fun i (hi : i ≤ 8) wz => l01BitB_any (M t) i wz hMt hi)
  have HQ : Hid (∀ i, oneQ 6 E f t i = (!isMo (E.getD i .fls) || (if (6 : Nat) = 6 then (f.testBit i == bxB E i) == (t.testBit i == bxB E i) else (!(f.testBit i == bxB E i) || (if (6 : Nat) = 3 ∨ (6 : Nat) = 5 then (innB E i t == bxB E i) && (t.testBit i == bxB E i) else if (6 : Nat) = 4 then (t.testBit i == bxB E i) else (innB E i t == bxB E i)))))) := hid (fun i => rfl)
  have HF : Hid (∀ i, frQ E f t i = (isMo (E.getD i .fls) && ((t.testBit i == bxB E i) && !(f.testBit i == bxB E i)))) := hid (fun i => rfl)
  have HB := hid (fun i hi hm => h.hb t ht i hi hm)
  obtain ⟨v1, c1, hv1⟩ := h.c1
  have hs := h.hs
  obtain ⟨p1, q1, rfl, hl1, hx1, _⟩ := hv1.shape
  unfold maxLen at hx1
  rw [hs] at c1 hl1
  have HT := hid ht
  clear h hs hv1 hf ht hMt
  generalize oneB 6 E f t = R at *
  generalize oneQ 6 E f t = oq at *
  generalize frQ E f t = fq at *
  go_enter Tryz.func228, Tryz.ntmps228
  go_wp2_with fail
  go_loopw [6, 7, 8] (fun o fr i' wr => ∃ i : Nat, i ≤ E.length ∧ i' = .int .i64 i ∧ o = .bool false ∧ fr = .bool ((List.range i).any fq) ∧ (∀ j, j < i → oq j = true) ∧ Keeps w wr) (fun _ _ i' _ => E.length - (intOf i').toNat)
  case atStart => exact ⟨0, by omega, rfl, rfl, by simp, fun j hj => by omega, Keeps.refl w⟩
  case round =>
    obtain ⟨i, hi, rfl, rfl, rfl, hall, kw⟩ := hrel
    have HAL := hid hall; clear hall
    have hS := HH.out.keeps kw
    have d0 := hS.c0
    simp only [lgS] at d0
    have d1 := kw.cell c1
    by_cases hlt : i < E.length
    · have hlt' : (i : Int) < E.length := by omega
      have hi8 : i ≤ 8 := by omega
      obtain ⟨b, o, n, c, c2, hn, hnc, hc, hk, hcase⟩ := hS.kind i hlt
      obtain ⟨b4, o4, n4, q4, c4, hn4, hnc4, hc4, hm4⟩ := hS.mask t HT.out
      have hin : (i : Int) < n := by omega
      have hit : (t : Int) < n4 := by have := HT.out; omega
      unfold maxLen at hc hc4
      have HB1 := hid (HBF.out i hi8)
      have HB2 := hid (HBT.out i hi8)
      have HB3 := hid (HBM.out i hi8)
      have HQi := hid (HQ.out i)
      have HFi := hid (HF.out i)
      have HBi := hid (HB.out i hlt)
      have HAi := hid (HA.out i)
      have HNi := hid (HN.out i hlt)
      clear hS hn hn4 hi8
      generalize innB E i t = s3 at *
      generalize bxB E i = x at *
      generalize isMo (E.getD i .fls) = z at *
      generalize (E.getD i .fls).kind = kd at *
      generalize f.testBit i = p at *
      generalize t.testBit i = q at *
      generalize hs0 : (M t).testBit i = s at *
      generalize (List.range i).any fq = fr at *
      have HE : Hid (z = true → s = s3) := hid (fun hz => by rw [← HBi.out hz])
      clear hs0
      rcases hcase with ⟨rfl, rfl⟩ | ⟨rfl, rfl, rfl⟩ | ⟨rfl, rfl, rfl⟩
      · go_wp2_with fail
        go_roundw
        case rel => exact ⟨i + 1, by omega, by go_num, rfl, by rw [HAi.out, HFi.out]; simp, fun j hj => by rcases Nat.lt_succ_iff_lt_or_eq.1 hj with h3 | rfl; exact HAL.out j h3; rw [HQi.out]; rfl, kw⟩
        case measure => simp [intOf]; omega
      all_goals
        obtain rfl := HE.out rfl
        clear HE HBi
        go_wp2_with fail
        go_quiet (first | (go_at_call 139; first | (with_reducible refine quietS (HB1.out _)) | (with_reducible refine quietS (HB2.out _)) | (with_reducible refine quietS (HB3.out _))))
        clear c2 hk c4 hm4 c1 d1
        cases p <;> cases q <;> cases s <;> cases fr
      all_goals
        go_wp2_with fail
        first
          | (go_roundw
             case rel => exact ⟨i + 1, by omega, by go_num, rfl, by rw [HAi.out, HFi.out]; rfl, fun j hj => by rcases Nat.lt_succ_iff_lt_or_eq.1 hj with h3 | rfl; exact HAL.out j h3; rw [HQi.out]; rfl, kw.drewN _⟩
             case measure => simp [intOf]; omega)
          | (go_ret
             exact ⟨ret_bool (by rw [HNi.out (by rw [HQi.out]; rfl)]), kw.drewN _⟩)
    · have hlt' : ¬ (i : Int) < E.length := by omega
      obtain rfl : i = E.length := by omega
      have HR := hid (HY.out HAL.out)
      clear hS
      generalize (List.range E.length).any fq = fr at *
      cases fr
      · go_wp2_with fail
        go_ret
        exact ⟨ret_bool (by rw [HR.out]; rfl), kw⟩
      · go_wp2_with fail
        go_ret
        exact ⟨ret_bool (by rw [HR.out]; rfl), kw⟩
end Go.Proofs.YtgnlfceloiilbaaGreat
/- The reference's types: one test, logic 7 (printed by mkone.py). -/
namespace Go.Proofs.YtgnlfceloiilbaaGreat
open Go.RowKit
--
set_option maxRecDepth 20000 in
set_option maxHeartbeats 16000000 in
theorem l12One_7 (r N : Nat) (E : List Fm) (M : Nat → Nat) (ss : List ByteArray) (f t : Nat) (hf : f < N) (ht : t < N) (w : World) (h : SpR w r 7 N E M ss) :
    Calls Tryz.prog 228 #[.pointer (some ⟨r, 0, none⟩), .int .i64 f, .int .i64 t] w fun e w' => e = .returned (.bool (oneB 7 E f t)) ∧ Keeps w w' := by
  have h8 := h.h8
  have hN := h.hN
  have HN := hid (fun i (hi : i < E.length) (e : oneQ 7 E f t i = false) => one_no hi e)
  have HY := hid (fun h => one_yes (L := 7) (E := E) (f := f) (t := t) h)
  have HH := hid h
  have HA := hid (fun i => any_snoc (frQ E f t) i)
  have hMt := h.hM t ht
  have HBF := hid (fun i (hi : i ≤ 8) wz => l01BitB_any f i wz (by omega) hi)
  have HBT := hid (fun i (hi : i ≤ 8) wz => l01BitB_any t i wz (by omega) hi)
  have HBM := hid (fun i (hi : i ≤ 8) wz => l01BitB_any (M t) i wz hMt hi)
  have HQ : Hid (∀ i, oneQ 7 E f t i = (!isMo (E.getD i .fls) || (if (7 : Nat) = 6 then (f.testBit i == bxB E i) == (t.testBit i == bxB E i) else (!(f.testBit i == bxB E i) || (if (7 : Nat) = 3 ∨ (7 : Nat) = 5 then (innB E i t == bxB E i) && (t.testBit i == bxB E i) else if (7 : Nat) = 4 then (t.testBit i == bxB E i) else (innB E i t == bxB E i)))))) := hid (fun i => rfl)
  have HF : Hid (∀ i, frQ E f t i = (isMo (E.getD i .fls) && ((t.testBit i == bxB E i) && !(f.testBit i == bxB E i)))) := hid (fun i => rfl)
  have HB := hid (fun i hi hm => h.hb t ht i hi hm)
  obtain ⟨v1, c1, hv1⟩ := h.c1
  have hs := h.hs
  obtain ⟨p1, q1, rfl, hl1, hx1, _⟩ := hv1.shape
  unfold maxLen at hx1
  rw [hs] at c1 hl1
  have HT := hid ht
  clear h hs hv1 hf ht hMt
  generalize oneB 7 E f t = R at *
  generalize oneQ 7 E f t = oq at *
  generalize frQ E f t = fq at *
  go_enter Tryz.func228, Tryz.ntmps228
  go_wp2_with fail
  go_loopw [6, 7, 8] (fun o fr i' wr => ∃ i : Nat, i ≤ E.length ∧ i' = .int .i64 i ∧ o = .bool false ∧ fr = .bool ((List.range i).any fq) ∧ (∀ j, j < i → oq j = true) ∧ Keeps w wr) (fun _ _ i' _ => E.length - (intOf i').toNat)
  case atStart => exact ⟨0, by omega, rfl, rfl, by simp, fun j hj => by omega, Keeps.refl w⟩
  case round =>
    obtain ⟨i, hi, rfl, rfl, rfl, hall, kw⟩ := hrel
    have HAL := hid hall; clear hall
    have hS := HH.out.keeps kw
    have d0 := hS.c0
    simp only [lgS] at d0
    have d1 := kw.cell c1
    by_cases hlt : i < E.length
    · have hlt' : (i : Int) < E.length := by omega
      have hi8 : i ≤ 8 := by omega
      obtain ⟨b, o, n, c, c2, hn, hnc, hc, hk, hcase⟩ := hS.kind i hlt
      obtain ⟨b4, o4, n4, q4, c4, hn4, hnc4, hc4, hm4⟩ := hS.mask t HT.out
      have hin : (i : Int) < n := by omega
      have hit : (t : Int) < n4 := by have := HT.out; omega
      unfold maxLen at hc hc4
      have HB1 := hid (HBF.out i hi8)
      have HB2 := hid (HBT.out i hi8)
      have HB3 := hid (HBM.out i hi8)
      have HQi := hid (HQ.out i)
      have HFi := hid (HF.out i)
      have HBi := hid (HB.out i hlt)
      have HAi := hid (HA.out i)
      have HNi := hid (HN.out i hlt)
      clear hS hn hn4 hi8
      generalize innB E i t = s3 at *
      generalize bxB E i = x at *
      generalize isMo (E.getD i .fls) = z at *
      generalize (E.getD i .fls).kind = kd at *
      generalize f.testBit i = p at *
      generalize t.testBit i = q at *
      generalize hs0 : (M t).testBit i = s at *
      generalize (List.range i).any fq = fr at *
      have HE : Hid (z = true → s = s3) := hid (fun hz => by rw [← HBi.out hz])
      clear hs0
      rcases hcase with ⟨rfl, rfl⟩ | ⟨rfl, rfl, rfl⟩ | ⟨rfl, rfl, rfl⟩
      · go_wp2_with fail
        go_roundw
        case rel => exact ⟨i + 1, by omega, by go_num, rfl, by rw [HAi.out, HFi.out]; simp, fun j hj => by rcases Nat.lt_succ_iff_lt_or_eq.1 hj with h3 | rfl; exact HAL.out j h3; rw [HQi.out]; rfl, kw⟩
        case measure => simp [intOf]; omega
      all_goals
        obtain rfl := HE.out rfl
        clear HE HBi
        go_wp2_with fail
        go_quiet (first | (go_at_call 139; first | (with_reducible refine quietS (HB1.out _)) | (with_reducible refine quietS (HB2.out _)) | (with_reducible refine quietS (HB3.out _))))
        clear c2 hk c4 hm4 c1 d1
        cases p <;> cases q <;> cases s <;> cases fr
      all_goals
        go_wp2_with fail
        first
          | (go_roundw
             case rel => exact ⟨i + 1, by omega, by go_num, rfl, by rw [HAi.out, HFi.out]; rfl, fun j hj => by rcases Nat.lt_succ_iff_lt_or_eq.1 hj with h3 | rfl; exact HAL.out j h3; rw [HQi.out]; rfl, kw.drewN _⟩
             case measure => simp [intOf]; omega)
          | (go_ret
             exact ⟨ret_bool (by rw [HNi.out (by rw [HQi.out]; rfl)]), kw.drewN _⟩)
    · have hlt' : ¬ (i : Int) < E.length := by omega
      obtain rfl : i = E.length := by omega
      have HR := hid (HY.out HAL.out)
      clear hS
      generalize (List.range E.length).any fq = fr at *
      cases fr
      · go_wp2_with fail
        go_ret
        exact ⟨ret_bool (by rw [HR.out]; rfl), kw⟩
      · go_wp2_with fail
        go_ret
        exact ⟨ret_bool (by rw [HR.out]; rfl), kw⟩
end Go.Proofs.YtgnlfceloiilbaaGreat
/- The reference's types: which show what is asked, which are allowed. -/
namespace Go.Proofs.YtgnlfceloiilbaaGreat
open Go.RowKit
/-- what the reference's sight says, as a contract -/
def SeeR (r N L : Nat) (E : List Fm) (w : World) : Prop := ∀ f t wz, f < N → t < N → Keeps w wz → Calls Tryz.prog 137 #[.pointer (some ⟨r, 0, none⟩), .int .i64 f, .int .i64 t] wz fun e w' => e = .returned (.bool (seeB L E f t)) ∧ Keeps wz w'
--
set_option maxRecDepth 20000 in
set_option maxHeartbeats 8000000 in
theorem l12Shows_of (r L N : Nat) (E : List Fm) (M : Nat → Nat) (ss : List ByteArray) (f t i : Nat) (hf : f < N) (ht : t < N) (hi : i < E.length) (hmo : isMo (E.getD i .fls) = true) (w : World) (h : SpR w r L N E M ss) (hO : SeeR r N L E w) :
    Calls Tryz.prog 136 #[.pointer (some ⟨r, 0, none⟩), .int .i64 f, .int .i64 t, .int .i64 i] w fun e w' => e = .returned (.bool (witB L E i f t)) ∧ Keeps w w' := by
  have HS := hid (fun wz kz => hO f t wz hf ht kz)
  have c0 := h.c0
  have hK := isGL L h.hL
  have h8 := h.h8
  have hN := h.hN
  obtain ⟨b, o, n, c, c2, hn, hnc, hc, hk, hcase⟩ := h.kind i hi
  obtain ⟨b4, o4, n4, q4, c4, hn4, hnc4, hc4, hm4⟩ := h.mask t ht
  have hin : (i : Int) < n := by omega
  have hit : (t : Int) < n4 := by omega
  unfold maxLen at hc hc4
  have HB1 := hid (fun wz => l01BitB_any (M t) i wz (h.hM t ht) (by omega))
  have HB2 := hid (fun wz => l01BitB_any t i wz (by omega) (by omega))
  have hb := h.hb t ht i hi hmo
  rw [hb] at HB1
  have HW : Hid (witB L E i f t = (seeB L E f t && !(innB E i t == bxB E i) && (!decide (L = 5) || (t.testBit i == bxB E i)))) := hid (by unfold witB meeB demB; rw [decide_not])
  clear h hO hf ht hi hb hn hn4
  generalize witB L E i f t = P at *
  generalize seeB L E f t = y at *
  generalize innB E i t = s at *
  generalize bxB E i = x at *
  generalize isMo (E.getD i .fls) = z at *
  generalize (E.getD i .fls).kind = kd at *
  generalize t.testBit i = q at *
  generalize decide (L = 5) = u at *
  generalize lgS L = sl at *
  rcases hcase with ⟨rfl, rfl⟩ | ⟨rfl, rfl, rfl⟩ | ⟨rfl, rfl, rfl⟩
  · cases hmo
  all_goals
    clear hmo
    go_enter Tryz.func136, Tryz.ntmps136
    go_wp2_with fail
    refine (HB1.out _).mono ?_; rintro e w2 ⟨rfl, rfl⟩
    cases s
  all_goals
    first
      | (go_wp2_with fail
         go_ret
         exact ⟨ret_bool (by rw [HW.out]; cases y <;> rfl), Keeps.refl _⟩)
      | (go_wp2_with fail
         refine (HS.out _ (Keeps.refl _)).mono ?_; rintro e w3 ⟨rfl, k3⟩
         have e0 := k3.cell c0
         cases y
         · go_wp2_with fail
           go_ret
           exact ⟨ret_bool (by rw [HW.out]; rfl), k3⟩
         · cases u
           · go_wp2_with fail
             go_ret
             exact ⟨ret_bool (by rw [HW.out]; rfl), k3⟩
           · go_wp2_with fail
             refine (HB2.out _).mono ?_; rintro e w4 ⟨rfl, rfl⟩
             go_wp2_with fail
             go_ret
             exact ⟨ret_bool (by rw [HW.out]; cases q <;> rfl), k3⟩)
end Go.Proofs.YtgnlfceloiilbaaGreat
/- The reference's types: sight, joined over the logics. -/
namespace Go.Proofs.YtgnlfceloiilbaaGreat
open Go.RowKit
--
theorem oneR (r L N : Nat) (E : List Fm) (M : Nat → Nat) (ss : List ByteArray) (w : World) (h : SpR w r L N E M ss) : OneR r N L E w := by
  intro f t wz hf ht kz
  have hz := h.keeps kz
  have h8 : L = 0 ∨ L = 1 ∨ L = 2 ∨ L = 3 ∨ L = 4 ∨ L = 5 ∨ L = 6 ∨ L = 7 := by have := h.hL; omega
  clear h
  rcases h8 with rfl | rfl | rfl | rfl | rfl | rfl | rfl | rfl
  · exact l12One_0 r N E M ss f t hf ht wz hz
  · exact l12One_1 r N E M ss f t hf ht wz hz
  · exact l12One_2 r N E M ss f t hf ht wz hz
  · exact l12One_3 r N E M ss f t hf ht wz hz
  · exact l12One_4 r N E M ss f t hf ht wz hz
  · exact l12One_5 r N E M ss f t hf ht wz hz
  · exact l12One_6 r N E M ss f t hf ht wz hz
  · exact l12One_7 r N E M ss f t hf ht wz hz
--
theorem seeR (r L N : Nat) (E : List Fm) (M : Nat → Nat) (ss : List ByteArray) (w : World) (h : SpR w r L N E M ss) : SeeR r N L E w := fun f t wz hf ht kz =>
  l12Sees_of r L N E M ss f t hf ht wz (h.keeps kz) (oneR r L N E M ss wz (h.keeps kz))
--
theorem l12Shows_any (r L N : Nat) (E : List Fm) (M : Nat → Nat) (ss : List ByteArray) (f t i : Nat) (hf : f < N) (ht : t < N) (hi : i < E.length) (hmo : isMo (E.getD i .fls) = true) (w : World) (h : SpR w r L N E M ss) :
    Calls Tryz.prog 136 #[.pointer (some ⟨r, 0, none⟩), .int .i64 f, .int .i64 t, .int .i64 i] w fun e w' => e = .returned (.bool (witB L E i f t)) ∧ Keeps w w' :=
  l12Shows_of r L N E M ss f t i hf ht hi hmo w h (seeR r L N E M ss w h)
end Go.Proofs.YtgnlfceloiilbaaGreat
/- The reference's types: which stay among some. -/
namespace Go.Proofs.YtgnlfceloiilbaaGreat
open Go.RowKit
/-- asked and shown at one part -/
def stQ (L : Nat) (E : List Fm) (l : List Nat) (m i : Nat) : Bool := !(isMo (E.getD i .fls) && !demB E i m) || l.any (witB L E i m)
def stayB (L : Nat) (E : List Fm) (l : List Nat) (m : Nat) : Bool := (List.range E.length).all (stQ L E l m) && (decide (L ≠ 1) || l.any (seeB L E m))
theorem st_no {L : Nat} {E : List Fm} {l : List Nat} {m i : Nat} (hi : i < E.length) (h : stQ L E l m i = false) : stayB L E l m = false := by
  unfold stayB
  have : (List.range E.length).all (stQ L E l m) = false := by
    rw [Bool.eq_false_iff]
    intro ha
    rw [List.all_eq_true] at ha
    rw [ha i (List.mem_range.2 hi)] at h
    cases h
  rw [this]; rfl
theorem st_yes {L : Nat} {E : List Fm} {l : List Nat} {m : Nat} (h : ∀ j, j < E.length → stQ L E l m j = true) : stayB L E l m = (!decide (L = 1) || l.any (seeB L E m)) := by
  unfold stayB
  rw [List.all_eq_true.2 (fun j hj => h j (List.mem_range.1 hj)), decide_not]
  rfl
theorem any_take {α : Type} (p : α → Bool) (l : List α) (k : Nat) (h : k < l.length) : (l.take (k + 1)).any p = ((l.take k).any p || p l[k]) := by
  rw [List.take_succ_eq_append_getElem h, List.any_append]
  simp
def natI (l : List Nat) : List Int := l.map fun (n : Nat) => (n : Int)
--
set_option maxRecDepth 20000 in
set_option maxHeartbeats 8000000 in
theorem l12Stays_any (r L N : Nat) (E : List Fm) (M : Nat → Nat) (ss : List ByteArray) (l : List Nat) (hl : ∀ t ∈ l, t < N) (v : Value) (m : Nat) (hm : m < N) (w : World) (h : SpR w r L N E M ss) (hv : Ints w v (natI l)) :
    Calls Tryz.prog 227 #[.pointer (some ⟨r, 0, none⟩), .int .i64 m, v] w fun e w' => e = .returned (.bool (stayB L E l m)) ∧ Keeps w w' := by
  have h8 := h.h8
  have hN := h.hN
  have hD := isD L h.hL
  have c0 := h.c0
  have HAS := hid (fun i (hi : i < E.length) wz (kz : Keeps w wz) => l12Asks_any r L N E M ss m i (by omega) hi wz (h.keeps kz))
  have HSH := hid (fun t i (ht : t < N) (hi : i < E.length) (hmo : isMo (E.getD i .fls) = true) wz (kz : Keeps w wz) => l12Shows_any r L N E M ss m t i hm ht hi hmo wz (h.keeps kz))
  have HSE := hid (fun t (ht : t < N) wz (kz : Keeps w wz) => seeR r L N E M ss w h m t wz hm ht kz)
  have HNO := hid (fun i (hi : i < E.length) (e : stQ L E l m i = false) => st_no hi e)
  have HYE := hid (fun h => st_yes (L := L) (E := E) (l := l) (m := m) h)
  have HQ : Hid (∀ i, stQ L E l m i = (!(isMo (E.getD i .fls) && !demB E i m) || l.any (witB L E i m))) := hid (fun i => rfl)
  have HL := hid (fun (k : Nat) (hk : k < l.length) => hl l[k] (List.getElem_mem hk))
  have hv0 := hv
  obtain ⟨v1, c1, hv1⟩ := h.c1
  have hs := h.hs
  obtain ⟨p1, q1, rfl, hl1, hx1, _⟩ := hv1.shape
  unfold maxLen at hx1
  rw [hs] at c1 hl1
  obtain ⟨p2, q2, rfl, hl2, hx2, -, hb2⟩ := hv
  have hnl : (natI l).length = l.length := by simp [natI]
  rw [hnl] at hv0 hl2 hb2 ⊢
  unfold maxLen at hx2
  have HIN := hid (fun wz (kz : Keeps w wz) => hv0.keeps kz)
  clear hv0
  clear h hs hv1 hm hl hnl
  generalize stayB L E l m = R at *
  generalize stQ L E l m = sq at *
  generalize decide (L = 1) = u at *
  generalize lgS L = sl at *
  go_enter Tryz.func227, Tryz.ntmps227
  go_wp2_with fail
  go_loopw [6, 7] (fun o i' wr => ∃ i : Nat, i ≤ E.length ∧ i' = .int .i64 i ∧ o = .bool false ∧ (∀ j, j < i → sq j = true) ∧ Keeps w wr) (fun _ i' _ => E.length - (intOf i').toNat)
  case atStart => exact ⟨0, by omega, rfl, rfl, fun j hj => by omega, Keeps.refl w⟩
  case round =>
    obtain ⟨i, hi, rfl, rfl, hall, kw⟩ := hrel
    have HAL := hid hall; clear hall
    have d1 := kw.cell c1
    have d0 := kw.cell c0
    by_cases hlt : i < E.length
    · have hlt' : (i : Int) < E.length := by omega
      have HQi := hid (HQ.out i)
      have HNi := hid (HNO.out i hlt)
      have HA := hid (HAS.out i hlt wr kw)
      generalize ha : (isMo (E.getD i .fls) && !demB E i m) = a at *
      have HAA := hid ha; clear ha
      go_wp2_with fail
      refine HA.out.mono ?_; rintro e w2 ⟨rfl, rfl⟩
      cases a
      · go_wp2_with fail
        go_roundw
        case rel => exact ⟨i + 1, by omega, by go_num, rfl, fun j hj => by rcases Nat.lt_succ_iff_lt_or_eq.1 hj with h3 | rfl; exact HAL.out j h3; rw [HQi.out]; rfl, kw⟩
        case measure => simp [intOf]; omega
      · have HMO : Hid (isMo (E.getD i .fls) = true) := hid (by have := HAA.out; rw [Bool.and_eq_true] at this; exact this.1)
        have HW := hid (fun (k : Nat) (hk : k < l.length) => any_take (witB L E i m) l k hk)
        have HSI := hid (fun (k : Nat) (hk : k < l.length) wz (kz : Keeps w wz) => HSH.out l[k] i (HL.out k hk) hlt HMO.out wz kz)
        have HWE : Hid ((l.take l.length).any (witB L E i m) = l.any (witB L E i m)) := hid (by rw [List.take_length])
        have HWT : Hid (∀ k, (l.take k).any (witB L E i m) = true → l.any (witB L E i m) = true) := hid (fun k hk => by
          rw [List.any_eq_true] at *
          obtain ⟨x, hx, hp⟩ := hk
          exact ⟨x, List.mem_of_mem_take hx, hp⟩)
        generalize witB L E i m = wb at *
        go_wp2_with fail
        go_loopw [8, 9] (fun fd j' wq => ∃ k : Nat, k ≤ l.length ∧ j' = .int .i64 k ∧ fd = .bool ((l.take k).any wb) ∧ Keeps w wq) (fun _ j' _ => l.length - (intOf j').toNat)
        case atStart => exact ⟨0, by omega, rfl, by simp, kw⟩
        case round =>
          obtain ⟨k, hk, rfl, rfl, kq⟩ := hrel
          have HWk := hid (HWT.out k)
          generalize hfd : (l.take k).any wb = fd at *
          have HFD := hid hfd; clear hfd
          cases fd
          · by_cases hkl : k < l.length
            · have hkl' : (k : Int) < l.length := by omega
              obtain ⟨_, _, e0, _, _, hat, _⟩ := HIN.out wr kq
              simp only [Value.slice.injEq] at e0
              obtain ⟨rfl, -, rfl⟩ := e0
              obtain ⟨b3, o3, rfl, e3⟩ := hat.int k (by simpa [natI] using hkl)
              rw [show (natI l)[k]'(by simpa [natI] using hkl) = ((l[k] : Nat) : Int) by simp [natI]] at e3
              have HK := hid (HSI.out k hkl wr kq)
              have HT := hid (HW.out k hkl)
              clear hat
              generalize l[k] = lk at *
              go_wp2_with fail
              refine HK.out.mono ?_; rintro e w3 ⟨rfl, k3⟩
              go_wp2_with fail
              go_roundw
              case rel => exact ⟨k + 1, by omega, by go_num, by rw [HT.out, HFD.out]; rfl, kq.trans k3⟩
              case measure => simp [intOf]; omega
            · have hkl' : ¬ (k : Int) < l.length := by omega
              obtain rfl : k = l.length := by omega
              go_wp2_with fail
              go_ret
              exact ⟨ret_bool (by rw [HNi.out (by rw [HQi.out, ← HWE.out, HFD.out]; rfl)]), kq⟩
          · rcases Nat.lt_or_ge k l.length with hkl | hkl
            · have hkl' : (k : Int) < l.length := by omega
              go_wp2_with fail
              go_roundw
              case rel => exact ⟨i + 1, by omega, by go_num, rfl, fun j hj => by rcases Nat.lt_succ_iff_lt_or_eq.1 hj with h3 | rfl; exact HAL.out j h3; rw [HQi.out, HWk.out rfl]; rfl, kq⟩
              case measure => simp [intOf]; omega
            · have hkl' : ¬ (k : Int) < l.length := by omega
              go_wp2_with fail
              go_roundw
              case rel => exact ⟨i + 1, by omega, by go_num, rfl, fun j hj => by rcases Nat.lt_succ_iff_lt_or_eq.1 hj with h3 | rfl; exact HAL.out j h3; rw [HQi.out, HWk.out rfl]; rfl, kq⟩
              case measure => simp [intOf]; omega
    · have hlt' : ¬ (i : Int) < E.length := by omega
      obtain rfl : i = E.length := by omega
      have HR := hid (HYE.out HAL.out)
      cases u
      · go_wp2_with fail
        go_ret
        exact ⟨ret_bool (by rw [HR.out]; rfl), kw⟩
      · have HW := hid (fun (k : Nat) (hk : k < l.length) => any_take (seeB L E m) l k hk)
        have HSI := hid (fun (k : Nat) (hk : k < l.length) wz (kz : Keeps w wz) => HSE.out l[k] (HL.out k hk) wz kz)
        have HWE : Hid ((l.take l.length).any (seeB L E m) = l.any (seeB L E m)) := hid (by rw [List.take_length])
        have HWT : Hid (∀ k (hk : k < l.length), seeB L E m l[k] = true → l.any (seeB L E m) = true) := hid (fun k hk hp => List.any_eq_true.2 ⟨_, List.getElem_mem hk, hp⟩)
        generalize seeB L E m = wb at *
        go_wp2_with fail
        go_loopw [6, 10] (fun o j' wq => ∃ k : Nat, k ≤ l.length ∧ j' = .int .i64 k ∧ o = .bool false ∧ (l.take k).any wb = false ∧ Keeps w wq) (fun _ j' _ => l.length - (intOf j').toNat)
        case atStart => exact ⟨0, by omega, rfl, rfl, by simp, kw⟩
        case round =>
          obtain ⟨k, hk, rfl, rfl, hno, kq⟩ := hrel
          have HFD := hid hno; clear hno
          by_cases hkl : k < l.length
          · have hkl' : (k : Int) < l.length := by omega
            obtain ⟨_, _, e0, _, _, hat, _⟩ := HIN.out wr kq
            simp only [Value.slice.injEq] at e0
            obtain ⟨rfl, -, rfl⟩ := e0
            obtain ⟨b3, o3, rfl, e3⟩ := hat.int k (by simpa [natI] using hkl)
            rw [show (natI l)[k]'(by simpa [natI] using hkl) = ((l[k] : Nat) : Int) by simp [natI]] at e3
            have HK := hid (HSI.out k hkl wr kq)
            have HT := hid (HW.out k hkl)
            have HWk := hid (HWT.out k hkl)
            clear hat
            generalize l[k] = lk at *
            go_wp2_with fail
            refine HK.out.mono ?_; rintro e w3 ⟨rfl, k3⟩
            generalize wb lk = x at *
            cases x
            · go_wp2_with fail
              go_roundw
              case rel => exact ⟨k + 1, by omega, by go_num, rfl, by rw [HT.out, HFD.out]; rfl, kq.trans k3⟩
              case measure => simp [intOf]; omega
            · go_wp2_with fail
              go_ret
              exact ⟨ret_bool (by rw [HR.out, HWk.out (by trivial)]; rfl), kq.trans k3⟩
          · have hkl' : ¬ (k : Int) < l.length := by omega
            obtain rfl : k = l.length := by omega
            go_wp2_with fail
            go_ret
            exact ⟨ret_bool (by rw [HR.out, ← HWE.out, HFD.out]; rfl), kq⟩
end Go.Proofs.YtgnlfceloiilbaaGreat
