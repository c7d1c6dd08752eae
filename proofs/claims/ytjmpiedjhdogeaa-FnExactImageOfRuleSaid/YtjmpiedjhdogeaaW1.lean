/- Walks of the small functions on numbers and of the reference's formula readers. -/
import Derived.Test.YtjmpiedjhdogeaaBase
namespace Go.Proofs.Ytjmpiedjhdogeaa
open Go.RowKit

def inR (x l h : Int) : Bool := decide (l ≤ x ∧ x ≤ h)
--
set_option maxHeartbeats 400000 in
theorem l01In_any (x l h : Int) (w : World) : Calls Try.prog 158 #[.int .i64 x, .int .i64 l, .int .i64 h] w fun e w' => e = .returned (.bool (inR x l h)) ∧ w = w' := by
  by_cases h1 : l ≤ x
  · by_cases h2 : x ≤ h
    all_goals
      go_enter Try.func158, Try.ntmps158
      go_wp2
      go_ret
      exact ⟨ret_bool (by simp [inR, *]), rfl⟩
  · go_enter Try.func158, Try.ntmps158
    go_wp2
    go_ret
    exact ⟨ret_bool (by simp [inR]; omega), rfl⟩
--
set_option maxHeartbeats 400000 in
theorem inRange_any (x l h : Int) (w : World) : Calls Try.prog 159 #[.int .i64 x, .int .i64 l, .int .i64 h] w fun e w' => e = .returned (.bool (inR x l h)) ∧ w = w' := by
  by_cases h1 : l ≤ x
  · by_cases h2 : x ≤ h
    all_goals
      go_enter Try.func159, Try.ntmps159
      go_wp2
      go_ret
      exact ⟨ret_bool (by simp [inR, *]), rfl⟩
  · go_enter Try.func159, Try.ntmps159
    go_wp2
    go_ret
    exact ⟨ret_bool (by simp [inR]; omega), rfl⟩
--
set_option maxHeartbeats 400000 in
theorem l02Parts_any (k : Int) (w : World) :
    Calls Try.prog 178 #[.int .i64 k] w fun e w' => e = .returned (.int .i64 (partsOf k)) ∧ w = w' := by
  go_enter Try.func178, Try.ntmps178
  go_wp2
  all_goals go_ret
  all_goals refine ⟨ret_int ?_, rfl⟩
  all_goals (simp_all [partsOf])
--
set_option maxHeartbeats 400000 in
theorem partsOf_any (k : Int) (w : World) :
    Calls Try.prog 177 #[.int .i64 k] w fun e w' => e = .returned (.int .i64 (partsOf k)) ∧ w = w' := by
  go_enter Try.func177, Try.ntmps177
  go_wp2
  all_goals go_ret
  all_goals refine ⟨ret_int ?_, rfl⟩
  all_goals (simp_all [partsOf])
--
set_option maxHeartbeats 400000 in
theorem l02Part_any (a : List Nd) (v : Value) (i : Int) (w : World) (hv : Nds w v a) (h0 : 0 ≤ i) (hi : i ≤ a.length) :
    Calls Try.prog 175 #[v, .int .i64 i] w fun e w' => e = .returned (.int .i64 (skipInt 1 a i.toNat)) ∧ w = w' := by
  obtain ⟨i, rfl⟩ := Int.eq_ofNat_of_zero_le h0
  rw [Int.toNat_natCast]
  obtain ⟨p, cap, rfl, hle, hmx, hr, hlen⟩ := hv
  unfold maxLen at hmx
  go_enter Try.func175, Try.ntmps175
  go_wp2
  go_loop [1, 4, 5] (fun i' r o => ∃ k op : Nat, k ≤ a.length ∧ op ≤ 1 + k ∧ skipInt 1 a i = skipInt op a k ∧ i' = .int .i64 k ∧ o = .int .i64 op ∧ r = .int .i64 0) (fun i _ _ => a.length - (intOf i).toNat)
  case atStart => exact ⟨i, 1, by omega, by omega, rfl, rfl, rfl, rfl⟩
  case round =>
    obtain ⟨k, op, hk, hop, hs, rfl, rfl, rfl⟩ := hrel
    have Hs := hid hs; clear hs
    by_cases h0 : 0 < op
    · by_cases hlt : k < a.length
      · obtain ⟨b, off, rfl, h1, h2⟩ := hr.nd k hlt
        have hp := partsOf_le a[k].k
        clear hr h2
        go_wp2_with (go_at_call 178; refine (l02Parts_any _ _).mono ?_; rintro e w' ⟨rfl, rfl⟩)
        go_round
        case rel => exact ⟨k + 1, op - 1 + partsOf a[k].k, by omega, by omega, by rw [Hs.out]; obtain ⟨q, rfl⟩ : ∃ q, op = q + 1 := ⟨op - 1, by omega⟩; exact skip_step q a k hlt, by go_num, by go_num, rfl⟩
        case measure => simp [intOf]; omega
      · go_wp2
        go_ret
        refine ⟨ret_int ?_, rfl⟩
        obtain ⟨q, rfl⟩ : ∃ q, op = q + 1 := ⟨op - 1, by omega⟩
        rw [Hs.out, skip_end _ _ _ (by omega)]
    · go_wp2
      go_ret
      refine ⟨ret_int ?_, rfl⟩
      obtain rfl : op = 0 := by omega
      rw [Hs.out, skip_zero _ _ hk]
--
set_option maxHeartbeats 400000 in
theorem partEnd_any (a : List Nd) (v : Value) (i : Int) (w : World) (hv : Nds w v a) (h0 : 0 ≤ i) (hi : i ≤ a.length) :
    Calls Try.prog 171 #[v, .int .i64 i] w fun e w' => e = .returned (.int .i64 (skipInt 1 a i.toNat)) ∧ w = w' := by
  obtain ⟨i, rfl⟩ := Int.eq_ofNat_of_zero_le h0
  rw [Int.toNat_natCast]
  obtain ⟨p, cap, rfl, hle, hmx, hr, hlen⟩ := hv
  unfold maxLen at hmx
  go_enter Try.func171, Try.ntmps171
  go_wp2
  go_loop [1, 4, 5] (fun i' r o => ∃ k op : Nat, k ≤ a.length ∧ op ≤ 1 + k ∧ skipInt 1 a i = skipInt op a k ∧ i' = .int .i64 k ∧ o = .int .i64 op ∧ r = .int .i64 0) (fun i _ _ => a.length - (intOf i).toNat)
  case atStart => exact ⟨i, 1, by omega, by omega, rfl, rfl, rfl, rfl⟩
  case round =>
    obtain ⟨k, op, hk, hop, hs, rfl, rfl, rfl⟩ := hrel
    have Hs := hid hs; clear hs
    by_cases h0 : 0 < op
    · by_cases hlt : k < a.length
      · obtain ⟨b, off, rfl, h1, h2⟩ := hr.nd k hlt
        have hp := partsOf_le a[k].k
        clear hr h2
        go_wp2_with (go_at_call 177; refine (partsOf_any _ _).mono ?_; rintro e w' ⟨rfl, rfl⟩)
        go_round
        case rel => exact ⟨k + 1, op - 1 + partsOf a[k].k, by omega, by omega, by rw [Hs.out]; obtain ⟨q, rfl⟩ : ∃ q, op = q + 1 := ⟨op - 1, by omega⟩; exact skip_step q a k hlt, by go_num, by go_num, rfl⟩
        case measure => simp [intOf]; omega
      · go_wp2
        go_ret
        refine ⟨ret_int ?_, rfl⟩
        obtain ⟨q, rfl⟩ : ∃ q, op = q + 1 := ⟨op - 1, by omega⟩
        rw [Hs.out, skip_end _ _ _ (by omega)]
    · go_wp2
      go_ret
      refine ⟨ret_int ?_, rfl⟩
      obtain rfl : op = 0 := by omega
      rw [Hs.out, skip_zero _ _ hk]
--
set_option maxHeartbeats 1000000 in
theorem l02Tree_any (a : List Nd) (v : Value) (w : World) (hv : Nds w v a) :
    Calls Try.prog 168 #[v] w fun e w' => e = .returned (.bool (isTree a)) ∧ w = w' := by
  have hv0 := hv
  obtain ⟨p, cap, rfl, hle, hmx, hr, hlen⟩ := hv
  unfold maxLen at hmx
  go_enter Try.func168, Try.ntmps168
  go_wp2
  go_loop [2, 3] (fun r i' => ∃ k : Nat, k ≤ a.length ∧ (∀ j (h : j < a.length), j < k → okNd a[j] = true) ∧ i' = .int .i64 k ∧ r = .bool false) (fun _ i => a.length - (intOf i).toNat)
  case atStart => exact ⟨0, by omega, by omega, rfl, rfl⟩
  case round =>
    obtain ⟨k, hk, hs, rfl, rfl⟩ := hrel
    have Hs := hid hs; clear hs
    by_cases hlt : k < a.length
    · obtain ⟨b, off, rfl, h1, h2⟩ := hr.nd k hlt
      clear hr hv0
      by_cases g1 : inR a[k].k 0 6 = true
      · by_cases g2 : inR a[k].s 0 5 = true
        · by_cases g3 : a[k].k = 0
          · have G3 := hid g3
            have g3' : (a[k].k != 0) = false := by simp [g3]
            clear g3
            go_wp2_with (go_at_call 158; refine (l01In_any _ _ _ _).mono ?_; rintro e w' ⟨rfl, rfl⟩)
            go_round
            case rel =>
              refine ⟨k + 1, by omega, ?_, by go_num, rfl⟩
              intro j hj hjk
              by_cases e : j = k
              · subst e; have := G3.out; simp [inR] at g2; simp [okNd, this]; omega
              · exact Hs.out j hj (by omega)
            case measure => simp [intOf]; omega
          · have g3' : (a[k].k != 0) = true := by simp [g3]
            have G3 := hid g3; clear g3
            by_cases g4 : a[k].s = 0
            · have G4 := hid g4
              have g4' : (a[k].s != 0) = false := by simp [g4]
              clear g4
              go_wp2_with (go_at_call 158; refine (l01In_any _ _ _ _).mono ?_; rintro e w' ⟨rfl, rfl⟩)
              go_round
              case rel =>
                refine ⟨k + 1, by omega, ?_, by go_num, rfl⟩
                intro j hj hjk
                by_cases e : j = k
                · subst e; have h3 := G3.out; have h4 := G4.out; simp [inR] at g1; simp [okNd, h3, h4]; omega
                · exact Hs.out j hj (by omega)
              case measure => simp [intOf]; omega
            · have g4' : (a[k].s != 0) = true := by simp [g4]
              have hbad : isTree a = false := by
                have : okNd a[k] = false := by have := G3.out; simp [okNd, this]; omega
                simp only [isTree, Bool.and_eq_false_iff]; left; rw [List.all_eq_false]; exact ⟨a[k], by simp, by simp [this]⟩
              have Hb := hid hbad; clear hbad g4
              go_wp2_with (go_at_call 158; refine (l01In_any _ _ _ _).mono ?_; rintro e w' ⟨rfl, rfl⟩)
              go_ret
              exact ⟨ret_bool Hb.out.symm, rfl⟩
        · have hbad : isTree a = false := by
            have : okNd a[k] = false := by simp [inR] at g1 g2; simp only [okNd]; split <;> simp <;> omega
            simp only [isTree, Bool.and_eq_false_iff]; left; rw [List.all_eq_false]; exact ⟨a[k], by simp, by simp [this]⟩
          have Hb := hid hbad; clear hbad
          simp only [Bool.not_eq_true] at g2
          go_wp2_with (go_at_call 158; refine (l01In_any _ _ _ _).mono ?_; rintro e w' ⟨rfl, rfl⟩)
          go_ret
          exact ⟨ret_bool Hb.out.symm, rfl⟩
      · have hbad : isTree a = false := by
          have : okNd a[k] = false := by simp [inR] at g1; simp only [okNd]; split <;> simp <;> omega
          simp only [isTree, Bool.and_eq_false_iff]; left; rw [List.all_eq_false]; exact ⟨a[k], by simp, by simp [this]⟩
        have Hb := hid hbad; clear hbad
        simp only [Bool.not_eq_true] at g1
        go_wp2_with (go_at_call 158; refine (l01In_any _ _ _ _).mono ?_; rintro e w' ⟨rfl, rfl⟩)
        go_ret
        exact ⟨ret_bool Hb.out.symm, rfl⟩
    · have hall : a.all okNd = true := by
        rw [List.all_eq_true]; intro x hx
        obtain ⟨j, hj, rfl⟩ := List.getElem_of_mem hx
        exact Hs.out j hj (by omega)
      have Ha := hid hall; clear hall
      by_cases h0 : 0 < a.length
      · go_wp2_with (go_at_call 175; refine (l02Part_any _ _ _ _ hv0 (by omega) (by omega)).mono ?_; rintro e w' ⟨rfl, rfl⟩)
        go_ret
        exact ⟨ret_bool (by simp [isTree, Ha.out]; omega), rfl⟩
      · go_wp2
        go_ret
        exact ⟨ret_bool (by simp [isTree]; omega), rfl⟩
end Go.Proofs.Ytjmpiedjhdogeaa
