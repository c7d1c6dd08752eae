/- Walks: the variables of formulas; errors and limits of lists of formulas, on both sides. -/
import Derived.Test.YtjmpiedjhdogeaaM1
import Derived.Test.YtjmpiedjhdogeaaB2
namespace Go.Proofs.Ytjmpiedjhdogeaa
open Go.RowKit
--
set_option maxRecDepth 20000 in
set_option maxHeartbeats 1000000 in
theorem l02Variables_any (a : List Nd) (v : Value) (w : World) (hv : Nds w v a) (ha : a.all okNd = true) : Calls Try.prog 43 #[v] w (RetI w (mem (vm a))) := by
  have hv0 := hv
  obtain ⟨p, cap, rfl, hle, hmx, hata, hlen⟩ := hv
  unfold maxLen at hmx
  have HA := hid ha; clear ha
  go_enter Try.func43, Try.ntmps43
  go_wp2
  go_loop [3, 4] (fun c i' => ∃ k : Nat, k ≤ a.length ∧ i' = .int .i64 k ∧ c = .int .i64 (vm (a.take k))) (fun _ i => a.length - (intOf i).toNat)
  case atStart => exact ⟨0, by omega, rfl, by simp [vm]⟩
  case round =>
    obtain ⟨k, hk, rfl, rfl⟩ := hrel
    by_cases hlt : k < a.length
    · obtain ⟨b1, o1, rfl, h1, h2⟩ := hata.nd k hlt
      clear hata hv0
      have hlt' : (k : Int) < a.length := by omega
      have hvl := vm_lt HA.out k hk
      have hst := vm_take a k hlt
      by_cases h0 : a[k].k = 0
      · obtain ⟨s, hs, e⟩ := ok_sym HA.out k hlt h0
        rw [if_pos h0, e] at hst
        have hor := or_table ⟨_, hvl⟩ ⟨s, hs⟩
        rw [h0] at h1
        rw [e] at h2
        have HO := hid hor; clear hor
        have HS := hid hst; clear hst
        have H1 := hid (l01One_any (s : Int) w (by omega) (by omega))
        clear e h0
        generalize vm (List.take k a) = m at *
        go_wp2_with fail
        refine H1.out.mono ?_; rintro e w' ⟨rfl, rfl⟩
        simp only [Int.toNat_natCast]
        go_wp2_with fail
        go_round
        case rel => exact ⟨k + 1, by omega, by go_num, by rw [HS.out]; have h := HO.out; simp only [Int.toNat_natCast] at *; rw [h]⟩
        case measure => simp [intOf]; omega
      · have hb : (a[k].k == 0) = false := by simp [h0]
        rw [if_neg h0] at hst
        have HS := hid hst; clear hst
        clear h0
        go_wp2
        go_round
        case rel => exact ⟨k + 1, by omega, by go_num, by rw [HS.out]⟩
        case measure => simp [intOf]; omega
    · have hm64 := vm_lt HA.out k hk
      rw [List.take_of_length_le (by omega)] at *
      have HL := hid (l01List_any (vm a) w hm64)
      generalize vm a = m at *
      clear hata hv0
      go_wp2_with fail
      refine HL.out.mono ?_; rintro e w2 ⟨v2, rfl, hv2, k2⟩
      go_wp2_with fail
      go_ret
      exact ⟨_, rfl, hv2, k2⟩
--
set_option maxRecDepth 20000 in
set_option maxHeartbeats 1000000 in
theorem l04Code_any (l : List (List Nd)) (v : Value) (w : World) (hv : NdsL w v l) : Calls Try.prog 92 #[v] w fun e w' => e = .returned (.int .i64 (plainErrs l)) ∧ w = w' := by
  have hv0 := hv
  obtain ⟨p, cap, rfl, hle, hmx, hlen, _⟩ := hv
  unfold maxLen at hmx
  go_enter Try.func92, Try.ntmps92
  go_wp2
  go_loop [2, 3] (fun r i' => r = .int .i64 0 ∧ ∃ k : Nat, k ≤ l.length ∧ i' = .int .i64 k ∧ ∀ j (h : j < l.length), j < k → isFm l[j] = true) (fun _ i => l.length - (intOf i).toNat)
  case atStart => exact ⟨rfl, 0, by omega, rfl, fun j h hj => by omega⟩
  case round =>
    obtain ⟨rfl, k, hk, rfl, hs⟩ := hrel
    have Hs := hid hs; clear hs
    by_cases hlt : k < l.length
    · obtain ⟨b, off, u, rfl, hc, hu⟩ := hv0.get k hlt
      clear hv0
      have hlt' : (k : Int) < l.length := by omega
      have HF := hid (l02Is_any _ _ w hu)
      obtain ⟨p1, n1, q1, rfl⟩ := hu.shape
      clear hu
      cases hf : isFm l[k]
      · rw [hf] at HF
        have Hf := hid hf; clear hf
        go_wp2_with fail
        refine HF.out.mono ?_; rintro e w' ⟨rfl, rfl⟩
        go_wp2_with fail
        go_ret
        refine ⟨ret_int ?_, rfl⟩
        have h1 : l.any (fun x => !isFm x) = true := List.any_eq_true.2 ⟨_, List.getElem_mem hlt, by rw [Hf.out]; rfl⟩
        simp [plainErrs, allFm, h1]
      · rw [hf] at HF
        have Hf := hid hf; clear hf
        go_wp2_with fail
        refine HF.out.mono ?_; rintro e w' ⟨rfl, rfl⟩
        go_wp2_with fail
        go_round
        case rel => exact ⟨rfl, k + 1, by omega, by go_num, fun j h hj => by
          by_cases e : j = k
          · subst e; exact Hf.out
          · exact Hs.out j h (by omega)⟩
        case measure => simp [intOf]; omega
    · have hall : l.any (fun x => !isFm x) = false := by
        rw [Bool.eq_false_iff]; intro h
        obtain ⟨x, hx, h2⟩ := List.any_eq_true.1 h
        obtain ⟨j, hj, rfl⟩ := List.getElem_of_mem hx
        rw [Hs.out j hj (by omega)] at h2; cases h2
      have Hall := hid hall; clear hall
      clear Hs
      go_wp2
      go_loop [2, 4] (fun r i' => r = .int .i64 0 ∧ ∃ k : Nat, k ≤ l.length ∧ i' = .int .i64 k ∧ ∀ j (h : j < l.length), j < k → plainL l[j] = true) (fun _ i => l.length - (intOf i).toNat)
      case atStart => exact ⟨rfl, 0, by omega, rfl, fun j h hj => by omega⟩
      case round =>
        obtain ⟨rfl, k, hk, rfl, hs⟩ := hrel
        have Hs := hid hs; clear hs
        by_cases hlt : k < l.length
        · obtain ⟨b, off, u, rfl, hc, hu⟩ := hv0.get k hlt
          clear hv0
          have hlt' : (k : Int) < l.length := by omega
          have HF := hid (l02Plain_any _ _ w hu)
          obtain ⟨p1, n1, q1, rfl⟩ := hu.shape
          clear hu
          cases hf : plainL l[k]
          · rw [hf] at HF
            have Hf := hid hf; clear hf
            go_wp2_with fail
            refine HF.out.mono ?_; rintro e w' ⟨rfl, rfl⟩
            go_wp2_with fail
            go_ret
            refine ⟨ret_int ?_, rfl⟩
            have h1 : l.any (fun x => !plainL x) = true := List.any_eq_true.2 ⟨_, List.getElem_mem hlt, by rw [Hf.out]; rfl⟩
            simp [plainErrs, allFm, allPlainL, h1, Hall.out]
          · rw [hf] at HF
            have Hf := hid hf; clear hf
            go_wp2_with fail
            refine HF.out.mono ?_; rintro e w' ⟨rfl, rfl⟩
            go_wp2_with fail
            go_round
            case rel => exact ⟨rfl, k + 1, by omega, by go_num, fun j h hj => by
              by_cases e : j = k
              · subst e; exact Hf.out
              · exact Hs.out j h (by omega)⟩
            case measure => simp [intOf]; omega
        · go_wp2
          go_ret
          refine ⟨ret_int ?_, rfl⟩
          have h1 : l.any (fun x => !plainL x) = false := by
            rw [Bool.eq_false_iff]; intro h
            obtain ⟨x, hx, h2⟩ := List.any_eq_true.1 h
            obtain ⟨j, hj, rfl⟩ := List.getElem_of_mem hx
            rw [Hs.out j hj (by omega)] at h2; cases h2
          simp [plainErrs, allFm, allPlainL, h1, Hall.out]
theorem l31Plain_any (l : List (List Nd)) (v : Value) (w : World) (hv : NdsL w v l) : Calls Try.prog 42 #[v] w fun e w' => e = .returned (.int .i64 (plainErrs l)) ∧ w = w' := by
  have H := hid (l04Code_any l v w hv)
  obtain ⟨p1, c1, rfl, _⟩ := hv
  go_enter Try.func42, Try.ntmps42
  go_wp2_with fail
  refine H.out.mono ?_; rintro e w' ⟨rfl, rfl⟩
  go_wp2_with fail
  go_ret
  exact ⟨rfl, rfl⟩
--
theorem isMask6_any (x : Int) (w : World) : Calls Try.prog 126 #[.int .i64 6, .int .i64 x] w fun e w' => e = .returned (.bool (inR x 0 63)) ∧ w = w' := by
  have h1 := inRange_any 6 0 30 w
  have h2 := inRange_any x 0 63 w
  rw [show inR 6 0 30 = true from by decide] at h1
  have H1 := hid h1; clear h1
  have H2 := hid h2; clear h2
  go_enter Try.func126, Try.ntmps126
  go_wp2_with fail
  refine H1.out.mono ?_; rintro e w' ⟨rfl, rfl⟩
  go_wp2_with fail
  refine H2.out.mono ?_; rintro e w' ⟨rfl, rfl⟩
  go_wp2_with fail
  go_ret
  exact ⟨rfl, rfl⟩
--
def bigL (l : List (List Nd)) : Bool := l.any fun x => decide (40 < x.length)
theorem limitedAll_1_any (x : List Nd) (u : Value) (w : World) (hu : Nds w u x) : Calls Try.prog 100 #[u] w fun e w' => e = .returned (.bool (decide (40 < x.length))) ∧ Keeps w w' := by
  obtain ⟨p, cap, rfl, hle, hmx, _, hlen⟩ := hu
  go_enter Try.func100, Try.ntmps100
  go_wp2
  go_ret
  exact ⟨ret_bool (by first | rfl | (apply decide_eq_decide.2; omega)), Keeps.refl _⟩
theorem enters_limitedAll_1 : Enters 100 := fun _ _ => by kernel_rfl
set_option maxRecDepth 20000 in
set_option maxHeartbeats 1000000 in
theorem limitedAll_any (l : List (List Nd)) (v : Value) (w : World) (hv : NdsL w v l) :
    Calls Try.prog 54 #[v] w fun e w' => e = .returned (.tuple #[if bigL l then .slice none 0 0 else v, .int .i64 (if bigL l then 3 else 0)]) ∧ Keeps w w' := by
  have HC := hid (containsFuncL (fun x => decide (40 < x.length)) 100 #[] l v w hv enters_limitedAll_1 (fun x u w1 _ _ h => limitedAll_1_any x u w1 h))
  obtain ⟨p, cap, rfl, _⟩ := hv
  cases hb : bigL l
  all_goals
    have Hb := hid hb; clear hb
    go_enter Try.func54, Try.ntmps54
    go_wp2_with fail
    refine HC.out.mono ?_; rintro e w2 ⟨rfl, k2⟩
    have h : (l.any fun x => decide (40 < x.length)) = _ := Hb.out
    rw [h]
    go_wp2_with fail
    go_ret2
    exact ⟨rfl, k2⟩
end Go.Proofs.Ytjmpiedjhdogeaa
