/- Walks: the reference's small functions on formulas. -/
import Derived.Test.YtffjmnimnmmemaaW1
namespace Go.Proofs.Ytffjmnimnmmemaa
open Go.RowKit

/-- fresh nodes come back -/
def RetN (w : World) (a : List Nd) (e : Ending) (w' : World) : Prop := ∃ v, e = .returned v ∧ OwnN w' w.heap.size v a ∧ Keeps w w'
/-- nodes that were there come back -/
def RetS (w : World) (a : List Nd) (e : Ending) (w' : World) : Prop := ∃ v, e = .returned v ∧ Nds w v a ∧ w = w'
def plainL (a : List Nd) : Bool := a.all fun n => decide (n.k ≠ 5 ∧ n.k ≠ 6)

--
set_option maxHeartbeats 400000 in
theorem l02Is_any (a : List Nd) (v : Value) (w : World) (hv : Nds w v a) :
    Calls Try.prog 115 #[v] w fun e w' => e = .returned (.bool (isFm a)) ∧ w = w' := by
  have hv0 := hv
  obtain ⟨p, cap, rfl, hle, hmx, hr, hlen⟩ := hv
  unfold maxLen at hmx
  by_cases h : a.length ≤ 40
  all_goals
    go_enter Try.func115, Try.ntmps115
    go_wp2_with (go_at_call 186; refine (l02Tree_any _ _ _ hv0).mono ?_; rintro e w' ⟨rfl, rfl⟩)
    go_ret
    exact ⟨ret_bool (by simp [isFm]; omega), rfl⟩
--
set_option maxHeartbeats 400000 in
theorem l02Plain_any (a : List Nd) (v : Value) (w : World) (hv : Nds w v a) :
    Calls Try.prog 116 #[v] w fun e w' => e = .returned (.bool (plainL a)) ∧ w = w' := by
  obtain ⟨p, cap, rfl, hle, hmx, hr, hlen⟩ := hv
  unfold maxLen at hmx
  go_enter Try.func116, Try.ntmps116
  go_wp2
  go_loop [2, 3] (fun r i' => ∃ k : Nat, k ≤ a.length ∧ (∀ j (h : j < a.length), j < k → a[j].k ≠ 5 ∧ a[j].k ≠ 6) ∧ i' = .int .i64 k ∧ r = .bool false) (fun _ i => a.length - (intOf i).toNat)
  case atStart => exact ⟨0, by omega, by omega, rfl, rfl⟩
  case round =>
    obtain ⟨k, hk, hs, rfl, rfl⟩ := hrel
    have Hs := hid hs; clear hs
    by_cases hlt : k < a.length
    · obtain ⟨b, off, rfl, h1, h2⟩ := hr.nd k hlt
      clear hr h2
      by_cases g1 : a[k].k = 5 ∨ a[k].k = 6
      · have hbad : plainL a = false := by
          simp only [plainL]; rw [List.all_eq_false]; exact ⟨a[k], by simp, by simp; omega⟩
        have Hb := hid hbad; clear hbad
        rcases g1 with g1 | g1
        · have g5 : (a[k].k == 5) = true := by simp [g1]
          clear g1
          go_wp2
          go_ret
          exact ⟨ret_bool Hb.out.symm, rfl⟩
        · have g5 : (a[k].k == 5) = false := by simp [g1]
          have g6 : (a[k].k == 6) = true := by simp [g1]
          clear g1
          go_wp2
          go_ret
          exact ⟨ret_bool Hb.out.symm, rfl⟩
      · have g5 : (a[k].k == 5) = false := by simp; omega
        have g6 : (a[k].k == 6) = false := by simp; omega
        have G1 := hid g1; clear g1
        go_wp2
        go_round
        case rel =>
          refine ⟨k + 1, by omega, ?_, by go_num, rfl⟩
          intro j hj hjk
          by_cases e : j = k
          · subst e; have := G1.out; omega
          · exact Hs.out j hj (by omega)
        case measure => simp [intOf]; omega
    · go_wp2
      go_ret
      refine ⟨ret_bool ?_, rfl⟩
      simp only [plainL]; symm; rw [List.all_eq_true]; intro x hx
      obtain ⟨j, hj, rfl⟩ := List.getElem_of_mem hx
      have := Hs.out j hj (by omega)
      simpa using this
--
set_option maxHeartbeats 400000 in
theorem l02Left_any (a : List Nd) (x : Nd) (t : Fm) (r : List Nd) (v : Value) (w : World) (hv : Nds w v a) (ha : a = x :: (t.enc ++ r)) :
    Calls Try.prog 119 #[v] w (RetS w t.enc) := by
  have hv0 := hv
  obtain ⟨p, cap, rfl, hle, hmx, hr, hlen⟩ := hv
  have hp := Fm.enc_pos t
  have hs : skipInt 1 a (1 : Int).toNat = 1 + t.enc.length := by subst ha; exact skipInt_enc [x] t r
  have hl : 1 + t.enc.length ≤ a.length := by subst ha; simp; omega
  obtain ⟨b, off, rfl⟩ := hr.ptrN (by omega)
  have hmx0 := hid hmx
  unfold maxLen at hmx
  have Ha := hid ha; clear ha
  have Hs := hid hs; clear hs
  have hc1 : ¬ cap = 1 := by omega
  go_enter Try.func119, Try.ntmps119
  go_wp2_with (go_at_call 187; refine (l02Part_any _ _ _ _ hv0 (by omega) (by omega)).mono ?_; rintro e w' ⟨rfl, rfl⟩; rw [Hs.out])
  go_ret
  have e := Ha.out
  rw [show x :: (t.enc ++ r) = [x] ++ (t.enc ++ r) from rfl] at e
  rw [e] at hr
  exact ⟨_, rfl, Nds.sub (l := [x]) (m := t.enc) (r := r) hr (by omega) (by simp) (by omega) (by omega) (by have := hmx0.out; omega), rfl⟩
--
set_option maxHeartbeats 400000 in
theorem l02Right_any (a : List Nd) (x : Nd) (t u : Fm) (v : Value) (w : World) (hv : Nds w v a) (ha : a = x :: (t.enc ++ u.enc)) :
    Calls Try.prog 120 #[v] w (RetS w u.enc) := by
  have hv0 := hv
  obtain ⟨p, cap, rfl, hle, hmx, hr, hlen⟩ := hv
  have hp := Fm.enc_pos u
  have hs : skipInt 1 a (1 : Int).toNat = 1 + t.enc.length := by subst ha; exact skipInt_enc [x] t u.enc
  have hl : a.length = 1 + t.enc.length + u.enc.length := by subst ha; simp; omega
  obtain ⟨b, off, rfl⟩ := hr.ptrN (by omega)
  have hmx0 := hid hmx
  unfold maxLen at hmx
  have Ha := hid ha; clear ha
  have Hs := hid hs; clear hs
  have hl1 : 1 + t.enc.length + u.enc.length ≤ a.length := by omega
  have Hl := hid hl; clear hl
  have hc1 : ¬ cap = 1 + t.enc.length := by omega
  go_enter Try.func120, Try.ntmps120
  go_wp2_with (go_at_call 187; refine (l02Part_any _ _ _ _ hv0 (by omega) (by omega)).mono ?_; rintro e w' ⟨rfl, rfl⟩; rw [Hs.out])
  go_ret
  have e := Ha.out
  rw [show x :: (t.enc ++ u.enc) = (x :: t.enc) ++ (u.enc ++ []) by simp] at e
  rw [e] at hr
  have e2 := Hl.out
  exact ⟨_, rfl, Nds.sub (l := x :: t.enc) (m := u.enc) (r := []) hr (by omega) (by simp; omega) (by omega) (by omega) (by have := hmx0.out; omega), rfl⟩
--
set_option maxHeartbeats 400000 in
theorem l02False_any (w : World) : Calls Try.prog 226 #[] w (RetN w Fm.fls.enc) := by
  go_enter Try.func226, Try.ntmps226
  go_wp2
  go_ret
  exact ⟨_, rfl, OwnN.lit1 w ⟨1, 0⟩, (Keeps.refl w).alloc _⟩
--
set_option maxHeartbeats 400000 in
theorem l02Pair_any (k : Int) (a b : List Nd) (va vb : Value) (w : World) (hva : Nds w va a) (hvb : Nds w vb b) (hl : 1 + a.length + b.length ≤ 2147483648) :
    Calls Try.prog 69 #[.int .i64 k, va, vb] w (RetN w (⟨k, 0⟩ :: (a ++ b))) := by
  go_enter Try.func69, Try.ntmps69
  have h1 := OwnN.lit1 w ⟨k, 0⟩
  have k1 := (Keeps.refl w).alloc (.cells #[.int .i64 k, .int .i64 0] 85)
  have ha1 := hva.keeps k1
  go_wp2_with (first | (at_builtin; refine appN rfl (.tmp 9) (.tmp 10) rfl w.heap.size _ [⟨k, 0⟩] rfl h1 _ a rfl ha1 (by simp) (by simp; omega) ?_; intro v1 w1 hv1 hg1 hr1; have k2 : Keeps w w1 := k1.grown hg1 hr1; have hb1 := hvb.keeps k2) | (at_builtin; refine appN rfl (.tmp 11) (.tmp 12) rfl w.heap.size _ ([⟨k, 0⟩] ++ a) rfl (by assumption) _ b rfl (by assumption) (by have := k2.size; omega) (by simp; omega) ?_; intro v2 w2 hv2 hg2 hr2; have k3 : Keeps w w2 := k2.grown hg2 hr2))
  go_ret
  exact ⟨_, rfl, by simpa using hv2, k3⟩
--
set_option maxHeartbeats 400000 in
theorem l02Not_any (t : Fm) (v : Value) (w : World) (hv : Nds w v t.enc) (hl : t.enc.length ≤ 1073741824) :
    Calls Try.prog 228 #[v] w (RetN w (Fm.not t).enc) := by
  go_enter Try.func228, Try.ntmps228
  go_wp2_with (first | (go_at_call 226; refine (l02False_any _).mono ?_; rintro e w1 ⟨v1, rfl, hv1, k1⟩) | (go_at_call 69; refine (l02Pair_any _ _ _ _ _ _ (hv.keeps k1) (hv1.nds (by simp [Fm.enc])) (by simp [Fm.enc]; omega)).mono ?_; rintro e w2 ⟨v2, rfl, hv2, k2⟩))
  go_ret
  exact ⟨_, rfl, hv2.mono k1.size, k1.trans k2⟩
--
/-- an owned formula goes through, or is too long -/
def madeL (a : List Nd) : List Nd × Int := if a.length ≤ 40 then (a, 0) else ([], 3)
theorem l02Made_any (a : List Nd) (v : Value) (w : World) (hv : Nds w v a) :
    Calls Try.prog 54 #[v] w fun e w' => e = .returned (.tuple #[if a.length ≤ 40 then v else .slice none 0 0, .int .i64 (madeL a).2]) ∧ w = w' := by
  obtain ⟨p, cap, rfl, hle, hmx, hr, hlen⟩ := hv
  unfold maxLen at hmx
  by_cases h : a.length ≤ 40
  all_goals
    go_enter Try.func54, Try.ntmps54
    go_wp2
    go_ret2
    exact ⟨by simp [h, madeL], rfl⟩
--
theorem made_own {w : World} {B : Nat} {v : Value} {a : List Nd} (h : OwnN w B v a) : OwnN w B (if a.length ≤ 40 then v else .slice none 0 0) (madeL a).1 := by
  unfold madeL
  by_cases h4 : a.length ≤ 40
  · rw [if_pos h4, if_pos h4]; exact h
  · rw [if_neg h4, if_neg h4]; exact OwnN.nil _ _
theorem madeL_len (a : List Nd) : (madeL a).1.length ≤ 40 := by unfold madeL; split <;> simp; omega
theorem l02Made_own (a : List Nd) (v : Value) (w : World) (B : Nat) (hv : OwnN w B v a) (hl : a.length ≤ 2147483648) :
    Calls Try.prog 54 #[v] w fun e w' => ∃ u, e = .returned (.tuple #[u, .int .i64 (madeL a).2]) ∧ OwnN w' B u (madeL a).1 ∧ w = w' :=
  (l02Made_any a v w (hv.nds hl)).mono fun e w' ⟨he, hw⟩ => ⟨_, he, by subst hw; exact made_own hv, hw⟩
--
def plainErr (a : List Nd) : Int := if isFm a then (if plainL a then 0 else 5) else 1
set_option maxHeartbeats 400000 in
theorem l29Code_any (a : List Nd) (v : Value) (w : World) (hv : Nds w v a) :
    Calls Try.prog 53 #[v] w fun e w' => e = .returned (.int .i64 (plainErr a)) ∧ w = w' := by
  have h1 := l02Is_any a v
  have h2 := l02Plain_any a v
  cases hf : isFm a <;> cases hp : plainL a <;> rw [hf] at h1 <;> rw [hp] at h2
  all_goals
    have Hf := hid hf; clear hf
    have Hp := hid hp; clear hp
    have H1 := hid h1; clear h1
    have H2 := hid h2; clear h2
    go_enter Try.func53, Try.ntmps53
    go_wp2_with (first | (go_at_call 115; refine (H1.out _ hv).mono ?_; rintro e w' ⟨rfl, rfl⟩) | (go_at_call 116; refine (H2.out _ hv).mono ?_; rintro e w' ⟨rfl, rfl⟩))
    go_ret
    exact ⟨ret_int (by simp [plainErr, Hf.out, Hp.out]), rfl⟩
end Go.Proofs.Ytffjmnimnmmemaa
