/- Walks of the small functions on numbers and of the reference's formula readers. -/
import Derived.Test.YtodeecmhcfbheaaGreatGBase
namespace Go.Proofs.YtodeecmhcfbheaaGreat
open Go.RowKit

def idxOf {α : Type} (pr : α → Bool) : List α → Nat → Int
  | [], _ => -1
  | x :: l, k => if pr x then k else idxOf pr l (k + 1)
theorem idxOf_any {α : Type} (pr : α → Bool) (l : List α) : ∀ k, decide (idxOf pr l k ≥ 0) = l.any pr := by
  induction l with
  | nil => intro k; simp [idxOf]
  | cons x l ih =>
    intro k
    cases h : pr x
    · have := ih (k + 1); simp only [idxOf, List.any_cons, h]; simpa using this
    · simp only [idxOf, h, List.any_cons]; simp
theorem idxOf_drop {α : Type} (pr : α → Bool) (l : List α) (k : Nat) (h : k < l.length) : idxOf pr (l.drop k) k = if pr l[k] then (k : Int) else idxOf pr (l.drop (k + 1)) (k + 1) := by
  rw [List.drop_eq_getElem_cons h]; rfl
theorem idxOf_end {α : Type} (pr : α → Bool) (l : List α) (k : Nat) (h : l.length ≤ k) : idxOf pr (l.drop k) k = -1 := by
  rw [List.drop_eq_nil_of_le h]; rfl
/-- the callee's text is there -/
def Enters (f : FuncId) : Prop := ∀ args w, (callFunc f args).run Tryz.prog w = .ok (.enter f args) w
def inR (x l h : Int) : Bool := decide (l ≤ x ∧ x ≤ h)
--
set_option maxHeartbeats 400000 in
theorem l01In_any (x l h : Int) (w : World) : Calls Tryz.prog 124 #[.int .i64 x, .int .i64 l, .int .i64 h] w fun e w' => e = .returned (.bool (inR x l h)) ∧ w = w' := by
  by_cases h1 : l ≤ x
  · by_cases h2 : x ≤ h
    all_goals
      go_enter Tryz.func124, Tryz.ntmps124
      go_wp2
      go_ret
      exact ⟨ret_bool (by simp [inR, *]), rfl⟩
  · go_enter Tryz.func124, Tryz.ntmps124
    go_wp2
    go_ret
    exact ⟨ret_bool (by simp [inR]; omega), rfl⟩
--
set_option maxHeartbeats 400000 in
theorem inRange_any (x l h : Int) (w : World) : Calls Tryz.prog 194 #[.int .i64 x, .int .i64 l, .int .i64 h] w fun e w' => e = .returned (.bool (inR x l h)) ∧ w = w' := by
  by_cases h1 : l ≤ x
  · by_cases h2 : x ≤ h
    all_goals
      go_enter Tryz.func194, Tryz.ntmps194
      go_wp2
      go_ret
      exact ⟨ret_bool (by simp [inR, *]), rfl⟩
  · go_enter Tryz.func194, Tryz.ntmps194
    go_wp2
    go_ret
    exact ⟨ret_bool (by simp [inR]; omega), rfl⟩
--
set_option maxHeartbeats 400000 in
theorem l02Parts_any (k : Int) (w : World) :
    Calls Tryz.prog 230 #[.int .i64 k] w fun e w' => e = .returned (.int .i64 (partsOf k)) ∧ w = w' := by
  go_enter Tryz.func230, Tryz.ntmps230
  go_wp2
  all_goals go_ret
  all_goals refine ⟨ret_int ?_, rfl⟩
  all_goals (simp_all [partsOf])
--
set_option maxHeartbeats 400000 in
theorem partsOf_any (k : Int) (w : World) :
    Calls Tryz.prog 207 #[.int .i64 k] w fun e w' => e = .returned (.int .i64 (partsOf k)) ∧ w = w' := by
  go_enter Tryz.func207, Tryz.ntmps207
  go_wp2
  all_goals go_ret
  all_goals refine ⟨ret_int ?_, rfl⟩
  all_goals (simp_all [partsOf])
--
set_option maxHeartbeats 400000 in
theorem l02Part_any (a : List Nd) (v : Value) (i : Int) (w : World) (hv : Nds w v a) (h0 : 0 ≤ i) (hi : i ≤ a.length) :
    Calls Tryz.prog 204 #[v, .int .i64 i] w fun e w' => e = .returned (.int .i64 (skipInt 1 a i.toNat)) ∧ w = w' := by
  obtain ⟨i, rfl⟩ := Int.eq_ofNat_of_zero_le h0
  rw [Int.toNat_natCast]
  obtain ⟨p, cap, rfl, hle, hmx, hr, hlen⟩ := hv
  unfold maxLen at hmx
  go_enter Tryz.func204, Tryz.ntmps204
  go_wp2
  go_loop [1, 4, 5] (fun i' r o => ∃ k op : Nat, k ≤ a.length ∧ op ≤ 1 + k ∧ skipInt 1 a i = skipInt op a k ∧ i' = .int .i64 k ∧ o = .int .i64 op ∧ r = .int .i64 0) (fun i _ _ => a.length - (intOf i).toNat)
  case atStart => exact ⟨i, 1, by omega, by omega, rfl, rfl, rfl, rfl⟩
  case round =>
    obtain ⟨k, op, hk, hop, hs, rfl, rfl, rfl⟩ := hrel
    have Hs := hid hs; clear hs
    by_cases h0 : 0 < op
    · by_cases hlt : k < a.length
      · obtain ⟨b, off, rfl, h1, h2⟩ := hr.nd k hlt
        have hp := partsOf_le a[k].k
        clear hr h2
        go_wp2_with (go_at_call 230; refine (l02Parts_any _ _).mono ?_; rintro e w' ⟨rfl, rfl⟩)
        go_round
        case rel => exact ⟨k + 1, op - 1 + partsOf a[k].k, by omega, by omega, by rw [Hs.out]; obtain ⟨q, rfl⟩ : ∃ q, op = q + 1 := ⟨op - 1, by omega⟩; exact skip_step q a k hlt, by go_num, by go_num, rfl⟩
        case measure => simp [intOf]; omega
      · go_wp2
        go_ret
        refine ⟨ret_int ?_, rfl⟩
        obtain ⟨q, rfl⟩ : ∃ q, op = q + 1 := ⟨op - 1, by omega⟩
        rw [Hs.out, skip_end _ _ _ (by omega)]
    · go_wp2
      go_ret
      refine ⟨ret_int ?_, rfl⟩
      obtain rfl : op = 0 := by omega
      rw [Hs.out, skip_zero _ _ hk]
--
set_option maxHeartbeats 400000 in
theorem partEnd_any (a : List Nd) (v : Value) (i : Int) (w : World) (hv : Nds w v a) (h0 : 0 ≤ i) (hi : i ≤ a.length) :
    Calls Tryz.prog 153 #[v, .int .i64 i] w fun e w' => e = .returned (.int .i64 (skipInt 1 a i.toNat)) ∧ w = w' := by
  obtain ⟨i, rfl⟩ := Int.eq_ofNat_of_zero_le h0
  rw [Int.toNat_natCast]
  obtain ⟨p, cap, rfl, hle, hmx, hr, hlen⟩ := hv
  unfold maxLen at hmx
  go_enter Tryz.func153, Tryz.ntmps153
  go_wp2
  go_loop [1, 4, 5] (fun i' r o => ∃ k op : Nat, k ≤ a.length ∧ op ≤ 1 + k ∧ skipInt 1 a i = skipInt op a k ∧ i' = .int .i64 k ∧ o = .int .i64 op ∧ r = .int .i64 0) (fun i _ _ => a.length - (intOf i).toNat)
  case atStart => exact ⟨i, 1, by omega, by omega, rfl, rfl, rfl, rfl⟩
  case round =>
    obtain ⟨k, op, hk, hop, hs, rfl, rfl, rfl⟩ := hrel
    have Hs := hid hs; clear hs
    by_cases h0 : 0 < op
    · by_cases hlt : k < a.length
      · obtain ⟨b, off, rfl, h1, h2⟩ := hr.nd k hlt
        have hp := partsOf_le a[k].k
        clear hr h2
        go_wp2_with (go_at_call 207; refine (partsOf_any _ _).mono ?_; rintro e w' ⟨rfl, rfl⟩)
        go_round
        case rel => exact ⟨k + 1, op - 1 + partsOf a[k].k, by omega, by omega, by rw [Hs.out]; obtain ⟨q, rfl⟩ : ∃ q, op = q + 1 := ⟨op - 1, by omega⟩; exact skip_step q a k hlt, by go_num, by go_num, rfl⟩
        case measure => simp [intOf]; omega
      · go_wp2
        go_ret
        refine ⟨ret_int ?_, rfl⟩
        obtain ⟨q, rfl⟩ : ∃ q, op = q + 1 := ⟨op - 1, by omega⟩
        rw [Hs.out, skip_end _ _ _ (by omega)]
    · go_wp2
      go_ret
      refine ⟨ret_int ?_, rfl⟩
      obtain rfl : op = 0 := by omega
      rw [Hs.out, skip_zero _ _ hk]
--
set_option maxHeartbeats 1000000 in
theorem l02Tree_any (a : List Nd) (v : Value) (w : World) (hv : Nds w v a) :
    Calls Tryz.prog 197 #[v] w fun e w' => e = .returned (.bool (isTree a)) ∧ w = w' := by
  have hv0 := hv
  obtain ⟨p, cap, rfl, hle, hmx, hr, hlen⟩ := hv
  unfold maxLen at hmx
  go_enter Tryz.func197, Tryz.ntmps197
  go_wp2
  go_loop [2, 3] (fun r i' => ∃ k : Nat, k ≤ a.length ∧ (∀ j (h : j < a.length), j < k → okNd a[j] = true) ∧ i' = .int .i64 k ∧ r = .bool false) (fun _ i => a.length - (intOf i).toNat)
  case atStart => exact ⟨0, by omega, by omega, rfl, rfl⟩
  case round =>
    obtain ⟨k, hk, hs, rfl, rfl⟩ := hrel
    have Hs := hid hs; clear hs
    by_cases hlt : k < a.length
    · obtain ⟨b, off, rfl, h1, h2⟩ := hr.nd k hlt
      clear hr hv0
      by_cases g1 : inR a[k].k 0 6 = true
      · by_cases g2 : inR a[k].s 0 5 = true
        · by_cases g3 : a[k].k = 0
          · have G3 := hid g3
            have g3' : (a[k].k != 0) = false := by simp [g3]
            clear g3
            go_wp2_with (go_at_call 124; refine (l01In_any _ _ _ _).mono ?_; rintro e w' ⟨rfl, rfl⟩)
            go_round
            case rel =>
              refine ⟨k + 1, by omega, ?_, by go_num, rfl⟩
              intro j hj hjk
              by_cases e : j = k
              · subst e; have := G3.out; simp [inR] at g2; simp [okNd, this]; omega
              · exact Hs.out j hj (by omega)
            case measure => simp [intOf]; omega
          · have g3' : (a[k].k != 0) = true := by simp [g3]
            have G3 := hid g3; clear g3
            by_cases g4 : a[k].s = 0
            · have G4 := hid g4
              have g4' : (a[k].s != 0) = false := by simp [g4]
              clear g4
              go_wp2_with (go_at_call 124; refine (l01In_any _ _ _ _).mono ?_; rintro e w' ⟨rfl, rfl⟩)
              go_round
              case rel =>
                refine ⟨k + 1, by omega, ?_, by go_num, rfl⟩
                intro j hj hjk
                by_cases e : j = k
                · subst e; have h3 := G3.out; have h4 := G4.out; simp [inR] at g1; simp [okNd, h3, h4]; omega
                · exact Hs.out j hj (by omega)
              case measure => simp [intOf]; omega
            · have g4' : (a[k].s != 0) = true := by simp [g4]
              have hbad : isTree a = false := by
                have : okNd a[k] = false := by have := G3.out; simp [okNd, this]; omega
                simp only [isTree, Bool.and_eq_false_iff]; left; rw [List.all_eq_false]; exact ⟨a[k], by simp, by simp [this]⟩
              have Hb := hid hbad; clear hbad g4
              go_wp2_with (go_at_call 124; refine (l01In_any _ _ _ _).mono ?_; rintro e w' ⟨rfl, rfl⟩)
              go_ret
              exact ⟨ret_bool Hb.out.symm, rfl⟩
        · have hbad : isTree a = false := by
            have : okNd a[k] = false := by simp [inR] at g1 g2; simp only [okNd]; split <;> simp <;> omega
            simp only [isTree, Bool.and_eq_false_iff]; left; rw [List.all_eq_false]; exact ⟨a[k], by simp, by simp [this]⟩
          have Hb := hid hbad; clear hbad
          simp only [Bool.not_eq_true] at g2
          go_wp2_with (go_at_call 124; refine (l01In_any _ _ _ _).mono ?_; rintro e w' ⟨rfl, rfl⟩)
          go_ret
          exact ⟨ret_bool Hb.out.symm, rfl⟩
      · have hbad : isTree a = false := by
          have : okNd a[k] = false := by simp [inR] at g1; simp only [okNd]; split <;> simp <;> omega
          simp only [isTree, Bool.and_eq_false_iff]; left; rw [List.all_eq_false]; exact ⟨a[k], by simp, by simp [this]⟩
        have Hb := hid hbad; clear hbad
        simp only [Bool.not_eq_true] at g1
        go_wp2_with (go_at_call 124; refine (l01In_any _ _ _ _).mono ?_; rintro e w' ⟨rfl, rfl⟩)
        go_ret
        exact ⟨ret_bool Hb.out.symm, rfl⟩
    · have hall : a.all okNd = true := by
        rw [List.all_eq_true]; intro x hx
        obtain ⟨j, hj, rfl⟩ := List.getElem_of_mem hx
        exact Hs.out j hj (by omega)
      have Ha := hid hall; clear hall
      by_cases h0 : 0 < a.length
      · go_wp2_with (go_at_call 204; refine (l02Part_any _ _ _ _ hv0 (by omega) (by omega)).mono ?_; rintro e w' ⟨rfl, rfl⟩)
        go_ret
        exact ⟨ret_bool (by simp [isTree, Ha.out]; omega), rfl⟩
      · go_wp2
        go_ret
        exact ⟨ret_bool (by simp [isTree]; omega), rfl⟩
end Go.Proofs.YtodeecmhcfbheaaGreat
/- Walks: the reference's small functions on formulas. -/
namespace Go.Proofs.YtodeecmhcfbheaaGreat
open Go.RowKit

/-- fresh nodes come back -/
def RetN (w : World) (a : List Nd) (e : Ending) (w' : World) : Prop := ∃ v, e = .returned v ∧ OwnN w' w.heap.size v a ∧ Keeps w w'
/-- nodes that were there come back -/
def RetS (w : World) (a : List Nd) (e : Ending) (w' : World) : Prop := ∃ v, e = .returned v ∧ Nds w v a ∧ w = w'
def plainL (a : List Nd) : Bool := a.all fun n => decide (n.k ≠ 5 ∧ n.k ≠ 6)

def plainErr (a : List Nd) : Int := if isFm a then (if plainL a then 0 else 5) else 1
--
set_option maxHeartbeats 400000 in
theorem l02Is_any (a : List Nd) (v : Value) (w : World) (hv : Nds w v a) :
    Calls Tryz.prog 135 #[v] w fun e w' => e = .returned (.bool (isFm a)) ∧ w = w' := by
  have hv0 := hv
  obtain ⟨p, cap, rfl, hle, hmx, hr, hlen⟩ := hv
  unfold maxLen at hmx
  by_cases h : a.length ≤ 40
  all_goals
    go_enter Tryz.func135, Tryz.ntmps135
    go_wp2_with (go_at_call 197; refine (l02Tree_any _ _ _ hv0).mono ?_; rintro e w' ⟨rfl, rfl⟩)
    go_ret
    exact ⟨ret_bool (by simp [isFm]; omega), rfl⟩
--
set_option maxHeartbeats 400000 in
theorem l02Plain_any (a : List Nd) (v : Value) (w : World) (hv : Nds w v a) :
    Calls Tryz.prog 147 #[v] w fun e w' => e = .returned (.bool (plainL a)) ∧ w = w' := by
  obtain ⟨p, cap, rfl, hle, hmx, hr, hlen⟩ := hv
  unfold maxLen at hmx
  go_enter Tryz.func147, Tryz.ntmps147
  go_wp2
  go_loop [2, 3] (fun r i' => ∃ k : Nat, k ≤ a.length ∧ (∀ j (h : j < a.length), j < k → a[j].k ≠ 5 ∧ a[j].k ≠ 6) ∧ i' = .int .i64 k ∧ r = .bool false) (fun _ i => a.length - (intOf i).toNat)
  case atStart => exact ⟨0, by omega, by omega, rfl, rfl⟩
  case round =>
    obtain ⟨k, hk, hs, rfl, rfl⟩ := hrel
    have Hs := hid hs; clear hs
    by_cases hlt : k < a.length
    · obtain ⟨b, off, rfl, h1, h2⟩ := hr.nd k hlt
      clear hr h2
      by_cases g1 : a[k].k = 5 ∨ a[k].k = 6
      · have hbad : plainL a = false := by
          simp only [plainL]; rw [List.all_eq_false]; exact ⟨a[k], by simp, by simp; omega⟩
        have Hb := hid hbad; clear hbad
        rcases g1 with g1 | g1
        · have g5 : (a[k].k == 5) = true := by simp [g1]
          clear g1
          go_wp2
          go_ret
          exact ⟨ret_bool Hb.out.symm, rfl⟩
        · have g5 : (a[k].k == 5) = false := by simp [g1]
          have g6 : (a[k].k == 6) = true := by simp [g1]
          clear g1
          go_wp2
          go_ret
          exact ⟨ret_bool Hb.out.symm, rfl⟩
      · have g5 : (a[k].k == 5) = false := by simp; omega
        have g6 : (a[k].k == 6) = false := by simp; omega
        have G1 := hid g1; clear g1
        go_wp2
        go_round
        case rel =>
          refine ⟨k + 1, by omega, ?_, by go_num, rfl⟩
          intro j hj hjk
          by_cases e : j = k
          · subst e; have := G1.out; omega
          · exact Hs.out j hj (by omega)
        case measure => simp [intOf]; omega
    · go_wp2
      go_ret
      refine ⟨ret_bool ?_, rfl⟩
      simp only [plainL]; symm; rw [List.all_eq_true]; intro x hx
      obtain ⟨j, hj, rfl⟩ := List.getElem_of_mem hx
      have := Hs.out j hj (by omega)
      simpa using this
--
set_option maxHeartbeats 400000 in
theorem l02Left_any (a : List Nd) (x : Nd) (t : Fm) (r : List Nd) (v : Value) (w : World) (hv : Nds w v a) (ha : a = x :: (t.enc ++ r)) :
    Calls Tryz.prog 148 #[v] w (RetS w t.enc) := by
  have hv0 := hv
  obtain ⟨p, cap, rfl, hle, hmx, hr, hlen⟩ := hv
  have hp := Fm.enc_pos t
  have hs : skipInt 1 a (1 : Int).toNat = 1 + t.enc.length := by subst ha; exact skipInt_enc [x] t r
  have hl : 1 + t.enc.length ≤ a.length := by subst ha; simp; omega
  obtain ⟨b, off, rfl⟩ := hr.ptrN (by omega)
  have hmx0 := hid hmx
  unfold maxLen at hmx
  have Ha := hid ha; clear ha
  have Hs := hid hs; clear hs
  have hc1 : ¬ cap = 1 := by omega
  go_enter Tryz.func148, Tryz.ntmps148
  go_wp2_with (go_at_call 204; refine (l02Part_any _ _ _ _ hv0 (by omega) (by omega)).mono ?_; rintro e w' ⟨rfl, rfl⟩; rw [Hs.out])
  go_ret
  have e := Ha.out
  rw [show x :: (t.enc ++ r) = [x] ++ (t.enc ++ r) from rfl] at e
  rw [e] at hr
  exact ⟨_, rfl, Nds.sub (l := [x]) (m := t.enc) (r := r) hr (by omega) (by simp) (by omega) (by omega) (by have := hmx0.out; omega), rfl⟩
--
set_option maxHeartbeats 400000 in
theorem l02Right_any (a : List Nd) (x : Nd) (t u : Fm) (v : Value) (w : World) (hv : Nds w v a) (ha : a = x :: (t.enc ++ u.enc)) :
    Calls Tryz.prog 149 #[v] w (RetS w u.enc) := by
  have hv0 := hv
  obtain ⟨p, cap, rfl, hle, hmx, hr, hlen⟩ := hv
  have hp := Fm.enc_pos u
  have hs : skipInt 1 a (1 : Int).toNat = 1 + t.enc.length := by subst ha; exact skipInt_enc [x] t u.enc
  have hl : a.length = 1 + t.enc.length + u.enc.length := by subst ha; simp; omega
  obtain ⟨b, off, rfl⟩ := hr.ptrN (by omega)
  have hmx0 := hid hmx
  unfold maxLen at hmx
  have Ha := hid ha; clear ha
  have Hs := hid hs; clear hs
  have hl1 : 1 + t.enc.length + u.enc.length ≤ a.length := by omega
  have Hl := hid hl; clear hl
  have hc1 : ¬ cap = 1 + t.enc.length := by omega
  go_enter Tryz.func149, Tryz.ntmps149
  go_wp2_with (go_at_call 204; refine (l02Part_any _ _ _ _ hv0 (by omega) (by omega)).mono ?_; rintro e w' ⟨rfl, rfl⟩; rw [Hs.out])
  go_ret
  have e := Ha.out
  rw [show x :: (t.enc ++ u.enc) = (x :: t.enc) ++ (u.enc ++ []) by simp] at e
  rw [e] at hr
  have e2 := Hl.out
  exact ⟨_, rfl, Nds.sub (l := x :: t.enc) (m := u.enc) (r := []) hr (by omega) (by simp; omega) (by omega) (by omega) (by have := hmx0.out; omega), rfl⟩
--
set_option maxHeartbeats 400000 in
theorem l02False_any (w : World) : Calls Tryz.prog 180 #[] w (RetN w Fm.fls.enc) := by
  go_enter Tryz.func180, Tryz.ntmps180
  go_wp2
  go_ret
  exact ⟨_, rfl, OwnN.lit1 w ⟨1, 0⟩, (Keeps.refl w).alloc _⟩
--
set_option maxHeartbeats 400000 in
theorem l02Pair_any (k : Int) (a b : List Nd) (va vb : Value) (w : World) (hva : Nds w va a) (hvb : Nds w vb b) (hl : 1 + a.length + b.length ≤ 2147483648) :
    Calls Tryz.prog 131 #[.int .i64 k, va, vb] w (RetN w (⟨k, 0⟩ :: (a ++ b))) := by
  go_enter Tryz.func131, Tryz.ntmps131
  have h1 := OwnN.lit1 w ⟨k, 0⟩
  have k1 := (Keeps.refl w).alloc (.cells #[.int .i64 k, .int .i64 0] 73)
  have ha1 := hva.keeps k1
  go_wp2_with (first | (at_builtin; refine appN rfl (.tmp 9) (.tmp 10) rfl w.heap.size _ [⟨k, 0⟩] rfl h1 _ a rfl ha1 (by simp) (by simp; omega) ?_; intro v1 w1 hv1 hg1 hr1; have k2 : Keeps w w1 := k1.grown hg1 hr1; have hb1 := hvb.keeps k2) | (at_builtin; refine appN rfl (.tmp 11) (.tmp 12) rfl w.heap.size _ ([⟨k, 0⟩] ++ a) rfl (by assumption) _ b rfl (by assumption) (by have := k2.size; omega) (by simp; omega) ?_; intro v2 w2 hv2 hg2 hr2; have k3 : Keeps w w2 := k2.grown hg2 hr2))
  go_ret
  exact ⟨_, rfl, by simpa using hv2, k3⟩
--
set_option maxHeartbeats 400000 in
theorem l02Not_any (t : Fm) (v : Value) (w : World) (hv : Nds w v t.enc) (hl : t.enc.length ≤ 1073741824) :
    Calls Tryz.prog 137 #[v] w (RetN w (Fm.not t).enc) := by
  go_enter Tryz.func137, Tryz.ntmps137
  go_wp2_with (first | (go_at_call 180; refine (l02False_any _).mono ?_; rintro e w1 ⟨v1, rfl, hv1, k1⟩) | (go_at_call 131; refine (l02Pair_any _ _ _ _ _ _ (hv.keeps k1) (hv1.nds (by simp [Fm.enc])) (by simp [Fm.enc]; omega)).mono ?_; rintro e w2 ⟨v2, rfl, hv2, k2⟩))
  go_ret
  exact ⟨_, rfl, hv2.mono k1.size, k1.trans k2⟩
--
/-- an owned formula goes through, or is too long -/
def madeL (a : List Nd) : List Nd × Int := if a.length ≤ 40 then (a, 0) else ([], 3)
theorem l02Made_any (a : List Nd) (v : Value) (w : World) (hv : Nds w v a) :
    Calls Tryz.prog 136 #[v] w fun e w' => e = .returned (.tuple #[if a.length ≤ 40 then v else .slice none 0 0, .int .i64 (madeL a).2]) ∧ w = w' := by
  obtain ⟨p, cap, rfl, hle, hmx, hr, hlen⟩ := hv
  unfold maxLen at hmx
  by_cases h : a.length ≤ 40
  all_goals
    go_enter Tryz.func136, Tryz.ntmps136
    go_wp2
    go_ret2
    exact ⟨by simp [h, madeL], rfl⟩
--
theorem made_own {w : World} {B : Nat} {v : Value} {a : List Nd} (h : OwnN w B v a) : OwnN w B (if a.length ≤ 40 then v else .slice none 0 0) (madeL a).1 := by
  unfold madeL
  by_cases h4 : a.length ≤ 40
  · rw [if_pos h4, if_pos h4]; exact h
  · rw [if_neg h4, if_neg h4]; exact OwnN.nil _ _
theorem madeL_len (a : List Nd) : (madeL a).1.length ≤ 40 := by unfold madeL; split <;> simp; omega
theorem l02Made_own (a : List Nd) (v : Value) (w : World) (B : Nat) (hv : OwnN w B v a) (hl : a.length ≤ 2147483648) :
    Calls Tryz.prog 136 #[v] w fun e w' => ∃ u, e = .returned (.tuple #[u, .int .i64 (madeL a).2]) ∧ OwnN w' B u (madeL a).1 ∧ w = w' :=
  (l02Made_any a v w (hv.nds hl)).mono fun e w' ⟨he, hw⟩ => ⟨_, he, by subst hw; exact made_own hv, hw⟩
--
set_option maxHeartbeats 400000 in
theorem l29Code_any (a : List Nd) (v : Value) (w : World) (hv : Nds w v a) :
    Calls Tryz.prog 64 #[v] w fun e w' => e = .returned (.int .i64 (plainErr a)) ∧ w = w' := by
  have h1 := l02Is_any a v
  have h2 := l02Plain_any a v
  cases hf : isFm a <;> cases hp : plainL a <;> rw [hf] at h1 <;> rw [hp] at h2
  all_goals
    have Hf := hid hf; clear hf
    have Hp := hid hp; clear hp
    have H1 := hid h1; clear h1
    have H2 := hid h2; clear h2
    go_enter Tryz.func64, Tryz.ntmps64
    go_wp2_with (first | (go_at_call 135; refine (H1.out _ hv).mono ?_; rintro e w' ⟨rfl, rfl⟩) | (go_at_call 147; refine (H2.out _ hv).mono ?_; rintro e w' ⟨rfl, rfl⟩))
    go_ret
    exact ⟨ret_int (by simp [plainErr, Hf.out, Hp.out]), rfl⟩
--
set_option maxHeartbeats 1000000 in
theorem l29Harrop_any (t : Fm) : ∀ (v : Value) (w : World), Nds w v t.enc →
    Calls Tryz.prog 65 #[v] w fun e w' => e = .returned (.bool t.harrop) ∧ w = w' := by
  induction t with
  | and x y ihx ihy =>
    intro v w hv
    have HX := hid ihx; clear ihx
    have HY := hid ihy; clear ihy
    have hv0 := hv
    obtain ⟨b, off, n, cap, rfl, h0, h1, h2, h3, hc, _⟩ := hv.head
    clear hv
    cases hx : x.harrop
    all_goals
      have Hx := hid hx; clear hx
      go_enter Tryz.func65, Tryz.ntmps65
      go_wp2_with (first
        | (go_at_call 148; refine (l02Left_any _ _ x y.enc _ _ hv0 rfl).mono ?_; rintro e w' ⟨v1, rfl, hv1, rfl⟩)
        | (go_at_call 149; refine (l02Right_any _ _ x y _ _ hv0 rfl).mono ?_; rintro e w' ⟨v2, rfl, hv2, rfl⟩)
        | (go_at_call 65; first | ((with_reducible refine (HX.out v1 _ hv1).mono ?_); rintro e w' ⟨rfl, rfl⟩; rw [Hx.out]) | ((with_reducible refine (HY.out v2 _ hv2).mono ?_); rintro e w' ⟨rfl, rfl⟩)))
      go_ret
      exact ⟨ret_bool (by simp [Fm.harrop, Hx.out]), rfl⟩
  | imp x y ihx ihy =>
    intro v w hv
    have HY := hid ihy; clear ihy ihx
    have hv0 := hv
    obtain ⟨b, off, n, cap, rfl, h0, h1, h2, h3, hc, _⟩ := hv.head
    clear hv
    go_enter Tryz.func65, Tryz.ntmps65
    go_wp2_with (first
        | (go_at_call 149; refine (l02Right_any _ _ x y _ _ hv0 rfl).mono ?_; rintro e w' ⟨v2, rfl, hv2, rfl⟩)
        | (go_at_call 65; refine (HY.out v2 _ hv2).mono ?_; rintro e w' ⟨rfl, rfl⟩))
    go_ret
    exact ⟨ret_bool (by simp [Fm.harrop]), rfl⟩
  | _ =>
    intro v w hv
    obtain ⟨b, off, n, cap, rfl, h0, h1, h2, h3, hc, _⟩ := hv.head
    clear hv
    go_enter Tryz.func65, Tryz.ntmps65
    go_wp2
    go_ret
    exact ⟨ret_bool (by simp [Fm.harrop]), rfl⟩
end Go.Proofs.YtodeecmhcfbheaaGreat
