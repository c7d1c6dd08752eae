/- Walks of the small functions on numbers and of the reference's formula readers. -/
import Derived.Test.YtpbbfoliabgkpaaGreatGBase
namespace Go.Proofs.YtpbbfoliabgkpaaGreat
open Go.RowKit

def idxOf {α : Type} (pr : α → Bool) : List α → Nat → Int
  | [], _ => -1
  | x :: l, k => if pr x then k else idxOf pr l (k + 1)
theorem idxOf_any {α : Type} (pr : α → Bool) (l : List α) : ∀ k, decide (idxOf pr l k ≥ 0) = l.any pr := by
  induction l with
  | nil => intro k; simp [idxOf]
  | cons x l ih =>
    intro k
    cases h : pr x
    · have := ih (k + 1); simp only [idxOf, List.any_cons, h]; simpa using this
    · simp only [idxOf, h, List.any_cons]; simp
theorem idxOf_drop {α : Type} (pr : α → Bool) (l : List α) (k : Nat) (h : k < l.length) : idxOf pr (l.drop k) k = if pr l[k] then (k : Int) else idxOf pr (l.drop (k + 1)) (k + 1) := by
  rw [List.drop_eq_getElem_cons h]; rfl
theorem idxOf_end {α : Type} (pr : α → Bool) (l : List α) (k : Nat) (h : l.length ≤ k) : idxOf pr (l.drop k) k = -1 := by
  rw [List.drop_eq_nil_of_le h]; rfl
/-- the callee's text is there -/
def Enters (f : FuncId) : Prop := ∀ args w, (callFunc f args).run Tryz.prog w = .ok (.enter f args) w
def inR (x l h : Int) : Bool := decide (l ≤ x ∧ x ≤ h)
--
set_option maxHeartbeats 400000 in
theorem l01In_any (x l h : Int) (w : World) : Calls Tryz.prog 118 #[.int .i64 x, .int .i64 l, .int .i64 h] w fun e w' => e = .returned (.bool (inR x l h)) ∧ w = w' := by
  by_cases h1 : l ≤ x
  · by_cases h2 : x ≤ h
    all_goals
      go_enter Tryz.func118, Tryz.ntmps118
      go_wp2
      go_ret
      exact ⟨ret_bool (by simp [inR, *]), rfl⟩
  · go_enter Tryz.func118, Tryz.ntmps118
    go_wp2
    go_ret
    exact ⟨ret_bool (by simp [inR]; omega), rfl⟩
--
set_option maxHeartbeats 400000 in
theorem inRange_any (x l h : Int) (w : World) : Calls Tryz.prog 204 #[.int .i64 x, .int .i64 l, .int .i64 h] w fun e w' => e = .returned (.bool (inR x l h)) ∧ w = w' := by
  by_cases h1 : l ≤ x
  · by_cases h2 : x ≤ h
    all_goals
      go_enter Tryz.func204, Tryz.ntmps204
      go_wp2
      go_ret
      exact ⟨ret_bool (by simp [inR, *]), rfl⟩
  · go_enter Tryz.func204, Tryz.ntmps204
    go_wp2
    go_ret
    exact ⟨ret_bool (by simp [inR]; omega), rfl⟩
--
set_option maxHeartbeats 400000 in
theorem l02Parts_any (k : Int) (w : World) :
    Calls Tryz.prog 271 #[.int .i64 k] w fun e w' => e = .returned (.int .i64 (partsOf k)) ∧ w = w' := by
  go_enter Tryz.func271, Tryz.ntmps271
  go_wp2
  all_goals go_ret
  all_goals refine ⟨ret_int ?_, rfl⟩
  all_goals (simp_all [partsOf])
--
set_option maxHeartbeats 400000 in
theorem partsOf_any (k : Int) (w : World) :
    Calls Tryz.prog 233 #[.int .i64 k] w fun e w' => e = .returned (.int .i64 (partsOf k)) ∧ w = w' := by
  go_enter Tryz.func233, Tryz.ntmps233
  go_wp2
  all_goals go_ret
  all_goals refine ⟨ret_int ?_, rfl⟩
  all_goals (simp_all [partsOf])
--
set_option maxHeartbeats 400000 in
theorem l02Part_any (a : List Nd) (v : Value) (i : Int) (w : World) (hv : Nds w v a) (h0 : 0 ≤ i) (hi : i ≤ a.length) :
    Calls Tryz.prog 230 #[v, .int .i64 i] w fun e w' => e = .returned (.int .i64 (skipInt 1 a i.toNat)) ∧ w = w' := by
  obtain ⟨i, rfl⟩ := Int.eq_ofNat_of_zero_le h0
  rw [Int.toNat_natCast]
  obtain ⟨p, cap, rfl, hle, hmx, hr, hlen⟩ := hv
  unfold maxLen at hmx
  go_enter Tryz.func230, Tryz.ntmps230
  go_wp2
  go_loop [1, 4, 5] (fun i' r o => ∃ k op : Nat, k ≤ a.length ∧ op ≤ 1 + k ∧ skipInt 1 a i = skipInt op a k ∧ i' = .int .i64 k ∧ o = .int .i64 op ∧ r = .int .i64 0) (fun i _ _ => a.length - (intOf i).toNat)
  case atStart => exact ⟨i, 1, by omega, by omega, rfl, rfl, rfl, rfl⟩
  case round =>
    obtain ⟨k, op, hk, hop, hs, rfl, rfl, rfl⟩ := hrel
    have Hs := hid hs; clear hs
    by_cases h0 : 0 < op
    · by_cases hlt : k < a.length
      · obtain ⟨b, off, rfl, h1, h2⟩ := hr.nd k hlt
        have hp := partsOf_le a[k].k
        clear hr h2
        go_wp2_with (go_at_call 271; refine (l02Parts_any _ _).mono ?_; rintro e w' ⟨rfl, rfl⟩)
        go_round
        case rel => exact ⟨k + 1, op - 1 + partsOf a[k].k, by omega, by omega, by rw [Hs.out]; obtain ⟨q, rfl⟩ : ∃ q, op = q + 1 := ⟨op - 1, by omega⟩; exact skip_step q a k hlt, by go_num, by go_num, rfl⟩
        case measure => simp [intOf]; omega
      · go_wp2
        go_ret
        refine ⟨ret_int ?_, rfl⟩
        obtain ⟨q, rfl⟩ : ∃ q, op = q + 1 := ⟨op - 1, by omega⟩
        rw [Hs.out, skip_end _ _ _ (by omega)]
    · go_wp2
      go_ret
      refine ⟨ret_int ?_, rfl⟩
      obtain rfl : op = 0 := by omega
      rw [Hs.out, skip_zero _ _ hk]
--
set_option maxHeartbeats 400000 in
theorem partEnd_any (a : List Nd) (v : Value) (i : Int) (w : World) (hv : Nds w v a) (h0 : 0 ≤ i) (hi : i ≤ a.length) :
    Calls Tryz.prog 163 #[v, .int .i64 i] w fun e w' => e = .returned (.int .i64 (skipInt 1 a i.toNat)) ∧ w = w' := by
  obtain ⟨i, rfl⟩ := Int.eq_ofNat_of_zero_le h0
  rw [Int.toNat_natCast]
  obtain ⟨p, cap, rfl, hle, hmx, hr, hlen⟩ := hv
  unfold maxLen at hmx
  go_enter Tryz.func163, Tryz.ntmps163
  go_wp2
  go_loop [1, 4, 5] (fun i' r o => ∃ k op : Nat, k ≤ a.length ∧ op ≤ 1 + k ∧ skipInt 1 a i = skipInt op a k ∧ i' = .int .i64 k ∧ o = .int .i64 op ∧ r = .int .i64 0) (fun i _ _ => a.length - (intOf i).toNat)
  case atStart => exact ⟨i, 1, by omega, by omega, rfl, rfl, rfl, rfl⟩
  case round =>
    obtain ⟨k, op, hk, hop, hs, rfl, rfl, rfl⟩ := hrel
    have Hs := hid hs; clear hs
    by_cases h0 : 0 < op
    · by_cases hlt : k < a.length
      · obtain ⟨b, off, rfl, h1, h2⟩ := hr.nd k hlt
        have hp := partsOf_le a[k].k
        clear hr h2
        go_wp2_with (go_at_call 233; refine (partsOf_any _ _).mono ?_; rintro e w' ⟨rfl, rfl⟩)
        go_round
        case rel => exact ⟨k + 1, op - 1 + partsOf a[k].k, by omega, by omega, by rw [Hs.out]; obtain ⟨q, rfl⟩ : ∃ q, op = q + 1 := ⟨op - 1, by omega⟩; exact skip_step q a k hlt, by go_num, by go_num, rfl⟩
        case measure => simp [intOf]; omega
      · go_wp2
        go_ret
        refine ⟨ret_int ?_, rfl⟩
        obtain ⟨q, rfl⟩ : ∃ q, op = q + 1 := ⟨op - 1, by omega⟩
        rw [Hs.out, skip_end _ _ _ (by omega)]
    · go_wp2
      go_ret
      refine ⟨ret_int ?_, rfl⟩
      obtain rfl : op = 0 := by omega
      rw [Hs.out, skip_zero _ _ hk]
--
set_option maxHeartbeats 1000000 in
theorem l02Tree_any (a : List Nd) (v : Value) (w : World) (hv : Nds w v a) :
    Calls Tryz.prog 207 #[v] w fun e w' => e = .returned (.bool (isTree a)) ∧ w = w' := by
  have hv0 := hv
  obtain ⟨p, cap, rfl, hle, hmx, hr, hlen⟩ := hv
  unfold maxLen at hmx
  go_enter Tryz.func207, Tryz.ntmps207
  go_wp2
  go_loop [2, 3] (fun r i' => ∃ k : Nat, k ≤ a.length ∧ (∀ j (h : j < a.length), j < k → okNd a[j] = true) ∧ i' = .int .i64 k ∧ r = .bool false) (fun _ i => a.length - (intOf i).toNat)
  case atStart => exact ⟨0, by omega, by omega, rfl, rfl⟩
  case round =>
    obtain ⟨k, hk, hs, rfl, rfl⟩ := hrel
    have Hs := hid hs; clear hs
    by_cases hlt : k < a.length
    · obtain ⟨b, off, rfl, h1, h2⟩ := hr.nd k hlt
      clear hr hv0
      by_cases g1 : inR a[k].k 0 6 = true
      · by_cases g2 : inR a[k].s 0 5 = true
        · by_cases g3 : a[k].k = 0
          · have G3 := hid g3
            have g3' : (a[k].k != 0) = false := by simp [g3]
            clear g3
            go_wp2_with (go_at_call 118; refine (l01In_any _ _ _ _).mono ?_; rintro e w' ⟨rfl, rfl⟩)
            go_round
            case rel =>
              refine ⟨k + 1, by omega, ?_, by go_num, rfl⟩
              intro j hj hjk
              by_cases e : j = k
              · subst e; have := G3.out; simp [inR] at g2; simp [okNd, this]; omega
              · exact Hs.out j hj (by omega)
            case measure => simp [intOf]; omega
          · have g3' : (a[k].k != 0) = true := by simp [g3]
            have G3 := hid g3; clear g3
            by_cases g4 : a[k].s = 0
            · have G4 := hid g4
              have g4' : (a[k].s != 0) = false := by simp [g4]
              clear g4
              go_wp2_with (go_at_call 118; refine (l01In_any _ _ _ _).mono ?_; rintro e w' ⟨rfl, rfl⟩)
              go_round
              case rel =>
                refine ⟨k + 1, by omega, ?_, by go_num, rfl⟩
                intro j hj hjk
                by_cases e : j = k
                · subst e; have h3 := G3.out; have h4 := G4.out; simp [inR] at g1; simp [okNd, h3, h4]; omega
                · exact Hs.out j hj (by omega)
              case measure => simp [intOf]; omega
            · have g4' : (a[k].s != 0) = true := by simp [g4]
              have hbad : isTree a = false := by
                have : okNd a[k] = false := by have := G3.out; simp [okNd, this]; omega
                simp only [isTree, Bool.and_eq_false_iff]; left; rw [List.all_eq_false]; exact ⟨a[k], by simp, by simp [this]⟩
              have Hb := hid hbad; clear hbad g4
              go_wp2_with (go_at_call 118; refine (l01In_any _ _ _ _).mono ?_; rintro e w' ⟨rfl, rfl⟩)
              go_ret
              exact ⟨ret_bool Hb.out.symm, rfl⟩
        · have hbad : isTree a = false := by
            have : okNd a[k] = false := by simp [inR] at g1 g2; simp only [okNd]; split <;> simp <;> omega
            simp only [isTree, Bool.and_eq_false_iff]; left; rw [List.all_eq_false]; exact ⟨a[k], by simp, by simp [this]⟩
          have Hb := hid hbad; clear hbad
          simp only [Bool.not_eq_true] at g2
          go_wp2_with (go_at_call 118; refine (l01In_any _ _ _ _).mono ?_; rintro e w' ⟨rfl, rfl⟩)
          go_ret
          exact ⟨ret_bool Hb.out.symm, rfl⟩
      · have hbad : isTree a = false := by
          have : okNd a[k] = false := by simp [inR] at g1; simp only [okNd]; split <;> simp <;> omega
          simp only [isTree, Bool.and_eq_false_iff]; left; rw [List.all_eq_false]; exact ⟨a[k], by simp, by simp [this]⟩
        have Hb := hid hbad; clear hbad
        simp only [Bool.not_eq_true] at g1
        go_wp2_with (go_at_call 118; refine (l01In_any _ _ _ _).mono ?_; rintro e w' ⟨rfl, rfl⟩)
        go_ret
        exact ⟨ret_bool Hb.out.symm, rfl⟩
    · have hall : a.all okNd = true := by
        rw [List.all_eq_true]; intro x hx
        obtain ⟨j, hj, rfl⟩ := List.getElem_of_mem hx
        exact Hs.out j hj (by omega)
      have Ha := hid hall; clear hall
      by_cases h0 : 0 < a.length
      · go_wp2_with (go_at_call 230; refine (l02Part_any _ _ _ _ hv0 (by omega) (by omega)).mono ?_; rintro e w' ⟨rfl, rfl⟩)
        go_ret
        exact ⟨ret_bool (by simp [isTree, Ha.out]; omega), rfl⟩
      · go_wp2
        go_ret
        exact ⟨ret_bool (by simp [isTree]; omega), rfl⟩
end Go.Proofs.YtpbbfoliabgkpaaGreat
/- Walks: the reference's small functions on formulas. -/
namespace Go.Proofs.YtpbbfoliabgkpaaGreat
open Go.RowKit

/-- fresh nodes come back -/
def RetN (w : World) (a : List Nd) (e : Ending) (w' : World) : Prop := ∃ v, e = .returned v ∧ OwnN w' w.heap.size v a ∧ Keeps w w'
/-- nodes that were there come back -/
def RetS (w : World) (a : List Nd) (e : Ending) (w' : World) : Prop := ∃ v, e = .returned v ∧ Nds w v a ∧ w = w'
def plainL (a : List Nd) : Bool := a.all fun n => decide (n.k ≠ 5 ∧ n.k ≠ 6)

def plainErr (a : List Nd) : Int := if isFm a then (if plainL a then 0 else 5) else 1
--
set_option maxHeartbeats 400000 in
theorem l02Is_any (a : List Nd) (v : Value) (w : World) (hv : Nds w v a) :
    Calls Tryz.prog 131 #[v] w fun e w' => e = .returned (.bool (isFm a)) ∧ w = w' := by
  have hv0 := hv
  obtain ⟨p, cap, rfl, hle, hmx, hr, hlen⟩ := hv
  unfold maxLen at hmx
  by_cases h : a.length ≤ 40
  all_goals
    go_enter Tryz.func131, Tryz.ntmps131
    go_wp2_with (go_at_call 207; refine (l02Tree_any _ _ _ hv0).mono ?_; rintro e w' ⟨rfl, rfl⟩)
    go_ret
    exact ⟨ret_bool (by simp [isFm]; omega), rfl⟩
--
set_option maxHeartbeats 400000 in
theorem l02Plain_any (a : List Nd) (v : Value) (w : World) (hv : Nds w v a) :
    Calls Tryz.prog 157 #[v] w fun e w' => e = .returned (.bool (plainL a)) ∧ w = w' := by
  obtain ⟨p, cap, rfl, hle, hmx, hr, hlen⟩ := hv
  unfold maxLen at hmx
  go_enter Tryz.func157, Tryz.ntmps157
  go_wp2
  go_loop [2, 3] (fun r i' => ∃ k : Nat, k ≤ a.length ∧ (∀ j (h : j < a.length), j < k → a[j].k ≠ 5 ∧ a[j].k ≠ 6) ∧ i' = .int .i64 k ∧ r = .bool false) (fun _ i => a.length - (intOf i).toNat)
  case atStart => exact ⟨0, by omega, by omega, rfl, rfl⟩
  case round =>
    obtain ⟨k, hk, hs, rfl, rfl⟩ := hrel
    have Hs := hid hs; clear hs
    by_cases hlt : k < a.length
    · obtain ⟨b, off, rfl, h1, h2⟩ := hr.nd k hlt
      clear hr h2
      by_cases g1 : a[k].k = 5 ∨ a[k].k = 6
      · have hbad : plainL a = false := by
          simp only [plainL]; rw [List.all_eq_false]; exact ⟨a[k], by simp, by simp; omega⟩
        have Hb := hid hbad; clear hbad
        rcases g1 with g1 | g1
        · have g5 : (a[k].k == 5) = true := by simp [g1]
          clear g1
          go_wp2
          go_ret
          exact ⟨ret_bool Hb.out.symm, rfl⟩
        · have g5 : (a[k].k == 5) = false := by simp [g1]
          have g6 : (a[k].k == 6) = true := by simp [g1]
          clear g1
          go_wp2
          go_ret
          exact ⟨ret_bool Hb.out.symm, rfl⟩
      · have g5 : (a[k].k == 5) = false := by simp; omega
        have g6 : (a[k].k == 6) = false := by simp; omega
        have G1 := hid g1; clear g1
        go_wp2
        go_round
        case rel =>
          refine ⟨k + 1, by omega, ?_, by go_num, rfl⟩
          intro j hj hjk
          by_cases e : j = k
          · subst e; have := G1.out; omega
          · exact Hs.out j hj (by omega)
        case measure => simp [intOf]; omega
    · go_wp2
      go_ret
      refine ⟨ret_bool ?_, rfl⟩
      simp only [plainL]; symm; rw [List.all_eq_true]; intro x hx
      obtain ⟨j, hj, rfl⟩ := List.getElem_of_mem hx
      have := Hs.out j hj (by omega)
      simpa using this
--
set_option maxHeartbeats 400000 in
theorem l02Left_any (a : List Nd) (x : Nd) (t : Fm) (r : List Nd) (v : Value) (w : World) (hv : Nds w v a) (ha : a = x :: (t.enc ++ r)) :
    Calls Tryz.prog 158 #[v] w (RetS w t.enc) := by
  have hv0 := hv
  obtain ⟨p, cap, rfl, hle, hmx, hr, hlen⟩ := hv
  have hp := Fm.enc_pos t
  have hs : skipInt 1 a (1 : Int).toNat = 1 + t.enc.length := by subst ha; exact skipInt_enc [x] t r
  have hl : 1 + t.enc.length ≤ a.length := by subst ha; simp; omega
  obtain ⟨b, off, rfl⟩ := hr.ptrN (by omega)
  have hmx0 := hid hmx
  unfold maxLen at hmx
  have Ha := hid ha; clear ha
  have Hs := hid hs; clear hs
  have hc1 : ¬ cap = 1 := by omega
  go_enter Tryz.func158, Tryz.ntmps158
  go_wp2_with (go_at_call 230; refine (l02Part_any _ _ _ _ hv0 (by omega) (by omega)).mono ?_; rintro e w' ⟨rfl, rfl⟩; rw [Hs.out])
  go_ret
  have e := Ha.out
  rw [show x :: (t.enc ++ r) = [x] ++ (t.enc ++ r) from rfl] at e
  rw [e] at hr
  exact ⟨_, rfl, Nds.sub (l := [x]) (m := t.enc) (r := r) hr (by omega) (by simp) (by omega) (by omega) (by have := hmx0.out; omega), rfl⟩
--
set_option maxHeartbeats 400000 in
theorem l02Right_any (a : List Nd) (x : Nd) (t u : Fm) (v : Value) (w : World) (hv : Nds w v a) (ha : a = x :: (t.enc ++ u.enc)) :
    Calls Tryz.prog 159 #[v] w (RetS w u.enc) := by
  have hv0 := hv
  obtain ⟨p, cap, rfl, hle, hmx, hr, hlen⟩ := hv
  have hp := Fm.enc_pos u
  have hs : skipInt 1 a (1 : Int).toNat = 1 + t.enc.length := by subst ha; exact skipInt_enc [x] t u.enc
  have hl : a.length = 1 + t.enc.length + u.enc.length := by subst ha; simp; omega
  obtain ⟨b, off, rfl⟩ := hr.ptrN (by omega)
  have hmx0 := hid hmx
  unfold maxLen at hmx
  have Ha := hid ha; clear ha
  have Hs := hid hs; clear hs
  have hl1 : 1 + t.enc.length + u.enc.length ≤ a.length := by omega
  have Hl := hid hl; clear hl
  have hc1 : ¬ cap = 1 + t.enc.length := by omega
  go_enter Tryz.func159, Tryz.ntmps159
  go_wp2_with (go_at_call 230; refine (l02Part_any _ _ _ _ hv0 (by omega) (by omega)).mono ?_; rintro e w' ⟨rfl, rfl⟩; rw [Hs.out])
  go_ret
  have e := Ha.out
  rw [show x :: (t.enc ++ u.enc) = (x :: t.enc) ++ (u.enc ++ []) by simp] at e
  rw [e] at hr
  have e2 := Hl.out
  exact ⟨_, rfl, Nds.sub (l := x :: t.enc) (m := u.enc) (r := []) hr (by omega) (by simp; omega) (by omega) (by omega) (by have := hmx0.out; omega), rfl⟩
--
set_option maxHeartbeats 400000 in
theorem l02False_any (w : World) : Calls Tryz.prog 190 #[] w (RetN w Fm.fls.enc) := by
  go_enter Tryz.func190, Tryz.ntmps190
  go_wp2
  go_ret
  exact ⟨_, rfl, OwnN.lit1 w ⟨1, 0⟩, (Keeps.refl w).alloc _⟩
--
set_option maxHeartbeats 400000 in
theorem l02Pair_any (k : Int) (a b : List Nd) (va vb : Value) (w : World) (hva : Nds w va a) (hvb : Nds w vb b) (hl : 1 + a.length + b.length ≤ 2147483648) :
    Calls Tryz.prog 127 #[.int .i64 k, va, vb] w (RetN w (⟨k, 0⟩ :: (a ++ b))) := by
  go_enter Tryz.func127, Tryz.ntmps127
  have h1 := OwnN.lit1 w ⟨k, 0⟩
  have k1 := (Keeps.refl w).alloc (.cells #[.int .i64 k, .int .i64 0] 55)
  have ha1 := hva.keeps k1
  go_wp2_with (first | (at_builtin; refine appN rfl (.tmp 9) (.tmp 10) rfl w.heap.size _ [⟨k, 0⟩] rfl h1 _ a rfl ha1 (by simp) (by simp; omega) ?_; intro v1 w1 hv1 hg1 hr1; have k2 : Keeps w w1 := k1.grown hg1 hr1; have hb1 := hvb.keeps k2) | (at_builtin; refine appN rfl (.tmp 11) (.tmp 12) rfl w.heap.size _ ([⟨k, 0⟩] ++ a) rfl (by assumption) _ b rfl (by assumption) (by have := k2.size; omega) (by simp; omega) ?_; intro v2 w2 hv2 hg2 hr2; have k3 : Keeps w w2 := k2.grown hg2 hr2))
  go_ret
  exact ⟨_, rfl, by simpa using hv2, k3⟩
--
set_option maxHeartbeats 400000 in
theorem l02Not_any (t : Fm) (v : Value) (w : World) (hv : Nds w v t.enc) (hl : t.enc.length ≤ 1073741824) :
    Calls Tryz.prog 133 #[v] w (RetN w (Fm.not t).enc) := by
  go_enter Tryz.func133, Tryz.ntmps133
  go_wp2_with (first | (go_at_call 190; refine (l02False_any _).mono ?_; rintro e w1 ⟨v1, rfl, hv1, k1⟩) | (go_at_call 127; refine (l02Pair_any _ _ _ _ _ _ (hv.keeps k1) (hv1.nds (by simp [Fm.enc])) (by simp [Fm.enc]; omega)).mono ?_; rintro e w2 ⟨v2, rfl, hv2, k2⟩))
  go_ret
  exact ⟨_, rfl, hv2.mono k1.size, k1.trans k2⟩
--
/-- an owned formula goes through, or is too long -/
def madeL (a : List Nd) : List Nd × Int := if a.length ≤ 40 then (a, 0) else ([], 3)
theorem l02Made_any (a : List Nd) (v : Value) (w : World) (hv : Nds w v a) :
    Calls Tryz.prog 132 #[v] w fun e w' => e = .returned (.tuple #[if a.length ≤ 40 then v else .slice none 0 0, .int .i64 (madeL a).2]) ∧ w = w' := by
  obtain ⟨p, cap, rfl, hle, hmx, hr, hlen⟩ := hv
  unfold maxLen at hmx
  by_cases h : a.length ≤ 40
  all_goals
    go_enter Tryz.func132, Tryz.ntmps132
    go_wp2
    go_ret2
    exact ⟨by simp [h, madeL], rfl⟩
--
theorem made_own {w : World} {B : Nat} {v : Value} {a : List Nd} (h : OwnN w B v a) : OwnN w B (if a.length ≤ 40 then v else .slice none 0 0) (madeL a).1 := by
  unfold madeL
  by_cases h4 : a.length ≤ 40
  · rw [if_pos h4, if_pos h4]; exact h
  · rw [if_neg h4, if_neg h4]; exact OwnN.nil _ _
theorem madeL_len (a : List Nd) : (madeL a).1.length ≤ 40 := by unfold madeL; split <;> simp; omega
theorem l02Made_own (a : List Nd) (v : Value) (w : World) (B : Nat) (hv : OwnN w B v a) (hl : a.length ≤ 2147483648) :
    Calls Tryz.prog 132 #[v] w fun e w' => ∃ u, e = .returned (.tuple #[u, .int .i64 (madeL a).2]) ∧ OwnN w' B u (madeL a).1 ∧ w = w' :=
  (l02Made_any a v w (hv.nds hl)).mono fun e w' ⟨he, hw⟩ => ⟨_, he, by subst hw; exact made_own hv, hw⟩
--
set_option maxHeartbeats 400000 in
theorem l29Code_any (a : List Nd) (v : Value) (w : World) (hv : Nds w v a) :
    Calls Tryz.prog 63 #[v] w fun e w' => e = .returned (.int .i64 (plainErr a)) ∧ w = w' := by
  have h1 := l02Is_any a v
  have h2 := l02Plain_any a v
  cases hf : isFm a <;> cases hp : plainL a <;> rw [hf] at h1 <;> rw [hp] at h2
  all_goals
    have Hf := hid hf; clear hf
    have Hp := hid hp; clear hp
    have H1 := hid h1; clear h1
    have H2 := hid h2; clear h2
    go_enter Tryz.func63, Tryz.ntmps63
    go_wp2_with (first | (go_at_call 131; refine (H1.out _ hv).mono ?_; rintro e w' ⟨rfl, rfl⟩) | (go_at_call 157; refine (H2.out _ hv).mono ?_; rintro e w' ⟨rfl, rfl⟩))
    go_ret
    exact ⟨ret_int (by simp [plainErr, Hf.out, Hp.out]), rfl⟩
--
set_option maxHeartbeats 1000000 in
theorem l29Harrop_any (t : Fm) : ∀ (v : Value) (w : World), Nds w v t.enc →
    Calls Tryz.prog 64 #[v] w fun e w' => e = .returned (.bool t.harrop) ∧ w = w' := by
  induction t with
  | and x y ihx ihy =>
    intro v w hv
    have HX := hid ihx; clear ihx
    have HY := hid ihy; clear ihy
    have hv0 := hv
    obtain ⟨b, off, n, cap, rfl, h0, h1, h2, h3, hc, _⟩ := hv.head
    clear hv
    cases hx : x.harrop
    all_goals
      have Hx := hid hx; clear hx
      go_enter Tryz.func64, Tryz.ntmps64
      go_wp2_with (first
        | (go_at_call 158; refine (l02Left_any _ _ x y.enc _ _ hv0 rfl).mono ?_; rintro e w' ⟨v1, rfl, hv1, rfl⟩)
        | (go_at_call 159; refine (l02Right_any _ _ x y _ _ hv0 rfl).mono ?_; rintro e w' ⟨v2, rfl, hv2, rfl⟩)
        | (go_at_call 64; first | ((with_reducible refine (HX.out v1 _ hv1).mono ?_); rintro e w' ⟨rfl, rfl⟩; rw [Hx.out]) | ((with_reducible refine (HY.out v2 _ hv2).mono ?_); rintro e w' ⟨rfl, rfl⟩)))
      go_ret
      exact ⟨ret_bool (by simp [Fm.harrop, Hx.out]), rfl⟩
  | imp x y ihx ihy =>
    intro v w hv
    have HY := hid ihy; clear ihy ihx
    have hv0 := hv
    obtain ⟨b, off, n, cap, rfl, h0, h1, h2, h3, hc, _⟩ := hv.head
    clear hv
    go_enter Tryz.func64, Tryz.ntmps64
    go_wp2_with (first
        | (go_at_call 159; refine (l02Right_any _ _ x y _ _ hv0 rfl).mono ?_; rintro e w' ⟨v2, rfl, hv2, rfl⟩)
        | (go_at_call 64; refine (HY.out v2 _ hv2).mono ?_; rintro e w' ⟨rfl, rfl⟩))
    go_ret
    exact ⟨ret_bool (by simp [Fm.harrop]), rfl⟩
  | _ =>
    intro v w hv
    obtain ⟨b, off, n, cap, rfl, h0, h1, h2, h3, hc, _⟩ := hv.head
    clear hv
    go_enter Tryz.func64, Tryz.ntmps64
    go_wp2
    go_ret
    exact ⟨ret_bool (by simp [Fm.harrop]), rfl⟩
end Go.Proofs.YtpbbfoliabgkpaaGreat
/- Walks: the program's readers of formulas, and the library's IndexFunc and ContainsFunc at two types. -/
namespace Go.Proofs.YtpbbfoliabgkpaaGreat
open Go.RowKit

--
set_option maxHeartbeats 400000 in
theorem indexFuncN (pr : Nd → Bool) (f : FuncId) (cp : Array Value) (a : List Nd) (v : Value) (w : World) (hv : Nds w v a) (hcf : Enters f)
    (hf : ∀ x w1, x ∈ a → Keeps w w1 → Calls Tryz.prog f (#[.agg #[.int .i64 x.k, .int .i64 x.s]] ++ cp) w1 fun e w2 => e = .returned (.bool (pr x)) ∧ Keeps w1 w2) :
    Calls Tryz.prog 231 #[v, .func (.func f) #[] cp] w fun e w' => e = .returned (.int .i64 (idxOf pr a 0)) ∧ Keeps w w' := by
  obtain ⟨p, cap, rfl, hle, hmx, hr, hlen⟩ := hv
  unfold maxLen at hmx
  have HF := hid hf; clear hf
  have hcf' : ∀ args w, (callFunc f args).run Tryz.prog w = .ok (.enter f args) w := hcf
  clear hcf
  go_enter Tryz.func231, Tryz.ntmps231
  go_wp2
  go_loopw [4, 8] (fun r i' wr => ∃ k : Nat, k ≤ a.length ∧ idxOf pr a 0 = idxOf pr (a.drop k) k ∧ Keeps w wr ∧ i' = .int .i64 k ∧ r = .int .i64 0) (fun _ i _ => a.length - (intOf i).toNat)
  case atStart => exact ⟨0, by omega, by simp, Keeps.refl w, rfl, rfl⟩
  case round =>
    obtain ⟨k, hk, hs, kw, rfl, rfl⟩ := hrel
    have Hs := hid hs; clear hs
    by_cases hlt : k < a.length
    · obtain ⟨b, off, rfl, h1, h2⟩ := (hr.keeps kw).nd k hlt
      have hd := hid (idxOf_drop pr a k hlt)
      clear hr
      cases hp : pr a[k]
      all_goals
        have Hp := hid hp; clear hp
        go_wp2_with ((with_reducible refine (HF.out a[k] wr (List.getElem_mem hlt) kw).mono ?_); rintro e w2 ⟨rfl, k2⟩; rw [Hp.out])
      · go_roundw
        case rel => exact ⟨k + 1, by omega, by rw [Hs.out, hd.out, Hp.out]; rfl, kw.trans k2, by go_num, rfl⟩
        case measure => simp [intOf]; omega
      · go_ret
        exact ⟨ret_int (by rw [Hs.out, hd.out, Hp.out]; rfl), kw.trans k2⟩
    · go_wp2
      go_ret
      exact ⟨ret_int (by rw [Hs.out, idxOf_end _ _ _ (by omega)]), kw⟩
theorem containsFuncN (pr : Nd → Bool) (f : FuncId) (cp : Array Value) (a : List Nd) (v : Value) (w : World) (hv : Nds w v a) (hcf : Enters f)
    (hf : ∀ x w1, x ∈ a → Keeps w w1 → Calls Tryz.prog f (#[.agg #[.int .i64 x.k, .int .i64 x.s]] ++ cp) w1 fun e w2 => e = .returned (.bool (pr x)) ∧ Keeps w1 w2) :
    Calls Tryz.prog 160 #[v, .func (.func f) #[] cp] w fun e w' => e = .returned (.bool (a.any pr)) ∧ Keeps w w' := by
  have H := hid (indexFuncN pr f cp a v w hv hcf hf)
  clear hv hf hcf
  have he := hid (idxOf_any pr a 0)
  go_enter Tryz.func160, Tryz.ntmps160
  go_wp2_with (go_at_call 231; refine H.out.mono ?_; rintro e w2 ⟨rfl, k2⟩)
  go_ret
  exact ⟨ret_bool he.out, k2⟩
--
theorem isVariable_any (x : Int) (w : World) : Calls Tryz.prog 232 #[.int .i64 x] w fun e w' => e = .returned (.bool (inR x 0 5)) ∧ w = w' := by
  go_enter Tryz.func232, Tryz.ntmps232
  go_wp2_with (go_at_call 204; refine (inRange_any _ _ _ _).mono ?_; rintro e w' ⟨rfl, rfl⟩)
  go_ret
  exact ⟨rfl, rfl⟩
--
set_option maxHeartbeats 400000 in
theorem isNode_any (x : Nd) (w : World) : Calls Tryz.prog 162 #[.agg #[.int .i64 x.k, .int .i64 x.s]] w fun e w' => e = .returned (.bool (okNd x)) ∧ Keeps w w' := by
  by_cases h : x.k = 0
  · have h' : (x.k == 0) = true := by simp [h]
    have H := hid h; clear h
    go_enter Tryz.func162, Tryz.ntmps162
    go_wp2_with (go_at_call 232; refine (isVariable_any _ _).mono ?_; rintro e w' ⟨rfl, rfl⟩)
    go_ret
    exact ⟨ret_bool (by simp [okNd, H.out, inR]), (Keeps.refl w).alloc _⟩
  · have h' : (x.k == 0) = false := by simp [h]
    have H := hid h; clear h
    cases hi : inR x.k 1 6
    all_goals
      have Hi := hid hi; clear hi
      go_enter Tryz.func162, Tryz.ntmps162
      go_wp2_with (go_at_call 204; refine (inRange_any _ _ _ _).mono ?_; rintro e w' ⟨rfl, rfl⟩; rw [Hi.out])
      go_ret
      refine ⟨ret_bool ?_, (Keeps.refl w).alloc _⟩
      have := Hi.out
      simp only [inR, decide_eq_true_eq, decide_eq_false_iff_not] at this
      unfold okNd
      rw [if_neg H.out]
      by_cases h0 : x.s = 0 <;> simp [h0] <;> omega
--
theorem isFormula_1_any (x : Nd) (w : World) : Calls Tryz.prog 161 #[.agg #[.int .i64 x.k, .int .i64 x.s]] w fun e w' => e = .returned (.bool (!okNd x)) ∧ Keeps w w' := by
  go_enter Tryz.func161, Tryz.ntmps161
  go_wp2_with (go_at_call 162; refine (isNode_any x _).mono ?_; rintro e w' ⟨rfl, k1⟩)
  go_ret
  exact ⟨rfl, ((Keeps.refl w).alloc _).trans k1⟩
--
theorem enters_isFormula_1 : Enters 161 := fun _ _ => by kernel_rfl
theorem isFm_split (a : List Nd) : isFm a = (decide (1 ≤ a.length) && (decide (a.length ≤ 40) && (!(a.any fun x => !okNd x) && (skipInt 1 a 0 == (a.length : Int))))) := by
  unfold isFm isTree
  have : (!(a.any fun x => !okNd x)) = a.all okNd := by
    induction a with
    | nil => rfl
    | cons x l ih => simp [List.all_cons, List.any_cons, ← ih]
  rw [this]
  cases a.all okNd <;> simp
  by_cases h : 0 < a.length <;> simp [h]
  all_goals omega
set_option maxHeartbeats 400000 in
theorem isFormula_any (a : List Nd) (v : Value) (w : World) (hv : Nds w v a) :
    Calls Tryz.prog 65 #[v] w fun e w' => e = .returned (.bool (isFm a)) ∧ Keeps w w' := by
  have hsp := hid (isFm_split a)
  have hv0 := hv
  obtain ⟨p, cap, rfl, hle, hmx, hr, hlen⟩ := hv
  unfold maxLen at hmx
  clear hr
  by_cases h1 : 1 ≤ a.length
  · by_cases h40 : a.length ≤ 40
    · cases ho : a.any fun x => !okNd x
      all_goals
        have Ho := hid ho; clear ho
        go_enter Tryz.func65, Tryz.ntmps65
        go_wp2_with (first
          | (go_at_call 160; refine (containsFuncN (fun x => !okNd x) _ #[] a _ _ hv0 enters_isFormula_1 (fun x w1 _ _ => isFormula_1_any x w1)).mono ?_; rintro e w1 ⟨rfl, k1⟩; rw [Ho.out])
          | (go_at_call 163; refine (partEnd_any a _ _ _ (hv0.keeps k1) (by omega) (by omega)).mono ?_; rintro e w' ⟨rfl, rfl⟩))
        go_ret
        refine ⟨ret_bool ?_, k1⟩
        rw [hsp.out, Ho.out]
        simp [h1, h40]
    · go_enter Tryz.func65, Tryz.ntmps65
      go_wp2
      go_ret
      refine ⟨ret_bool ?_, Keeps.refl _⟩
      rw [hsp.out]; simp; omega
  · go_enter Tryz.func65, Tryz.ntmps65
    go_wp2
    go_ret
    refine ⟨ret_bool ?_, Keeps.refl _⟩
    rw [hsp.out]; simp; omega
def modalB (k : Int) : Bool := decide (k = 5 ∨ k = 6)
--
theorem isModal_any (x : Int) (w : World) : Calls Tryz.prog 228 #[.int .i64 x] w fun e w' => e = .returned (.bool (modalB x)) ∧ w = w' := by
  go_enter Tryz.func228, Tryz.ntmps228
  go_wp2
  all_goals go_ret
  all_goals exact ⟨ret_bool (by by_cases h5 : x = 5 <;> by_cases h6 : x = 6 <;> simp_all [modalB]), rfl⟩
--
theorem isPlain_1_any (x : Nd) (w : World) : Calls Tryz.prog 227 #[.agg #[.int .i64 x.k, .int .i64 x.s]] w fun e w' => e = .returned (.bool (modalB x.k)) ∧ Keeps w w' := by
  go_enter Tryz.func227, Tryz.ntmps227
  go_wp2_with (go_at_call 228; refine (isModal_any _ _).mono ?_; rintro e w' ⟨rfl, rfl⟩)
  go_ret
  exact ⟨rfl, (Keeps.refl w).alloc _⟩
theorem enters_isPlain_1 : Enters 227 := fun _ _ => by kernel_rfl
theorem plainL_any (a : List Nd) : (!(a.any fun x => modalB x.k)) = plainL a := by
  unfold plainL
  induction a with
  | nil => rfl
  | cons x l ih => simp only [List.all_cons, List.any_cons, ← ih]; by_cases h : x.k = 5 <;> by_cases h' : x.k = 6 <;> simp [h, h', modalB]
theorem isPlain_any (a : List Nd) (v : Value) (w : World) (hv : Nds w v a) :
    Calls Tryz.prog 154 #[v] w fun e w' => e = .returned (.bool (plainL a)) ∧ Keeps w w' := by
  have hp := hid (plainL_any a)
  go_enter Tryz.func154, Tryz.ntmps154
  go_wp2_with (go_at_call 160; refine (containsFuncN (fun x => modalB x.k) _ #[] a _ _ hv enters_isPlain_1 (fun x w1 _ _ => isPlain_1_any x w1)).mono ?_; rintro e w1 ⟨rfl, k1⟩)
  go_ret
  exact ⟨ret_bool hp.out, k1⟩
end Go.Proofs.YtpbbfoliabgkpaaGreat
/- Walks: Harrop and negative formulas on both sides; lists of formulas. -/
namespace Go.Proofs.YtpbbfoliabgkpaaGreat
open Go.RowKit

--
set_option maxHeartbeats 400000 in
theorem part_any (a l : List Nd) (t : Fm) (r : List Nd) (v : Value) (i : Int) (w : World) (hv : Nds w v a) (ha : a = l ++ (t.enc ++ r)) (hi : i = l.length) :
    Calls Tryz.prog 229 #[v, .int .i64 i] w (RetS w t.enc) := by
  subst hi
  have hv0 := hv
  obtain ⟨p, cap, rfl, hle, hmx, hr, hlen⟩ := hv
  have hp := Fm.enc_pos t
  have hs : skipInt 1 a (l.length : Int).toNat = l.length + t.enc.length := by subst ha; exact skipInt_enc l t r
  have hl : l.length + t.enc.length ≤ a.length := by subst ha; simp
  obtain ⟨b, off, rfl⟩ := hr.ptrN (by omega)
  have hmx0 := hid hmx
  unfold maxLen at hmx
  have Ha := hid ha; clear ha
  have Hs := hid hs; clear hs
  have hc1 : ¬ l.length + t.enc.length = l.length := by omega
  go_enter Tryz.func229, Tryz.ntmps229
  go_wp2_with (go_at_call 163; refine (partEnd_any _ _ _ _ hv0 (by omega) (by omega)).mono ?_; rintro e w' ⟨rfl, rfl⟩; rw [Hs.out])
  go_ret
  have e := Ha.out
  rw [e] at hr
  exact ⟨_, rfl, Nds.sub (l := l) (m := t.enc) (r := r) hr (by omega) rfl (by omega) (by omega) (by have := hmx0.out; omega), rfl⟩
--
theorem first_any (a : List Nd) (x : Nd) (t : Fm) (r : List Nd) (v : Value) (w : World) (hv : Nds w v a) (ha : a = x :: (t.enc ++ r)) :
    Calls Tryz.prog 155 #[v] w (RetS w t.enc) := by
  go_enter Tryz.func155, Tryz.ntmps155
  go_wp2_with (go_at_call 229; refine (part_any a [x] t r _ _ _ hv ha rfl).mono ?_; rintro e w' ⟨v1, rfl, hv1, rfl⟩)
  go_ret
  exact ⟨_, rfl, hv1, rfl⟩
--
theorem second_any (a : List Nd) (x : Nd) (t u : Fm) (v : Value) (w : World) (hv : Nds w v a) (ha : a = x :: (t.enc ++ u.enc)) :
    Calls Tryz.prog 156 #[v] w (RetS w u.enc) := by
  have hs : skipInt 1 a (1 : Int).toNat = 1 + t.enc.length := by subst ha; exact skipInt_enc [x] t u.enc
  have ha2 : a = (x :: t.enc) ++ (u.enc ++ []) := by subst ha; simp
  have hl1 : (1 : Int) ≤ a.length := by subst ha; simp; omega
  have Ha := hid ha2; clear ha2 ha
  have Hs := hid hs; clear hs
  go_enter Tryz.func156, Tryz.ntmps156
  go_wp2_with (first
    | (go_at_call 163; refine (partEnd_any _ _ _ _ hv (by omega) hl1).mono ?_; rintro e w' ⟨rfl, rfl⟩; rw [Hs.out])
    | (go_at_call 229; refine (part_any a (x :: t.enc) u [] _ _ _ hv Ha.out (by simp; omega)).mono ?_; rintro e w' ⟨v1, rfl, hv1, rfl⟩))
  go_ret
  exact ⟨_, rfl, hv1, rfl⟩
--
theorem isFalsum_any (t : Fm) (v : Value) (w : World) (hv : Nds w v t.enc) :
    Calls Tryz.prog 235 #[v] w fun e w' => e = .returned (.bool t.isFls) ∧ w = w' := by
  obtain ⟨b, off, n, cap, rfl, h0, h1, h2, h3, hc, _⟩ := hv.root
  have hk := hid (Fm.kind_isFls t)
  go_enter Tryz.func235, Tryz.ntmps235
  go_wp2
  go_ret
  exact ⟨ret_bool hk.out, rfl⟩
--
set_option maxHeartbeats 400000 in
theorem isNegation_any (t : Fm) (v : Value) (w : World) (hv : Nds w v t.enc) :
    Calls Tryz.prog 215 #[v] w fun e w' => e = .returned (.bool t.isNeg) ∧ w = w' := by
  have hv0 := hv
  obtain ⟨b, off, n, cap, rfl, h0, h1, h2, h3, hc, _⟩ := hv.root
  clear hv
  cases t with
  | imp x y =>
    go_enter Tryz.func215, Tryz.ntmps215
    go_wp2_with (first
      | (go_at_call 156; refine (second_any _ _ x y _ _ hv0 rfl).mono ?_; rintro e w' ⟨v2, rfl, hv2, rfl⟩)
      | (go_at_call 235; refine (isFalsum_any y _ _ hv2).mono ?_; rintro e w' ⟨rfl, rfl⟩))
    go_ret
    exact ⟨rfl, rfl⟩
  | _ =>
    clear hv0
    simp only [Fm.kind] at hc
    go_enter Tryz.func215, Tryz.ntmps215
    go_wp2
    go_ret
    exact ⟨rfl, rfl⟩
--
set_option maxHeartbeats 1000000 in
theorem isHarrop_any (t : Fm) : ∀ (v : Value) (w : World), Nds w v t.enc →
    Calls Tryz.prog 62 #[v] w fun e w' => e = .returned (.bool t.harrop) ∧ w = w' := by
  induction t with
  | and x y ihx ihy =>
    intro v w hv
    have HX := hid ihx; clear ihx
    have HY := hid ihy; clear ihy
    have hv0 := hv
    obtain ⟨b, off, n, cap, rfl, h0, h1, h2, h3, hc, _⟩ := hv.head
    clear hv
    cases hx : x.harrop
    all_goals
      have Hx := hid hx; clear hx
      go_enter Tryz.func62, Tryz.ntmps62
      go_wp2_with (first
        | (go_at_call 155; refine (first_any _ _ x y.enc _ _ hv0 rfl).mono ?_; rintro e w' ⟨v1, rfl, hv1, rfl⟩)
        | (go_at_call 156; refine (second_any _ _ x y _ _ hv0 rfl).mono ?_; rintro e w' ⟨v2, rfl, hv2, rfl⟩)
        | (go_at_call 62; first | ((with_reducible refine (HX.out v1 _ hv1).mono ?_); rintro e w' ⟨rfl, rfl⟩; rw [Hx.out]) | ((with_reducible refine (HY.out v2 _ hv2).mono ?_); rintro e w' ⟨rfl, rfl⟩)))
      go_ret
      exact ⟨ret_bool (by simp [Fm.harrop, Hx.out]), rfl⟩
  | imp x y ihx ihy =>
    intro v w hv
    have HY := hid ihy; clear ihy ihx
    have hv0 := hv
    obtain ⟨b, off, n, cap, rfl, h0, h1, h2, h3, hc, _⟩ := hv.head
    clear hv
    go_enter Tryz.func62, Tryz.ntmps62
    go_wp2_with (first
        | (go_at_call 156; refine (second_any _ _ x y _ _ hv0 rfl).mono ?_; rintro e w' ⟨v2, rfl, hv2, rfl⟩)
        | (go_at_call 62; refine (HY.out v2 _ hv2).mono ?_; rintro e w' ⟨rfl, rfl⟩))
    go_ret
    exact ⟨ret_bool (by simp [Fm.harrop]), rfl⟩
  | _ =>
    intro v w hv
    obtain ⟨b, off, n, cap, rfl, h0, h1, h2, h3, hc, _⟩ := hv.head
    clear hv
    go_enter Tryz.func62, Tryz.ntmps62
    go_wp2
    go_ret
    exact ⟨ret_bool (by simp [Fm.harrop]), rfl⟩
--
set_option maxHeartbeats 1000000 in
theorem isNegative_any (t : Fm) : ∀ (ng : Bool) (v : Value) (w : World), Nds w v t.enc → t.plain = true →
    Calls Tryz.prog 145 #[v, .bool ng] w fun e w' => e = .returned (.bool (t.negative ng)) ∧ w = w' := by
  induction t with
  | and x y ihx ihy =>
    intro ng v w hv hpl
    have hpx : x.plain = true := by simp [Fm.plain] at hpl; exact hpl.1
    have hpy : y.plain = true := by simp [Fm.plain] at hpl; exact hpl.2
    have HX := hid (fun v w h => ihx false v w h hpx); clear ihx
    have HY := hid (fun v w h => ihy false v w h hpy); clear ihy
    clear hpl hpx hpy
    have hv0 := hv
    obtain ⟨b, off, n, cap, rfl, h0, h1, h2, h3, hc, _⟩ := hv.head
    clear hv
    cases hx : x.negative false
    all_goals
      have Hx := hid hx; clear hx
      go_enter Tryz.func145, Tryz.ntmps145
      go_wp2_with (first
        | (go_at_call 155; refine (first_any _ _ x y.enc _ _ hv0 rfl).mono ?_; rintro e w' ⟨v1, rfl, hv1, rfl⟩)
        | (go_at_call 215; refine (isNegation_any (x.and y) _ _ hv0).mono ?_; rintro e w' ⟨rfl, rfl⟩; simp only [Fm.isNeg])
        | (go_at_call 156; refine (second_any _ _ x y _ _ hv0 rfl).mono ?_; rintro e w' ⟨v2, rfl, hv2, rfl⟩)
        | (go_at_call 145; first | ((with_reducible refine (HX.out v1 _ hv1).mono ?_); rintro e w' ⟨rfl, rfl⟩; rw [Hx.out]) | ((with_reducible refine (HY.out v2 _ hv2).mono ?_); rintro e w' ⟨rfl, rfl⟩)))
      go_ret
      exact ⟨ret_bool (by simp [Fm.negative, Hx.out]), rfl⟩
  | imp x y ihx ihy =>
    intro ng v w hv hpl
    have hpx : x.plain = true := by simp [Fm.plain] at hpl; exact hpl.1
    have hpy : y.plain = true := by simp [Fm.plain] at hpl; exact hpl.2
    have HX := hid (fun v w h => ihx y.isFls v w h hpx); clear ihx
    have HY := hid (fun v w h => ihy false v w h hpy); clear ihy
    clear hpl hpx hpy
    have hv0 := hv
    obtain ⟨b, off, n, cap, rfl, h0, h1, h2, h3, hc, _⟩ := hv.head
    clear hv
    cases hx : x.negative y.isFls
    all_goals
      have Hx := hid hx; clear hx
      go_enter Tryz.func145, Tryz.ntmps145
      go_wp2_with (first
        | (go_at_call 155; refine (first_any _ _ x y.enc _ _ hv0 rfl).mono ?_; rintro e w' ⟨v1, rfl, hv1, rfl⟩)
        | (go_at_call 215; refine (isNegation_any (x.imp y) _ _ hv0).mono ?_; rintro e w' ⟨rfl, rfl⟩; simp only [Fm.isNeg])
        | (go_at_call 156; refine (second_any _ _ x y _ _ hv0 rfl).mono ?_; rintro e w' ⟨v2, rfl, hv2, rfl⟩)
        | (go_at_call 145; first | ((with_reducible refine (HX.out v1 _ hv1).mono ?_); rintro e w' ⟨rfl, rfl⟩; rw [Hx.out]) | ((with_reducible refine (HY.out v2 _ hv2).mono ?_); rintro e w' ⟨rfl, rfl⟩)))
      go_ret
      exact ⟨ret_bool (by simp [Fm.negative, Hx.out]), rfl⟩
  | box x _ => intro ng v w hv hpl; simp [Fm.plain] at hpl
  | dia x _ => intro ng v w hv hpl; simp [Fm.plain] at hpl
  | _ =>
    intro ng v w hv _
    obtain ⟨b, off, n, cap, rfl, h0, h1, h2, h3, hc, _⟩ := hv.head
    clear hv
    go_enter Tryz.func145, Tryz.ntmps145
    go_wp2
    go_ret
    exact ⟨ret_bool (by simp [Fm.negative]), rfl⟩
end Go.Proofs.YtpbbfoliabgkpaaGreat
