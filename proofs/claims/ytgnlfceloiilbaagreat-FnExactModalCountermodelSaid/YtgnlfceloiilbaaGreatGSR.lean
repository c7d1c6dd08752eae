/- Walks of the small functions on numbers and of the reference's formula readers. -/
import Derived.Test.YtgnlfceloiilbaaGreatGBase
namespace Go.Proofs.YtgnlfceloiilbaaGreat
open Go.RowKit

def idxOf {α : Type} (pr : α → Bool) : List α → Nat → Int
  | [], _ => -1
  | x :: l, k => if pr x then k else idxOf pr l (k + 1)
theorem idxOf_any {α : Type} (pr : α → Bool) (l : List α) : ∀ k, decide (idxOf pr l k ≥ 0) = l.any pr := by
  induction l with
  | nil => intro k; simp [idxOf]
  | cons x l ih =>
    intro k
    cases h : pr x
    · have := ih (k + 1); simp only [idxOf, List.any_cons, h]; simpa using this
    · simp only [idxOf, h, List.any_cons]; simp
theorem idxOf_drop {α : Type} (pr : α → Bool) (l : List α) (k : Nat) (h : k < l.length) : idxOf pr (l.drop k) k = if pr l[k] then (k : Int) else idxOf pr (l.drop (k + 1)) (k + 1) := by
  rw [List.drop_eq_getElem_cons h]; rfl
theorem idxOf_end {α : Type} (pr : α → Bool) (l : List α) (k : Nat) (h : l.length ≤ k) : idxOf pr (l.drop k) k = -1 := by
  rw [List.drop_eq_nil_of_le h]; rfl
/-- the callee's text is there -/
def Enters (f : FuncId) : Prop := ∀ args w, (callFunc f args).run Tryz.prog w = .ok (.enter f args) w
def inR (x l h : Int) : Bool := decide (l ≤ x ∧ x ≤ h)
--
set_option maxHeartbeats 400000 in
theorem l01In_any (x l h : Int) (w : World) : Calls Tryz.prog 118 #[.int .i64 x, .int .i64 l, .int .i64 h] w fun e w' => e = .returned (.bool (inR x l h)) ∧ w = w' := by
  by_cases h1 : l ≤ x
  · by_cases h2 : x ≤ h
    all_goals
      go_enter Tryz.func118, Tryz.ntmps118
      go_wp2
      go_ret
      exact ⟨ret_bool (by simp [inR, *]), rfl⟩
  · go_enter Tryz.func118, Tryz.ntmps118
    go_wp2
    go_ret
    exact ⟨ret_bool (by simp [inR]; omega), rfl⟩
--
set_option maxHeartbeats 400000 in
theorem inRange_any (x l h : Int) (w : World) : Calls Tryz.prog 199 #[.int .i64 x, .int .i64 l, .int .i64 h] w fun e w' => e = .returned (.bool (inR x l h)) ∧ w = w' := by
  by_cases h1 : l ≤ x
  · by_cases h2 : x ≤ h
    all_goals
      go_enter Tryz.func199, Tryz.ntmps199
      go_wp2
      go_ret
      exact ⟨ret_bool (by simp [inR, *]), rfl⟩
  · go_enter Tryz.func199, Tryz.ntmps199
    go_wp2
    go_ret
    exact ⟨ret_bool (by simp [inR]; omega), rfl⟩
--
set_option maxHeartbeats 400000 in
theorem l02Parts_any (k : Int) (w : World) :
    Calls Tryz.prog 249 #[.int .i64 k] w fun e w' => e = .returned (.int .i64 (partsOf k)) ∧ w = w' := by
  go_enter Tryz.func249, Tryz.ntmps249
  go_wp2
  all_goals go_ret
  all_goals refine ⟨ret_int ?_, rfl⟩
  all_goals (simp_all [partsOf])
--
set_option maxHeartbeats 400000 in
theorem partsOf_any (k : Int) (w : World) :
    Calls Tryz.prog 314 #[.int .i64 k] w fun e w' => e = .returned (.int .i64 (partsOf k)) ∧ w = w' := by
  go_enter Tryz.func314, Tryz.ntmps314
  go_wp2
  all_goals go_ret
  all_goals refine ⟨ret_int ?_, rfl⟩
  all_goals (simp_all [partsOf])
--
set_option maxHeartbeats 400000 in
theorem l02Part_any (a : List Nd) (v : Value) (i : Int) (w : World) (hv : Nds w v a) (h0 : 0 ≤ i) (hi : i ≤ a.length) :
    Calls Tryz.prog 259 #[v, .int .i64 i] w fun e w' => e = .returned (.int .i64 (skipInt 1 a i.toNat)) ∧ w = w' := by
  obtain ⟨i, rfl⟩ := Int.eq_ofNat_of_zero_le h0
  rw [Int.toNat_natCast]
  obtain ⟨p, cap, rfl, hle, hmx, hr, hlen⟩ := hv
  unfold maxLen at hmx
  go_enter Tryz.func259, Tryz.ntmps259
  go_wp2
  go_loop [1, 4, 5] (fun i' r o => ∃ k op : Nat, k ≤ a.length ∧ op ≤ 1 + k ∧ skipInt 1 a i = skipInt op a k ∧ i' = .int .i64 k ∧ o = .int .i64 op ∧ r = .int .i64 0) (fun i _ _ => a.length - (intOf i).toNat)
  case atStart => exact ⟨i, 1, by omega, by omega, rfl, rfl, rfl, rfl⟩
  case round =>
    obtain ⟨k, op, hk, hop, hs, rfl, rfl, rfl⟩ := hrel
    have Hs := hid hs; clear hs
    by_cases h0 : 0 < op
    · by_cases hlt : k < a.length
      · obtain ⟨b, off, rfl, h1, h2⟩ := hr.nd k hlt
        have hp := partsOf_le a[k].k
        clear hr h2
        go_wp2_with (go_at_call 249; refine (l02Parts_any _ _).mono ?_; rintro e w' ⟨rfl, rfl⟩)
        go_round
        case rel => exact ⟨k + 1, op - 1 + partsOf a[k].k, by omega, by omega, by rw [Hs.out]; obtain ⟨q, rfl⟩ : ∃ q, op = q + 1 := ⟨op - 1, by omega⟩; exact skip_step q a k hlt, by go_num, by go_num, rfl⟩
        case measure => simp [intOf]; omega
      · go_wp2
        go_ret
        refine ⟨ret_int ?_, rfl⟩
        obtain ⟨q, rfl⟩ : ∃ q, op = q + 1 := ⟨op - 1, by omega⟩
        rw [Hs.out, skip_end _ _ _ (by omega)]
    · go_wp2
      go_ret
      refine ⟨ret_int ?_, rfl⟩
      obtain rfl : op = 0 := by omega
      rw [Hs.out, skip_zero _ _ hk]
--
set_option maxHeartbeats 400000 in
theorem partEnd_any (a : List Nd) (v : Value) (i : Int) (w : World) (hv : Nds w v a) (h0 : 0 ≤ i) (hi : i ≤ a.length) :
    Calls Tryz.prog 262 #[v, .int .i64 i] w fun e w' => e = .returned (.int .i64 (skipInt 1 a i.toNat)) ∧ w = w' := by
  obtain ⟨i, rfl⟩ := Int.eq_ofNat_of_zero_le h0
  rw [Int.toNat_natCast]
  obtain ⟨p, cap, rfl, hle, hmx, hr, hlen⟩ := hv
  unfold maxLen at hmx
  go_enter Tryz.func262, Tryz.ntmps262
  go_wp2
  go_loop [1, 4, 5] (fun i' r o => ∃ k op : Nat, k ≤ a.length ∧ op ≤ 1 + k ∧ skipInt 1 a i = skipInt op a k ∧ i' = .int .i64 k ∧ o = .int .i64 op ∧ r = .int .i64 0) (fun i _ _ => a.length - (intOf i).toNat)
  case atStart => exact ⟨i, 1, by omega, by omega, rfl, rfl, rfl, rfl⟩
  case round =>
    obtain ⟨k, op, hk, hop, hs, rfl, rfl, rfl⟩ := hrel
    have Hs := hid hs; clear hs
    by_cases h0 : 0 < op
    · by_cases hlt : k < a.length
      · obtain ⟨b, off, rfl, h1, h2⟩ := hr.nd k hlt
        have hp := partsOf_le a[k].k
        clear hr h2
        go_wp2_with (go_at_call 314; refine (partsOf_any _ _).mono ?_; rintro e w' ⟨rfl, rfl⟩)
        go_round
        case rel => exact ⟨k + 1, op - 1 + partsOf a[k].k, by omega, by omega, by rw [Hs.out]; obtain ⟨q, rfl⟩ : ∃ q, op = q + 1 := ⟨op - 1, by omega⟩; exact skip_step q a k hlt, by go_num, by go_num, rfl⟩
        case measure => simp [intOf]; omega
      · go_wp2
        go_ret
        refine ⟨ret_int ?_, rfl⟩
        obtain ⟨q, rfl⟩ : ∃ q, op = q + 1 := ⟨op - 1, by omega⟩
        rw [Hs.out, skip_end _ _ _ (by omega)]
    · go_wp2
      go_ret
      refine ⟨ret_int ?_, rfl⟩
      obtain rfl : op = 0 := by omega
      rw [Hs.out, skip_zero _ _ hk]
--
set_option maxHeartbeats 1000000 in
theorem l02Tree_any (a : List Nd) (v : Value) (w : World) (hv : Nds w v a) :
    Calls Tryz.prog 303 #[v] w fun e w' => e = .returned (.bool (isTree a)) ∧ w = w' := by
  have hv0 := hv
  obtain ⟨p, cap, rfl, hle, hmx, hr, hlen⟩ := hv
  unfold maxLen at hmx
  go_enter Tryz.func303, Tryz.ntmps303
  go_wp2
  go_loop [2, 3] (fun r i' => ∃ k : Nat, k ≤ a.length ∧ (∀ j (h : j < a.length), j < k → okNd a[j] = true) ∧ i' = .int .i64 k ∧ r = .bool false) (fun _ i => a.length - (intOf i).toNat)
  case atStart => exact ⟨0, by omega, by omega, rfl, rfl⟩
  case round =>
    obtain ⟨k, hk, hs, rfl, rfl⟩ := hrel
    have Hs := hid hs; clear hs
    by_cases hlt : k < a.length
    · obtain ⟨b, off, rfl, h1, h2⟩ := hr.nd k hlt
      clear hr hv0
      by_cases g1 : inR a[k].k 0 6 = true
      · by_cases g2 : inR a[k].s 0 5 = true
        · by_cases g3 : a[k].k = 0
          · have G3 := hid g3
            have g3' : (a[k].k != 0) = false := by simp [g3]
            clear g3
            go_wp2_with (go_at_call 118; refine (l01In_any _ _ _ _).mono ?_; rintro e w' ⟨rfl, rfl⟩)
            go_round
            case rel =>
              refine ⟨k + 1, by omega, ?_, by go_num, rfl⟩
              intro j hj hjk
              by_cases e : j = k
              · subst e; have := G3.out; simp [inR] at g2; simp [okNd, this]; omega
              · exact Hs.out j hj (by omega)
            case measure => simp [intOf]; omega
          · have g3' : (a[k].k != 0) = true := by simp [g3]
            have G3 := hid g3; clear g3
            by_cases g4 : a[k].s = 0
            · have G4 := hid g4
              have g4' : (a[k].s != 0) = false := by simp [g4]
              clear g4
              go_wp2_with (go_at_call 118; refine (l01In_any _ _ _ _).mono ?_; rintro e w' ⟨rfl, rfl⟩)
              go_round
              case rel =>
                refine ⟨k + 1, by omega, ?_, by go_num, rfl⟩
                intro j hj hjk
                by_cases e : j = k
                · subst e; have h3 := G3.out; have h4 := G4.out; simp [inR] at g1; simp [okNd, h3, h4]; omega
                · exact Hs.out j hj (by omega)
              case measure => simp [intOf]; omega
            · have g4' : (a[k].s != 0) = true := by simp [g4]
              have hbad : isTree a = false := by
                have : okNd a[k] = false := by have := G3.out; simp [okNd, this]; omega
                simp only [isTree, Bool.and_eq_false_iff]; left; rw [List.all_eq_false]; exact ⟨a[k], by simp, by simp [this]⟩
              have Hb := hid hbad; clear hbad g4
              go_wp2_with (go_at_call 118; refine (l01In_any _ _ _ _).mono ?_; rintro e w' ⟨rfl, rfl⟩)
              go_ret
              exact ⟨ret_bool Hb.out.symm, rfl⟩
        · have hbad : isTree a = false := by
            have : okNd a[k] = false := by simp [inR] at g1 g2; simp only [okNd]; split <;> simp <;> omega
            simp only [isTree, Bool.and_eq_false_iff]; left; rw [List.all_eq_false]; exact ⟨a[k], by simp, by simp [this]⟩
          have Hb := hid hbad; clear hbad
          simp only [Bool.not_eq_true] at g2
          go_wp2_with (go_at_call 118; refine (l01In_any _ _ _ _).mono ?_; rintro e w' ⟨rfl, rfl⟩)
          go_ret
          exact ⟨ret_bool Hb.out.symm, rfl⟩
      · have hbad : isTree a = false := by
          have : okNd a[k] = false := by simp [inR] at g1; simp only [okNd]; split <;> simp <;> omega
          simp only [isTree, Bool.and_eq_false_iff]; left; rw [List.all_eq_false]; exact ⟨a[k], by simp, by simp [this]⟩
        have Hb := hid hbad; clear hbad
        simp only [Bool.not_eq_true] at g1
        go_wp2_with (go_at_call 118; refine (l01In_any _ _ _ _).mono ?_; rintro e w' ⟨rfl, rfl⟩)
        go_ret
        exact ⟨ret_bool Hb.out.symm, rfl⟩
    · have hall : a.all okNd = true := by
        rw [List.all_eq_true]; intro x hx
        obtain ⟨j, hj, rfl⟩ := List.getElem_of_mem hx
        exact Hs.out j hj (by omega)
      have Ha := hid hall; clear hall
      by_cases h0 : 0 < a.length
      · go_wp2_with (go_at_call 259; refine (l02Part_any _ _ _ _ hv0 (by omega) (by omega)).mono ?_; rintro e w' ⟨rfl, rfl⟩)
        go_ret
        exact ⟨ret_bool (by simp [isTree, Ha.out]; omega), rfl⟩
      · go_wp2
        go_ret
        exact ⟨ret_bool (by simp [isTree]; omega), rfl⟩
end Go.Proofs.YtgnlfceloiilbaaGreat
/- Walks: the reference's small functions on formulas. -/
namespace Go.Proofs.YtgnlfceloiilbaaGreat
open Go.RowKit

/-- fresh nodes come back -/
def RetN (w : World) (a : List Nd) (e : Ending) (w' : World) : Prop := ∃ v, e = .returned v ∧ OwnN w' w.heap.size v a ∧ Keeps w w'
/-- nodes that were there come back -/
def RetS (w : World) (a : List Nd) (e : Ending) (w' : World) : Prop := ∃ v, e = .returned v ∧ Nds w v a ∧ w = w'
def plainL (a : List Nd) : Bool := a.all fun n => decide (n.k ≠ 5 ∧ n.k ≠ 6)

def plainErr (a : List Nd) : Int := if isFm a then (if plainL a then 0 else 5) else 1
--
set_option maxHeartbeats 400000 in
theorem l02Is_any (a : List Nd) (v : Value) (w : World) (hv : Nds w v a) :
    Calls Tryz.prog 248 #[v] w fun e w' => e = .returned (.bool (isFm a)) ∧ w = w' := by
  have hv0 := hv
  obtain ⟨p, cap, rfl, hle, hmx, hr, hlen⟩ := hv
  unfold maxLen at hmx
  by_cases h : a.length ≤ 40
  all_goals
    go_enter Tryz.func248, Tryz.ntmps248
    go_wp2_with (go_at_call 303; refine (l02Tree_any _ _ _ hv0).mono ?_; rintro e w' ⟨rfl, rfl⟩)
    go_ret
    exact ⟨ret_bool (by simp [isFm]; omega), rfl⟩
--
set_option maxHeartbeats 400000 in
theorem l02Left_any (a : List Nd) (x : Nd) (t : Fm) (r : List Nd) (v : Value) (w : World) (hv : Nds w v a) (ha : a = x :: (t.enc ++ r)) :
    Calls Tryz.prog 250 #[v] w (RetS w t.enc) := by
  have hv0 := hv
  obtain ⟨p, cap, rfl, hle, hmx, hr, hlen⟩ := hv
  have hp := Fm.enc_pos t
  have hs : skipInt 1 a (1 : Int).toNat = 1 + t.enc.length := by subst ha; exact skipInt_enc [x] t r
  have hl : 1 + t.enc.length ≤ a.length := by subst ha; simp; omega
  obtain ⟨b, off, rfl⟩ := hr.ptrN (by omega)
  have hmx0 := hid hmx
  unfold maxLen at hmx
  have Ha := hid ha; clear ha
  have Hs := hid hs; clear hs
  have hc1 : ¬ cap = 1 := by omega
  go_enter Tryz.func250, Tryz.ntmps250
  go_wp2_with (go_at_call 259; refine (l02Part_any _ _ _ _ hv0 (by omega) (by omega)).mono ?_; rintro e w' ⟨rfl, rfl⟩; rw [Hs.out])
  go_ret
  have e := Ha.out
  rw [show x :: (t.enc ++ r) = [x] ++ (t.enc ++ r) from rfl] at e
  rw [e] at hr
  exact ⟨_, rfl, Nds.sub (l := [x]) (m := t.enc) (r := r) hr (by omega) (by simp) (by omega) (by omega) (by have := hmx0.out; omega), rfl⟩
--
set_option maxHeartbeats 400000 in
theorem l02Right_any (a : List Nd) (x : Nd) (t u : Fm) (v : Value) (w : World) (hv : Nds w v a) (ha : a = x :: (t.enc ++ u.enc)) :
    Calls Tryz.prog 251 #[v] w (RetS w u.enc) := by
  have hv0 := hv
  obtain ⟨p, cap, rfl, hle, hmx, hr, hlen⟩ := hv
  have hp := Fm.enc_pos u
  have hs : skipInt 1 a (1 : Int).toNat = 1 + t.enc.length := by subst ha; exact skipInt_enc [x] t u.enc
  have hl : a.length = 1 + t.enc.length + u.enc.length := by subst ha; simp; omega
  obtain ⟨b, off, rfl⟩ := hr.ptrN (by omega)
  have hmx0 := hid hmx
  unfold maxLen at hmx
  have Ha := hid ha; clear ha
  have Hs := hid hs; clear hs
  have hl1 : 1 + t.enc.length + u.enc.length ≤ a.length := by omega
  have Hl := hid hl; clear hl
  have hc1 : ¬ cap = 1 + t.enc.length := by omega
  go_enter Tryz.func251, Tryz.ntmps251
  go_wp2_with (go_at_call 259; refine (l02Part_any _ _ _ _ hv0 (by omega) (by omega)).mono ?_; rintro e w' ⟨rfl, rfl⟩; rw [Hs.out])
  go_ret
  have e := Ha.out
  rw [show x :: (t.enc ++ u.enc) = (x :: t.enc) ++ (u.enc ++ []) by simp] at e
  rw [e] at hr
  have e2 := Hl.out
  exact ⟨_, rfl, Nds.sub (l := x :: t.enc) (m := u.enc) (r := []) hr (by omega) (by simp; omega) (by omega) (by omega) (by have := hmx0.out; omega), rfl⟩
--
set_option maxHeartbeats 400000 in
theorem l02False_any (w : World) : Calls Tryz.prog 208 #[] w (RetN w Fm.fls.enc) := by
  go_enter Tryz.func208, Tryz.ntmps208
  go_wp2
  go_ret
  exact ⟨_, rfl, OwnN.lit1 w ⟨1, 0⟩, (Keeps.refl w).alloc _⟩
--
set_option maxHeartbeats 400000 in
theorem l02Pair_any (k : Int) (a b : List Nd) (va vb : Value) (w : World) (hva : Nds w va a) (hvb : Nds w vb b) (hl : 1 + a.length + b.length ≤ 2147483648) :
    Calls Tryz.prog 113 #[.int .i64 k, va, vb] w (RetN w (⟨k, 0⟩ :: (a ++ b))) := by
  go_enter Tryz.func113, Tryz.ntmps113
  have h1 := OwnN.lit1 w ⟨k, 0⟩
  have k1 := (Keeps.refl w).alloc (.cells #[.int .i64 k, .int .i64 0] 145)
  have ha1 := hva.keeps k1
  go_wp2_with (first | (at_builtin; refine appN rfl (.tmp 9) (.tmp 10) rfl w.heap.size _ [⟨k, 0⟩] rfl h1 _ a rfl ha1 (by simp) (by simp; omega) ?_; intro v1 w1 hv1 hg1 hr1; have k2 : Keeps w w1 := k1.grown hg1 hr1; have hb1 := hvb.keeps k2) | (at_builtin; refine appN rfl (.tmp 11) (.tmp 12) rfl w.heap.size _ ([⟨k, 0⟩] ++ a) rfl (by assumption) _ b rfl (by assumption) (by have := k2.size; omega) (by simp; omega) ?_; intro v2 w2 hv2 hg2 hr2; have k3 : Keeps w w2 := k2.grown hg2 hr2))
  go_ret
  exact ⟨_, rfl, by simpa using hv2, k3⟩
--
set_option maxHeartbeats 400000 in
theorem l02Not_any (t : Fm) (v : Value) (w : World) (hv : Nds w v t.enc) (hl : t.enc.length ≤ 1073741824) :
    Calls Tryz.prog 273 #[v] w (RetN w (Fm.not t).enc) := by
  go_enter Tryz.func273, Tryz.ntmps273
  go_wp2_with (first | (go_at_call 208; refine (l02False_any _).mono ?_; rintro e w1 ⟨v1, rfl, hv1, k1⟩) | (go_at_call 113; refine (l02Pair_any _ _ _ _ _ _ (hv.keeps k1) (hv1.nds (by simp [Fm.enc])) (by simp [Fm.enc]; omega)).mono ?_; rintro e w2 ⟨v2, rfl, hv2, k2⟩))
  go_ret
  exact ⟨_, rfl, hv2.mono k1.size, k1.trans k2⟩
--
/-- an owned formula goes through, or is too long -/
def madeL (a : List Nd) : List Nd × Int := if a.length ≤ 40 then (a, 0) else ([], 3)
theorem l02Made_any (a : List Nd) (v : Value) (w : World) (hv : Nds w v a) :
    Calls Tryz.prog 112 #[v] w fun e w' => e = .returned (.tuple #[if a.length ≤ 40 then v else .slice none 0 0, .int .i64 (madeL a).2]) ∧ w = w' := by
  obtain ⟨p, cap, rfl, hle, hmx, hr, hlen⟩ := hv
  unfold maxLen at hmx
  by_cases h : a.length ≤ 40
  all_goals
    go_enter Tryz.func112, Tryz.ntmps112
    go_wp2
    go_ret2
    exact ⟨by simp [h, madeL], rfl⟩
--
theorem made_own {w : World} {B : Nat} {v : Value} {a : List Nd} (h : OwnN w B v a) : OwnN w B (if a.length ≤ 40 then v else .slice none 0 0) (madeL a).1 := by
  unfold madeL
  by_cases h4 : a.length ≤ 40
  · rw [if_pos h4, if_pos h4]; exact h
  · rw [if_neg h4, if_neg h4]; exact OwnN.nil _ _
theorem madeL_len (a : List Nd) : (madeL a).1.length ≤ 40 := by unfold madeL; split <;> simp; omega
theorem l02Made_own (a : List Nd) (v : Value) (w : World) (B : Nat) (hv : OwnN w B v a) (hl : a.length ≤ 2147483648) :
    Calls Tryz.prog 112 #[v] w fun e w' => ∃ u, e = .returned (.tuple #[u, .int .i64 (madeL a).2]) ∧ OwnN w' B u (madeL a).1 ∧ w = w' :=
  (l02Made_any a v w (hv.nds hl)).mono fun e w' ⟨he, hw⟩ => ⟨_, he, by subst hw; exact made_own hv, hw⟩
end Go.Proofs.YtgnlfceloiilbaaGreat
/- Walks: the laws' own copies, comparisons and marks of node lists and number lists. -/
namespace Go.Proofs.YtgnlfceloiilbaaGreat
open Go.RowKit

/-- the marks of a list of nodes, counted from k on -/
def marksN : Nat → Int → List Nd
  | 0, _ => []
  | n + 1, k => ⟨k, k + 1⟩ :: marksN n (k + 2)
theorem marksN_length (n : Nat) : ∀ k, (marksN n k).length = n := by
  induction n with
  | zero => intro k; rfl
  | succ n ih => intro k; simp [marksN, ih]
theorem marksN_succ (n : Nat) : ∀ k, marksN (n + 1) k = marksN n k ++ [⟨k + 2 * n, k + 2 * n + 1⟩] := by
  induction n with
  | zero => intro k; simp [marksN]
  | succ n ih =>
    intro k
    rw [marksN, ih (k + 2), marksN]
    simp; omega
theorem marksN_get (n : Nat) : ∀ (k : Int) (i : Nat) (h : i < (marksN n k).length), (marksN n k)[i] = ⟨k + 2 * i, k + 2 * i + 1⟩ := by
  induction n with
  | zero => intro k i h; simp [marksN] at h
  | succ n ih =>
    intro k i h
    cases i with
    | zero => simp [marksN]
    | succ i =>
      have := ih (k + 2) i (by simpa [marksN] using h)
      simp only [marksN, List.getElem_cons_succ, this]
      simp; omega
end Go.Proofs.YtgnlfceloiilbaaGreat
/- Rows of strings that grow. -/
namespace Go.Proofs.YtgnlfceloiilbaaGreat
open Go.RowKit
/-- the bytes of a text -/
def bts (s : ByteArray) : List UInt8 := s.data.toList
def strCells (a : List ByteArray) : List Value := a.map Value.string
theorem strCells_one (a : List ByteArray) : ∀ u ∈ strCells a, u.oneCell' = true := by
  intro u hu; simp [strCells] at hu; obtain ⟨x, _, rfl⟩ := hu; rfl
theorem Strs.at {w : World} {v : Value} {a : List ByteArray} (h : Strs w v a) : ∃ p cap, v = .slice p a.length cap ∧ a.length ≤ cap ∧ cap ≤ maxLen ∧ At w p (strCells a) ∧ a.length ≤ 2147483648 := by
  obtain ⟨p, cap, hv, h1, h2, h3⟩ := h.shape
  subst hv
  refine ⟨p, cap, rfl, h1, h2, fun j hj => ?_, h3⟩
  have hj' : j < a.length := by simpa [strCells] using hj
  obtain ⟨b, off, hp, hc⟩ := h.get j hj'
  exact ⟨b, off, hp, by simpa [strCells] using hc⟩
theorem Strs.ofAt {w : World} {p : Option Addr} {cap : Nat} {a : List ByteArray} (h1 : a.length ≤ cap) (h2 : cap ≤ maxLen) (h : At w p (strCells a)) (h3 : a.length ≤ 2147483648) : Strs w (.slice p a.length cap) a := by
  refine ⟨p, cap, rfl, h1, h2, h3, fun i hi => ?_⟩
  obtain ⟨b, off, hp, hc⟩ := h i (by simpa [strCells] using hi)
  refine ⟨b, off, fun _ => .string a[i], hp, fun c hc' => ?_, rfl⟩
  obtain rfl : c = 0 := by omega
  simpa [strCells] using hc
def OwnS (w : World) (B : Nat) (v : Value) (a : List ByteArray) : Prop := w.ownsRow B 9 1 v a.length (strCells a)
theorem OwnS.strs {w : World} {B : Nat} {v : Value} {a : List ByteArray} (h : OwnS w B v a) (hl : a.length ≤ 2147483648) : Strs w v a := by
  obtain ⟨p, cap, rfl, h2, h3, h4⟩ := At.of_own h
  exact Strs.ofAt h2 h3 h4 hl
theorem OwnS.keeps {w w' : World} {B : Nat} {v : Value} {a : List ByteArray} (h : OwnS w B v a) (k : Keeps w w') : OwnS w' B v a := own_keeps h k
theorem OwnS.mono {w : World} {B B' : Nat} {v : Value} {a : List ByteArray} (h : OwnS w B v a) (k : B' ≤ B) : OwnS w B' v a := own_mono h k
theorem OwnS.nil (w : World) (B : Nat) : OwnS w B (.slice none 0 0) [] := World.ownsRow_nil w B _ 1
theorem OwnS.len {w : World} {B : Nat} {v : Value} {a : List ByteArray} (h : OwnS w B v a) : ∀ k, v.ownBlock = some k → B ≤ k ∧ k < w.heap.size := World.ownsRow.lt h
theorem infoS : (Tryz.prog.info? 9).map (fun i => (i.zero, i.size, i.bytes)) = some (some (.string ⟨#[]⟩), 1, 16) := by kernel_rfl
theorem appSK {w : World} {o : Oper} {a : Act} {K : Act → World → Prop} {Q : Exit → Act → World → Prop} (s x : Operand)
    (ho : o.op = .call { callee := .builtin .append, args := #[s, x], argTypes := #[22, 22] }) (base : Nat) (v : Value) (xs : List ByteArray) (hs : a.eval s = v) (hown : OwnS w base v xs)
    (u : Value) (ys : List ByteArray) (hx : a.eval x = u) (hu : Strs w u ys) (hbase : base ≤ w.heap.size) (hlen : xs.length + ys.length ≤ 2147483648)
    (h : ∀ v' w', OwnS w' base v' (xs ++ ys) → w.grownBy w' v.ownBlock → (∀ k, v.ownBlock = some k → base ≤ k) → K (a.put o.dst v') w') : o.wp Tryz.prog a w K Q := by
  obtain ⟨i0, hi, hz0, hz1, hz2⟩ := info_parts infoS
  obtain ⟨p, cap, rfl, _, _, hat, _⟩ := hu.at
  refine wp_append_at s x _ ho _ i0 _ 1 16 Tryz.underlying22 hi hz0 hz1 hz2 rfl (by decide) base v _ _ hs hown p _ cap _ hx (by simp [strCells]) hat (strCells_one _) (by unfold maxLen; omega) (by omega) hbase ?_
  intro v' w' h1 h2 h3
  refine h v' w' ?_ h2 h3
  unfold OwnS
  rw [List.length_append, show strCells (xs ++ ys) = strCells xs ++ strCells ys by simp [strCells]]
  exact h1
theorem appS {w : World} {ops : Array Oper} {rest : List Oper} {o : Oper} {a : Act} {Q : Exit → Act → World → Prop} (hgd : o.guard = none) (s x : Operand)
    (ho : o.op = .call { callee := .builtin .append, args := #[s, x], argTypes := #[22, 22] }) (base : Nat) (v : Value) (xs : List ByteArray) (hs : a.eval s = v) (hown : OwnS w base v xs)
    (u : Value) (ys : List ByteArray) (hx : a.eval x = u) (hu : Strs w u ys) (hbase : base ≤ w.heap.size) (hlen : xs.length + ys.length ≤ 2147483648)
    (h : ∀ v' w', OwnS w' base v' (xs ++ ys) → w.grownBy w' v.ownBlock → (∀ k, v.ownBlock = some k → base ≤ k) → wpList Tryz.prog ops Q rest (a.put o.dst v') w') : wpList Tryz.prog ops Q (o :: rest) a w :=
  wpList_plain hgd fun _ hK => appSK s x ho base v xs hs hown u ys hx hu hbase hlen fun v' w' h1 h2 h3 => hK _ _ (h v' w' h1 h2 h3)
theorem stepS {w : World} {ops : Array Oper} {o : Oper} {a : Act} {K : Act → World → Prop} {Q : Exit → Act → World → Prop} {E : Prop} (hgd : o.guard = none) (s x : Operand)
    (ho : o.op = .call { callee := .builtin .append, args := #[s, x], argTypes := #[22, 22] }) (base : Nat) (v : Value) (xs : List ByteArray) (hs : a.eval s = v) (hown : OwnS w base v xs)
    (u : Value) (ys : List ByteArray) (hx : a.eval x = u) (hu : Strs w u ys) (hbase : base ≤ w.heap.size) (hlen : xs.length + ys.length ≤ 2147483648)
    (h : ∀ v' w', OwnS w' base v' (xs ++ ys) → w.grownBy w' v.ownBlock → (∀ k, v.ownBlock = some k → base ≤ k) → K (a.put o.dst v') w') : if Region.wanted o (yielded ops a.tmps) = true then Oper.wp Tryz.prog o a w K Q else E := by
  rw [if_pos (by simp [Region.wanted, hgd])]
  exact appSK s x ho base v xs hs hown u ys hx hu hbase hlen h
/-! ### append onto an empty literal: a fresh row -/
theorem run_append_fresh {P : Program} (w : World) (t ty e : TypeId) (i : TypeInfo) (z : Value) (size bytes : Nat) (ht : P.underlying t = some (.slice e)) (hi : P.info? e = some i) (hz : i.zero = some z)
    (hsize : i.size = size) (hby : i.bytes = bytes) (hzs : z.cells.size = size) (b a : Addr) (m c : Nat) (news : List Value) (hl : news.length = m * size) (hnews : ∀ j u, news[j]? = some u → w.cell? (a.add j) = some u)
    (h0 : 0 < m) (h63 : m ≤ maxLen) (hbytes : m * bytes ≤ 140737488355328) :
    ∃ v' w', (Builtin.append_ #[t, t] ty #[.slice (some b) 0 0, .slice (some a) m c]).run P w = .ok v' w' ∧ w'.ownsRow w.heap.size e size v' m news ∧ Keeps w w' := by
  subst hsize
  subst hby
  have hsmall : m ≤ 9223372036854775807 := by simp only [maxLen] at h63; omega
  have hr := run_append_grow (P := P) w t ty e i z ht hi hz b 0 0 [] (by simp) (fun j u h => by simp at h) a m c news hl hnews (by omega) (by omega) (by
    have h := growslice_fits (old := 0) (need := 0 + m) (by omega) (by simpa using hbytes)
    exact h)
  simp only [Nat.zero_add] at hr
  have hge := grownCap_ge w m 0 e
  have hcm : grownCap w m 0 e ≤ maxLen := grownCap_le_maxLen w m 0 e h63
  refine ⟨_, _, hr, ⟨hl, .inr ⟨w.heap.size, _, _, rfl, Nat.le_refl _, heap_alloc_new w.drew _, hge, hcm, ?_, ?_⟩⟩, (Keeps.refl w).drew.alloc _⟩
  · simp only [Array.size_append, List.size_toArray, size_zeroCells, hzs, hl, List.length_nil, Nat.zero_add, ← Nat.add_mul]
    congr 1
    omega
  · simp only [Array.toList_append, List.nil_append, ← hl]
    exact List.take_left
theorem appSFK {w : World} {o : Oper} {a : Act} {K : Act → World → Prop} {Q : Exit → Act → World → Prop} (s x : Operand)
    (ho : o.op = .call { callee := .builtin .append, args := #[s, x], argTypes := #[22, 22] }) (ad : Addr) (hs : a.eval s = .slice (some ad) 0 0)
    (u : Value) (ys : List ByteArray) (hx : a.eval x = u) (hu : Strs w u ys) (h0 : 0 < ys.length) (hlen : ys.length ≤ 2147483648)
    (h : ∀ v' w', OwnS w' w.heap.size v' ys → Keeps w w' → K (a.put o.dst v') w') : o.wp Tryz.prog a w K Q := by
  obtain ⟨i0, hi, hz0, hz1, hz2⟩ := info_parts infoS
  obtain ⟨p, cap, rfl, _, _, hat, _⟩ := hu.at
  cases p with
  | none => obtain ⟨b, off, hp, _⟩ := hat 0 (by simpa [strCells] using h0); cases hp
  | some bd =>
    obtain ⟨v', w', hr, h1, h2⟩ := run_append_fresh (P := Tryz.prog) w 22 o.type _ i0 _ 1 16 Tryz.underlying22 hi hz0 hz1 hz2 rfl ad bd ys.length cap (strCells ys) (by simp [strCells]) (fun j u' hu' => by
      obtain ⟨hj, rfl⟩ := List.getElem?_eq_some_iff.1 hu'
      obtain ⟨b, off, hp, hc⟩ := hat j hj
      cases hp
      have hadd : (⟨b, off, none⟩ : Addr).add j = ⟨b, off + j, none⟩ := by unfold Addr.add; split <;> simp_all
      rw [hadd]; exact hc) h0 (by unfold maxLen; omega) (by omega)
    unfold Oper.wp execOp
    simp only [ho, resolve, invoke, builtin, Sem.run_bind, Sem.run_pure, Result.andThen_ok, List.map_toArray, List.map_cons, List.map_nil, hs, hx, hr]
    exact h _ _ h1 h2
theorem appSF {w : World} {ops : Array Oper} {rest : List Oper} {o : Oper} {a : Act} {Q : Exit → Act → World → Prop} (hgd : o.guard = none) (s x : Operand)
    (ho : o.op = .call { callee := .builtin .append, args := #[s, x], argTypes := #[22, 22] }) (ad : Addr) (hs : a.eval s = .slice (some ad) 0 0)
    (u : Value) (ys : List ByteArray) (hx : a.eval x = u) (hu : Strs w u ys) (h0 : 0 < ys.length) (hlen : ys.length ≤ 2147483648)
    (h : ∀ v' w', OwnS w' w.heap.size v' ys → Keeps w w' → wpList Tryz.prog ops Q rest (a.put o.dst v') w') : wpList Tryz.prog ops Q (o :: rest) a w :=
  wpList_plain hgd fun _ hK => appSFK s x ho ad hs u ys hx hu h0 hlen fun v' w' h1 h2 => hK _ _ (h v' w' h1 h2)
theorem Strs.lit1 (w : World) (s : ByteArray) : Strs (w.alloc (.cells #[.string s] 9)) (.slice (some ⟨w.heap.size, 0, none⟩) 1 1) [s] := Strs.lit (w := w) [s] (by simp)
theorem Strs.lit2 (w : World) (s t : ByteArray) : Strs (w.alloc (.cells #[.string s, .string t] 9)) (.slice (some ⟨w.heap.size, 0, none⟩) 2 2) [s, t] := Strs.lit (w := w) [s, t] (by simp)
theorem OwnS.empty (w : World) : OwnS (w.alloc (.cells #[] 9)) w.heap.size (.slice (some ⟨w.heap.size, 0, none⟩) 0 0) [] :=
  World.ownsRow_made w #[] 0 (Nat.le_refl _) (by simp [maxLen]) (by simp)
theorem bts_inj {s t : ByteArray} (h : bts s = bts t) : s = t := by
  cases s; cases t
  unfold bts at h
  congr 1
  exact Array.toList_inj.1 h
theorem At.drop {w : World} {b off : Nat} {vs : List Value} (h : At w (some ⟨b, off, none⟩) vs) (i : Nat) {o : Nat} (ho : o = off + i) : At w (some ⟨b, o, none⟩) (vs.drop i) := fun j hj => by
  subst ho
  simp at hj
  obtain ⟨b', off', hp, hc⟩ := h (i + j) (by omega)
  cases hp
  exact ⟨b, _, rfl, by rw [Nat.add_assoc, hc]; simp⟩
end Go.Proofs.YtgnlfceloiilbaaGreat
