/- Walks: the reference's small functions on formulas. -/
import Derived.Test.YtponaoefpicfpaaGreatDoorGPP
import Derived.Test.YtponaoefpicfpaaGreatDoorGQR
namespace Go.Proofs.YtponaoefpicfpaaGreatDoor
open Go.RowKit

/-- fresh nodes come back -/
def RetN (w : World) (a : List Nd) (e : Ending) (w' : World) : Prop := ∃ v, e = .returned v ∧ OwnN w' w.heap.size v a ∧ Keeps w w'
/-- nodes that were there come back -/
def RetS (w : World) (a : List Nd) (e : Ending) (w' : World) : Prop := ∃ v, e = .returned v ∧ Nds w v a ∧ w = w'
def plainL (a : List Nd) : Bool := a.all fun n => decide (n.k ≠ 5 ∧ n.k ≠ 6)

def plainErr (a : List Nd) : Int := if isFm a then (if plainL a then 0 else 5) else 1
--
set_option maxHeartbeats 400000 in
theorem l02Is_any (a : List Nd) (v : Value) (w : World) (hv : Nds w v a) :
    Calls Tryz.prog 53 #[v] w fun e w' => e = .returned (.bool (isFm a)) ∧ w = w' := by
  have hv0 := hv
  obtain ⟨p, cap, rfl, hle, hmx, hr, hlen⟩ := hv
  unfold maxLen at hmx
  by_cases h : a.length ≤ 40
  all_goals
    go_enter Tryz.func53, Tryz.ntmps53
    go_wp2_with (go_at_call 121; refine (l02Tree_any _ _ _ hv0).mono ?_; rintro e w' ⟨rfl, rfl⟩)
    go_ret
    exact ⟨ret_bool (by simp [isFm]; omega), rfl⟩
--
set_option maxHeartbeats 400000 in
theorem l02Plain_any (a : List Nd) (v : Value) (w : World) (hv : Nds w v a) :
    Calls Tryz.prog 54 #[v] w fun e w' => e = .returned (.bool (plainL a)) ∧ w = w' := by
  obtain ⟨p, cap, rfl, hle, hmx, hr, hlen⟩ := hv
  unfold maxLen at hmx
  go_enter Tryz.func54, Tryz.ntmps54
  go_wp2
  go_loop [2, 3] (fun r i' => ∃ k : Nat, k ≤ a.length ∧ (∀ j (h : j < a.length), j < k → a[j].k ≠ 5 ∧ a[j].k ≠ 6) ∧ i' = .int .i64 k ∧ r = .bool false) (fun _ i => a.length - (intOf i).toNat)
  case atStart => exact ⟨0, by omega, by omega, rfl, rfl⟩
  case round =>
    obtain ⟨k, hk, hs, rfl, rfl⟩ := hrel
    have Hs := hid hs; clear hs
    by_cases hlt : k < a.length
    · obtain ⟨b, off, rfl, h1, h2⟩ := hr.nd k hlt
      clear hr h2
      by_cases g1 : a[k].k = 5 ∨ a[k].k = 6
      · have hbad : plainL a = false := by
          simp only [plainL]; rw [List.all_eq_false]; exact ⟨a[k], by simp, by simp; omega⟩
        have Hb := hid hbad; clear hbad
        rcases g1 with g1 | g1
        · have g5 : (a[k].k == 5) = true := by simp [g1]
          clear g1
          go_wp2
          go_ret
          exact ⟨ret_bool Hb.out.symm, rfl⟩
        · have g5 : (a[k].k == 5) = false := by simp [g1]
          have g6 : (a[k].k == 6) = true := by simp [g1]
          clear g1
          go_wp2
          go_ret
          exact ⟨ret_bool Hb.out.symm, rfl⟩
      · have g5 : (a[k].k == 5) = false := by simp; omega
        have g6 : (a[k].k == 6) = false := by simp; omega
        have G1 := hid g1; clear g1
        go_wp2
        go_round
        case rel =>
          refine ⟨k + 1, by omega, ?_, by go_num, rfl⟩
          intro j hj hjk
          by_cases e : j = k
          · subst e; have := G1.out; omega
          · exact Hs.out j hj (by omega)
        case measure => simp [intOf]; omega
    · go_wp2
      go_ret
      refine ⟨ret_bool ?_, rfl⟩
      simp only [plainL]; symm; rw [List.all_eq_true]; intro x hx
      obtain ⟨j, hj, rfl⟩ := List.getElem_of_mem hx
      have := Hs.out j hj (by omega)
      simpa using this
--
set_option maxHeartbeats 400000 in
theorem l02Left_any (a : List Nd) (x : Nd) (t : Fm) (r : List Nd) (v : Value) (w : World) (hv : Nds w v a) (ha : a = x :: (t.enc ++ r)) :
    Calls Tryz.prog 128 #[v] w (RetS w t.enc) := by
  have hv0 := hv
  obtain ⟨p, cap, rfl, hle, hmx, hr, hlen⟩ := hv
  have hp := Fm.enc_pos t
  have hs : skipInt 1 a (1 : Int).toNat = 1 + t.enc.length := by subst ha; exact skipInt_enc [x] t r
  have hl : 1 + t.enc.length ≤ a.length := by subst ha; simp; omega
  obtain ⟨b, off, rfl⟩ := hr.ptrN (by omega)
  have hmx0 := hid hmx
  unfold maxLen at hmx
  have Ha := hid ha; clear ha
  have Hs := hid hs; clear hs
  have hc1 : ¬ cap = 1 := by omega
  go_enter Tryz.func128, Tryz.ntmps128
  go_wp2_with (go_at_call 215; refine (l02Part_any _ _ _ _ hv0 (by omega) (by omega)).mono ?_; rintro e w' ⟨rfl, rfl⟩; rw [Hs.out])
  go_ret
  have e := Ha.out
  rw [show x :: (t.enc ++ r) = [x] ++ (t.enc ++ r) from rfl] at e
  rw [e] at hr
  exact ⟨_, rfl, Nds.sub (l := [x]) (m := t.enc) (r := r) hr (by omega) (by simp) (by omega) (by omega) (by have := hmx0.out; omega), rfl⟩
--
set_option maxHeartbeats 400000 in
theorem l02Right_any (a : List Nd) (x : Nd) (t u : Fm) (v : Value) (w : World) (hv : Nds w v a) (ha : a = x :: (t.enc ++ u.enc)) :
    Calls Tryz.prog 129 #[v] w (RetS w u.enc) := by
  have hv0 := hv
  obtain ⟨p, cap, rfl, hle, hmx, hr, hlen⟩ := hv
  have hp := Fm.enc_pos u
  have hs : skipInt 1 a (1 : Int).toNat = 1 + t.enc.length := by subst ha; exact skipInt_enc [x] t u.enc
  have hl : a.length = 1 + t.enc.length + u.enc.length := by subst ha; simp; omega
  obtain ⟨b, off, rfl⟩ := hr.ptrN (by omega)
  have hmx0 := hid hmx
  unfold maxLen at hmx
  have Ha := hid ha; clear ha
  have Hs := hid hs; clear hs
  have hl1 : 1 + t.enc.length + u.enc.length ≤ a.length := by omega
  have Hl := hid hl; clear hl
  have hc1 : ¬ cap = 1 + t.enc.length := by omega
  go_enter Tryz.func129, Tryz.ntmps129
  go_wp2_with (go_at_call 215; refine (l02Part_any _ _ _ _ hv0 (by omega) (by omega)).mono ?_; rintro e w' ⟨rfl, rfl⟩; rw [Hs.out])
  go_ret
  have e := Ha.out
  rw [show x :: (t.enc ++ u.enc) = (x :: t.enc) ++ (u.enc ++ []) by simp] at e
  rw [e] at hr
  have e2 := Hl.out
  exact ⟨_, rfl, Nds.sub (l := x :: t.enc) (m := u.enc) (r := []) hr (by omega) (by simp; omega) (by omega) (by omega) (by have := hmx0.out; omega), rfl⟩
--
set_option maxHeartbeats 400000 in
theorem l02False_any (w : World) : Calls Tryz.prog 124 #[] w (RetN w Fm.fls.enc) := by
  go_enter Tryz.func124, Tryz.ntmps124
  go_wp2
  go_ret
  exact ⟨_, rfl, OwnN.lit1 w ⟨1, 0⟩, (Keeps.refl w).alloc _⟩
--
set_option maxHeartbeats 400000 in
theorem l02Pair_any (k : Int) (a b : List Nd) (va vb : Value) (w : World) (hva : Nds w va a) (hvb : Nds w vb b) (hl : 1 + a.length + b.length ≤ 2147483648) :
    Calls Tryz.prog 58 #[.int .i64 k, va, vb] w (RetN w (⟨k, 0⟩ :: (a ++ b))) := by
  go_enter Tryz.func58, Tryz.ntmps58
  have h1 := OwnN.lit1 w ⟨k, 0⟩
  have k1 := (Keeps.refl w).alloc (.cells #[.int .i64 k, .int .i64 0] 86)
  have ha1 := hva.keeps k1
  go_wp2_with (first | (at_builtin; refine appN rfl (.tmp 9) (.tmp 10) rfl w.heap.size _ [⟨k, 0⟩] rfl h1 _ a rfl ha1 (by simp) (by simp; omega) ?_; intro v1 w1 hv1 hg1 hr1; have k2 : Keeps w w1 := k1.grown hg1 hr1; have hb1 := hvb.keeps k2) | (at_builtin; refine appN rfl (.tmp 11) (.tmp 12) rfl w.heap.size _ ([⟨k, 0⟩] ++ a) rfl (by assumption) _ b rfl (by assumption) (by have := k2.size; omega) (by simp; omega) ?_; intro v2 w2 hv2 hg2 hr2; have k3 : Keeps w w2 := k2.grown hg2 hr2))
  go_ret
  exact ⟨_, rfl, by simpa using hv2, k3⟩
--
set_option maxHeartbeats 400000 in
theorem l02Not_any (t : Fm) (v : Value) (w : World) (hv : Nds w v t.enc) (hl : t.enc.length ≤ 1073741824) :
    Calls Tryz.prog 56 #[v] w (RetN w (Fm.not t).enc) := by
  go_enter Tryz.func56, Tryz.ntmps56
  go_wp2_with (first | (go_at_call 124; refine (l02False_any _).mono ?_; rintro e w1 ⟨v1, rfl, hv1, k1⟩) | (go_at_call 58; refine (l02Pair_any _ _ _ _ _ _ (hv.keeps k1) (hv1.nds (by simp [Fm.enc])) (by simp [Fm.enc]; omega)).mono ?_; rintro e w2 ⟨v2, rfl, hv2, k2⟩))
  go_ret
  exact ⟨_, rfl, hv2.mono k1.size, k1.trans k2⟩
end Go.Proofs.YtponaoefpicfpaaGreatDoor
/- Walks: the laws' own copies, comparisons and marks of node lists and number lists. -/
namespace Go.Proofs.YtponaoefpicfpaaGreatDoor
open Go.RowKit

--
theorem szNodeS_any (p : Option Addr) (n cap : Nat) (left : Int) (w : World) (hn : n ≤ maxLen) (h0 : 0 ≤ left) (h1 : left ≤ 1048576) :
    Calls Tryz.prog 19 #[.slice p n cap, .int .i64 left] w fun e w' => e = .returned (.int .i64 (if left < n then -1 else left - n)) ∧ w = w' := by
  unfold maxLen at hn
  by_cases h : left < n
  all_goals
    go_enter Tryz.func19, Tryz.ntmps19
    go_wp2
    go_ret
    exact ⟨ret_int (by first | rfl | omega), rfl⟩
--
theorem toNode_any (x : Nd) (w : World) :
    Calls Tryz.prog 64 #[.agg #[.int .i64 x.k, .int .i64 x.s]] w fun e w' => e = .returned (.agg #[.int .i64 x.k, .int .i64 x.s]) ∧ Keeps w w' := by
  go_enter Tryz.func64, Tryz.ntmps64
  go_wp2
  refine bodyPost_ret (v := .agg #[.int .i64 x.k, .int .i64 x.s]) (by simp [results, Tryz.results64, go_sem]) rfl ⟨rfl, ?_⟩
  exact (((Keeps.refl w).alloc _).alloc _).alloc _
--
set_option maxRecDepth 20000 in
set_option maxHeartbeats 1000000 in
theorem toNodeS_any (a : List Nd) (v : Value) (w : World) (hv : Nds w v a) (hl : a.length ≤ 1048576) :
    Calls Tryz.prog 21 #[v] w (RetN w a) := by
  have hv0 := hv
  obtain ⟨p, cap, rfl, hle, hmx, _, hlen⟩ := hv
  unfold maxLen at hmx
  obtain ⟨w1, hmk, hown, k1⟩ := run_makeN w a.length (by omega)
  have Hown := hid hown; clear hown
  go_enter Tryz.func21, Tryz.ntmps21
  go_wp2
  clear hmk
  have hown := Hown.out
  go_loopw [4] (fun i' wr => ∃ (k : Nat) (xs : List Nd), k ≤ a.length ∧ i' = .int .i64 k ∧ xs.length = a.length ∧ xs.take k = a.take k ∧ OwnN wr w.heap.size (.slice (some ⟨w.heap.size, 0, none⟩) a.length a.length) xs ∧ Keeps w wr) (fun i _ => a.length - (intOf i).toNat)
  case atStart => exact ⟨0, _, by omega, rfl, by simp, by simp, hown, k1⟩
  case round =>
    obtain ⟨k, xs, hk, rfl, hxl, htk, hownk, kw⟩ := hrel
    have HX := hid hxl; clear hxl
    have HT := hid htk; clear htk
    clear Hown hown
    by_cases hlt : k < a.length
    · have hltx : k < xs.length := by have := HX.out; omega
      obtain ⟨_, _, e1, _, _, hata, _⟩ := hv0.keeps kw
      cases e1
      obtain ⟨b1, o1, rfl, h1, h2⟩ := hata.nd k hlt
      clear hata hv0
      have hlt' : (k : Int) < a.length := by omega
      go_wp2_with (go_at_call 64; refine (toNode_any a[k] _).mono ?_; rintro e w2 ⟨rfl, k2⟩; have hown2 := hownk.keeps k2; obtain ⟨c1, c2, c3, c4⟩ := hown2.cell k hltx; have H2 := hid hown2; clear hown2)
      have h3 := H2.out.storeks k hltx a[k]
      go_roundw
      case rel =>
        refine ⟨k + 1, _, by omega, by go_num, ?_, ?_, h3, ?_⟩
        · rw [List.length_set]; exact HX.out
        · rw [take_set _ _ _ hltx, List.take_succ_eq_append_getElem hlt, HT.out]
        · exact ((kw.trans k2).setCell (Nat.le_refl _) _).setCell (Nat.le_refl _) _
      case measure => simp [intOf]; omega
    · go_wp2
      go_ret
      have hx : xs = a := by
        have h1 := HX.out; have h2 := HT.out
        rw [List.take_of_length_le (by omega), List.take_of_length_le (by omega)] at h2
        exact h2
      subst hx
      exact ⟨_, rfl, hownk, kw⟩
--
set_option maxRecDepth 20000 in
set_option maxHeartbeats 400000 in
theorem eqNode_any (x y : Nd) (w : World) :
    Calls Tryz.prog 73 #[.agg #[.int .i64 x.k, .int .i64 x.s], .agg #[.int .i64 y.k, .int .i64 y.s]] w fun e w' => e = .returned (.bool (decide (x = y))) ∧ Keeps w w' := by
  obtain ⟨xk, xs⟩ := x
  obtain ⟨yk, ys⟩ := y
  go_enter Tryz.func73, Tryz.ntmps73
  go_wp2
  all_goals go_ret
  all_goals exact ⟨ret_bool (by simp_all), ((Keeps.refl w).alloc _).alloc _⟩
--
set_option maxRecDepth 20000 in
set_option maxHeartbeats 400000 in
theorem eqNodeS_any (a b : List Nd) (va vb : Value) (w : World) (hva : Nds w va a) (hvb : Nds w vb b) :
    Calls Tryz.prog 23 #[va, vb] w fun e w' => e = .returned (.bool (decide (a = b))) ∧ Keeps w w' := by
  have hva0 := hva
  have hvb0 := hvb
  obtain ⟨pa, ca, rfl, hlea, hmxa, _, hlena⟩ := hva
  obtain ⟨pb, cb, rfl, hleb, hmxb, _, hlenb⟩ := hvb
  unfold maxLen at hmxa hmxb
  by_cases hl : a.length = b.length
  · have hl' : ((a.length : Int) != (b.length : Int)) = false := by simp [hl]
    have HL := hid hl; clear hl
    go_enter Tryz.func23, Tryz.ntmps23
    go_wp2
    go_loopw [4, 5] (fun r i' wr => ∃ k : Nat, k ≤ a.length ∧ a.take k = b.take k ∧ Keeps w wr ∧ i' = .int .i64 k ∧ r = .bool false) (fun _ i _ => a.length - (intOf i).toNat)
    case atStart => exact ⟨0, by omega, rfl, Keeps.refl w, rfl, rfl⟩
    case round =>
      obtain ⟨k, hk, htk, kw, rfl, rfl⟩ := hrel
      have HT := hid htk; clear htk
      clear hl'
      by_cases hlt : k < a.length
      · have hltb : k < b.length := by have := HL.out; omega
        obtain ⟨_, _, e1, _, _, hata, _⟩ := hva0.keeps kw
        obtain ⟨_, _, e2, _, _, hatb, _⟩ := hvb0.keeps kw
        cases e1; cases e2
        obtain ⟨b1, o1, rfl, h1, h2⟩ := hata.nd k hlt
        obtain ⟨b2, o2, rfl, h3, h4⟩ := hatb.nd k hltb
        clear hata hatb hva0 hvb0
        have hlt' : (k : Int) < a.length := by omega
        have hltb' : (k : Int) < b.length := by omega
        go_wp2_with fail
        go_still_tail 8, (by kernel_rfl)
        by_cases he : a[k] = b[k]
        · have hd : decide (a[k] = b[k]) = true := by simp [he]
          have HE := hid he; clear he
          go_wp2_with (go_at_call 73; refine (eqNode_any a[k] b[k] _).mono ?_; rintro e w2 ⟨rfl, k2⟩; rw [hd])
          go_roundw
          case rel => exact ⟨k + 1, by omega, by rw [List.take_succ_eq_append_getElem hlt, List.take_succ_eq_append_getElem hltb, HT.out, HE.out], kw.drew.trans k2, by go_num, rfl⟩
          case measure => simp [intOf]; omega
        · have hd : decide (a[k] = b[k]) = false := by simp [he]
          have HE := hid he; clear he
          go_wp2_with (go_at_call 73; refine (eqNode_any a[k] b[k] _).mono ?_; rintro e w2 ⟨rfl, k2⟩; rw [hd])
          go_ret
          refine ⟨ret_bool ?_, kw.drew.trans k2⟩
          symm; rw [decide_eq_false_iff_not]
          rintro rfl; exact HE.out rfl
      · go_wp2
        go_ret
        refine ⟨ret_bool ?_, kw⟩
        symm; rw [decide_eq_true_eq]
        have h1 := HL.out; have h2 := HT.out
        rw [List.take_of_length_le (by omega), List.take_of_length_le (by omega)] at h2
        exact h2
  · have hl' : ((a.length : Int) != (b.length : Int)) = true := by simp; omega
    have HL := hid hl; clear hl
    go_enter Tryz.func23, Tryz.ntmps23
    go_wp2
    go_ret
    refine ⟨ret_bool ?_, Keeps.refl _⟩
    symm; rw [decide_eq_false_iff_not]
    rintro rfl; exact HL.out rfl
/-- the marks of a list of nodes, counted from k on -/
def marksN : Nat → Int → List Nd
  | 0, _ => []
  | n + 1, k => ⟨k, k + 1⟩ :: marksN n (k + 2)
theorem marksN_length (n : Nat) : ∀ k, (marksN n k).length = n := by
  induction n with
  | zero => intro k; rfl
  | succ n ih => intro k; simp [marksN, ih]
theorem marksN_succ (n : Nat) : ∀ k, marksN (n + 1) k = marksN n k ++ [⟨k + 2 * n, k + 2 * n + 1⟩] := by
  induction n with
  | zero => intro k; simp [marksN]
  | succ n ih =>
    intro k
    rw [marksN, ih (k + 2), marksN]
    simp; omega
theorem marksN_get (n : Nat) : ∀ (k : Int) (i : Nat) (h : i < (marksN n k).length), (marksN n k)[i] = ⟨k + 2 * i, k + 2 * i + 1⟩ := by
  induction n with
  | zero => intro k i h; simp [marksN] at h
  | succ n ih =>
    intro k i h
    cases i with
    | zero => simp [marksN]
    | succ i =>
      have := ih (k + 2) i (by simpa [marksN] using h)
      simp only [marksN, List.getElem_cons_succ, this]
      simp; omega
--
set_option maxRecDepth 20000 in
set_option maxHeartbeats 1000000 in
theorem markNodeS_any (a : List Nd) (v : Value) (k0 : Int) (w : World) (B : Nat) (hv : OwnN w B v a) (hl : a.length ≤ 2147483648) (hk0 : 0 ≤ k0) (hk1 : k0 ≤ 4294967296) :
    Calls Tryz.prog 26 #[v, .int .i64 k0] w fun e w' => e = .returned (.int .i64 (k0 + 2 * a.length)) ∧ OwnN w' B v (marksN a.length k0) ∧ w.grownBy w' v.ownBlock := by
  have hdist : a = [] ∨ 0 < a.length := by cases a with
    | nil => exact .inl rfl
    | cons x l => right; simp
  rcases hdist with rfl | hpos
  · obtain ⟨p, cap, rfl, _, _, _⟩ := At.of_own hv
    go_enter Tryz.func26, Tryz.ntmps26
    go_wp2
    refine wp_loop_once ?_
    go_wp2
    go_ret
    exact ⟨by simp, hv, grown_refl _ _⟩
  · obtain ⟨g, cap, rfl, hB, hg, hle, hmx⟩ := hv.shape hpos
    unfold maxLen at hmx
    go_enter Tryz.func26, Tryz.ntmps26
    go_wp2
    go_loopw [1, 5] (fun c i' wr => ∃ (k : Nat) (xs : List Nd), k ≤ a.length ∧ i' = .int .i64 k ∧ c = .int .i64 (k0 + 2 * k) ∧ xs.length = a.length ∧ xs.take k = marksN k k0 ∧ OwnN wr B (.slice (some ⟨g, 0, none⟩) a.length cap) xs ∧ w.grownBy wr (some g)) (fun _ i _ => a.length - (intOf i).toNat)
    case atStart => exact ⟨0, a, by omega, rfl, by simp, rfl, by simp [marksN], hv, grown_refl _ _⟩
    case round =>
      obtain ⟨k, xs, hk, rfl, rfl, hxl, htk, hownk, hgr⟩ := hrel
      have HX := hid hxl; clear hxl
      have HT := hid htk; clear htk
      clear hv
      by_cases hlt : k < a.length
      · have hltx : k < xs.length := by have := HX.out; omega
        obtain ⟨c1, c2, c3, c4⟩ := hownk.cell k hltx
        have h3 := hownk.storeks k hltx ⟨k0 + 2 * k, k0 + 2 * k + 1⟩
        have HO := hid hownk; clear hownk
        have H3 := hid h3; clear h3
        go_wp2
        go_roundw
        case rel =>
          refine ⟨k + 1, _, by omega, by go_num, by go_num, ?_, ?_, H3.out, ?_⟩
          · rw [List.length_set]; exact HX.out
          · rw [take_set _ _ _ hltx, marksN_succ, HT.out]
          · exact grown_trans hgr (grown_trans (grown_set _ _ _) (grown_set _ _ _))
        case measure => simp [intOf]; omega
      · go_wp2
        go_ret
        obtain rfl : k = a.length := by omega
        have hx : xs = marksN a.length k0 := by
          have h1 := HX.out; have h2 := HT.out
          rw [List.take_of_length_le (by omega)] at h2
          exact h2
        subst hx
        exact ⟨rfl, hownk, hgr⟩
end Go.Proofs.YtponaoefpicfpaaGreatDoor
/- Worlds in which some blocks are written; lists of owned node lists that lie apart. -/
namespace Go.Proofs.YtponaoefpicfpaaGreatDoor
open Go.RowKit

--
/-- values whose rows lie apart -/
def Apart (vs : List Value) : Prop := ∀ i j (hi : i < vs.length) (hj : j < vs.length), i ≠ j → ∀ k, vs[i].ownBlock = some k → vs[j].ownBlock ≠ some k
def Off (v : Value) (vs : List Value) : Prop := ∀ i (hi : i < vs.length) k, v.ownBlock = some k → vs[i].ownBlock ≠ some k
def blk (vs : List Value) (k : Nat) : Prop := ∃ i, ∃ h : i < vs.length, vs[i].ownBlock = some k
def RowsN (w : World) (B : Nat) (vs : List Value) (xs : List (List Nd)) : Prop := vs.length = xs.length ∧ ∀ i (h1 : i < vs.length) (h2 : i < xs.length), OwnN w B vs[i] xs[i]
theorem OwnN.touch {w w' : World} {S : Nat → Prop} {B : Nat} {v : Value} {x : List Nd} (h : OwnN w B v x) (k : Touch w w' S) (hS : ∀ i, v.ownBlock = some i → ¬ S i) : OwnN w' B v x := own_touch h k hS
theorem RowsN.nil (w : World) (B : Nat) : RowsN w B [] [] := ⟨rfl, fun i h => by simp at h⟩
theorem RowsN.cons {w : World} {B : Nat} {v : Value} {vs : List Value} {x : List Nd} {xs : List (List Nd)} (h : OwnN w B v x) (hs : RowsN w B vs xs) : RowsN w B (v :: vs) (x :: xs) :=
  ⟨by simp [hs.1], fun i h1 h2 => by
    cases i with
    | zero => exact h
    | succ i => exact hs.2 i (by simpa using h1) (by simpa using h2)⟩
theorem RowsN.snoc {w : World} {B : Nat} {v : Value} {vs : List Value} {x : List Nd} {xs : List (List Nd)} (h : OwnN w B v x) (hs : RowsN w B vs xs) : RowsN w B (vs ++ [v]) (xs ++ [x]) :=
  ⟨by simp [hs.1], fun i h1 h2 => by
    have hl := hs.1
    by_cases hi : i < vs.length
    · rw [List.getElem_append_left hi, List.getElem_append_left (by omega)]; exact hs.2 i hi (by omega)
    · simp at h1
      obtain rfl : i = vs.length := by omega
      rw [List.getElem_append_right (Nat.le_refl _), List.getElem_append_right (by omega)]
      simpa [hl] using h⟩
theorem RowsN.keeps {w w' : World} {B : Nat} {vs : List Value} {xs : List (List Nd)} (h : RowsN w B vs xs) (k : Keeps w w') : RowsN w' B vs xs := ⟨h.1, fun i h1 h2 => (h.2 i h1 h2).keeps k⟩
theorem RowsN.mono {w : World} {B B' : Nat} {vs : List Value} {xs : List (List Nd)} (h : RowsN w B vs xs) (k : B' ≤ B) : RowsN w B' vs xs := ⟨h.1, fun i h1 h2 => (h.2 i h1 h2).mono k⟩
theorem RowsN.touch {w w' : World} {S : Nat → Prop} {B : Nat} {vs : List Value} {xs : List (List Nd)} (h : RowsN w B vs xs) (k : Touch w w' S) (hS : ∀ i, blk vs i → ¬ S i) : RowsN w' B vs xs :=
  ⟨h.1, fun i h1 h2 => (h.2 i h1 h2).touch k (fun j e => hS j ⟨i, h1, e⟩)⟩
theorem RowsN.lt {w : World} {B : Nat} {vs : List Value} {xs : List (List Nd)} (h : RowsN w B vs xs) {k : Nat} (hk : blk vs k) : B ≤ k ∧ k < w.heap.size := by
  obtain ⟨i, hi, e⟩ := hk
  exact (h.2 i hi (by have := h.1; omega)).len k e
/-- one row is written anew -/
theorem RowsN.update {w w' : World} {B : Nat} {vs : List Value} {xs : List (List Nd)} (h : RowsN w B vs xs) (ha : Apart vs) (i : Nat) (hi : i < vs.length) (hg : w.grownBy w' vs[i].ownBlock) {z : List Nd} (hz : OwnN w' B vs[i] z) : RowsN w' B vs (xs.set i z) :=
  ⟨by simp [h.1], fun j h1 h2 => by
    by_cases e : i = j
    · subst e; simpa using hz
    · rw [List.getElem_set_ne e]
      exact (h.2 j h1 (by have := h.1; omega)).touch (Touch.grown hg) (fun k hk hs => ha i j hi h1 e k hs.symm hk)⟩
theorem Apart.nil : Apart [] := fun i j hi => by simp at hi
theorem Apart.cons {v : Value} {vs : List Value} (h : Off v vs) (hs : Apart vs) : Apart (v :: vs) := fun i j hi hj hne k hk => by
  cases i with
  | zero =>
    cases j with
    | zero => exact absurd rfl hne
    | succ j => exact h j (by simpa using hj) k hk
  | succ i =>
    cases j with
    | zero => exact fun e => h i (by simpa using hi) k e hk
    | succ j => exact hs i j (by simpa using hi) (by simpa using hj) (fun e => hne (by rw [e])) k hk
theorem Apart.tail {v : Value} {vs : List Value} (h : Apart (v :: vs)) : Apart vs := fun i j hi hj hne k hk =>
  h (i + 1) (j + 1) (by simpa using hi) (by simpa using hj) (by omega) k hk
theorem Apart.head {v : Value} {vs : List Value} (h : Apart (v :: vs)) : Off v vs := fun i hi k hk =>
  h 0 (i + 1) (by simp) (by simpa using hi) (by omega) k hk
theorem Off.nil (v : Value) : Off v [] := fun i hi => by simp at hi
theorem Off.of_blk {v : Value} {vs : List Value} (h : ∀ k, v.ownBlock = some k → ¬ blk vs k) : Off v vs := fun i hi k hk e => h k hk ⟨i, hi, e⟩
theorem Off.not_blk {v : Value} {vs : List Value} (h : Off v vs) {k : Nat} (hk : v.ownBlock = some k) : ¬ blk vs k := fun ⟨i, hi, e⟩ => h i hi k hk e
theorem Apart.snoc {v : Value} {vs : List Value} (h : ∀ k, v.ownBlock = some k → ¬ blk vs k) (hs : Apart vs) : Apart (vs ++ [v]) := fun i j hi hj hne k hk => by
  simp at hi hj
  by_cases h1 : i < vs.length
  · rw [List.getElem_append_left h1] at hk
    by_cases h2 : j < vs.length
    · rw [List.getElem_append_left h2]; exact hs i j h1 h2 hne k hk
    · obtain rfl : j = vs.length := by omega
      rw [List.getElem_append_right (Nat.le_refl _)]
      intro e; exact h k (by simpa using e) ⟨i, h1, hk⟩
  · obtain rfl : i = vs.length := by omega
    rw [List.getElem_append_right (Nat.le_refl _)] at hk
    have h2 : j < vs.length := by omega
    rw [List.getElem_append_left h2]
    intro e; exact h k (by simpa using hk) ⟨j, h2, e⟩
/-- how many nodes the lists have in all -/
def tot : List (List Nd) → Nat
  | [] => 0
  | x :: xs => x.length + tot xs
theorem tot_append (xs ys : List (List Nd)) : tot (xs ++ ys) = tot xs + tot ys := by
  induction xs with
  | nil => simp [tot]
  | cons x xs ih => simp [tot, ih]; omega
theorem tot_take (xs : List (List Nd)) (i : Nat) (h : i < xs.length) : tot (xs.take (i + 1)) = tot (xs.take i) + xs[i].length := by
  rw [List.take_succ_eq_append_getElem h, tot_append]; simp [tot]
theorem tot_le (xs : List (List Nd)) (i : Nat) : tot (xs.take i) ≤ tot xs := by
  have := tot_append (xs.take i) (xs.drop i)
  rw [List.take_append_drop] at this; omega
theorem tot_mem (xs : List (List Nd)) (i : Nat) (h : i < xs.length) : tot (xs.take i) + xs[i].length ≤ tot xs := by
  rw [← tot_take xs i h]; exact tot_le xs _
def marksL : List (List Nd) → Int → List (List Nd)
  | [], _ => []
  | x :: xs, k => marksN x.length k :: marksL xs (k + 2 * x.length)
theorem marksL_length (xs : List (List Nd)) : ∀ k, (marksL xs k).length = xs.length := by
  induction xs with
  | nil => intro k; rfl
  | cons x xs ih => intro k; simp [marksL, ih]
theorem marksL_get (xs : List (List Nd)) : ∀ (k : Int) (i : Nat) (h : i < (marksL xs k).length) (h' : i < xs.length), (marksL xs k)[i] = marksN xs[i].length (k + 2 * tot (xs.take i)) := by
  induction xs with
  | nil => intro k i h h'; simp at h'
  | cons x xs ih =>
    intro k i h h'
    cases i with
    | zero => simp [marksL, tot]
    | succ i =>
      have := ih (k + 2 * x.length) i (by simpa [marksL] using h) (by simpa using h')
      simp only [marksL, List.getElem_cons_succ, this, List.take_succ_cons, tot]
      congr 1; omega
theorem tot_marks (xs : List (List Nd)) : ∀ k, tot (marksL xs k) = tot xs := by
  induction xs with
  | nil => intro k; rfl
  | cons x xs ih => intro k; simp [marksL, tot, ih, marksN_length]
/-- an owned list of owned lists that lie apart -/
def OwnL (w : World) (B : Nat) (v : Value) (xs : List (List Nd)) : Prop := ∃ vs, w.ownsRow B 42 1 v xs.length vs ∧ RowsN w B vs xs ∧ Apart vs ∧ Off v vs
/-- the rows of a list's header read as lists -/
theorem rows_ndsL {w : World} {B : Nat} {p : Option Addr} {cap : Nat} {vs : List Value} {xs : List (List Nd)} (hat : At w p vs) (hr : RowsN w B vs xs) (h1 : xs.length ≤ cap) (h2 : cap ≤ maxLen) (h3 : xs.length ≤ 2147483648) (h4 : tot xs ≤ 2147483648) : NdsL w (.slice p xs.length cap) xs := by
  refine ⟨p, cap, rfl, h1, h2, h3, fun i hi => ?_⟩
  have hl := hr.1
  obtain ⟨b, off, hp, hc⟩ := hat i (by omega)
  refine ⟨b, off, fun _ => vs[i], hp, fun c hc' => ?_, (hr.2 i (by omega) hi).nds (by have := tot_mem xs i hi; omega)⟩
  obtain rfl : c = 0 := by omega
  simpa using hc
theorem OwnL.ndsL {w : World} {B : Nat} {v : Value} {xs : List (List Nd)} (h : OwnL w B v xs) (h3 : xs.length ≤ 2147483648) (h4 : tot xs ≤ 2147483648) : NdsL w v xs := by
  obtain ⟨vs, ho, hr, _, _⟩ := h
  obtain ⟨p, cap, rfl, h1, h2, hat⟩ := At.of_own ho
  exact rows_ndsL hat hr h1 h2 h3 h4
theorem OwnL.keeps {w w' : World} {B : Nat} {v : Value} {xs : List (List Nd)} (h : OwnL w B v xs) (k : Keeps w w') : OwnL w' B v xs := by
  obtain ⟨vs, ho, hr, ha, hf⟩ := h
  exact ⟨vs, own_keeps ho k, hr.keeps k, ha, hf⟩
theorem OwnL.mono {w : World} {B B' : Nat} {v : Value} {xs : List (List Nd)} (h : OwnL w B v xs) (k : B' ≤ B) : OwnL w B' v xs := by
  obtain ⟨vs, ho, hr, ha, hf⟩ := h
  exact ⟨vs, own_mono ho k, hr.mono k, ha, hf⟩
/-- an owned rule: premises and a conclusion -/
def OwnR (w : World) (B : Nat) (v u : Value) (xs : List (List Nd)) (c : List Nd) : Prop := ∃ vs, w.ownsRow B 42 1 v xs.length vs ∧ RowsN w B (u :: vs) (c :: xs) ∧ Apart (u :: vs) ∧ Off v (u :: vs)
theorem RowsN.head {w : World} {B : Nat} {v : Value} {vs : List Value} {x : List Nd} {xs : List (List Nd)} (h : RowsN w B (v :: vs) (x :: xs)) : OwnN w B v x := h.2 0 (by simp) (by simp)
theorem RowsN.tail {w : World} {B : Nat} {v : Value} {vs : List Value} {x : List Nd} {xs : List (List Nd)} (h : RowsN w B (v :: vs) (x :: xs)) : RowsN w B vs xs :=
  ⟨by simpa using h.1, fun i h1 h2 => h.2 (i + 1) (by simpa using h1) (by simpa using h2)⟩
theorem OwnR.ndsL {w : World} {B : Nat} {v u : Value} {xs : List (List Nd)} {c : List Nd} (h : OwnR w B v u xs c) (h3 : xs.length ≤ 2147483648) (h4 : tot xs ≤ 2147483648) : NdsL w v xs := by
  obtain ⟨vs, ho, hr, _, _⟩ := h
  obtain ⟨p, cap, rfl, h1, h2, hat⟩ := At.of_own ho
  exact rows_ndsL hat hr.tail h1 h2 h3 h4
theorem OwnR.nds {w : World} {B : Nat} {v u : Value} {xs : List (List Nd)} {c : List Nd} (h : OwnR w B v u xs c) (h4 : c.length ≤ 2147483648) : Nds w u c := by
  obtain ⟨vs, ho, hr, _, _⟩ := h
  exact hr.head.nds h4
theorem OwnR.keeps {w w' : World} {B : Nat} {v u : Value} {xs : List (List Nd)} {c : List Nd} (h : OwnR w B v u xs c) (k : Keeps w w') : OwnR w' B v u xs c := by
  obtain ⟨vs, ho, hr, ha, hf⟩ := h
  exact ⟨vs, own_keeps ho k, hr.keeps k, ha, hf⟩
theorem OwnR.mono {w : World} {B B' : Nat} {v u : Value} {xs : List (List Nd)} {c : List Nd} (h : OwnR w B v u xs c) (k : B' ≤ B) : OwnR w B' v u xs c := by
  obtain ⟨vs, ho, hr, ha, hf⟩ := h
  exact ⟨vs, own_mono ho k, hr.mono k, ha, hf⟩
theorem OwnR.nil (w : World) (B : Nat) : OwnR w B (.slice none 0 0) (.slice none 0 0) [] [] :=
  ⟨[], World.ownsRow_nil w B _ 1, RowsN.cons (OwnN.nil _ _) (RowsN.nil _ _), Apart.cons (Off.nil _) Apart.nil, fun i hi k hk => by simp [Value.ownBlock] at hk⟩
end Go.Proofs.YtponaoefpicfpaaGreatDoor
/- Walks: the laws' comparisons and marks of lists of node lists and of rules. -/
namespace Go.Proofs.YtponaoefpicfpaaGreatDoor
open Go.RowKit
end Go.Proofs.YtponaoefpicfpaaGreatDoor
/- Walks: the laws' comparisons and marks of rules. -/
namespace Go.Proofs.YtponaoefpicfpaaGreatDoor
open Go.RowKit
theorem agg_shape {w : World} {v : Value} {xs : List (List Nd)} (h : NdsL w v xs) : ∃ p n c, v = .slice p n c := by
  obtain ⟨p, c, e, _⟩ := h
  exact ⟨p, _, c, e⟩
end Go.Proofs.YtponaoefpicfpaaGreatDoor
/- Walks: the program's readers of formulas, and the library's IndexFunc and ContainsFunc at two types. -/
namespace Go.Proofs.YtponaoefpicfpaaGreatDoor
open Go.RowKit

--
set_option maxHeartbeats 400000 in
theorem indexFuncN (pr : Nd → Bool) (f : FuncId) (cp : Array Value) (a : List Nd) (v : Value) (w : World) (hv : Nds w v a) (hcf : Enters f)
    (hf : ∀ x w1, x ∈ a → Keeps w w1 → Calls Tryz.prog f (#[.agg #[.int .i64 x.k, .int .i64 x.s]] ++ cp) w1 fun e w2 => e = .returned (.bool (pr x)) ∧ Keeps w1 w2) :
    Calls Tryz.prog 219 #[v, .func (.func f) #[] cp] w fun e w' => e = .returned (.int .i64 (idxOf pr a 0)) ∧ Keeps w w' := by
  obtain ⟨p, cap, rfl, hle, hmx, hr, hlen⟩ := hv
  unfold maxLen at hmx
  have HF := hid hf; clear hf
  have hcf' : ∀ args w, (callFunc f args).run Tryz.prog w = .ok (.enter f args) w := hcf
  clear hcf
  go_enter Tryz.func219, Tryz.ntmps219
  go_wp2
  go_loopw [4, 8] (fun r i' wr => ∃ k : Nat, k ≤ a.length ∧ idxOf pr a 0 = idxOf pr (a.drop k) k ∧ Keeps w wr ∧ i' = .int .i64 k ∧ r = .int .i64 0) (fun _ i _ => a.length - (intOf i).toNat)
  case atStart => exact ⟨0, by omega, by simp, Keeps.refl w, rfl, rfl⟩
  case round =>
    obtain ⟨k, hk, hs, kw, rfl, rfl⟩ := hrel
    have Hs := hid hs; clear hs
    by_cases hlt : k < a.length
    · obtain ⟨b, off, rfl, h1, h2⟩ := (hr.keeps kw).nd k hlt
      have hd := hid (idxOf_drop pr a k hlt)
      clear hr
      cases hp : pr a[k]
      all_goals
        have Hp := hid hp; clear hp
        go_wp2_with ((with_reducible refine (HF.out a[k] wr (List.getElem_mem hlt) kw).mono ?_); rintro e w2 ⟨rfl, k2⟩; rw [Hp.out])
      · go_roundw
        case rel => exact ⟨k + 1, by omega, by rw [Hs.out, hd.out, Hp.out]; rfl, kw.trans k2, by go_num, rfl⟩
        case measure => simp [intOf]; omega
      · go_ret
        exact ⟨ret_int (by rw [Hs.out, hd.out, Hp.out]; rfl), kw.trans k2⟩
    · go_wp2
      go_ret
      exact ⟨ret_int (by rw [Hs.out, idxOf_end _ _ _ (by omega)]), kw⟩
theorem containsFuncN (pr : Nd → Bool) (f : FuncId) (cp : Array Value) (a : List Nd) (v : Value) (w : World) (hv : Nds w v a) (hcf : Enters f)
    (hf : ∀ x w1, x ∈ a → Keeps w w1 → Calls Tryz.prog f (#[.agg #[.int .i64 x.k, .int .i64 x.s]] ++ cp) w1 fun e w2 => e = .returned (.bool (pr x)) ∧ Keeps w1 w2) :
    Calls Tryz.prog 134 #[v, .func (.func f) #[] cp] w fun e w' => e = .returned (.bool (a.any pr)) ∧ Keeps w w' := by
  have H := hid (indexFuncN pr f cp a v w hv hcf hf)
  clear hv hf hcf
  have he := hid (idxOf_any pr a 0)
  go_enter Tryz.func134, Tryz.ntmps134
  go_wp2_with (go_at_call 219; refine H.out.mono ?_; rintro e w2 ⟨rfl, k2⟩)
  go_ret
  exact ⟨ret_bool he.out, k2⟩
--
theorem isVariable_any (x : Int) (w : World) : Calls Tryz.prog 220 #[.int .i64 x] w fun e w' => e = .returned (.bool (inR x 0 5)) ∧ w = w' := by
  go_enter Tryz.func220, Tryz.ntmps220
  go_wp2_with (go_at_call 114; refine (inRange_any _ _ _ _).mono ?_; rintro e w' ⟨rfl, rfl⟩)
  go_ret
  exact ⟨rfl, rfl⟩
--
set_option maxHeartbeats 400000 in
theorem isNode_any (x : Nd) (w : World) : Calls Tryz.prog 136 #[.agg #[.int .i64 x.k, .int .i64 x.s]] w fun e w' => e = .returned (.bool (okNd x)) ∧ Keeps w w' := by
  by_cases h : x.k = 0
  · have h' : (x.k == 0) = true := by simp [h]
    have H := hid h; clear h
    go_enter Tryz.func136, Tryz.ntmps136
    go_wp2_with (go_at_call 220; refine (isVariable_any _ _).mono ?_; rintro e w' ⟨rfl, rfl⟩)
    go_ret
    exact ⟨ret_bool (by simp [okNd, H.out, inR]), (Keeps.refl w).alloc _⟩
  · have h' : (x.k == 0) = false := by simp [h]
    have H := hid h; clear h
    cases hi : inR x.k 1 6
    all_goals
      have Hi := hid hi; clear hi
      go_enter Tryz.func136, Tryz.ntmps136
      go_wp2_with (go_at_call 114; refine (inRange_any _ _ _ _).mono ?_; rintro e w' ⟨rfl, rfl⟩; rw [Hi.out])
      go_ret
      refine ⟨ret_bool ?_, (Keeps.refl w).alloc _⟩
      have := Hi.out
      simp only [inR, decide_eq_true_eq, decide_eq_false_iff_not] at this
      unfold okNd
      rw [if_neg H.out]
      by_cases h0 : x.s = 0 <;> simp [h0] <;> omega
--
theorem isFormula_1_any (x : Nd) (w : World) : Calls Tryz.prog 135 #[.agg #[.int .i64 x.k, .int .i64 x.s]] w fun e w' => e = .returned (.bool (!okNd x)) ∧ Keeps w w' := by
  go_enter Tryz.func135, Tryz.ntmps135
  go_wp2_with (go_at_call 136; refine (isNode_any x _).mono ?_; rintro e w' ⟨rfl, k1⟩)
  go_ret
  exact ⟨rfl, ((Keeps.refl w).alloc _).trans k1⟩
--
theorem enters_isFormula_1 : Enters 135 := fun _ _ => by kernel_rfl
theorem isFm_split (a : List Nd) : isFm a = (decide (1 ≤ a.length) && (decide (a.length ≤ 40) && (!(a.any fun x => !okNd x) && (skipInt 1 a 0 == (a.length : Int))))) := by
  unfold isFm isTree
  have : (!(a.any fun x => !okNd x)) = a.all okNd := by
    induction a with
    | nil => rfl
    | cons x l ih => simp [List.all_cons, List.any_cons, ← ih]
  rw [this]
  cases a.all okNd <;> simp
  by_cases h : 0 < a.length <;> simp [h]
  all_goals omega
set_option maxHeartbeats 400000 in
theorem isFormula_any (a : List Nd) (v : Value) (w : World) (hv : Nds w v a) :
    Calls Tryz.prog 65 #[v] w fun e w' => e = .returned (.bool (isFm a)) ∧ Keeps w w' := by
  have hsp := hid (isFm_split a)
  have hv0 := hv
  obtain ⟨p, cap, rfl, hle, hmx, hr, hlen⟩ := hv
  unfold maxLen at hmx
  clear hr
  by_cases h1 : 1 ≤ a.length
  · by_cases h40 : a.length ≤ 40
    · cases ho : a.any fun x => !okNd x
      all_goals
        have Ho := hid ho; clear ho
        go_enter Tryz.func65, Tryz.ntmps65
        go_wp2_with (first
          | (go_at_call 134; refine (containsFuncN (fun x => !okNd x) _ #[] a _ _ hv0 enters_isFormula_1 (fun x w1 _ _ => isFormula_1_any x w1)).mono ?_; rintro e w1 ⟨rfl, k1⟩; rw [Ho.out])
          | (go_at_call 137; refine (partEnd_any a _ _ _ (hv0.keeps k1) (by omega) (by omega)).mono ?_; rintro e w' ⟨rfl, rfl⟩))
        go_ret
        refine ⟨ret_bool ?_, k1⟩
        rw [hsp.out, Ho.out]
        simp [h1, h40]
    · go_enter Tryz.func65, Tryz.ntmps65
      go_wp2
      go_ret
      refine ⟨ret_bool ?_, Keeps.refl _⟩
      rw [hsp.out]; simp; omega
  · go_enter Tryz.func65, Tryz.ntmps65
    go_wp2
    go_ret
    refine ⟨ret_bool ?_, Keeps.refl _⟩
    rw [hsp.out]; simp; omega
def modalB (k : Int) : Bool := decide (k = 5 ∨ k = 6)
--
theorem isModal_any (x : Int) (w : World) : Calls Tryz.prog 139 #[.int .i64 x] w fun e w' => e = .returned (.bool (modalB x)) ∧ w = w' := by
  go_enter Tryz.func139, Tryz.ntmps139
  go_wp2
  all_goals go_ret
  all_goals exact ⟨ret_bool (by by_cases h5 : x = 5 <;> by_cases h6 : x = 6 <;> simp_all [modalB]), rfl⟩
--
theorem isPlain_1_any (x : Nd) (w : World) : Calls Tryz.prog 138 #[.agg #[.int .i64 x.k, .int .i64 x.s]] w fun e w' => e = .returned (.bool (modalB x.k)) ∧ Keeps w w' := by
  go_enter Tryz.func138, Tryz.ntmps138
  go_wp2_with (go_at_call 139; refine (isModal_any _ _).mono ?_; rintro e w' ⟨rfl, rfl⟩)
  go_ret
  exact ⟨rfl, (Keeps.refl w).alloc _⟩
theorem enters_isPlain_1 : Enters 138 := fun _ _ => by kernel_rfl
theorem plainL_any (a : List Nd) : (!(a.any fun x => modalB x.k)) = plainL a := by
  unfold plainL
  induction a with
  | nil => rfl
  | cons x l ih => simp only [List.all_cons, List.any_cons, ← ih]; by_cases h : x.k = 5 <;> by_cases h' : x.k = 6 <;> simp [h, h', modalB]
theorem isPlain_any (a : List Nd) (v : Value) (w : World) (hv : Nds w v a) :
    Calls Tryz.prog 66 #[v] w fun e w' => e = .returned (.bool (plainL a)) ∧ Keeps w w' := by
  have hp := hid (plainL_any a)
  go_enter Tryz.func66, Tryz.ntmps66
  go_wp2_with (go_at_call 134; refine (containsFuncN (fun x => modalB x.k) _ #[] a _ _ hv enters_isPlain_1 (fun x w1 _ _ => isPlain_1_any x w1)).mono ?_; rintro e w1 ⟨rfl, k1⟩)
  go_ret
  exact ⟨ret_bool hp.out, k1⟩
end Go.Proofs.YtponaoefpicfpaaGreatDoor
/- Walks: Harrop and negative formulas on both sides; lists of formulas. -/
namespace Go.Proofs.YtponaoefpicfpaaGreatDoor
open Go.RowKit

--
set_option maxHeartbeats 400000 in
theorem part_any (a l : List Nd) (t : Fm) (r : List Nd) (v : Value) (i : Int) (w : World) (hv : Nds w v a) (ha : a = l ++ (t.enc ++ r)) (hi : i = l.length) :
    Calls Tryz.prog 278 #[v, .int .i64 i] w (RetS w t.enc) := by
  subst hi
  have hv0 := hv
  obtain ⟨p, cap, rfl, hle, hmx, hr, hlen⟩ := hv
  have hp := Fm.enc_pos t
  have hs : skipInt 1 a (l.length : Int).toNat = l.length + t.enc.length := by subst ha; exact skipInt_enc l t r
  have hl : l.length + t.enc.length ≤ a.length := by subst ha; simp
  obtain ⟨b, off, rfl⟩ := hr.ptrN (by omega)
  have hmx0 := hid hmx
  unfold maxLen at hmx
  have Ha := hid ha; clear ha
  have Hs := hid hs; clear hs
  have hc1 : ¬ l.length + t.enc.length = l.length := by omega
  go_enter Tryz.func278, Tryz.ntmps278
  go_wp2_with (go_at_call 137; refine (partEnd_any _ _ _ _ hv0 (by omega) (by omega)).mono ?_; rintro e w' ⟨rfl, rfl⟩; rw [Hs.out])
  go_ret
  have e := Ha.out
  rw [e] at hr
  exact ⟨_, rfl, Nds.sub (l := l) (m := t.enc) (r := r) hr (by omega) rfl (by omega) (by omega) (by have := hmx0.out; omega), rfl⟩
--
theorem first_any (a : List Nd) (x : Nd) (t : Fm) (r : List Nd) (v : Value) (w : World) (hv : Nds w v a) (ha : a = x :: (t.enc ++ r)) :
    Calls Tryz.prog 229 #[v] w (RetS w t.enc) := by
  go_enter Tryz.func229, Tryz.ntmps229
  go_wp2_with (go_at_call 278; refine (part_any a [x] t r _ _ _ hv ha rfl).mono ?_; rintro e w' ⟨v1, rfl, hv1, rfl⟩)
  go_ret
  exact ⟨_, rfl, hv1, rfl⟩
--
theorem second_any (a : List Nd) (x : Nd) (t u : Fm) (v : Value) (w : World) (hv : Nds w v a) (ha : a = x :: (t.enc ++ u.enc)) :
    Calls Tryz.prog 230 #[v] w (RetS w u.enc) := by
  have hs : skipInt 1 a (1 : Int).toNat = 1 + t.enc.length := by subst ha; exact skipInt_enc [x] t u.enc
  have ha2 : a = (x :: t.enc) ++ (u.enc ++ []) := by subst ha; simp
  have hl1 : (1 : Int) ≤ a.length := by subst ha; simp; omega
  have Ha := hid ha2; clear ha2 ha
  have Hs := hid hs; clear hs
  go_enter Tryz.func230, Tryz.ntmps230
  go_wp2_with (first
    | (go_at_call 137; refine (partEnd_any _ _ _ _ hv (by omega) hl1).mono ?_; rintro e w' ⟨rfl, rfl⟩; rw [Hs.out])
    | (go_at_call 278; refine (part_any a (x :: t.enc) u [] _ _ _ hv Ha.out (by simp; omega)).mono ?_; rintro e w' ⟨v1, rfl, hv1, rfl⟩))
  go_ret
  exact ⟨_, rfl, hv1, rfl⟩
--
theorem isFalsum_any (t : Fm) (v : Value) (w : World) (hv : Nds w v t.enc) :
    Calls Tryz.prog 232 #[v] w fun e w' => e = .returned (.bool t.isFls) ∧ w = w' := by
  obtain ⟨b, off, n, cap, rfl, h0, h1, h2, h3, hc, _⟩ := hv.root
  have hk := hid (Fm.kind_isFls t)
  go_enter Tryz.func232, Tryz.ntmps232
  go_wp2
  go_ret
  exact ⟨ret_bool hk.out, rfl⟩
--
set_option maxHeartbeats 400000 in
theorem isNegation_any (t : Fm) (v : Value) (w : World) (hv : Nds w v t.enc) :
    Calls Tryz.prog 231 #[v] w fun e w' => e = .returned (.bool t.isNeg) ∧ w = w' := by
  have hv0 := hv
  obtain ⟨b, off, n, cap, rfl, h0, h1, h2, h3, hc, _⟩ := hv.root
  clear hv
  cases t with
  | imp x y =>
    go_enter Tryz.func231, Tryz.ntmps231
    go_wp2_with (first
      | (go_at_call 230; refine (second_any _ _ x y _ _ hv0 rfl).mono ?_; rintro e w' ⟨v2, rfl, hv2, rfl⟩)
      | (go_at_call 232; refine (isFalsum_any y _ _ hv2).mono ?_; rintro e w' ⟨rfl, rfl⟩))
    go_ret
    exact ⟨rfl, rfl⟩
  | _ =>
    clear hv0
    simp only [Fm.kind] at hc
    go_enter Tryz.func231, Tryz.ntmps231
    go_wp2
    go_ret
    exact ⟨rfl, rfl⟩
end Go.Proofs.YtponaoefpicfpaaGreatDoor
