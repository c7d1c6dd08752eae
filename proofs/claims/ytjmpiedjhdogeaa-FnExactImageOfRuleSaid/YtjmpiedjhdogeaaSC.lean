/- Errors of substitutions and rules on both sides; images of lists. -/
import Derived.Test.YtjmpiedjhdogeaaSB
namespace Go.Proofs.Ytjmpiedjhdogeaa
open Go.RowKit
def isSub (l : List (List Nd)) : Bool := allFm l && decide (l.length = 6)
--
set_option maxRecDepth 20000 in
set_option maxHeartbeats 1000000 in
theorem l03Is_any (l : List (List Nd)) (v : Value) (w : World) (hv : NdsL w v l) : Calls Try.prog 102 #[v] w fun e w' => e = .returned (.bool (isSub l)) ∧ w = w' := by
  have hv0 := hv
  obtain ⟨p, cap, rfl, hle, hmx, hlm, _⟩ := hv
  unfold maxLen at hmx
  go_enter Try.func102, Try.ntmps102
  go_wp2
  go_loop [2, 3] (fun r i' => ∃ k : Nat, k ≤ l.length ∧ i' = .int .i64 k ∧ r = .bool false ∧ ∀ j (h : j < l.length), j < k → isFm l[j] = true) (fun _ i => l.length - (intOf i).toNat)
  case atStart => exact ⟨0, by omega, rfl, rfl, fun j h hj => by omega⟩
  case round =>
    obtain ⟨k, hk, rfl, rfl, hs⟩ := hrel
    have Hs := hid hs; clear hs
    by_cases hlt : k < l.length
    · obtain ⟨b, off, u, rfl, hc, hu⟩ := hv0.get k hlt
      have hlt' : (k : Int) < l.length := by omega
      have HF := hid (l02Is_any l[k] u w hu)
      obtain ⟨p1, n1, q1, rfl⟩ := hu.shape
      clear hu hv0
      cases hf : isFm l[k]
      · rw [hf] at HF
        have Hf := hid hf; clear hf
        go_wp2_with fail
        refine HF.out.mono ?_; rintro e w' ⟨rfl, rfl⟩
        go_wp2_with fail
        go_ret
        refine ⟨ret_bool ?_, rfl⟩
        have h1 : l.any (fun x => !isFm x) = true := List.any_eq_true.2 ⟨_, List.getElem_mem hlt, by rw [Hf.out]; rfl⟩
        simp [isSub, allFm, h1]
      · rw [hf] at HF
        have Hf := hid hf; clear hf
        go_wp2_with fail
        refine HF.out.mono ?_; rintro e w' ⟨rfl, rfl⟩
        go_wp2_with fail
        go_round
        case rel => exact ⟨k + 1, by omega, by go_num, rfl, fun j h hj => by
          by_cases e : j = k
          · subst e; exact Hf.out
          · exact Hs.out j h (by omega)⟩
        case measure => simp [intOf]; omega
    · have hall : allFm l = true := by
        unfold allFm
        rw [Bool.not_eq_true', Bool.eq_false_iff]; intro h
        obtain ⟨x, hx, h2⟩ := List.any_eq_true.1 h
        obtain ⟨j, hj, rfl⟩ := List.getElem_of_mem hx
        rw [Hs.out j hj (by omega)] at h2; cases h2
      have HA := hid hall; clear hall
      have hbb : ((l.length : Int) == 6) = decide (l.length = 6) := by
        by_cases h : l.length = 6
        · simp [h]
        · rw [decide_eq_false h]; simp; omega
      have HB := hid hbb; clear hbb
      go_wp2
      go_ret
      exact ⟨ret_bool (by rw [isSub, HA.out, Bool.true_and]; exact HB.out), rfl⟩
--
set_option maxRecDepth 20000 in
set_option maxHeartbeats 1000000 in
theorem isSubstitution_any (l : List (List Nd)) (v : Value) (w : World) (hv : NdsL w v l) : Calls Try.prog 104 #[v] w fun e w' => e = .returned (.bool (isSub l)) ∧ Keeps w w' := by
  have HF := hid (areFormulas_any l v w hv)
  obtain ⟨p, cap, rfl, hle, hmx, hlm, _⟩ := hv
  unfold maxLen at hmx
  by_cases h : l.length = 6
  · have hb : ((l.length : Int) == 6) = true := by simp [h]
    have H := hid h; clear h
    go_enter Try.func104, Try.ntmps104
    go_wp2_with fail
    refine HF.out.mono ?_; rintro e w2 ⟨rfl, k2⟩
    go_wp2_with fail
    go_ret
    exact ⟨ret_bool (by simp [isSub, H.out]), k2⟩
  · have hb : ((l.length : Int) == 6) = false := by simp; omega
    have H := hid h; clear h
    go_enter Try.func104, Try.ntmps104
    go_wp2_with fail
    go_ret
    exact ⟨ret_bool (by simp [isSub, H.out]), Keeps.refl _⟩
--
theorem allPlain_1_any (x : List Nd) (u : Value) (w : World) (hu : Nds w u x) : Calls Try.prog 156 #[u] w fun e w' => e = .returned (.bool (!plainL x)) ∧ Keeps w w' := by
  have HP := hid (isPlain_any x u w hu)
  obtain ⟨p, n, c, rfl⟩ := hu.shape
  go_enter Try.func156, Try.ntmps156
  go_wp2_with fail
  refine HP.out.mono ?_; rintro e w2 ⟨rfl, k2⟩
  go_wp2_with fail
  go_ret
  exact ⟨rfl, k2⟩
theorem enters_allPlain_1 : Enters 156 := fun _ _ => by kernel_rfl
theorem allPlain_any (l : List (List Nd)) (v : Value) (w : World) (hv : NdsL w v l) : Calls Try.prog 105 #[v] w fun e w' => e = .returned (.bool (!allPlainL l)) ∧ Keeps w w' := by
  have HC := hid (containsFuncL (fun x => !plainL x) 156 #[] l v w hv enters_allPlain_1 (fun x u w1 _ _ h => allPlain_1_any x u w1 h))
  obtain ⟨p, cap, rfl, _⟩ := hv
  go_enter Try.func105, Try.ntmps105
  go_wp2_with fail
  refine HC.out.mono ?_; rintro e w2 ⟨rfl, k2⟩
  go_wp2_with fail
  go_ret
  exact ⟨rfl, k2⟩
/-- the error for formulas whose error is known, and a substitution -/
def imgErr (one : Int) (l : List (List Nd)) : Int := if one = 1 ∨ isSub l = false then 1 else if one ≠ 0 ∨ allPlainL l = true then 5 else 0
--
set_option maxRecDepth 20000 in
set_option maxHeartbeats 1000000 in
theorem imagesCode_any (one : Int) (l : List (List Nd)) (v : Value) (w : World) (hv : NdsL w v l) : Calls Try.prog 64 #[.int .i64 one, v] w fun e w' => e = .returned (.int .i64 (imgErr one l)) ∧ Keeps w w' := by
  have HS := hid (isSubstitution_any l v w hv)
  have HP := hid (fun w2 (k : Keeps w w2) => allPlain_any l v w2 (hv.keeps k))
  obtain ⟨p, cap, rfl, _⟩ := hv
  by_cases h1 : one = 1
  · subst h1
    go_enter Try.func64, Try.ntmps64
    go_wp2_with fail
    go_ret
    exact ⟨ret_int (by simp [imgErr]), Keeps.refl _⟩
  · have hb1 : (one == 1) = false := by simp [h1]
    have H1 := hid h1; clear h1
    cases hs : isSub l
    · rw [hs] at HS
      have Hs := hid hs; clear hs
      go_enter Try.func64, Try.ntmps64
      go_wp2_with fail
      refine HS.out.mono ?_; rintro e w2 ⟨rfl, k2⟩
      go_wp2_with fail
      go_ret
      exact ⟨ret_int (by simp [imgErr, Hs.out]), k2⟩
    · rw [hs] at HS
      have Hs := hid hs; clear hs
      by_cases h0 : one = 0
      · have hb0 : (one != 0) = false := by simp [h0]
        have H0 := hid h0; clear h0
        cases hp : allPlainL l
        all_goals
          rw [hp] at HP
          have Hp := hid hp; clear hp
          go_enter Try.func64, Try.ntmps64
          go_wp2_with fail
          refine HS.out.mono ?_; rintro e w2 ⟨rfl, k2⟩
          go_wp2_with fail
          refine (HP.out _ k2).mono ?_; rintro e w3 ⟨rfl, k3⟩
          go_wp2_with fail
          go_ret
          exact ⟨ret_int (by simp [imgErr, Hs.out, Hp.out, H0.out]), k2.trans k3⟩
      · have hb0 : (one != 0) = true := by simp [h0]
        have H0 := hid h0; clear h0
        go_enter Try.func64, Try.ntmps64
        go_wp2_with fail
        refine HS.out.mono ?_; rintro e w2 ⟨rfl, k2⟩
        go_wp2_with fail
        go_ret
        exact ⟨ret_int (by simp [imgErr, Hs.out, H0.out, H1.out]), k2⟩
--
def imsErr (l : List (List Nd)) : Int := if isSub l then plainErrs l else 1
theorem l31Images_any (l : List (List Nd)) (v : Value) (w : World) (hv : NdsL w v l) : Calls Try.prog 61 #[v] w fun e w' => e = .returned (.int .i64 (imsErr l)) ∧ w = w' := by
  have HS := hid (l03Is_any l v w hv)
  have HP := hid (l31Plain_any l v w hv)
  obtain ⟨p, cap, rfl, _⟩ := hv
  cases hs : isSub l
  · rw [hs] at HS
    have Hs := hid hs; clear hs
    go_enter Try.func61, Try.ntmps61
    go_wp2_with fail
    refine HS.out.mono ?_; rintro e w' ⟨rfl, rfl⟩
    go_wp2_with fail
    go_ret
    exact ⟨ret_int (by simp [imsErr, Hs.out]), rfl⟩
  · rw [hs] at HS
    have Hs := hid hs; clear hs
    go_enter Try.func61, Try.ntmps61
    go_wp2_with fail
    refine HS.out.mono ?_; rintro e w' ⟨rfl, rfl⟩
    go_wp2_with fail
    refine HP.out.mono ?_; rintro e w' ⟨rfl, rfl⟩
    go_wp2_with fail
    go_ret
    exact ⟨ret_int (by simp [imsErr, Hs.out]), rfl⟩
--
set_option maxHeartbeats 1000000 in
theorem l31Both_any (one : Int) (l : List (List Nd)) (w : World) (ho : one = 0 ∨ one = 1 ∨ one = 5) : Calls Try.prog 59 #[.int .i64 one, .int .i64 (imsErr l)] w fun e w' => e = .returned (.int .i64 (imgErr one l)) ∧ w = w' := by
  have hi : (isSub l = false ∧ imsErr l = 1) ∨ (isSub l = true ∧ allPlainL l = true ∧ imsErr l = 5) ∨ (isSub l = true ∧ allPlainL l = false ∧ imsErr l = 0) := by
    unfold imsErr plainErrs
    cases hs : isSub l
    · simp
    · have : allFm l = true := by simp [isSub] at hs; exact hs.1
      cases hp : allPlainL l <;> simp [this]
  rcases hi with ⟨h1, h2⟩ | ⟨h1, h3, h2⟩ | ⟨h1, h3, h2⟩ <;> rcases ho with rfl | rfl | rfl
  all_goals
    rw [h2]
    have H1 := hid h1; clear h1
    try (have H3 := hid h3; clear h3)
    clear h2
    go_enter Try.func59, Try.ntmps59
    go_wp2
    go_ret
    refine ⟨ret_int ?_, rfl⟩
    first
    | (simp [imgErr, H1.out]; done)
    | (simp [imgErr, H1.out, H3.out]; done)
/-- the greatest number of nodes of a list -/
def mostL (l : List (List Nd)) : Nat := l.foldl (fun m x => max m x.length) 0
theorem mostL_snoc (l : List (List Nd)) (x : List Nd) : mostL (l ++ [x]) = max (mostL l) x.length := by simp [mostL, List.foldl_append]
theorem fold_max_le (l : List (List Nd)) : ∀ (m n : Nat), (l.foldl (fun m x => max m x.length) m ≤ n ↔ m ≤ n ∧ ∀ x ∈ l, x.length ≤ n) := by
  induction l with
  | nil => intro m n; simp
  | cons y l ih => intro m n; simp only [List.foldl_cons, ih, List.forall_mem_cons]; constructor <;> intro h <;> refine ⟨?_, ?_⟩ <;> (try omega) <;> (try exact ⟨by omega, h.2⟩) <;> (try exact h.2.2)
theorem mostL_le (l : List (List Nd)) (n : Nat) : mostL l ≤ n ↔ ∀ x ∈ l, x.length ≤ n := by unfold mostL; rw [fold_max_le]; simp
--
set_option maxRecDepth 20000 in
set_option maxHeartbeats 2000000 in
theorem l31Image_any (ims l : List (List Nd)) (vl vi : Value) (w : World) (hvl : NdsL w vl l) (hvi : NdsL w vi ims) (ha : ∀ a ∈ l, a.all okNd = true) (h6 : ims.length = 6) (hl : ∀ a ∈ l, (sub ims a).length ≤ 100000) (hll : l.length ≤ 1000) :
    Calls Try.prog 62 #[vl, vi] w fun e w' => ∃ v, e = .returned (.tuple #[v, .int .i64 (mostL (l.map (sub ims)))]) ∧ OwnL w' w.heap.size v (l.map (sub ims)) ∧ Keeps w w' := by
  have h0 := OwnL.empty w
  have k0 := (Keeps.refl w).alloc (.cells #[] 25)
  have hvl0 := hvl
  have hvi0 := hvi
  have H6 := hid h6; clear h6
  obtain ⟨p, cap, rfl, hle, hmx, _, hlen⟩ := hvl
  obtain ⟨pi, ni, ci, rfl⟩ := agg_shape hvi
  clear hvi
  unfold maxLen at hmx
  go_enter Try.func62, Try.ntmps62
  go_wp2
  go_loopw [6, 7, 8, 9] (fun o m i' _ wr => ∃ k : Nat, k ≤ l.length ∧ i' = .int .i64 k ∧ m = .int .i64 (mostL ((l.take k).map (sub ims))) ∧ OwnL wr w.heap.size o ((l.take k).map (sub ims)) ∧ Keeps w wr) (fun _ _ i _ _ => l.length - (intOf i).toNat)
  case atStart => exact ⟨0, by omega, rfl, rfl, by simpa using h0, k0⟩
  case round =>
    obtain ⟨k, hk, rfl, rfl, hown, kw⟩ := hrel
    clear h0 k0
    have hsz := kw.size
    by_cases hlt : k < l.length
    · have hlt' : (k : Int) < l.length := by omega
      have hst : (l.take (k + 1)).map (sub ims) = (l.take k).map (sub ims) ++ [sub ims l[k]] := by rw [List.take_succ_eq_append_getElem hlt, List.map_append]; rfl
      have hms : mostL ((l.take (k + 1)).map (sub ims)) = max (mostL ((l.take k).map (sub ims))) (sub ims l[k]).length := by rw [hst, mostL_snoc]
      obtain ⟨b2, o2, u, e2, hcu, hu⟩ := (hvl0.keeps kw).get k hlt
      subst e2
      obtain ⟨p2, n2, q2, rfl⟩ := hu.shape
      have HST := hid hst; clear hst
      have HMS := hid hms; clear hms
      have HSUB := hid (l03Sub_any ims l[k] _ _ wr hu (hvi0.keeps kw) (ha _ (List.getElem_mem hlt)) H6.out (by have := hl _ (List.getElem_mem hlt); omega))
      have hsl := hl _ (List.getElem_mem hlt)
      have hlen2 : ((l.take k).map (sub ims)).length ≤ 1000 := by simp; omega
      clear hu hvl0 hvi0 hlen
      generalize mostL ((l.take k).map (sub ims)) = M at *
      generalize (l.take k).map (sub ims) = L at *
      go_wp2_with fail
      refine HSUB.out.mono ?_; rintro e w2 ⟨v2, rfl, hv2, k2⟩
      obtain ⟨p3, n3, q3, rfl, hn3⟩ : ∃ p n c, v2 = .slice p n c ∧ n = (sub ims l[k]).length := by obtain ⟨p, c, e, _⟩ := At.of_own hv2; exact ⟨p, _, c, e, rfl⟩
      have HN3 := hid hn3; clear hn3
      have k3 := k2.alloc (.cells #[.slice p3 n3 q3] 25)
      have hv3 := hv2.keeps ((Keeps.refl w2).alloc (.cells #[.slice p3 n3 q3] 25))
      have hat := At.lit1 w2 (.slice p3 n3 q3) 25
      have hn3l : n3 ≤ 100000 := by have := HN3.out; omega
      go_wp2_with (at_builtin; refine appL rfl _ _ rfl w.heap.size _ L rfl wr hown k3 _ _ hv3 hsz _ _ rfl hat (by omega) ?_; intro v4 w4 hv4 hg4 hr4; have k4 := (kw.trans k3).grown hg4 hr4)
      go_roundw
      case rel => exact ⟨k + 1, by omega, by go_num, by rw [HMS.out, ← HN3.out]; first | rfl | (congr 1; omega), by rw [HST.out]; exact hv4, k4⟩
      case measure => simp [intOf]; omega
    · have e : l.take k = l := List.take_of_length_le (by omega)
      rw [e] at hown
      rw [e]
      clear e
      go_wp2
      go_ret2
      exact ⟨_, rfl, hown, kw⟩
end Go.Proofs.Ytjmpiedjhdogeaa
