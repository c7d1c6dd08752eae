/- IsDerivable: both sides answer alike. -/
import Derived.Test.YtajjlnonmaghlaaGreatGY4
import Derived.Test.YtajjlnonmaghlaaGreatGY7
import Derived.Test.YtajjlnonmaghlaaGreatGSG
import Derived.Test.YtajjlnonmaghlaaGreatGVJ0
import Derived.Test.YtajjlnonmaghlaaGreatGN1
import Derived.Test.YtajjlnonmaghlaaGreatGW7
import Derived.Deep.RegionHeld3
namespace Go.Proofs.YtajjlnonmaghlaaGreat
open Go.RowKit
theorem plain_each {l : List (List Nd)} (h : plainErrs l = 0) : ∀ x ∈ l, plainErr x = 0 := by
  intro x hx
  unfold plainErrs at h
  split at h
  · rename_i h1
    split at h
    · omega
    · rename_i h2
      have h3 := allFm_all h1 x hx
      have h4 : plainL x = true := by
        simp only [allPlainL, Bool.not_eq_true, List.any_eq_false, Bool.not_eq_true', Bool.not_eq_false] at h2
        exact h2 x hx
      simp [plainErr, h3, h4]
  · omega
theorem list_trees : ∀ {l : List (List Nd)}, (∀ x ∈ l, plainErr x = 0) → ∃ G, l = G.map Fm.enc ∧ OkL G
  | [], _ => ⟨[], rfl, okL_nil⟩
  | x :: l, h => by
    obtain ⟨G, rfl, hG⟩ := list_trees (l := l) (fun y hy => h y (by simp [hy]))
    obtain ⟨t, hw, rfl, hp, _⟩ := plain_tree (h x (by simp))
    exact ⟨t :: G, rfl, fun a ha => by
      rcases List.mem_cons.1 ha with rfl | ha
      · exact ⟨hw, hp⟩
      · exact hG a ha⟩
theorem nodes_tot (G : List Fm) : nodes G = tot (G.map Fm.enc) := by
  induction G with
  | nil => rfl
  | cons a G ih => simp [nodes, tot, ih]
theorem pow21 {a b : Nat} (h : a + b ≤ 20) : 2 ^ a + 2 ^ b ≤ 50000000 := by
  have h1 : 2 ^ a ≤ 2 ^ 20 := Nat.pow_le_pow_right (by omega) (by omega)
  have h2 : 2 ^ b ≤ 2 ^ 20 := Nat.pow_le_pow_right (by omega) (by omega)
  have h3 : (2 : Nat) ^ 20 = 1048576 := by decide
  omega
set_option maxRecDepth 20000 in
set_option maxHeartbeats 1000000 in
theorem textsOf_any (G : List Fm) (hG : OkL G) (hlen : ∀ a ∈ G, a.enc.length ≤ 40) (hn : G.length ≤ 1000) (v : Value) (w : World) (hv : FsL w v G) :
    Calls Tryz.prog 58 #[v] w fun e w' => ∃ v', e = .returned v' ∧ Left w' v' G ∧ Keeps w w' := by
  obtain ⟨p, n, cap, rfl⟩ := NdsL.shapeL hv
  obtain ⟨hm, hmc, hmx⟩ := FsL.len hv
  unfold maxLen at hmx
  have hn1 : n ≤ 1000 := by omega
  have HM := hid hm; clear hm
  have HV := hid hv; clear hv
  go_enter Tryz.func58, Tryz.ntmps58
  go_wp2
  go_loopw [3, 8] (fun r i' wr => ∃ k : Nat, k ≤ n ∧ i' = .int .i64 k ∧ (∃ ss, OwnS wr w.heap.size r ss ∧ Txts ss (G.take k)) ∧ Keeps w wr) (fun _ i _ => n - (intOf i).toNat)
  case atStart => exact ⟨0, by omega, rfl, ⟨[], OwnS.nil _ _, rfl⟩, Keeps.refl _⟩
  case round =>
    obtain ⟨k, hk, rfl, ⟨ss, hss, htx⟩, kw⟩ := hrel
    by_cases hlt : k < n
    · have hlt' : (k : Int) < n := by omega
      have hkG : k < G.length := by have := HM.out; omega
      obtain ⟨b, off, u1, rfl, hc, hu1⟩ := (HV.out.keeps kw).get k hkG
      have HT := hid (text_any G[k] (hG _ (List.getElem_mem hkG)).1 (by have := hlen _ (List.getElem_mem hkG); omega) u1 wr hu1)
      obtain ⟨q1, n1, c1, rfl⟩ := hu1.shape
      have hsl : ss.length ≤ 1000 := by have := htx.length; simp at this; omega
      have hsz := kw.size
      clear hu1
      go_wp2_with fail
      refine HT.out.mono ?_; rintro e w2 ⟨s, rfl, hs, k2⟩
      have hsz2 := k2.size
      go_wp2_with (at_builtin; refine appS rfl (.tmp 12) (.tmp 15) rfl w.heap.size _ ss rfl ((hss.keeps k2).keeps ((Keeps.refl w2).alloc _)) _ [s] rfl (Strs.lit1 w2 s) (by simp; omega) (by simp; omega) ?_; intro v3 w3 hv3 hg3 hr3)
      go_roundw
      case rel => exact ⟨k + 1, by omega, by go_num, ⟨_, hv3, by rw [List.take_succ_eq_append_getElem hkG]; exact htx.append (by simp [Txts, hs])⟩, (((kw.trans k2).alloc _).grown hg3 (fun q hq => by have := hr3 q hq; omega))⟩
      case measure => simp [intOf]; omega
    · obtain rfl : k = n := by omega
      have hlt' : ¬ ((k : Int) < k) := by omega
      have hL := hid (show Left wr _ G from by
        have h1 : G.take k = G := by have := HM.out; rw [this]; exact List.take_length
        rw [h1] at htx
        exact hss.left htx (by omega))
      clear hss htx
      go_wp2
      go_ret
      exact ⟨_, rfl, hL.out, kw⟩
theorem tot_most (l : List (List Nd)) (n : Nat) (h : ∀ x ∈ l, x.length ≤ n) : tot l ≤ n * l.length := by
  induction l with
  | nil => simp [tot]
  | cons x l ih =>
    have h1 := h x (List.mem_cons_self ..)
    have h2 := ih (fun y hy => h y (List.mem_cons_of_mem _ hy))
    simp only [tot, List.length_cons]
    rw [Nat.mul_succ]; omega
theorem fl_tot (l : List (List Nd)) : (fl l l.length).length = tot l := by
  rw [fl_all]
  induction l with
  | nil => rfl
  | cons x l ih => simp [tot] at ih ⊢; omega
set_option maxRecDepth 20000 in
theorem isSmallRule_any (xs : List (List Nd)) (c : List Nd) (v u : Value) (w : World) (hv : NdsL w v xs) (hu : Nds w u c) (hl : xs.length ≤ 1000000) (ht : tot (xs ++ [c]) ≤ 1000000000) :
    Calls Tryz.prog 56 #[.agg #[v, u]] w fun e w' => e = .returned (.bool (decide (tot (xs ++ [c]) ≤ 20))) ∧ Keeps w w' := by
  obtain ⟨p1, n1, q1, rfl⟩ := NdsL.shapeL hv
  obtain ⟨p2, n2, q2, rfl⟩ := hu.shape
  have kA := (Keeps.refl w).alloc (.cells #[.slice p1 n1 q1, .slice p2 n2 q2] 42)
  have HF := hid (formulas_any xs c _ _ _ (hv.keeps kA) (hu.keeps kA) hl)
  have HC := hid (fun v w2 (hv : NdsL w2 v (xs ++ [c])) => concatN_any (xs ++ [c]) v w2 hv (by rw [fl_tot]; omega))
  have hft := fl_tot (xs ++ [c])
  have HT := hid hft; clear hft
  clear hv hu
  go_enter Tryz.func56, Tryz.ntmps56
  go_wp2_with fail
  refine HF.out.mono ?_; rintro e w2 ⟨v2, rfl, hv2, k2⟩
  go_wp2_with fail
  refine (HC.out _ w2 hv2).mono ?_; rintro e w3 ⟨v3, rfl, hv3, k3⟩
  obtain ⟨p3, c3, rfl, hc3, _⟩ := At.of_own hv3
  have hlen3 := HT.out
  generalize (fl (xs ++ [c]) (xs ++ [c]).length).length = m at *
  subst hlen3
  by_cases h20 : tot (xs ++ [c]) ≤ 20
  · have h20' : ((tot (xs ++ [c]) : Nat) : Int) ≤ 20 := by omega
    go_wp2_with fail
    go_ret
    exact ⟨ret_bool (by simp [h20]), (kA.trans k2).trans k3⟩
  · have h20' : ¬ ((tot (xs ++ [c]) : Nat) : Int) ≤ 20 := by omega
    go_wp2_with fail
    go_ret
    exact ⟨ret_bool (by simp; omega), (kA.trans k2).trans k3⟩
/-- both sides answer b and c -/
def BothRule (S I : FuncId) (xs : List (List Nd)) (c : List Nd) (b : Bool) (k : Int) : Prop :=
  (∀ (v u : Value) (w : World), NdsL w v xs → Nds w u c → Calls Tryz.prog S #[.agg #[v, u]] w (fun e w' => e = .returned (.tuple #[.bool b, .int .i64 k]) ∧ Keeps w w')) ∧
  (∀ (v u : Value) (w : World), NdsL w v xs → Nds w u c → Calls Tryz.prog I #[.agg #[v, u]] w (fun e w' => e = .returned (.tuple #[.bool b, .int .i64 k]) ∧ Keeps w w'))
set_option maxRecDepth 20000 in
set_option maxHeartbeats 1000000 in
theorem derivable_err (xs : List (List Nd)) (c : List Nd) (h : ruleErr xs c ≠ 0) : BothRule 22 24 xs c false (ruleErr xs c) := by
  have h' : (ruleErr xs c != 0) = true := by simp [h]
  have H := hid h; clear h
  refine ⟨fun v u w hv hu => ?_, fun v u w hv hu => ?_⟩
  · obtain ⟨p1, n1, q1, rfl⟩ := NdsL.shapeL hv
    obtain ⟨p2, n2, q2, rfl⟩ := hu.shape
    have kA := (Keeps.refl w).alloc (.cells #[.slice p1 n1 q1, .slice p2 n2 q2] 42)
    have HC := hid (l31Code_any xs c _ _ _ (hv.keeps kA) (hu.keeps kA))
    clear hv hu
    go_enter Tryz.func22, Tryz.ntmps22
    go_wp2_with fail
    refine HC.out.mono ?_; rintro e w2 ⟨rfl, k2⟩
    go_wp2_with fail
    go_ret2
    exact ⟨rfl, kA.trans k2⟩
  · obtain ⟨p1, n1, q1, rfl⟩ := NdsL.shapeL hv
    obtain ⟨p2, n2, q2, rfl⟩ := hu.shape
    have kA := (Keeps.refl w).alloc (.cells #[.slice p1 n1 q1, .slice p2 n2 q2] 42)
    have HC := hid (ruleCode_nil xs c _ _ _ (hv.keeps kA) (hu.keeps kA))
    clear hv hu
    go_enter Tryz.func24, Tryz.ntmps24
    go_wp2_with fail
    refine HC.out.mono ?_; rintro e w2 ⟨rfl, k2⟩
    go_wp2_with fail
    go_ret2
    exact ⟨rfl, kA.trans k2⟩
set_option maxRecDepth 20000 in
set_option maxHeartbeats 2000000 in
theorem derivable_big (xs : List (List Nd)) (c : List Nd) (h : ruleErr xs c = 0) (hb : 20 < tot (xs ++ [c])) : BothRule 22 24 xs c false 3 := by
  obtain ⟨h6, hall⟩ := ruleErr_zero h
  have htot : tot (xs ++ [c]) ≤ 40 * (xs ++ [c]).length := tot_most _ 40 (fun x hx => (hall x hx).2)
  have ht2 : tot (xs ++ [c]) ≤ 1000 := by simp at htot; omega
  refine ⟨fun v u w hv hu => ?_, fun v u w hv hu => ?_⟩
  · obtain ⟨p1, n1, q1, rfl⟩ := NdsL.shapeL hv
    obtain ⟨p2, n2, q2, rfl⟩ := hu.shape
    have kA := (Keeps.refl w).alloc (.cells #[.slice p1 n1 q1, .slice p2 n2 q2] 42)
    have pa : (w.alloc (.cells #[.slice p1 n1 q1, .slice p2 n2 q2] 42)).cell? ⟨w.heap.size, 0, none⟩ = some (.slice p1 n1 q1) := by simp
    have pb : (w.alloc (.cells #[.slice p1 n1 q1, .slice p2 n2 q2] 42)).cell? ⟨w.heap.size, 1, none⟩ = some (.slice p2 n2 q2) := by simp
    have hC := l31Code_any xs c _ _ _ (hv.keeps kA) (hu.keeps kA)
    rw [h] at hC
    have HC := hid hC
    have HO := hid (fun w2 (k : Keeps w w2) => l31Of_any xs c _ _ w2 (hv.keeps k) (hu.keeps k) (by omega))
    have HB := hid (show (20 : Int) < (tot (xs ++ [c]) : Nat) by omega)
    have hS := hid (fun v w2 (h : NdsL w2 v (xs ++ [c])) => l31Size_any (xs ++ [c]) v w2 h (by omega))
    clear hv hu hC hb htot hall
    go_enter Tryz.func22, Tryz.ntmps22
    go_wp2_with fail
    refine HC.out.mono ?_; rintro e w2 ⟨rfl, k2⟩
    obtain ⟨qa, qb⟩ := cells_keeps k2 (And.intro pa pb)
    go_wp2_with fail
    refine (HO.out w2 (kA.trans k2)).mono ?_; rintro e w3 ⟨v3, rfl, hv3, k3⟩
    have hL := hv3.ndsL k3 (by simp; omega)
    go_wp2_with fail
    refine (hS.out _ w3 hL).mono ?_; rintro e w4 ⟨rfl, rfl⟩
    have hbb := HB.out
    go_wp2_with fail
    go_ret2
    exact ⟨rfl, (kA.trans k2).trans k3⟩
  · obtain ⟨p1, n1, q1, rfl⟩ := NdsL.shapeL hv
    obtain ⟨p2, n2, q2, rfl⟩ := hu.shape
    have kA := (Keeps.refl w).alloc (.cells #[.slice p1 n1 q1, .slice p2 n2 q2] 42)
    have pa : (w.alloc (.cells #[.slice p1 n1 q1, .slice p2 n2 q2] 42)).cell? ⟨w.heap.size, 0, none⟩ = some (.slice p1 n1 q1) := by simp
    have pb : (w.alloc (.cells #[.slice p1 n1 q1, .slice p2 n2 q2] 42)).cell? ⟨w.heap.size, 1, none⟩ = some (.slice p2 n2 q2) := by simp
    have hC := ruleCode_nil xs c _ _ _ (hv.keeps kA) (hu.keeps kA)
    rw [h] at hC
    have HC := hid hC
    have hS := fun w2 (k : Keeps w w2) => isSmallRule_any xs c _ _ w2 (hv.keeps k) (hu.keeps k) (by omega) (by omega)
    rw [decide_eq_false (by omega)] at hS
    have HS := hid hS
    clear hv hu hC hS hb htot hall
    go_enter Tryz.func24, Tryz.ntmps24
    go_wp2_with fail
    refine HC.out.mono ?_; rintro e w2 ⟨rfl, k2⟩
    obtain ⟨qa, qb⟩ := cells_keeps k2 (And.intro pa pb)
    go_wp2_with fail
    refine (HS.out w2 (kA.trans k2)).mono ?_; rintro e w3 ⟨rfl, k3⟩
    go_wp2_with fail
    go_ret2
    exact ⟨rfl, (kA.trans k2).trans k3⟩
set_option maxRecDepth 20000 in
set_option maxHeartbeats 2000000 in
theorem derivable_ok (G : List Fm) (t : Fm) (hG : OkL G) (ht : OkF t) (h : ruleErr (G.map Fm.enc) t.enc = 0) (hb : tot (G.map Fm.enc ++ [t.enc]) ≤ 20) : BothRule 22 24 (G.map Fm.enc) t.enc (sqB G t) 0 := by
  obtain ⟨h6, hall⟩ := ruleErr_zero h
  have hl40 : ∀ a ∈ G, a.enc.length ≤ 40 := fun a ha => (hall a.enc (List.mem_append.2 (.inl (List.mem_map.2 ⟨a, ha, rfl⟩)))).2
  have htl : t.enc.length ≤ 40 := (hall t.enc (by simp)).2
  have hGl : G.length ≤ 6 := by simpa using h6
  have hw : wts G + wt t ≤ 50000000 := by
    have h1 := wts_le_pow G
    have h2 := wt_le_pow t
    have h3 : nodes G + t.enc.length ≤ 20 := by
      rw [nodes_tot]
      have : tot (G.map Fm.enc ++ [t.enc]) = tot (G.map Fm.enc) + t.enc.length := by
        clear hb hall h6 h hl40 hGl h1
        induction G with
        | nil => simp [tot]
        | cons a G ih => have := ih (fun b hb => hG b (by simp [hb])); simp [tot] at this ⊢; omega
      omega
    have h4 := pow21 h3
    omega
  have ht2 : tot (G.map Fm.enc ++ [t.enc]) ≤ 1000 := by omega
  refine ⟨fun v u w hv hu => ?_, fun v u w hv hu => ?_⟩
  · obtain ⟨p1, n1, q1, rfl⟩ := NdsL.shapeL hv
    obtain ⟨p2, n2, q2, rfl⟩ := hu.shape
    have kA := (Keeps.refl w).alloc (.cells #[.slice p1 n1 q1, .slice p2 n2 q2] 42)
    have pa : (w.alloc (.cells #[.slice p1 n1 q1, .slice p2 n2 q2] 42)).cell? ⟨w.heap.size, 0, none⟩ = some (.slice p1 n1 q1) := by simp
    have pb : (w.alloc (.cells #[.slice p1 n1 q1, .slice p2 n2 q2] 42)).cell? ⟨w.heap.size, 1, none⟩ = some (.slice p2 n2 q2) := by simp
    have hC := l31Code_any _ _ _ _ _ (hv.keeps kA) (hu.keeps kA)
    rw [h] at hC
    have HC := hid hC
    have HO := hid (fun w2 (k : Keeps w w2) => l31Of_any _ _ _ _ w2 (hv.keeps k) (hu.keeps k) (by simp; omega))
    have HB := hid (show ¬ (20 : Int) < (tot (G.map Fm.enc ++ [t.enc]) : Nat) by omega)
    have hS := hid (fun v w2 (h : NdsL w2 v (G.map Fm.enc ++ [t.enc])) => l31Size_any _ v w2 h (by omega))
    have HX := hid (fun w2 (k : Keeps w w2) => l31Texts_any G hG hl40 (by omega) _ w2 (hv.keeps k))
    have HT := hid (fun w2 (k : Keeps w w2) => l02Text_any t ht.1 ht.2 (by omega) _ w2 (hu.keeps k))
    have HK := hid (fun R (hR : ∀ a, a ∈ R ↔ a ∈ G) (hwR : wts R ≤ wts G) (hlR : R.length ≤ G.length) s (hs : bts s = t.body) v w2 (hl : Left w2 v R) => by
      have h1 := l23Ok_any R t (fun a ha => hG a ((hR a).1 ha)) ht (fun a ha => hl40 a ((hR a).1 ha)) htl (by omega) (by omega) s v w2 hl hs
      rw [sqB_congr (sq_same hR)] at h1
      exact h1)
    clear hv hu hC hb hall
    go_enter Tryz.func22, Tryz.ntmps22
    go_wp2_with fail
    refine HC.out.mono ?_; rintro e w2 ⟨rfl, k2⟩
    obtain ⟨qa, qb⟩ := cells_keeps k2 (And.intro pa pb)
    go_wp2_with fail
    refine (HO.out w2 (kA.trans k2)).mono ?_; rintro e w3 ⟨v3, rfl, hv3, k3⟩
    have hL := hv3.ndsL k3 (by simp; omega)
    obtain ⟨qa3, qb3⟩ := cells_keeps k3 (And.intro qa qb)
    go_wp2_with fail
    refine (hS.out _ w3 hL).mono ?_; rintro e w4 ⟨rfl, rfl⟩
    have hbb := HB.out
    have kD := ((kA.trans k2).trans k3).drew
    have qd : w3.drew.cell? ⟨w.heap.size, 0, none⟩ = some (.slice p1 n1 q1) ∧ w3.drew.cell? ⟨w.heap.size, 1, none⟩ = some (.slice p2 n2 q2) := ⟨qa3, qb3⟩
    clear hL hv3
    go_wp2_with fail
    go_region_held3 (fun w' => w'.cell? ⟨w.heap.size, 0, none⟩ = some (.slice p1 n1 q1) ∧ w'.cell? ⟨w.heap.size, 1, none⟩ = some (.slice p2 n2 q2)) (first | exact qd | exact q5 | exact q6 | exact q7) (first
      | (go_at_call 53; refine (HX.out w3.drew kD).mono ?_; rintro e w5 ⟨v5, rfl, ⟨R, hR, hm, hwR, hlR⟩, k5⟩; have q5 := cells_keeps k5 qd)
      | (go_at_call 54; refine (HT.out w5 (kD.trans k5)).mono ?_; rintro e w6 ⟨s, rfl, hs, k6⟩; have q6 := cells_keeps k6 q5)
      | (go_at_call 52; refine (HK.out R hm hwR hlR s hs _ w6 (hR.keeps k6)).mono ?_; rintro e w7 ⟨rfl, k7⟩; have q7 := cells_keeps k7 q6))
    all_goals
      go_wp2
      go_ret2
      exact ⟨rfl, ((kD.trans k5).trans k6).trans k7⟩
  · obtain ⟨p1, n1, q1, rfl⟩ := NdsL.shapeL hv
    obtain ⟨p2, n2, q2, rfl⟩ := hu.shape
    have kA := (Keeps.refl w).alloc (.cells #[.slice p1 n1 q1, .slice p2 n2 q2] 42)
    have pa : (w.alloc (.cells #[.slice p1 n1 q1, .slice p2 n2 q2] 42)).cell? ⟨w.heap.size, 0, none⟩ = some (.slice p1 n1 q1) := by simp
    have pb : (w.alloc (.cells #[.slice p1 n1 q1, .slice p2 n2 q2] 42)).cell? ⟨w.heap.size, 1, none⟩ = some (.slice p2 n2 q2) := by simp
    have hC := ruleCode_nil _ _ _ _ _ (hv.keeps kA) (hu.keeps kA)
    rw [h] at hC
    have HC := hid hC
    have hS := fun w2 (k : Keeps w w2) => isSmallRule_any _ _ _ _ w2 (hv.keeps k) (hu.keeps k) (by simp; omega) (by omega)
    rw [decide_eq_true hb] at hS
    have HS := hid hS
    have HX := hid (fun w2 (k : Keeps w w2) => textsOf_any G hG hl40 (by omega) _ w2 (hv.keeps k))
    have HT := hid (fun w2 (k : Keeps w w2) => text_any t ht.1 (by omega) _ w2 (hu.keeps k))
    have HP := hid (fun v w2 (hl : Left w2 v G) => put_fm G [] v _ w2 hl (Left.nil w2) hG okL_nil (by simp only [wts]; omega))
    have HK := hid (fun R (hR : ∀ a, a ∈ R ↔ a ∈ G ∨ a ∈ ([] : List Fm)) (hwR : wts R ≤ wts G + wts []) s (hs : bts s = t.body) v w2 (hl : Left w2 v R) => by
      have h1 := provable_any R t (fun a ha => hG a (by simpa using (hR a).1 ha)) ht (by simp only [wts] at hwR; omega) s v w2 hl hs
      rw [sqB_congr (sq_same (fun a => (hR a).trans (by simp) : ∀ a, a ∈ R ↔ a ∈ G))] at h1
      exact h1)
    clear hv hu hC hS hb hall
    go_enter Tryz.func24, Tryz.ntmps24
    go_wp2_with fail
    refine HC.out.mono ?_; rintro e w2 ⟨rfl, k2⟩
    obtain ⟨qa, qb⟩ := cells_keeps k2 (And.intro pa pb)
    go_wp2_with fail
    refine (HS.out w2 (kA.trans k2)).mono ?_; rintro e w3 ⟨rfl, k3⟩
    obtain ⟨qa3, qb3⟩ := cells_keeps k3 (And.intro qa qb)
    have kD := ((kA.trans k2).trans k3).drew
    have qd : w3.drew.cell? ⟨w.heap.size, 0, none⟩ = some (.slice p1 n1 q1) ∧ w3.drew.cell? ⟨w.heap.size, 1, none⟩ = some (.slice p2 n2 q2) := ⟨qa3, qb3⟩
    go_wp2_with fail
    go_region_held3 (fun w' => w'.cell? ⟨w.heap.size, 0, none⟩ = some (.slice p1 n1 q1) ∧ w'.cell? ⟨w.heap.size, 1, none⟩ = some (.slice p2 n2 q2)) (first | exact qd | exact q4 | exact q5 | exact q6 | exact q7) (first
      | (go_at_call 58; refine (HX.out w3.drew kD).mono ?_; rintro e w4 ⟨v4, rfl, hv4, k4⟩; have q4 := cells_keeps k4 qd; obtain ⟨p4, n4, c4, rfl⟩ := hv4.shape)
      | (go_at_call 57; refine (HP.out _ w4 hv4).mono ?_; rintro e w5 ⟨v5, R, rfl, hR, hm, hwR, k5⟩; have q5 := cells_keeps k5 q4; have hRl := hR.left; obtain ⟨p5, n5, c5, rfl⟩ := hRl.shape)
      | (go_at_call 37; refine (HT.out w5 ((kD.trans k4).trans k5)).mono ?_; rintro e w6 ⟨s, rfl, hs, k6⟩; have q6 := cells_keeps k6 q5)
      | (go_at_call 36; refine (HK.out R hm hwR s hs _ w6 (hRl.keeps k6)).mono ?_; rintro e w7 ⟨rfl, k7⟩; have q7 := cells_keeps k7 q6))
    all_goals
      go_wp2
      go_ret2
      exact ⟨rfl, (((kD.trans k4).trans k5).trans k6).trans k7⟩
theorem bothDerivable (xs : List (List Nd)) (c : List Nd) : ∃ b k, BothRule 22 24 xs c b k := by
  by_cases h : ruleErr xs c = 0
  · have hp : plainErrs (xs ++ [c]) = 0 := by
      have h0 := h
      unfold ruleErr at h0
      split at h0
      · omega
      · exact h0
    by_cases hb : tot (xs ++ [c]) ≤ 20
    · obtain ⟨G, rfl, hG⟩ := list_trees (l := xs) (fun x hx => plain_each hp x (List.mem_append.2 (.inl hx)))
      obtain ⟨t, hw, rfl, hpl, _⟩ := plain_tree (plain_each hp c (by simp))
      exact ⟨_, _, derivable_ok G t hG ⟨hw, hpl⟩ h hb⟩
    · exact ⟨_, _, derivable_big xs c h (by omega)⟩
  · exact ⟨_, _, derivable_err xs c h⟩
end Go.Proofs.YtajjlnonmaghlaaGreat
