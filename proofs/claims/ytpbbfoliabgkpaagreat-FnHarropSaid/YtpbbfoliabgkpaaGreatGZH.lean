/- The reference's l31Search. (printed by mkzg.py) -/
import Derived.Test.YtpbbfoliabgkpaaGreatGM5
import Derived.ArgAppend
namespace Go.Proofs.YtpbbfoliabgkpaaGreat
open Go.RowKit
theorem ret_two {u : Value} {c d : Int} (h : c = d) : Ending.returned (.tuple #[u, .int .i64 c]) = .returned (.tuple #[u, .int .i64 d]) := by rw [h]
/-- a list of lists and an error come back -/
def LsE (w : World) (r : List (List Nd)) (c : Int) (e : Ending) (w' : World) : Prop := ∃ x, e = .returned (.tuple #[x, .int .i64 c]) ∧ NdsL w' x r ∧ Keeps w w'
/-- the same, owned -/
def OwE (w : World) (r : List (List Nd)) (c : Int) (e : Ending) (w' : World) : Prop := ∃ x, e = .returned (.tuple #[x, .int .i64 c]) ∧ OwnL w' w.heap.size x r ∧ Keeps w w'
--
set_option maxRecDepth 20000 in
set_option maxHeartbeats 1000000 in
theorem l31Search_err (xs cs : List (List Nd)) (b : Bool) (h : plainErrs (xs ++ cs) ≠ 0) (v u : Value) (w : World) (hv : NdsL w v xs) (hu : NdsL w u cs) :
    Calls Tryz.prog 103 #[v, u, .bool b] w (LsE w [] (plainErrs (xs ++ cs))) := by
  have H1 := hid (l31Plain_any xs v w hv)
  have H2 := hid (l31Plain_any cs u w hu)
  have hB := l31Both_two (plainErrs xs) (plainErrs cs) w (plainErrs_range xs) (plainErrs_range cs)
  rw [bothE_app] at hB
  have HB := hid hB; clear hB
  have h' : (plainErrs (xs ++ cs) != 0) = true := by simp [h]
  have HN := hid h; clear h
  generalize plainErrs (xs ++ cs) = E at *
  obtain ⟨p1, n1, q1, rfl⟩ := NdsL.shapeL hv
  obtain ⟨p2, n2, q2, rfl⟩ := NdsL.shapeL hu
  go_enter Tryz.func103, Tryz.ntmps103
  go_wp2_with fail
  refine H1.out.mono ?_; rintro e w2 ⟨rfl, rfl⟩
  go_wp2_with fail
  refine H2.out.mono ?_; rintro e w2 ⟨rfl, rfl⟩
  go_wp2_with fail
  refine HB.out.mono ?_; rintro e w2 ⟨rfl, rfl⟩
  go_wp2_with fail
  go_ret2
  exact ⟨_, rfl, ndsL_nil _, Keeps.refl _⟩
theorem cap_big {m n : Nat} (h : 600 < m ^ n) : 600 < cap601 m n := by rw [cap601_eq]; omega
theorem cap_small {m n : Nat} (h : ¬ 600 < m ^ n) : cap601 m n = m ^ n := by rw [cap601_eq]; omega
set_option maxRecDepth 20000 in
set_option maxHeartbeats 2000000 in
/-- there are too many candidates, or too many nodes, or too many substitutions -/
theorem l31Search_lim (xs cs : List (List Nd)) (b : Bool) (h0 : plainErrs (xs ++ cs) = 0) (hok : ∀ x ∈ xs, x.all okNd = true) (ht : tot xs ≤ 1000) (hc : candE cs.length (mem (vmL xs)).length (decide (tot xs ≤ 20)) ≠ 0) (v u : Value) (w : World) (hv : NdsL w v xs) (hu : NdsL w u cs) :
    Calls Tryz.prog 103 #[v, u, .bool b] w (LsE w [] (candE cs.length (mem (vmL xs)).length (decide (tot xs ≤ 20)))) := by
  have H1 := hid (l31Plain_any xs v w hv)
  have H2 := hid (l31Plain_any cs u w hu)
  have hB := l31Both_two (plainErrs xs) (plainErrs cs) w (plainErrs_range xs) (plainErrs_range cs)
  rw [bothE_app, h0] at hB
  have HB := hid hB; clear hB h0
  have HV := hid (l06Variables_any xs v w hv hok)
  have HS := hid (fun w2 (k : Keeps w w2) => l31Size_any xs v w2 (hv.keeps k) (by omega))
  have hml : (mem (vmL xs)).length ≤ 6 := low_len _ 6
  generalize mem (vmL xs) = vs at *
  have HC := hid (fun (h8 : cs.length ≤ 8) x w2 (k : Keeps w w2) (hx : Ints w2 x vs) => l31Count_any vs cs x u w2 hx (hu.keeps k) hml h8)
  obtain ⟨p1, n1, q1, rfl⟩ := NdsL.shapeL hv
  obtain ⟨p2, n2, q2, rfl⟩ := NdsL.shapeL hu
  obtain ⟨hnc, hncc, hmc⟩ : n2 = cs.length ∧ n2 ≤ q2 ∧ q2 ≤ maxLen := by obtain ⟨_, _, e, h1, h2, _⟩ := hu; cases e; exact ⟨rfl, h1, h2⟩
  subst hnc
  unfold maxLen at hmc
  clear hv hu hok
  by_cases h8 : 8 < cs.length
  · have h8' : (8 : Int) < cs.length := by omega
    have he : candE cs.length vs.length (decide (tot xs ≤ 20)) = 2 := by unfold candE; rw [if_pos h8]
    rw [he]
    clear hc he
    go_enter Tryz.func103, Tryz.ntmps103
    go_wp2_with fail
    refine H1.out.mono ?_; rintro e w2 ⟨rfl, rfl⟩
    go_wp2_with fail
    refine H2.out.mono ?_; rintro e w2 ⟨rfl, rfl⟩
    go_wp2_with fail
    refine HB.out.mono ?_; rintro e w2 ⟨rfl, rfl⟩
    go_wp2_with fail
    refine HV.out.mono ?_; rintro e w2 ⟨v2, rfl, hv2, k2⟩
    go_wp2_with fail
    go_ret2
    exact ⟨_, rfl, ndsL_nil _, k2⟩
  · have h8' : ¬ (8 : Int) < cs.length := by omega
    have he : candE cs.length vs.length (decide (tot xs ≤ 20)) = 3 := by
      unfold candE at hc ⊢
      rw [if_neg h8] at hc ⊢
      split at hc
      · rw [if_pos (by assumption)]
      · exact absurd rfl hc
    have hc2 : 20 < tot xs ∨ 600 < cs.length ^ vs.length := by
      unfold candE at hc
      rw [if_neg h8] at hc
      by_cases h20 : 20 < tot xs
      · exact .inl h20
      · right
        by_cases h6 : 600 < cs.length ^ vs.length
        · exact h6
        · rw [if_neg (by simp; omega)] at hc; exact absurd rfl hc
    rw [he]
    clear hc he
    by_cases h20 : 20 < tot xs
    · have h20' : (20 : Int) < (tot xs : Nat) := by omega
      clear hc2
      generalize tot xs = T at *
      go_enter Tryz.func103, Tryz.ntmps103
      go_wp2_with fail
      refine H1.out.mono ?_; rintro e w2 ⟨rfl, rfl⟩
      go_wp2_with fail
      refine H2.out.mono ?_; rintro e w2 ⟨rfl, rfl⟩
      go_wp2_with fail
      refine HB.out.mono ?_; rintro e w2 ⟨rfl, rfl⟩
      go_wp2_with fail
      refine HV.out.mono ?_; rintro e w2 ⟨v2, rfl, hv2, k2⟩
      go_wp2_with fail
      refine (HS.out w2 k2).mono ?_; rintro e w3 ⟨rfl, rfl⟩
      go_wp2_with fail
      go_ret2
      exact ⟨_, rfl, ndsL_nil _, k2⟩
    · have h20' : ¬ (20 : Int) < (tot xs : Nat) := by omega
      have hcap := cap_big (hc2.resolve_left h20)
      have hcap' : (600 : Int) < (cap601 cs.length vs.length : Nat) := by omega
      clear hc2 hcap
      generalize tot xs = T at *
      have HC8 := hid (HC.out (by omega))
      clear HC
      generalize cap601 cs.length vs.length = CC at *
      go_enter Tryz.func103, Tryz.ntmps103
      go_wp2_with fail
      refine H1.out.mono ?_; rintro e w2 ⟨rfl, rfl⟩
      go_wp2_with fail
      refine H2.out.mono ?_; rintro e w2 ⟨rfl, rfl⟩
      go_wp2_with fail
      refine HB.out.mono ?_; rintro e w2 ⟨rfl, rfl⟩
      go_wp2_with fail
      refine HV.out.mono ?_; rintro e w2 ⟨v2, rfl, hv2, k2⟩
      have HI2 := hid (hv2.ints (by omega))
      obtain ⟨p3, c3, rfl, _⟩ := hv2.ints (by omega)
      go_wp2_with fail
      refine (HS.out w2 k2).mono ?_; rintro e w3 ⟨rfl, rfl⟩
      go_wp2_with fail
      refine (HC8.out _ w2 k2 HI2.out).mono ?_; rintro e w3 ⟨rfl, rfl⟩
      go_wp2_with fail
      go_ret2
      exact ⟨_, rfl, ndsL_nil _, k2⟩

set_option maxRecDepth 20000 in
set_option maxHeartbeats 4000000 in
theorem l31Search_U (t : Fm) (hT : OkL [t]) (htot : tot [t.enc] ≤ 20) (C : List Fm) (hC : OkL C) (hC40 : ∀ c ∈ C, c.enc.length ≤ 40) (hC8 : C.length ≤ 8) (h0 : plainErrs ([t.enc] ++ C.map Fm.enc) = 0) (hN : C.length ^ (mem (vmL [t.enc])).length ≤ 600)
    (r : List (List Nd)) (c : Int) (hr : r = ((firstC (okU t) C (mem (vmL [t.enc])) idF).getD []).map Fm.enc) (hc : c = if (firstC (okU t) C (mem (vmL [t.enc])) idF).isSome then 0 else 4) (v u : Value) (w : World) (hv : NdsL w v [t.enc]) (hu : NdsL w u (C.map Fm.enc)) :
    Calls Tryz.prog 103 #[v, u, .bool true] w (LsE w r c) := by
  have hok : ∀ x ∈ [t.enc], x.all okNd = true := fun x hx => by
    have hx2 : x ∈ ([t]).map Fm.enc := by simpa using hx
    obtain ⟨y, hy, rfl⟩ := List.mem_map.1 hx2
    exact List.all_eq_true.2 (okNd_enc (hT y hy).1)
  have hlen20 : ∀ y ∈ [t], y.enc.length ≤ 20 := fun y hy => by
    have hm : y.enc ∈ [t.enc] := by simpa using List.mem_map.2 ⟨y, hy, rfl⟩
    obtain ⟨i, hi, e⟩ := List.getElem_of_mem hm
    have := tot_mem _ i hi
    rw [e] at this
    omega
  have hT7 : ([t]).length ≤ 7 := by simp
  have H1 := hid (l31Plain_any _ v w hv)
  have H2 := hid (l31Plain_any _ u w hu)
  have hB := l31Both_two _ _ w (plainErrs_range [t.enc]) (plainErrs_range (C.map Fm.enc))
  rw [bothE_app, h0] at hB
  have HB := hid hB; clear hB h0
  have HV := hid (l06Variables_any _ v w hv hok)
  have HS := hid (fun w2 (k : Keeps w w2) => l31Size_any _ v w2 (hv.keeps k) (by omega))
  have h20' : ¬ (20 : Int) < (tot [t.enc] : Nat) := by omega
  have hml : (mem (vmL [t.enc])).length ≤ 6 := low_len _ 6
  have hmr := mem_range (vmL [t.enc])
  have hnd := mem_nodup ⟨vmL [t.enc], by have := vmL_lt hok _ (Nat.le_refl _); rwa [List.take_length] at this⟩
  simp only at hnd
  generalize mem (vmL [t.enc]) = vs at *
  have hf1 := fun k hk hn hp => firstC_found (okU t) C vs hnd idF k hk hn hp
  have hf2 := fun hn => firstC_lost (okU t) C vs hnd idF hn
  have HFO := hid hf1; clear hf1
  have HLO := hid hf2; clear hf2
  have HCN := hid (fun x w2 (k : Keeps w w2) (hx : Ints w2 x vs) => l31Count_any vs (C.map Fm.enc) x u w2 hx (hu.keeps k) hml (by simpa using hC8))
  rw [List.length_map, cap_small (by omega)] at HCN
  have HCH := hid (fun k (hk : k < C.length ^ vs.length) x w2 (kk : Keeps w w2) (hx : Ints w2 x vs) => l31Choice_any vs C k x u w2 hx (hu.keeps kk) hmr hml hC8 (fun h => (pow_posC hk).resolve_left (by omega)) (by omega) hC40)
  have hsm : ∀ k, Sm (pickC C vs.reverse k idF) := fun k => Sm.of (by rw [pickC_len]; rfl) hC hC40 (pickC_mem C vs.reverse k idF)
  have HSM := hid hsm; clear hsm
  have HX := hid (fun σ (hs : Sm σ) y w2 (kk : Keeps w w2) (hy : NdsL w2 y (σ.map Fm.enc)) => l31Image_any (σ.map Fm.enc) [t.enc] v y w2 (hv.keeps kk) hy hok (by simp [hs.1]) (fun x hx => by
    have hx2 : x ∈ ([t]).map Fm.enc := by simpa using hx
    obtain ⟨z, hz, rfl⟩ := List.mem_map.1 hx2
    rw [sub_sg σ hs.1 z (hT z hz)]
    have := hs.len (hT z hz)
    have := hlen20 z hz
    omega) (by simp))
  obtain ⟨p1, n1, q1, rfl⟩ := NdsL.shapeL hv
  obtain ⟨p2, n2, q2, rfl⟩ := NdsL.shapeL hu
  obtain ⟨hnc, hncc, hmc⟩ : n2 = (C.map Fm.enc).length ∧ n2 ≤ q2 ∧ q2 ≤ maxLen := by obtain ⟨_, _, e, h1, h2, _⟩ := hu; cases e; exact ⟨rfl, h1, h2⟩
  rw [List.length_map] at hnc
  subst hnc
  unfold maxLen at hmc
  have h8' : ¬ (8 : Int) < C.length := by omega
  have HR := hid hr; clear hr
  have HCc := hid hc; clear hc
  have HT := hid hT; clear hT
  have HL20 := hid hlen20; clear hlen20
  have hN' : ((C.length ^ vs.length : Nat) : Int) ≤ 600 := by omega
  clear hv hu hok hmr hnd hC40
  generalize plainErrs [t.enc] = E1 at *
  generalize plainErrs (C.map Fm.enc) = E2 at *
  generalize hNN : C.length ^ vs.length = N at *
  have hN6 : ¬ (600 : Int) < N := by omega
  clear hNN
  generalize tot [t.enc] = TT at *
  go_enter Tryz.func103, Tryz.ntmps103
  go_wp2_with fail
  refine H1.out.mono ?_; rintro e w2 ⟨rfl, rfl⟩
  go_wp2_with fail
  refine H2.out.mono ?_; rintro e w2 ⟨rfl, rfl⟩
  go_wp2_with fail
  refine HB.out.mono ?_; rintro e w2 ⟨rfl, rfl⟩
  go_wp2_with fail
  refine HV.out.mono ?_; rintro e w2 ⟨v2, rfl, hv2, k2⟩
  have HI2 := hid (hv2.ints (by omega))
  obtain ⟨p3, c3, rfl, _⟩ := hv2.ints (by omega)
  go_wp2_with fail
  refine (HS.out w2 k2).mono ?_; rintro e w3 ⟨rfl, rfl⟩
  go_wp2_with fail
  refine (HCN.out _ w2 k2 HI2.out).mono ?_; rintro e w3 ⟨rfl, rfl⟩
  clear H1 H2 HB HV HS
  go_wp2_with fail
  go_loopw [10] (fun i' wr => ∃ k : Nat, k ≤ N ∧ i' = .int .i64 k ∧ Hid (∀ j, j < k → testC (okU t) (pickC C vs.reverse j idF) = none) ∧ Keeps w2 wr) (fun i _ => N - (intOf i).toNat)
  case atStart => exact ⟨0, by omega, rfl, fun j h => by omega, Keeps.refl _⟩
  case round =>
    obtain ⟨k, hk, rfl, hno, kw⟩ := hrel
    have k2w := k2.trans kw
    have HCN2 := hid (HCN.out _ wr k2w (HI2.out.keeps kw))
    by_cases hlt : k < N
    · have hlt' : (k : Int) < N := by omega
      have HCH2 := hid (HCH.out k hlt _ wr k2w (HI2.out.keeps kw))
      have hs := HSM.out k
      have hfo := hid (HFO.out k hlt hno.out)
      have hnx := hid (fun (hb : (okU t) (pickC C vs.reverse k idF) = false) => (show ∀ j, j < k + 1 → testC (okU t) (pickC C vs.reverse j idF) = none from fun j hj => by
        by_cases e : j = k
        · subst e; exact testC_none.2 hb
        · exact hno.out j (by omega)))
      generalize pickC C vs.reverse k idF = σ at *
      have hs6 : (σ.map Fm.enc).length ≤ 6 := by rw [List.length_map, hs.1]; omega
      have hst : tot (σ.map Fm.enc) ≤ 1000 := by
        have := tot_most (σ.map Fm.enc) 40 (fun x hx => by obtain ⟨y, hy, rfl⟩ := List.mem_map.1 hx; exact hs.2.2 y hy)
        omega
      have hXi := HX.out σ hs
      rw [show [t.enc].map (sub (σ.map Fm.enc)) = [(sg σ t).enc] by simp [sub_sg σ hs.1 t (HT.out t (by simp))], show mostL [(sg σ t).enc] = (sg σ t).enc.length by simp [mostL]] at hXi
      have HXi := hid hXi; clear hXi
      have hokt := sg_ok hs.2.1 t (HT.out t (by simp))
      have hpk := hid (show okU t σ = (decide ((sg σ t).enc.length ≤ 20) && sqB [] (sg σ t)) from rfl)
      have hle := hs.len (HT.out t (by simp))
      have hle2 := HL20.out t (by simp)
      have hmk := hid (show tot [(sg σ t).enc] ≤ 1000 by simp [tot]; omega)
      generalize sg σ t = x at *
      generalize hPk : okU t σ = b at *
      clear hs
      go_wp2_with fail
      refine HCN2.out.mono ?_; rintro e w3 ⟨rfl, rfl⟩
      go_wp2_with fail
      refine HCH2.out.mono ?_; rintro e w3 ⟨v3, rfl, hv3, k3⟩
      have hn3 := hv3.ndsL (by omega) (by omega)
      go_wp2_with fail
      refine (HXi.out v3 w3 (k2w.trans k3) hn3).mono ?_; rintro e w4 ⟨v4, rfl, hv4, k4⟩
      have HN4 := hid (hn3.keeps k4)
      have KW := hid ((kw.trans k3).trans k4)
      clear hn3 hv3 HCN2 HCH2 HXi
      by_cases hbig : (x.enc.length) ≤ 20
      · have hb2 : ((x.enc.length : Nat) : Int) ≤ 20 := by omega
        have hpk' := hpk.out
        rw [decide_eq_true hbig, Bool.true_and] at hpk'
        clear hpk
        cases hv5 : sqB [] x with
        | true =>
          rw [hv5] at hpk'
          have hfe := hid (hfo.out hpk')
          have hL := hv4.ndsL (by simp) (by have := hmk.out; omega)
          obtain ⟨p4, n4, c4, rfl⟩ := NdsL.shapeL hL
          obtain ⟨b5, o5, u5, e, hc5, hu5⟩ := hL.get 0 (by simp)
          subst e
          rw [Nat.add_zero] at hc5
          simp only [List.getElem_cons_zero] at hu5
          obtain ⟨n4pos, hcap4⟩ : 0 < n4 ∧ n4 ≤ c4 := by obtain ⟨_, _, e, g1, _⟩ := hL; cases e; exact ⟨by simp, by simpa using g1⟩
          have HT5 := hid (l31Theorem_any x hokt hbig _ w4 hu5)
          obtain ⟨p5, n5, q5, rfl⟩ := hu5.shape
          clear hL hv4 hu5
          rw [hv5] at HT5
          clear hv5 hpk'
          go_wp2_with fail
          refine HT5.out.mono ?_; rintro e w5 ⟨rfl, k5⟩
          go_wp2_with fail
          go_ret2
          exact ⟨_, ret_two (by rw [HCc.out, hfe.out]; rfl), by rw [HR.out, hfe.out]; exact HN4.out.keeps k5, (k2.trans KW.out).trans k5⟩
        | false =>
          rw [hv5] at hpk'
          have hnxt := hid (hnx.out hpk')
          have hL := hv4.ndsL (by simp) (by have := hmk.out; omega)
          obtain ⟨p4, n4, c4, rfl⟩ := NdsL.shapeL hL
          obtain ⟨b5, o5, u5, e, hc5, hu5⟩ := hL.get 0 (by simp)
          subst e
          rw [Nat.add_zero] at hc5
          simp only [List.getElem_cons_zero] at hu5
          obtain ⟨n4pos, hcap4⟩ : 0 < n4 ∧ n4 ≤ c4 := by obtain ⟨_, _, e, g1, _⟩ := hL; cases e; exact ⟨by simp, by simpa using g1⟩
          have HT5 := hid (l31Theorem_any x hokt hbig _ w4 hu5)
          obtain ⟨p5, n5, q5, rfl⟩ := hu5.shape
          clear hL hv4 hu5
          rw [hv5] at HT5
          clear hv5 hpk'
          go_wp2_with fail
          refine HT5.out.mono ?_; rintro e w5 ⟨rfl, k5⟩
          go_wp2_with fail
          go_roundw
          case rel => exact ⟨k + 1, by omega, by go_num, hnxt.out, KW.out.trans k5⟩
          case measure => simp [intOf]; omega
      · have hb2 : ¬ ((x.enc.length : Nat) : Int) ≤ 20 := by omega
        have hnxt := hid (hnx.out (by rw [hpk.out, decide_eq_false hbig, Bool.false_and]))
        clear hpk hv4
        go_wp2_with fail
        go_roundw
        case rel => exact ⟨k + 1, by omega, by go_num, hnxt.out, KW.out⟩
        case measure => simp [intOf]; omega
    · obtain rfl : k = N := by omega
      have hlt' : ¬ (k : Int) < k := by omega
      have hlo := hid (HLO.out hno.out)
      go_wp2_with fail
      refine HCN2.out.mono ?_; rintro e w3 ⟨rfl, rfl⟩
      go_wp2_with fail
      go_ret2
      exact ⟨_, ret_two (by rw [HCc.out, hlo.out]; rfl), by rw [HR.out, hlo.out]; exact ndsL_nil _, k2w⟩

set_option maxRecDepth 20000 in
set_option maxHeartbeats 4000000 in
theorem l31Search_B (G : List Fm) (t : Fm) (hT : OkL (G ++ [t])) (hG6 : G.length ≤ 6) (htot : tot ((G ++ [t]).map Fm.enc) ≤ 20) (C : List Fm) (hC : OkL C) (hC40 : ∀ c ∈ C, c.enc.length ≤ 40) (hC8 : C.length ≤ 8) (h0 : plainErrs (((G ++ [t]).map Fm.enc) ++ C.map Fm.enc) = 0) (hN : C.length ^ (mem (vmL ((G ++ [t]).map Fm.enc))).length ≤ 600)
    (r : List (List Nd)) (c : Int) (hr : r = ((firstC (okB G t) C (mem (vmL ((G ++ [t]).map Fm.enc))) idF).getD []).map Fm.enc) (hc : c = if (firstC (okB G t) C (mem (vmL ((G ++ [t]).map Fm.enc))) idF).isSome then 0 else 4) (v u : Value) (w : World) (hv : NdsL w v ((G ++ [t]).map Fm.enc)) (hu : NdsL w u (C.map Fm.enc)) :
    Calls Tryz.prog 103 #[v, u, .bool false] w (LsE w r c) := by
  have hok : ∀ x ∈ ((G ++ [t]).map Fm.enc), x.all okNd = true := fun x hx => by
    have hx2 : x ∈ ((G ++ [t])).map Fm.enc := by simpa using hx
    obtain ⟨y, hy, rfl⟩ := List.mem_map.1 hx2
    exact List.all_eq_true.2 (okNd_enc (hT y hy).1)
  have hlen20 : ∀ y ∈ (G ++ [t]), y.enc.length ≤ 20 := fun y hy => by
    have hm : y.enc ∈ ((G ++ [t]).map Fm.enc) := by simpa using List.mem_map.2 ⟨y, hy, rfl⟩
    obtain ⟨i, hi, e⟩ := List.getElem_of_mem hm
    have := tot_mem _ i hi
    rw [e] at this
    omega
  have hT7 : ((G ++ [t])).length ≤ 7 := by simp; omega
  have H1 := hid (l31Plain_any _ v w hv)
  have H2 := hid (l31Plain_any _ u w hu)
  have hB := l31Both_two _ _ w (plainErrs_range ((G ++ [t]).map Fm.enc)) (plainErrs_range (C.map Fm.enc))
  rw [bothE_app, h0] at hB
  have HB := hid hB; clear hB h0
  have HV := hid (l06Variables_any _ v w hv hok)
  have HS := hid (fun w2 (k : Keeps w w2) => l31Size_any _ v w2 (hv.keeps k) (by omega))
  have h20' : ¬ (20 : Int) < (tot ((G ++ [t]).map Fm.enc) : Nat) := by omega
  have hml : (mem (vmL ((G ++ [t]).map Fm.enc))).length ≤ 6 := low_len _ 6
  have hmr := mem_range (vmL ((G ++ [t]).map Fm.enc))
  have hnd := mem_nodup ⟨vmL ((G ++ [t]).map Fm.enc), by have := vmL_lt hok _ (Nat.le_refl _); rwa [List.take_length] at this⟩
  simp only at hnd
  generalize mem (vmL ((G ++ [t]).map Fm.enc)) = vs at *
  have hf1 := fun k hk hn hp => firstC_found (okB G t) C vs hnd idF k hk hn hp
  have hf2 := fun hn => firstC_lost (okB G t) C vs hnd idF hn
  have HFO := hid hf1; clear hf1
  have HLO := hid hf2; clear hf2
  have HCN := hid (fun x w2 (k : Keeps w w2) (hx : Ints w2 x vs) => l31Count_any vs (C.map Fm.enc) x u w2 hx (hu.keeps k) hml (by simpa using hC8))
  rw [List.length_map, cap_small (by omega)] at HCN
  have HCH := hid (fun k (hk : k < C.length ^ vs.length) x w2 (kk : Keeps w w2) (hx : Ints w2 x vs) => l31Choice_any vs C k x u w2 hx (hu.keeps kk) hmr hml hC8 (fun h => (pow_posC hk).resolve_left (by omega)) (by omega) hC40)
  have hsm : ∀ k, Sm (pickC C vs.reverse k idF) := fun k => Sm.of (by rw [pickC_len]; rfl) hC hC40 (pickC_mem C vs.reverse k idF)
  have HSM := hid hsm; clear hsm
  have HX := hid (fun σ (hs : Sm σ) y w2 (kk : Keeps w w2) (hy : NdsL w2 y (σ.map Fm.enc)) => l31Image_any (σ.map Fm.enc) ((G ++ [t]).map Fm.enc) v y w2 (hv.keeps kk) hy hok (by simp [hs.1]) (fun x hx => by
    have hx2 : x ∈ ((G ++ [t])).map Fm.enc := by simpa using hx
    obtain ⟨z, hz, rfl⟩ := List.mem_map.1 hx2
    rw [sub_sg σ hs.1 z (hT z hz)]
    have := hs.len (hT z hz)
    have := hlen20 z hz
    omega) (by simp; omega))
  obtain ⟨p1, n1, q1, rfl⟩ := NdsL.shapeL hv
  obtain ⟨p2, n2, q2, rfl⟩ := NdsL.shapeL hu
  obtain ⟨hnc, hncc, hmc⟩ : n2 = (C.map Fm.enc).length ∧ n2 ≤ q2 ∧ q2 ≤ maxLen := by obtain ⟨_, _, e, h1, h2, _⟩ := hu; cases e; exact ⟨rfl, h1, h2⟩
  rw [List.length_map] at hnc
  subst hnc
  unfold maxLen at hmc
  have h8' : ¬ (8 : Int) < C.length := by omega
  have HR := hid hr; clear hr
  have HCc := hid hc; clear hc
  have HT := hid hT; clear hT
  have HL20 := hid hlen20; clear hlen20
  have hN' : ((C.length ^ vs.length : Nat) : Int) ≤ 600 := by omega
  clear hv hu hok hmr hnd hC40
  generalize plainErrs ((G ++ [t]).map Fm.enc) = E1 at *
  generalize plainErrs (C.map Fm.enc) = E2 at *
  generalize hNN : C.length ^ vs.length = N at *
  have hN6 : ¬ (600 : Int) < N := by omega
  clear hNN
  generalize tot ((G ++ [t]).map Fm.enc) = TT at *
  go_enter Tryz.func103, Tryz.ntmps103
  go_wp2_with fail
  refine H1.out.mono ?_; rintro e w2 ⟨rfl, rfl⟩
  go_wp2_with fail
  refine H2.out.mono ?_; rintro e w2 ⟨rfl, rfl⟩
  go_wp2_with fail
  refine HB.out.mono ?_; rintro e w2 ⟨rfl, rfl⟩
  go_wp2_with fail
  refine HV.out.mono ?_; rintro e w2 ⟨v2, rfl, hv2, k2⟩
  have HI2 := hid (hv2.ints (by omega))
  obtain ⟨p3, c3, rfl, _⟩ := hv2.ints (by omega)
  go_wp2_with fail
  refine (HS.out w2 k2).mono ?_; rintro e w3 ⟨rfl, rfl⟩
  go_wp2_with fail
  refine (HCN.out _ w2 k2 HI2.out).mono ?_; rintro e w3 ⟨rfl, rfl⟩
  clear H1 H2 HB HV HS
  go_wp2_with fail
  go_loopw [10] (fun i' wr => ∃ k : Nat, k ≤ N ∧ i' = .int .i64 k ∧ Hid (∀ j, j < k → testC (okB G t) (pickC C vs.reverse j idF) = none) ∧ Keeps w2 wr) (fun i _ => N - (intOf i).toNat)
  case atStart => exact ⟨0, by omega, rfl, fun j h => by omega, Keeps.refl _⟩
  case round =>
    obtain ⟨k, hk, rfl, hno, kw⟩ := hrel
    have k2w := k2.trans kw
    have HCN2 := hid (HCN.out _ wr k2w (HI2.out.keeps kw))
    by_cases hlt : k < N
    · have hlt' : (k : Int) < N := by omega
      have HCH2 := hid (HCH.out k hlt _ wr k2w (HI2.out.keeps kw))
      have hs := HSM.out k
      have hfo := hid (HFO.out k hlt hno.out)
      have hnx := hid (fun (hb : (okB G t) (pickC C vs.reverse k idF) = false) => (show ∀ j, j < k + 1 → testC (okB G t) (pickC C vs.reverse j idF) = none from fun j hj => by
        by_cases e : j = k
        · subst e; exact testC_none.2 hb
        · exact hno.out j (by omega)))
      generalize pickC C vs.reverse k idF = σ at *
      have hs6 : (σ.map Fm.enc).length ≤ 6 := by rw [List.length_map, hs.1]; omega
      have hst : tot (σ.map Fm.enc) ≤ 1000 := by
        have := tot_most (σ.map Fm.enc) 40 (fun x hx => by obtain ⟨y, hy, rfl⟩ := List.mem_map.1 hx; exact hs.2.2 y hy)
        omega
      have hXi := HX.out σ hs
      have hmp : ((G ++ [t]).map Fm.enc).map (sub (σ.map Fm.enc)) = (G.map (sg σ) ++ [sg σ t]).map Fm.enc := by
        rw [show G.map (sg σ) ++ [sg σ t] = (G ++ [t]).map (sg σ) by simp, List.map_map, List.map_map]
        exact List.map_congr_left fun a ha => sub_sg σ hs.1 a (HT.out a ha)
      rw [hmp] at hXi
      have HXi := hid hXi; clear hXi hmp
      have hokG : OkL (G.map (sg σ)) := fun x hx => by
        obtain ⟨y, hy, rfl⟩ := List.mem_map.1 hx
        exact sg_ok hs.2.1 y (HT.out y (by simp [hy]))
      have hokt := sg_ok hs.2.1 t (HT.out t (by simp))
      have hpk := hid (show okB G t σ = (((G.map (sg σ) ++ [sg σ t]).all fun a => decide (a.enc.length ≤ 20)) && brk (G.map (sg σ)) (sg σ t)) by
        unfold okB
        congr 1
        rw [show G.map (sg σ) ++ [sg σ t] = (G ++ [t]).map (sg σ) by simp, List.all_map]; rfl)
      have hGl : (G.map (sg σ)).length ≤ 6 := by simpa using hG6
      have hle : ∀ a ∈ G.map (sg σ) ++ [sg σ t], a.enc.length ≤ 800 := fun a ha => by
        have ha2 : a ∈ (G ++ [t]).map (sg σ) := by simpa using ha
        obtain ⟨y, hy, rfl⟩ := List.mem_map.1 ha2
        have := hs.len (HT.out y hy)
        have := HL20.out y hy
        omega
      have hmk := hid (show tot ((G.map (sg σ) ++ [sg σ t]).map Fm.enc) ≤ 10000 by
        have := tot_most ((G.map (sg σ) ++ [sg σ t]).map Fm.enc) 800 (fun x hx => by obtain ⟨y, hy, rfl⟩ := List.mem_map.1 hx; exact hle y hy)
        rw [List.length_map, List.length_append, List.length_singleton] at this
        omega)
      have hl7 : ((G.map (sg σ) ++ [sg σ t]).map Fm.enc).length ≤ 7 := by rw [List.length_map, List.length_append, List.length_singleton]; omega
      generalize G.map (sg σ) = H at *
      generalize sg σ t = x at *
      generalize hPk : okB G t σ = b at *
      have hall : (H ++ [x]).all (fun a => decide (a.enc.length ≤ 20)) = decide (mostL ((H ++ [x]).map Fm.enc) ≤ 20) := by
        rw [Bool.eq_iff_iff, decide_eq_true_eq, mostL_le, List.all_eq_true]
        constructor
        · intro h y hy
          obtain ⟨a, ha, rfl⟩ := List.mem_map.1 hy
          simpa using h a ha
        · intro h a ha
          simpa using h a.enc (List.mem_map.2 ⟨a, ha, rfl⟩)
      rw [hall] at hpk
      have hmle := hid (mostL_le ((H ++ [x]).map Fm.enc) 20)
      generalize mostL ((H ++ [x]).map Fm.enc) = mm at *
      clear hs hle hall
      go_wp2_with fail
      refine HCN2.out.mono ?_; rintro e w3 ⟨rfl, rfl⟩
      go_wp2_with fail
      refine HCH2.out.mono ?_; rintro e w3 ⟨v3, rfl, hv3, k3⟩
      have hn3 := hv3.ndsL (by omega) (by omega)
      go_wp2_with fail
      refine (HXi.out v3 w3 (k2w.trans k3) hn3).mono ?_; rintro e w4 ⟨v4, rfl, hv4, k4⟩
      have HN4 := hid (hn3.keeps k4)
      have KW := hid ((kw.trans k3).trans k4)
      clear hn3 hv3 HCN2 HCH2 HXi
      by_cases hbig : mm ≤ 20
      · have hb2 : ((mm : Nat) : Int) ≤ 20 := by omega
        have hpk' := hpk.out
        rw [decide_eq_true hbig, Bool.true_and] at hpk'
        clear hpk
        cases hv5 : brk H x with
        | true =>
          rw [hv5] at hpk'
          have hfe := hid (hfo.out hpk')
          have hl20 : ∀ a ∈ H ++ [x], a.enc.length ≤ 20 := fun a ha => hmle.out.1 hbig a.enc (List.mem_map.2 ⟨a, ha, rfl⟩)
          have hL4 : FsL w4 v4 (H ++ [x]) := hv4.ndsL (by omega) (by have := hmk.out; omega)
          have HT5 := hid (l31Breaks_any H x hokG hokt hl20 (by omega) v4 w4 hL4)
          obtain ⟨p4, n4, c4, rfl⟩ := NdsL.shapeL hL4
          clear hL4 hv4 hl20
          rw [hv5] at HT5
          clear hv5 hpk'
          go_wp2_with fail
          refine HT5.out.mono ?_; rintro e w5 ⟨rfl, k5⟩
          go_wp2_with fail
          go_ret2
          exact ⟨_, ret_two (by rw [HCc.out, hfe.out]; rfl), by rw [HR.out, hfe.out]; exact HN4.out.keeps k5, (k2.trans KW.out).trans k5⟩
        | false =>
          rw [hv5] at hpk'
          have hnxt := hid (hnx.out hpk')
          have hl20 : ∀ a ∈ H ++ [x], a.enc.length ≤ 20 := fun a ha => hmle.out.1 hbig a.enc (List.mem_map.2 ⟨a, ha, rfl⟩)
          have hL4 : FsL w4 v4 (H ++ [x]) := hv4.ndsL (by omega) (by have := hmk.out; omega)
          have HT5 := hid (l31Breaks_any H x hokG hokt hl20 (by omega) v4 w4 hL4)
          obtain ⟨p4, n4, c4, rfl⟩ := NdsL.shapeL hL4
          clear hL4 hv4 hl20
          rw [hv5] at HT5
          clear hv5 hpk'
          go_wp2_with fail
          refine HT5.out.mono ?_; rintro e w5 ⟨rfl, k5⟩
          go_wp2_with fail
          go_roundw
          case rel => exact ⟨k + 1, by omega, by go_num, hnxt.out, KW.out.trans k5⟩
          case measure => simp [intOf]; omega
      · have hb2 : ¬ ((mm : Nat) : Int) ≤ 20 := by omega
        have hnxt := hid (hnx.out (by rw [hpk.out, decide_eq_false hbig, Bool.false_and]))
        clear hpk hv4
        go_wp2_with fail
        go_roundw
        case rel => exact ⟨k + 1, by omega, by go_num, hnxt.out, KW.out⟩
        case measure => simp [intOf]; omega
    · obtain rfl : k = N := by omega
      have hlt' : ¬ (k : Int) < k := by omega
      have hlo := hid (HLO.out hno.out)
      go_wp2_with fail
      refine HCN2.out.mono ?_; rintro e w3 ⟨rfl, rfl⟩
      go_wp2_with fail
      go_ret2
      exact ⟨_, ret_two (by rw [HCc.out, hlo.out]; rfl), by rw [HR.out, hlo.out]; exact ndsL_nil _, k2w⟩

end Go.Proofs.YtpbbfoliabgkpaaGreat
/- The formulas of a rule with their own header; errors of rules and further formulas. -/
namespace Go.Proofs.YtpbbfoliabgkpaaGreat
open Go.RowKit
/-- an append onto a list of lists without spare room: the call's own header -/
theorem run_appClipO (w : World) (ty : TypeId) (p : Option Addr) (n : Nat) (xs : List (List Nd)) (u : Value) (y : List Nd) (q : Addr) (c : Nat) (hv : NdsL w (.slice p n n) xs) (hu : Nds w u y) (hat : At w (some q) [u]) (hlen : xs.length ≤ 2000000) :
    ∃ v' w', (Builtin.append_ #[35, 35] ty #[.slice p n n, .slice (some q) 1 c]).run Tryz.prog w = .ok v' w' ∧ ShL w w' v' (xs ++ [y]) ∧ Keeps w w' := by
  obtain ⟨i0, hi, hz0, hz1, hz2⟩ := info_parts infoL
  obtain ⟨vs, hvs, hrs⟩ := hv.vals
  obtain ⟨p', cap', e, hle, hmx, hlm, _⟩ := hv
  cases e
  have hl := hrs.1
  have hnews : ∀ j z, [u][j]? = some z → w.cell? (q.add j) = some z := by
    intro j z hz
    obtain ⟨hj, rfl⟩ := List.getElem?_eq_some_iff.1 hz
    obtain ⟨b, off, hp, hc⟩ := hat j hj
    cases hp
    have hadd : (⟨b, off, none⟩ : Addr).add j = ⟨b, off + j, none⟩ := by unfold Addr.add; split <;> simp_all
    rw [hadd]; exact hc
  have hrows : RowsS w (vs ++ [u]) (xs ++ [y]) := hrs.append (RowsS.one hu)
  have h1 : ∀ z ∈ [u], z.oneCell' = true := by
    intro z hz
    simp at hz; subst hz
    obtain ⟨p, n, c, e⟩ := hu.shape
    rw [e]; rfl
  cases p with
  | none =>
    have hx : vs = [] := by
      cases vs with
      | nil => rfl
      | cons z l => obtain ⟨b, off, hp, _⟩ := hvs 0 (by simp); cases hp
    subst hx
    have hx0 : xs = [] := List.eq_nil_of_length_eq_zero (by simpa using hl.symm)
    subst hx0
    obtain ⟨v', w', hr, r1, r2, _⟩ := run_append_own (P := Tryz.prog) w w.heap.size 35 ty 24 i0 _ 1 24 Tryz.underlying35 hi hz0 hz1 hz2 rfl (by decide) (.slice none 0 0) 0 [] (World.ownsRow_nil w _ _ 1) q 1 c [u] (by simp) hnews h1 (by simp [maxLen]) (by omega) (Nat.le_refl _)
    exact ⟨v', w', hr, ⟨[u], by simpa using r1, by simpa using hrows⟩, (Keeps.refl w).grown r2 (fun k hk => by simp [Value.ownBlock] at hk)⟩
  | some ad =>
    have holds : ∀ j z, vs[j]? = some z → w.cell? (ad.add j) = some z := by
      intro j z hz
      obtain ⟨hj, rfl⟩ := List.getElem?_eq_some_iff.1 hz
      obtain ⟨b, off, hp, hc⟩ := hvs j hj
      cases hp
      have hadd : (⟨b, off, none⟩ : Addr).add j = ⟨b, off + j, none⟩ := by unfold Addr.add; split <;> simp_all
      rw [hadd]; exact hc
    obtain ⟨v', w', hr, r1, r2⟩ := run_append_arg_grows (P := Tryz.prog) w 35 ty 24 i0 _ 1 24 Tryz.underlying35 hi hz0 hz1 hz2 rfl (by decide) ad xs.length xs.length vs (by simpa using hl) holds q 1 c [u] (by simp) hnews (by omega) (by unfold maxLen; omega) (by omega)
    exact ⟨v', w', hr, ⟨vs ++ [u], by simpa using r1, hrows⟩, (Keeps.refl w).grown r2 (fun k hk => by cases hk)⟩
theorem stepClipO {w : World} {ops : Array Oper} {o : Oper} {a : Act} {K : Act → World → Prop} {Q : Exit → Act → World → Prop} {E : Prop} (hgd : o.guard = none) (s x : Operand)
    (ho : o.op = .call { callee := .builtin .append, args := #[s, x], argTypes := #[35, 35] }) (p : Option Addr) (n : Nat) (xs : List (List Nd)) (hs : a.eval s = .slice p n n) (hv : NdsL w (.slice p n n) xs)
    (u : Value) (y : List Nd) (hu : Nds w u y) (q : Addr) (c : Nat) (hx : a.eval x = .slice (some q) 1 c) (hat : At w (some q) [u]) (hlen : xs.length ≤ 2000000)
    (h : ∀ v' w', ShL w w' v' (xs ++ [y]) → Keeps w w' → K (a.put o.dst v') w') : if Region.wanted o (yielded ops a.tmps) = true then Oper.wp Tryz.prog o a w K Q else E := by
  rw [if_pos (by simp [Region.wanted, hgd])]
  obtain ⟨v', w', hr, h1, h2⟩ := run_appClipO w o.type p n xs u y q c hv hu hat hlen
  unfold Oper.wp execOp
  simp only [ho, resolve, invoke, builtin, Sem.run_bind, Sem.run_pure, Result.andThen_ok, List.map_toArray, List.map_cons, List.map_nil, hs, hx, hr]
  exact h v' w' h1 h2
theorem ShL.low {w0 w1 w : World} {v : Value} {xs : List (List Nd)} (h : ShL w1 w v xs) (k : Keeps w0 w1) : ∃ vs, w.ownsRow w0.heap.size 24 1 v xs.length vs ∧ RowsS w1 vs xs := by
  obtain ⟨vs, ho, hr⟩ := h
  exact ⟨vs, own_mono ho k.size, hr⟩
--
set_option maxRecDepth 20000 in
set_option maxHeartbeats 2000000 in
theorem formulasO_any (xs : List (List Nd)) (c : List Nd) (v u : Value) (w : World) (hv : NdsL w v xs) (hu : Nds w u c) (hl : xs.length ≤ 1000000) :
    Calls Tryz.prog 80 #[.agg #[v, u]] w fun e w' => ∃ v' w1, e = .returned v' ∧ ShL w1 w' v' (xs ++ [c]) ∧ Keeps w w1 ∧ Keeps w1 w' := by
  have hv0 := hv
  obtain ⟨p, cap, rfl, hle, hmx, hlm, _⟩ := hv
  obtain ⟨pu, nu, cu, rfl⟩ := hu.shape
  have k1 := (Keeps.refl w).alloc (.cells #[.slice p xs.length cap, .slice pu nu cu] 37)
  have kl := (k1.alloc (.cells #[.slice pu nu cu] 24)).drew
  have hb0 : (w.alloc (.cells #[.slice p xs.length cap, .slice pu nu cu] 37)).drew.cell? ⟨w.heap.size, 0, none⟩ = some (.slice p xs.length cap) := by show (w.alloc _).cell? _ = _; simp
  have hb1 : (w.alloc (.cells #[.slice p xs.length cap, .slice pu nu cu] 37)).drew.cell? ⟨w.heap.size, 1, none⟩ = some (.slice pu nu cu) := by show (w.alloc _).cell? _ = _; simp
  have ka := (Keeps.refl (w.alloc (.cells #[.slice p xs.length cap, .slice pu nu cu] 37)).drew).alloc (.cells #[.slice pu nu cu] 24)
  have hc0 := ka.cell hb0
  have hc1 := ka.cell hb1
  have hvl := hv0.keeps kl
  have hclip : NdsL ((w.alloc (.cells #[.slice p xs.length cap, .slice pu nu cu] 37)).alloc (.cells #[.slice pu nu cu] 24)).drew (.slice p xs.length xs.length) xs := by
    obtain ⟨p', cap', e, h1, h2, h3, h4⟩ := hvl
    cases e
    exact ⟨p, xs.length, rfl, Nat.le_refl _, by omega, h3, h4⟩
  have hul := hu.keeps kl
  have hatl : At ((w.alloc (.cells #[.slice p xs.length cap, .slice pu nu cu] 37)).alloc (.cells #[.slice pu nu cu] 24)).drew (some ⟨w.heap.size + 1, 0, none⟩) [.slice pu nu cu] := by
    have := (At.lit1 (w.alloc (.cells #[.slice p xs.length cap, .slice pu nu cu] 37)) (.slice pu nu cu) 24).keeps (Keeps.refl _).drew
    rwa [show (w.alloc (.cells #[.slice p xs.length cap, .slice pu nu cu] 37)).heap.size = w.heap.size + 1 by simp] at this
  clear hv0 hvl hu
  go_enter Tryz.func80, Tryz.ntmps80
  go_wp2_with fail
  go_region_held3 (fun w' => w'.cell? ⟨w.heap.size, 0, none⟩ = some (.slice p xs.length cap) ∧ w'.cell? ⟨w.heap.size, 1, none⟩ = some (.slice pu nu cu)) (first | exact ⟨hb0, hb1⟩ | exact ⟨hc0, hc1⟩ | exact ⟨hd0, hd1⟩) (first
    | (go_at_call 120; refine (clip_any _ _ _ _ hle hmx).mono ?_; rintro e w' ⟨rfl, rfl⟩)
    | (refine stepClipO rfl (.tmp 5) (.tmp 8) rfl p xs.length xs rfl hclip _ c hul _ 1 rfl hatl (by omega) ?_; intro v2 w2 hv2 k2; have hd0 := k2.cell hc0; have hd1 := k2.cell hc1))
  all_goals
    go_wp2
    go_ret
    exact ⟨_, _, rfl, hv2, kl, k2⟩
--
/-- the error of a rule and further formulas -/
def ruleErrX (xs : List (List Nd)) (c : List Nd) (cs : List (List Nd)) : Int := if 6 < xs.length then 1 else plainErrs ((xs ++ [c]) ++ cs)
set_option maxRecDepth 20000 in
set_option maxHeartbeats 1000000 in
theorem ruleCode_any (xs : List (List Nd)) (c : List Nd) (cs : List (List Nd)) (v u x : Value) (w : World) (hv : NdsL w v xs) (hu : Nds w u c) (hx : NdsL w x cs) (hcl : cs.length ≤ 2000000) :
    Calls Tryz.prog 77 #[.agg #[v, u], x] w fun e w' => e = .returned (.int .i64 (ruleErrX xs c cs)) ∧ Keeps w w' := by
  have hv0 := hv
  obtain ⟨p, cap, rfl, hle, hmx, hlm, _⟩ := hv
  obtain ⟨pu, nu, cu, rfl⟩ := hu.shape
  obtain ⟨px, nx, cx, rfl⟩ := NdsL.shapeL hx
  unfold maxLen at hmx
  have kb := (Keeps.refl w).alloc (.cells #[.slice p xs.length cap, .slice pu nu cu] 37)
  by_cases h6 : 6 < xs.length
  · have hi6 : (6 : Int) < xs.length := by omega
    go_enter Tryz.func77, Tryz.ntmps77
    go_wp2_with fail
    go_ret
    exact ⟨ret_int (by rw [ruleErrX, if_pos h6]), kb⟩
  · have hi6 : ¬ (6 : Int) < xs.length := by omega
    have H6 := hid h6; clear h6
    have HO := hid (formulasO_any xs c _ _ _ (hv0.keeps kb) (hu.keeps kb) (by have := H6.out; omega))
    obtain ⟨us, hat, hus⟩ := hx.vals
    obtain rfl : nx = cs.length := by obtain ⟨_, _, e, _⟩ := hx; cases e; rfl
    clear hv0
    go_enter Tryz.func77, Tryz.ntmps77
    go_wp2_with fail
    refine HO.out.mono ?_; rintro e w2 ⟨v2, w1, rfl, hv2, k1, k2⟩
    obtain ⟨p2, c2, rfl⟩ := hv2.shape
    rw [show (xs ++ [c]).length = xs.length + 1 by simp] at hv2 ⊢
    go_wp2_with (at_builtin; refine appSh rfl _ _ rfl w1 _ (xs ++ [c]) rfl hv2 px cs.length cx us cs rfl rfl (hat.keeps ((kb.trans k1).trans k2)) (hus.keeps (kb.trans k1)) k2.size (by have := H6.out; simp; omega) ?_; intro v3 w3 hv3 hg3 hr3; have k3 : Keeps w1 w3 := k2.grown hg3 hr3)
    have hL := hv3.ndsL k3 (by have := H6.out; simp; omega)
    refine (plainCode_any _ _ _ hL).mono ?_; rintro e w4 ⟨rfl, k4⟩
    go_wp2_with fail
    go_ret
    exact ⟨ret_int (by rw [ruleErrX, if_neg H6.out]; first | rfl | simp), ((kb.trans k1).trans k3).trans k4⟩
end Go.Proofs.YtpbbfoliabgkpaaGreat
