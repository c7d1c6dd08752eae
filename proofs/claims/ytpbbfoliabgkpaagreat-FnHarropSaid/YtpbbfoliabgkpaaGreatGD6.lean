/- ProjectiveMask: both sides answer alike. -/
import Derived.Test.YtpbbfoliabgkpaaGreatGYB
import Derived.Test.YtpbbfoliabgkpaaGreatGM1
import Derived.Test.YtpbbfoliabgkpaaGreatGY9
import Derived.Test.YtpbbfoliabgkpaaGreatGM5
namespace Go.Proofs.YtpbbfoliabgkpaaGreat
open Go.RowKit
set_option maxRecDepth 20000 in
set_option maxHeartbeats 1000000 in
theorem subMasks_any (m : Nat) (hm : m < 64) (w : World) : Calls Tryz.prog 106 #[.int .i64 m] w (RetI w ((subs m).map Int.ofNat)) := by
  obtain ⟨hl0, hl64, hs0⟩ := subs_len ⟨m, hm⟩
  simp only at hl0 hl64 hs0
  have HT := hid (fun k (hk : k < 64) => subs_table ⟨m, hm⟩ ⟨k, hk⟩)
  have k0 := (Keeps.refl w).alloc (.cells #[.int .i64 0] 2)
  have hO : OwnI (w.alloc (.cells #[.int .i64 0] 2)) w.heap.size (.slice (some ⟨w.heap.size, 0, none⟩) 1 1) [0] := World.ownsRow_lit w #[.int .i64 0] 1 (Nat.le_refl _) (by simp [maxLen]) (by simp)
  have hE := hid (show OwnI (w.alloc (.cells #[.int .i64 0] 2)) w.heap.size (.slice (some ⟨w.heap.size, 0, none⟩) 1 1) (((subs m).map Int.ofNat).take 1) by
    have : ((subs m).map Int.ofNat).take 1 = [0] := by
      have h1 : (subs m)[0]? = some 0 := by
        rw [List.getElem?_eq_getElem hl0]
        congr 1
        have := hs0
        simp [sOf, List.getD_eq_getElem?_getD, hl0] at this
        exact this
      cases hsub : subs m with
      | nil => rw [hsub] at hl0; simp at hl0
      | cons x xs => rw [hsub] at h1; simp at h1; simp [h1]
    rw [this]; exact hO)
  have HTk := hid (fun k (h : k < (subs m).length) => (show ((subs m).map Int.ofNat).take (k + 1) = ((subs m).map Int.ofNat).take k ++ [((sOf m k : Nat) : Int)] by
    rw [List.take_succ_eq_append_getElem (by simpa using h)]
    simp [sOf, List.getD_eq_getElem?_getD, h]))
  have HLt := hid (fun k (h : k + 1 < (subs m).length) => (show sOf m k < sOf m (k + 1) by
    have := subs_lt (m := m) (i := k) (j := k + 1) (by omega) h
    simpa [sOf, List.getD_eq_getElem?_getD, h, show k < (subs m).length by omega] using this))
  have HAll := hid (show ((subs m).map Int.ofNat).take (subs m).length = (subs m).map Int.ofNat by rw [List.take_of_length_le (by simp)])
  have HS0 := hid hs0
  clear hs0 hO
  generalize hln : (subs m).length = ln at *
  clear hln
  go_enter Tryz.func106, Tryz.ntmps106
  go_wp2
  go_loopw [3, 4] (fun r i' wr => ∃ (k : Nat) (s : Nat), k < ln ∧ s = sOf m k ∧ s < 64 ∧ i' = .int .i64 s ∧ OwnI wr w.heap.size r (((subs m).map Int.ofNat).take (k + 1)) ∧ Keeps w wr) (fun _ i' _ => 64 - (intOf i').toNat)
  case atStart => exact ⟨0, 0, hl0, HS0.out.symm, by omega, rfl, hE.out, k0⟩
  case round =>
    obtain ⟨k, s, hk, hs, hs64, rfl, hown, kw⟩ := hrel
    have HSk := hid hs; clear hs
    have hlen : (((subs m).map Int.ofNat).take (k + 1)).length ≤ 64 := by rw [List.length_take]; omega
    by_cases hlt : k + 1 < ln
    · obtain ⟨hne, hnx⟩ := (HT.out k (by omega)).1 hlt
      obtain ⟨s', hs'⟩ : ∃ s', s' = sOf m (k + 1) := ⟨_, rfl⟩
      have hs64' : s' < 64 := by
        have := (HT.out (k + 1) (by omega)).2.2
        rw [hs']; exact this
      have hinc : s < s' := by rw [HSk.out, hs']; exact HLt.out k hlt
      rw [← HSk.out] at hne hnx
      rw [← hs'] at hnx
      have hne' : ((s : Int) == (m : Int)) = false := hne
      have HX := hid hs'; clear hs' hne
      have hsz := kw.size
      have HNX := hid hnx
      go_wp2_with (at_builtin; refine appI rfl (.tmp 14) (.tmp 16) rfl w.heap.size _ (((subs m).map Int.ofNat).take (k + 1)) rfl (hown.keeps ((Keeps.refl wr).alloc _)) _ [(s' : Int)] rfl (Ints.lit1 wr _) (by simp; omega) (by simp at hlen ⊢; omega) ?_; intro v3 w3 hv3 hg3 hr3; have k3 := (kw.alloc (.cells #[.int .i64 s'] 2)).grown hg3 (fun q hq => hr3 q hq))
      go_roundw
      case rel => exact ⟨k + 1, s', hlt, HX.out, hs64', rfl, by rw [HTk.out (k + 1) hlt, ← HX.out]; exact hv3, k3⟩
      case measure => simp [intOf]; omega
    · have hkl : k + 1 = ln := by omega
      have hsm : s = m := by rw [HSk.out]; exact (HT.out k (by omega)).2.1 hkl
      subst hsm
      rw [hkl, HAll.out] at hown
      go_wp2
      go_ret
      exact ⟨_, rfl, hown, kw⟩
end Go.Proofs.YtpbbfoliabgkpaaGreat
/- ProjectiveMask: both sides answer alike. -/
namespace Go.Proofs.YtpbbfoliabgkpaaGreat
open Go.RowKit
def smCode (a : List Nd) : Int := if plainErr a = 0 then (if 20 < a.length then 3 else 0) else plainErr a
set_option maxRecDepth 20000 in
set_option maxHeartbeats 1000000 in
theorem smallFormulasCode_one (a : List Nd) (hl : a.length ≤ 1048576) (v : Value) (w : World) (hv : NdsL w v [a]) :
    Calls Tryz.prog 96 #[v] w fun e w' => e = .returned (.int .i64 (smCode a)) ∧ Keeps w w' := by
  obtain ⟨p, n, cap, rfl⟩ := NdsL.shapeL hv
  have h1 := plainCode_any [a] _ _ hv
  rw [plainErrs_one] at h1
  have hft := fl_tot [a]
  have ht1 : tot [a] = a.length := by simp [tot]
  have HC := hid (fun w2 (k : Keeps w w2) => concatN_any [a] _ w2 (NdsL.keeps hv k) (by rw [fl_tot, ht1]; omega))
  have HL := hid (hft.trans ht1)
  by_cases h : plainErr a = 0
  · rw [h] at h1
    have H1 := hid h1
    have hsm : smCode a = if 20 < a.length then 3 else 0 := by unfold smCode; rw [if_pos h]
    rw [hsm]
    clear h h1 hft ht1 hv hsm
    go_enter Tryz.func96, Tryz.ntmps96
    go_wp2_with fail
    refine H1.out.mono ?_; rintro e w2 ⟨rfl, k2⟩
    go_wp2_with fail
    refine (HC.out w2 k2).mono ?_; rintro e w3 ⟨v3, rfl, hv3, k3⟩
    obtain ⟨p3, c3, rfl, hc3, _⟩ := At.of_own hv3
    have hlen3 := HL.out
    generalize (fl [a] [a].length).length = m3 at *
    by_cases h20 : 20 < a.length
    · have h20' : (20 : Int) < m3 := by omega
      clear hlen3
      go_wp2_with fail
      go_ret
      exact ⟨ret_int rfl, k2.trans k3⟩
    · have h20' : ¬ (20 : Int) < m3 := by omega
      clear hlen3
      go_wp2_with fail
      go_ret
      exact ⟨ret_int rfl, k2.trans k3⟩
  · have hne : (plainErr a != 0) = true := by simp [h]
    have hsm : smCode a = plainErr a := by unfold smCode; rw [if_neg h]
    rw [hsm]
    have H1 := hid h1
    clear h h1 hft ht1 hv hsm HC
    go_enter Tryz.func96, Tryz.ntmps96
    go_wp2_with fail
    refine H1.out.mono ?_; rintro e w2 ⟨rfl, k2⟩
    go_wp2_with fail
    go_ret
    exact ⟨rfl, k2⟩
open scoped Classical in
/-- a mask by which a formula is projective -/
noncomputable def PB (t : Fm) (k : Nat) : Bool := decide (∃ u : Fm, sub (liftL t.enc k) t.enc = u.enc ∧ u.enc.length ≤ 28 ∧ Sq [] u)
open scoped Classical in
theorem PB_eq {t u : Fm} {k : Nat} (h : sub (liftL t.enc k) t.enc = u.enc) : PB t k = (decide (u.enc.length ≤ 28) && sqB [] u) := by
  unfold PB
  rw [Bool.eq_iff_iff, decide_eq_true_iff, Bool.and_eq_true, decide_eq_true_iff, sqB_iff]
  constructor
  · rintro ⟨x, h1, h2, h3⟩
    have : x = u := enc_inj (h1.symm.trans h)
    subst this
    exact ⟨h2, h3⟩
  · exact fun h2 => ⟨u, h, h2.1, h2.2⟩
theorem least (Q : Nat → Bool) : ∀ n, ∃ b, b ≤ n ∧ (∀ k, k < b → Q k = false) ∧ (b < n → Q b = true)
  | 0 => ⟨0, Nat.le_refl _, fun k h => by omega, fun h => by omega⟩
  | n + 1 => by
    obtain ⟨b, h1, h2, h3⟩ := least Q n
    by_cases hb : b < n
    · exact ⟨b, by omega, h2, fun _ => h3 hb⟩
    · have e : b = n := by omega
      subst e
      cases hq : Q b
      · exact ⟨b + 1, Nat.le_refl _, fun k hk => by
          by_cases e : k = b
          · rw [e]; exact hq
          · exact h2 k (by omega), fun h => by omega⟩
      · exact ⟨b, by omega, h2, fun _ => hq⟩
/-- the least mask, if there is one -/
def Best (t : Fm) (m b : Nat) : Prop := b ≤ 64 ∧ (∀ k, k < b → k &&& m = k → PB t k = false) ∧ (b < 64 → b &&& m = b ∧ PB t b = true)
theorem best_ex (t : Fm) (m : Nat) : ∃ b, Best t m b := by
  obtain ⟨b, h1, h2, h3⟩ := least (fun k => decide (k &&& m = k) && PB t k) 64
  refine ⟨b, h1, fun k hk hs => ?_, fun hb => ?_⟩
  · have := h2 k hk
    simpa [hs] using this
  · have := h3 hb
    simpa using this
theorem ret_ii {a b c d : Int} (h : a = c) (h' : b = d) : Ending.returned (.tuple #[.int .i64 a, .int .i64 b]) = Ending.returned (.tuple #[.int .i64 c, .int .i64 d]) := by rw [h, h']
def pmX (b : Nat) : Int := if b < 64 then b else 0
def pmC (b : Nat) : Int := if b < 64 then 0 else 4
set_option maxRecDepth 20000 in
set_option maxHeartbeats 2000000 in
theorem implPM_ok (t : Fm) (ht : OkF t) (hl : t.enc.length ≤ 20) (he : plainErr t.enc = 0) (b : Nat) (hb : Best t (vm t.enc) b) (v : Value) (w : World) (hv : Nds w v t.enc) :
    Calls Tryz.prog 27 #[v] w fun e w' => e = .returned (.tuple #[.int .i64 (pmX b), .int .i64 (pmC b)]) ∧ Keeps w w' := by
  obtain ⟨p, n, cap, rfl⟩ := hv.shape
  have hnd := fm_nodes he
  have hm64 : vm t.enc < 64 := by have := vm_lt hnd t.enc.length (Nat.le_refl _); rwa [List.take_length] at this
  have h1 := smallFormulasCode_one t.enc (by omega) _ _ (NdsL.lit1 hv)
  rw [show smCode t.enc = 0 by unfold smCode; rw [if_pos he, if_neg (by omega)]] at h1
  have H1 := hid h1
  have k1 := (Keeps.refl w).alloc (.cells #[.slice p n cap] 24)
  have HV := hid (fun w2 (k : Keeps w w2) => variableMask_any t.enc _ w2 (hv.keeps k) hnd)
  have HM := hid (fun w2 => subMasks_any (vm t.enc) hm64 w2)
  have HLf := hid (fun s (hs : s < 64) w2 (k : Keeps w w2) => lifted_any t.enc s _ w2 (hv.keeps k) hnd (by omega) hs)
  have HSb := hid (fun s vi w2 (k : Keeps w w2) (hvi : NdsL w2 vi (liftL t.enc s)) => substitute_any (liftL t.enc s) t.enc _ vi w2 (hv.keeps k) hvi hnd (lift_trees t ht s).1 (by
    have h1 := sub_len (M := 22) (fun x hx => Nat.le_trans (lift_len t s x hx) (by omega)) (by omega) t.enc
    have h3 : 22 * t.enc.length ≤ 22 * 20 := Nat.mul_le_mul_left _ hl
    omega))
  have HLL := hid (fun s => (show tot (liftL t.enc s) ≤ 2147483648 ∧ (liftL t.enc s).length ≤ 2147483648 by
    have h1 := tot_most (liftL t.enc s) 22 (fun x hx => Nat.le_trans (lift_len t s x hx) (by omega))
    have h2 := (lift_trees t ht s).1
    omega))
  have HSL := hid (fun s => (show (sub (liftL t.enc s) t.enc).length ≤ 440 by
    have h1 := sub_len (M := 22) (fun x hx => Nat.le_trans (lift_len t s x hx) (by omega)) (by omega) t.enc
    have h3 : 22 * t.enc.length ≤ 22 * 20 := Nat.mul_le_mul_left _ hl
    omega))
  have HTr := hid (fun s => sub_trees (lift_trees t ht s) t ht)
  generalize hvm : vm t.enc = m at *
  have HBt := hid hb
  have hmem : ∀ j (h : j < (subs m).length), (subs m)[j] < 64 ∧ (subs m)[j] &&& m = (subs m)[j] := fun j h => subs_mem.1 (List.getElem_mem h)
  have HMem := hid hmem
  clear h1 hv he hb hnd hmem hvm
  go_enter Tryz.func27, Tryz.ntmps27
  go_wp2_with fail
  refine H1.out.mono ?_; rintro e w2 ⟨rfl, k2⟩
  go_wp2_with fail
  refine (HV.out w2 (k1.trans k2)).mono ?_; rintro e w3 ⟨rfl, k3⟩
  go_wp2_with fail
  refine (HM.out w3).mono ?_; rintro e w4 ⟨v4, rfl, hv4, k4⟩
  have k04 := ((k1.trans k2).trans k3).trans k4
  obtain ⟨pm, cm, rfl, hlm, hcm, hat⟩ := At.of_own hv4
  obtain ⟨ln, hln⟩ : ∃ ln, ln = (subs m).length := ⟨_, rfl⟩
  have hml : ((subs m).map Int.ofNat).length = ln := by simp [hln]
  rw [hml] at hlm ⊢
  have hlb : ln ≤ 64 := by rw [hln]; exact (subs_len ⟨m, hm64⟩).2.1
  unfold maxLen at hcm
  have HAT := hid hat
  have HLN := hid hln
  clear hat hv4 hln hml
  go_wp2_with fail
  go_loopw [18] (fun i' wr => ∃ j : Nat, j ≤ ln ∧ i' = .int .i64 j ∧ Keeps w4 wr ∧ Hid (∀ i (h : i < (subs m).length), i < j → (subs m)[i] ≠ b)) (fun i' _ => ln - (intOf i').toNat)
  case atStart => exact ⟨0, by omega, rfl, Keeps.refl _, hid (fun i h hi => by omega)⟩
  case round =>
    obtain ⟨j, hj, rfl, kr, hno⟩ := hrel
    by_cases hlt : j < ln
    · have hlt' : (j : Int) < ln := by omega
      have hjs : j < (subs m).length := by have := HLN.out; omega
      obtain ⟨b0, off, rfl, hc⟩ := HAT.out.int j (by simpa using hjs)
      replace hc := kr.cell hc
      obtain ⟨s, hs⟩ : ∃ s, s = (subs m)[j] := ⟨_, rfl⟩
      have hcs : (((subs m).map Int.ofNat)[j]'(by simpa using hjs)) = (s : Int) := by simp [hs]
      rw [hcs] at hc
      obtain ⟨hs64, hsm⟩ := HMem.out j hjs
      rw [← hs] at hs64 hsm
      obtain ⟨u, hu, hok⟩ := HTr.out s
      have hPB := PB_eq hu
      have kwr := k04.trans kr
      have HSs := hid hs
      have HSU := hid (show u.enc.length ≤ 440 by rw [← hu]; exact HSL.out s)
      have hsb := HSb.out s
      rw [hu] at hsb
      have HSB := hid hsb
      have hlf := hid (HLf.out s hs64 wr kwr)
      clear hs hsb hcs
      -- what the mask is
      have hcase : (u.enc.length ≤ 28 ∧ sqB [] u = true ∧ s = b) ∨ ((¬ u.enc.length ≤ 28 ∨ sqB [] u = false) ∧ s ≠ b) := by
        obtain ⟨hb1, hb2, hb3⟩ := HBt.out
        by_cases e : s = b
        · left
          subst e
          have h2 := (hb3 hs64).2
          rw [hPB, Bool.and_eq_true, decide_eq_true_iff] at h2
          exact ⟨h2.1, h2.2, rfl⟩
        · right
          refine ⟨?_, e⟩
          have hlt2 : s < b := by
            rcases Nat.lt_or_ge s b with h | h
            · exact h
            · exfalso
              have hb64 : b < 64 := by omega
              obtain ⟨i, hi, e2⟩ := List.getElem_of_mem (subs_mem.2 ⟨hb64, (hb3 hb64).1⟩)
              rcases Nat.lt_or_ge i j with h3 | h3
              · exact hno.out i hi h3 e2
              · rcases Nat.lt_or_ge j i with h4 | h4
                · have := subs_lt h4 hi
                  rw [← HSs.out, e2] at this
                  omega
                · have : i = j := by omega
                  subst this
                  exact e (HSs.out.trans e2)
          have h2 := hb2 s hlt2 hsm
          rw [hPB, Bool.and_eq_false_iff, decide_eq_false_iff_not] at h2
          exact h2
      have HCase := hid hcase
      clear hcase hPB hu hsm
      go_wp2_with fail
      refine hlf.out.mono ?_; rintro e w5 ⟨v5, rfl, hv5, k5⟩
      have hL5 := hv5.ndsL (HLL.out s).2 (HLL.out s).1
      obtain ⟨p5, n5, c5, rfl⟩ := NdsL.shapeL hL5
      have hsub := hid (HSB.out _ w5 (kwr.trans k5) hL5)
      clear hv5 hL5
      go_wp2_with fail
      refine hsub.out.mono ?_; rintro e w6 ⟨v6, rfl, hv6, k6⟩
      have hn6 := hv6.nds (by have := HSU.out; omega)
      obtain ⟨p6, n6, c6, rfl⟩ := hn6.shape
      have hn6l := hn6.lenIs
      have kw6 := (kwr.trans k5).trans k6
      have kr6 := (kr.trans k5).trans k6
      have HN6 := hid hn6
      have HNL := hid hn6l
      clear hn6 hv6 hn6l
      by_cases h28 : u.enc.length ≤ 28
      · have h28' : (n6 : Int) ≤ 28 := by have := HNL.out; omega
        have HT := hid (isTheorem_28 u hok h28 _ w6 HN6.out)
        rcases HCase.out with ⟨_, hs2, hsb2⟩ | ⟨hs2, hsb2⟩
        · rw [hs2] at HT
          clear hs2
          have hx : pmX b = s ∧ pmC b = 0 := by rw [← hsb2]; simp [pmX, pmC, hs64]
          have HXb := hid hx
          clear hx hsb2
          go_wp2_with fail
          refine HT.out.mono ?_; rintro e w7 ⟨rfl, k7⟩
          go_wp2_with fail
          go_ret2
          exact ⟨ret_ii HXb.out.1.symm HXb.out.2.symm, kw6.trans k7⟩
        · have hs3 : sqB [] u = false := hs2.resolve_left (fun h => h h28)
          rw [hs3] at HT
          clear hs3 hs2
          have HNe := hid hsb2
          clear hsb2
          go_wp2_with fail
          refine HT.out.mono ?_; rintro e w7 ⟨rfl, k7⟩
          go_wp2
          go_roundw
          case rel =>
            refine ⟨j + 1, by omega, by go_num, kr6.trans k7, hid (fun i h hi => ?_)⟩
            by_cases e : i = j
            · subst e; rw [← HSs.out]; exact HNe.out
            · exact hno.out i h (by omega)
          case measure => simp [intOf]; omega
      · have h28' : ¬ (n6 : Int) ≤ 28 := by have := HNL.out; omega
        have hne : s ≠ b := by
          rcases HCase.out with ⟨h, _⟩ | ⟨_, h⟩
          · exact absurd h h28
          · exact h
        have HNe := hid hne
        clear hne
        go_wp2
        go_roundw
        case rel =>
          refine ⟨j + 1, by omega, by go_num, kr6, hid (fun i h hi => ?_)⟩
          by_cases e : i = j
          · subst e; rw [← HSs.out]; exact HNe.out
          · exact hno.out i h (by omega)
        case measure => simp [intOf]; omega
    · have hj2 : j = ln := by omega
      have hlt' : ¬ ((j : Int) < ln) := by omega
      have hb64 : ¬ b < 64 := fun h => by
        obtain ⟨i, hi, e2⟩ := List.getElem_of_mem (subs_mem.2 ⟨h, (HBt.out.2.2 h).1⟩)
        exact hno.out i hi (by have := HLN.out; omega) e2
      have hx : pmX b = 0 ∧ pmC b = 4 := by simp [pmX, pmC, hb64]
      have HXb := hid hx
      clear hx hj2 hb64
      go_wp2
      go_ret2
      exact ⟨ret_ii HXb.out.1.symm HXb.out.2.symm, k04.trans kr⟩
end Go.Proofs.YtpbbfoliabgkpaaGreat
/- ProjectiveMask: the reference's side, and both together. -/
namespace Go.Proofs.YtpbbfoliabgkpaaGreat
open Go.RowKit
set_option maxRecDepth 20000 in
set_option maxHeartbeats 4000000 in
theorem specPM_ok (t : Fm) (ht : OkF t) (hl : t.enc.length ≤ 20) (he : plainErr t.enc = 0) (b : Nat) (hb : Best t (vm t.enc) b) (v : Value) (w : World) (hv : Nds w v t.enc) :
    Calls Tryz.prog 28 #[v] w fun e w' => e = .returned (.tuple #[.int .i64 (pmX b), .int .i64 (pmC b)]) ∧ Keeps w w' := by
  obtain ⟨p, n, cap, rfl⟩ := hv.shape
  have hnl := hv.lenIs
  have hn20 : ¬ (20 : Int) < n := by omega
  have hn1 : n ≤ 1000 := by omega
  clear hnl
  have hnd := fm_nodes he
  have hm64 : vm t.enc < 64 := by have := vm_lt hnd t.enc.length (Nat.le_refl _); rwa [List.take_length] at this
  have h1 := l31Plain_any [t.enc] _ _ (NdsL.lit1 hv)
  rw [plainErrs_one, he] at h1
  have H1 := hid h1
  have k1 := (Keeps.refl w).alloc (.cells #[.slice p n cap] 24)
  have HV := hid (fun w2 (k : Keeps w w2) => l02Variables_any t.enc _ w2 (hv.keeps k) hnd)
  have HLf := hid (fun s (hs : s < 64) w2 (k : Keeps w w2) => l31Lift_any t.enc s _ w2 (hv.keeps k) hnd (by omega) hs)
  have HSb := hid (fun s vi w2 (k : Keeps w w2) (hvi : NdsL w2 vi (liftL t.enc s)) => l03Sub_any (liftL t.enc s) t.enc _ vi w2 (hv.keeps k) hvi hnd (lift_trees t ht s).1 (by
    have h1 := sub_len (M := 22) (fun x hx => Nat.le_trans (lift_len t s x hx) (by omega)) (by omega) t.enc
    have h3 : 22 * t.enc.length ≤ 22 * 20 := Nat.mul_le_mul_left _ hl
    omega))
  have HLL := hid (fun s => (show tot (liftL t.enc s) ≤ 2147483648 ∧ (liftL t.enc s).length ≤ 2147483648 by
    have h1 := tot_most (liftL t.enc s) 22 (fun x hx => Nat.le_trans (lift_len t s x hx) (by omega))
    have h2 := (lift_trees t ht s).1
    omega))
  have HSL := hid (fun s => (show (sub (liftL t.enc s) t.enc).length ≤ 440 by
    have h1 := sub_len (M := 22) (fun x hx => Nat.le_trans (lift_len t s x hx) (by omega)) (by omega) t.enc
    have h3 : 22 * t.enc.length ≤ 22 * 20 := Nat.mul_le_mul_left _ hl
    omega))
  have HTr := hid (fun s => sub_trees (lift_trees t ht s) t ht)
  generalize hvm : vm t.enc = m at *
  have HBt := hid hb
  have HOr := hid (orL_table ⟨m, hm64⟩)
  have HAn := hid (fun k (hk : k < 64) => andNot_table ⟨k, hk⟩ ⟨m, hm64⟩)
  have hmr := hid (mem_range m)
  have hml6 : (mem m).length ≤ 6 := low_len m 6
  clear h1 hv he hb hnd hvm
  go_enter Tryz.func28, Tryz.ntmps28
  go_wp2_with fail
  refine H1.out.mono ?_; rintro e w2 ⟨rfl, rfl⟩
  go_wp2_with fail
  refine (HV.out _ k1).mono ?_; rintro e w3 ⟨v3, rfl, hv3, k3⟩
  have k03 := k1.trans k3
  obtain ⟨pm, cm, rfl, hlm, hcm, hat⟩ := At.of_own hv3
  obtain ⟨ln, hln⟩ : ∃ ln, ln = (mem m).length := ⟨_, rfl⟩
  rw [← hln] at hlm ⊢
  unfold maxLen at hcm
  have hlb : ln ≤ 6 := by omega
  have HAT := hid hat
  have HLN := hid hln
  clear hat hv3 hln hml6
  go_wp2_with fail
  go_loopw [5, 7] (fun acc i' wr => ∃ j : Nat, j ≤ ln ∧ i' = .int .i64 j ∧ (∃ x : Int, acc = .int .i64 x ∧ Hid (x = orL ((mem m).take j))) ∧ wr = w3) (fun _ i' _ => ln - (intOf i').toNat)
  case atStart => exact ⟨0, by omega, rfl, ⟨0, rfl, hid (by simp [orL])⟩, rfl⟩
  case round =>
    obtain ⟨j, hj, rfl, ⟨x, rfl, hx⟩, hwr⟩ := hrel
    replace hwr := hwr.symm
    subst hwr
    by_cases hlt : j < ln
    · have hlt' : (j : Int) < ln := by omega
      have hjs : j < (mem m).length := by have := HLN.out; omega
      obtain ⟨b0, off, rfl, hc⟩ := HAT.out.int j hjs
      obtain ⟨y, hy, hy2⟩ := hmr.out (mem m)[j] (List.getElem_mem hjs)
      rw [hy2] at hc
      have HO := hid (l01One_any (y : Int) w3 (by omega) (by omega))
      have hsn := hid (show orL ((mem m).take (j + 1)) = bits .or .i64 x (2 ^ ((y : Int)).toNat) by
        rw [List.take_succ_eq_append_getElem hjs, orL_snoc, hx.out, hy2])
      clear hy2
      go_wp2_with fail
      refine HO.out.mono ?_; rintro e w4 ⟨rfl, rfl⟩
      go_wp2
      go_roundw
      case rel => exact ⟨j + 1, by omega, by go_num, ⟨_, rfl, hid hsn.out.symm⟩, trivial⟩
      case measure => simp [intOf]; omega
    · have hj2 : j = ln := by omega
      have hlt' : ¬ ((j : Int) < ln) := by omega
      have hxm : x = (m : Int) := by
        rw [hx.out, hj2, HLN.out, List.take_length]
        exact HOr.out
      subst hxm
      clear hx hj2
      go_wp2_with fail
      go_loopw [8] (fun i' w5 => ∃ k : Nat, k ≤ m + 1 ∧ i' = .int .i64 k ∧ Keeps w3 w5 ∧ k ≤ b) (fun i' _ => m + 1 - (intOf i').toNat)
      case atStart => exact ⟨0, by omega, rfl, Keeps.refl _, by omega⟩
      case round =>
        obtain ⟨k, hk, rfl, kr, hkb⟩ := hrel
        by_cases hkm : k ≤ m
        · have hkm' : (k : Int) ≤ m := by omega
          have hk64 : k < 64 := by omega
          have han := HAn.out k hk64
          by_cases hsub : k &&& m = k
          · rw [decide_eq_true hsub] at han
            have HAN := hid han
            have han' : (bits .andNot .i64 (k : Int) (m : Int) != 0) = false := by rw [HAN.out]; rfl
            obtain ⟨u, hu, hok⟩ := HTr.out k
            have hPB := PB_eq hu
            have kwr := k03.trans kr
            have HSU := hid (show u.enc.length ≤ 440 by rw [← hu]; exact HSL.out k)
            have hsb := HSb.out k
            rw [hu] at hsb
            have HSB := hid hsb
            have hlf := hid (HLf.out k hk64 wr kwr)
            have hcase : (u.enc.length ≤ 28 ∧ sqB [] u = true ∧ k = b) ∨ ((¬ u.enc.length ≤ 28 ∨ sqB [] u = false) ∧ k + 1 ≤ b) := by
              obtain ⟨hb1, hb2, hb3⟩ := HBt.out
              by_cases e : k = b
              · left
                subst e
                have h2 := (hb3 hk64).2
                rw [hPB, Bool.and_eq_true, decide_eq_true_iff] at h2
                exact ⟨h2.1, h2.2, rfl⟩
              · right
                have h2 := hb2 k (by omega) hsub
                rw [hPB, Bool.and_eq_false_iff, decide_eq_false_iff_not] at h2
                exact ⟨h2, by omega⟩
            have HCase := hid hcase
            clear hcase hPB hu hsb han hsub
            go_wp2_with fail
            refine hlf.out.mono ?_; rintro e w6 ⟨v6, rfl, hv6, k6⟩
            have hL6 := hv6.ndsL (HLL.out k).2 (HLL.out k).1
            obtain ⟨p6, n6, c6, rfl⟩ := NdsL.shapeL hL6
            have hsub := hid (HSB.out _ w6 (kwr.trans k6) hL6)
            clear hv6 hL6
            go_wp2_with fail
            refine hsub.out.mono ?_; rintro e w7 ⟨v7, rfl, hv7, k7⟩
            have hn7 := hv7.nds (by have := HSU.out; omega)
            obtain ⟨p7, n7, c7, rfl⟩ := hn7.shape
            have hn7l := hn7.lenIs
            have kw7 := (kwr.trans k6).trans k7
            have kr7 := (kr.trans k6).trans k7
            have HN7 := hid hn7
            have HNL := hid hn7l
            clear hn7 hv7 hn7l
            by_cases h28 : u.enc.length ≤ 28
            · have h28' : (n7 : Int) ≤ 28 := by have := HNL.out; omega
              have HT := hid (l31Theorem_28 u hok h28 _ w7 HN7.out)
              rcases HCase.out with ⟨_, hs2, hsb2⟩ | ⟨hs2, hsb2⟩
              · rw [hs2] at HT
                clear hs2
                have hx : pmX b = k ∧ pmC b = 0 := by rw [← hsb2]; simp [pmX, pmC, hk64]
                have HXb := hid hx
                clear hx hsb2
                go_wp2_with fail
                refine HT.out.mono ?_; rintro e w8 ⟨rfl, k8⟩
                go_wp2_with fail
                go_ret2
                exact ⟨ret_ii HXb.out.1.symm HXb.out.2.symm, kw7.trans k8⟩
              · have hs3 : sqB [] u = false := hs2.resolve_left (fun h => h h28)
                rw [hs3] at HT
                clear hs3 hs2
                go_wp2_with fail
                refine HT.out.mono ?_; rintro e w8 ⟨rfl, k8⟩
                go_wp2
                go_roundw
                case rel => exact ⟨k + 1, by omega, by go_num, kr7.trans k8, hsb2⟩
                case measure => simp [intOf]; omega
            · have h28' : ¬ (n7 : Int) ≤ 28 := by have := HNL.out; omega
              have hne : k + 1 ≤ b := by
                rcases HCase.out with ⟨h, _⟩ | ⟨_, h⟩
                · exact absurd h h28
                · exact h
              go_wp2
              go_roundw
              case rel => exact ⟨k + 1, by omega, by go_num, kr7, hne⟩
              case measure => simp [intOf]; omega
          · rw [decide_eq_false hsub] at han
            have HAN := hid han
            have han' : (bits .andNot .i64 (k : Int) (m : Int) != 0) = true := by rw [HAN.out]; rfl
            have hne : k + 1 ≤ b := by
              by_cases e : k = b
              · exfalso
                subst e
                exact hsub (HBt.out.2.2 hk64).1
              · omega
            clear han hsub
            go_wp2
            go_roundw
            case rel => exact ⟨k + 1, by omega, by go_num, kr, hne⟩
            case measure => simp [intOf]; omega
        · have hkm' : ¬ ((k : Int) ≤ m) := by omega
          have hb64 : ¬ b < 64 := fun h => by
            have h1 := (HBt.out.2.2 h).1
            have h2 : b ≤ m := by rw [← h1]; exact Nat.and_le_right
            omega
          have hx : pmX b = 0 ∧ pmC b = 4 := by simp [pmX, pmC, hb64]
          have HXb := hid hx
          clear hx hb64
          go_wp2
          go_ret2
          exact ⟨ret_ii HXb.out.1.symm HXb.out.2.symm, k03.trans kr⟩
/-- both sides answer x and c -/
def BothInt (S I : FuncId) (a : List Nd) (x c : Int) : Prop :=
  (∀ (v : Value) (w : World), Nds w v a → Calls Tryz.prog S #[v] w (fun e w' => e = .returned (.tuple #[.int .i64 x, .int .i64 c]) ∧ Keeps w w')) ∧
  (∀ (v : Value) (w : World), Nds w v a → Calls Tryz.prog I #[v] w (fun e w' => e = .returned (.tuple #[.int .i64 x, .int .i64 c]) ∧ Keeps w w'))
set_option maxRecDepth 20000 in
set_option maxHeartbeats 1000000 in
theorem bothPM (a : List Nd) (hla : a.length ≤ 1048576) : ∃ x c, BothInt 28 27 a x c := by
  by_cases h : plainErr a = 0
  · obtain ⟨t, hw, rfl, hp, _⟩ := plain_tree h
    by_cases h20 : 20 < t.enc.length
    · refine ⟨0, 3, fun v w hv => ?_, fun v w hv => ?_⟩
      · obtain ⟨p, n, cap, rfl⟩ := hv.shape
        have hnl := hv.lenIs
        have hn20 : (20 : Int) < n := by omega
        have hn1 : n ≤ 1048576 := by omega
        have h1 := l31Plain_any [t.enc] _ _ (NdsL.lit1 hv)
        rw [plainErrs_one, h] at h1
        have H1 := hid h1
        have k1 := (Keeps.refl w).alloc (.cells #[.slice p n cap] 24)
        clear hnl h1 hv h
        go_enter Tryz.func28, Tryz.ntmps28
        go_wp2_with fail
        refine H1.out.mono ?_; rintro e w2 ⟨rfl, rfl⟩
        go_wp2_with fail
        go_ret2
        exact ⟨rfl, k1⟩
      · obtain ⟨p, n, cap, rfl⟩ := hv.shape
        have h1 := smallFormulasCode_one t.enc hla _ _ (NdsL.lit1 hv)
        rw [show smCode t.enc = 3 by unfold smCode; rw [if_pos h, if_pos h20]] at h1
        have H1 := hid h1
        have k1 := (Keeps.refl w).alloc (.cells #[.slice p n cap] 24)
        clear h1 hv h
        go_enter Tryz.func27, Tryz.ntmps27
        go_wp2_with fail
        refine H1.out.mono ?_; rintro e w2 ⟨rfl, k2⟩
        go_wp2_with fail
        go_ret2
        exact ⟨rfl, k1.trans k2⟩
    · obtain ⟨b, hb⟩ := best_ex t (vm t.enc)
      exact ⟨_, _, fun v w hv => specPM_ok t ⟨hw, hp⟩ (by omega) h b hb v w hv, fun v w hv => implPM_ok t ⟨hw, hp⟩ (by omega) h b hb v w hv⟩
  · have h' : (plainErr a != 0) = true := by simp [h]
    refine ⟨0, plainErr a, fun v w hv => ?_, fun v w hv => ?_⟩
    · obtain ⟨p, n, cap, rfl⟩ := hv.shape
      have h1 := l31Plain_any [a] _ _ (NdsL.lit1 hv)
      rw [plainErrs_one] at h1
      have H1 := hid h1
      have H := hid h
      have k1 := (Keeps.refl w).alloc (.cells #[.slice p n cap] 24)
      clear h1 hv h
      go_enter Tryz.func28, Tryz.ntmps28
      go_wp2_with fail
      refine H1.out.mono ?_; rintro e w2 ⟨rfl, rfl⟩
      go_wp2_with fail
      go_ret2
      exact ⟨rfl, k1⟩
    · obtain ⟨p, n, cap, rfl⟩ := hv.shape
      have h1 := smallFormulasCode_one a hla _ _ (NdsL.lit1 hv)
      rw [show smCode a = plainErr a by unfold smCode; rw [if_neg h]] at h1
      have H1 := hid h1
      have k1 := (Keeps.refl w).alloc (.cells #[.slice p n cap] 24)
      clear h1 hv h
      go_enter Tryz.func27, Tryz.ntmps27
      go_wp2_with fail
      refine H1.out.mono ?_; rintro e w2 ⟨rfl, k2⟩
      go_wp2_with fail
      go_ret2
      exact ⟨rfl, k1.trans k2⟩
end Go.Proofs.YtpbbfoliabgkpaaGreat
/- ProjectiveMask and LiftSubstitution, with what they hand back told; the law of lifted substitutions. (printed by mkd6.py) -/
namespace Go.Proofs.YtpbbfoliabgkpaaGreat
open Go.RowKit
set_option maxRecDepth 20000 in
set_option maxHeartbeats 1000000 in
theorem pmBoth (a : List Nd) (hla : a.length ≤ 1048576) : ∃ x c, BothInt 28 27 a x c ∧ (c = 0 → ∃ (t : Fm) (b : Nat), a = t.enc ∧ OkF t ∧ t.enc.length ≤ 20 ∧ x = (b : Int) ∧ b < 64 ∧ b &&& vm t.enc = b ∧ PB t b = true) := by
  by_cases h : plainErr a = 0
  · obtain ⟨t, hw, rfl, hp, _⟩ := plain_tree h
    by_cases h20 : 20 < t.enc.length
    · refine ⟨0, 3, ⟨fun v w hv => ?_, fun v w hv => ?_⟩, fun h => by omega⟩
      · obtain ⟨p, n, cap, rfl⟩ := hv.shape
        have hnl := hv.lenIs
        have hn20 : (20 : Int) < n := by omega
        have hn1 : n ≤ 1048576 := by omega
        have h1 := l31Plain_any [t.enc] _ _ (NdsL.lit1 hv)
        rw [plainErrs_one, h] at h1
        have H1 := hid h1
        have k1 := (Keeps.refl w).alloc (.cells #[.slice p n cap] 24)
        clear hnl h1 hv h
        go_enter Tryz.func28, Tryz.ntmps28
        go_wp2_with fail
        refine H1.out.mono ?_; rintro e w2 ⟨rfl, rfl⟩
        go_wp2_with fail
        go_ret2
        exact ⟨rfl, k1⟩
      · obtain ⟨p, n, cap, rfl⟩ := hv.shape
        have h1 := smallFormulasCode_one t.enc hla _ _ (NdsL.lit1 hv)
        rw [show smCode t.enc = 3 by unfold smCode; rw [if_pos h, if_pos h20]] at h1
        have H1 := hid h1
        have k1 := (Keeps.refl w).alloc (.cells #[.slice p n cap] 24)
        clear h1 hv h
        go_enter Tryz.func27, Tryz.ntmps27
        go_wp2_with fail
        refine H1.out.mono ?_; rintro e w2 ⟨rfl, k2⟩
        go_wp2_with fail
        go_ret2
        exact ⟨rfl, k1.trans k2⟩
    · obtain ⟨b, hb⟩ := best_ex t (vm t.enc)
      refine ⟨_, _, ⟨fun v w hv => specPM_ok t ⟨hw, hp⟩ (by omega) h b hb v w hv, fun v w hv => implPM_ok t ⟨hw, hp⟩ (by omega) h b hb v w hv⟩, fun hc => ?_⟩
      have hb64 : b < 64 := by
        unfold pmC at hc
        split at hc
        · assumption
        · cases hc
      exact ⟨t, b, rfl, ⟨hw, hp⟩, by omega, by unfold pmX; rw [if_pos hb64], hb64, (hb.2.2 hb64).1, (hb.2.2 hb64).2⟩
  · have h' : (plainErr a != 0) = true := by simp [h]
    refine ⟨0, plainErr a, ⟨fun v w hv => ?_, fun v w hv => ?_⟩, fun hc => absurd hc h⟩
    · obtain ⟨p, n, cap, rfl⟩ := hv.shape
      have h1 := l31Plain_any [a] _ _ (NdsL.lit1 hv)
      rw [plainErrs_one] at h1
      have H1 := hid h1
      have H := hid h
      have k1 := (Keeps.refl w).alloc (.cells #[.slice p n cap] 24)
      clear h1 hv h
      go_enter Tryz.func28, Tryz.ntmps28
      go_wp2_with fail
      refine H1.out.mono ?_; rintro e w2 ⟨rfl, rfl⟩
      go_wp2_with fail
      go_ret2
      exact ⟨rfl, k1⟩
    · obtain ⟨p, n, cap, rfl⟩ := hv.shape
      have h1 := smallFormulasCode_one a hla _ _ (NdsL.lit1 hv)
      rw [show smCode a = plainErr a by unfold smCode; rw [if_neg h]] at h1
      have H1 := hid h1
      have k1 := (Keeps.refl w).alloc (.cells #[.slice p n cap] 24)
      clear h1 hv h
      go_enter Tryz.func27, Tryz.ntmps27
      go_wp2_with fail
      refine H1.out.mono ?_; rintro e w2 ⟨rfl, k2⟩
      go_wp2_with fail
      go_ret2
      exact ⟨rfl, k1.trans k2⟩
set_option maxRecDepth 20000 in
set_option maxHeartbeats 4000000 in
theorem bothLift_ok (a : List Nd) (m : Nat) (h : plainErr a = 0) (hm64 : m < 64) : BothLift a m (if bigL (liftL a m) then [] else liftL a m) (if bigL (liftL a m) then 3 else 0) := by
  have hne := fun (v : Value) (w : World) (hv : Nds w v a) => plainCode_any [a] _ _ (NdsL.lit1 hv)
  have hns := fun (v : Value) (w : World) (hv : Nds w v a) => l31Plain_any [a] _ _ (NdsL.lit1 hv)
  rw [plainErrs_one] at hne hns
  have HN := hid hne; clear hne
  have HS := hid hns; clear hns
  obtain ⟨hok, hla⟩ := plainErr_ok h
  rw [h] at HN HS
  clear h
  have hm : inR (m : Int) 0 63 = true := by simp [inR]; omega
  have hbig := liftL_big a m
  have hmem := liftF_mem a m (mem (vm a))
  have hlen := liftF_len a m (mem (vm a))
  change ∀ x ∈ liftL a m, _ at hmem
  change (liftL a m).length = 6 at hlen
  have htot := tot_bound _ _ hmem
  rw [hlen] at htot
  have hl2 := low_len (vm a) 6
  change (mem (vm a)).length ≤ 6 at hl2
  have HLI := hid (fun v w hv => lifted_any a m v w hv hok (by omega) hm64)
  have HLS := hid (fun v w hv => l31Lift_any a m v w hv hok (by omega) hm64)
  have HV := hid (fun v w hv => l02Variables_any a v w hv hok)
  have HF := hid (fun w => l01Full_any 6 w (by omega) (by omega))
  have HI := hid (fun w => l01In_any (m : Int) 0 63 w)
  have HM := hid (fun w => isMask6_any (m : Int) w)
  rw [hm] at HI HM
  have HOK := hid hok; clear hok
  refine ⟨fun v w hv => ?_, fun v w hv => ?_⟩
  · have hv0 := hv
    obtain ⟨p, cap, rfl, _, _, _, _⟩ := hv
    have k1 := (Keeps.refl w).alloc (.cells #[.slice p a.length cap] 24)
    by_cases hM : 0 < (mem (vm a)).length
    · by_cases hL : 40 < a.length + 2
      · have hbv : bigL (liftL a m) = true := by rw [hbig, decide_eq_true hM, decide_eq_true hL]; rfl
        rw [hbv]
        have d1 : decide (((mem (vm a)).length : Int) > 0) = true := by simp; omega
        have d2 : decide ((a.length : Int) + 2 > 40) = true := by simp; omega
        clear hbv hbig
        go_enter Tryz.func30, Tryz.ntmps30
        go_wp2_with fail
        refine (HS.out _ _ hv0).mono ?_; rintro e w' ⟨rfl, rfl⟩
        go_wp2_with fail
        refine (HF.out _).mono ?_; rintro e w' ⟨rfl, rfl⟩
        go_wp2_with fail
        refine (HI.out _).mono ?_; rintro e w' ⟨rfl, rfl⟩
        go_wp2_with fail
        refine (HV.out _ _ (hv0.keeps k1)).mono ?_; rintro e w2 ⟨u2, rfl, hu2, k2⟩
        obtain ⟨pu, cu, rfl, _, _, _, _⟩ := hu2.ints (by omega)
        go_wp2_with fail
        go_ret2
        exact ⟨_, rfl, ndsL_nil _, k1.trans k2⟩
      · have hbv : bigL (liftL a m) = false := by rw [hbig, decide_eq_false hL]; simp
        rw [hbv]
        have d1 : decide (((mem (vm a)).length : Int) > 0) = true := by simp; omega
        have d2 : decide ((a.length : Int) + 2 > 40) = false := by simp; omega
        clear hbv hbig
        go_enter Tryz.func30, Tryz.ntmps30
        go_wp2_with fail
        refine (HS.out _ _ hv0).mono ?_; rintro e w' ⟨rfl, rfl⟩
        go_wp2_with fail
        refine (HF.out _).mono ?_; rintro e w' ⟨rfl, rfl⟩
        go_wp2_with fail
        refine (HI.out _).mono ?_; rintro e w' ⟨rfl, rfl⟩
        go_wp2_with fail
        refine (HV.out _ _ (hv0.keeps k1)).mono ?_; rintro e w2 ⟨u2, rfl, hu2, k2⟩
        obtain ⟨pu, cu, rfl, _, _, _, _⟩ := hu2.ints (by omega)
        go_wp2_with fail
        refine (HLS.out _ _ (hv0.keeps (k1.trans k2))).mono ?_; rintro e w3 ⟨u3, rfl, hu3, k3⟩
        go_wp2_with fail
        go_ret2
        exact ⟨_, rfl, hu3.ndsL (by rw [hlen]; omega) (by omega), (k1.trans k2).trans k3⟩
    · have hbv : bigL (liftL a m) = false := by rw [hbig, decide_eq_false hM]; simp
      rw [hbv]
      have d1 : decide (((mem (vm a)).length : Int) > 0) = false := decide_eq_false (by omega)
      clear hbv hbig
      go_enter Tryz.func30, Tryz.ntmps30
      go_wp2_with fail
      refine (HS.out _ _ hv0).mono ?_; rintro e w' ⟨rfl, rfl⟩
      go_wp2_with fail
      refine (HF.out _).mono ?_; rintro e w' ⟨rfl, rfl⟩
      go_wp2_with fail
      refine (HI.out _).mono ?_; rintro e w' ⟨rfl, rfl⟩
      go_wp2_with fail
      refine (HV.out _ _ (hv0.keeps k1)).mono ?_; rintro e w2 ⟨u2, rfl, hu2, k2⟩
      obtain ⟨pu, cu, rfl, _, _, _, _⟩ := hu2.ints (by omega)
      go_wp2_with fail
      refine (HLS.out _ _ (hv0.keeps (k1.trans k2))).mono ?_; rintro e w3 ⟨u3, rfl, hu3, k3⟩
      go_wp2_with fail
      go_ret2
      exact ⟨_, rfl, hu3.ndsL (by rw [hlen]; omega) (by omega), (k1.trans k2).trans k3⟩
  · have hv0 := hv
    obtain ⟨p, cap, rfl, _, _, _, _⟩ := hv
    have k1 := (Keeps.refl w).alloc (.cells #[.slice p a.length cap] 24)
    clear hbig
    cases hb : bigL (liftL a m)
    · have HB0 := hid hb; clear hb
      simp only [Bool.false_eq_true, if_false]
      go_enter Tryz.func29, Tryz.ntmps29
      go_wp2_with fail
      refine (HN.out _ _ hv0).mono ?_; rintro e w2 ⟨rfl, k2⟩
      go_wp2_with fail
      refine (HM.out _).mono ?_; rintro e w' ⟨rfl, rfl⟩
      go_wp2_with fail
      refine (HLI.out _ _ (hv0.keeps (k1.trans k2))).mono ?_; rintro e w3 ⟨u3, rfl, hu3, k3⟩
      obtain ⟨g3, c3, e3, _, _⟩ := hu3.shape (by rw [hlen]; omega)
      rw [hlen] at e3
      subst e3
      have kk := (k1.trans k2)
      have hnl := hu3.ndsL (by rw [hlen]; omega) (by omega)
      have HB := hid (limitedAll_small _ _ _ hnl HB0.out)
      clear hnl
      go_wp2_with fail
      refine HB.out.mono ?_; rintro e w4 ⟨rfl, k4⟩
      go_wp2_with fail
      go_ret2
      exact ⟨_, rfl, (hu3.keeps k4).mono kk.size, (kk.trans k3).trans k4⟩
    · have HB0 := hid hb; clear hb
      simp only [if_true]
      go_enter Tryz.func29, Tryz.ntmps29
      go_wp2_with fail
      refine (HN.out _ _ hv0).mono ?_; rintro e w2 ⟨rfl, k2⟩
      go_wp2_with fail
      refine (HM.out _).mono ?_; rintro e w' ⟨rfl, rfl⟩
      go_wp2_with fail
      refine (HLI.out _ _ (hv0.keeps (k1.trans k2))).mono ?_; rintro e w3 ⟨u3, rfl, hu3, k3⟩
      obtain ⟨g3, c3, e3, _, _⟩ := hu3.shape (by rw [hlen]; omega)
      rw [hlen] at e3
      subst e3
      have kk := (k1.trans k2)
      have hnl := hu3.ndsL (by rw [hlen]; omega) (by omega)
      have HB := hid (limitedAll_big _ _ _ hnl HB0.out)
      clear hnl
      go_wp2_with fail
      refine HB.out.mono ?_; rintro e w4 ⟨rfl, k4⟩
      go_wp2_with fail
      go_ret2
      exact ⟨_, rfl, OwnL.nil _ _, (kk.trans k3).trans k4⟩
theorem mem_bit : ∀ (m : Fin 64) (r : Fin 6), ((r : Nat) : Int) ∈ mem m ↔ (m : Nat).testBit r = true := by decide +kernel
theorem liftF_get (a : List Nd) (mask : Nat) (r : Nat) (hr : r < 6) : ∀ (M : List Int) (l : List (List Nd)), (∀ x ∈ M, ∃ k : Nat, k < 6 ∧ x = k) → l.length = 6 →
    (M.foldl (fun l v => l.set v.toNat (liftI a mask v)) l).getD r [] = if (r : Int) ∈ M then liftI a mask r else l.getD r []
  | [], l, _, _ => by simp
  | x :: M, l, hM, hl => by
    obtain ⟨k, hk, rfl⟩ := hM x (by simp)
    rw [List.foldl_cons, liftF_get a mask r hr M _ (fun y hy => hM y (by simp [hy])) (by simp [hl])]
    by_cases h1 : (r : Int) ∈ M
    · rw [if_pos h1, if_pos (by simp [h1])]
    · rw [if_neg h1]
      by_cases h2 : r = k
      · subst h2
        rw [if_pos (by simp), List.getD_eq_getElem?_getD]
        simp [hl, hr]
      · have h3 : ¬ (r : Int) ∈ ((k : Int) :: M) := by
          intro h
          rcases List.mem_cons.1 h with h | h
          · omega
          · exact h1 h
        rw [if_neg h3, List.getD_eq_getElem?_getD, List.getD_eq_getElem?_getD, Int.toNat_natCast, List.getElem?_set_ne (fun e => h2 e.symm)]
theorem liftL_get (t : Fm) (_ht : OkF t) (b r : Nat) (hr : r < 6) : (liftL t.enc b).getD r [] = (Fm.imp t (.var r)).enc ∨ (liftL t.enc b).getD r [] = (Fm.and t (.var r)).enc ∨ (liftL t.enc b).getD r [] = (Fm.var r).enc := by
  have h := liftF_get t.enc b r hr (mem (vm t.enc)) (idL 6) (mem_range _) (idL_len 6)
  have e : liftL t.enc b = (mem (vm t.enc)).foldl (fun l v => l.set v.toNat (liftI t.enc b v)) (idL 6) := rfl
  rw [e, h]
  split
  · unfold liftI
    rw [Int.toNat_natCast]
    by_cases hb : b.testBit r = true
    · left; rw [if_pos hb]; simp [Fm.enc]
    · right; left; rw [if_neg hb]; simp [Fm.enc]
  · right; right
    have hr6 : r = 0 ∨ r = 1 ∨ r = 2 ∨ r = 3 ∨ r = 4 ∨ r = 5 := by omega
    rcases hr6 with rfl | rfl | rfl | rfl | rfl | rfl <;> rfl
/-- a lifted substitution as formulas -/
theorem lift_fm (t : Fm) (ht : OkF t) (b : Nat) : ∃ σ : List Fm, liftL t.enc b = σ.map Fm.enc ∧ OkL σ ∧ σ.length = 6 := by
  obtain ⟨h6, h⟩ := lift_trees t ht b
  have : ∀ l : List (List Nd), (∀ x ∈ l, ∃ u : Fm, x = u.enc ∧ OkF u) → ∃ σ : List Fm, l = σ.map Fm.enc ∧ OkL σ := by
    intro l
    induction l with
    | nil => intro _; exact ⟨[], rfl, okL_nil⟩
    | cons x l ih =>
      intro h
      obtain ⟨σ, rfl, hσ⟩ := ih (fun y hy => h y (by simp [hy]))
      obtain ⟨u, rfl, hu⟩ := h x (by simp)
      exact ⟨u :: σ, rfl, fun y hy => (List.mem_cons.1 hy).elim (fun e => e ▸ hu) (hσ y)⟩
  obtain ⟨σ, e, hσ⟩ := this _ h
  refine ⟨σ, e, hσ, ?_⟩
  rw [e, List.length_map] at h6
  exact h6
theorem sq_weak {G : List Fm} {c : Fm} (h : Sq [] c) : Sq G c := fun M w _ => h M w (fun a ha => by simp at ha)
/-- what a projective formula proves of a variable is what its lifted substitution makes a theorem -/
theorem lift_law (t : Fm) (ht : OkF t) (b r : Nat) (hr : r < 6) (σ : List Fm) (e : liftL t.enc b = σ.map Fm.enc) (h6 : σ.length = 6) (hu : Sq [] (sg σ t)) : sqB [] (sg σ (.var r)) = sqB [t] (.var r) := by
  have hg : (liftL t.enc b).getD r [] = (sg σ (.var r)).enc := by
    rw [e]
    simp [sg, subF, List.getD_eq_getElem?_getD, h6, hr]
  refine sqB_congr ⟨fun h => ?_, fun h => ?_⟩
  · rcases liftL_get t ht b r hr with h1 | h1 | h1
    · rw [enc_inj (hg.symm.trans h1)] at h
      exact sq_imp.1 h
    · rw [enc_inj (hg.symm.trans h1)] at h
      exact sq_weak (sq_and.1 h).2
    · rw [enc_inj (hg.symm.trans h1)] at h
      exact sq_weak h
  · have h2 := sq_subF (fun i => σ.getD i .fls) h
    intro M w hw
    refine h2 M w (fun a ha => ?_)
    simp at ha
    subst ha
    exact hu M w hw
end Go.Proofs.YtpbbfoliabgkpaaGreat
