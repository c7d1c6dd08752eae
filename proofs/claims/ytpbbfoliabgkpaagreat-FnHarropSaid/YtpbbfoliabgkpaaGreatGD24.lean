/- ProvedDisjunct behind one formula. -/
import Derived.Test.YtpbbfoliabgkpaaGreatGD23
namespace Go.Proofs.YtpbbfoliabgkpaaGreat
open Go.RowKit
/-- what ProvedDisjunct tells -/
def TellsD (w : World) (a b c : Fm) (e : Ending) (w' : World) : Prop := ∃ n four : Int, e = .returned (.tuple #[.int .i64 n, .int .i64 four]) ∧ Keeps w w' ∧ (four = 0 → n = 0 → sqB [a] (.or b c) = true ∧ sqB [a] b = false ∧ sqB [a] c = false)
--
set_option maxRecDepth 20000 in
set_option maxHeartbeats 2000000 in
theorem provedDisjunct_any (a b c : Fm) (ha : OkF a) (hb : OkF b) (hc : OkF c) (s sb sc : ByteArray) (v : Value) (w : World) (hs : bts s = a.body) (hss : s.size ≤ 200) (hla : a.enc.length ≤ 40) (hsb : TxX sb b) (hlb : b.enc.length ≤ 40) (hsc : TxX sc c) (hlc : c.enc.length ≤ 40) (hv : Strs w v [s]) :
    Calls Tryz.prog 14 #[v, .string sb, .string sc] w (TellsD w a b c) := by
  have HS := hid (isSequent_one a b ha hb s sb v w hs hss hla hv hsb hlb)
  have HC := hid (fun w2 => isPlainText_any c hc sc w2 hsc hlc)
  have HN := hid (fun w2 (k : Keeps w w2) => nodesOf_one a ha s v w2 hs hss hla (hv.keeps k))
  have HPb := hid (fun w2 => parsed_X b hb.1 sb w2 hsb hlb)
  have HPc := hid (fun w2 => parsed_X c hc.1 sc w2 hsc hlc)
  have hL : ∀ w2, Keeps w w2 → Left w2 v [a] := fun w2 k => ⟨[s], hv.keeps k, by simp [Txts, hs]⟩
  obtain ⟨p, cap, rfl, _⟩ := hv.shape
  simp only [List.length_singleton] at *
  by_cases h1 : bts sb = b.body
  · rw [decide_eq_true h1] at HS
    by_cases h2 : bts sc = c.body
    · have hc1 := HC
      rw [decide_eq_true h2] at HC
      by_cases h3 : a.enc.length + (1 + b.enc.length + c.enc.length) ≤ 20
      · have hokG : OkL [a] := fun x hx => by rw [List.mem_singleton.1 hx]; exact ha
        have wa := wt_small (c := a) (by omega)
        have wb := wt_small (c := b) (by omega)
        have wc := wt_small (c := c) (by omega)
        have hor : (Fm.or b c).enc.length ≤ 20 := by simp [Fm.enc]; omega
        have wo := wt_small hor
        have hokO : OkF (Fm.or b c) := ⟨⟨hb.1, hc.1⟩, by simp [Fm.plain, hb.2, hc.2]⟩
        have HQb := hid (fun w2 (k : Keeps w w2) => provable_any [a] b hokG hb (by simp only [wts]; omega) sb _ w2 (hL w2 k) h1)
        have HQc := hid (fun w2 (k : Keeps w w2) => provable_any [a] c hokG hc (by simp only [wts]; omega) sc _ w2 (hL w2 k) h2)
        have HQo := hid (fun so w2 (k : Keeps w w2) (ho : bts so = (Fm.or b c).body) => provable_any [a] (Fm.or b c) hokG hokO (by simp only [wts]; omega) so _ w2 (hL w2 k) ho)
        have HTx := hid (fun u w2 (hu : Nds w2 u (Fm.or b c).enc) => text_any (Fm.or b c) hokO.1 (by omega) u w2 hu)
        have hgt : ¬ (20 : Int) < (a.enc.length : Int) + (1 + b.enc.length + c.enc.length : Nat) := by omega
        clear hL hc1 hokG hokO wa wb wc wo hs hsb hsc hv h1 h2
        go_enter Tryz.func14, Tryz.ntmps14
        go_wp2_with fail
        refine HS.out.mono ?_; rintro e w2 ⟨rfl, k2⟩
        go_wp2_with fail
        refine (HC.out w2).mono ?_; rintro e w3 ⟨rfl, k3⟩
        go_wp2_with fail
        refine (HPb.out w3).mono ?_; rintro e w4 ⟨v4, rfl, hv4, k4⟩
        go_wp2_with fail
        refine (HPc.out w4).mono ?_; rintro e w5 ⟨v5, rfl, hv5, k5⟩
        go_wp2_with fail
        refine (join_any 3 _ _ _ _ w5 ((hv4.keeps k5).nds (by omega)) (hv5.nds (by omega)) (by omega)).mono ?_; rintro e w6 ⟨v6, rfl, hv6, k6⟩
        have k26 := (((k2.trans k3).trans k4).trans k5).trans k6
        obtain ⟨p6, n6, q6, rfl, hn6⟩ : ∃ p n c', v6 = .slice p n c' ∧ n = 1 + b.enc.length + c.enc.length := by obtain ⟨p, c', e, _⟩ := At.of_own hv6; exact ⟨p, _, c', e, by simp; omega⟩
        have HO6 : Hid (Nds w6 (.slice p6 n6 q6) (Fm.or b c).enc) := hv6.nds (by simp; omega)
        subst hn6
        clear hv4 hv5 hv6
        go_wp2_with fail
        refine (HN.out w6 k26).mono ?_; rintro e w7 ⟨rfl, k7⟩
        have k27 := k26.trans k7
        go_wp2_with fail
        refine (HQb.out w7 k27).mono ?_; rintro e w8 ⟨rfl, k8⟩
        have k28 := k27.trans k8
        generalize hA : sqB [a] b = A at *
        cases A with
        | true =>
          go_wp2_with fail
          go_ret2
          exact ⟨1, 0, rfl, k28, fun _ h => by omega⟩
        | false =>
          go_wp2_with fail
          refine (HQc.out w8 k28).mono ?_; rintro e w9 ⟨rfl, k9⟩
          have k29 := k28.trans k9
          generalize hC : sqB [a] c = C at *
          cases C with
          | true =>
            go_wp2_with fail
            go_ret2
            exact ⟨2, 0, rfl, k29, fun _ h => by omega⟩
          | false =>
            go_wp2_with fail
            refine (HTx.out _ w9 (HO6.out.keeps ((k7.trans k8).trans k9))).mono ?_; rintro e w10 ⟨so, rfl, hso, k10⟩
            have k210 := k29.trans k10
            go_wp2_with fail
            refine (HQo.out so w10 k210 hso).mono ?_; rintro e w11 ⟨rfl, k11⟩
            have kF := k210.trans k11
            generalize hO : sqB [a] (Fm.or b c) = O at *
            cases O with
            | true =>
              go_wp2_with fail
              go_ret2
              exact ⟨0, 0, rfl, kF, fun _ _ => ⟨hO, hA, hC⟩⟩
            | false =>
              go_wp2_with fail
              go_ret2
              exact ⟨-1, 0, rfl, kF, fun _ h => by omega⟩
      · have hgt : (20 : Int) < (a.enc.length : Int) + (1 + b.enc.length + c.enc.length : Nat) := by omega
        clear hL hc1 hs hsb hsc hv h1 h2 h3
        go_enter Tryz.func14, Tryz.ntmps14
        go_wp2_with fail
        refine HS.out.mono ?_; rintro e w2 ⟨rfl, k2⟩
        go_wp2_with fail
        refine (HC.out w2).mono ?_; rintro e w3 ⟨rfl, k3⟩
        go_wp2_with fail
        refine (HPb.out w3).mono ?_; rintro e w4 ⟨v4, rfl, hv4, k4⟩
        go_wp2_with fail
        refine (HPc.out w4).mono ?_; rintro e w5 ⟨v5, rfl, hv5, k5⟩
        go_wp2_with fail
        refine (join_any 3 _ _ _ _ w5 ((hv4.keeps k5).nds (by omega)) (hv5.nds (by omega)) (by omega)).mono ?_; rintro e w6 ⟨v6, rfl, hv6, k6⟩
        have k26 := (((k2.trans k3).trans k4).trans k5).trans k6
        obtain ⟨p6, n6, q6, rfl, hn6⟩ : ∃ p n c', v6 = .slice p n c' ∧ n = 1 + b.enc.length + c.enc.length := by obtain ⟨p, c', e, _⟩ := At.of_own hv6; exact ⟨p, _, c', e, by simp; omega⟩
        subst hn6
        clear hv4 hv5 hv6
        go_wp2_with fail
        refine (HN.out w6 k26).mono ?_; rintro e w7 ⟨rfl, k7⟩
        have k27 := k26.trans k7
        go_wp2_with fail
        go_ret2
        exact ⟨0, 3, rfl, k27, fun h => by omega⟩
    · rw [decide_eq_false h2] at HC
      clear hL hs hsb hsc hv h1 h2
      go_enter Tryz.func14, Tryz.ntmps14
      go_wp2_with fail
      refine HS.out.mono ?_; rintro e w2 ⟨rfl, k2⟩
      go_wp2_with fail
      refine (HC.out w2).mono ?_; rintro e w3 ⟨rfl, k3⟩
      go_wp2_with fail
      go_ret2
      exact ⟨0, 1, rfl, k2.trans k3, fun h => by omega⟩
  · rw [decide_eq_false h1] at HS
    clear hL hs hsb hsc hv h1
    go_enter Tryz.func14, Tryz.ntmps14
    go_wp2_with fail
    refine HS.out.mono ?_; rintro e w2 ⟨rfl, k2⟩
    go_wp2_with fail
    go_ret2
    exact ⟨0, 1, rfl, k2, fun h => by omega⟩
end Go.Proofs.YtpbbfoliabgkpaaGreat
