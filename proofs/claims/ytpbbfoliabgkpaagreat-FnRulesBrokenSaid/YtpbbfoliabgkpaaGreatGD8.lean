/- FnProjective: the walk of the law. -/
import Derived.Test.YtpbbfoliabgkpaaGreatGD10
namespace Go.Proofs.YtpbbfoliabgkpaaGreat
open Go.RowKit
theorem likeL_same (xs : List (List Nd)) (v v' : Value) (w : World) (hv : NdsL w v xs) (hv' : NdsL w v' xs) :
    Calls Tryz.prog 25 #[v, v'] w fun e w' => e = .returned (.bool true) ∧ Keeps w w' := by
  have h := likeFormulas5_any xs xs v v' w hv hv'
  rw [decide_eq_true rfl] at h
  exact h
theorem cell_new2 {w : World} {n : Nat} {u v : Value} {T : TypeId} (hn : n = w.heap.size) : (w.alloc (.cells #[u, v] T)).cell? ⟨n, 0, none⟩ = some u ∧ (w.alloc (.cells #[u, v] T)).cell? ⟨n, 1, none⟩ = some v := by
  subst hn; constructor <;> simp
--
set_option maxRecDepth 20000 in
set_option maxHeartbeats 8000000 in
theorem lawProjective (v : Value) (n : Nat) (w : World) (hv : Bts w v n) :
    Calls Tryz.prog 5 #[v] w fun e w' => e = .returned (.bool true) ∧ Keeps w w' := by
  have HBig := hid (big_any v n w hv)
  by_cases hn : 4096 < n
  · rw [decide_eq_true hn] at HBig
    go_enter Tryz.func5, Tryz.ntmps5
    go_wp2_with fail
    refine HBig.out.mono ?_; rintro e w' ⟨rfl, rfl⟩
    go_wp2_with fail
    go_ret
    exact ⟨rfl, Keeps.refl _⟩
  · rw [decide_eq_false hn] at HBig
    have HD := hid (drawProjectiveMask_any v n w hv (by omega))
    have HRo := hid (fun w2 (k : Keeps w w2) => roll_any v n 3103 w2 (hv.keeps k) (by omega) (by omega))
    obtain ⟨pv, cv, rfl, _⟩ := hv
    go_enter Tryz.func5, Tryz.ntmps5
    go_wp2_with fail
    refine HBig.out.mono ?_; rintro e w' ⟨rfl, rfl⟩
    go_wp2_with fail
    refine HD.out.mono ?_; rintro e w1 ⟨v1, a, rfl, hv1, hl1, k1⟩
    obtain ⟨x, c, ⟨hS, hI⟩, hc⟩ := pmBoth a (by omega)
    have hn1 := hv1.nds (by omega)
    obtain ⟨p1, n1, q1, rfl⟩ := hn1.shape
    have HI := hid (hI _ w1 hn1)
    have HS := hid (fun w2 (k : Keeps w1 w2) => hS _ w2 (hn1.keeps k))
    clear hS hI hv1 HD HBig
    by_cases h0 : c = 0
    · obtain ⟨t, b, rfl, ht, htl, rfl, hb, _, hp⟩ := hc h0
      subst h0
      obtain ⟨L, hL6, hLt, ⟨hLS, hLI⟩, ⟨yes, three, hU, hU3⟩, hR⟩ := (projOk t ht htl b hb hp).lift
      have HLI := hid (fun w2 (k : Keeps w1 w2) => hLI _ w2 (hn1.keeps k))
      have HLS := hid (fun w2 (k : Keeps w1 w2) => hLS _ w2 (hn1.keeps k))
      have HU := hid (fun u w2 (k : Keeps w1 w2) (hu : NdsL w2 u L) => hU _ u w2 (hn1.keeps k) hu)
      have HRr := hid hR
      have HN1 := hid hn1
      clear hLI hLS hU hR hn1 hp ht htl hc
      generalize t.enc = A at *
      rcases hU3 with ⟨rfl, rfl⟩ | ⟨rfl, rfl⟩
      all_goals
        go_wp2_with fail
        refine HI.out.mono ?_; rintro e w2 ⟨rfl, k2⟩
        go_wp2_with fail
        refine (HS.out w2 k2).mono ?_; rintro e w3 ⟨rfl, k3⟩
        have k13 := k2.trans k3
        go_wp2_with fail
        refine (HLI.out w3 k13).mono ?_; rintro e w4 ⟨v4, rfl, hv4, k4⟩
        have hL4 := hv4.ndsL (by omega) (by omega)
        have k14 := k13.trans k4
        go_wp2_with fail
        refine (HLS.out w4 k14).mono ?_; rintro e w5 ⟨v5, rfl, hv5, k5⟩
        have HL4 := hid (hL4.keeps k5)
        have HL5 := hid hv5
        have k15 := k14.trans k5
        clear hL4 hv4 hv5
        go_wp2_with fail
        refine (likeL_same L v4 v5 w5 HL4.out HL5.out).mono ?_; rintro e w6 ⟨rfl, k6⟩
        have k16 := k15.trans k6
        have HL6 := hid (HL5.out.keeps k6)
        go_wp2_with fail
        refine (HU.out v5 w6 k16 HL6.out).mono ?_; rintro e w7 ⟨rfl, k7⟩
        have k17 := k16.trans k7
        have HL7 := hid (HL6.out.keeps k7)
        clear HL4 HL5 HL6
        go_wp2_with fail
        refine (HRo.out w7 (k1.trans k17)).mono ?_; rintro e w8 ⟨B, rfl, hB, hs, k8⟩
        have HL8 := hid (HL7.out.keeps k8)
        go_wp2_with fail
        refine (below_any 3 B w8 hs (by omega)).mono ?_; rintro e w9 ⟨r, rfl, hr, d9⟩
        have hr3 : r < 3 := by omega
        have k79 := Dr.keepsOf k8 hB d9
        have k19 := k17.trans k79
        have HL9 := hid (HL7.out.keeps k79)
        obtain ⟨d, four, bk, six, ⟨hDS, hDI⟩, hBr, hF⟩ := HRr.out r hr3
        have kW2 : Keeps w9 ((w9.alloc (.cells #[.int .i64 0, .int .i64 r] 55)).alloc (.cells #[.slice p1 n1 q1] 24)) := ((Keeps.refl w9).alloc _).alloc _
        have kW : Keeps w9 (((w9.alloc (.cells #[.int .i64 0, .int .i64 r] 55)).alloc (.cells #[.slice p1 n1 q1] 24)).alloc (.cells #[.slice (some ⟨w9.heap.size + 1, 0, none⟩) 1 1, .slice (some ⟨w9.heap.size, 0, none⟩) 1 1] 37)) := kW2.alloc _
        have hNb : Nds (((w9.alloc (.cells #[.int .i64 0, .int .i64 r] 55)).alloc (.cells #[.slice p1 n1 q1] 24)).alloc (.cells #[.slice (some ⟨w9.heap.size + 1, 0, none⟩) 1 1, .slice (some ⟨w9.heap.size, 0, none⟩) 1 1] 37)) (.slice (some ⟨w9.heap.size, 0, none⟩) 1 1) (Fm.var r).enc := ((OwnN.lit1 w9 ⟨0, r⟩).nds (by simp)).keeps (((Keeps.refl _).alloc _).alloc _)
        have hLa : NdsL (((w9.alloc (.cells #[.int .i64 0, .int .i64 r] 55)).alloc (.cells #[.slice p1 n1 q1] 24)).alloc (.cells #[.slice (some ⟨w9.heap.size + 1, 0, none⟩) 1 1, .slice (some ⟨w9.heap.size, 0, none⟩) 1 1] 37)) (.slice (some ⟨w9.heap.size + 1, 0, none⟩) 1 1) [A] := (NdsL.lit1N (w := w9.alloc (.cells #[.int .i64 0, .int .i64 r] 55)) (N := w9.heap.size + 1) (by simp) (HN1.out.keeps (k19.alloc _))).keeps ((Keeps.refl _).alloc _)
        have ca : (((w9.alloc (.cells #[.int .i64 0, .int .i64 r] 55)).alloc (.cells #[.slice p1 n1 q1] 24)).alloc (.cells #[.slice (some ⟨w9.heap.size + 1, 0, none⟩) 1 1, .slice (some ⟨w9.heap.size, 0, none⟩) 1 1] 37)).cell? ⟨w9.heap.size + 1 + 1, 0, none⟩ = some (.slice (some ⟨w9.heap.size + 1, 0, none⟩) 1 1) := (cell_new2 (by simp)).1
        have cb : (((w9.alloc (.cells #[.int .i64 0, .int .i64 r] 55)).alloc (.cells #[.slice p1 n1 q1] 24)).alloc (.cells #[.slice (some ⟨w9.heap.size + 1, 0, none⟩) 1 1, .slice (some ⟨w9.heap.size, 0, none⟩) 1 1] 37)).cell? ⟨w9.heap.size + 1 + 1, 1, none⟩ = some (.slice (some ⟨w9.heap.size, 0, none⟩) 1 1) := (cell_new2 (by simp)).2
        have HA := hid (hDI _ _ _ hLa hNb)
        have HB := hid (fun w2 (k : Keeps (((w9.alloc (.cells #[.int .i64 0, .int .i64 r] 55)).alloc (.cells #[.slice p1 n1 q1] 24)).alloc (.cells #[.slice (some ⟨w9.heap.size + 1, 0, none⟩) 1 1, .slice (some ⟨w9.heap.size, 0, none⟩) 1 1] 37)) w2) => hDS _ _ w2 (hLa.keeps k) (hNb.keeps k))
        have HC := hid (fun w2 (k : Keeps (((w9.alloc (.cells #[.int .i64 0, .int .i64 r] 55)).alloc (.cells #[.slice p1 n1 q1] 24)).alloc (.cells #[.slice (some ⟨w9.heap.size + 1, 0, none⟩) 1 1, .slice (some ⟨w9.heap.size, 0, none⟩) 1 1] 37)) w2) => hBr _ _ v5 w2 (hLa.keeps k) (hNb.keeps k) (HL9.out.keeps (kW.trans k)))
        have K1W := hid ((k1.trans k19).trans kW)
        clear hNb hLa hDI hDS hBr
        rcases hF with rfl | ⟨rfl, rfl⟩ | ⟨rfl, rfl, rfl⟩
        all_goals
          go_wp2_with fail
          refine HA.out.mono ?_; rintro e w10 ⟨rfl, k10⟩
          obtain ⟨da, db⟩ := cells_keeps k10 (And.intro ca cb)
          go_wp2_with fail
          refine (HB.out w10 k10).mono ?_; rintro e w11 ⟨rfl, k11⟩
          have k1011 := k10.trans k11
          obtain ⟨ea, eb⟩ := cells_keeps k11 (And.intro da db)
          go_wp2_with fail
          refine (HC.out w11 k1011).mono ?_; rintro e w12 ⟨rfl, k12⟩
          go_wp2_with fail
          go_ret
          exact ⟨by first | rfl | (cases d <;> rfl), (K1W.out.trans k1011).trans k12⟩
    · have h0' : (c != 0) = true := by simp [h0]
      have HN0 := hid h0
      clear hc hn1 h0
      go_wp2_with fail
      refine HI.out.mono ?_; rintro e w2 ⟨rfl, k2⟩
      go_wp2_with fail
      refine (HS.out w2 k2).mono ?_; rintro e w3 ⟨rfl, k3⟩
      have hcc : (c != c) = false := by simp
      have hxx : (x != x) = false := by simp
      go_wp2_with fail
      go_ret
      exact ⟨rfl, (k1.trans k2).trans k3⟩
end Go.Proofs.YtpbbfoliabgkpaaGreat
