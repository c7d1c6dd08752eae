/- The law of the outer box translation. -/
import Derived.Test.YtffjmnimnmmemaaK8
namespace Go.Proofs.Ytffjmnimnmmemaa
open Go.RowKit
--
def BothOuterBox (a r : List Nd) (c : Int) : Prop :=
  (∀ v w, Nds w v a → Calls Try.prog 11 #[v] w fun e w' => ∃ u, e = .returned (.tuple #[u, .int .i64 c]) ∧ Nds w' u r ∧ Keeps w w') ∧
  (∀ v w, Nds w v a → Calls Try.prog 13 #[v] w fun e w' => ∃ u, e = .returned (.tuple #[u, .int .i64 c]) ∧ OwnN w' w.heap.size u r ∧ Keeps w w')
set_option maxHeartbeats 1000000 in
theorem lawOuterBox (a r : List Nd) (c : Int) (hboth : BothOuterBox a r c) (hrl : r.length ≤ 40) (v : Value) (w : World) (hv : Nds w v a) (hl : a.length ≤ 1048576) :
    Calls Try.prog 3 #[v] w fun e w' => e = .returned (.bool true) ∧ Keeps w w' := by
  obtain ⟨hs, hi⟩ := hboth
  have HS := hid hs; clear hs
  have HI := hid hi; clear hi
  obtain ⟨p, n, cap, rfl⟩ := hv.shape
  have hn : n = a.length := by obtain ⟨_, _, e, _⟩ := hv; cases e; rfl
  have HN := hid hn
  have hnl : n ≤ 1048576 := by omega
  clear hn
  have hz0 := szNodeS_any p n cap 1048576 w (by unfold maxLen; omega) (by omega) (by omega)
  rw [if_neg (by omega)] at hz0
  have hz := hid hz0; clear hz0
  go_enter Try.func3, Try.ntmps3
  go_wp2_with fail
  refine hz.out.mono ?_; rintro e w' ⟨rfl, rfl⟩
  have hsz : (0 : Int) ≤ 1048576 - n := by omega
  clear hz
  go_wp2_with fail
  refine (toNodeS_any a _ w hv hl).mono ?_; rintro e w1 ⟨v1, rfl, hv1, k1⟩
  go_wp2_with fail
  refine (HS.out _ w1 (hv1.nds (by omega))).mono ?_; rintro e w2 ⟨u0, rfl, hu0, k2⟩
  have kA2 := k1.trans k2
  clear hv1 k1 k2
  go_wp2_with fail
  refine (toNodeS_any a _ w2 (hv.keeps kA2) hl).mono ?_; rintro e w3 ⟨x0, rfl, hx3, k3⟩
  go_wp2_with fail
  refine (HI.out _ w3 (hx3.nds (by omega))).mono ?_; rintro e w4 ⟨g0, rfl, hg4, k4⟩
  have hx4 := hx3.keeps k4
  have kB4 := k3.trans k4
  have HSZ := k3.size
  clear k3 k4
  go_wp2_with fail
  refine (eqNodeS_any r r g0 u0 w4 (hg4.nds (by omega)) (hu0.keeps kB4)).mono ?_; rintro e w5 ⟨rfl, k5⟩; rw [decide_eq_true rfl]
  have hx5 := hx4.keeps k5
  have hg5 := hg4.keeps k5
  have kB5 := kB4.trans k5
  clear hx4 hg4 kB4 k5
  go_wp2_with fail
  refine (toNodeS_any a _ w5 (hv.keeps (kA2.trans kB5)) hl).mono ?_; rintro e w6 ⟨v6, rfl, hv6, k6⟩
  have hx6 := hx5.keeps k6
  have hg6 := hg5.keeps k6
  have kB6 := kB5.trans k6
  clear hx5 hg5 kB5 k6
  go_wp2_with fail
  refine (eqNodeS_any a a x0 v6 w6 (hx6.nds (by omega)) (hv6.nds (by omega))).mono ?_; rintro e w7 ⟨rfl, k7⟩; rw [decide_eq_true rfl]
  have hx7 := hx6.keeps k7
  have hg7 := hg6.keeps k7
  have kB7 := kB6.trans k7
  clear hx6 hg6 kB6 k7 hv6
  go_wp2_with fail
  refine (markNodeS_any a x0 1 w7 _ hx7 (by omega) (by omega) (by omega)).mono ?_; rintro e w8 ⟨rfl, hx8, g8⟩
  have hg8 : OwnN w8 w3.heap.size g0 r := by
    refine World.ownsRow.kept hg7 g8 ?_
    cases hgb : g0.ownBlock with
    | none => exact .inl rfl
    | some q =>
      right
      intro hq
      have h1 := (hg7.len q hgb).1
      have h2 := (hx3.len q hq.symm).2
      omega
  have kB8 : Keeps w2 w8 := kB7.grown g8 (fun q hq => (hx3.len q hq).1)
  clear hg7 kB7 hx7 hx8 g8
  have hpos : (0 : Int) ≤ 1 + 2 * a.length := by omega
  go_wp2_with fail
  refine (eqNodeS_any r r g0 u0 w8 (hg8.nds (by omega)) (hu0.keeps kB8)).mono ?_; rintro e w9 ⟨rfl, k9⟩; rw [decide_eq_true rfl]
  have hg9 := hg8.keeps k9
  have kB9 := kB8.trans k9
  clear hg8 kB8 k9
  go_wp2_with fail
  refine (markNodeS_any r g0 1 w9 _ hg9 (by omega) (by omega) (by omega)).mono ?_; rintro e w10 ⟨rfl, hg10, g10⟩
  have kB10 : Keeps w2 w10 := kB9.grown g10 (fun q hq => by have := (hg9.len q hq).1; omega)
  clear kB9 hg9 g10
  go_wp2_with fail
  refine (heldNodeS_any r.length g0 1 w10 (hg10.nds (by rw [marksN_length]; omega)) (by omega) (by omega)).mono ?_; rintro e w' ⟨rfl, rfl⟩
  have hpos2 : (0 : Int) ≤ 1 + 2 * r.length := by omega
  go_wp2_with fail
  refine (toNodeS_any a _ w10 (hv.keeps (kA2.trans kB10)) hl).mono ?_; rintro e w11 ⟨v11, rfl, hv11, k11⟩
  go_wp2_with fail
  refine (HI.out _ w11 (hv11.nds (by omega))).mono ?_; rintro e w12 ⟨h0, rfl, hh12, k12⟩
  have hg12 := (hg10.keeps k11).keeps k12
  have kB12 := (kB10.trans k11).trans k12
  clear hg10 kB10 k11 k12 hv11
  go_wp2_with fail
  refine (eqNodeS_any r r h0 u0 w12 (hh12.nds (by omega)) (hu0.keeps kB12)).mono ?_; rintro e w13 ⟨rfl, k13⟩; rw [decide_eq_true rfl]
  have hg13 := hg12.keeps k13
  have kB13 := kB12.trans k13
  clear hg12 kB12 k13 hh12
  go_wp2_with fail
  refine (heldNodeS_any r.length g0 1 w13 (hg13.nds (by rw [marksN_length]; omega)) (by omega) (by omega)).mono ?_; rintro e w' ⟨rfl, rfl⟩
  go_wp2_with fail
  go_ret
  exact ⟨rfl, kA2.trans kB13⟩
theorem lawOuterBoxBig (p : Option Addr) (n cap : Nat) (w : World) (hn : 1048576 < n) (hm : n ≤ maxLen) :
    Calls Try.prog 3 #[.slice p n cap] w fun e w' => e = .returned (.bool true) ∧ Keeps w w' := by
  have hz := hid (szNodeS_any p n cap 1048576 w hm (by omega) (by omega))
  have hsz2 : ((1048576 : Int) < n) := by omega
  go_enter Try.func3, Try.ntmps3
  go_wp2_with (go_at_call 10; refine hz.out.mono ?_; rintro e w' ⟨rfl, rfl⟩; rw [if_pos hsz2])
  go_ret
  exact ⟨rfl, Keeps.refl _⟩
--
set_option maxRecDepth 20000 in
set_option maxHeartbeats 400000 in
theorem transOuterBox_ok (t : Fm) (hp : t.plain = true) (hl : t.enc.length ≤ 1048576) (h : plainErr t.enc = 0) (v : Value) (w : World) (hv : Nds w v t.enc) :
    Calls Try.prog 61 #[.agg #[.func (.func 57) #[] #[], .func (.func 58) #[] #[]], v] w fun e w' => ∃ u, e = .returned (.tuple #[u, .int .i64 (madeL (outr t).enc).2]) ∧ OwnN w' w.heap.size u (madeL (outr t).enc).1 ∧ Keeps w w' := by
  obtain ⟨p, n, cap, rfl⟩ := hv.shape
  have kA := (Keeps.refl w).alloc (.cells #[.func (.func 57) #[] #[], .func (.func 58) #[] #[]] 90)
  have hsz : (w.alloc (.cells #[.func (.func 57) #[] #[], .func (.func 58) #[] #[]] 90)).heap.size = w.heap.size + 1 := by simp
  have hne := plainCode_any [t.enc] _ _ (NdsL.lit1 (hv.keeps kA))
  rw [plainErrs_one, h, hsz] at hne
  have HN := hid hne; clear hne h hsz
  have k1 := kA.alloc (.cells #[.slice p n cap] 24)
  have bx := outr_len t
  go_enter Try.func61, Try.ntmps61
  go_wp2_with fail
  refine HN.out.mono ?_; rintro e w2 ⟨rfl, k2⟩
  have k2' := k1.trans k2
  have kB : Keeps (w.alloc (.cells #[.func (.func 57) #[] #[], .func (.func 58) #[] #[]] 90)) ((w.alloc (.cells #[.func (.func 57) #[] #[], .func (.func 58) #[] #[]] 90)).alloc (.cells #[.slice p n cap] 24)) := (Keeps.refl _).alloc _
  have f0 : w2.cell? ⟨w.heap.size, 0, none⟩ = some (.func (.func 57) #[] #[]) := k2.cell ((kB).cell (by simp))
  have f1 : w2.cell? ⟨w.heap.size, 1, none⟩ = some (.func (.func 58) #[] #[]) := k2.cell ((kB).cell (by simp))
  clear kB
  go_wp2_with fail
  refine (ofOuterBox_any t hp _ _ (hv.keeps k2') hl).mono ?_; rintro e w3 ⟨v3, rfl, hv3, k3⟩
  go_wp2_with fail
  refine (limited_own (outr t).enc _ _ _ hv3 (by omega)).mono ?_; rintro e w' ⟨u, rfl, hu, rfl⟩
  go_wp2_with fail
  go_ret2
  exact ⟨_, rfl, hu.mono k2'.size, k2'.trans k3⟩
set_option maxRecDepth 20000 in
set_option maxHeartbeats 400000 in
theorem transOuterBox_err (a : List Nd) (h : plainErr a ≠ 0) (v : Value) (w : World) (hv : Nds w v a) :
    Calls Try.prog 61 #[.agg #[.func (.func 57) #[] #[], .func (.func 58) #[] #[]], v] w fun e w' => ∃ u, e = .returned (.tuple #[u, .int .i64 (plainErr a)]) ∧ OwnN w' w.heap.size u [] ∧ Keeps w w' := by
  obtain ⟨p, n, cap, rfl⟩ := hv.shape
  have kA := (Keeps.refl w).alloc (.cells #[.func (.func 57) #[] #[], .func (.func 58) #[] #[]] 90)
  have hsz : (w.alloc (.cells #[.func (.func 57) #[] #[], .func (.func 58) #[] #[]] 90)).heap.size = w.heap.size + 1 := by simp
  have hne := plainCode_any [a] _ _ (NdsL.lit1 (hv.keeps kA))
  rw [plainErrs_one, hsz] at hne
  have h' : (plainErr a != 0) = true := by simp [h]
  have H := hid h; clear h
  have HN := hid hne; clear hne hsz
  have k1 := kA.alloc (.cells #[.slice p n cap] 24)
  go_enter Try.func61, Try.ntmps61
  go_wp2_with (go_at_call 70; refine HN.out.mono ?_; rintro e w2 ⟨rfl, k2⟩)
  go_ret2
  exact ⟨_, rfl, OwnN.nil _ _, k1.trans k2⟩
set_option maxHeartbeats 1000000 in
theorem bothOuterBox (a : List Nd) : ∃ r c, BothOuterBox a r c ∧ r.length ≤ 40 := by
  by_cases h : plainErr a = 0
  · obtain ⟨t, hw, rfl, hp, hl⟩ := plain_tree h
    have HT := hid (transOuterBox_ok t hp (by omega) h)
    have H := hid h; clear h
    have bx := outr_len t
    refine ⟨(madeL (outr t).enc).1, (madeL (outr t).enc).2, ⟨fun v w hv => ?_, fun v w hv => ?_⟩, madeL_len _⟩
    · go_enter Try.func11, Try.ntmps11
      go_wp2_with fail
      refine (l29Code_any _ _ _ hv).mono ?_; rintro e w' ⟨rfl, rfl⟩; rw [H.out]
      go_wp2_with fail
      refine (l29Outer_any t hp _ _ hv (by omega)).mono ?_; rintro e w1 ⟨v1, rfl, hv1, k1⟩
      go_wp2_with fail
      refine (l02Made_own (outr t).enc _ _ _ hv1 (by omega)).mono ?_; rintro e w' ⟨u, rfl, hu, rfl⟩
      go_wp2_with fail
      go_ret2
      exact ⟨_, rfl, hu.nds (by have := madeL_len (outr t).enc; omega), k1⟩
    · go_enter Try.func13, Try.ntmps13
      go_wp2_with fail
      refine (HT.out _ _ hv).mono ?_; rintro e w1 ⟨u, rfl, hu, k1⟩
      go_wp2_with fail
      go_ret2
      exact ⟨_, rfl, hu, k1⟩
  · have HT := hid (transOuterBox_err a h)
    have h' : (plainErr a != 0) = true := by simp [h]
    have H := hid h; clear h
    refine ⟨[], plainErr a, ⟨fun v w hv => ?_, fun v w hv => ?_⟩, by simp⟩
    · go_enter Try.func11, Try.ntmps11
      go_wp2_with (go_at_call 53; refine (l29Code_any _ _ _ hv).mono ?_; rintro e w' ⟨rfl, rfl⟩)
      go_ret2
      exact ⟨_, rfl, (OwnN.nil w 0).nds (by simp), Keeps.refl _⟩
    · go_enter Try.func13, Try.ntmps13
      go_wp2_with fail
      refine (HT.out _ _ hv).mono ?_; rintro e w1 ⟨u, rfl, hu, k1⟩
      go_wp2_with fail
      go_ret2
      exact ⟨_, rfl, hu, k1⟩
end Go.Proofs.Ytffjmnimnmmemaa
