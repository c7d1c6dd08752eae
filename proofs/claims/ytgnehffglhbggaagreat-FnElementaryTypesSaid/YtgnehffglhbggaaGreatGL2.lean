/- The reference's search: errors; SurvivingTypes, IsModalTheorem, LogicsOf. -/
import Derived.Test.YtgnehffglhbggaaGreatGNX
import Derived.Test.YtgnehffglhbggaaGreatGNT
import Derived.Test.YtgnehffglhbggaaGreatGMJ
import Derived.Deep.RegionHeld3
import Derived.Test.YtgnehffglhbggaaGreatRows
import Derived.Test.YtgnehffglhbggaaGreatGBase
import Derived.ProofKit
import Derived.OpenShut
import Derived.Deep.Slices
import Derived.Deep.Fields
import Derived.ChangeSame
import Derived.Lib.SmallJoins
import Derived.Test.YtgnehffglhbggaaGreatGSR
namespace Go.Proofs.YtgnehffglhbggaaGreat
open Go.RowKit
theorem seG_fine {ss tt : List ByteArray} (hs : Side ss) (ht : Side tt) : Fine (fmL (ss ++ tt)) := by rw [fmL_append]; exact (fmL_fine hs).append (fmL_fine ht)
theorem seE_ok {s : ByteArray} {ss tt : List ByteArray} (h : SrOk s ss tt) : EOk (seE ss tt) (elT (fmL (ss ++ tt))) (seN ss tt) :=
  ⟨elF_txts (seG_fine h.hs h.ht), fun t ht => (elF_fine (seG_fine h.hs h.ht) t ht).1, h.h8, h.hN⟩
theorem seE_in {ss tt : List ByteArray} (hs : Side ss) (ht : Side tt) : ∀ x ∈ ss ++ tt, InE (seE ss tt) x := by
  intro x hx
  have htx : IsTx x (txF x) := by
    rcases List.mem_append.1 hx with h | h
    · exact txF_tx (hs.1 x h)
    · exact txF_tx (ht.1 x h)
  exact ⟨htx, fun y hy he => elF_of (seG_fine hs ht) (List.mem_map_of_mem hx) hy he⟩
theorem srC_all {ss tt : List ByteArray} (h : srC (lgS 0) ss tt = 0) {x : ByteArray} (hx : isLg x = true) : srC x ss tt = 0 := by
  unfold srC at h ⊢
  rw [if_pos (isLg_lgS 0 (by omega))] at h
  rw [if_pos hx]
  exact h
--
/-- a space, or an error -/
def CodeR (w : World) (s : ByteArray) (ss tt : List ByteArray) (e : Ending) (w' : World) : Prop :=
  (srC s ss tt = 0 ∧ ∃ r c0 c1 c2 c3 c4 c5, e = .returned (.tuple #[.pointer (some ⟨r, 0, none⟩), .int .i64 0]) ∧ Keeps w w' ∧ w.heap.size ≤ r ∧ SpF w' r (lgN s) (seE ss tt) (elT (fmL (ss ++ tt))) (seN ss tt) c0 c1 c2 c3 c4 c5) ∨
  (srC s ss tt ≠ 0 ∧ e = .returned (.tuple #[.pointer none, .int .i64 (srC s ss tt)]) ∧ Keeps w w')
set_option maxRecDepth 100000 in
set_option maxHeartbeats 2000000 in
theorem l12Code_any (s : ByteArray) (ss tt : List ByteArray) (v u : Value) (w : World) (hv : Strs w v ss) (hu : Strs w u tt) (hs : Mid ss) (ht : Mid tt) :
    Calls Tryz.prog 43 #[.string s, .agg #[v, u]] w (CodeR w s ss tt) := by
  have kA := (Keeps.refl w).alloc (.cells #[v, u] 29)
  obtain ⟨c0, c1⟩ := BoxQ.made w v u 29
  have HI := hid (fun wz => l12Is_any s wz)
  have HQ := hid (fun wz (kz : Keeps w wz) => l11Is_any ss tt v u wz (hv.keeps kz) (hu.keeps kz) hs ht)
  have HE := hid (fun (hq : isQ ss tt = true) wz (kz : Keeps w wz) => l12Elementary_any ss tt v u wz (hv.keeps kz) (hu.keeps kz) (isQ_iff hq).2.2.1 (isQ_iff hq).2.2.2 (isQ_iff hq).1 (isQ_iff hq).2.1)
  have HM := hid (fun (hz : srC s ss tt = 0) wz (kz : Keeps w wz) => by
    have hk := srC_ok hz
    have := l12Make_any (lgN s) hk.lg ss tt v u wz (hv.keeps kz) (hu.keeps kz) hk.hs hk.ht hk.h1 hk.h2 hk.h8
    rw [← hk.eq] at this
    exact this)
  have HR : Hid (srC s ss tt = if isLg s = true then (if isQ ss tt = true then (if (elT (fmL (ss ++ tt))).length ≤ 8 then 0 else 3) else 1) else 2) := hid rfl
  have hl : isQ ss tt = true → (elT (fmL (ss ++ tt))).length ≤ 2147483648 := fun hq => by
    obtain ⟨h1, h2, h3, h4⟩ := isQ_iff hq
    have := elT_len (seG_fine h3 h4)
    rw [fmL_len, List.length_append] at this
    omega
  obtain ⟨p, c, rfl, _⟩ := hv.shape
  obtain ⟨q, c2, rfl, _⟩ := hu.shape
  clear hv hu hs ht
  unfold RetSt at HE
  generalize hE : elT (fmL (ss ++ tt)) = sE at *
  have HEE := hid hE; clear hE
  cases hbl : isLg s
  · rw [hbl] at HI
    rw [hbl, if_neg (by simp)] at HR
    clear HQ HE HM hbl hl
    go_enter Tryz.func43, Tryz.ntmps43
    go_wp2_with fail
    refine (HI.out _).mono ?_; rintro e w2 ⟨rfl, k2⟩
    go_wp2_with fail
    go_ret2
    exact .inr ⟨by rw [HR.out]; decide, by rw [HR.out]; rfl, kA.trans k2⟩
  · rw [hbl] at HI
    rw [hbl, if_pos rfl] at HR
    clear hbl
    cases hbq : isQ ss tt
    · rw [hbq] at HQ
      rw [hbq, if_neg (by simp)] at HR
      clear HE HM hbq hl
      go_enter Tryz.func43, Tryz.ntmps43
      go_wp2_with fail
      refine (HI.out _).mono ?_; rintro e w2 ⟨rfl, k2⟩
      have e0 := k2.cell c0
      have e1 := k2.cell c1
      go_wp2_with fail
      refine (HQ.out _ (kA.trans k2)).mono ?_; rintro e w3 ⟨rfl, k3⟩
      go_wp2_with fail
      go_ret2
      exact .inr ⟨by rw [HR.out]; decide, by rw [HR.out]; rfl, (kA.trans k2).trans k3⟩
    · rw [hbq] at HQ
      rw [hbq, if_pos rfl] at HR
      have hl := hl hbq
      have HE2 := hid (HE.out hbq)
      clear HE hbq
      by_cases h8 : sE.length ≤ 8
      · rw [if_pos h8] at HR
        have HM2 := hid (HM.out HR.out)
        clear HM
        go_enter Tryz.func43, Tryz.ntmps43
        go_wp2_with fail
        refine (HI.out _).mono ?_; rintro e w2 ⟨rfl, k2⟩
        have e0 := k2.cell c0
        have e1 := k2.cell c1
        go_wp2_with fail
        refine (HQ.out _ (kA.trans k2)).mono ?_; rintro e w3 ⟨rfl, k3⟩
        replace e0 := k3.cell e0
        replace e1 := k3.cell e1
        go_wp2_with fail
        refine (HE2.out _ ((kA.trans k2).trans k3)).mono ?_; rintro e w4 ⟨pv, rfl, hpv, k4⟩
        obtain ⟨pp, pc, rfl, hp1, hp2, -⟩ := (hpv.strs (by omega)).shape
        replace e0 := k4.cell e0
        replace e1 := k4.cell e1
        clear hpv
        go_wp2_with fail
        refine (HM2.out _ (((kA.trans k2).trans k3).trans k4)).mono ?_; rintro e w5 ⟨r, d0, d1, d2, d3, d4, d5, rfl, k5, hr, hF⟩
        go_wp2_with fail
        go_ret2
        have kk := ((kA.trans k2).trans k3).trans k4
        exact .inl ⟨HR.out, r, d0, d1, d2, d3, d4, d5, rfl, kk.trans k5, by have := kk.size; omega, by rw [← HEE.out] at hF; exact hF⟩
      · rw [if_neg h8] at HR
        clear HM
        go_enter Tryz.func43, Tryz.ntmps43
        go_wp2_with fail
        refine (HI.out _).mono ?_; rintro e w2 ⟨rfl, k2⟩
        have e0 := k2.cell c0
        have e1 := k2.cell c1
        go_wp2_with fail
        refine (HQ.out _ (kA.trans k2)).mono ?_; rintro e w3 ⟨rfl, k3⟩
        replace e0 := k3.cell e0
        replace e1 := k3.cell e1
        go_wp2_with fail
        refine (HE2.out _ ((kA.trans k2).trans k3)).mono ?_; rintro e w4 ⟨pv, rfl, hpv, k4⟩
        obtain ⟨pp, pc, rfl, hp1, hp2, -⟩ := (hpv.strs (by omega)).shape
        clear hpv
        go_wp2_with fail
        go_ret2
        exact .inr ⟨by rw [HR.out]; decide, by rw [HR.out]; rfl, ((kA.trans k2).trans k3).trans k4⟩
/-- the first type that refutes, in a new space -/
theorem firstNew (s : ByteArray) (ss tt : List ByteArray) (w w1 : World) (r : Nat) (c0 c1 c2 c3 c4 c5 : Value) (hz : srC s ss tt = 0) (k1 : Keeps w w1) (hr : w.heap.size ≤ r) (hF : SpF w1 r (lgN s) (seE ss tt) (elT (fmL (ss ++ tt))) (seN ss tt) c0 c1 c2 c3 c4 c5)
    (v u : Value) (hv : Strs w v ss) (hu : Strs w u tt) : Calls Tryz.prog 48 #[.pointer (some ⟨r, 0, none⟩), .agg #[v, u]] w1 fun e w' => e = .returned (.int .i64 (fstI (lgN s) (seE ss tt) (seN ss tt) (fmL ss) (fmL tt))) ∧ Keeps w w' := by
  have hk := srC_ok hz
  have hin := seE_in hk.hs hk.ht
  have kt : ∀ w', Touch w1 w' (fun i => i = r) → Keeps w w' := fun w' t => k1.touch t (fun i hi => by have : i = r := hi; omega)
  refine (l12First_any w1 r 0 (lgN s) (seN ss tt) (seE ss tt) (elT (fmL (ss ++ tt))) c0 c1 c2 c3 c4 c5 (.slice none 0 0) (.slice none 0 0) [] (ss ++ tt) ss tt v u w1 hF (seE_ok hk) (SpT.start hF _ 0) List.nodup_nil (fun k h => by cases h) (by have := hk.h1; have := hk.h2; simp; omega)
    (fun x hx => ⟨hin x (by simp [hx]), by simp [hx]⟩) (fun x hx => ⟨hin x (by simp [hx]), by simp [hx]⟩) (fun w' t => hv.keeps (kt w' t)) (fun w' t => hu.keeps (kt w' t))).mono ?_
  rintro e w' ⟨g, c6, c7, ks, rfl, hT, _⟩
  exact ⟨rfl, kt w' hT.tch⟩
--
def RetIS (w : World) (r : List Int) (c : Int) (e : Ending) (w' : World) : Prop := ∃ v, e = .returned (.tuple #[v, .int .i64 c]) ∧ Ints w' v r ∧ Keeps w w'
set_option maxRecDepth 100000 in
set_option maxHeartbeats 2000000 in
theorem specSurvivingTypes (s : ByteArray) (ss tt : List ByteArray) (v u : Value) (w : World) (hv : Strs w v ss) (hu : Strs w u tt) (hs : Mid ss) (ht : Mid tt) :
    Calls Tryz.prog 10 #[.string s, .agg #[v, u]] w (RetIS w (stR s ss tt) (srC s ss tt)) := by
  have kA := (Keeps.refl w).alloc (.cells #[v, u] 29)
  obtain ⟨c0, c1⟩ := BoxQ.made w v u 29
  have HC := hid (l12Code_any s ss tt v u _ (hv.keeps kA) (hu.keeps kA) hs ht)
  have HO := hid (fun a v wz (h : Ints wz v a) => l01Own_any a v wz h)
  have HR : Hid (stR s ss tt = if srC s ss tt = 0 then natI (stL s ss tt) else []) := hid rfl
  have HST : Hid (stL s ss tt = livL (lgN s) (seE ss tt) (seN ss tt)) := hid rfl
  have hlen : srC s ss tt = 0 → (natI (stL s ss tt)).length ≤ 256 := fun hz => by
    have h1 := livL_len (lgN s) (seE ss tt) (seN ss tt)
    have h2 := (srC_ok hz).hN
    rw [HST.out]
    simp [natI]; omega
  obtain ⟨p, c, rfl, _⟩ := hv.shape
  obtain ⟨q, c2, rfl, _⟩ := hu.shape
  clear hv hu hs ht
  by_cases hz : srC s ss tt = 0
  · rw [if_pos hz] at HR
    have hln := hlen hz
    rw [HST.out] at HR hln
    rw [HR.out, hz]
    have HZ := hid hz
    clear hz hlen HR HST
    go_enter Tryz.func10, Tryz.ntmps10
    go_wp2_with fail
    refine HC.out.mono ?_; rintro e w2 (⟨_, r, d0, d1, d2, d3, d4, d5, rfl, k2, hr, hF⟩ | ⟨hz, _, _⟩)
    · have x5 := hF.box.cell 5 (by simp)
      simp only [List.getElem_cons_succ, List.getElem_cons_zero] at x5
      have hi := hF.p5 w2 (Touch.refl _ _)
      have HO2 := hid (HO.out _ _ _ hi)
      obtain ⟨p5, q5, rfl, hp1, hp2, -⟩ := hi
      unfold maxLen at hp2
      clear hF
      generalize natI (livL (lgN s) (seE ss tt) (seN ss tt)) = l at *
      go_wp2_with fail
      refine HO2.out.mono ?_; rintro e w3 ⟨v3, rfl, hv3, k3⟩
      go_wp2_with fail
      go_ret2
      exact ⟨_, rfl, hv3.ints (by omega), (kA.trans k2).trans k3⟩
    · exact absurd HZ.out hz
  · rw [if_neg hz] at HR
    rw [HR.out]
    have hz' : (srC s ss tt != 0) = true := by simpa using hz
    have HZ := hid hz
    clear hz hlen HR HST
    go_enter Tryz.func10, Tryz.ntmps10
    go_wp2_with fail
    refine HC.out.mono ?_; rintro e w2 (⟨hz, _⟩ | ⟨_, rfl, k2⟩)
    · exact absurd hz HZ.out
    · go_wp2_with fail
      go_ret2
      exact ⟨_, rfl, (OwnI.nil w2 0).ints (by simp), kA.trans k2⟩
--
set_option maxRecDepth 100000 in
set_option maxHeartbeats 2000000 in
theorem specIsModalTheorem (s : ByteArray) (ss tt : List ByteArray) (v u : Value) (w : World) (hv : Strs w v ss) (hu : Strs w u tt) (hs : Mid ss) (ht : Mid tt) :
    Calls Tryz.prog 18 #[.string s, .agg #[v, u]] w fun e w' => e = .returned (.tuple #[.bool (mtR s ss tt), .int .i64 (srC s ss tt)]) ∧ Keeps w w' := by
  have kA := (Keeps.refl w).alloc (.cells #[v, u] 29)
  obtain ⟨c0, c1⟩ := BoxQ.made w v u 29
  have HC := hid (l12Code_any s ss tt v u _ (hv.keeps kA) (hu.keeps kA) hs ht)
  have HF := hid (fun w1 r d0 d1 d2 d3 d4 d5 hz k1 hr hF => firstNew s ss tt _ w1 r d0 d1 d2 d3 d4 d5 hz k1 hr hF v u (hv.keeps kA) (hu.keeps kA))
  have HR : Hid (mtR s ss tt = if srC s ss tt = 0 then mtB s ss tt else false) := hid rfl
  have HB : Hid (mtB s ss tt = decide (fstI (lgN s) (seE ss tt) (seN ss tt) (fmL ss) (fmL tt) < 0)) := hid rfl
  obtain ⟨p, c, rfl, _⟩ := hv.shape
  obtain ⟨q, c2, rfl, _⟩ := hu.shape
  clear hv hu hs ht
  by_cases hz : srC s ss tt = 0
  · rw [if_pos hz, HB.out] at HR
    rw [HR.out, hz]
    have HZ := hid hz
    clear hz HR HB
    generalize fstI (lgN s) (seE ss tt) (seN ss tt) (fmL ss) (fmL tt) = j at *
    go_enter Tryz.func18, Tryz.ntmps18
    go_wp2_with fail
    refine HC.out.mono ?_; rintro e w2 (⟨hz, r, d0, d1, d2, d3, d4, d5, rfl, k2, hr, hF⟩ | ⟨hz, _, _⟩)
    · have HF2 := hid (HF.out w2 r d0 d1 d2 d3 d4 d5 hz k2 hr hF)
      have e0 := k2.cell c0
      have e1 := k2.cell c1
      clear hF hz HF
      go_wp2_with fail
      refine HF2.out.mono ?_; rintro e w3 ⟨rfl, k3⟩
      go_wp2_with fail
      go_ret2
      exact ⟨rfl, kA.trans k3⟩
    · exact absurd HZ.out hz
  · rw [if_neg hz] at HR
    rw [HR.out]
    have hz' : (srC s ss tt != 0) = true := by simpa using hz
    have HZ := hid hz
    clear hz HR HF HB
    go_enter Tryz.func18, Tryz.ntmps18
    go_wp2_with fail
    refine HC.out.mono ?_; rintro e w2 (⟨hz, _⟩ | ⟨_, rfl, k2⟩)
    · exact absurd hz HZ.out
    · go_wp2_with fail
      go_ret2
      exact ⟨rfl, kA.trans k2⟩
end Go.Proofs.YtgnehffglhbggaaGreat
/- The reference's LogicsOf. -/
namespace Go.Proofs.YtgnehffglhbggaaGreat
open Go.RowKit
--
def RetSS (w : World) (r : List ByteArray) (c : Int) (e : Ending) (w' : World) : Prop := ∃ v, e = .returned (.tuple #[v, .int .i64 c]) ∧ Strs w' v r ∧ Keeps w w'
theorem CodeR.ok {w w' : World} {s : ByteArray} {ss tt : List ByteArray} {e : Ending} (h : CodeR w s ss tt e w') (hz : srC s ss tt = 0) : ∃ r, e = .returned (.tuple #[.pointer (some ⟨r, 0, none⟩), .int .i64 0]) ∧ Keeps w w' ∧ w.heap.size ≤ r ∧ ∃ c0 c1 c2 c3 c4 c5, SpF w' r (lgN s) (seE ss tt) (elT (fmL (ss ++ tt))) (seN ss tt) c0 c1 c2 c3 c4 c5 := by
  rcases h with ⟨_, r, c0, c1, c2, c3, c4, c5, h1, h2, h3, h4⟩ | ⟨h, _⟩
  · exact ⟨r, h1, h2, h3, c0, c1, c2, c3, c4, c5, h4⟩
  · exact absurd hz h
theorem CodeR.err {w w' : World} {s : ByteArray} {ss tt : List ByteArray} {e : Ending} (h : CodeR w s ss tt e w') (hz : srC s ss tt ≠ 0) : e = .returned (.tuple #[.pointer none, .int .i64 (srC s ss tt)]) ∧ Keeps w w' := by
  rcases h with ⟨h, _⟩ | ⟨_, h1, h2⟩
  · exact absurd h hz
  · exact ⟨h1, h2⟩
theorem names8_lg {i : Nat} (h : i < names8.length) : isLg names8[i] = true := by
  unfold isLg
  exact @decide_eq_true _ (Classical.propDecidable _) (List.getElem_mem h)
set_option maxRecDepth 100000 in
set_option maxHeartbeats 4000000 in
theorem specLogicsOf (ss tt : List ByteArray) (v u : Value) (w : World) (hv : Strs w v ss) (hu : Strs w u tt) (hs : Mid ss) (ht : Mid tt) :
    Calls Tryz.prog 20 #[.agg #[v, u]] w (RetSS w (loR ss tt) (srC (lgS 0) ss tt)) := by
  have kA := (Keeps.refl w).alloc (.cells #[v, u] 29)
  obtain ⟨c0, c1⟩ := BoxQ.made w v u 29
  have HC := hid (fun s wz (kz : Keeps w wz) => l12Code_any s ss tt v u wz (hv.keeps kz) (hu.keeps kz) hs ht)
  have HF := hid (fun s wz (kz : Keeps w wz) w1 r d0 d1 d2 d3 d4 d5 hz k1 hr hF => firstNew s ss tt wz w1 r d0 d1 d2 d3 d4 d5 hz k1 hr hF v u (hv.keeps kz) (hu.keeps kz))
  have HR : Hid (loR ss tt = if srC (lgS 0) ss tt = 0 then names8.filter (fun s => mtB s ss tt) else []) := hid rfl
  have HB : Hid (∀ s, mtB s ss tt = decide (fstI (lgN s) (seE ss tt) (seN ss tt) (fmL ss) (fmL tt) < 0)) := hid (fun s => rfl)
  have HALL := hid (fun (h : srC (lgS 0) ss tt = 0) i (hi : i < names8.length) => srC_all h (names8_lg hi))
  have H0 : Hid (∀ h : 0 < names8.length, names8[0] = lgS 0) := hid (fun h => rfl)
  have hO := World.ownsRow_lit (base := (w.alloc (.cells #[v, u] 29)).heap.size) (e := 9) (size := 1) (w.alloc (.cells #[v, u] 29)) #[.string ⟨#[75]⟩, .string ⟨#[68]⟩, .string ⟨#[84]⟩, .string ⟨#[75, 52]⟩, .string ⟨#[83, 52]⟩, .string ⟨#[71, 76]⟩, .string ⟨#[83, 53]⟩, .string ⟨#[75, 66]⟩] 8 (Nat.le_refl _) (by simp [maxLen]) (by simp)
  have hNM : OwnS _ _ _ names8 := hO
  have k2 := (Keeps.refl (w.alloc (.cells #[v, u] 29))).alloc (.cells #[.string ⟨#[75]⟩, .string ⟨#[68]⟩, .string ⟨#[84]⟩, .string ⟨#[75, 52]⟩, .string ⟨#[83, 52]⟩, .string ⟨#[71, 76]⟩, .string ⟨#[83, 53]⟩, .string ⟨#[75, 66]⟩] 9)
  have hE := OwnS.empty ((w.alloc (.cells #[v, u] 29)).alloc (.cells #[.string ⟨#[75]⟩, .string ⟨#[68]⟩, .string ⟨#[84]⟩, .string ⟨#[75, 52]⟩, .string ⟨#[83, 52]⟩, .string ⟨#[71, 76]⟩, .string ⟨#[83, 53]⟩, .string ⟨#[75, 66]⟩] 9))
  have hNS := hNM.strs (by simp [names8])
  rw [size1] at hNS
  rw [size1, size1] at hE
  have hwb : ((w.alloc (.cells #[v, u] 29)).alloc (.cells #[.string ⟨#[75]⟩, .string ⟨#[68]⟩, .string ⟨#[84]⟩, .string ⟨#[75, 52]⟩, .string ⟨#[83, 52]⟩, .string ⟨#[71, 76]⟩, .string ⟨#[83, 53]⟩, .string ⟨#[75, 66]⟩] 9)).heap.size = w.heap.size + 1 + 1 := by rw [size1, size1]
  have HNS := hid hNS
  have HES := hid hE
  have kk := kA.trans k2
  have e0 := k2.cell c0
  have e1 := k2.cell c1
  have h8 : names8.length = 8 := rfl
  have HFT := hid (fun (p : ByteArray → Bool) k (h : k < names8.length) => filter_take p names8 k h)
  have HFE : Hid (∀ p : ByteArray → Bool, (names8.take 8).filter p = names8.filter p) := hid (fun p => by rw [← h8, List.take_length])
  have HF0 : Hid (∀ p : ByteArray → Bool, (names8.take 0).filter p = []) := hid (fun p => by simp)
  have HFL : Hid (∀ (p : ByteArray → Bool) k, ((names8.take k).filter p).length ≤ 8) := hid (fun p k => by
    have h1 := List.length_filter_le p (names8.take k)
    rw [List.length_take] at h1
    omega)
  obtain ⟨p, c, rfl, _⟩ := hv.shape
  obtain ⟨q, c2, rfl, _⟩ := hu.shape
  clear hv hu hs ht hO hNM hNS hE c0 c1 k2
  generalize names8 = nm at *
  have HL8 := hid h8
  clear h8
  generalize hgm : (fun s => mtB s ss tt) = pr at *
  have HGM : Hid (∀ s, pr s = decide (fstI (lgN s) (seE ss tt) (seN ss tt) (fmL ss) (fmL tt) < 0)) := hid (fun s => by rw [← hgm]; exact HB.out s)
  clear hgm HB
  by_cases hz : srC (lgS 0) ss tt = 0
  · rw [if_pos hz] at HR
    rw [HR.out, hz]
    have HZ := hid hz
    clear hz HR
    go_enter Tryz.func20, Tryz.ntmps20
    go_wp2_with fail
    have kE0 := (Keeps.refl ((w.alloc (.cells #[.slice p ss.length c, .slice q tt.length c2] 29)).alloc (.cells #[.string ⟨#[75]⟩, .string ⟨#[68]⟩, .string ⟨#[84]⟩, .string ⟨#[75, 52]⟩, .string ⟨#[83, 52]⟩, .string ⟨#[71, 76]⟩, .string ⟨#[83, 53]⟩, .string ⟨#[75, 66]⟩] 9))).alloc (.cells #[] 9)
    generalize (w.alloc (.cells #[.slice p ss.length c, .slice q tt.length c2] 29)).alloc (.cells #[.string ⟨#[75]⟩, .string ⟨#[68]⟩, .string ⟨#[84]⟩, .string ⟨#[75, 52]⟩, .string ⟨#[83, 52]⟩, .string ⟨#[71, 76]⟩, .string ⟨#[83, 53]⟩, .string ⟨#[75, 66]⟩] 9) = wc at *
    go_loopw [2, 3, 5, 6] (fun a b o i' wr => ∃ i : Nat, i ≤ 8 ∧ i' = .int .i64 i ∧ a = .slice none 0 0 ∧ b = .int .i64 0 ∧ OwnS wr (w.heap.size + 1 + 1) o ((nm.take i).filter pr) ∧ Keeps wc wr) (fun _ _ _ i' _ => 8 - (intOf i').toNat)
    case atStart => exact ⟨0, by omega, rfl, rfl, rfl, by rw [HF0.out]; exact HES.out, kE0⟩
    case round =>
      obtain ⟨i, hi, rfl, rfl, rfl, hown, kw⟩ := hrel
      clear HES kE0
      by_cases hlt : i < 8
      · have hlt' : (i : Int) < 8 := by omega
        have hin : i < nm.length := by rw [HL8.out]; exact hlt
        obtain ⟨b3, o3, e9, hn3⟩ := (HNS.out.keeps kw).get i hin
        simp only [Option.some.injEq, Addr.mk.injEq] at e9
        obtain ⟨rfl, rfl, -⟩ := e9
        rw [Nat.zero_add] at hn3
        have hx0 : i = 0 → nm[i] = lgS 0 := fun h => by subst h; exact H0.out hin
        have hxz : srC (lgS 0) ss tt = 0 → srC nm[i] ss tt = 0 := fun h => HALL.out h i hin
        have HX0 := hid hx0
        have HXZ := hid hxz
        have HFTi := hid (HFT.out pr i hin)
        have HGi := hid (HGM.out nm[i])
        clear hx0 hxz
        generalize nm[i] = x at *
        have kd := (Keeps.refl wr).drew
        have kwd := kw.trans kd
        have HCX := hid ((HC.out x wr.drew (kk.trans kwd)).mono (fun e w' h => h.ok (HXZ.out HZ.out)))
        have f0 := kwd.cell e0
        have f1 := kwd.cell e1
        have hown2 := hown.keeps kd
        have hn4 := kd.cell hn3
        go_wp2_with fail
        have HKWD := hid kwd
        clear hn3 hown kd kw
        go_region_held3 (fun w' => w'.cell? ⟨w.heap.size + 1, i, none⟩ = some (.string x) ∧ w'.cell? ⟨w.heap.size, 0, none⟩ = some (.slice p ss.length c) ∧ w'.cell? ⟨w.heap.size, 1, none⟩ = some (.slice q tt.length c2)) (first | exact ⟨hn4, f0, f1⟩ | exact ⟨hn5, g0, g1⟩) (first | (go_at_call 43; refine HCX.out.mono ?_; rintro e w2 ⟨r, rfl, k2, hr, hF⟩; have hn5 := k2.cell hn4; have g0 := k2.cell f0; have g1 := k2.cell f1))
        obtain ⟨d0, d1, d2, d3, d4, d5, hF⟩ := hF
        · have HF2 := hid (HF.out x wr.drew (kk.trans HKWD.out) w2 r d0 d1 d2 d3 d4 d5 (HXZ.out HZ.out) k2 hr hF)
          clear hF
          generalize fstI (lgN x) (seE ss tt) (seN ss tt) (fmL ss) (fmL tt) = j at *
          go_wp2_with fail
          refine HF2.out.mono ?_; rintro e w3 ⟨rfl, k3⟩
          have hown3 := hown2.keeps k3
          have hn5 := k3.cell hn4
          by_cases hj : j < 0
          · have hpx : pr x = true := by rw [HGi.out]; exact decide_eq_true hj
            have HPX : Hid ((nm.take (i + 1)).filter pr = (nm.take i).filter pr ++ [x]) := hid (by rw [HFTi.out, if_pos hpx])
            have hfl := HFL.out pr i
            clear hpx
            generalize hfr : (nm.take i).filter pr = fr at *
            have HFR := hid hfr; clear hfr
            have hs3 := (HKWD.out.trans k3).size
            go_wp2_with (at_builtin; refine appS rfl _ _ rfl (w.heap.size + 1 + 1) _ fr rfl (hown3.keeps ((Keeps.refl w3).alloc _)) _ [x] rfl (Strs.lit1 w3 x) (by simp; omega) (by simp; omega) ?_; intro v7 w7 hv7 hg7 hr7; have k7 := ((HKWD.out.trans k3).alloc (.cells #[.string x] 9)).grown hg7 (fun q hq => by have := hr7 q hq; omega))
            go_roundw
            case rel => exact ⟨i + 1, by omega, by go_num, rfl, rfl, by rw [HPX.out]; exact hv7, k7⟩
            case measure => simp [intOf]; omega
          · have hpx : pr x = false := by rw [HGi.out]; exact decide_eq_false hj
            have HPX : Hid ((nm.take (i + 1)).filter pr = (nm.take i).filter pr) := hid (by rw [HFTi.out, if_neg (by rw [hpx]; simp), List.append_nil])
            clear hpx
            go_wp2_with fail
            go_roundw
            case rel => exact ⟨i + 1, by omega, by go_num, rfl, rfl, by rw [HPX.out]; exact hown3, HKWD.out.trans k3⟩
            case measure => simp [intOf]; omega
      · obtain rfl : i = 8 := by omega
        have hlt' : ¬ ((8 : Int) < 8) := by omega
        rw [HFE.out] at hown
        have hll : (nm.filter pr).length ≤ 8 := by rw [← HFE.out]; exact HFL.out pr 8
        have HS := hid (hown.strs (by omega))
        clear hown
        go_wp2_with fail
        go_ret2
        exact ⟨_, rfl, HS.out, kk.trans kw⟩
  · rw [if_neg hz] at HR
    rw [HR.out]
    have HZ := hid hz
    clear hz HR
    have h0 : 0 < nm.length := by rw [HL8.out]; decide
    obtain ⟨b3, o3, e9, hn3⟩ := HNS.out.get 0 h0
    simp only [Option.some.injEq, Addr.mk.injEq] at e9
    obtain ⟨rfl, rfl, -⟩ := e9
    rw [H0.out h0, Nat.zero_add] at hn3
    have HN3 := hid hn3; clear hn3
    generalize hx0 : lgS 0 = x0 at *
    clear hx0 HALL HF HGM HFT HFE HF0 HFL H0
    generalize hcd : srC x0 ss tt = code at *
    have HCD := hid hcd; clear hcd
    have hz' : (code != 0) = true := by simpa using HZ.out
    go_enter Tryz.func20, Tryz.ntmps20
    go_wp2_with fail
    have kE0 := (Keeps.refl ((w.alloc (.cells #[.slice p ss.length c, .slice q tt.length c2] 29)).alloc (.cells #[.string ⟨#[75]⟩, .string ⟨#[68]⟩, .string ⟨#[84]⟩, .string ⟨#[75, 52]⟩, .string ⟨#[83, 52]⟩, .string ⟨#[71, 76]⟩, .string ⟨#[83, 53]⟩, .string ⟨#[75, 66]⟩] 9))).alloc (.cells #[] 9)
    generalize (w.alloc (.cells #[.slice p ss.length c, .slice q tt.length c2] 29)).alloc (.cells #[.string ⟨#[75]⟩, .string ⟨#[68]⟩, .string ⟨#[84]⟩, .string ⟨#[75, 52]⟩, .string ⟨#[83, 52]⟩, .string ⟨#[71, 76]⟩, .string ⟨#[83, 53]⟩, .string ⟨#[75, 66]⟩] 9) = wc at *
    go_loopw [2, 3, 5, 6] (fun a b o i' wr => i' = .int .i64 0 ∧ a = .slice none 0 0 ∧ b = .int .i64 0 ∧ Keeps wc wr) (fun _ _ _ i' _ => 8 - (intOf i').toNat)
    case atStart => exact ⟨rfl, rfl, rfl, kE0⟩
    case round =>
      obtain ⟨rfl, rfl, rfl, kw⟩ := hrel
      have kd := (Keeps.refl wr).drew
      have kwd := kw.trans kd
      have HCX := hid ((HC.out x0 wr.drew (kk.trans kwd)).mono (fun e w' h => h.err (by rw [HCD.out]; exact HZ.out)))
      rw [HCD.out] at HCX
      have f0 := kwd.cell e0
      have f1 := kwd.cell e1
      have hn4 := kwd.cell HN3.out
      go_wp2_with fail
      have HKWD := hid kwd
      clear kd kw
      go_region_held3 (fun w' => w'.cell? ⟨w.heap.size + 1, 0, none⟩ = some (.string x0) ∧ w'.cell? ⟨w.heap.size, 0, none⟩ = some (.slice p ss.length c) ∧ w'.cell? ⟨w.heap.size, 1, none⟩ = some (.slice q tt.length c2)) (first | exact ⟨hn4, f0, f1⟩ | exact ⟨hn5, g0, g1⟩) (first | (go_at_call 43; refine HCX.out.mono ?_; rintro e w2 ⟨rfl, k2⟩; have hn5 := k2.cell hn4; have g0 := k2.cell f0; have g1 := k2.cell f1))
      · skip
        go_wp2_with fail
        go_ret2
        exact ⟨_, rfl, (OwnS.nil w2 0).strs (by simp), (kk.trans HKWD.out).trans k2⟩
end Go.Proofs.YtgnehffglhbggaaGreat
/- From a walk's end to a row's end: a law that answers true and keeps the memory meets its row. -/
namespace Go.Proofs.YtgnehffglhbggaaGreat
open Go.ChangeShapes Go.WideShapes Go.ChangeAt Go.RowKit Go.Deep

theorem own : ownKnob Tryz.prog.godebug = none := by kernel_rfl
theorem laidOut : laidOutB Tryz.prog = true := by kernel_rfl

section
variable {H : Type} {enc : TypeId × Value → H}
theorem trodAll_stays {W W' : World} (hk : Keeps W W') : ∀ (ts : List TypeId) (vs : List Value) (ds : List (DataW H)) (ps : List MemPlace),
    (∀ t ∈ ts, Tryz.prog.readableRec t = true ∧ t < Tryz.prog.types.size) → (∀ x ∈ ps, x.block < W.heap.size) →
    DataW.TrodAll enc Tryz.prog W 0 (fun _ => true) true ts vs ds ps → DataW.TrodAll enc Tryz.prog W' 0 (fun b => decide (b < W.heap.size)) true ts vs ds ps := by
  intro ts
  induction ts with
  | nil =>
    intro vs ds ps _ _ h
    cases vs <;> cases ds <;> simp [DataW.TrodAll] at h ⊢
    exact h
  | cons t ts ih =>
    intro vs ds ps hr hlt h
    obtain ⟨v, vs', d, ds', p, q, rfl, rfl, rfl, h1, h2⟩ := trodAll_cons h
    obtain ⟨hr1, hr2⟩ := hr t (List.mem_cons_self ..)
    have g1 := Below.trod laidOut hr1 hr2 h1 hk (fun x hx => hlt x (List.mem_append.2 (.inl hx)))
    have g2 := ih _ _ _ (fun t ht => hr t (List.mem_cons_of_mem _ ht)) (fun x hx => hlt x (List.mem_append.2 (.inr hx))) h2
    exact trodAll_cons_mk g1 g2
theorem lawPost {f : Func} {s : ChangeSpec} {W W' : World} {args : Array Value} {ds gs : List (DataW H)} {before : List MemPlace}
    (hW : DataW.Whole enc Tryz.prog f.params.toList s.vars false W args.toList ds gs before) (hvars : s.vars = [])
    (hfn : s.fn H (ds ++ gs) = { results := [.lit (.bool true)], args := ds }) (hres : f.resultTypes = #[4])
    (hr : ∀ t ∈ f.params.toList, Tryz.prog.readableRec t = true ∧ t < Tryz.prog.types.size) (hk : Keeps W W') :
    s.post enc Tryz.prog f false true false false W args (.bool true) W' := by
  have hW' := hW
  obtain ⟨p, q, hA, hV, rfl, _, _⟩ := hW
  have hlt : ∀ x ∈ p, x.block < W.heap.size := fun x hx => hW'.lt x (List.mem_append.2 (.inl hx))
  refine ⟨ds, gs, _, [], p, [], hW', ?_, ?_, ?_, Below.frame hk _, fun h => by cases h⟩
  · rw [hfn, hres]
    exact trodAll_cons_mk (shut_bool Tryz.underlying4 _) trodAll_mk0
  · rw [hfn]
    exact trodAll_stays hk _ _ _ _ hr hlt hA
  · rw [hfn, hvars]
    rfl
end
--
set_option maxRecDepth 100000 in
/-- a slice of the law's nodes -/
theorem open_nodes {H : Type} {enc : TypeId × Value → H} {W : World} {v : Value} {d : DataW H} {ps : List MemPlace} {r : Reach} {b0 : Nat} (hval : Value.okWide Tryz.prog W r b0 43 v)
    (h : DataW.Trod enc Tryz.prog W 0 (fun _ => true) true 43 v d ps) :
    ∃ p n cap, v = .slice p n cap ∧ n ≤ maxLen ∧ (n ≤ 2147483648 → ∃ a : List Nd, a.length = n ∧ Nds W v a) := by
  obtain ⟨p, n, cap, rfl⟩ := okWide_slice Tryz.underlying43 hval
  obtain ⟨fuel, hf⟩ := h
  have hmax : n ≤ maxLen := by
    rcases open_slice Tryz.underlying43 hf with ⟨hcs, _⟩ | ⟨a, len, cap', m, n', D, Pl, hcs, _, hl, hm, _⟩
    · simp [Value.cells] at hcs
      omega
    · simp [Value.cells] at hcs
      omega
  refine ⟨p, n, cap, rfl, hmax, fun hn => ?_⟩
  rcases open_slice Tryz.underlying43 hf with ⟨hcs, _⟩ | ⟨a, len, cap', m, n', D, Pl, hcs, _, hl, hm, hmm, _, hi⟩
  · simp [Value.cells] at hcs
    obtain ⟨rfl, rfl, rfl⟩ := hcs
    exact ⟨[], rfl, none, 0, rfl, by simp, by simp [maxLen], At.nil _ _, by simp⟩
  · simp [Value.cells] at hcs
    obtain ⟨rfl, rfl, rfl⟩ := hcs
    simp at hmm
    subst hmm
    have hC : Tryz.prog.cellsOf 91 = 2 := by kernel_rfl
    have hnode : ∀ i, i < n → ∃ x : Nd, W.cell? (a.add (i * 2)) = some (.int .i64 x.k) ∧ W.cell? (a.add (i * 2 + 1)) = some (.int .i64 x.s) := by
      intro i hin
      obtain ⟨cs', hc, ht'⟩ := hi i (by omega)
      rw [hC] at hc
      obtain ⟨ys, n'', hn'', hy, hlen, hyl, hf'⟩ := DataW.trod_struct Tryz.underlying91 ht'
      obtain ⟨_, hcl, hat⟩ := World.cells?_some hc
      match cs', hcl with
      | [c0, c1], _ =>
        have f0 := hf' 0 _ rfl
        have f1 := hf' 1 _ rfl
        have a0 := hat 0 (by omega)
        have a1 := hat 1 (by omega)
        rw [add_add] at a0 a1
        have hone : oneCellFields Tryz.prog (match Tryz.prog.underlying 91 with | some (.struct fs) => fs | _ => #[]) = true := by kernel_rfl
        rw [Tryz.underlying91] at hone
        obtain ⟨o0, k0⟩ := hone_of hone 0 _ rfl
        obtain ⟨o1, k1⟩ := hone_of hone 1 _ rfl
        rw [o0, k0] at f0
        rw [o1, k1] at f1
        have hyl2 : ys.length = 2 := hyl
        obtain ⟨x, hx, _⟩ := DataW.trod_int Tryz.underlying2 (f0.trans (List.getElem?_eq_getElem (by omega)))
        obtain ⟨y, hy, _⟩ := DataW.trod_int Tryz.underlying2 (f1.trans (List.getElem?_eq_getElem (by omega)))
        simp at hx hy
        subst hx; subst hy
        exact ⟨⟨x, y⟩, by simpa using a0, by simpa using a1⟩
    have hex : ∃ f : Nat → Nd, ∀ i, i < n → W.cell? (a.add (i * 2)) = some (.int .i64 (f i).k) ∧ W.cell? (a.add (i * 2 + 1)) = some (.int .i64 (f i).s) := by
      classical
      refine ⟨fun i => if h : i < n then Classical.choose (hnode i h) else ⟨0, 0⟩, fun i h => ?_⟩
      simp only [dif_pos h]
      exact Classical.choose_spec (hnode i h)
    obtain ⟨f, hfs⟩ := hex
    refine ⟨(List.range n).map f, by simp, ?_⟩
    refine ⟨some a, m, by simp, by simpa using hl, hm, ?_, by simpa using hn⟩
    intro j hj
    rw [ndCells_length] at hj
    simp only [List.length_map, List.length_range] at hj
    obtain ⟨b, off, spot⟩ := a
    have hs : spot = none := by
      obtain ⟨h1, _⟩ := hfs 0 (by omega)
      simpa [Addr.add] using World.cell?_spot h1
    subst hs
    refine ⟨b, off, rfl, ?_⟩
    have hadd : ∀ k, (⟨b, off, none⟩ : Addr).add k = ⟨b, off + k, none⟩ := fun k => by unfold Addr.add; split <;> simp_all
    obtain ⟨h1, h2⟩ := hfs (j / 2) (by omega)
    obtain ⟨g1, g2⟩ := ndCells_get ((List.range n).map f) (j / 2) (by simp; omega)
    rw [hadd] at h1 h2
    have hj2 : j = j / 2 * 2 ∨ j = j / 2 * 2 + 1 := by omega
    have hgj : (ndCells ((List.range n).map f))[j]? = W.cell? ⟨b, off + j, none⟩ := by
      rcases hj2 with e | e
      · rw [e, g1, h1]; simp
      · rw [e, g2, h2]; simp
    rw [← hgj, List.getElem?_eq_getElem]
end Go.Proofs.YtgnehffglhbggaaGreat
/- Arguments of the laws: numbers' lists, posets, frames, models. -/
namespace Go.Proofs.YtgnehffglhbggaaGreat
open Go.ChangeShapes Go.WideShapes Go.ChangeAt Go.RowKit Go.Deep
section
variable {H : Type} {enc : TypeId × Value → H} {W : World}
/-- a slice of numbers of whatever length -/
def WkI (w : World) (v : Value) : Prop := ∃ p n cap, v = .slice p n cap ∧ n ≤ maxLen ∧ (n ≤ 2147483648 → ∃ a : List Int, a.length = n ∧ Ints w v a)
theorem choose_allI {α : Type} {n : Nat} {P : Nat → α → Prop} [Inhabited α] (h : ∀ i, i < n → ∃ x, P i x) : ∃ l : List α, l.length = n ∧ ∀ i (hi : i < l.length), P i l[i] := by
  classical
  refine ⟨(List.range n).map fun i => if h' : i < n then Classical.choose (h i h') else default, by simp, fun i hi => ?_⟩
  have hi' : i < n := by simpa using hi
  simp only [List.getElem_map, List.getElem_range, dif_pos hi']
  exact Classical.choose_spec (h i hi')
set_option maxRecDepth 100000 in
theorem wkI_trod {u : Value} {fuel : Nat} {x : DataW H × List MemPlace} (hf : DataW.trod enc Tryz.prog W 0 (fun _ => true) true fuel 26 [u] = some x) : WkI W u := by
  have hC : Tryz.prog.cellsOf 2 = 1 := by kernel_rfl
  rcases open_slice1 Tryz.underlying26 hC hf with ⟨hcs, _⟩ | ⟨a, n, cap, m, n', V, D, Pl, hcs, _, hl, hm, hmm, _, hi⟩
  · obtain rfl : u = .slice none 0 0 := by simpa using hcs
    exact ⟨none, 0, 0, rfl, by simp [maxLen], fun _ => ⟨[], rfl, none, 0, rfl, by simp, by simp [maxLen], At.nil _ _, by simp⟩⟩
  · obtain rfl : u = .slice (some a) n cap := by simpa using hcs
    refine ⟨some a, n, cap, rfl, by omega, fun hn => ?_⟩
    simp at hmm
    have hel : ∀ i, i < n → ∃ x : Int, W.cell? (a.add i) = some (.int .i64 x) := fun i hin => by
      obtain ⟨h1, h2⟩ := hi i (by omega)
      obtain ⟨x, hx, _⟩ := DataW.trod_int Tryz.underlying2 h2
      simp at hx
      exact ⟨x, by rw [h1, hx]⟩
    have hspot : 0 < n → ∃ b off, a = ⟨b, off, none⟩ := fun h0 => by
      obtain ⟨b, off, spot⟩ := a
      obtain ⟨x, hx⟩ := hel 0 h0
      have hs : spot = none := by simpa [Addr.add] using World.cell?_spot hx
      subst hs
      exact ⟨b, off, rfl⟩
    have hadd : ∀ b off k, (⟨b, off, none⟩ : Addr).add k = ⟨b, off + k, none⟩ := fun b off k => by unfold Addr.add; split <;> simp_all
    obtain ⟨l, hnl, hns⟩ := choose_allI (α := Int) (P := fun i x => W.cell? (a.add i) = some (.int .i64 x)) (n := n) hel
    subst hnl
    refine ⟨l, rfl, some a, cap, rfl, hl, hm, ?_, hn⟩
    intro j hj
    have hj' : j < l.length := by simpa [intCells] using hj
    obtain ⟨b, off, rfl⟩ := hspot (by omega)
    refine ⟨b, off, rfl, ?_⟩
    have := hns j hj'
    rw [hadd] at this
    rw [this]; simp [intCells]
set_option maxRecDepth 100000 in
theorem open_wkI {r : Reach} {b0 : Nat} {v : Value} {d : DataW H} {ps : List MemPlace} (hval : Value.okWide Tryz.prog W r b0 26 v)
    (h : DataW.Trod enc Tryz.prog W 0 (fun _ => true) true 26 v d ps) : WkI W v := by
  obtain ⟨p, n, cap, rfl⟩ := okWide_slice Tryz.underlying26 hval
  obtain ⟨fuel, hf⟩ := h
  exact wkI_trod hf
end
end Go.Proofs.YtgnehffglhbggaaGreat
/- Walks: the laws' own comparisons and marks of number lists and posets. -/
namespace Go.Proofs.YtgnehffglhbggaaGreat
open Go.RowKit

--
set_option maxHeartbeats 400000 in
theorem eqInt64S_any (a b : List Int) (va vb : Value) (w : World) (hva : Ints w va a) (hvb : Ints w vb b) :
    Calls Tryz.prog 13 #[va, vb] w fun e w' => e = .returned (.bool (decide (a = b))) ∧ Keeps w w' := by
  have hva0 := hva
  have hvb0 := hvb
  obtain ⟨pa, ca, rfl, hlea, hmxa, _, hlena⟩ := hva
  obtain ⟨pb, cb, rfl, hleb, hmxb, _, hlenb⟩ := hvb
  unfold maxLen at hmxa hmxb
  by_cases hl : a.length = b.length
  · have hl' : ((a.length : Int) != (b.length : Int)) = false := by simp [hl]
    have HL := hid hl; clear hl
    go_enter Tryz.func13, Tryz.ntmps13
    go_wp2
    go_loopw [4, 5] (fun r i' wr => ∃ k : Nat, k ≤ a.length ∧ a.take k = b.take k ∧ Keeps w wr ∧ i' = .int .i64 k ∧ r = .bool false) (fun _ i _ => a.length - (intOf i).toNat)
    case atStart => exact ⟨0, by omega, rfl, Keeps.refl w, rfl, rfl⟩
    case round =>
      obtain ⟨k, hk, htk, kw, rfl, rfl⟩ := hrel
      have HT := hid htk; clear htk
      clear hl'
      by_cases hlt : k < a.length
      · have hltb : k < b.length := by have := HL.out; omega
        obtain ⟨_, _, e1, _, _, hata, _⟩ := hva0.keeps kw
        obtain ⟨_, _, e2, _, _, hatb, _⟩ := hvb0.keeps kw
        cases e1; cases e2
        obtain ⟨b1, o1, rfl, h1⟩ := hata.int k hlt
        obtain ⟨b2, o2, rfl, h3⟩ := hatb.int k hltb
        clear hata hatb hva0 hvb0
        have hlt' : (k : Int) < a.length := by omega
        have hltb' : (k : Int) < b.length := by omega
        by_cases he : a[k] = b[k]
        · have hd : (a[k] != b[k]) = false := by simp [he]
          have HE := hid he; clear he
          go_wp2_with fail
          go_quiet (fail)
          go_wp2
          go_roundw
          case rel => exact ⟨k + 1, by omega, by rw [List.take_succ_eq_append_getElem hlt, List.take_succ_eq_append_getElem hltb, HT.out, HE.out], kw.drewN _, by go_num, rfl⟩
          case measure => simp [intOf]; omega
        · have hd : (a[k] != b[k]) = true := by simp [he]
          have HE := hid he; clear he
          go_wp2_with fail
          go_quiet (fail)
          go_wp2
          go_ret
          refine ⟨ret_bool ?_, kw.drewN _⟩
          symm; rw [decide_eq_false_iff_not]
          rintro rfl; exact HE.out rfl
      · go_wp2
        go_ret
        refine ⟨ret_bool ?_, kw⟩
        symm; rw [decide_eq_true_eq]
        have h1 := HL.out; have h2 := HT.out
        rw [List.take_of_length_le (by omega), List.take_of_length_le (by omega)] at h2
        exact h2
  · have hl' : ((a.length : Int) != (b.length : Int)) = true := by simp; omega
    have HL := hid hl; clear hl
    go_enter Tryz.func13, Tryz.ntmps13
    go_wp2
    go_ret
    refine ⟨ret_bool ?_, Keeps.refl _⟩
    symm; rw [decide_eq_false_iff_not]
    rintro rfl; exact HL.out rfl
--
/-- the marks of a list of numbers, counted from k on -/
def marksI : Nat → Int → List Int
  | 0, _ => []
  | n + 1, k => k :: marksI n (k + 1)
theorem marksI_length (n : Nat) : ∀ k, (marksI n k).length = n := by
  induction n with
  | zero => intro k; rfl
  | succ n ih => intro k; simp [marksI, ih]
theorem marksI_succ (n : Nat) : ∀ k, marksI (n + 1) k = marksI n k ++ [k + n] := by
  induction n with
  | zero => intro k; simp [marksI]
  | succ n ih =>
    intro k
    rw [marksI, ih (k + 1), marksI]
    simp; omega
theorem marksI_get (n : Nat) : ∀ (k : Int) (i : Nat) (h : i < (marksI n k).length), (marksI n k)[i] = k + i := by
  induction n with
  | zero => intro k i h; simp [marksI] at h
  | succ n ih =>
    intro k i h
    cases i with
    | zero => simp [marksI]
    | succ i =>
      have := ih (k + 1) i (by simpa [marksI] using h)
      simp only [marksI, List.getElem_cons_succ, this]
      simp; omega
set_option maxHeartbeats 1000000 in
theorem markInt64S_any (a : List Int) (v : Value) (k0 : Int) (w : World) (B : Nat) (hv : OwnI w B v a) (hl : a.length ≤ 2147483648) (hk0 : 0 ≤ k0) (hk1 : k0 ≤ 4294967296) :
    Calls Tryz.prog 16 #[v, .int .i64 k0] w fun e w' => e = .returned (.int .i64 (k0 + a.length)) ∧ OwnI w' B v (marksI a.length k0) ∧ w.grownBy w' v.ownBlock := by
  have hdist : a = [] ∨ 0 < a.length := by cases a with
    | nil => exact .inl rfl
    | cons x l => right; simp
  rcases hdist with rfl | hpos
  · obtain ⟨p, cap, rfl, _, _, _⟩ := At.of_own hv
    go_enter Tryz.func16, Tryz.ntmps16
    go_wp2
    refine wp_loop_once ?_
    go_wp2
    go_ret
    exact ⟨by simp, hv, grown_refl _ _⟩
  · obtain ⟨g, cap, rfl, hB, hg, hle, hmx⟩ := hv.shape hpos
    unfold maxLen at hmx
    go_enter Tryz.func16, Tryz.ntmps16
    go_wp2
    go_loopw [1, 5] (fun c i' wr => ∃ (k : Nat) (xs : List Int), k ≤ a.length ∧ i' = .int .i64 k ∧ c = .int .i64 (k0 + k) ∧ xs.length = a.length ∧ xs.take k = marksI k k0 ∧ OwnI wr B (.slice (some ⟨g, 0, none⟩) a.length cap) xs ∧ w.grownBy wr (some g)) (fun _ i _ => a.length - (intOf i).toNat)
    case atStart => exact ⟨0, a, by omega, rfl, by simp, rfl, by simp [marksI], hv, grown_refl _ _⟩
    case round =>
      obtain ⟨k, xs, hk, rfl, rfl, hxl, htk, hownk, hgr⟩ := hrel
      have HX := hid hxl; clear hxl
      have HT := hid htk; clear htk
      clear hv
      by_cases hlt : k < a.length
      · have hltx : k < xs.length := by have := HX.out; omega
        obtain ⟨c1, c3⟩ := hownk.cell k hltx
        have h3 := (hownk.store k hltx (k0 + k)).1
        have HO := hid hownk; clear hownk
        have H3 := hid h3; clear h3
        go_wp2
        go_roundw
        case rel =>
          refine ⟨k + 1, _, by omega, by go_num, by go_num, ?_, ?_, H3.out, ?_⟩
          · rw [List.length_set]; exact HX.out
          · rw [take_set _ _ _ hltx, marksI_succ, HT.out]
          · exact grown_trans hgr (grown_set _ _ _)
        case measure => simp [intOf]; omega
      · go_wp2
        go_ret
        obtain rfl : k = a.length := by omega
        have hx : xs = marksI a.length k0 := by
          have h1 := HX.out; have h2 := HT.out
          rw [List.take_of_length_le (by omega)] at h2
          exact h2
        subst hx
        exact ⟨rfl, hownk, hgr⟩
--
set_option maxHeartbeats 1000000 in
theorem heldInt64S_any (n : Nat) (v : Value) (k0 : Int) (w : World) (hv : Ints w v (marksI n k0)) (hk0 : 0 ≤ k0) (hk1 : k0 ≤ 4294967296) :
    Calls Tryz.prog 17 #[v, .int .i64 k0] w fun e w' => e = .returned (.int .i64 (k0 + n)) ∧ w = w' := by
  have hn : (marksI n k0).length = n := marksI_length n k0
  have hg := marksI_get n k0
  generalize marksI n k0 = a at *
  obtain ⟨p, cap, rfl, hle, hmx, hr, hlen⟩ := hv
  unfold maxLen at hmx
  have HN := hid hn; clear hn
  go_enter Tryz.func17, Tryz.ntmps17
  go_wp2
  go_loop [1, 4, 5] (fun c r i' => ∃ k : Nat, k ≤ a.length ∧ i' = .int .i64 k ∧ c = .int .i64 (k0 + k) ∧ r = .int .i64 0) (fun _ _ i => a.length - (intOf i).toNat)
  case atStart => exact ⟨0, by omega, rfl, by simp, rfl⟩
  case round =>
    obtain ⟨k, hk, rfl, rfl, rfl⟩ := hrel
    by_cases hlt : k < a.length
    · obtain ⟨b, off, rfl, h1⟩ := hr.int k hlt
      have h1' : w.cell? ⟨b, off + k, none⟩ = some (.int .i64 (k0 + k)) := by rw [h1, hg]
      clear hr h1 hg
      go_wp2
      go_round
      case rel => exact ⟨k + 1, by omega, by go_num, by go_num, rfl⟩
      case measure => simp [intOf]; omega
    · go_wp2
      go_ret
      exact ⟨ret_int (by have := HN.out; omega), rfl⟩
end Go.Proofs.YtgnehffglhbggaaGreat
