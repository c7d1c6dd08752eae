/- What is a valuation: the reference's side; the model of a valuation: both sides. -/
import Derived.Test.YtolepbiepebclaaQG
namespace Go.Proofs.Ytolepbiepebclaa
open Go.RowKit
theorem all_false_at {α : Type} {l : List α} {P : α → Bool} {k : Nat} (hk : k < l.length) (h : P l[k] = false) : l.all P = false := by
  rw [Bool.eq_false_iff]
  intro h2
  have := List.all_eq_true.1 h2 l[k] (List.getElem_mem hk)
  rw [h] at this; cases this
--
set_option maxRecDepth 20000 in
set_option maxHeartbeats 2000000 in
theorem l17Is_any (b : List Nat) (vs : List Int) (v u : Value) (w : World) (hv : Ints w v (zs b)) (hu : Ints w u vs) (hb : b.length ≤ 8) (hbm : Bnd b.length b) :
    Calls Try.prog 49 #[.agg #[.int .i64 b.length, v], u] w fun e w' => e = .returned (.bool (decide (vs.length = 6) && vs.all (isUp b))) ∧ Keeps w w' := by
  have kA := (Keeps.refl w).alloc (.cells #[.int .i64 b.length, v] 32)
  have hbx := BoxF.made w b.length v 32
  by_cases h6 : vs.length = 6
  · rw [decide_eq_true h6]
    have HM := hid (fun w1 (k : Keeps w w1) => l01Masks_any b.length vs u w1 hb (hu.keeps k))
    have h256 := two8 hb
    cases hm : vs.all (isM b.length)
    · rw [hm] at HM
      have HR : Hid (vs.all (isUp b) = false) := by
        refine hid ?_
        rw [Bool.eq_false_iff] at hm ⊢
        intro h; apply hm
        rw [List.all_eq_true] at h ⊢
        intro x hx
        have := h x hx
        unfold isUp at this
        rw [Bool.and_eq_true] at this
        exact this.1
      clear hm
      obtain ⟨c0, c1⟩ := hbx
      obtain ⟨p, cap, rfl, _⟩ := hv
      obtain ⟨q, cap2, rfl, _⟩ := hu
      rw [h6] at *
      clear hbm
      go_enter Try.func49, Try.ntmps49
      go_wp2_with fail
      refine (HM.out _ kA).mono ?_; rintro e w2 ⟨rfl, k2⟩
      go_wp2_with fail
      go_ret
      exact ⟨by rw [HR.out]; rfl, kA.trans k2⟩
    · rw [hm] at HM
      obtain ⟨c, rfl, hc⟩ := all_isM hm
      clear hm
      rw [zs_length] at h6
      have HG := hid (fun i w1 (k : Keeps w w1) => l01Image_any b (c.getD i 0) v w1 (hv.keeps k) hb (bnd_mem hbm) (getD_lt hc i))
      have HU : Hid (∀ i (h : i < (zs c).length), isUp b (zs c)[i] = (img b (c.getD i 0) == c.getD i 0)) := by
        refine hid (fun i h => ?_)
        have hi : i < c.length := by simpa [zs] using h
        rw [zs_get, ← getD_get hi]
        unfold isUp
        rw [(isM_iff b.length _).2 ⟨_, rfl, getD_lt hc i⟩, Bool.true_and, Int.toNat_natCast, Bool.eq_iff_iff, decide_eq_true_eq, beq_iff_eq]
        omega
      obtain ⟨c0, c1⟩ := hbx
      have HV0 := hid hv; clear hv
      have hu0 := hu
      obtain ⟨q, cap2, rfl, hle, hmx, _, _⟩ := hu
      unfold maxLen at hmx
      obtain ⟨p, m, cap, rfl⟩ : ∃ p n c, v = .slice p n c := by obtain ⟨p, c, e, _⟩ := HV0.out; exact ⟨p, _, c, e⟩
      have HC := hid (fun i (hi : i < c.length) (w1 : World) (k : Keeps w w1) => (hu0.keeps k).zs_cell i hi)
      clear hu0
      obtain ⟨G, hG⟩ : ∃ G : Nat → Nat, ∀ i, G i = c.getD i 0 := ⟨fun i => c.getD i 0, fun _ => rfl⟩
      simp only [← hG] at HG HU HC
      obtain ⟨J, hJ⟩ : ∃ J : Nat → Nat, ∀ i, J i = img b (G i) := ⟨fun i => img b (G i), fun _ => rfl⟩
      simp only [← hJ] at HG HU
      have HF : Hid (∀ i, i < 6 → (J i == G i) = false → (zs c).all (isUp b) = false) := hid (fun i hi h => all_false_at (k := i) (by rw [zs_length, h6]; exact hi) (by rw [HU.out]; exact h))
      have HT : Hid ((∀ i, i < 6 → (J i == G i) = true) → (zs c).all (isUp b) = true) := hid (fun h => by
        rw [List.all_eq_true]
        intro x hx
        obtain ⟨j, hj, rfl⟩ := List.getElem_of_mem hx
        rw [HU.out]
        exact h j (by rw [zs_length, h6] at hj; exact hj))
      clear HU
      generalize (zs c).all (isUp b) = A at *
      rw [zs_length] at *
      rw [h6] at *
      clear hG hJ hbm hc
      go_enter Try.func49, Try.ntmps49
      go_wp2_with fail
      refine (HM.out _ kA).mono ?_; rintro e w2 ⟨rfl, k2⟩
      have kM := kA.trans k2
      have e0 := k2.cell c0
      have e1 := k2.cell c1
      go_wp2_with fail
      go_loopw [4, 5] (fun r i' wr => ∃ i : Nat, i ≤ 6 ∧ i' = .int .i64 i ∧ r = .bool false ∧ (∀ j, j < i → (J j == G j) = true) ∧ Keeps w2 wr) (fun _ i' _ => 6 - (intOf i').toNat)
      case atStart => exact ⟨0, by omega, rfl, rfl, fun j h => by omega, Keeps.refl _⟩
      case round =>
        obtain ⟨i, hi, rfl, rfl, hall, kw⟩ := hrel
        have HA2 := hid hall; clear hall
        by_cases hlt : i < 6
        · have hlt' : (i : Int) < 6 := by omega
          obtain ⟨b1, o1, rfl, h1⟩ := HC.out i hlt wr (kM.trans kw)
          have z0 := kw.cell e0
          have z1 := kw.cell e1
          have KW := hid (kM.trans kw)
          have hgi := HG.out i
          cases hj : (J i == G i)
          · have hne : (((J i : Nat) : Int) != ((G i : Nat) : Int)) = true := by simp at hj ⊢; omega
            have Hj := hid hj; clear hj hgi
            go_wp2_with fail
            go_quiet (first | (go_at_call 58; refine quietS (HG.out i _ (KW.out.drewN _))))
            go_wp2_with fail
            go_ret
            refine ⟨ret_bool ?_, (kM.trans kw).drewN _⟩
            exact (HF.out i hlt Hj.out).symm
          · have hne : (((J i : Nat) : Int) != ((G i : Nat) : Int)) = false := by simp at hj ⊢; omega
            have Hj := hid hj; clear hj hgi
            go_wp2_with fail
            go_quiet (first | (go_at_call 58; refine quietS (HG.out i _ (KW.out.drewN _))))
            go_wp2_with fail
            go_roundw
            case rel => exact ⟨i + 1, by omega, by go_num, rfl, nextQ HA2.out Hj.out, kw.drewN _⟩
            case measure => simp [intOf]; omega
        · obtain rfl : i = 6 := by omega
          have hlt' : ¬ ((6 : Nat) : Int) < 6 := by omega
          go_wp2_with fail
          go_ret
          exact ⟨ret_bool (HT.out HA2.out).symm, kM.trans kw⟩
  · rw [decide_eq_false h6, Bool.false_and]
    have hd : ((vs.length : Int) != 6) = true := by simp; omega
    obtain ⟨p, cap, rfl, _⟩ := hv
    obtain ⟨q, cap2, rfl, _⟩ := hu
    clear h6 hbx
    go_enter Try.func49, Try.ntmps49
    go_wp2_with fail
    go_ret
    exact ⟨rfl, kA⟩
--
set_option maxRecDepth 20000 in
theorem specIsValuation_any (n : Int) (a vs : List Int) (v u : Value) (w : World) (hv : Ints w v a) (hu : Ints w u vs) :
    Calls Try.prog 24 #[.agg #[.int .i64 n, v], u] w fun e w' => e = .returned (.bool (isVal n a vs)) ∧ Keeps w w' := by
  have kA := (Keeps.refl w).alloc (.cells #[.int .i64 n, v] 32)
  have HP := hid (l16Is_any n a v _ (hv.keeps kA))
  have HV : Hid (isVal n a vs = (isPos n a && (decide (vs.length = 6) && vs.all (isUp (a.map Int.toNat))))) := hid rfl
  obtain ⟨c0, c1⟩ := BoxF.made w n v 32
  cases h1 : isPos n a
  · rw [h1] at HP HV
    simp only [Bool.false_and] at HV
    clear h1
    obtain ⟨p, cap, rfl, _⟩ := hv
    obtain ⟨q, cap2, rfl, _⟩ := hu
    go_enter Try.func24, Try.ntmps24
    go_wp2_with fail
    refine HP.out.mono ?_; rintro e w2 ⟨rfl, k2⟩
    go_wp2_with fail
    go_ret
    exact ⟨by rw [HV.out]; rfl, kA.trans k2⟩
  · rw [h1] at HP HV
    obtain ⟨b, rfl, rfl, h8, hbm, _⟩ := (isPos_iff n a).1 h1
    rw [zs_toNat] at HV
    clear h1
    have HC := hid (fun w1 (k : Keeps w w1) => l17Is_any b vs v u w1 (hv.keeps k) (hu.keeps k) h8 hbm)
    obtain ⟨p, cap, rfl, _⟩ := hv
    obtain ⟨q, cap2, rfl, _⟩ := hu
    generalize (decide (vs.length = 6) && vs.all (isUp b)) = r at *
    clear hbm
    go_enter Try.func24, Try.ntmps24
    go_wp2_with fail
    refine HP.out.mono ?_; rintro e w2 ⟨rfl, k2⟩
    have z0 := k2.cell c0
    have z1 := k2.cell c1
    go_wp2_with fail
    refine (HC.out _ (kA.trans k2)).mono ?_; rintro e w3 ⟨rfl, k3⟩
    go_wp2_with fail
    go_ret
    exact ⟨by rw [HV.out]; rfl, kA.trans (k2.trans k3)⟩
end Go.Proofs.Ytolepbiepebclaa
