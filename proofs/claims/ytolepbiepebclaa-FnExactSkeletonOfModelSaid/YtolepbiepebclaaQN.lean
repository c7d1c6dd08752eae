/- What is a frame, what is a model: both sides. -/
import Derived.Test.YtolepbiepebclaaQM
namespace Go.Proofs.Ytolepbiepebclaa
open Go.RowKit
/-- a size and a list are a frame; with values, a model -/
def isFra (n : Int) (a : List Int) : Bool := inR n 0 8 && (decide ((a.length : Int) = n) && a.all (isM a.length))
def isMod (n : Int) (a vs : List Int) : Bool := isFra n a && (decide (vs.length = 6) && vs.all (isM a.length))
theorem isFra_iff (n : Int) (a : List Int) : isFra n a = true ↔ ∃ b : List Nat, a = zs b ∧ n = b.length ∧ b.length ≤ 8 ∧ Bnd b.length b := by
  unfold isFra
  rw [Bool.and_eq_true, Bool.and_eq_true, decide_eq_true_eq]
  constructor
  · rintro ⟨h1, h2, h3⟩
    obtain ⟨b, rfl, hb⟩ := all_isM h3
    rw [zs_length] at *
    simp [inR] at h1
    exact ⟨b, rfl, h2.symm, by omega, mem_bnd hb⟩
  · rintro ⟨b, rfl, rfl, h8, hb⟩
    rw [zs_length]
    exact ⟨by simp [inR]; omega, rfl, isM_all (bnd_mem hb)⟩
--
set_option maxRecDepth 20000 in
set_option maxHeartbeats 1000000 in
theorem isFrame_any (n : Int) (a : List Int) (v : Value) (w : World) (hv : Ints w v a) : Calls Try.prog 66 #[.agg #[.int .i64 n, v]] w fun e w' => e = .returned (.bool (isFra n a)) ∧ Keeps w w' := by
  have kA := (Keeps.refl w).alloc (.cells #[.int .i64 n, v] 27)
  have hc := BoxF.made w n v 27
  have HN := hid (fun w2 => inRange_any n 0 8 w2)
  have HS := hid (fun w2 (k : Keeps w w2) => sizeI_any a v w2 (hv.keeps k))
  have HR := hid (fun w2 (k : Keeps w w2) => isRelation_any a v w2 (hv.keeps k))
  have HP : Hid (isFra n a = (inR n 0 8 && (decide ((a.length : Int) = n) && a.all (isM a.length)))) := hid rfl
  obtain ⟨c0, c1⟩ := hc
  obtain ⟨p, cap, rfl, _⟩ := hv
  cases h1 : inR n 0 8
  · rw [h1] at HN HP
    simp only [Bool.false_and] at HP
    clear h1
    go_enter Try.func66, Try.ntmps66
    go_wp2_with fail
    go_quiet (first | (go_at_call 91; refine quietS (HN.out _)))
    go_wp2_with fail
    go_ret
    exact ⟨by rw [HP.out]; rfl, kA.drewN _⟩
  · rw [h1] at HN HP
    have h8 : n ≤ 8 := by simp [inR] at h1; omega
    clear h1
    by_cases h2 : (a.length : Int) = n
    · have hd : ((a.length : Int) == n) = true := by simp [h2]
      rw [decide_eq_true h2] at HP
      have hl8 : a.length ≤ 8 := by omega
      replace HR := hid (fun w2 k => HR.out w2 k hl8)
      subst h2
      have kd0 := (Keeps.refl (w.alloc (.cells #[.int .i64 a.length, .slice p a.length cap] 27))).drew
      have kD := kA.drew
      have e0 := kd0.cell c0
      have e1 := kd0.cell c1
      simp only [Bool.true_and] at HP
      generalize a.all (isM a.length) = r at *
      go_enter Try.func66, Try.ntmps66
      go_wp2_with fail
      go_region_held3 (fun w' => w'.cell? ⟨w.heap.size, 0, none⟩ = some (.int .i64 a.length) ∧ w'.cell? ⟨w.heap.size, 1, none⟩ = some (.slice p a.length cap)) (first | exact ⟨e0, e1⟩ | exact ⟨z0, z1⟩) (first | (go_at_call 91; refine (HN.out _).mono ?_; rintro e w' ⟨rfl, rfl⟩) | (go_at_call 54; refine (HS.out _ kD).mono ?_; rintro e w' ⟨rfl, rfl⟩) | (go_at_call 92; refine (HR.out _ kD).mono ?_; rintro e w2 ⟨rfl, k2⟩; have z0 := k2.cell e0; have z1 := k2.cell e1))
      go_wp2_with fail
      go_ret
      exact ⟨by rw [HP.out]; cases r <;> rfl, kD.trans k2⟩
    · have hd : ((a.length : Int) == n) = false := by simp [h2]
      rw [decide_eq_false h2] at HP
      simp only [Bool.and_false, Bool.false_and] at HP
      clear h2
      go_enter Try.func66, Try.ntmps66
      go_wp2_with fail
      go_quiet (first | (go_at_call 91; refine quietS (HN.out _)) | (go_at_call 54; refine quietS (HS.out _ (kA.drewN _))))
      go_wp2_with fail
      go_ret
      exact ⟨by rw [HP.out]; rfl, kA.drewN _⟩
--
set_option maxRecDepth 20000 in
set_option maxHeartbeats 1000000 in
theorem l05Is_any (n : Int) (a : List Int) (v : Value) (w : World) (hv : Ints w v a) : Calls Try.prog 55 #[.agg #[.int .i64 n, v]] w fun e w' => e = .returned (.bool (isFra n a)) ∧ Keeps w w' := by
  have kA := (Keeps.refl w).alloc (.cells #[.int .i64 n, v] 27)
  have hc := BoxF.made w n v 27
  have HN := hid (fun w2 => l01In_any n 0 8 w2)
  have HR := hid (fun w2 m (hm : m ≤ 8) (k : Keeps w w2) => l01Masks_any m a v w2 hm (hv.keeps k))
  have HP : Hid (isFra n a = (inR n 0 8 && (decide ((a.length : Int) = n) && a.all (isM a.length)))) := hid rfl
  obtain ⟨c0, c1⟩ := hc
  obtain ⟨p, cap, rfl, _, hmx, _⟩ := hv
  unfold maxLen at hmx
  cases h1 : inR n 0 8
  · rw [h1] at HN HP
    simp only [Bool.false_and] at HP
    clear h1
    go_enter Try.func55, Try.ntmps55
    go_wp2_with fail
    refine (HN.out _).mono ?_; rintro e w2 ⟨rfl, rfl⟩
    go_wp2_with fail
    go_ret
    exact ⟨by rw [HP.out]; rfl, kA⟩
  · rw [h1] at HN HP
    have h8 : n ≤ 8 := by simp [inR] at h1; omega
    clear h1
    by_cases h2 : (a.length : Int) = n
    · have hd : ((a.length : Int) == n) = true := by simp [h2]
      rw [decide_eq_true h2] at HP
      have hl8 : a.length ≤ 8 := by omega
      replace HR := hid (fun w2 k => HR.out w2 a.length hl8 k)
      subst h2
      simp only [Bool.true_and] at HP
      generalize a.all (isM a.length) = r at *
      go_enter Try.func55, Try.ntmps55
      go_wp2_with fail
      refine (HN.out _).mono ?_; rintro e w2 ⟨rfl, rfl⟩
      go_wp2_with fail
      refine (HR.out _ kA).mono ?_; rintro e w3 ⟨rfl, k3⟩
      go_wp2_with fail
      go_ret
      exact ⟨by rw [HP.out]; cases r <;> rfl, kA.trans k3⟩
    · have hd : ((a.length : Int) == n) = false := by simp [h2]
      rw [decide_eq_false h2] at HP
      simp only [Bool.and_false, Bool.false_and] at HP
      clear h2
      go_enter Try.func55, Try.ntmps55
      go_wp2_with fail
      refine (HN.out _).mono ?_; rintro e w2 ⟨rfl, rfl⟩
      go_wp2_with fail
      go_ret
      exact ⟨by rw [HP.out]; rfl, kA⟩
/-- a model lies in a box -/
def BoxM (w : World) (B : Nat) (n : Int) (v u : Value) : Prop := w.cell? ⟨B, 0, none⟩ = some (.int .i64 n) ∧ w.cell? ⟨B, 1, none⟩ = some v ∧ w.cell? ⟨B, 2, none⟩ = some u
theorem BoxM.keeps {w w' : World} {B : Nat} {n : Int} {v u : Value} (h : BoxM w B n v u) (k : Keeps w w') : BoxM w' B n v u := ⟨k.cell h.1, k.cell h.2.1, k.cell h.2.2⟩
theorem BoxM.made (w : World) (n : Int) (v u : Value) (t : TypeId) : BoxM (w.alloc (.cells #[.int .i64 n, v, u] t)) w.heap.size n v u := by
  refine ⟨?_, ?_, ?_⟩ <;> simp
--
set_option maxRecDepth 20000 in
theorem isModel_1_any (m : Nat) (x : Int) (v u : Value) (B : Nat) (w : World) (hc : BoxM w B m v u) (hm : m ≤ 8) :
    Calls Try.prog 67 #[.int .i64 x, .pointer (some ⟨B, 0, none⟩)] w fun e w' => e = .returned (.bool (!isM m x)) ∧ Keeps w w' := by
  have HM := hid (isMask_any m x w hm)
  obtain ⟨c0, c1, c2⟩ := hc
  generalize isM m x = r at *
  go_enter Try.func67, Try.ntmps67
  go_wp2_with fail
  refine HM.out.mono ?_; rintro e w2 ⟨rfl, rfl⟩
  go_wp2_with fail
  go_ret
  exact ⟨rfl, Keeps.refl _⟩
theorem enters_isModel_1 : Enters 67 := fun _ _ => by kernel_rfl
--
set_option maxRecDepth 20000 in
set_option maxHeartbeats 1000000 in
theorem isModel_any (n : Int) (a vs : List Int) (v u : Value) (w : World) (hv : Ints w v a) (hu : Ints w u vs) :
    Calls Try.prog 41 #[.agg #[.int .i64 n, v, u]] w fun e w' => e = .returned (.bool (isMod n a vs)) ∧ Keeps w w' := by
  have kA := (Keeps.refl w).alloc (.cells #[.int .i64 n, v, u] 29)
  have hbx := BoxM.made w n v u 29
  have HP := hid (isFrame_any n a v _ (hv.keeps kA))
  have HV : Hid (isMod n a vs = (isFra n a && (decide (vs.length = 6) && vs.all (isM a.length)))) := hid rfl
  cases h1 : isFra n a
  · rw [h1] at HP HV
    simp only [Bool.false_and] at HV
    clear h1
    obtain ⟨c0, c1, c2⟩ := hbx
    obtain ⟨p, cap, rfl, _⟩ := hv
    obtain ⟨q, cap2, rfl, _⟩ := hu
    go_enter Try.func41, Try.ntmps41
    go_wp2_with fail
    refine HP.out.mono ?_; rintro e w2 ⟨rfl, k2⟩
    go_wp2_with fail
    go_ret
    exact ⟨by rw [HV.out]; rfl, kA.trans k2⟩
  · rw [h1] at HP HV
    obtain ⟨b, rfl, rfl, h8, hbm⟩ := (isFra_iff n a).1 h1
    rw [zs_length] at HV
    clear h1
    by_cases h6 : vs.length = 6
    · rw [decide_eq_true h6] at HV
      have HC := hid (fun w1 (k : Keeps (w.alloc (.cells #[.int .i64 b.length, v, u] 29)) w1) => containsFuncI (fun x => !isM b.length x) 67 #[.pointer (some ⟨w.heap.size, 0, none⟩)] vs u w1 (hu.keeps (kA.trans k)) enters_isModel_1 (fun x w2 _ k2 => isModel_1_any b.length x v u w.heap.size w2 (hbx.keeps (k.trans k2)) h8))
      have he : (!(vs.any fun x => !isM b.length x)) = vs.all (isM b.length) := by rw [List.all_eq_not_any_not]
      have HE := hid he; clear he
      obtain ⟨c0, c1, c2⟩ := hbx
      obtain ⟨p, cap, rfl, _⟩ := hv
      obtain ⟨q, cap2, rfl, _⟩ := hu
      rw [h6] at *
      rw [zs_length] at *
      generalize (vs.any fun x => !isM b.length x) = r at *
      clear hbm h6
      go_enter Try.func41, Try.ntmps41
      go_wp2_with fail
      refine HP.out.mono ?_; rintro e w2 ⟨rfl, k2⟩
      have z2 := k2.cell c2
      go_wp2_with fail
      refine (HC.out _ k2).mono ?_; rintro e w3 ⟨rfl, k3⟩
      go_wp2_with fail
      go_ret
      exact ⟨by rw [HV.out, ← HE.out]; cases r <;> rfl, kA.trans (k2.trans k3)⟩
    · rw [decide_eq_false h6] at HV
      simp only [Bool.false_and, Bool.and_false] at HV
      have hd : ((vs.length : Int) == 6) = false := by rw [beq_eq_false_iff_ne]; omega
      obtain ⟨c0, c1, c2⟩ := hbx
      obtain ⟨p, cap, rfl, _⟩ := hv
      obtain ⟨q, cap2, rfl, _, hmx, _⟩ := hu
      unfold maxLen at hmx
      clear h6
      go_enter Try.func41, Try.ntmps41
      go_wp2_with fail
      refine HP.out.mono ?_; rintro e w2 ⟨rfl, k2⟩
      have z2 := k2.cell c2
      go_wp2_with fail
      go_ret
      exact ⟨by rw [HV.out]; rfl, kA.trans k2⟩
--
set_option maxRecDepth 20000 in
set_option maxHeartbeats 1000000 in
theorem l06Is_any (n : Int) (a vs : List Int) (v u : Value) (w : World) (hv : Ints w v a) (hu : Ints w u vs) :
    Calls Try.prog 34 #[.agg #[.int .i64 n, v, u]] w fun e w' => e = .returned (.bool (isMod n a vs)) ∧ Keeps w w' := by
  have kA := (Keeps.refl w).alloc (.cells #[.int .i64 n, v, u] 29)
  obtain ⟨c0, c1, c2⟩ := BoxM.made w n v u 29
  have HP := hid (l05Is_any n a v _ (hv.keeps kA))
  have HV : Hid (isMod n a vs = (isFra n a && (decide (vs.length = 6) && vs.all (isM a.length)))) := hid rfl
  cases h1 : isFra n a
  · rw [h1] at HP HV
    simp only [Bool.false_and] at HV
    clear h1
    obtain ⟨p, cap, rfl, _⟩ := hv
    obtain ⟨q, cap2, rfl, _⟩ := hu
    go_enter Try.func34, Try.ntmps34
    go_wp2_with fail
    refine HP.out.mono ?_; rintro e w2 ⟨rfl, k2⟩
    go_wp2_with fail
    go_ret
    exact ⟨by rw [HV.out]; rfl, kA.trans k2⟩
  · rw [h1] at HP HV
    obtain ⟨b, rfl, rfl, h8, hbm⟩ := (isFra_iff n a).1 h1
    rw [zs_length] at HV
    clear h1
    by_cases h6 : vs.length = 6
    · rw [decide_eq_true h6] at HV
      have HC := hid (fun w1 (k : Keeps w w1) => l01Masks_any b.length vs u w1 h8 (hu.keeps k))
      obtain ⟨p, cap, rfl, _⟩ := hv
      obtain ⟨q, cap2, rfl, _⟩ := hu
      rw [h6] at *
      rw [zs_length] at *
      generalize vs.all (isM b.length) = r at *
      clear hbm h6
      go_enter Try.func34, Try.ntmps34
      go_wp2_with fail
      refine HP.out.mono ?_; rintro e w2 ⟨rfl, k2⟩
      have z0 := k2.cell c0
      have z2 := k2.cell c2
      go_wp2_with fail
      refine (HC.out _ (kA.trans k2)).mono ?_; rintro e w3 ⟨rfl, k3⟩
      go_wp2_with fail
      go_ret
      exact ⟨by rw [HV.out]; cases r <;> rfl, kA.trans (k2.trans k3)⟩
    · rw [decide_eq_false h6] at HV
      simp only [Bool.false_and, Bool.and_false] at HV
      have hd : ((vs.length : Int) == 6) = false := by rw [beq_eq_false_iff_ne]; omega
      obtain ⟨p, cap, rfl, _⟩ := hv
      obtain ⟨q, cap2, rfl, _, hmx, _⟩ := hu
      unfold maxLen at hmx
      clear h6
      go_enter Try.func34, Try.ntmps34
      go_wp2_with fail
      refine HP.out.mono ?_; rintro e w2 ⟨rfl, k2⟩
      have z2 := k2.cell c2
      go_wp2_with fail
      go_ret
      exact ⟨by rw [HV.out]; rfl, kA.trans k2⟩
end Go.Proofs.Ytolepbiepebclaa
