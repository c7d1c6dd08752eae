import Derived.Test.YtkkcfifnkcnceaaGreatHGB
/- The reference's checker of whole proofs, and IsAnalytic. -/
namespace Go.Proofs.YtkkcfifnkcnceaaGreat
open Go.RowKit
theorem subS_congr {P Q X : List ByteArray} (h : ∀ u, u ∈ P ↔ u ∈ Q) : subS P X = subS Q X := by
 rw [Bool.eq_iff_iff, subS_iff, subS_iff]
 exact ⟨fun k u hu => k u ((h u).2 hu), fun k u hu => k u ((h u).1 hu)⟩
theorem subS_uni (l r X : List ByteArray) : subS (uniS l r) X = subS (l ++ r) X := subS_congr fun u => by rw [uniS_in, List.mem_append]
def lastSt (steps : List StT) : StT := steps.getD (steps.length - 1) default
noncomputable def knowT (steps : List StT) : List ByteArray := subT (fmL ((lastSt steps).l ++ (lastSt steps).r))
noncomputable def anB (steps : List StT) : Bool := steps.all fun x => subS (x.l ++ x.r) (knowT steps)
noncomputable def anR (lg : ByteArray) (steps : List StT) : Bool × Int := if stE lg steps = 0 then (anB steps, 0) else (false, stE lg steps)
theorem badN_all {L : Nat} {steps : List StT} : ∀ (n k : Nat), k + n = steps.length → ¬ (0 ≤ badN L steps (steps.drop k) k) → ∀ j (h : j < steps.length), k ≤ j → isQ steps[j].l steps[j].r = true
 | 0, k, hk, _, j, h, hj => by omega
 | n + 1, k, hk, hb, j, h, hj => by
  have hlt : k < steps.length := by omega
  rw [badN_step L steps k hlt] at hb
  by_cases hc : corB L steps k steps[k] = true
  ·rw [if_pos hc] at hb
   by_cases e : j = k
   ·subst e; exact corB_isQ hc
   ·exact badN_all n (k + 1) (by omega) hb j h (by omega)
  ·rw [if_neg hc] at hb
   exact absurd (by omega) hb
theorem stE_ok {lg : ByteArray} {steps : List StT} (h : stE lg steps = 0) : lg ∈ names7 ∧ 0 < steps.length ∧ steps.length ≤ 60 ∧ ∀ j (h : j < steps.length), isQ steps[j].l steps[j].r = true := by
 unfold stE at h
 split at h
 ·rename_i h1
  split at h
  ·cases h
  ·rename_i h2
   split at h
   ·cases h
   ·rename_i h3
    exact ⟨@of_decide_eq_true _ (Classical.propDecidable _) h1, by omega, by omega, fun j hj => badN_all steps.length 0 (by omega) h3 j hj (by omega)⟩
 ·cases h
theorem ret_t {R : Bool × Int} {b : Bool} {c : Int} (h : R = (b, c)) : Ending.returned (.tuple #[.bool b, .int .i64 c]) = .returned (.tuple #[.bool R.1, .int .i64 R.2]) := by rw [h]
set_option maxRecDepth 20000 in
set_option maxHeartbeats 2000000 in
theorem l11Bad_any (lg : ByteArray) (steps : List StT) (hl : steps.length ≤ 1000) (hM : MidSt steps) (v : Value) (w : World) (hv : StL w v steps) :
  Calls Tryz.prog 83 #[.string lg, v] w fun e w' => e = .returned (.int .i64 (badN (lgN lg) steps steps 0)) ∧ Keeps w w' := by
 have HV := hid (fun wz (kz : Keeps w wz) => hv.keeps kz)
 obtain ⟨p, cap, rfl, hle, hmx, _⟩ := hv.shape
 unfold maxLen at hmx
 have HC := hid (fun k (hk : k < steps.length) (hb : ∀ j (h : j < steps.length), j < k → isQ steps[j].l steps[j].r = true) wz (kz : Keeps w wz) => l11Correct_any lg steps k hk hl hM hb _ wz (HV.out wz kz))
 have HST := hid (fun k (h : k < steps.length) => badN_step (lgN lg) steps k h)
 have HEN := hid (fun k (h : steps.length ≤ k) => badN_end (lgN lg) steps k h)
 have hB0 : badN (lgN lg) steps steps 0 = badN (lgN lg) steps (steps.drop 0) 0 := by rw [List.drop_zero]
 generalize badN (lgN lg) steps steps 0 = R at *
 have HB0 := hid hB0
 clear hv hM hB0
 go_enter Tryz.func83, Tryz.ntmps83
 go_wp2
 go_loopw [5] (fun i' wr => ∃ k : Nat, k ≤ steps.length ∧ i' = .int .i64 k ∧ R = badN (lgN lg) steps (steps.drop k) k ∧ (∀ j (h : j < steps.length), j < k → isQ steps[j].l steps[j].r = true) ∧ Keeps w wr) (fun i' _ => steps.length - (intOf i').toNat)
 case atStart => exact ⟨0, by omega, rfl, HB0.out, fun j _ h => by omega, Keeps.refl _⟩
 case round =>
  obtain ⟨k, hk, rfl, hR, hq, kw⟩ := hrel
  have HR := hid hR
  have HQ := hid hq
  clear hR hq
  by_cases hlt : k < steps.length
  ·have hlt' : (k : Int) < steps.length := by omega
   have HCk := hid (HC.out k hlt HQ.out wr kw)
   have hs := HST.out k hlt
   rw [hs] at HR
   have HIQ : Hid (corB (lgN lg) steps k steps[k] = true → ∀ j (h : j < steps.length), j < k + 1 → isQ steps[j].l steps[j].r = true) := hid (fun h j hj hjk => by
    by_cases e : j = k
    ·subst e; exact corB_isQ h
    ·exact HQ.out j hj (by omega))
   clear hs
   generalize corB (lgN lg) steps k steps[k] = c at *
   cases c
   ·have HRR : Hid (R = (k : Int)) := hid HR.out
    clear HR HIQ
    go_wp2_with fail
    refine HCk.out.mono ?_; rintro e w2 ⟨rfl, k2⟩
    go_wp2_with fail
    go_ret
    exact ⟨ret_int HRR.out.symm, kw.trans k2⟩
   ·have HRR : Hid (R = badN (lgN lg) steps (steps.drop (k + 1)) (k + 1)) := hid HR.out
    have HI2 := hid (HIQ.out rfl)
    clear HR HIQ
    go_wp2_with fail
    refine HCk.out.mono ?_; rintro e w2 ⟨rfl, k2⟩
    go_wp2_with fail
    go_roundw
    case rel => exact ⟨k + 1, by omega, by go_num, HRR.out, HI2.out, kw.trans k2⟩
    case measure => simp [intOf]; omega
  ·obtain rfl : k = steps.length := by omega
   have hlt' : ¬ ((steps.length : Int) < steps.length) := by omega
   have HRR : Hid (R = -1) := hid (by rw [HR.out, HEN.out _ (Nat.le_refl _)])
   clear HR
   go_wp2_with fail
   go_ret
   exact ⟨ret_int HRR.out.symm, kw⟩
open scoped Classical in
set_option maxRecDepth 20000 in
set_option maxHeartbeats 2000000 in
theorem l11Code_any (lg : ByteArray) (steps : List StT) (hM : MidSt steps) (v : Value) (w : World) (hv : StL w v steps) :
  Calls Tryz.prog 39 #[.string lg, v, .bool true] w fun e w' => e = .returned (.int .i64 (stE lg steps)) ∧ Keeps w w' := by
 have HV := hid (fun wz (kz : Keeps w wz) => hv.keeps kz)
 obtain ⟨p, cap, rfl, hle, hmx, _⟩ := hv.shape
 unfold maxLen at hmx
 have HL := hid (isSequentLogic_any lg w)
 have HE : Hid (stE lg steps = if decide (lg ∈ names7) = true then (if steps.length = 0 ∨ 60 < steps.length then 3 else if 0 ≤ badN (lgN lg) steps steps 0 then 5 else 0) else 2) := hid rfl
 have HB := hid (fun (h : steps.length ≤ 1000) wz (kz : Keeps w wz) => l11Bad_any lg steps h hM _ wz (HV.out wz kz))
 generalize stE lg steps = R at *
 generalize decide (lg ∈ names7) = bn at *
 generalize badN (lgN lg) steps steps 0 = bd at *
 generalize steps.length = n at *
 clear hv hM HV
 go_enter Tryz.func39, Tryz.ntmps39
 go_wp2_with fail
 refine HL.out.mono ?_; rintro e w2 ⟨rfl, k2⟩
 cases bn
 ·have HR : Hid (R = 2) := hid HE.out
  clear HE
  go_wp2_with fail
  go_ret
  exact ⟨ret_int HR.out.symm, k2⟩
 ·have HE2 : Hid (R = if n = 0 ∨ 60 < n then 3 else if 0 ≤ bd then 5 else 0) := hid HE.out
  clear HE
  by_cases h0 : n = 0
  ·have HR : Hid (R = 3) := hid (by rw [HE2.out, if_pos (.inl h0)])
   subst h0
   clear HE2
   go_wp2_with fail
   go_ret
   exact ⟨ret_int HR.out.symm, k2⟩
  ·have h0' : ((n : Int) == 0) = false := by simp; omega
   by_cases h6 : 60 < n
   ·have HR : Hid (R = 3) := hid (by rw [HE2.out, if_pos (.inr h6)])
    have h6' : (n : Int) > 60 := by omega
    clear HE2 h0
    go_wp2_with fail
    go_ret
    exact ⟨ret_int HR.out.symm, k2⟩
   ·have h6' : ¬ (n : Int) > 60 := by omega
    have HE3 : Hid (R = if 0 ≤ bd then 5 else 0) := hid (by rw [HE2.out, if_neg (by omega)])
    have HBB := hid (HB.out (by omega) w2 k2)
    clear HE2 h0 HB
    go_wp2_with fail
    refine HBB.out.mono ?_; rintro e w3 ⟨rfl, k3⟩
    by_cases hb : 0 ≤ bd
    ·have HR : Hid (R = 5) := hid (by rw [HE3.out, if_pos hb])
     clear HE3
     go_wp2_with fail
     go_ret
     exact ⟨ret_int HR.out.symm, k2.trans k3⟩
    ·have HR : Hid (R = 0) := hid (by rw [HE3.out, if_neg hb])
     clear HE3
     go_wp2_with fail
     go_ret
     exact ⟨ret_int HR.out.symm, k2.trans k3⟩
set_option maxRecDepth 100000 in
set_option maxHeartbeats 4000000 in
theorem specIsAnalytic_any (lg : ByteArray) (steps : List StT) (hM : MidSt steps) (v : Value) (w : World) (hv : StL w v steps) :
  Calls Tryz.prog 14 #[.string lg, v] w fun e w' => e = .returned (.tuple #[.bool (anR lg steps).1, .int .i64 (anR lg steps).2]) ∧ Keeps w w' := by
 have HV := hid (fun wz (kz : Keeps w wz) => hv.keeps kz)
 obtain ⟨p, cap, rfl, hle, hmx, _⟩ := hv.shape
 unfold maxLen at hmx
 have HC := hid (l11Code_any lg steps hM _ w hv)
 have HE : Hid (anR lg steps = if stE lg steps = 0 then (anB steps, 0) else (false, stE lg steps)) := hid rfl
 have HOK := hid (fun h => stE_ok (lg := lg) (steps := steps) h)
 generalize anR lg steps = R at *
 generalize stE lg steps = code at *
 clear hv hM
 go_enter Tryz.func14, Tryz.ntmps14
 go_wp2_with fail
 refine HC.out.mono ?_; rintro e w2 ⟨rfl, k2⟩
 by_cases hc : code = 0
 ·subst hc
  have HE2 : Hid (R = (anB steps, 0)) := hid HE.out
  obtain ⟨-, hp, h60, hq⟩ := HOK.out rfl
  have HQ := hid hq
  obtain ⟨x, hx⟩ : ∃ x, steps[steps.length - 1]'(by omega) = x := ⟨_, rfl⟩
  have hxe : lastSt steps = x := by
   unfold lastSt
   rw [List.getD_eq_getElem?_getD, List.getElem?_eq_getElem (by omega)]
   exact hx
  have HKN : Hid (knowT steps = subT (fmL (x.l ++ x.r))) := hid (by unfold knowT; rw [hxe])
  have HAN : Hid (anB steps = steps.all fun y => subS (y.l ++ y.r) (knowT steps)) := hid rfl
  generalize anB steps = A at *
  generalize knowT steps = KN at *
  have hkl : KN.length ≤ 40 * 32 := by
   have hQ := HQ.out (steps.length - 1) (by omega)
   rw [hx] at hQ
   obtain ⟨l1, l2, s1, s2⟩ := isQ_iff hQ
   have h := subT_len (G := fmL (x.l ++ x.r)) (by rw [fmL_append]; exact (fmL_fine s1).append (fmL_fine s2))
   rw [HKN.out]
   rw [fmL_len, List.length_append] at h
   omega
  obtain ⟨l1, l2, s1, s2⟩ := isQ_iff (by have := HQ.out (steps.length - 1) (by omega); rw [hx] at this; exact this)
  obtain ⟨b, off, p1, n1, c1, p2, n2, c2, p3, n3, c3, eb, ⟨z0, z1, z2, z3, z4⟩, -, hl, hr⟩ := (HV.out w2 k2).get (steps.length - 1) (by omega)
  cases eb
  rw [hx] at z0 z4 hl hr
  have HO1 := hid (fun wz => of1_any x.rule p1 p2 p3 n1 c1 n2 c2 n3 c3 x.main wz)
  have HPT := hid (fun wz (kz : Keeps w2 wz) => l11Parts_any x.l x.r _ _ wz (hl.keeps kz).1 (hr.keeps kz).1 s1 s2 l1 l2)
  rw [← HKN.out] at HPT
  have hl1 : ((steps.length : Nat) : Int) - 1 = ((steps.length - 1 : Nat) : Int) := by omega
  have hl2 : ((steps.length - 1 : Nat) : Int) < steps.length := by omega
  obtain ⟨ln, hln⟩ : ∃ ln, ln = steps.length - 1 := ⟨_, rfl⟩
  rw [← hln] at z0 z1 z2 z3 z4 hl1 hl2
  clear HE HOK hxe hx hln s1 s2 hl hr hq
  go_wp2_with fail
  refine (HO1.out _).mono ?_; rintro e w3 ⟨rfl, k3⟩
  go_wp2_with fail
  refine (HPT.out _ k3).mono ?_; rintro e w4 ⟨bp, np, cp, rfl, hown, k4⟩
  have K4 := (k2.trans k3).trans k4
  have hKs : Strs w4 (.slice (some bp) np cp) KN := hown.strs (by omega)
  have HKS := hid hKs
  have HQA := hid HQ.out
  clear z0 z1 z2 z3 z4 hown HPT HO1 hKs HQ
  obtain ⟨pk, ck, ek, -⟩ := HKS.out.shape
  cases ek
  have hEA : A = steps.all fun y => subS (y.l ++ y.r) KN := HAN.out
  have HEA := hid hEA
  have HRA : Hid (R = (A, 0)) := hid HE2.out
  clear hEA HAN HE2 HKN l1 l2 k3 k4
  go_wp2_with fail
  go_loopw [8] (fun i' wr => ∃ i : Nat, i ≤ steps.length ∧ i' = .int .i64 i ∧ (∀ j (h : j < steps.length), j < i → subS (steps[j].l ++ steps[j].r) KN = true) ∧ Keeps w4 wr) (fun i' _ => steps.length - (intOf i').toNat)
  case atStart => exact ⟨0, by omega, rfl, fun j _ h => by omega, Keeps.refl _⟩
  case round =>
   obtain ⟨i, hi, rfl, hall, kw⟩ := hrel
   have HA := hid hall
   clear hall
   by_cases hlt : i < steps.length
   ·have hlt' : (i : Int) < steps.length := by omega
    have kd := (Keeps.refl wr).drew
    have KD := kw.trans kd
    have HKD := hid KD
    obtain ⟨b', off', p1', n1', c1', p2', n2', c2', p3', n3', c3', eb, ⟨z0, z1, z2, z3, z4⟩, -, hl, hr⟩ := (HV.out _ (K4.trans KD)).get i hlt
    cases eb
    obtain ⟨q1, q2, t1, t2⟩ := isQ_iff (HQA.out i hlt)
    have HUN := hid (fun wz (kz : Keeps wr.drew wz) => l11UnionN_any steps[i].l steps[i].r _ _ wz (hl.keeps kz).1 (hr.keeps kz).1 (by omega))
    have hul := uniS_len steps[i].l steps[i].r
    have HSU : Hid (subS (uniS steps[i].l steps[i].r) KN = subS (steps[i].l ++ steps[i].r) KN) := hid (subS_uni _ _ _)
    have HYES : Hid (subS (uniS steps[i].l steps[i].r) KN = true → ∀ j (h : j < steps.length), j < i + 1 → subS (steps[j].l ++ steps[j].r) KN = true) := hid (fun h j hj hji => by
     by_cases e : j = i
     ·subst e; rw [← HSU.out]; exact h
     ·exact HA.out j hj (by omega))
    have HNO : Hid (subS (uniS steps[i].l steps[i].r) KN = false → A = false) := hid (fun h => by
     rw [HEA.out]
     exact List.all_eq_false.2 ⟨steps[i], List.getElem_mem hlt, by rw [← HSU.out, h]; simp⟩)
    have hu2 : (uniS steps[i].l steps[i].r).length ≤ 100 := by omega
    clear q1 q2 t1 t2 hl hr HSU z0 z1 z4 kd kw KD hul
    generalize uniS steps[i].l steps[i].r = U at *
    go_wp2_with fail
    go_region_held3 (fun w' => w'.cell? ⟨b, off + i * 5 + 2, none⟩ = some (.slice p2' n2' c2') ∧ w'.cell? ⟨b, off + i * 5 + 3, none⟩ = some (.slice p3' n3' c3')) (first | exact ⟨z2, z3⟩ | exact ⟨z2', z3'⟩) (first | (go_at_call 21; refine (HUN.out _ (Keeps.refl _)).mono ?_; rintro e w6 ⟨bu, nu, cu, rfl, hou, k6⟩; have z2' := k6.cell z2; have z3' := k6.cell z3))
    have hus : Strs w6 (.slice (some bu) nu cu) U := hou.strs (by omega)
    obtain ⟨_, _, eu, _⟩ := hus.shape
    cases eu
    have HUS := hid hus
    have K6 := HKD.out.trans k6
    clear hus hou HUN z2 z3 z2' z3'
    have HKW := hid (fun wz (kz : Keeps w6 wz) (u : ByteArray) => says_in KN u _ wz ((HKS.out.keeps K6).keeps kz))
    go_wp2_with fail
    generalize wr = wo at *
    go_loopw [10] (fun j' wx => ∃ j : Nat, j ≤ U.length ∧ j' = .int .i64 j ∧ (∀ q (h : q < U.length), q < j → inS KN U[q] = true) ∧ w6 = wx) (fun j' _ => U.length - (intOf j').toNat)
    case atStart => exact ⟨0, by omega, rfl, fun _ _ h => by omega, rfl⟩
    case round =>
     obtain ⟨j, hj, rfl, hall, rfl⟩ := hrel
     have HB := hid hall
     clear hall
     by_cases hl2 : j < U.length
     ·have hl2' : (j : Int) < U.length := by omega
      obtain ⟨b8, o8, e8, h8⟩ := HUS.out.get j hl2
      cases e8
      have HSY := hid (HKW.out w6 (Keeps.refl _) U[j])
      have HY2 : Hid (inS KN U[j] = true → ∀ q (h : q < U.length), q < j + 1 → inS KN U[q] = true) := hid (fun h q hq hqj => by
       by_cases e : q = j
       ·subst e; exact h
       ·exact HB.out q hq (by omega))
      have HN2 : Hid (inS KN U[j] = false → A = false) := hid (fun h => HNO.out (by
       unfold subS
       exact List.all_eq_false.2 ⟨U[j], List.getElem_mem hl2, by rw [h]; simp⟩))
      generalize inS KN U[j] = bb at *
      generalize U[j] = u at *
      cases bb
      ·have HAF := hid (HN2.out rfl)
       clear HN2 HY2 HNO HYES
       go_wp2_with fail
       refine HSY.out.mono ?_; rintro e w8 ⟨rfl, rfl⟩
       go_wp2_with fail
       go_ret2
       exact ⟨ret_t (by rw [HRA.out, HAF.out]), K4.trans K6⟩
      ·have HY3 := hid (HY2.out rfl)
       clear HN2 HY2
       go_wp2_with fail
       refine HSY.out.mono ?_; rintro e w8 ⟨rfl, rfl⟩
       go_wp2_with fail
       go_roundw
       case rel => exact ⟨j + 1, by omega, by go_num, HY3.out, by trivial⟩
       case measure => simp [intOf]; omega
     ·obtain rfl : j = U.length := by omega
      have hl2' : ¬ ((U.length : Int) < U.length) := by omega
      have HYY := hid (HYES.out (by
       unfold subS
       exact List.all_eq_true.2 (fun u hu => by
        obtain ⟨q, hq, rfl⟩ := List.getElem_of_mem hu
        exact HB.out q hq hq)))
      clear HYES HNO
      go_wp2_with fail
      go_roundw
      case rel => exact ⟨i + 1, by omega, by go_num, HYY.out, K6⟩
      case measure => simp [intOf]; omega
   ·obtain rfl : i = steps.length := by omega
    have hlt' : ¬ ((steps.length : Int) < steps.length) := by omega
    have HAT : Hid (A = true) := hid (by
     rw [HEA.out]
     exact List.all_eq_true.2 (fun y hy => by
      obtain ⟨j, hj, rfl⟩ := List.getElem_of_mem hy
      exact HA.out j hj hj))
    clear HA
    go_wp2_with fail
    go_ret2
    exact ⟨ret_t (by rw [HRA.out, HAT.out]), K4.trans kw⟩
 ·have HE2 : Hid (R = (false, code)) := hid (by rw [HE.out, if_neg hc])
  have hc' : (code != 0) = true := by simpa using hc
  clear HE HOK hc
  go_wp2_with fail
  go_ret2
  exact ⟨ret_t HE2.out, k2⟩
end Go.Proofs.YtkkcfifnkcnceaaGreat
namespace Go.Proofs.YtkkcfifnkcnceaaGreat
open Go.RowKit
open scoped Classical in
theorem equalS_any (ss tt : List ByteArray) (v u : Value) (w : World) (hv : Strs w v ss) (hu : Strs w u tt) :
  Calls Tryz.prog 205 #[v, u] w fun e w' => e = .returned (.bool (decide (ss = tt))) ∧ Keeps w w' := by
 obtain ⟨p, c, rfl, _, _, hat, h1⟩ := hv.at
 obtain ⟨q, d, rfl, _, _, hat2, h2⟩ := hu.at
 by_cases hl : ss.length = tt.length
 ·by_cases h0 : ss.length = 0
  ·obtain rfl := List.eq_nil_of_length_eq_zero h0
   obtain rfl : tt = [] := List.eq_nil_of_length_eq_zero (by rw [← hl]; rfl)
   refine (Tryz.slices_Equal_string_empty p q c 0 d w (by omega)).mono ?_
   rintro e w' ⟨rfl, rfl⟩
   exact ⟨by simp, Keeps.refl _⟩
  ·obtain ⟨b1, o1, rfl, _⟩ := hat 0 (by simp [strCells]; omega)
   obtain ⟨b2, o2, rfl, _⟩ := hat2 0 (by simp [strCells]; omega)
   have hc : ∀ (l : List ByteArray) (b off : Nat), At w (some ⟨b, off, none⟩) (strCells l) → ∀ j, j < l.length → w.cell? ⟨b, off + j, none⟩ = some (.string (l.getD j ByteArray.empty)) := by
    intro l b off hat j hj
    obtain ⟨b', off', hp, hc⟩ := hat j (by simpa [strCells] using hj)
    cases hp
    rw [hc]
    simp [strCells, List.getD_eq_getElem?_getD, hj]
   refine (Tryz.slices_Equal_string b1 o1 ss.length c b2 o2 tt.length d ss tt w (Nat.le_refl _) (Nat.le_refl _) (by omega) (by omega) (hc ss b1 o1 hat) (hc tt b2 o2 hat2)).mono ?_
   rintro e w' ⟨rfl, q, rfl⟩
   refine ⟨?_, (Keeps.refl w).drewN q⟩
   rw [List.take_length, List.take_length]
 ·refine (Tryz.slices_Equal_string_lens p q ss.length c tt.length d w hl).mono ?_
  rintro e w' ⟨rfl, rfl⟩
  exact ⟨by rw [decide_eq_false (fun e => hl (by rw [e]))], Keeps.refl _⟩
open scoped Classical in
set_option maxHeartbeats 1000000 in
theorem sameSequent_any (X Y X' Y' : List ByteArray) (a b c d : Value) (w : World) (ha : Strs w a X) (hb : Strs w b Y) (hc : Strs w c X') (hd : Strs w d Y') :
  Calls Tryz.prog 176 #[.agg #[a, b], .agg #[c, d]] w fun e w' => e = .returned (.bool (decide (((X, Y) : SqT) = (X', Y')))) ∧ Keeps w w' := by
 have kA := (Keeps.refl w).alloc (.cells #[a, b] 26)
 obtain ⟨c0, c1⟩ := BoxQ.made w a b 26
 have kB := (Keeps.refl (w.alloc (.cells #[a, b] 26))).alloc (.cells #[c, d] 26)
 obtain ⟨d0, d1⟩ := BoxQ.made (w.alloc (.cells #[a, b] 26)) c d 26
 have hz : (w.alloc (.cells #[a, b] 26)).heap.size = w.heap.size + 1 := by simp
 rw [hz] at d0 d1
 have K := kA.trans kB
 have H1 := hid (equalS_any X X' a c _ (ha.keeps K) (hc.keeps K))
 have H2 := hid (fun wz (kz : Keeps w wz) => equalS_any Y Y' b d wz (hb.keeps kz) (hd.keeps kz))
 have HE : Hid (decide (((X, Y) : SqT) = (X', Y')) = (decide (X = X') && decide (Y = Y'))) := hid (by
  rw [Bool.eq_iff_iff, Bool.and_eq_true, decide_eq_true_eq, decide_eq_true_eq, decide_eq_true_eq]
  exact Prod.mk.injEq _ _ _ _ ▸ Iff.rfl)
 generalize decide (((X, Y) : SqT) = (X', Y')) = r at *
 generalize decide (X = X') = b1 at *
 generalize decide (Y = Y') = b2 at *
 replace c0 := kB.cell c0
 replace c1 := kB.cell c1
 obtain ⟨p1, m1, q1, rfl⟩ := ha.sh
 obtain ⟨p2, m2, q2, rfl⟩ := hb.sh
 obtain ⟨p3, m3, q3, rfl⟩ := hc.sh
 obtain ⟨p4, m4, q4, rfl⟩ := hd.sh
 have HC := hid (And.intro c1 d1)
 clear ha hb hc hd hz kA kB c1 d1
 cases b1
 ·have HR : Hid (r = false) := hid HE.out
  go_enter Tryz.func176, Tryz.ntmps176
  go_wp2_with fail
  refine H1.out.mono ?_; rintro e w2 ⟨rfl, k2⟩
  go_wp2_with fail
  go_ret
  exact ⟨ret_bool HR.out.symm, K.trans k2⟩
 ·have HR : Hid (r = b2) := hid (by rw [HE.out, Bool.true_and])
  go_enter Tryz.func176, Tryz.ntmps176
  go_wp2_with fail
  refine H1.out.mono ?_; rintro e w2 ⟨rfl, k2⟩
  have e1 := k2.cell HC.out.1
  have e2 := k2.cell HC.out.2
  have H3 := hid (H2.out _ (K.trans k2))
  clear H1 H2
  go_wp2_with fail
  refine H3.out.mono ?_; rintro e w3 ⟨rfl, k3⟩
  go_wp2_with fail
  go_ret
  exact ⟨ret_bool HR.out.symm, (K.trans k2).trans k3⟩
theorem enters_sameS : Enters 176 := fun _ _ => by kernel_rfl
open scoped Classical in
set_option maxRecDepth 20000 in
set_option maxHeartbeats 2000000 in
theorem equalFuncSq (ps qs : List SqT) (v u : Value) (w : World) (hv : SqL w v ps) (hu : SqL w u qs) :
  Calls Tryz.prog 175 #[v, u, .func (.func 176) #[] #[]] w fun e w' => e = .returned (.bool (decide (ps = qs))) ∧ Keeps w w' := by
 have HV := hid hv
 have HU := hid hu
 obtain ⟨p, c, rfl, _, hmx, _⟩ := hv.shape
 obtain ⟨q, d, rfl, _, hmx2, _⟩ := hu.shape
 unfold maxLen at hmx hmx2
 have hcf' : ∀ args w, (callFunc 176 args).run Tryz.prog w = .ok (.enter 176 args) w := enters_sameS
 clear hv hu
 have HEQ := hid (fun (h : ps.length = qs.length) (h2 : ∀ j (h1 : j < ps.length) (h2 : j < qs.length), ps[j] = qs[j]) => show decide (ps = qs) = true from decide_eq_true (List.ext_getElem h h2))
 have HNE := hid (fun (j : Nat) (h1 : j < ps.length) (h2 : j < qs.length) (e : decide (ps[j] = qs[j]) = false) => show decide (ps = qs) = false from decide_eq_false (fun h => by
  subst h
  simp at e))
 have HNL := hid (fun (h : ps.length ≠ qs.length) => show decide (ps = qs) = false from decide_eq_false (fun e => h (by rw [e])))
 generalize decide (ps = qs) = b at *
 go_enter Tryz.func175, Tryz.ntmps175
 by_cases hl : ps.length = qs.length
 ·have HL := hid hl
  obtain ⟨n, hn⟩ : ∃ n, n = qs.length := ⟨_, rfl⟩
  rw [hl, ← hn]
  rw [hl, ← hn] at HV
  rw [← hn] at HU
  have HN := hid hn
  clear hl hn HNL
  go_wp2_with fail
  go_loopw [17] (fun i' wr => ∃ i : Nat, i ≤ n ∧ i' = .int .i64 i ∧ (∀ j (h1 : j < ps.length) (h2 : j < qs.length), j < i → ps[j] = qs[j]) ∧ Keeps w wr) (fun i' _ => n - (intOf i').toNat)
  case atStart => exact ⟨0, by omega, rfl, fun j _ _ h => by omega, Keeps.refl _⟩
  case round =>
   obtain ⟨i, hi, rfl, hall, kw⟩ := hrel
   have HA := hid hall; clear hall
   by_cases hlt : i < n
   ·have hlt' : (i : Int) < n := by omega
    have h1 : i < ps.length := by have := HL.out; have := HN.out; omega
    have h2 : i < qs.length := by have := HN.out; omega
    obtain ⟨b1, o1, r1, m1, d1, r2, m2, d2, rfl, y0, y1, g1, g2⟩ := (HV.out.keeps kw).get i h1
    obtain ⟨b2, o2, s1, t1, e1, s2, t2, e2, rfl, f0, f1, j1, j2⟩ := (HU.out.keeps kw).get i h2
    have kA := (Keeps.refl wr).alloc (.cells #[.slice r1 m1 d1, .slice r2 m2 d2] 26)
    have kB := kA.alloc (.cells #[.slice s1 t1 e1, .slice s2 t2 e2] 26)
    have HSM := hid (sameSequent_any ps[i].1 ps[i].2 qs[i].1 qs[i].2 _ _ _ _ _ (g1.keeps kB).1 (g2.keeps kB).1 (j1.keeps kB).1 (j2.keeps kB).1)
    rw [show ((ps[i].1, ps[i].2) : SqT) = ps[i] from rfl, show ((qs[i].1, qs[i].2) : SqT) = qs[i] from rfl] at HSM
    have HX := hid (HNE.out i h1 h2)
    have HY : Hid (decide (ps[i] = qs[i]) = true → ∀ j (h1 : j < ps.length) (h2 : j < qs.length), j < i + 1 → ps[j] = qs[j]) := hid (fun h j h1 h2 hj => by
     by_cases e : j = i
     ·subst e; exact of_decide_eq_true h
     ·exact HA.out j h1 h2 (by omega))
    have KB := hid (kw.trans kB)
    replace f0 := kA.cell f0
    replace f1 := kA.cell f1
    clear g1 g2 j1 j2 kA kB
    generalize decide (ps[i] = qs[i]) = bb at *
    cases bb
    ·have HB := hid (HX.out rfl)
     clear HX HY
     go_wp2_with fail
     refine HSM.out.mono ?_; rintro e w2 ⟨rfl, k2⟩
     go_wp2_with fail
     go_ret
     exact ⟨ret_bool HB.out.symm, KB.out.trans k2⟩
    ·have HY2 := hid (HY.out rfl)
     clear HX HY
     go_wp2_with fail
     refine HSM.out.mono ?_; rintro e w2 ⟨rfl, k2⟩
     go_wp2_with fail
     go_roundw
     case rel => exact ⟨i + 1, by omega, by go_num, HY2.out, KB.out.trans k2⟩
     case measure => simp [intOf]; omega
   ·obtain rfl : i = n := by omega
    have hlt' : ¬ ((i : Int) < i) := by omega
    have HB := hid (HEQ.out HL.out (fun j h1 h2 => HA.out j h1 h2 (by have := HN.out; omega)))
    clear HEQ HNE
    go_wp2_with fail
    go_ret
    exact ⟨ret_bool HB.out.symm, kw⟩
 ·have HB := hid (HNL.out hl)
  have hl' : ((ps.length : Int) != qs.length) = true := by simp; omega
  clear hl HEQ HNE HNL
  go_wp2_with fail
  go_ret
  exact ⟨ret_bool HB.out.symm, Keeps.refl _⟩
theorem subset1_any (s : ByteArray) (X : List ByteArray) (v : Value) (b : Nat) (w : World) (hc : w.cell? ⟨b, 0, none⟩ = some v) (hv : Strs w v X) :
  Calls Tryz.prog 99 #[.string s, .pointer (some ⟨b, 0, none⟩)] w fun e w' => e = .returned (.bool (!inS X s)) ∧ Keeps w w' := by
 have HC := hid (cont_in X s v w hv)
 obtain ⟨p, n, c, rfl⟩ := hv.sh
 clear hv
 generalize inS X s = r at *
 go_enter Tryz.func99, Tryz.ntmps99
 go_wp2_with fail
 refine HC.out.mono ?_; rintro e w2 ⟨rfl, rfl⟩
 go_wp2_with fail
 go_ret
 exact ⟨rfl, Keeps.refl _⟩
theorem enters_subset1 : Enters 99 := fun _ _ => by kernel_rfl
theorem subset_any (P X : List ByteArray) (v u : Value) (w : World) (hv : Strs w v P) (hu : Strs w u X) :
  Calls Tryz.prog 51 #[v, u] w fun e w' => e = .returned (.bool (subS P X)) ∧ Keeps w w' := by
 have kA := (Keeps.refl w).alloc (.cells #[u] 24)
 have hc := box1 w u 24
 have HCF := hid (containsFuncS (fun s => !inS X s) 99 #[.pointer (some ⟨w.heap.size, 0, none⟩)] P v _ (hv.keeps kA) enters_subset1 (fun x w1 _ k1 => subset1_any x X u w.heap.size w1 (k1.cell hc) ((hu.keeps kA).keeps k1)))
 have HE : Hid (subS P X = !(P.any fun s => !inS X s)) := hid (by
  unfold subS
  rw [List.not_any_eq_all_not]
  simp)
 obtain ⟨p, n, c, rfl⟩ := hv.sh
 obtain ⟨q, m, d, rfl⟩ := hu.sh
 generalize (P.any fun s => !inS X s) = r at *
 generalize subS P X = r2 at *
 clear hv hu hc
 go_enter Tryz.func51, Tryz.ntmps51
 go_wp2_with fail
 refine HCF.out.mono ?_; rintro e w2 ⟨rfl, k2⟩
 go_wp2_with fail
 go_ret
 exact ⟨ret_bool HE.out.symm, kA.trans k2⟩
def SqR (w0 w : World) (B : Nat) (v : Value) (ps : List SqT) : Prop :=
 ∃ us : List (Value × Value), us.length = ps.length ∧ w.ownsRow B 26 2 v ps.length (sqCells us) ∧ ∀ i (h1 : i < us.length) (h2 : i < ps.length), StrsP w0 us[i].1 ps[i].1 ∧ StrsP w0 us[i].2 ps[i].2
theorem SqR.nil (w0 w : World) (B : Nat) : SqR w0 w B (.slice none 0 0) [] := ⟨[], rfl, World.ownsRow_nil w B _ 2, fun i h => by simp at h⟩
theorem SqR.keeps {w0 w w' : World} {B : Nat} {v : Value} {ps : List SqT} (h : SqR w0 w B v ps) (k : Keeps w w') : SqR w0 w' B v ps := by
 obtain ⟨us, h1, h2, h3⟩ := h
 exact ⟨us, h1, own_keeps h2 k, h3⟩
theorem SqR.sql {w0 w : World} {B : Nat} {v : Value} {ps : List SqT} (h : SqR w0 w B v ps) (k : Keeps w0 w) (hl : ps.length ≤ 2147483648) : SqL w v ps := by
 obtain ⟨us, h1, h2, h3⟩ := h
 obtain ⟨p, c, rfl, hc1, hc2, hat⟩ := At.of_own h2
 refine ⟨p, c, rfl, hc1, hc2, hl, fun i hi => ?_⟩
 have hi' : i < us.length := by omega
 obtain ⟨g1, g2⟩ := sqCells_get us i hi'
 obtain ⟨r1, r2⟩ := h3 i hi' hi
 obtain ⟨ha1, ha2⟩ := List.getElem?_eq_some_iff.1 g1
 obtain ⟨hb1, hb2⟩ := List.getElem?_eq_some_iff.1 g2
 obtain ⟨b, off, hp, hcA⟩ := hat (i * 2) ha1
 obtain ⟨b', off', hp', hcB⟩ := hat (i * 2 + 1) hb1
 rw [hp] at hp'
 cases hp'
 rw [ha2] at hcA
 rw [hb2] at hcB
 refine ⟨b, off, fun c => if c = 0 then us[i].1 else us[i].2, hp, fun c hc => ?_, ⟨by simpa using r1.keeps k, by simpa using r1.sh⟩, ⟨by simpa using r2.keeps k, by simpa using r2.sh⟩⟩
 have hc2 : c = 0 ∨ c = 1 := by omega
 rcases hc2 with rfl | rfl
 ·simpa using hcA
 ·simpa [Nat.add_assoc] using hcB
theorem appR {w0 w : World} {ops : Array Oper} {rest : List Oper} {o : Oper} {a : Act} {Q : Exit → Act → World → Prop} (hgd : o.guard = none) (s x : Operand)
  (ho : o.op = .call { callee := .builtin .append, args := #[s, x], argTypes := #[29, 29] }) (base : Nat) (v : Value) (ps : List SqT) (hs : a.eval s = v) (hown : SqR w0 w base v ps)
  (p : Option Addr) (cc : Nat) (y z : Value) (A C : List ByteArray) (hx : a.eval x = .slice p 1 cc) (hat : At w p [y, z]) (hy : StrsP w0 y A) (hz : StrsP w0 z C) (hbase : base ≤ w.heap.size) (hlen : ps.length ≤ 2147483648)
  (h : ∀ v' w', SqR w0 w' base v' (ps ++ [(A, C)]) → w.grownBy w' v.ownBlock → (∀ k, v.ownBlock = some k → base ≤ k) → wpList Tryz.prog ops Q rest (a.put o.dst v') w') : wpList Tryz.prog ops Q (o :: rest) a w :=
 wpList_plain hgd fun _ hK => by
  obtain ⟨i0, hi, hz0, hz1, hz2⟩ := info_parts infoQ2
  obtain ⟨us, hl, hrow, he⟩ := hown
  obtain ⟨py, ny, cy, ey⟩ := hy.sh
  obtain ⟨pz, nz, cz, ez⟩ := hz.sh
  refine wp_append_at s x _ ho _ i0 _ 2 48 Tryz.underlying29 hi hz0 hz1 hz2 rfl (by decide) base v _ _ hs hrow p 1 cc [y, z] hx (by simp) hat (by
   intro u hu
   simp at hu
   rcases hu with rfl | rfl
   ·rw [ey]; rfl
   ·rw [ez]; rfl) (by unfold maxLen; omega) (by omega) hbase ?_
  intro v' w' h1 h2 h4
  refine hK _ _ (h v' w' ⟨us ++ [(y, z)], by simp [hl], ?_, fun i a1 a2 => ?_⟩ h2 h4)
  ·rw [List.length_append, sqCells_app]
   exact h1
  ·by_cases hi2 : i < us.length
   ·have hi3 : i < ps.length := by omega
    rw [List.getElem_append_left hi2, List.getElem_append_left hi3]
    exact he i hi2 hi3
   ·have : i = us.length := by simp at a1; omega
    subst this
    rw [List.getElem_append_right (Nat.le_refl _), List.getElem_append_right (by omega)]
    simp [hl]
    exact ⟨hy, hz⟩
end Go.Proofs.YtkkcfifnkcnceaaGreat
