import Derived.Test.YtkkcfifnkcnceaaGreatHGE
/- The program's checker of whole proofs, and IsAnalytic. -/
namespace Go.Proofs.YtkkcfifnkcnceaaGreat
open Go.RowKit
theorem StL.take {w : World} {p : Option Addr} {n cap : Nat} {xs : List StT} (h : StL w (.slice p n cap) xs) (i : Nat) (hi : i ≤ xs.length) : StL w (.slice p i cap) (xs.take i) := by
 obtain ⟨p', cap', hv, h1, h2, h3, h4⟩ := h
 cases hv
 have hl : (xs.take i).length = i := by simp; omega
 refine ⟨p, cap, by rw [hl], by omega, h2, by omega, fun j hj => ?_⟩
 obtain ⟨b, off, f, hp, hc, hr⟩ := h4 j (by omega)
 exact ⟨b, off, f, hp, hc, by rw [List.getElem_take]; exact hr⟩
theorem stAt_take {steps : List StT} {i : Int} {k : Nat} (h0 : 0 ≤ i) (h1 : i.toNat < k) (hk : k ≤ steps.length) : stAt (steps.take k) i = stAt steps i := by
 rw [stAt_get h0 (by simp; omega), stAt_get h0 (by omega), List.getElem_take]
theorem corB_take {L : Nat} {steps : List StT} {k : Nat} {x : StT} (hk : k ≤ steps.length) : corB L (steps.take k) k x = corB L steps k x := by
 unfold corB
 cases h1 : x.pr.all (fun i => inR i 0 ((k : Int) - 1))
 ·rw [Bool.false_and, Bool.false_and]
 ·have hin : ∀ i ∈ x.pr, 0 ≤ i ∧ i.toNat < k := fun i hi => by
   have := List.all_eq_true.1 h1 i hi
   unfold inR at this
   have := of_decide_eq_true this
   omega
  have hmap : x.pr.map (seqAt (steps.take k)) = x.pr.map (seqAt steps) := List.map_congr_left fun i hi => by
   obtain ⟨a, b⟩ := hin i hi
   unfold seqAt
   rw [stAt_take a b hk]
  have hfit : fitB L (steps.take k) x = fitB L steps x := by
   unfold fitB
   rw [hmap]
   by_cases hr : x.rule = 13
   ·rw [if_pos hr, if_pos hr]
    by_cases hl : x.pr.length = 1
    ·have h0 : x.pr.getD 0 0 ∈ x.pr := by
      rw [List.getD_eq_getElem?_getD, List.getElem?_eq_getElem (by omega)]
      exact List.getElem_mem _
     obtain ⟨a, b⟩ := hin _ h0
     rw [stAt_take a b hk]
    ·simp [hl]
   ·rw [if_neg hr, if_neg hr]
  rw [hfit]
theorem run_sliceSt (a : Addr) (m cap h : Nat) (hh : h ≤ cap) (wx : World) : (Instr.slice 39 (.slice (some a) m cap) none (some (.int .i64 (h : Int))) none).run Tryz.prog wx = .ok (.slice (some a) h cap) wx := by
 have hT : Tryz.prog.underlying 39 = some (.slice (Tryz.prog.elem 39)) := by kernel_rfl
 have hE : Tryz.prog.elem 39 = 68 := by kernel_rfl
 have hS : (sizeOf 68).run Tryz.prog wx = .ok 5 wx := by kernel_rfl
 rw [run_slice_h (P := Tryz.prog) wx 39 (some a) m cap hT .i64 h (by omega) (by omega), hE, hS]
 have ha : a.add 0 = a := by
  obtain ⟨b, o, s⟩ := a
  unfold Addr.add
  split <;> simp_all
 simp [sliced, ha]
set_option maxRecDepth 100000 in
set_option maxHeartbeats 4000000 in
theorem firstBad_any (lg : ByteArray) (hlg : lg ∈ names7) (steps : List StT) (hM : MidSt steps) (v : Value) (w : World) (hv : StL w v steps) :
  Calls Tryz.prog 91 #[.string lg, v] w fun e w' => e = .returned (.int .i64 (badN (lgN lg) steps steps 0)) ∧ Keeps w w' := by
 have HV := hid (fun wz (kz : Keeps w wz) => hv.keeps kz)
 obtain ⟨p, cap, rfl, hle, hmx, hsl⟩ := hv.shape
 unfold maxLen at hmx
 have HMM := hid hM
 have HLG := hid hlg
 have HST := hid (fun k (h : k < steps.length) => badN_step (lgN lg) steps k h)
 have HEN := hid (fun k (h : steps.length ≤ k) => badN_end (lgN lg) steps k h)
 have hB0 : badN (lgN lg) steps steps 0 = badN (lgN lg) steps (steps.drop 0) 0 := by rw [List.drop_zero]
 generalize badN (lgN lg) steps steps 0 = R at *
 have HB0 := hid hB0
 clear hv hM hB0 hlg
 go_enter Tryz.func91, Tryz.ntmps91
 go_wp2
 go_loopw [9] (fun i' wr => ∃ k : Nat, k ≤ steps.length ∧ i' = .int .i64 k ∧ R = badN (lgN lg) steps (steps.drop k) k ∧ Keeps w wr) (fun i' _ => steps.length - (intOf i').toNat)
 case atStart => exact ⟨0, by omega, rfl, HB0.out, Keeps.refl _⟩
 case round =>
  obtain ⟨k, hk, rfl, hR, kw⟩ := hrel
  have HR := hid hR
  clear hR
  by_cases hlt : k < steps.length
  ·have hlt' : (k : Int) < steps.length := by omega
   obtain ⟨b, off, p1, n1, c1, p2, n2, c2, p3, n3, c3, rfl, ⟨z0, z1, z2, z3, z4⟩, hpr, hl, hr⟩ := (HV.out wr kw).get k hlt
   have hs := HST.out k hlt
   rw [hs] at HR
   obtain ⟨m1, m2, m3⟩ := HMM.out steps[k] (List.getElem_mem hlt)
   have hct := corB_take (L := lgN lg) (steps := steps) (k := k) (x := steps[k]) hk
   have hkl : (steps.take k).length = k := by simp; omega
   have kA := (Keeps.refl wr).alloc (.cells #[.int .i64 steps[k].rule, .slice p1 n1 c1, .slice p2 n2 c2, .slice p3 n3 c3, .string steps[k].main] 68)
   have hX := StB.made wr steps[k] _ _ _ hpr hl hr
   have HIC := hid (fun wz (kz : Keeps (wr.alloc (.cells #[.int .i64 steps[k].rule, .slice p1 n1 c1, .slice p2 n2 c2, .slice p3 n3 c3, .string steps[k].main] 68)) wz) => isCorrect_any lg HLG.out (steps.take k) steps[k] ⟨m1, m2, m3⟩ _ _ _ _ wz (((HV.out wr kw).take k hk).keeps (kA.trans kz)) (hX.keeps kz).pr (hX.keeps kz).sl (hX.keeps kz).sr)
   rw [hkl, hct] at HIC
   have HSL := hid (fun wx => run_sliceSt ⟨b, off, none⟩ steps.length cap k (by omega) wx)
   have HX := hid hX
   have KA := kw.trans kA
   clear hs hct hkl hpr hl hr hX m1 m2 m3
   generalize corB (lgN lg) steps k steps[k] = c at *
   generalize steps[k] = x at *
   go_upto_region 4 with fail
   generalize wr.alloc (.cells #[.int .i64 x.rule, .slice p1 n1 c1, .slice p2 n2 c2, .slice p3 n3 c3, .string x.main] 68) = wA at *
   have kd := (Keeps.refl wA).drew
   obtain ⟨y0, y1, y2, y3, y4⟩ := (HX.out.keeps kd).cells
   have hsl2 := HSL.out
   clear z0 z1 z2 z3 z4
   go_region_held3 (fun w' => w'.cell? ⟨wr.heap.size, 0, none⟩ = some (.int .i64 x.rule) ∧ w'.cell? ⟨wr.heap.size, 1, none⟩ = some (.slice p1 n1 c1) ∧ w'.cell? ⟨wr.heap.size, 2, none⟩ = some (.slice p2 n2 c2) ∧ w'.cell? ⟨wr.heap.size, 3, none⟩ = some (.slice p3 n3 c3) ∧ w'.cell? ⟨wr.heap.size, 4, none⟩ = some (.string x.main)) (first | exact ⟨y0, y1, y2, y3, y4⟩ | exact ⟨y0', y1', y2', y3', y4'⟩) (first | (go_at_call 136; refine (HIC.out _ kd).mono ?_; rintro e w6 ⟨rfl, k6⟩; have y0' := k6.cell y0; have y1' := k6.cell y1; have y2' := k6.cell y2; have y3' := k6.cell y3; have y4' := k6.cell y4))
   have K6 := (KA.trans kd).trans k6
   cases c
   ·have HRR : Hid (R = (k : Int)) := hid HR.out
    clear HR
    go_wp2_with fail
    go_ret
    exact ⟨ret_int HRR.out.symm, K6⟩
   ·have HRR : Hid (R = badN (lgN lg) steps (steps.drop (k + 1)) (k + 1)) := hid HR.out
    clear HR
    go_wp2_with fail
    go_roundw
    case rel => exact ⟨k + 1, by omega, by go_num, HRR.out, K6⟩
    case measure => simp [intOf]; omega
  ·obtain rfl : k = steps.length := by omega
   have hlt' : ¬ ((steps.length : Int) < steps.length) := by omega
   have HRR : Hid (R = -1) := hid (by rw [HR.out, HEN.out _ (Nat.le_refl _)])
   clear HR
   go_wp2_with fail
   go_ret
   exact ⟨ret_int HRR.out.symm, kw⟩
theorem stepsCode1_any (n : Nat) (p : Option Addr) (c : Nat) (w : World) :
  Calls Tryz.prog 134 #[.slice p n c] w fun e w' => e = .returned (.bool (decide (n = 0 ∨ 60 < n))) ∧ Keeps w w' := by
 have HD : Hid (decide (n = 0 ∨ 60 < n) = (decide (n = 0) || decide (60 < n))) := hid (by rw [Bool.eq_iff_iff]; simp)
 generalize decide (n = 0 ∨ 60 < n) = r at *
 by_cases h0 : n = 0
 ·have HR : Hid (r = true) := hid (by rw [HD.out, decide_eq_true h0, Bool.true_or])
  subst h0
  clear HD
  go_enter Tryz.func134, Tryz.ntmps134
  go_wp2_with fail
  go_ret
  exact ⟨ret_bool HR.out.symm, Keeps.refl _⟩
 ·have h0' : ((n : Int) == 0) = false := by simp; omega
  by_cases h6 : 60 < n
  ·have HR : Hid (r = true) := hid (by rw [HD.out, decide_eq_true h6, Bool.or_true])
   have h6' : (n : Int) > 60 := by omega
   clear HD h0
   go_enter Tryz.func134, Tryz.ntmps134
   go_wp2_with fail
   go_ret
   exact ⟨ret_bool HR.out.symm, Keeps.refl _⟩
  ·have HR : Hid (r = false) := hid (by rw [HD.out, decide_eq_false h0, decide_eq_false h6]; rfl)
   have h6' : ¬ (n : Int) > 60 := by omega
   clear HD h0
   go_enter Tryz.func134, Tryz.ntmps134
   go_wp2_with fail
   go_ret
   exact ⟨ret_bool HR.out.symm, Keeps.refl _⟩
theorem enters_steps1 : Enters 134 := fun _ _ => by kernel_rfl
theorem indexFuncL1 (b : Bool) (f : FuncId) (cp : Array Value) (q : Option Addr) (n c : Nat) (g : Nat) (w : World) (c0 : w.cell? ⟨g, 0, none⟩ = some (.slice q n c)) (hcf : Enters f)
  (hf : ∀ w1, Keeps w w1 → Calls Tryz.prog f (#[.slice q n c] ++ cp) w1 fun e w2 => e = .returned (.bool b) ∧ Keeps w1 w2) :
  Calls Tryz.prog 135 #[.slice (some ⟨g, 0, none⟩) 1 1, .func (.func f) #[] cp] w fun e w' => e = .returned (.int .i64 (if b then 0 else -1)) ∧ Keeps w w' := by
 have HF := hid hf; clear hf
 have hcf' : ∀ args w, (callFunc f args).run Tryz.prog w = .ok (.enter f args) w := hcf
 clear hcf
 cases b
 ·go_enter Tryz.func135, Tryz.ntmps135
  go_wp2
  go_loopw [4, 8] (fun r i' wr => ∃ k : Nat, k ≤ 1 ∧ Keeps w wr ∧ i' = .int .i64 k ∧ r = .int .i64 0) (fun _ i _ => 1 - (intOf i).toNat)
  case atStart => exact ⟨0, by omega, Keeps.refl w, rfl, rfl⟩
  case round =>
   obtain ⟨k, hk, kw, rfl, rfl⟩ := hrel
   by_cases hlt : k = 0
   ·subst hlt
    have e0 := kw.cell c0
    have HF1 := hid (HF.out wr kw)
    go_wp2_with ((with_reducible refine HF1.out.mono ?_); rintro e w2 ⟨rfl, k2⟩)
    go_roundw
    case rel => exact ⟨1, by omega, kw.trans k2, by go_num, rfl⟩
    case measure => simp [intOf]
   ·obtain rfl : k = 1 := by omega
    go_wp2
    go_ret
    exact ⟨rfl, kw⟩
 ·go_enter Tryz.func135, Tryz.ntmps135
  go_wp2
  go_loopw [4, 8] (fun r i' wr => Keeps w wr ∧ i' = .int .i64 0 ∧ r = .int .i64 0) (fun _ i _ => 1 - (intOf i).toNat)
  case atStart => exact ⟨Keeps.refl w, rfl, rfl⟩
  case round =>
   obtain ⟨kw, rfl, rfl⟩ := hrel
   have e0 := kw.cell c0
   have HF1 := hid (HF.out wr kw)
   go_wp2_with ((with_reducible refine HF1.out.mono ?_); rintro e w2 ⟨rfl, k2⟩)
   go_ret
   exact ⟨rfl, kw.trans k2⟩
theorem containsFuncL1 (b : Bool) (f : FuncId) (cp : Array Value) (q : Option Addr) (n c : Nat) (g : Nat) (w : World) (c0 : w.cell? ⟨g, 0, none⟩ = some (.slice q n c)) (hcf : Enters f)
  (hf : ∀ w1, Keeps w w1 → Calls Tryz.prog f (#[.slice q n c] ++ cp) w1 fun e w2 => e = .returned (.bool b) ∧ Keeps w1 w2) :
  Calls Tryz.prog 89 #[.slice (some ⟨g, 0, none⟩) 1 1, .func (.func f) #[] cp] w fun e w' => e = .returned (.bool b) ∧ Keeps w w' := by
 have H := hid (indexFuncL1 b f cp q n c g w c0 hcf hf)
 clear hf hcf c0
 cases b
 ·go_enter Tryz.func89, Tryz.ntmps89
  go_wp2_with fail
  refine H.out.mono ?_; rintro e w2 ⟨rfl, k2⟩
  go_wp2_with fail
  go_ret
  exact ⟨rfl, k2⟩
 ·go_enter Tryz.func89, Tryz.ntmps89
  go_wp2_with fail
  refine H.out.mono ?_; rintro e w2 ⟨rfl, k2⟩
  go_wp2_with fail
  go_ret
  exact ⟨rfl, k2⟩
open scoped Classical in
theorem stepsCode_any (lg : ByteArray) (n : Nat) (q : Option Addr) (c g : Nat) (w : World) (c0 : w.cell? ⟨g, 0, none⟩ = some (.slice q n c)) :
  Calls Tryz.prog 88 #[.string lg, .slice (some ⟨g, 0, none⟩) 1 1] w fun e w' => e = .returned (.int .i64 (if decide (lg ∈ names7) = true then (if n = 0 ∨ 60 < n then 3 else 0) else 2)) ∧ Keeps w w' := by
 have HL := hid (implIsSeq_any lg w)
 obtain ⟨R, hR⟩ : ∃ R : Int, (if decide (lg ∈ names7) = true then (if n = 0 ∨ 60 < n then 3 else 0) else 2) = R := ⟨_, rfl⟩
 rw [hR]
 have HR := hid hR
 clear hR
 have HCF := hid (fun wz (kz : Keeps w wz) => containsFuncL1 (decide (n = 0 ∨ 60 < n)) 134 #[] q n c g wz (kz.cell c0) enters_steps1 (fun w1 _ => stepsCode1_any n q c w1))
 generalize decide (lg ∈ names7) = bn at *
 go_enter Tryz.func88, Tryz.ntmps88
 go_wp2_with fail
 refine HL.out.mono ?_; rintro e w2 ⟨rfl, k2⟩
 cases bn
 ·have HR2 : Hid (2 = R) := hid HR.out
  clear HR HCF
  go_wp2_with fail
  go_ret
  exact ⟨ret_int HR2.out, k2⟩
 ·have HR2 : Hid ((if n = 0 ∨ 60 < n then 3 else 0) = R) := hid HR.out
  have HC2 := hid (HCF.out w2 k2)
  clear HR HCF
  by_cases h : n = 0 ∨ 60 < n
  ·rw [decide_eq_true h] at HC2
   rw [if_pos h] at HR2
   clear h
   go_wp2_with fail
   refine HC2.out.mono ?_; rintro e w3 ⟨rfl, k3⟩
   go_wp2_with fail
   go_ret
   exact ⟨ret_int HR2.out, k2.trans k3⟩
  ·rw [decide_eq_false h] at HC2
   rw [if_neg h] at HR2
   clear h
   go_wp2_with fail
   refine HC2.out.mono ?_; rintro e w3 ⟨rfl, k3⟩
   go_wp2_with fail
   go_ret
   exact ⟨ret_int HR2.out, k2.trans k3⟩
theorem proofCode1_any (lg : ByteArray) (hlg : lg ∈ names7) (steps : List StT) (hM : MidSt steps) (v : Value) (b : Nat) (w : World) (hc : w.cell? ⟨b, 0, none⟩ = some (.string lg)) (hv : StL w v steps) :
  Calls Tryz.prog 90 #[v, .pointer (some ⟨b, 0, none⟩)] w fun e w' => e = .returned (.bool (decide (0 ≤ badN (lgN lg) steps steps 0))) ∧ Keeps w w' := by
 have HB := hid (firstBad_any lg hlg steps hM v w hv)
 obtain ⟨p, cap, rfl, _⟩ := hv.shape
 clear hv hM
 generalize badN (lgN lg) steps steps 0 = x at *
 go_enter Tryz.func90, Tryz.ntmps90
 go_wp2_with fail
 refine HB.out.mono ?_; rintro e w2 ⟨rfl, k2⟩
 go_wp2_with fail
 go_ret
 exact ⟨ret_bool (by simp), k2⟩
theorem enters_proof1 : Enters 90 := fun _ _ => by kernel_rfl
open scoped Classical in
set_option maxHeartbeats 1000000 in
theorem proofCode_any (lg : ByteArray) (steps : List StT) (hM : MidSt steps) (q : Option Addr) (n c g : Nat) (w : World) (c0 : w.cell? ⟨g, 0, none⟩ = some (.slice q n c)) (hv : StL w (.slice q n c) steps) :
  Calls Tryz.prog 44 #[.string lg, .slice (some ⟨g, 0, none⟩) 1 1] w fun e w' => e = .returned (.int .i64 (stE lg steps)) ∧ Keeps w w' := by
 have kA := (Keeps.refl w).alloc (.cells #[.string lg] 9)
 have hb := box1 w (.string lg) 9
 have HS := hid (stepsCode_any lg n q c g _ (kA.cell c0))
 obtain ⟨_, _, en, _⟩ := hv.shape
 cases en
 have HE : Hid (stE lg steps = if decide (lg ∈ names7) = true then (if steps.length = 0 ∨ 60 < steps.length then 3 else if 0 ≤ badN (lgN lg) steps steps 0 then 5 else 0) else 2) := hid rfl
 have HCF := hid (fun (hlg : lg ∈ names7) wz (kz : Keeps (w.alloc (.cells #[.string lg] 9)) wz) => containsFuncL1 (decide (0 ≤ badN (lgN lg) steps steps 0)) 90 #[.pointer (some ⟨w.heap.size, 0, none⟩)] q steps.length c g wz (kz.cell (kA.cell c0)) enters_proof1 (fun w1 k1 => proofCode1_any lg hlg steps hM _ w.heap.size w1 (k1.cell (kz.cell hb)) (((hv.keeps kA).keeps kz).keeps k1)))
 generalize stE lg steps = R at *
 generalize badN (lgN lg) steps steps 0 = bd at *
 clear hM
 by_cases hlg : lg ∈ names7
 ·rw [decide_eq_true hlg, if_pos rfl] at HE HS
  have HC2 := hid (HCF.out hlg)
  clear HCF hlg
  by_cases h : steps.length = 0 ∨ 60 < steps.length
  ·rw [if_pos h] at HE HS
   clear h HC2
   go_enter Tryz.func44, Tryz.ntmps44
   go_wp2_with fail
   refine HS.out.mono ?_; rintro e w2 ⟨rfl, k2⟩
   go_wp2_with fail
   go_ret
   exact ⟨ret_int HE.out.symm, kA.trans k2⟩
  ·rw [if_neg h] at HE HS
   clear h
   go_enter Tryz.func44, Tryz.ntmps44
   go_wp2_with fail
   refine HS.out.mono ?_; rintro e w2 ⟨rfl, k2⟩
   have HC3 := hid (HC2.out w2 k2)
   clear HC2
   by_cases hb2 : 0 ≤ bd
   ·rw [decide_eq_true hb2] at HC3
    rw [if_pos hb2] at HE
    clear hb2
    go_wp2_with fail
    refine HC3.out.mono ?_; rintro e w3 ⟨rfl, k3⟩
    go_wp2_with fail
    go_ret
    exact ⟨ret_int HE.out.symm, (kA.trans k2).trans k3⟩
   ·rw [decide_eq_false hb2] at HC3
    rw [if_neg hb2] at HE
    clear hb2
    go_wp2_with fail
    refine HC3.out.mono ?_; rintro e w3 ⟨rfl, k3⟩
    go_wp2_with fail
    go_ret
    exact ⟨ret_int HE.out.symm, (kA.trans k2).trans k3⟩
 ·have HE2 : Hid (R = 2) := hid (by rw [HE.out, decide_eq_false hlg]; rfl)
  rw [decide_eq_false hlg, if_neg (by simp)] at HS
  clear hlg HE HCF
  go_enter Tryz.func44, Tryz.ntmps44
  go_wp2_with fail
  refine HS.out.mono ?_; rintro e w2 ⟨rfl, k2⟩
  go_wp2_with fail
  go_ret
  exact ⟨ret_int HE2.out.symm, kA.trans k2⟩
end Go.Proofs.YtkkcfifnkcnceaaGreat
namespace Go.Proofs.YtkkcfifnkcnceaaGreat
open Go.RowKit
set_option maxRecDepth 20000 in
set_option maxHeartbeats 1000000 in
theorem indexFuncSt (pr : StT → Bool) (f : FuncId) (cp : Array Value) (xs : List StT) (v : Value) (w : World) (hv : StL w v xs) (hcf : Enters f)
  (hf : ∀ (x : StT) (p l q : Value) (w1 : World), x ∈ xs → Keeps w w1 → Ints w1 p x.pr → StrsP w1 l x.l → StrsP w1 q x.r → Calls Tryz.prog f (#[.agg #[.int .i64 x.rule, p, l, q, .string x.main]] ++ cp) w1 fun e w2 => e = .returned (.bool (pr x)) ∧ Keeps w1 w2) :
  Calls Tryz.prog 97 #[v, .func (.func f) #[] cp] w fun e w' => e = .returned (.int .i64 (idxOf pr xs 0)) ∧ Keeps w w' := by
 have HV := hid hv
 obtain ⟨p, cap, rfl, hle, hmx, hlen⟩ := hv.shape
 unfold maxLen at hmx
 clear hv
 have HF := hid hf; clear hf
 have hcf' : ∀ args w, (callFunc f args).run Tryz.prog w = .ok (.enter f args) w := hcf
 clear hcf
 go_enter Tryz.func97, Tryz.ntmps97
 go_wp2
 go_loopw [4, 8] (fun r i' wr => ∃ k : Nat, k ≤ xs.length ∧ idxOf pr xs 0 = idxOf pr (xs.drop k) k ∧ Keeps w wr ∧ i' = .int .i64 k ∧ r = .int .i64 0) (fun _ i _ => xs.length - (intOf i).toNat)
 case atStart => exact ⟨0, by omega, by simp, Keeps.refl w, rfl, rfl⟩
 case round =>
  obtain ⟨k, hk, hs, kw, rfl, rfl⟩ := hrel
  have Hs := hid hs; clear hs
  by_cases hlt : k < xs.length
  ·obtain ⟨b, o, p1, n1, c1, p2, n2, c2, p3, n3, c3, rfl, ⟨z0, z1, z2, z3, z4⟩, hpr, hl, hr⟩ := (HV.out.keeps kw).get k hlt
   have hd := hid (idxOf_drop pr xs k hlt)
   have HFk := hid (HF.out xs[k] _ _ _ wr (List.getElem_mem hlt) kw hpr hl hr)
   have hlt' : (k : Int) < xs.length := by omega
   clear hpr hl hr
   cases hp : pr xs[k]
   all_goals
    have Hp := hid hp; clear hp
    rw [Hp.out] at HFk
    go_wp2_with ((with_reducible refine HFk.out.mono ?_); rintro e w2 ⟨rfl, k2⟩)
   ·go_roundw
    case rel => exact ⟨k + 1, by omega, by rw [Hs.out, hd.out, Hp.out]; rfl, kw.trans k2, by go_num, rfl⟩
    case measure => simp [intOf]; omega
   ·go_ret
    exact ⟨ret_int (by rw [Hs.out, hd.out, Hp.out]; rfl), kw.trans k2⟩
  ·have hlt' : ¬ (k : Int) < xs.length := by omega
   go_wp2
   go_ret
   exact ⟨ret_int (by rw [Hs.out, idxOf_end _ _ _ (by omega)]), kw⟩
theorem containsFuncSt (pr : StT → Bool) (f : FuncId) (cp : Array Value) (xs : List StT) (v : Value) (w : World) (hv : StL w v xs) (hcf : Enters f)
  (hf : ∀ (x : StT) (p l q : Value) (w1 : World), x ∈ xs → Keeps w w1 → Ints w1 p x.pr → StrsP w1 l x.l → StrsP w1 q x.r → Calls Tryz.prog f (#[.agg #[.int .i64 x.rule, p, l, q, .string x.main]] ++ cp) w1 fun e w2 => e = .returned (.bool (pr x)) ∧ Keeps w1 w2) :
  Calls Tryz.prog 49 #[v, .func (.func f) #[] cp] w fun e w' => e = .returned (.bool (xs.any pr)) ∧ Keeps w w' := by
 have H := hid (indexFuncSt pr f cp xs v w hv hcf hf)
 obtain ⟨p, cap, rfl, _⟩ := hv.shape
 clear hv hf hcf
 have he := hid (idxOf_any pr xs 0)
 go_enter Tryz.func49, Tryz.ntmps49
 go_wp2_with (go_at_call 97; refine H.out.mono ?_; rintro e w2 ⟨rfl, k2⟩)
 go_ret
 exact ⟨ret_bool he.out, k2⟩
set_option maxRecDepth 20000 in
set_option maxHeartbeats 2000000 in
theorem an1_any (x : StT) (KN : List ByteArray) (hq : isQ x.l x.r = true) (p l q kv : Value) (g : Nat) (w : World) (hc : w.cell? ⟨g, 0, none⟩ = some kv) (hk : Strs w kv KN) (hp : Ints w p x.pr) (hl : StrsP w l x.l) (hr : StrsP w q x.r) :
  Calls Tryz.prog 50 #[.agg #[.int .i64 x.rule, p, l, q, .string x.main], .pointer (some ⟨g, 0, none⟩)] w fun e w' => e = .returned (.bool (!subS (x.l ++ x.r) KN)) ∧ Keeps w w' := by
 obtain ⟨p1, c1, rfl, _⟩ := hp.sh5
 obtain ⟨p2, n2, c2, rfl⟩ := hl.sh
 obtain ⟨p3, n3, c3, rfl⟩ := hr.sh
 obtain ⟨l1, l2, _, _⟩ := isQ_iff hq
 have kA := (Keeps.refl w).alloc (.cells #[.int .i64 x.rule, .slice p1 x.pr.length c1, .slice p2 n2 c2, .slice p3 n3 c3, .string x.main] 68)
 have hX := StB.made w x _ _ _ hp hl hr
 have HSE := hid (fun wz => sequent_any x.rule p1 p2 p3 x.pr.length c1 n2 c2 n3 c3 x.main wz)
 have HFO := hid (fun wz (kz : Keeps w wz) => formulas_any x.l x.r _ _ wz (hl.keeps kz).1 (hr.keeps kz).1 (by omega))
 have HSU := hid (fun v wz (kz : Keeps w wz) (hv : Strs wz v (x.l ++ x.r)) => subset_any (x.l ++ x.r) KN v kv wz hv (hk.keeps kz))
 have hll : (x.l ++ x.r).length ≤ 100 := by rw [List.length_append]; omega
 obtain ⟨pk, nk, ck, rfl⟩ := hk.sh
 have hkc := kA.cell hc
 have HX := hid hX
 clear hp hl hr hk hc hX l1 l2 hq
 generalize subS (x.l ++ x.r) KN = r at *
 go_enter Tryz.func50, Tryz.ntmps50
 go_upto_region 1 with fail
 generalize w.alloc (.cells #[.int .i64 x.rule, .slice p1 x.pr.length c1, .slice p2 n2 c2, .slice p3 n3 c3, .string x.main] 68) = wA at *
 have kd := (Keeps.refl wA).drew
 obtain ⟨y0, y1, y2, y3, y4⟩ := (HX.out.keeps kd).cells
 have x0 := kd.cell hkc
 have KA := kA.trans kd
 go_region_held3 (fun w' => w'.cell? ⟨w.heap.size, 0, none⟩ = some (.int .i64 x.rule) ∧ w'.cell? ⟨w.heap.size, 1, none⟩ = some (.slice p1 x.pr.length c1) ∧ w'.cell? ⟨w.heap.size, 2, none⟩ = some (.slice p2 n2 c2) ∧ w'.cell? ⟨w.heap.size, 3, none⟩ = some (.slice p3 n3 c3) ∧ w'.cell? ⟨w.heap.size, 4, none⟩ = some (.string x.main) ∧ w'.cell? ⟨g, 0, none⟩ = some (.slice pk nk ck)) (first | exact ⟨y0, y1, y2, y3, y4, x0⟩ | exact ⟨a0, a1, a2, a3, a4, ax⟩ | exact ⟨b0, b1, b2, b3, b4, bx⟩ | exact ⟨d0, d1, d2, d3, d4, dx⟩) (first | (go_at_call 47; refine (HSE.out _).mono ?_; rintro e w6 ⟨rfl, k6⟩; have a0 := k6.cell y0; have a1 := k6.cell y1; have a2 := k6.cell y2; have a3 := k6.cell y3; have a4 := k6.cell y4; have ax := k6.cell x0) | (go_at_call 48; refine (HFO.out _ (KA.trans k6)).mono ?_; rintro e w7 ⟨v7, rfl, hv7, k7⟩; have b0 := k7.cell a0; have b1 := k7.cell a1; have b2 := k7.cell a2; have b3 := k7.cell a3; have b4 := k7.cell a4; have bx := k7.cell ax) | (go_at_call 51; refine (HSU.out _ _ ((KA.trans k6).trans k7) (hv7.strs (by omega))).mono ?_; rintro e w8 ⟨rfl, k8⟩; have d0 := k8.cell b0; have d1 := k8.cell b1; have d2 := k8.cell b2; have d3 := k8.cell b3; have d4 := k8.cell b4; have dx := k8.cell bx))
 go_wp2_with fail
 go_ret
 exact ⟨rfl, ((KA.trans k6).trans k7).trans k8⟩
theorem enters_an1 : Enters 50 := fun _ _ => by kernel_rfl
set_option maxRecDepth 100000 in
set_option maxHeartbeats 4000000 in
theorem implIsAnalytic_any (lg : ByteArray) (steps : List StT) (hM : MidSt steps) (v : Value) (w : World) (hv : StL w v steps) :
  Calls Tryz.prog 16 #[.string lg, v] w fun e w' => e = .returned (.tuple #[.bool (anR lg steps).1, .int .i64 (anR lg steps).2]) ∧ Keeps w w' := by
 have HV := hid (fun wz (kz : Keeps w wz) => hv.keeps kz)
 obtain ⟨p, cap, rfl, hle, hmx, _⟩ := hv.shape
 unfold maxLen at hmx
 have kA := (Keeps.refl w).alloc (.cells #[.slice p steps.length cap] 39)
 have HC := hid (proofCode_any lg steps hM p steps.length cap w.heap.size _ (box1 w (.slice p steps.length cap) 39) (HV.out _ kA))
 have HE : Hid (anR lg steps = if stE lg steps = 0 then (anB steps, 0) else (false, stE lg steps)) := hid rfl
 have HOK := hid (fun h => stE_ok (lg := lg) (steps := steps) h)
 generalize anR lg steps = R at *
 generalize stE lg steps = code at *
 clear hv hM
 go_enter Tryz.func16, Tryz.ntmps16
 go_wp2_with fail
 refine HC.out.mono ?_; rintro e w2 ⟨rfl, k2⟩
 have K2 := kA.trans k2
 by_cases hc : code = 0
 ·subst hc
  have HE2 : Hid (R = (anB steps, 0)) := hid HE.out
  obtain ⟨-, hp, h60, hq⟩ := HOK.out rfl
  have HQ := hid hq
  obtain ⟨x, hx⟩ : ∃ x, steps[steps.length - 1]'(by omega) = x := ⟨_, rfl⟩
  have hxe : lastSt steps = x := by
   unfold lastSt
   rw [List.getD_eq_getElem?_getD, List.getElem?_eq_getElem (by omega)]
   exact hx
  have HKN : Hid (knowT steps = subT (fmL (x.l ++ x.r))) := hid (by unfold knowT; rw [hxe])
  have HAN : Hid (anB steps = steps.all fun y => subS (y.l ++ y.r) (knowT steps)) := hid rfl
  generalize anB steps = A at *
  generalize knowT steps = KN at *
  have hxq : isQ x.l x.r = true := by have := HQ.out (steps.length - 1) (by omega); rw [hx] at this; exact this
  obtain ⟨l1, l2, s1, s2⟩ := isQ_iff hxq
  have hFine : Fine (fmL (x.l ++ x.r)) := by rw [fmL_append]; exact (fmL_fine s1).append (fmL_fine s2)
  have hkl : KN.length ≤ 40 * 32 := by
   have h := subT_len hFine
   rw [HKN.out]
   rw [fmL_len, List.length_append] at h
   omega
  obtain ⟨b, off, p1, n1, c1, p2, n2, c2, p3, n3, c3, eb, ⟨z0, z1, z2, z3, z4⟩, -, hl, hr⟩ := (HV.out w2 K2).get (steps.length - 1) (by omega)
  cases eb
  rw [hx] at z0 z4 hl hr
  have HO1 := hid (fun wz => sequent_any x.rule p1 p2 p3 n1 c1 n2 c2 n3 c3 x.main wz)
  have HFO := hid (fun wz (kz : Keeps w2 wz) => formulas_any x.l x.r _ _ wz (hl.keeps kz).1 (hr.keeps kz).1 (by omega))
  have HFL := hid (fun v wz (hv : Strs wz v (x.l ++ x.r)) => formulasOf_any (x.l ++ x.r) (fun s hs => by
   rcases List.mem_append.1 hs with h | h
   ·exact s1.1 s h
   ·exact s2.1 s h) v wz hv)
  have HSF := hid (fun v wz (hv : NdsL wz v ((fmL (x.l ++ x.r)).map Fm.enc)) => subformulas_any (fmL (x.l ++ x.r)) hFine (by rw [fmL_len, List.length_append]; omega) v wz hv)
  rw [← HKN.out] at HSF
  have hl1 : ((steps.length : Nat) : Int) - 1 = ((steps.length - 1 : Nat) : Int) := by omega
  have hl2 : ((steps.length - 1 : Nat) : Int) < steps.length := by omega
  obtain ⟨ln, hln⟩ : ∃ ln, ln = steps.length - 1 := ⟨_, rfl⟩
  rw [← hln] at z0 z1 z2 z3 z4 hl1 hl2
  have hsl : (x.l ++ x.r).length ≤ 32 := by rw [List.length_append]; omega
  have hsf : (fmL (x.l ++ x.r)).length ≤ 32 := by rw [fmL_len]; exact hsl
  have hen := encs_tot hFine
  have HEN := hid hen
  clear HE HOK hxe hx hln s1 s2 hl hr hq hxq hFine hen
  go_wp2_with fail
  refine (HO1.out _).mono ?_; rintro e w3 ⟨rfl, k3⟩
  go_wp2_with fail
  refine (HFO.out _ k3).mono ?_; rintro e w4 ⟨v4, rfl, hv4, k4⟩
  have HF4 := hid (HFL.out _ _ (hv4.strs (by omega)))
  clear hv4 HFL HFO HO1 z0 z1 z2 z3 z4
  go_wp2_with fail
  refine HF4.out.mono ?_; rintro e w5 ⟨v5, rfl, hv5, k5⟩
  have HS5 := hid (HSF.out v5 w5 (hv5.ndsL (by rw [List.length_map]; omega) (by have := HEN.out; omega)))
  clear HF4 HSF hv5
  go_wp2_with fail
  refine HS5.out.mono ?_; rintro e w6 ⟨v6, rfl, hv6, k6⟩
  have hk6 : Strs w6 v6 KN := hv6.strs (by omega)
  have kB := (Keeps.refl w6).alloc (.cells #[v6] 24)
  have hb6 := box1 w6 v6 24
  have K6 := ((((K2.trans k3).trans k4).trans k5).trans k6).trans kB
  have HKS := hid (hk6.keeps kB)
  obtain ⟨p6, n6, c6, rfl⟩ := hk6.sh
  have HCF := hid (containsFuncSt (fun y => !subS (y.l ++ y.r) KN) 50 #[.pointer (some ⟨w6.heap.size, 0, none⟩)] steps _ _ (HV.out _ K6) enters_an1 (fun y p l q w1 hy k1 h1 h2 h3 => by
   obtain ⟨j, hj, rfl⟩ := List.getElem_of_mem hy
   exact an1_any steps[j] KN (HQ.out j hj) p l q _ w6.heap.size w1 (k1.cell hb6) (HKS.out.keeps k1) h1 h2 h3))
  have HAA : Hid (A = !(steps.any fun y => !subS (y.l ++ y.r) KN)) := hid (by
   rw [HAN.out, List.not_any_eq_all_not]
   simp)
  generalize (steps.any fun y => !subS (y.l ++ y.r) KN) = r at *
  clear HS5 hv6 hk6 HKS hb6 HAN HKN
  go_wp2_with fail
  refine HCF.out.mono ?_; rintro e w7 ⟨rfl, k7⟩
  go_wp2_with fail
  go_ret2
  exact ⟨ret_t (by rw [HE2.out, HAA.out]), K6.trans k7⟩
 ·have HE2 : Hid (R = (false, code)) := hid (by rw [HE.out, if_neg hc])
  have hc' : (code != 0) = true := by simpa using hc
  clear HE HOK hc
  go_wp2_with fail
  go_ret2
  exact ⟨ret_t HE2.out, K2⟩
end Go.Proofs.YtkkcfifnkcnceaaGreat
