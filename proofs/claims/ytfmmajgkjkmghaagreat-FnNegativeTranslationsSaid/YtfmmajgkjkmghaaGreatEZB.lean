import Derived.Test.YtfmmajgkjkmghaaGreatEHF
import Derived.Test.YtfmmajgkjkmghaaGreatEHD
import Derived.Test.YtfmmajgkjkmghaaGreatEBase
import Derived.Test.YtfmmajgkjkmghaaGreatEM2
/- The program's valuations: an iterator that writes one row and calls itself. -/
namespace Go.Proofs.YtfmmajgkjkmghaaGreat
open Go.RowKit
theorem room_of_none' {F : Fence} (hd : F.depth = none) (k : Nat) : F.room k := fun d h => by rw [hd] at h; cases h
theorem YieldAt.wideDepth {m : Nat} (m' : Nat) {P : Program} {l : Nat} {args : Array Value} {W : World} {R : Ending → World → Prop} (h : YieldAt Fence.wide m P l args W R) : YieldAt Fence.wide m' P l args W R := by
 obtain ⟨fn, tmps, assign, body, hy, hR⟩ := h
 exact ⟨fn, tmps, assign, body, hy, ⟨hR.1, fun c cs _ => hR.2 c cs (room_of_none' rfl _)⟩⟩
theorem vldK_true {P : List Nat → Bool} {U V : List Nat} {k : Nat} {vals : List Nat} (hk : k < V.length) (h : ∀ j, j < U.length → vldL P U (V.drop (k + 1)) (vals.set (V.getD k 0) (U.getD j 0)) = true) : vldL P U (V.drop k) vals = true := by
 rw [List.drop_eq_getElem_cons hk, vldL, List.all_eq_true]
 intro u hu
 obtain ⟨j, hj, rfl⟩ := List.getElem_of_mem hu
 have := h j hj
 rwa [getD_get hk, getD_get hj] at this
theorem vldK_false {P : List Nat → Bool} {U V : List Nat} {k : Nat} {vals : List Nat} (hk : k < V.length) {j : Nat} (hj : j < U.length) (h : vldL P U (V.drop (k + 1)) (vals.set (V.getD k 0) (U.getD j 0)) = false) : vldL P U (V.drop k) vals = false := by
 rw [List.drop_eq_getElem_cons hk, vldL, Bool.eq_false_iff]
 intro e
 have := List.all_eq_true.1 e U[j] (List.getElem_mem hj)
 rw [getD_get hk, getD_get hj] at h
 rw [h] at this; cases this
theorem offK {V : List Nat} {k : Nat} (hk : k < V.length) {a c d : List Nat} {u : Nat} (h : Off6 (V.drop k) a c) (g : Off6 (V.drop (k + 1)) (c.set (V.getD k 0) u) d) : Off6 (V.drop k) a d := by
 rw [List.drop_eq_getElem_cons hk] at h ⊢
 rw [getD_get hk] at g
 exact (h.trans (off_set (V.drop (k + 1)) c V[k] u)).trans (g.mono (fun x hx => List.mem_cons_of_mem _ hx))
theorem offSet {V : List Nat} {k : Nat} (hk : k < V.length) {a c : List Nat} (u : Nat) (h : Off6 (V.drop k) a c) : Off6 (V.drop (k + 1)) (a.set (V.getD k 0) u) (c.set (V.getD k 0) u) := by
 rw [List.drop_eq_getElem_cons hk] at h
 rw [getD_get hk]
 exact h.set u
structure VSt (VU : World → Prop) (W : World) (B l bv bu yb bs bf g : Nat) (vals : List Nat) : Prop where
 vu : VU W
 cy : W.cell? ⟨yb, 0, none⟩ = some (.func (.yield l) #[] #[])
 cs : W.cell? ⟨bs, 0, none⟩ = some (.slice (some ⟨g, 0, none⟩) 6 6)
 cf : W.cell? ⟨bf, 0, none⟩ = some (.func (.func 206) #[] #[.pointer (some ⟨bv, 0, none⟩), .pointer (some ⟨yb, 0, none⟩), .pointer (some ⟨bs, 0, none⟩), .pointer (some ⟨bu, 0, none⟩), .pointer (some ⟨bf, 0, none⟩)])
 own : OwnI W B (.slice (some ⟨g, 0, none⟩) 6 6) (zs vals)
 len : vals.length = 6
theorem VSt.touch {VU : World → Prop} {W W' : World} {B l bv bu yb bs bf g : Nat} {vals : List Nat} (h : VSt VU W B l bv bu yb bs bf g vals) {S : Nat → Prop} (k : Touch W W' S) (hv : VU W') (h1 : ¬ S yb) (h2 : ¬ S bs) (h3 : ¬ S bf) (h4 : ¬ S g) : VSt VU W' B l bv bu yb bs bf g vals :=
 ⟨hv, by rw [(k.cell (World.block_lt_of_cell? _ _ h.cy) h1).1]; exact h.cy, by rw [(k.cell (World.block_lt_of_cell? _ _ h.cs) h2).1]; exact h.cs, by rw [(k.cell (World.block_lt_of_cell? _ _ h.cf) h3).1]; exact h.cf,
  h.own.touch k (fun i hi => by have : g = i := by simpa [Value.ownBlock] using hi
                                subst this; exact h4), h.len⟩
theorem VSt.store {VU : World → Prop} {W : World} {B l bv bu yb bs bf g : Nat} {vals : List Nat} (h : VSt VU W B l bv bu yb bs bf g vals) (v u : Nat) (hv : v < 6) (h1 : g ≠ yb) (h2 : g ≠ bs) (h3 : g ≠ bf) (hvu : VU (W.setCell ⟨g, v, none⟩ (.int .i64 u))) :
  VSt VU (W.setCell ⟨g, v, none⟩ (.int .i64 u)) B l bv bu yb bs bf g (vals.set v u) ∧ Touch W (W.setCell ⟨g, v, none⟩ (.int .i64 u)) (fun k => k = g) := by
 have hl : v < (zs vals).length := by rw [zs_length, h.len]; exact hv
 have hst := h.own.store v hl (u : Int)
 have ht : Touch W (W.setCell ⟨g, v, none⟩ (.int .i64 u)) (fun k => k = g) := (Touch.grown hst.2).mono (fun k e => by simpa using e)
 refine ⟨⟨hvu, ?_, ?_, ?_, ?_, by simp [h.len]⟩, ht⟩
 ·rw [(ht.cell (World.block_lt_of_cell? _ _ h.cy) (fun e => h1 e.symm)).1]; exact h.cy
 ·rw [(ht.cell (World.block_lt_of_cell? _ _ h.cs) (fun e => h2 e.symm)).1]; exact h.cs
 ·rw [(ht.cell (World.block_lt_of_cell? _ _ h.cf) (fun e => h3 e.symm)).1]; exact h.cf
 ·rw [zs_set]; exact hst.1
theorem enters_val11 : Enters 206 := fun _ _ => by kernel_rfl
set_option maxRecDepth 20000 in
set_option maxHeartbeats 4000000 in
theorem fill11_any (VU J Jx : World → Prop) (S : Nat → Prop) (B l bv bu yb bs bf g M : Nat) (vV vU : Value) (V U : List Nat) (Pt : List Nat → Bool)
  (hVUf : ∀ A, VU A → A.cell? ⟨bv, 0, none⟩ = some vV ∧ A.cell? ⟨bu, 0, none⟩ = some vU ∧ Ints A vV (zs V) ∧ Ints A vU (zs U))
  (hVU : ∀ A C, VU A → Touch A C (fun k => S k ∨ k = l ∨ B ≤ k) → VU C) (hJ : ∀ A C, J A → Touch A C (fun k => B ≤ k) → J C)
  (hY : ∀ vs vv W, J W → Ints W vv (zs vs) → vs.length = 6 → Bnd M vs → YieldAt Fence.wide 5 Tryz.prog l #[vv] W fun e W' => e = .returned (.bool (Pt vs)) ∧ JRes J Jx (Pt vs) W' ∧ Touch W W' (fun k => S k ∨ k = l))
  (hS : ∀ k, S k → k < B) (hl : l < B) (h1 : B ≤ yb) (h2 : B ≤ bs) (h3 : B ≤ bf) (n1 : g ≠ yb) (n2 : g ≠ bs) (n3 : g ≠ bf) (hV : ∀ x ∈ V, x < 6) (hU : ∀ x ∈ U, x < 2 ^ M) :
  ∀ d k vals W, k + d = V.length → VSt VU W B l bv bu yb bs bf g vals → Bnd M vals → J W →
   Calls Tryz.prog 206 #[.int .i64 k, .pointer (some ⟨bv, 0, none⟩), .pointer (some ⟨yb, 0, none⟩), .pointer (some ⟨bs, 0, none⟩), .pointer (some ⟨bu, 0, none⟩), .pointer (some ⟨bf, 0, none⟩)] W
    fun e W' => e = .returned (.bool (vldL Pt U (V.drop k) vals)) ∧ JRes J Jx (vldL Pt U (V.drop k) vals) W' ∧ ∃ vals', Off6 (V.drop k) vals vals' ∧ Bnd M vals' ∧ VSt VU W' B l bv bu yb bs bf g vals' := by
 intro d
 induction d with
 | zero =>
  intro k vals W hk h hb hj
  obtain rfl : k = V.length := by omega
  have hgB := h.own.len g rfl
  have hvl : vldL Pt U (V.drop V.length) vals = Pt vals := by rw [List.drop_length]; rfl
  rw [hvl]
  obtain ⟨fn, tmps, assign, body, hy, hR⟩ := hY vals _ W hj (h.own.ints (by rw [zs_length, h.len]; omega)) h.len hb
  have HVS := hid (fun W' (k : Touch W W' (fun k => S k ∨ k = l)) => h.touch k (hVU _ _ h.vu (k.mono (fun i e => e.elim .inl (fun e => .inr (.inl e))))) (fun e => by rcases e with e | e; (have := hS _ e; omega); omega) (fun e => by rcases e with e | e; (have := hS _ e; omega); omega) (fun e => by rcases e with e | e; (have := hS _ e; omega); omega) (fun e => by rcases e with e | e; (have := hS _ e; omega); omega))
  obtain ⟨c1, c2, r1, r2⟩ := hVUf _ h.vu
  have c3 := h.cy
  have c4 := h.cs
  have HO : Hid (∃ vals', Off6 (V.drop V.length) vals vals' ∧ True) := hid ⟨vals, Off6.refl _ _, trivial⟩
  have HB := hid hb
  obtain ⟨pV, qV, rfl, _⟩ := r1
  rw [zs_length V] at *
  clear hVUf hVU hJ hY hS hV hU h hb hj r2
  generalize V.length = nV at *
  have heq : (((nV : Nat) : Int) == ((nV : Nat) : Int)) = true := by simp
  go_enter Tryz.func206, Tryz.ntmps206
  go_upto_region 2 with (fail)
  refine (wpIn_wide (n := 6)).1 ?_
  gi_wp2
  refine hR.mono ?_; rintro e W' ⟨rfl, hj', ht⟩
  gi_wp2
  go_wp2_with fail
  go_ret
  exact ⟨rfl, hj', vals, Off6.refl _ _, HB.out, HVS.out W' ht⟩
 | succ d ih =>
  intro k vals W hk h hb hj
  have hkl : k < V.length := by omega
  have hgB := h.own.len g rfl
  have IH := hid (fun vals2 W2 (h2 : VSt VU W2 B l bv bu yb bs bf g vals2) (hb2 : Bnd M vals2) (hj2 : J W2) => ih (k + 1) vals2 W2 (by omega) h2 hb2 hj2)
  clear ih
  have hvk : V.getD k 0 < 6 := by rw [getD_get hkl]; exact hV _ (List.getElem_mem hkl)
  have HT := hid (fun (hh : ∀ j, j < U.length → vldL Pt U (V.drop (k + 1)) (vals.set (V.getD k 0) (U.getD j 0)) = true) => vldK_true hkl hh)
  have HF := hid (fun j (hj : j < U.length) (hh : vldL Pt U (V.drop (k + 1)) (vals.set (V.getD k 0) (U.getD j 0)) = false) => vldK_false hkl hj hh)
  have HOK := hid (fun (c d : List Nat) (u : Nat) (a1 : Off6 (V.drop k) vals c) (a2 : Off6 (V.drop (k + 1)) (c.set (V.getD k 0) u) d) => offK hkl a1 a2)
  have HOV := hid (fun (c : List Nat) (u : Nat) (a1 : Off6 (V.drop k) vals c) => vldL_off (P := Pt) (U := U) (offSet hkl u a1))
  have HUB : Hid (∀ j, j < U.length → U.getD j 0 < 2 ^ M) := hid fun j hj => by rw [getD_get hj]; exact hU _ (List.getElem_mem hj)
  have HBS : Hid (∀ (c : List Nat) (u : Nat), Bnd M c → u < 2 ^ M → c.length = 6 → Bnd M (c.set (V.getD k 0) u)) := hid fun c u hc hu hl6 i => by
   have hy := hvk
   generalize V.getD k 0 = y at hy ⊢
   by_cases e : y = i
   ·subst e
    have : (c.set y u).getD y 0 = u := by
     rw [List.getD_eq_getElem?_getD, List.getElem?_set]; simp [hl6, hy]
    rw [this]; exact hu
   ·have : (c.set y u).getD i 0 = c.getD i 0 := by
     rw [List.getD_eq_getElem?_getD, List.getElem?_set_ne e, ← List.getD_eq_getElem?_getD]
    rw [this]; exact hc i
  have HVU := hid hVU
  have HJ := hid hJ
  have HVF : Hid (∀ A, VU A → A.cell? ⟨bv, 0, none⟩ = some vV ∧ A.cell? ⟨bu, 0, none⟩ = some vU) := hid fun A ha => ⟨(hVUf A ha).1, (hVUf A ha).2.1⟩
  have HRV : Hid (∀ A, VU A → ∃ b o, vV = .slice (some ⟨b, o, none⟩) V.length (match vV with | .slice _ _ c => c | _ => 0) ∧ A.cell? ⟨b, o + k, none⟩ = some (.int .i64 ((V.getD k 0 : Nat) : Int))) := hid fun A ha => by
   obtain ⟨p, c, b, o, e, e2, h3⟩ := (hVUf A ha).2.2.1.zs_cellE k hkl
   subst e2; subst e
   exact ⟨b, o, rfl, h3⟩
  have HRU : Hid (∀ A i, VU A → i < U.length → ∃ b o, vU = .slice (some ⟨b, o, none⟩) U.length (match vU with | .slice _ _ c => c | _ => 0) ∧ A.cell? ⟨b, o + i, none⟩ = some (.int .i64 ((U.getD i 0 : Nat) : Int))) := hid fun A i ha hi => by
   obtain ⟨p, c, b, o, e, e2, h3⟩ := (hVUf A ha).2.2.2.zs_cellE i hi
   subst e2; subst e
   exact ⟨b, o, rfl, h3⟩
  obtain ⟨c1, c2, r1, r2⟩ := hVUf _ h.vu
  obtain ⟨pV, qV, rfl, _⟩ := r1
  obtain ⟨pU, qU, rfl, _, hmu, _, _⟩ := r2
  unfold maxLen at hmu
  simp only [] at HRV HRU
  rw [zs_length V] at *
  rw [zs_length U] at *
  have HVAL0 := hid (Off6.refl (V.drop k) vals)
  have hh0 := hid h
  have hj0 := hid hj
  have hb0 := hid hb
  have hne : (((k : Nat) : Int) == ((V.length : Nat) : Int)) = false := by simp; omega
  clear hVUf hVU hJ hY hV hU h hj hb
  obtain ⟨VK, hVK⟩ : ∃ VK : List Nat → Bool, ∀ x, VK x = vldL Pt U (V.drop k) x := ⟨_, fun _ => rfl⟩
  obtain ⟨VN, hVN⟩ : ∃ VN : List Nat → Bool, ∀ x, VN x = vldL Pt U (V.drop (k + 1)) x := ⟨_, fun _ => rfl⟩
  obtain ⟨OK, hOKd⟩ : ∃ OK : List Nat → Prop, ∀ x, OK x = Off6 (V.drop k) vals x := ⟨_, fun _ => rfl⟩
  obtain ⟨ON, hOND⟩ : ∃ ON : List Nat → List Nat → Prop, ∀ x y, ON x y = Off6 (V.drop (k + 1)) x y := ⟨_, fun _ _ => rfl⟩
  obtain ⟨UU, hUU⟩ : ∃ UU : Nat → Nat, ∀ x, UU x = U.getD x 0 := ⟨_, fun _ => rfl⟩
  simp only [← hVK, ← hVN, ← hOKd, ← hOND, ← hUU] at *
  clear hVK hVN hOKd hOND hUU
  generalize V.getD k 0 = x at *
  generalize hLU : U.length = LU at *
  generalize hLV : V.length = LV at *
  have hcf1 : ∀ args w, (callFunc 206 args).run Tryz.prog w = .ok (.enter 206 args) w := enters_val11
  go_enter Tryz.func206, Tryz.ntmps206
  go_wp2_with fail
  clear c1
  go_loopw [19] (fun s19 wr => ∃ i : Nat, i ≤ LU ∧ s19 = .int .i64 i ∧ J wr ∧ Hid (∀ j, j < i → VN (vals.set x (UU j)) = true) ∧ ∃ v2, Hid (OK v2) ∧ Hid (Bnd M v2) ∧ Hid (VSt VU wr B l bv bu yb bs bf g v2)) (fun s19 _ => LU - (intOf s19).toNat)
  case atStart => exact ⟨0, by omega, rfl, hj0.out, hid (fun j h => by omega), vals, HVAL0, hb0, hh0⟩
  case round =>
   obtain ⟨i, hi, rfl, hj, HI, v2, HO2, HB2, HS2⟩ := hrel
   clear hj0 HVAL0 hb0 hh0 c2
   by_cases hlt : i < LU
   ·have hlt' : (i : Int) < LU := by omega
    obtain ⟨c1, c2⟩ := HVF.out wr HS2.out.vu
    obtain ⟨b1, o1, e1, x1⟩ := HRV.out wr HS2.out.vu
    obtain ⟨b2, o2, e2, x2⟩ := HRU.out wr i HS2.out.vu hlt
    have hub := HUB.out i hlt
    generalize hu : UU i = u at *
    have HUI := hid hu; clear hu
    have c4 := HS2.out.cs
    have hd := Touch.of_keeps (Keeps.refl wr).drew (fun _ => False)
    have HSd := HS2.out.touch hd (HVU.out _ _ HS2.out.vu (hd.mono (fun k e => e.elim))) id id id id
    have hjd := HJ.out _ _ hj (hd.mono (fun k e => e.elim))
    have hx6 : (x : Int) < 6 := by omega
    have hlen2 := HS2.out.len
    have hco := HSd.own.cell x (by rw [zs_length, hlen2]; exact hvk)
    obtain ⟨old, ci⟩ : ∃ old, wr.drew.cell? ⟨g, x, none⟩ = some old := ⟨_, hco.1⟩
    have fi := hco.2
    have hstt := (HSd.own.store x (by rw [zs_length, hlen2]; exact hvk) (u : Int)).2
    have htt : Touch wr.drew (wr.drew.setCell ⟨g, x, none⟩ (.int .i64 u)) (fun k => k = g) := (Touch.grown hstt).mono (fun k e => by simpa using e)
    have HS3 := (HSd.store x u hvk n1 n2 n3 (HVU.out _ _ HSd.vu (htt.mono (fun k e => .inr (.inr (by omega)))))).1
    have hj3 := HJ.out _ _ hjd (htt.mono (fun k e => by omega))
    have c5 := HS3.cf
    have HCALL := hid (IH.out _ _ HS3 (HBS.out v2 u HB2.out hub hlen2) hj3)
    have hov := HOV.out v2 u HO2.out
    have hvv : VN (vals.set x u) = VN (v2.set x u) := hov
    rw [← hvv] at HCALL
    have HNX := hid (fun (v3 : List Nat) (a2 : ON (v2.set x u) v3) => HOK.out v2 v3 u HO2.out a2)
    have hkk : ((k + 1 : Nat) : Int) = (k : Int) + 1 := by push_cast; rfl
    rw [hkk] at HCALL
    have HVV : Hid (VN (vals.set x u) = VN (vals.set x (UU i))) := hid (by rw [HUI.out])
    cases e1
    cases e2
    clear hov hvv HS3 HSd hco hstt htt hj hjd hj3 hd hub hlen2
    obtain ⟨w3, hw3⟩ : ∃ w3, w3 = (wr.setCell ⟨g, x, none⟩ (.int .i64 u)).drew := ⟨_, rfl⟩
    have hsw : wr.drew.setCell ⟨g, x, none⟩ (.int .i64 u) = (wr.setCell ⟨g, x, none⟩ (.int .i64 u)).drew := rfl
    rw [hsw, ← hw3] at c5 HCALL
    clear hsw
    have HW3 := hid hw3; clear hw3
    generalize hres : VN (vals.set x u) = res at *
    have HRES := hid hres; clear hres
    go_wp2_with fail
    go_still_tail 7, (by kernel_rfl)
    change wpList _ _ _ _ _ wr.drew
    go_upto_region 7 with (fail)
    rw [← HW3.out]
    cases res
    ·have HR2 := hid (HF.out i hlt (by rw [← HVV.out]))
     go_wp2_with fail
     refine HCALL.out.mono ?_; rintro e w4 ⟨rfl, hj4, v3, ho3, hb3, hs3⟩
     go_wp2_with fail
     go_ret
     exact ⟨ret_bool (by rw [HR2.out]), by rw [HR2.out]; exact hj4, v3, HNX.out v3 ho3, hb3, hs3⟩
    ·go_wp2_with fail
     refine HCALL.out.mono ?_; rintro e w4 ⟨rfl, hj4, v3, ho3, hb3, hs3⟩
     go_wp2_with fail
     go_roundw
     case rel => exact ⟨i + 1, by omega, by go_num, hj4, hid (fun j hj => by
      rcases Nat.lt_or_ge j i with h | h
      ·exact HI.out j h
      ·obtain rfl : j = i := by omega
       rw [← HVV.out]), v3, hid (HNX.out v3 ho3), hid hb3, hid hs3⟩
     case measure => simp [intOf] <;> omega
   ·have e : i = LU := by omega
    subst e
    have hlt' : ¬ (i : Int) < (i : Int) := by omega
    have HR2 := hid (HT.out HI.out)
    go_wp2_with fail
    go_ret
    exact ⟨ret_bool (by rw [HR2.out]), by rw [HR2.out]; exact hj, v2, HO2.out, HB2.out, HS2.out⟩
end Go.Proofs.YtfmmajgkjkmghaaGreat
namespace Go.Proofs.YtfmmajgkjkmghaaGreat
open Go.RowKit
theorem enters_val1 : Enters 205 := fun _ _ => by kernel_rfl
set_option maxRecDepth 20000 in
set_option maxHeartbeats 4000000 in
theorem valuations_1_any (VU J Jx : World → Prop) (S : Nat → Prop) (l bv bu M : Nat) (vV vU : Value) (V U : List Nat) (Pt : List Nat → Bool) (W : World)
  (hVUf : ∀ A, VU A → A.cell? ⟨bv, 0, none⟩ = some vV ∧ A.cell? ⟨bu, 0, none⟩ = some vU ∧ Ints A vV (zs V) ∧ Ints A vU (zs U))
  (hVU : ∀ A C, VU A → Touch A C (fun k => S k ∨ k = l ∨ W.heap.size ≤ k) → VU C) (hJ : ∀ A C, J A → Touch A C (fun k => W.heap.size ≤ k) → J C)
  (hY : ∀ vs vv W, J W → Ints W vv (zs vs) → vs.length = 6 → Bnd M vs → YieldAt Fence.wide 5 Tryz.prog l #[vv] W fun e W' => e = .returned (.bool (Pt vs)) ∧ JRes J Jx (Pt vs) W' ∧ Touch W W' (fun k => S k ∨ k = l))
  (hS : ∀ k, S k → k < W.heap.size) (hl : l < W.heap.size) (hV : ∀ x ∈ V, x < 6) (hU : ∀ x ∈ U, x < 2 ^ M) (h0 : VU W) (hj : J W) :
  Calls Tryz.prog 205 #[.func (.yield l) #[] #[], .pointer (some ⟨bv, 0, none⟩), .pointer (some ⟨bu, 0, none⟩)] W
   fun e W' => (∃ v, e = .returned v) ∧ JRes J Jx (vldL Pt U V (List.replicate 6 0)) W' := by
 have hcf1 : ∀ args w, (callFunc 206 args).run Tryz.prog w = .ok (.enter 206 args) w := enters_val11
 obtain ⟨wm, hmk, hown, km⟩ := run_makeI (W.alloc (.cells #[.func (.yield l) #[] #[]] 129)) 6 (by omega)
 rw [show ((6 : Nat) : Int) = 6 from rfl] at hmk
 have hsz : (W.alloc (.cells #[.func (.yield l) #[] #[]] 129)).heap.size = W.heap.size + 1 := by simp
 have cy : (W.alloc (.cells #[.func (.yield l) #[] #[]] 129)).cell? ⟨W.heap.size, 0, none⟩ = some (.func (.yield l) #[] #[]) := by simp
 rw [hsz] at hmk hown
 have k1 := (Keeps.refl W).alloc (.cells #[.func (.yield l) #[] #[]] 129)
 have hst : ∀ (a : Addr) (f : Fn) (b c : Array Value) (m : Mode) (w' : World), (store a (.func f b c) m).run Tryz.prog w' = stored Tryz.prog w' a (.func f b c) m := fun a f b c m w' => run_store _ w' a _ m rfl
 have KM := hid (k1.trans km)
 have CY := hid (km.cell cy)
 have HOWN := hid hown
 have hgl := (hown.len _ rfl).2
 clear cy hown km k1 hsz
 have hcg : ∀ A : World, ((A.alloc (.cells #[.slice (some ⟨W.heap.size + 1, 0, none⟩) 6 6] 29)).alloc (.cells #[.nilFunc] 153)).cell? ⟨A.heap.size + 1, 0, none⟩ = some .nilFunc := fun A => by simp
 go_enter Tryz.func205, Tryz.ntmps205
 go_wp2_with fail
 have kA := ((Keeps.refl wm).alloc (.cells #[.slice (some ⟨W.heap.size + 1, 0, none⟩) 6 6] 29)).alloc (.cells #[.func (.func 206) #[] #[.pointer (some ⟨bv, 0, none⟩), .pointer (some ⟨W.heap.size, 0, none⟩), .pointer (some ⟨wm.heap.size, 0, none⟩), .pointer (some ⟨bu, 0, none⟩), .pointer (some ⟨wm.heap.size + 1, 0, none⟩)]] 153)
 have kB := KM.out.trans kA
 have hVS : VSt VU ((wm.alloc (.cells #[.slice (some ⟨W.heap.size + 1, 0, none⟩) 6 6] 29)).alloc (.cells #[.func (.func 206) #[] #[.pointer (some ⟨bv, 0, none⟩), .pointer (some ⟨W.heap.size, 0, none⟩), .pointer (some ⟨wm.heap.size, 0, none⟩), .pointer (some ⟨bu, 0, none⟩), .pointer (some ⟨wm.heap.size + 1, 0, none⟩)]] 153))
   W.heap.size l bv bu W.heap.size wm.heap.size (wm.heap.size + 1) (W.heap.size + 1) (List.replicate 6 0) :=
  ⟨hVU _ _ h0 (Touch.of_keeps kB _), kA.cell CY.out, by simp, by simp, by rw [zs_rep]; exact (HOWN.out.keeps kA).mono (by omega), by simp⟩
 have hg := fill11_any VU J Jx S W.heap.size l bv bu W.heap.size wm.heap.size (wm.heap.size + 1) (W.heap.size + 1) M vV vU V U Pt hVUf hVU hJ hY hS hl (by omega) (by omega) (by omega) (by omega) (by omega) (by omega) hV hU V.length 0 _ _ (by omega) hVS
  (fun i => by
   have : (List.replicate 6 0).getD i 0 = 0 := by rw [List.getD_eq_getElem?_getD, List.getElem?_replicate]; split <;> rfl
   rw [this]; exact Nat.two_pow_pos _) (hJ _ _ hj (Touch.of_keeps kB _))
 rw [show ((0 : Nat) : Int) = 0 from rfl, List.drop_zero] at hg
 refine Calls.mono hg ?_
 rintro e w5 ⟨rfl, h5, _⟩
 go_wp2_with fail
 go_end0
 exact ⟨⟨_, rfl⟩, h5⟩
set_option maxRecDepth 20000 in
theorem valuations_any (b : List Nat) (pv vV : Value) (w : World) (hpv : Ints w pv (zs b)) (hb : b.length ≤ 8) (hbm : ∀ x ∈ b, x < 2 ^ b.length) (hvV : ∃ p n c, vV = .slice p n c) :
  Calls Tryz.prog 187 #[.agg #[.int .i64 b.length, pv], vV] w fun e w' => ∃ bv bu vU, e = .returned (.func (.func 205) #[] #[.pointer (some ⟨bv, 0, none⟩), .pointer (some ⟨bu, 0, none⟩)]) ∧
   w.heap.size ≤ bv ∧ w.heap.size ≤ bu ∧ w'.cell? ⟨bv, 0, none⟩ = some vV ∧ w'.cell? ⟨bu, 0, none⟩ = some vU ∧ OwnI w' w.heap.size vU (zs (upL b)) ∧ Keeps w w' := by
 obtain ⟨pn, nn, cn, rfl⟩ := hvV
 have kA := ((Keeps.refl w).alloc (.cells #[.int .i64 b.length, pv] 31)).alloc (.cells #[.slice pn nn cn] 29)
 have cv : ((w.alloc (.cells #[.int .i64 b.length, pv] 31)).alloc (.cells #[.slice pn nn cn] 29)).cell? ⟨w.heap.size + 1, 0, none⟩ = some (.slice pn nn cn) := by simp
 have HU := hid (fun wz (kz : Keeps w wz) => upsets_any b pv wz (hpv.keeps kz) hb hbm)
 have hUL := zs_length (upL b)
 have hul : (upL b).length ≤ 256 := Nat.le_trans (upK_len b _) (two8 hb)
 obtain ⟨pq, cq, rfl, _⟩ := hpv
 rw [zs_length b] at *
 clear hbm
 generalize upL b = U at *
 generalize b.length = n at *
 go_enter Tryz.func187, Tryz.ntmps187
 go_wp2_with fail
 refine (HU.out _ kA).mono ?_; rintro e w2 ⟨vu, rfl, hvu, k2⟩
 have KA := hid (kA.trans k2)
 have CV := hid (k2.cell cv)
 have HVU := hid (hvu.mono kA.size)
 have hsz := k2.size
 obtain ⟨pu, qu, rfl, -, -, -⟩ := At.of_own hvu
 rw [hUL] at *
 clear hvu k2 cv kA
 go_wp2_with fail
 go_ret
 have k3 := (Keeps.refl w2).alloc (.cells #[.slice pu U.length qu] 29)
 exact ⟨w.heap.size + 1, w2.heap.size, _, rfl, by omega, by have := KA.out.size; omega, k3.cell CV.out, by simp, HVU.out.keeps k3, KA.out.trans k3⟩
end Go.Proofs.YtfmmajgkjkmghaaGreat
namespace Go.Proofs.YtfmmajgkjkmghaaGreat
end Go.Proofs.YtfmmajgkjkmghaaGreat
namespace Go.Proofs.YtfmmajgkjkmghaaGreat
open Go.RowKit
def vmL (l : List (List Nd)) : Nat := l.foldl (fun m a => m ||| vm a) 0
theorem vmL_take (l : List (List Nd)) (k : Nat) (h : k < l.length) : vmL (l.take (k + 1)) = vmL (l.take k) ||| vm l[k] := by
 unfold vmL; rw [List.take_succ_eq_append_getElem h, List.foldl_append]; rfl
theorem vm_64 {a : List Nd} (h : a.all okNd = true) : vm a < 64 := by
 have := vm_lt h a.length (Nat.le_refl _)
 rwa [List.take_length] at this
theorem vmL_lt {l : List (List Nd)} (h : ∀ a ∈ l, a.all okNd = true) : ∀ k, k ≤ l.length → vmL (l.take k) < 64
 | 0, _ => by simp [vmL]
 | k + 1, hk => by
  rw [vmL_take l k (by omega)]
  exact Nat.or_lt_two_pow (n := 6) (vmL_lt h k (by omega)) (vm_64 (h _ (List.getElem_mem (by omega))))
theorem or64 : ∀ (m n : Fin 64), bits BinOp.or IntKind.i64 ((m : Nat) : Int) ((n : Nat) : Int) = (((m : Nat) ||| (n : Nat) : Nat) : Int) := by decide +kernel
set_option maxRecDepth 20000 in
set_option maxHeartbeats 1000000 in
theorem variablesIn_any (l : List (List Nd)) (v : Value) (w : World) (hv : NdsL w v l) (ha : ∀ a ∈ l, a.all okNd = true) : Calls Tryz.prog 149 #[v] w (RetI w (mem (vmL l))) := by
 have hv0 := hv
 obtain ⟨p, cap, rfl, hle, hmx, hlen, _⟩ := hv
 unfold maxLen at hmx
 have HA := hid ha
 have HL := hid (vmL_lt ha); clear ha
 have HM := hid (fun w2 => membersOf_any (vmL l) w2 (by have := HL.out l.length (Nat.le_refl _); rwa [List.take_length] at this))
 go_enter Tryz.func149, Tryz.ntmps149
 go_wp2
 go_loopw [3, 8] (fun c i' wr => ∃ k : Nat, k ≤ l.length ∧ i' = .int .i64 k ∧ c = .int .i64 (vmL (l.take k)) ∧ Keeps w wr) (fun _ i _ => l.length - (intOf i).toNat)
 case atStart => exact ⟨0, by omega, rfl, rfl, Keeps.refl w⟩
 case round =>
  obtain ⟨k, hk, rfl, rfl, kw⟩ := hrel
  by_cases hlt : k < l.length
  ·have hlt' : (k : Int) < l.length := by omega
   obtain ⟨b, off, u, rfl, hc, hu⟩ := (NdsL.keeps hv0 kw).get k hlt
   obtain ⟨pu, nu, cu, rfl⟩ := hu.shape
   have hok := HA.out _ (List.getElem_mem hlt)
   have hst := vmL_take l k hlt
   have hor := or64 ⟨vmL (l.take k), HL.out k hk⟩ ⟨vm l[k], vm_64 hok⟩
   simp only at hor
   rw [← hst] at hor
   have HV := hid (variableMask_any l[k] _ wr hu hok)
   have HO := hid hor; clear hor hst hu hok hv0
   generalize vm l[k] = y at *
   generalize vmL (l.take k) = x at *
   go_wp2_with fail
   refine HV.out.mono ?_; rintro e w2 ⟨rfl, k2⟩
   go_wp2_with fail
   go_roundw
   case rel => exact ⟨k + 1, by omega, by go_num, by rw [HO.out], kw.trans k2⟩
   case measure => simp [intOf]; omega
  ·obtain rfl : k = l.length := by omega
   have hlt' : ¬ (l.length : Int) < l.length := by omega
   rw [List.take_length]
   go_wp2_with fail
   refine (HM.out _).mono ?_; rintro e w2 ⟨v2, rfl, hv2, k2⟩
   go_wp2_with fail
   go_ret
   exact ⟨_, rfl, hv2.mono kw.size, kw.trans k2⟩
end Go.Proofs.YtfmmajgkjkmghaaGreat
