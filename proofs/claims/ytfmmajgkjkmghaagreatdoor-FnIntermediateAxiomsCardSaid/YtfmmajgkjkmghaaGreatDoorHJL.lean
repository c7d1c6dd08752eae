import Derived.Test.YtfmmajgkjkmghaaGreatDoorHKC
import Derived.Test.YtfmmajgkjkmghaaGreatDoorHBG
import Derived.Test.YtfmmajgkjkmghaaGreatDoorHHF
import Derived.Test.YtfmmajgkjkmghaaGreatDoorHJI
import Derived.Deep.CutBlock
import Derived.Deep.DeepCutAuto
/- The rooted images of an order of at most five elements (the program's side). -/
namespace Go.Proofs.YtfmmajgkjkmghaaGreatDoor
open Go.RowKit Go.Sort
theorem tyneFP : (57 : TypeId) ≠ 26 := by decide
theorem tyneFL : (57 : TypeId) ≠ 24 := by decide
theorem OwnI.byFs {w w' : World} {B C : Nat} {v f : Value} {a : List Int} {L : List (List Nat)} (h : OwnI w B v a) (hf : OwnFs w C f L) (k : w.grownBy w' f.ownBlock) : OwnI w' B v a := by
 obtain ⟨us, ho, _⟩ := hf
 exact h.touch (Touch.grown k) (fun i hi e => type_ne ho h tyneFs e.symm hi)
theorem BoxG.byFs {w w' : World} {r C : Nat} {f : Value} {cs : List Value} {L : List (List Nat)} (h : BoxG w r 26 cs) (hf : OwnFs w C f L) (k : w.grownBy w' f.ownBlock) : BoxG w' r 26 cs := by
 obtain ⟨us, ho, _⟩ := hf
 exact h.other ho tyneFP k
theorem OwnLI.byFs {w w' : World} {B C : Nat} {v f : Value} {xs L : List (List Nat)} (h : OwnLI w B v xs) (hf : OwnFs w C f L) (k : w.grownBy w' f.ownBlock) : OwnLI w' B v xs := by
 obtain ⟨us, ho, _⟩ := hf
 obtain ⟨vs, hv, hr⟩ := h
 refine ⟨vs, own_touch hv (Touch.grown k) (fun i hi e => type_ne ho hv tyneFL e.symm hi), hr.1, fun i h1 h2 => ?_⟩
 have := hr.2 i h1 h2
 exact this.touch (Touch.grown k) (fun j hj e => type_ne ho this tyneFs e.symm hj)
theorem OwnFs.at0 {w : World} {B : Nat} {v : Value} {L : List (List Nat)} (h : OwnFs w B v L) : v = .slice none 0 0 ∧ L = [] ∨ ∃ g cap, v = .slice (some ⟨g, 0, none⟩) L.length cap ∧ B ≤ g := by
 obtain ⟨vs, ho, hl, _⟩ := h
 have e1 := psCells_len L vs hl
 rcases ho.2 with ⟨e0, e2⟩ | ⟨g, cap, cur, rfl, hb, hg, hn, hm, hs, ht⟩
 ·exact .inl ⟨e0, List.eq_nil_of_length_eq_zero (by omega)⟩
 ·exact .inr ⟨g, cap, rfl, hb⟩
theorem OwnFs.own {w : World} {B : Nat} {v : Value} {L : List (List Nat)} (h : OwnFs w B v L) : ∀ i, v.ownBlock = some i → B ≤ i := by
 intro i hi
 rcases h.at0 with ⟨rfl, _⟩ | ⟨g, cap, rfl, hb⟩
 ·cases hi
 ·simp only [Value.ownBlock, Option.some.injEq] at hi
  subst hi
  exact hb
def RetSF (w : World) (B : Nat) (v : Value) (L : List (List Nat)) (e : Ending) (w' : World) : Prop := e = .returned (.tuple #[]) ∧ ∃ L2, OwnFs w' B v L2 ∧ L2.length = L.length ∧ (∀ x, x ∈ L2 ↔ x ∈ L) ∧ w.grownBy w' v.ownBlock
theorem sortAll_any {w : World} {B : Nat} {v : Value} {L : List (List Nat)} (hv : OwnFs w B v L) (hl : ∀ x ∈ L, x.length ≤ 5) (hL : L.length ≤ 1000000) (hn : L = [] → v = .slice none 0 0) :
  Calls Tryz.prog 31 #[v, .func (.func 32) #[] #[]] w (RetSF w B v L) := by
 by_cases h0 : L = []
 ·rw [hn h0] at hv ⊢
  refine (sortNilFs_any _ w).mono ?_
  rintro e w' ⟨rfl, k⟩
  exact ⟨rfl, L, hv.keeps k, rfl, fun _ => Iff.rfl, keeps_grownBy k _⟩
 ·refine (sortFuncFs_any B v w L hv (fun x hx => by have := hl x hx; omega) hL h0).mono ?_
  rintro e w' ⟨rfl, L2, h1, h2, h3, h4⟩
  exact ⟨rfl, L2, h1, h2, h3, h4⟩
def RetCA (w : World) (B : Nat) (v : Value) (L : List (List Nat)) (e : Ending) (w' : World) : Prop := ∃ v' L2, e = .returned v' ∧ OwnFs w' B v' L2 ∧ L2.length ≤ L.length ∧ (∀ x, x ∈ L2 ↔ x ∈ L) ∧ w.grownBy w' v.ownBlock
theorem compactAll_any {w : World} {B : Nat} {v : Value} {L : List (List Nat)} (hv : OwnFs w B v L) (hl : ∀ x ∈ L, x.length ≤ 5) (hL : L.length ≤ 1000000) (hn : L = [] → v = .slice none 0 0) :
  Calls Tryz.prog 33 #[v, .func (.func 34) #[] #[]] w (RetCA w B v L) := by
 rcases hv.at0 with ⟨e0, h0⟩ | ⟨g, cap, rfl, hb⟩
 ·rw [e0] at hv ⊢
  refine (compactNilFs_any _ w).mono ?_
  rintro e w' ⟨rfl, k⟩
  exact ⟨_, L, rfl, hv.keeps k, Nat.le_refl _, fun _ => Iff.rfl, keeps_grownBy k _⟩
 ·refine (compactFuncFs_any B g cap w L hv hb (fun x hx => by have := hl x hx; omega) hL).mono ?_
  rintro e w' ⟨k, L2, rfl, h1, h2, h3, h4⟩
  exact ⟨_, L2, rfl, h1, h3, h2, h4⟩
def RetRI (w : World) (b : List Nat) (e : Ending) (w' : World) : Prop := ∃ v L, e = .returned (.tuple #[v, .int .i64 0]) ∧ OwnPs w' w.heap.size v L ∧ (∀ x, x ∈ L ↔ x ∈ imgU b (upL b)) ∧ L.length ≤ 1000000 ∧ Keeps w w'
structure RIS (w W : World) (b : List Nat) (pv uv f : Value) (L : List (List Nat)) : Prop where
 kp : Keeps w W
 box : BoxG W w.heap.size 26 [.int .i64 b.length, pv]
 up : OwnI W w.heap.size uv (zs (upL b))
 fs : OwnFs W w.heap.size f L
theorem RIS.keeps {w W W' : World} {b : List Nat} {pv uv f : Value} {L : List (List Nat)} (h : RIS w W b pv uv f L) (k : Keeps W W') : RIS w W' b pv uv f L := ⟨h.kp.trans k, h.box.keeps k, h.up.keeps k, h.fs.keeps k⟩
theorem RIS.grow {w W W' : World} {b : List Nat} {pv uv f f' : Value} {L L' : List (List Nat)} (h : RIS w W b pv uv f L) (k : W.grownBy W' f.ownBlock) (hr : ∀ i, f.ownBlock = some i → w.heap.size ≤ i) (hf : OwnFs W' w.heap.size f' L') : RIS w W' b pv uv f' L' :=
 ⟨h.kp.grown k hr, h.box.byFs h.fs k, h.up.byFs h.fs k, hf⟩
theorem imgU_len5 {b : List Nat} : ∀ ms, (∀ m ∈ ms, (prtL b m).length ≤ 5) → (imgU b ms).length ≤ ms.length * 7776
 | [], _ => by simp [imgU]
 | m :: ms, h => by
  have ih := imgU_len5 ms (fun x hx => h x (by simp [hx]))
  have h1 := imgC_len (prtL b m) (cgL (prtL b m))
  have h2 := cgL_len5 (h m (by simp))
  unfold imgU at ih ⊢
  rw [List.flatMap_cons, List.length_append, List.length_cons, Nat.succ_mul]
  omega
theorem OwnFs.byPs {w w' : World} {B C : Nat} {v f : Value} {xs L : List (List Nat)} (h : OwnFs w B v xs) (hf : OwnPs w C f L) (k : w.grownBy w' f.ownBlock) : OwnFs w' B v xs := by
 obtain ⟨us, ho, _⟩ := hf
 obtain ⟨vs, hv, hr⟩ := h
 refine ⟨vs, own_touch hv (Touch.grown k) (fun i hi e => type_ne ho hv (fun q => tyneFP q.symm) e.symm hi), hr.1, fun i h1 h2 => ?_⟩
 have := hr.2 i h1 h2
 exact this.touch (Touch.grown k) (fun j hj e => type_ne ho this tynePs e.symm hj)
set_option maxRecDepth 20000 in
set_option maxHeartbeats 8000000 in
theorem rooted_any (b : List Nat) (hp : Pos b) (h5 : b.length ≤ 5) (pv : Value) (w : World) (hpv : Ints w pv (zs b)) :
  Calls Tryz.prog 10 #[.agg #[.int .i64 b.length, pv]] w (RetRI w b) := by
 have kA := (Keeps.refl w).alloc (.cells #[.int .i64 b.length, pv] 26)
 have hbx : BoxG (w.alloc (.cells #[.int .i64 b.length, pv] 26)) w.heap.size 26 [.int .i64 b.length, pv] := BoxG.made w _ _ (by simp) (by simp)
 have c0 := hbx.cell 0 (by simp)
 have c1 := hbx.cell 1 (by simp)
 simp only [List.getElem_cons_zero, List.getElem_cons_succ] at c0 c1
 have HIP := hid (fun wz (kz : Keeps w wz) => isPoset_any (b.length : Int) (zs b) pv wz (hpv.keeps kz))
 rw [hp.isPos] at HIP
 have HUP := hid (fun wz (kz : Keeps w wz) => upsets_any b pv wz (hpv.keeps kz) hp.1 (bnd_mem hp.2.1))
 have HON := hid (fun m (hm : m < 2 ^ b.length) wz (kz : Keeps w wz) => on_any b m pv wz (hpv.keeps kz) hp.1 (hp.2.1.mono hp.1) hm)
 have HMK := hid (fun m (hm : m ∈ upL b) => And.intro (prt_ok hp hm).2.2.2 (And.intro (prt_len hp h5 hm) ((mem_upL hp.2.2.1).1 hm).1))
 have HLEN := hid (fun (p : List Nat) (hP : Pos p) (hl : p.length ≤ 5) => cgL_len5 hl)
 have HIL := hid (show ∀ k, k ≤ (upL b).length → (imgU b ((upL b).take k)).length ≤ k * 7776 from fun k hk => by
  have h := imgU_len5 (b := b) ((upL b).take k) (fun m hm => prt_len hp h5 (List.mem_of_mem_take hm))
  rw [List.length_take, Nat.min_eq_left hk] at h
  exact h)
 have HSN := hid (show ∀ k (h : k < (upL b).length), imgU b ((upL b).take (k + 1)) = imgU b ((upL b).take k) ++ imgC (prtL b (upL b)[k]) (cgL (prtL b (upL b)[k])) from fun k h => by
  rw [List.take_succ_eq_append_getElem h, imgU_snoc])
 have H0 : Hid (imgU b ((upL b).take 0) = []) := hid rfl
 have HTK : Hid ((upL b).take (upL b).length = upL b) := hid (List.take_length)
 have hul : (upL b).length ≤ 32 := Nat.le_trans (upK_len b _) (Nat.pow_le_pow_right (by omega) h5)
 have hzU := zs_length (upL b)
 have HFN := hid (show ∀ x, x ∈ imgU b (upL b) → x.length ≤ 5 from fun x hx => (img_ok hp h5 hx).2.1)
 obtain ⟨IU, hIU⟩ : ∃ IU : Nat → List (List Nat), ∀ k, IU k = imgU b ((upL b).take k) := ⟨_, fun _ => rfl⟩
 simp only [← hIU] at HIL HSN H0
 have HIE : Hid (IU (upL b).length = imgU b (upL b)) := hid (by rw [hIU, HTK.out])
 clear hIU HTK
 have HRI := hid (fun (W : World) (v : Value) (L : List (List Nat)) (h1 : OwnPs W w.heap.size v L) (h2 : ∀ x, x ∈ L ↔ x ∈ IU (upL b).length) (h3 : L.length ≤ 1000000) (h4 : Keeps w W) => show RetRI w b (.returned (.tuple #[v, .int .i64 0])) W from ⟨v, L, rfl, h1, fun x => by rw [h2 x, HIE.out], h3, h4⟩)
 have HFL := hid (show ∀ x, x ∈ IU (upL b).length → x.length ≤ 5 from fun x hx => HFN.out x (by rw [HIE.out] at hx; exact hx))
 clear HFN HIE
 have hle5 : ¬ (b.length : Int) > 5 := by omega
 obtain ⟨pp, cp, rfl, -⟩ := id hpv
 rw [zs_length b] at *
 clear hp
 go_enter Tryz.func10, Tryz.ntmps10
 go_wp2_with fail
 refine (HIP.out _ kA).mono ?_; rintro e w2 ⟨rfl, k2⟩
 replace c0 := k2.cell c0
 replace c1 := k2.cell c1
 go_wp2_with fail
 refine (HUP.out _ (kA.trans k2)).mono ?_; rintro e w3 ⟨u3, rfl, hu3, k3⟩
 have hsz2 : w.heap.size ≤ w2.heap.size := (kA.trans k2).size
 have hR0 := hid (show RIS w w3 b (.slice pp b.length cp) u3 (.slice none 0 0) (IU 0) from ⟨(kA.trans k2).trans k3, (hbx.keeps k2).keeps k3, hu3.mono hsz2, by rw [H0.out]; exact OwnFs.nil _ _⟩)
 obtain ⟨pu, nu, cu, e3⟩ := hu3.shape0
 have hnu : nu = (upL b).length := by
  obtain ⟨_, _, e, _⟩ := At.of_own hu3
  rw [e3] at e
  injection e with _ e2 _
  rw [e2, hzU]
 subst e3
 subst hnu
 clear hu3 k3 k2 c0 c1 hbx kA HIP HUP hsz2
 have HQC := hid (fun (p c : List Nat) (hP : Pos p) (hl : p.length ≤ 5) (hc : c ∈ cgL p) => (show ∃ q, q = qtL p c ∧ q.length ≤ 5 ∧ Bnd q.length q ∧ c.length = p.length ∧ (∀ i, i < c.length → c.getD i 0 < 8) ∧ (leastP q).length ≤ 5 from by
  obtain ⟨ha, hcl, hg⟩ := cgL_mem hc
  have hq := qt_Pos hP ha hcl hg
  have hcn := ha.cnt
  have hlq : (qtL p c).length = cntC c := qtK_len p c _
  exact ⟨_, rfl, by omega, hq.2.1, hcl, ha.lt8 (by omega), by rw [(leastP_len (by omega) hq.2.1).1]; omega⟩))
 go_wp2_with fail
 go_loopw [4, 25] (fun s4 s25 wr => ∃ k : Nat, k ≤ (upL b).length ∧ s25 = .int .i64 k ∧ RIS w wr b (.slice pp b.length cp) (.slice pu (upL b).length cu) s4 (IU k) ∧ (IU k = [] → s4 = .slice none 0 0)) (fun _ s25 _ => (upL b).length - (intOf s25).toNat)
 case atStart => exact ⟨0, by omega, rfl, hR0.out, fun _ => rfl⟩
 case round =>
  obtain ⟨k, hk, rfl, hR, hnil⟩ := hrel
  clear hR0
  obtain ⟨pf, nf, hff⟩ := hR.fs.shape
  obtain ⟨rfl, hf2, hf3⟩ := hff
  by_cases hlt : k < (upL b).length
  ·have hlt' : (k : Int) < (upL b).length := by omega
   obtain ⟨bu, ou, eu, hcu⟩ := (hR.up.ints (by rw [hzU]; omega)).zs_cell k hlt
   rw [getD_get hlt] at hcu
   have hmm : (upL b)[k] ∈ upL b := List.getElem_mem hlt
   obtain ⟨hPp, hPl, hm2⟩ := HMK.out _ hmm
   have hon := HON.out _ hm2 wr hR.kp
   have hsk := HSN.out k hlt
   have hlk := HIL.out k (by omega)
   have hlk1 := HIL.out (k + 1) (by omega)
   clear hmm hm2
   generalize (upL b)[k] = m at *
   generalize prtL b m = p at *
   have HONm := hid hon
   have HSK := hid hsk
   clear hon hsk
   have x0 := hR.box.cell 0 (by simp)
   have x1 := hR.box.cell 1 (by simp)
   simp only [List.getElem_cons_zero, List.getElem_cons_succ] at x0 x1
   subst eu
   go_wp2_with fail
   refine HONm.out.mono ?_; rintro e w5 ⟨v5, rfl, hv5, k5⟩
   obtain ⟨p5, n5, c5, rfl⟩ := hv5.shape0
   have kP := (Keeps.refl w5).alloc (.cells #[.int .i64 p.length, .slice p5 n5 c5] 26)
   have hpb : BoxG (w5.alloc (.cells #[.int .i64 p.length, .slice p5 n5 c5] 26)) w5.heap.size 26 [.int .i64 p.length, .slice p5 n5 c5] := BoxG.made w5 _ _ (by simp) (by simp)
   have hwr := hR.kp.size
   have hv6 := (hv5.mono hwr).keeps kP
   have hR6 := hR.keeps (k5.trans kP)
   have HFR := hid (frame_any (p.length : Int) (zs p) (.slice p5 n5 c5) _ (hv6.ints (by rw [zs_length]; omega)))
   rw [zs_length p] at HFR
   have y0 := hpb.cell 0 (by simp)
   have y1 := hpb.cell 1 (by simp)
   simp only [List.getElem_cons_zero, List.getElem_cons_succ] at y0 y1
   have hgp : w.heap.size ≤ w5.heap.size := Nat.le_trans hwr k5.size
   clear hR hv5 kP k5 hcu HONm x0 x1
   go_wp2_with fail
   generalize w5.alloc (.cells #[.int .i64 p.length, .slice p5 n5 c5] 26) = W5 at *
   generalize w5.heap.size = gp at *
   go_wp2_with fail
   refine HFR.out.mono ?_; rintro e w7 ⟨rfl, k7⟩
   have HCG := hid (congruences_any p (.slice p5 n5 c5) w7 ((hv6.ints (by rw [zs_length]; omega)).keeps k7) hPp.1 hPp.2.1)
   clear HFR y0 y1
   go_wp2_with fail
   refine HCG.out.mono ?_; rintro e w8 ⟨v8, rfl, hcg, k8⟩
   have K8 := k7.trans k8
   have hcl5 := cgL_len5 hPl
   have hw7 : w.heap.size ≤ w7.heap.size := (hR6.kp.trans k7).size
   have hcg8 := hid (hcg.mono hw7)
   have hR8 := hid (hR6.keeps K8)
   have hpb8 := hid (hpb.keeps K8)
   have hv8 := hid (hv6.keeps K8)
   have HQP := hid (fun c (hc : c ∈ cgL p) => HQC.out p c hPp hPl hc)
   have HSC := hid (fun i (hi : i < (cgL p).length) => show imgC p ((cgL p).take (i + 1)) = imgC p ((cgL p).take i) ++ (if rtB (qtL p (cgL p)[i]) then [leastP (qtL p (cgL p)[i])] else []) by rw [List.take_succ_eq_append_getElem hi, imgC_snoc])
   have HC0 : Hid (imgC p ((cgL p).take 0) = []) := hid rfl
   have HCA : Hid (imgC p ((cgL p).take (cgL p).length) = imgC p (cgL p)) := hid (by rw [List.take_length])
   have HCN := hid (fun i => Nat.le_trans (imgC_len p ((cgL p).take i)) (List.length_take_le i (cgL p)))
   obtain ⟨pc, cc, rfl, -, -⟩ := hcg.shape
   clear hcg K8 k7 k8 hR6 hpb hv6 HCG hw7
   obtain ⟨IC, hIC⟩ : ∃ IC : Nat → List (List Nat), ∀ i, IC i = imgC p ((cgL p).take i) := ⟨_, fun _ => rfl⟩
   simp only [← hIC] at HSC HC0 HCA HCN
   clear hIC
   have h8p : p.length ≤ 8 := hPp.1
   have hbp := hid hPp.2.1
   clear hPp
   go_wp2_with fail
   go_loopw [4, 36] (fun s4 s36 wr => ∃ i : Nat, i ≤ (cgL p).length ∧ s36 = .int .i64 i ∧ RIS w wr b (.slice pp b.length cp) (.slice (some ⟨bu, ou, none⟩) (upL b).length cu) s4 (IU k ++ IC i) ∧ (IU k ++ IC i = [] → s4 = .slice none 0 0) ∧ BoxG wr gp 26 [.int .i64 p.length, .slice p5 n5 c5] ∧ OwnI wr w.heap.size (.slice p5 n5 c5) (zs p) ∧ OwnLI wr w.heap.size (.slice pc (cgL p).length cc) (cgL p)) (fun _ s36 _ => (cgL p).length - (intOf s36).toNat)
   case atStart => exact ⟨0, by omega, rfl, by rw [HC0.out, List.append_nil]; exact hR8.out, by rw [HC0.out, List.append_nil]; exact hnil, hpb8.out, hv8.out, hcg8.out⟩
   case round =>
    obtain ⟨i, hi, rfl, hR, hnil2, hpb, hvp, hcg⟩ := hrel
    clear hR8 hpb8 hv8 hcg8 hnil
    obtain ⟨CL, hCL⟩ : ∃ CL, CL = IU k ++ IC i := ⟨_, rfl⟩
    rw [← hCL] at hR hnil2
    have hcni := HCN.out i
    have hllen : CL.length ≤ 1000000 := by rw [hCL, List.length_append]; omega
    replace hCL := hid hCL
    obtain ⟨pf2, nf2, hff2⟩ := hR.fs.shape
    obtain ⟨rfl, hf4, hf5⟩ := hff2
    by_cases hlti : i < (cgL p).length
    ·have hlti' : (i : Int) < (cgL p).length := by omega
     obtain ⟨bc, oc, uc, ec, hcc, huc⟩ := hcg.get i hlti
     have hmc : (cgL p)[i] ∈ cgL p := List.getElem_mem hlti
     obtain ⟨q, hq, hql, hqb, hcl, hc8, hlq⟩ := HQP.out _ hmc
     have hsc := HSC.out i hlti
     rw [← hq] at hsc
     replace hsc : IU k ++ IC (i + 1) = CL ++ (if rtB q then [leastP q] else []) := by rw [hsc, hCL.out, List.append_assoc]
     have HQT := hid (quotientC_any p (cgL p)[i] (.slice p5 n5 c5) uc wr (hvp.ints (by rw [zs_length]; omega)) (huc.ints (by rw [zs_length]; omega)) h8p hbp.out hcl hc8)
     rw [← hq] at HQT
     subst ec
     obtain ⟨pcc, ncc, ccc, rfl⟩ := huc.shape0
     have y1 := hpb.cell 1 (by simp)
     simp only [List.getElem_cons_zero, List.getElem_cons_succ] at y1
     have HSCq := hid hsc
     have hwr2 := hR.kp.size
     clear hmc hq hcl hc8 huc hsc
     go_wp2_with fail
     refine HQT.out.mono ?_; rintro e w10 ⟨v10, rfl, hv10, k10⟩
     have HPO := hid (posetOf_any (zs q) v10 w10 (hv10.ints (by rw [zs_length]; omega)))
     rw [zs_length q] at HPO
     obtain ⟨p10, n10, c10, rfl⟩ := hv10.shape0
     clear HQT y1 hcc
     go_wp2_with fail
     refine HPO.out.mono ?_; rintro e w11 ⟨rfl, k11⟩
     have kQ := (Keeps.refl w11).alloc (.cells #[.int .i64 q.length, .slice p10 n10 c10] 26)
     obtain ⟨z0, z1⟩ := BoxF.made w11 q.length (.slice p10 n10 c10) 26
     have hv12 := hid ((hv10.keeps k11).keeps kQ)
     have K12 := (k10.trans k11).trans kQ
     have HRT := hid (root_any q (.slice p10 n10 c10) _ (hv12.out.ints (by rw [zs_length]; omega)) (by omega))
     have hR12 := hR.keeps K12
     have hpb12 := hpb.keeps K12
     have hvp12 := hvp.keeps K12
     have hcg12 := hcg.keeps K12
     clear HPO k10 k11 kQ hv10 hR hpb hvp hcg K12
     go_wp2_with fail
     generalize w11.alloc (.cells #[.int .i64 q.length, .slice p10 n10 c10] 26) = W12 at *
     generalize w11.heap.size = gq at *
     go_wp2_with fail
     refine HRT.out.mono ?_; rintro e w13 ⟨rfl, k13⟩
     replace z0 := k13.cell z0
     replace z1 := k13.cell z1
     have hv13 := hid (hv12.out.keeps k13)
     have hR13 := hR12.keeps k13
     have hpb13 := hpb12.keeps k13
     have hvp13 := hvp12.keeps k13
     have hcg13 := hcg12.keeps k13
     clear HRT hv12 k13 hR12 hpb12 hvp12 hcg12
     by_cases hrt : (2 ^ q.length - 1) ∈ q
     ·have hix : 0 ≤ ixI q (2 ^ q.length - 1) := ixI_pos.2 hrt
      have hrb : rtB q = true := by unfold rtB; rw [decide_eq_true hrt]
      have hst := HSCq.out
      rw [if_pos hrb] at hst
      have HST := hid hst
      have HLR := hid (leastRelation_any q (.slice p10 n10 c10) w13 (hv13.out.ints (by rw [zs_length]; omega)) hql hqb)
      clear hrt hrb hst HSCq
      generalize leastP q = lp at *
      generalize ixI q (2 ^ q.length - 1) = ix at *
      go_wp2_with fail
      refine HLR.out.mono ?_; rintro e w14 ⟨v14, rfl, hv14, k14⟩
      have HFO := hid (frameOf_any (zs lp) v14 w14 (hv14.ints (by rw [zs_length]; omega)))
      rw [zs_length lp] at HFO
      obtain ⟨p14, n14, c14, rfl⟩ := hv14.shape0
      go_wp2_with fail
      refine HFO.out.mono ?_; rintro e w15 ⟨rfl, k15⟩
      have kL := (Keeps.refl w15).alloc (.cells #[.int .i64 lp.length, .slice p14 n14 c14] 57)
      have K15 := (k14.trans k15).trans kL
      have hR15 := hR13.keeps K15
      have hpb15 := hpb13.keeps K15
      have hvp15 := hvp13.keeps K15
      have hcg15 := hcg13.keeps K15
      have hw13 : w.heap.size ≤ w13.heap.size := hR13.kp.size
      have hv15 := (hv14.mono hw13).keeps (k15.trans kL)
      have hsz15 : w.heap.size ≤ (w15.alloc (.cells #[.int .i64 lp.length, .slice p14 n14 c14] 57)).heap.size := hR15.kp.size
      have HRG := hid (fun v' W' (hk : (w15.alloc (.cells #[.int .i64 lp.length, .slice p14 n14 c14] 57)).grownBy W' (Value.slice pf2 CL.length nf2).ownBlock) (hr : ∀ j, (Value.slice pf2 CL.length nf2).ownBlock = some j → w.heap.size ≤ j) (hf : OwnFs W' w.heap.size v' (CL ++ [lp])) => And.intro (hR15.grow hk hr hf) (And.intro (hpb15.byFs hR15.fs hk) (And.intro (hvp15.byFs hR15.fs hk) (hcg15.byFs hR15.fs hk))))
      have HFS := hid hR15.fs
      clear hR13 hpb13 hvp13 hcg13 hR15 hpb15 hvp15 hcg15 hv14 k14 k15 K15 z0 z1 HLR HFO
      go_wp2_with (at_builtin; refine appFs rfl _ _ rfl w.heap.size _ CL rfl _ HFS.out (Keeps.refl _) [.slice p14 n14 c14] [lp] (RowsI.one hv15) hsz15 _ _ rfl At.ps1 (by simp only [List.length_singleton]; omega) ?_; intro v16 w16 hv16 hg16 hr16)
      go_roundw
      case rel =>
       obtain ⟨g1, g2, g3, g4⟩ := HRG.out v16 w16 hg16 hr16 hv16
       exact ⟨i + 1, by omega, by go_num, by rw [HST.out]; exact g1, by rw [HST.out]; intro h; simp at h, g2, g3, g4⟩
      case measure => simp [intOf]; omega
     ·have hix : ¬ 0 ≤ ixI q (2 ^ q.length - 1) := fun h => hrt (ixI_pos.1 h)
      have hrb : ¬ rtB q = true := by unfold rtB; rw [decide_eq_false hrt]; simp
      have hst := HSCq.out
      rw [if_neg hrb, List.append_nil] at hst
      have HST := hid hst
      clear hrt hrb hst HSCq
      generalize ixI q (2 ^ q.length - 1) = ix at *
      go_wp2_with fail
      go_roundw
      case rel => exact ⟨i + 1, by omega, by go_num, by rw [HST.out]; exact hR13, by rw [HST.out]; exact hnil2, hpb13, hvp13, hcg13⟩
      case measure => simp [intOf]; omega
    ·have e : i = (cgL p).length := by omega
     subst e
     have hlti' : ¬ ((cgL p).length : Int) < ((cgL p).length : Int) := by omega
     go_wp2_with fail
     go_roundw
     case rel => exact ⟨k + 1, by omega, by go_num, by rw [HSK.out, ← HCA.out, ← hCL.out]; exact hR, by rw [HSK.out, ← HCA.out, ← hCL.out]; exact hnil2⟩
     case measure => simp [intOf]; omega
  ·have e : k = (upL b).length := by omega
   subst e
   have hlt' : ¬ (((upL b).length : Nat) : Int) < ((upL b).length : Nat) := by omega
   have hl0 : (IU (upL b).length).length ≤ 1000000 := by have := HIL.out _ (Nat.le_refl _); omega
   clear HIL HSN H0 HMK HON HLEN HQC
   generalize IU (upL b).length = L0 at *
   have HSR := hid (sortAll_any hR.fs HFL.out hl0 hnil)
   have hkp := hid hR.kp
   have hge := hid (hR.fs.own)
   clear hR
   go_wp2_with fail
   refine HSR.out.mono ?_; rintro e w20 ⟨rfl, L1, hv20, hl1, hm1, hg20⟩
   have HCP := hid (compactAll_any hv20 (fun x hx => HFL.out x ((hm1 x).1 hx)) (by omega) (fun h => hnil (List.eq_nil_of_length_eq_zero (by rw [← hl1, h]; rfl))))
   have hk20 := hid (hkp.out.grown hg20 hge.out)
   have hge1 := hid hv20.own
   have hmm1 := hid hm1
   clear hkp hge hg20 hnil HSR hm1
   go_wp2_with fail
   refine HCP.out.mono ?_; rintro e w21 ⟨v21, L2, rfl, hv21, hl2, hm2, hg21⟩
   have hk21 := hid (hk20.out.grown hg21 hge1.out)
   have hl2' : L2.length ≤ 1000000 := by omega
   have hsz21 := hk21.out.size
   have HMM := hid (fun x => (hm2 x).trans (hmm1.out x))
   have HLE := hid (fun j (h : j < L2.length) => HFL.out _ ((HMM.out _).1 (List.getElem_mem h)))
   obtain ⟨p21, c21, e21, hc21, hd21⟩ := hv21.shape
   subst e21
   have HRJ := hid (fun (W : World) (v : Value) (h1 : OwnPs W w.heap.size v L2) (h4 : Keeps w W) => HRI.out W v L2 h1 HMM.out hl2' h4)
   clear hk20 hge1 hmm1 hg21 HCP hm2 HRI HMM hl2 hl1 hv20 hl0 HFL
   have HV0 := hid hv21
   clear hv21
   go_wp2_with fail
   go_loopw [11, 63] (fun s11 s63 wr => ∃ j : Nat, j ≤ L2.length ∧ s63 = .int .i64 j ∧ OwnPs wr w.heap.size s11 (L2.take j) ∧ OwnFs wr w.heap.size (.slice p21 L2.length c21) L2 ∧ Keeps w wr) (fun _ s63 _ => L2.length - (intOf s63).toNat)
   case atStart => exact ⟨0, by omega, rfl, OwnPs.nil _ _, HV0.out, hk21.out⟩
   case round =>
    obtain ⟨j, hj, rfl, hps, hfs, hkw⟩ := hrel
    clear HV0 hk21
    obtain ⟨pq, cq, eq, hq2, hq3⟩ := hps.shape
    subst eq
    by_cases hlj : j < L2.length
    ·have hlj' : (j : Int) < L2.length := by omega
     obtain ⟨bf, of, uf, ef, cf0, cf1, huf⟩ := hfs.get j hlj
     subst ef
     have hxl := HLE.out j hlj
     have HTK := hid (show L2.take (j + 1) = L2.take j ++ [L2[j]] from List.take_succ_eq_append_getElem hlj)
     have hlt2 : (L2.take j).length ≤ 1000000 := by rw [List.length_take]; omega
     generalize L2[j] = x at *
     generalize L2.take j = LT at *
     obtain ⟨px, nx, cx, rfl⟩ := huf.shape0
     have kF := (Keeps.refl wr).alloc (.cells #[.int .i64 x.length, .slice px nx cx] 57)
     obtain ⟨z0, z1⟩ := BoxF.made wr x.length (.slice px nx cx) 57
     have hsw := hkw.size
     have HPO := hid (posetOf_any (zs x) (.slice px nx cx) _ ((huf.ints (by rw [zs_length]; omega)).keeps kF))
     rw [zs_length x] at HPO
     have hps2 := hid (hps.keeps kF)
     have hfs2 := hid (hfs.keeps kF)
     have huf2 := hid (huf.keeps kF)
     have hkw2 := hid (hkw.trans kF)
     clear hps hfs huf kF hkw
     go_wp2_with fail
     refine HPO.out.mono ?_; rintro e w22 ⟨rfl, k22⟩
     have hps3 := hid (hps2.out.keeps k22)
     have hfs3 := (hfs2.out.keeps k22)
     have huf3 := (huf2.out.keeps k22)
     have hkw3 := (hkw2.out.trans k22)
     have kP := (Keeps.refl w22).alloc (.cells #[.int .i64 x.length, .slice px nx cx] 26)
     have huf4 := huf3.keeps kP
     have hsz4 : w.heap.size ≤ (w22.alloc (.cells #[.int .i64 x.length, .slice px nx cx] 26)).heap.size := (hkw3.trans kP).size
     have HRG := hid (fun W' (hk : (w22.alloc (.cells #[.int .i64 x.length, .slice px nx cx] 26)).grownBy W' (Value.slice pq LT.length cq).ownBlock) (hr : ∀ j, (Value.slice pq LT.length cq).ownBlock = some j → w.heap.size ≤ j) => And.intro ((hfs3.keeps kP).byPs (hps3.out.keeps kP) hk) ((hkw3.trans kP).grown hk hr))
     have HFS := hid (hps3.out.keeps kP)
     clear hps2 hfs2 huf2 hkw2 hps3 hfs3 huf3 hkw3 kP HPO k22 z0 z1
     go_wp2_with (at_builtin; refine appPs rfl _ _ rfl w.heap.size _ LT rfl _ HFS.out (Keeps.refl _) [.slice px nx cx] [x] (RowsI.one huf4) hsz4 _ _ rfl At.ps1 (by simp only [List.length_singleton]; omega) ?_; intro v16 w16 hv16 hg16 hr16)
     go_roundw
     case rel =>
      obtain ⟨g1, g2⟩ := HRG.out w16 hg16 hr16
      exact ⟨j + 1, by omega, by go_num, by rw [HTK.out]; exact hv16, g1, g2⟩
     case measure => simp [intOf]; omega
    ·have e : j = L2.length := by omega
     subst e
     have hlj' : ¬ ((L2.length : Nat) : Int) < (L2.length : Nat) := by omega
     rw [List.take_length] at hps
     have HOUT := hid (HRJ.out _ _ hps hkw)
     clear hps HRJ
     go_wp2_with fail
     go_ret2
     exact HOUT.out
end Go.Proofs.YtfmmajgkjkmghaaGreatDoor
namespace Go.Proofs.YtfmmajgkjkmghaaGreatDoor
open Go.RowKit
set_option maxRecDepth 20000 in
set_option maxHeartbeats 2000000 in
theorem l16Rooted_any (B N : Nat) (h1 : 1 ≤ N) (hN : N ≤ 8) (w : World) (hs : Src w B) : Calls Tryz.prog 37 #[.pointer (some ⟨B, 0, none⟩), .int .i64 N] w (DrawP B N w) := by
 have hB := hs.lt
 obtain ⟨W0, hW0⟩ : ∃ W, W = (w.alloc (.cells #[.int .i64 0, .slice none 0 0] 26)).alloc (.cells #[.int .i64 1] 2) := ⟨_, rfl⟩
 have hb0 : RB W0 w.heap.size := by rw [hW0]; exact (RB.made w).keeps ((Keeps.refl _).alloc _)
 have D0 : Dr B w W0 := by rw [hW0]; exact Dr.of hs (((Keeps.refl w).alloc _).alloc _)
 have hs0 : W0.heap.size = w.heap.size + 1 + 1 := by rw [hW0]; simp
 have hin0 : Ints W0 (.slice (some ⟨w.heap.size + 1, 0, none⟩) 1 1) [1] := by
  have := Ints.lit1 (w.alloc (.cells #[.int .i64 0, .slice none 0 0] 26)) 1
  rw [World.size_alloc] at this
  rw [hW0]; exact this
 have HMK := hid (l16Make_any [1] _ W0 hin0)
 have HW0 := hid hW0
 clear hW0 hin0
 have hN1 : (N : Int) - 1 = ((N - 1 : Nat) : Int) := by omega
 have HSM := hid (fun wz (hz : Src wz B) => l16Some_any B (N - 1) (by omega) wz hz)
 rw [← hN1] at HSM
 clear hN1
 go_enter Tryz.func37, Tryz.ntmps37
 go_wp2_with fail
 rw [← HW0.out]
 refine HMK.out.mono ?_; rintro e w1 ⟨v1, rfl, hv1, k1⟩
 have D1 := D0.keeps k1
 have hb1 := hb0.keeps k1
 have hz1 := k1.size
 obtain ⟨p1, n1, c1, rfl⟩ := hv1.shape0
 clear hb0 D0 k1
 go_wp2_with fail
 refine (HSM.out w1 D1.2).mono ?_; rintro e w2 ⟨v2, b, rfl, hv2, hlb, hbb, d2⟩
 have D2 := D1.trans d2
 have hb2 := hb1.dr d2 (by omega)
 have hz2 := d2.size
 have hu := (hv1.dr d2 (by omega)).ints (by simp)
 obtain ⟨p2, n2, c2, rfl⟩ := hv2.shape0
 have HJ := hid (l16Join1_any b (by omega) hbb _ _ w2 hu (hv2.ints (by rw [zs_length]; omega)))
 have hlj := jnL_len b
 have hbj := jnL_bnd hbb
 clear hv1 hv2 hu hbb d2 D1 hb1
 generalize jnL b = a at *
 generalize b.length = m at *
 go_wp2_with fail
 refine HJ.out.mono ?_; rintro e w3 ⟨v3, rfl, hv3, k3⟩
 have D3 := D2.keeps k3
 have hb3 := hb2.keeps k3
 have hz3 := k3.size
 obtain ⟨p9, c9, rfl, -, -, -⟩ := At.of_own hv3
 have hlz : (zs a).length = m + 1 := by rw [zs_length]; exact hlj
 have HE := hid (fun x y => drawP_end (N := N) (Nat.le_refl _) hB w2.heap.size (show w.heap.size < w2.heap.size by omega) (by rw [zs_length] at hv3; exact hv3) (by omega) (by omega) (by rw [hlj]; exact hbj) D3 x y)
 rw [hlj] at HE
 rw [hlz]
 obtain ⟨r0, r1, f0, f1⟩ := hb3
 clear hv3 k3 D3
 go_wp2_with fail
 refine bodyPost_ret (v := .agg #[.int .i64 ((m + 1 : Nat) : Int), .slice p9 (m + 1) c9]) (by simp [results, Tryz.results37, go_sem, r0, r1]) rfl ?_
 exact HE.out _ _
structure PX (w W : World) (B g : Nat) (p : Option Addr) (c : Nat) (a : List Nat) : Prop where
 c0 : W.cell? ⟨g, 0, none⟩ = some (.int .i64 a.length)
 c1 : W.cell? ⟨g, 1, none⟩ = some (.slice p a.length c)
 f0 : W.frozen? ⟨g, 0, none⟩ = false
 f1 : W.frozen? ⟨g, 1, none⟩ = false
 own : OwnI W (w.heap.size + 1) (.slice p a.length c) (zs a)
 ne : ∀ k, (Value.slice p a.length c).ownBlock = some k → k ≠ g
 g1 : w.heap.size + 1 ≤ g
 len : a.length ≤ 8
 bnd : Bnd a.length a
 rb : RB W w.heap.size
 bl : B < w.heap.size
 D : Dr B w W
theorem PX.lt {w W : World} {B g : Nat} {p : Option Addr} {c : Nat} {a : List Nat} (h : PX w W B g p c a) : g < W.heap.size := World.block_lt_of_cell? _ _ h.c0
theorem PX.dr {w W W' : World} {B g : Nat} {p : Option Addr} {c : Nat} {a : List Nat} (h : PX w W B g p c a) (k : Dr B W W') : PX w W' B g p c a := by
 have hbl := h.bl
 have hg1 := h.g1
 have hc := k.1.cell h.lt (show ¬ g = B by omega)
 exact ⟨by rw [hc.1]; exact h.c0, by rw [hc.1]; exact h.c1, by rw [hc.2]; exact h.f0, by rw [hc.2]; exact h.f1, h.own.dr k (by omega), h.ne, h.g1, h.len, h.bnd, h.rb.dr k (by omega), h.bl, h.D.trans k⟩
theorem PX.keeps {w W W' : World} {B g : Nat} {p : Option Addr} {c : Nat} {a : List Nat} (h : PX w W B g p c a) (k : Keeps W W') : PX w W' B g p c a := h.dr ⟨Touch.of_keeps k _, h.D.2.keeps k⟩
def DrawQ (B : Nat) (w : World) (e : Ending) (w' : World) : Prop := ∃ (n : Int) (v : Value) (a : List Int), e = .returned (.agg #[.int .i64 n, v]) ∧ OwnI w' w.heap.size v a ∧ a.length ≤ 9 ∧ (-100 ≤ n ∧ n ≤ 100) ∧ Dr B w w'
theorem drawQ_end {B : Nat} {w W : World} (hB : B < w.heap.size) {n : Int} {v : Value} {a : List Int} (hv : OwnI W (w.heap.size + 1) v a) (hl : a.length ≤ 9) (hn : -100 ≤ n ∧ n ≤ 100) (D : Dr B w W) (x y : Value) :
  DrawQ B w (.returned (.agg #[.int .i64 n, v])) ((W.setCell ⟨w.heap.size, 0, none⟩ x).setCell ⟨w.heap.size, 1, none⟩ y) := by
 have hb : w.heap.size < w.heap.size + 1 := by omega
 refine ⟨n, v, a, rfl, ((hv.setBelow hb _).setBelow hb _).mono (by omega), hl, hn, ?_⟩
 have t1 : Touch W (W.setCell ⟨w.heap.size, 0, none⟩ x) (fun k => k = w.heap.size) := (Touch.grown (grown_set w.heap.size 0 x)).mono (fun k e => by simpa using e)
 have t2 : Touch (W.setCell ⟨w.heap.size, 0, none⟩ x) ((W.setCell ⟨w.heap.size, 0, none⟩ x).setCell ⟨w.heap.size, 1, none⟩ y) (fun k => k = w.heap.size) := (Touch.grown (grown_set w.heap.size 1 y)).mono (fun k e => by simpa using e)
 exact D.beside (t1.trans t2) hB (Nat.le_refl _)
theorem Dr.put {B g o : Nat} {w W : World} (h : Dr B w W) (hB : B < g) (hg : w.heap.size ≤ g) (x : Value) : Dr B w (W.setCell ⟨g, o, none⟩ x) :=
 h.beside ((Touch.grown (grown_set g o x)).mono (fun k e => by simpa using e)) hB hg
theorem RB.put {W : World} {r g o : Nat} (h : RB W r) (hne : r ≠ g) (x : Value) : RB (W.setCell ⟨g, o, none⟩ x) r :=
 h.touch ((Touch.grown (grown_set g o x)).mono (fun k e => by simpa using e) : Touch W _ (fun k => k = g)) hne
theorem OwnI.put {W : World} {b g o : Nat} {v : Value} {a : List Int} (h : OwnI W b v a) (hne : ∀ k, v.ownBlock = some k → k ≠ g) (x : Value) : OwnI (W.setCell ⟨g, o, none⟩ x) b v a :=
 h.touch ((Touch.grown (grown_set g o x)).mono (fun k e => by simpa using e) : Touch W _ (fun k => k = g)) hne
set_option maxRecDepth 20000 in
set_option maxHeartbeats 4000000 in
theorem l16Draw_any (B N : Nat) (h1 : 1 ≤ N) (hN : N ≤ 8) (w : World) (hs : Src w B) : Calls Tryz.prog 12 #[.pointer (some ⟨B, 0, none⟩), .int .i64 N] w (DrawQ B w) := by
 have hB := hs.lt
 obtain ⟨W0, hW0⟩ : ∃ W, W = w.alloc (.cells #[.int .i64 0, .slice none 0 0] 26) := ⟨_, rfl⟩
 have hb0 : RB W0 w.heap.size := by rw [hW0]; exact RB.made w
 have D0 : Dr B w W0 := by rw [hW0]; exact Dr.of hs ((Keeps.refl w).alloc _)
 have hs0 : W0.heap.size = w.heap.size + 1 := by rw [hW0]; simp
 have HW0 := hid hW0
 clear hW0
 have HRO := hid (fun wz (hz : Src wz B) => l16Rooted_any B N h1 hN wz hz)
 go_enter Tryz.func12, Tryz.ntmps12
 go_wp2_with fail
 rw [← HW0.out]
 refine (l16Some_any B N hN W0 D0.2).mono ?_; rintro e w1 ⟨v1, a, rfl, hv1, hla, hba, d1⟩
 have D1 := D0.trans d1
 have hb1 := hb0.dr d1 (by omega)
 have hz1 := d1.size
 obtain ⟨p1, c1, rfl, -, -, -⟩ := At.of_own hv1
 rw [zs_length a] at *
 have kA := (Keeps.refl w1).alloc (.cells #[.int .i64 a.length, .slice p1 a.length c1] 26)
 have HPX := hid (show PX w (w1.alloc (.cells #[.int .i64 a.length, .slice p1 a.length c1] 26)) B w1.heap.size p1 c1 a from by
  have hm := made3 w1 (.int .i64 a.length) (.slice p1 a.length c1) rfl
  exact ⟨hm.1, hm.2.1, hm.2.2.1, hm.2.2.2, (hv1.mono (by omega)).keeps kA, fun k hk e => by have := (hv1.len k hk).2; omega, by omega, by omega, hba, hb1.keeps kA, hB, D1.keeps kA⟩)
 clear hb0 D0 hs0 HW0 d1 D1 hb1 hv1 hba kA
 have hg1 : w.heap.size + 1 ≤ w1.heap.size := HPX.out.g1
 have HN3 := hid (l01Next_any 3 B _ HPX.out.D.2 (by omega))
 go_wp2_with fail
 generalize w1.alloc (.cells #[.int .i64 a.length, .slice p1 a.length c1] 26) = W1 at *
 generalize w1.heap.size = g at *
 refine HN3.out.mono ?_; rintro e w2 ⟨r2, rfl, hr2, d2⟩
 have P2 := hid (HPX.out.dr d2)
 clear HPX HN3 d2 hz1 hla
 go_upto_if 11 with fail
 go_cut [] (fun wx => ∃ p c b, PX w wx B g p c b)
 case first =>
  by_cases hz : r2 = 0
  ·subst hz
   go_wp2_with fail
   refine (HRO.out w2 P2.out.D.2).mono ?_; rintro e w3 ⟨v3, b, rfl, hv3, hlb, hbb, d3⟩
   have P3 := P2.out.dr d3
   obtain ⟨p3, c3, rfl, -, -, -⟩ := At.of_own hv3
   rw [zs_length b] at *
   have hlt2 := P2.out.lt
   have hne3 : ∀ k, (Value.slice p3 b.length c3).ownBlock = some k → k ≠ g := fun k hk e => by have := (hv3.len k hk).1; omega
   have HP4 := hid (show PX w ((w3.setCell ⟨g, 0, none⟩ (.int .i64 b.length)).setCell ⟨g, 1, none⟩ (.slice p3 b.length c3)) B g p3 c3 b from by
    have x0 := P3.c0
    have x1 := P3.c1
    have y1 : (w3.setCell ⟨g, 0, none⟩ (.int .i64 b.length)).cell? ⟨g, 1, none⟩ = some (.slice p1 a.length c1) := (World.cell?_setCell_other (w := w3) (a := ⟨g, 0, none⟩) (b := ⟨g, 1, none⟩) (v := .int .i64 b.length) (by simp)).trans x1
    refine ⟨(World.cell?_setCell_other (w := w3.setCell ⟨g, 0, none⟩ (.int .i64 b.length)) (a := ⟨g, 1, none⟩) (b := ⟨g, 0, none⟩) (v := .slice p3 b.length c3) (by simp)).trans (World.cell?_setCell_same _ _ _ x0), World.cell?_setCell_same _ _ _ y1, ?_, ?_, ?_, hne3, hg1, by omega, hbb, (P3.rb.put (by omega) _).put (by omega) _, hB, (P3.D.put (by omega) (by omega) _).put (by omega) (by omega) _⟩
    ·rw [World.frozen?_setCell, World.frozen?_setCell]; exact P3.f0
    ·rw [World.frozen?_setCell, World.frozen?_setCell]; exact P3.f1
    ·have hw3 : w.heap.size + 1 ≤ w2.heap.size := by omega
     exact ((hv3.mono hw3).put hne3 _).put hne3 _)
   obtain ⟨x0, x1, y0, y1⟩ := And.intro P3.c0 (And.intro P3.c1 (And.intro P3.f0 P3.f1))
   clear P3 hv3 hbb d3 hne3 HRO
   go_wp2_with fail
   go_meet
   exact ⟨_, _, _, HP4.out⟩
  ·have hz' : ((r2 : Nat) : Int) ≠ 0 := by omega
   go_wp2_with fail
   go_meet
   exact ⟨_, _, _, P2.out⟩
 case rest =>
  obtain ⟨p, c, b, P4⟩ := hcut
  clear P2 HRO hr2
  go_wp2_with fail
  refine (l01Next_any 40 B wc P4.D.2 (by omega)).mono ?_; rintro e w5 ⟨r5, rfl, hr5, d5⟩
  have P5 := hid (P4.dr d5)
  have hgl := P5.out.lt
  have hlen := P5.out.len
  clear P4 d5 hr5
  obtain rfl | rfl | rfl | h3 : r5 = 0 ∨ r5 = 1 ∨ r5 = 2 ∨ 2 < r5 := by omega
  ·have hl : OwnI (w5.alloc (.cells #[.int .i64 (-1), .int .i64 9, .int .i64 ((b.length : Int) + 1)] 2)) w5.heap.size (.slice (some ⟨w5.heap.size, 0, none⟩) 3 3) [-1, 9, (b.length : Int) + 1] := OwnI.lit w5 _ (by simp [maxLen])
   have kA := (Keeps.refl w5).alloc (.cells #[.int .i64 (-1), .int .i64 9, .int .i64 ((b.length : Int) + 1)] 2)
   have P6 := P5.out.keeps kA
   have HPK := hid (l01Pick_any B w5.heap.size _ _ _ P6.D.2 hl (by omega) (by simp) (by simp))
   have HP6 := hid P6
   have x0 := P5.out.c0
   clear hl kA P6
   go_wp2_with fail
   refine HPK.out.mono ?_; rintro e w6 ⟨x, hx, rfl, d6⟩
   have P7 := HP6.out.dr d6
   have hx2 : -100 ≤ x ∧ x ≤ 100 := by
    simp only [List.mem_cons, List.not_mem_nil, or_false] at hx
    omega
   have HE := hid (fun y z => drawQ_end hB (W := w6.setCell ⟨g, 0, none⟩ (.int .i64 x)) (n := x) (P7.own.put P7.ne _) (by rw [zs_length]; omega) hx2 (P7.D.put (by omega) (by omega) _) y z)
   have hbx := P7.rb.put (o := 0) (show w.heap.size ≠ g by omega) (.int .i64 x)
   obtain ⟨r0, r1, f0, f1⟩ := hbx
   have z0 := World.cell?_setCell_same w6 ⟨g, 0, none⟩ (.int .i64 x) P7.c0
   have z1 := (World.cell?_setCell_other (w := w6) (a := ⟨g, 0, none⟩) (b := ⟨g, 1, none⟩) (v := .int .i64 x) (by simp)).trans P7.c1
   obtain ⟨y0, y1, y2⟩ := And.intro P7.c0 (And.intro P7.c1 P7.f0)
   clear P7 HP6 d6 hx x0 HPK
   go_wp2_with fail
   refine bodyPost_ret (v := .agg #[Value.int .i64 x, Value.slice p b.length c]) (by simp [results, Tryz.results12, go_sem, r0, r1]) rfl ?_
   exact HE.out _ _
  ·have hin := P5.out.own.ints (by rw [zs_length]; omega)
   have hlz := zs_length b
   have HOW := hid (l01Own_any (zs b) _ w5 hin)
   have x1 := P5.out.c1
   clear hin
   go_wp2_with fail
   refine HOW.out.mono ?_; rintro e w6 ⟨v6, rfl, hv6, k6⟩
   obtain ⟨p6, c6, rfl, -, -, -⟩ := At.of_own hv6
   rw [hlz] at hv6 ⊢
   have hz6 := k6.size
   go_wp2_with (at_builtin; refine appI rfl (.tmp 30) (.tmp 31) rfl w5.heap.size _ (zs b) rfl (hv6.keeps ((Keeps.refl w6).alloc _)) _ [0] rfl (Ints.lit1 w6 0) (by simp; omega) (by rw [hlz]; simp; omega) ?_; intro v7 w7 hv7 hg7 hr7; have k7 := (k6.alloc (.cells #[.int .i64 0] 2)).grown hg7 hr7; have P7 := P5.out.keeps k7; obtain ⟨y1, y2⟩ := And.intro P7.c1 P7.f1; obtain ⟨p9, n9, c9, rfl⟩ := hv7.shape0; have hne7 : ∀ k, (Value.slice p9 n9 c9).ownBlock = some k → k ≠ g := fun k hk e => (by have := (hv7.len k hk).1; omega); have hz5 : w.heap.size + 1 ≤ w5.heap.size := (by have := P5.out.g1; omega); have HE := hid (fun y z => drawQ_end hB (W := w7.setCell ⟨g, 1, none⟩ (.slice p9 n9 c9)) (n := (b.length : Int)) ((hv7.mono hz5).put hne7 _) (by simp [hlz]; omega) (by omega) (P7.D.put (by omega) (by omega) _) y z); obtain ⟨r0, r1, f0, f1⟩ := P7.rb.put (o := 1) (show w.heap.size ≠ g by omega) (.slice p9 n9 c9); have z1 := World.cell?_setCell_same w7 ⟨g, 1, none⟩ (.slice p9 n9 c9) P7.c1; have z0 := (World.cell?_setCell_other (w := w7) (a := ⟨g, 1, none⟩) (b := ⟨g, 0, none⟩) (v := .slice p9 n9 c9) (by simp)).trans P7.c0)
   go_wp2_with fail
   refine bodyPost_ret (v := .agg #[Value.int .i64 (b.length : Int), Value.slice p9 n9 c9]) (by simp [results, Tryz.results12, go_sem, r0, r1]) rfl ?_
   exact HE.out _ _
  ·have x0 := P5.out.c0
   by_cases hbz : b.length = 0
   ·have hbz' : ¬ (0 : Int) < (b.length : Int) := by omega
    have x1 := P5.out.c1
    obtain ⟨r0, r1, f0, f1⟩ := P5.out.rb
    have HE := hid (fun y z => drawQ_end hB (W := w5) (n := (b.length : Int)) P5.out.own (by rw [zs_length]; omega) (by omega) P5.out.D y z)
    clear hbz
    generalize b.length = bl at *
    go_wp2_with fail
    refine bodyPost_ret (v := .agg #[Value.int .i64 (bl : Int), Value.slice p bl c]) (by simp [results, Tryz.results12, go_sem, r0, r1]) rfl ?_
    exact HE.out _ _
   ·have hbz' : (0 : Int) < (b.length : Int) := by omega
    have hbp : 0 < b.length := by omega
    clear hbz
    have kd := (Keeps.refl w5).drew
    have Pd := P5.out.keeps kd
    have HF := hid (fun wz => l01Full_any (b.length : Int) wz (by omega) (by omega))
    have hp8 : (2 : Nat) ^ b.length ≤ 2 ^ 8 := Nat.pow_le_pow_right (by omega) (by omega)
    have hpp := Nat.two_pow_pos b.length
    have hpc : (2 : Int) ^ b.length - 1 = ((2 ^ b.length - 1 : Nat) : Int) := by
     rw [show (2 : Int) ^ b.length = ((2 ^ b.length : Nat) : Int) by push_cast; rfl]
     omega
    simp only [Int.toNat_natCast, hpc] at HF
    clear hpc
    have hq : 2 ^ b.length - 1 ≤ 255 := by omega
    generalize 2 ^ b.length - 1 = q at *
    clear hp8 hpp
    have HWQ := hid (show IntKind.i64.wrap ((q : Int) + 2) = ((q + 2 : Nat) : Int) by rw [show (q : Int) + 2 = ((q + 2 : Nat) : Int) by push_cast; rfl]; exact wrapN _ (by omega))
    obtain ⟨gp, cap, ev, hgp, -, -, -⟩ := P5.out.own.shape (by rw [zs_length]; exact hbp)
    rw [zs_length] at ev
    injection ev with ev1 _ ev3
    subst ev1 ev3
    have y0 := Pd.c0
    have y1 := Pd.c1
    go_wp2_with fail
    go_region_law (first
     | (go_simp; go_at_call 40; refine (HF.out _).mono ?_; rintro e w' ⟨rfl, rfl⟩)
     | (have hq7 := P7.D.2; go_simp; go_at_call 36; refine (l01Next_any (IntKind.i64.wrap ((q : Int) + 2)) B _ hq7 (by rw [HWQ.out]; omega)).mono ?_; rintro e w8 ⟨r8, rfl, hr8, d8⟩; have P8 := P7.dr d8; have x8 := P8.c0; have x81 := P8.c1; have hrr : r7 < b.length := hr7'; obtain ⟨c8, f8⟩ := P8.own.zcell r7 hrr)
     | (go_simp; go_at_call 36; refine (l01Next_any (b.length : Int) B _ Pd.D.2 (by omega)).mono ?_; rintro e w7 ⟨r7, rfl, hr7, d7⟩; have P7 := Pd.dr d7; have x7 := P7.c0; have x71 := P7.c1; have hr7' : r7 < b.length := (by omega)))
    all_goals
     have hne := P8.ne gp rfl
     have HE := hid (fun x y z => drawQ_end hB (W := w8.setCell ⟨gp, r7, none⟩ (.int .i64 x)) (n := (b.length : Int)) (P8.own.store r7 (by rw [zs_length]; exact hr7') x).1 (by rw [List.length_set, zs_length]; omega) (by omega) (P8.D.put (by omega) (by omega) _) y z)
     have z0 := fun x => (World.cell?_setCell_other (w := w8) (a := ⟨gp, r7, none⟩) (b := ⟨g, 0, none⟩) (v := .int .i64 x) (by simp)).trans P8.c0
     have z1 := fun x => (World.cell?_setCell_other (w := w8) (a := ⟨gp, r7, none⟩) (b := ⟨g, 1, none⟩) (v := .int .i64 x) (by simp)).trans P8.c1
     have r0 := fun x => (P8.rb.put (o := r7) (show w.heap.size ≠ gp by omega) (.int .i64 x)).c0
     have r1 := fun x => (P8.rb.put (o := r7) (show w.heap.size ≠ gp by omega) (.int .i64 x)).c1
     have f0 := fun x => (P8.rb.put (o := r7) (show w.heap.size ≠ gp by omega) (.int .i64 x)).f0
     have f1 := fun x => (P8.rb.put (o := r7) (show w.heap.size ≠ gp by omega) (.int .i64 x)).f1
     clear P8 P7 Pd d7 d8 hq7
     go_wp2_with fail
     refine bodyPost_ret (v := .agg #[Value.int .i64 (b.length : Int), Value.slice (some ⟨gp, 0, none⟩) b.length c]) (by simp [results, Tryz.results12, go_sem, r0, r1]) rfl ?_
     exact HE.out _ _ _
  ·have x0 := P5.out.c0
   have x1 := P5.out.c1
   obtain ⟨r0, r1, f0, f1⟩ := P5.out.rb
   have hz0 : ((r5 : Nat) : Int) ≠ 0 := by omega
   have hz1 : ((r5 : Nat) : Int) ≠ 1 := by omega
   have hz2 : ((r5 : Nat) : Int) ≠ 2 := by omega
   have HE := hid (fun y z => drawQ_end hB (W := w5) (n := (b.length : Int)) P5.out.own (by rw [zs_length]; omega) (by omega) P5.out.D y z)
   go_wp2_with fail
   refine bodyPost_ret (v := .agg #[Value.int .i64 (b.length : Int), Value.slice p b.length c]) (by simp [results, Tryz.results12, go_sem, r0, r1]) rfl ?_
   exact HE.out _ _
end Go.Proofs.YtfmmajgkjkmghaaGreatDoor
