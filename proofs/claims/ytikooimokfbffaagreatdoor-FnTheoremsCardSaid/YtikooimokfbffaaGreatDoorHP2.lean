import Derived.Test.YtikooimokfbffaaGreatDoorHHS
import Derived.Test.YtikooimokfbffaaGreatDoorHJC
import Derived.Test.YtikooimokfbffaaGreatDoorHBase
import Derived.Test.YtikooimokfbffaaGreatDoorHQA
import Derived.Test.YtikooimokfbffaaGreatDoorHL1
/- Plain: what is valid on the test order of a logic is valid on all orders of the logic. -/
namespace Go.Proofs.YtikooimokfbffaaGreatDoor
theorem list_two {l : List Nat} (h : l.length ≤ 1) {x y : Nat} (hx : x ∈ l) (hy : y ∈ l) : x = y := by
 match l, h with
 | [], _ => cases hx
 | [a], _ => rw [List.mem_singleton.1 hx, List.mem_singleton.1 hy]
theorem list_three {l : List Nat} (h : l.length ≤ 2) {x y z : Nat} (hx : x ∈ l) (hy : y ∈ l) (hz : z ∈ l) (hxy : x ≠ y) (hxz : x ≠ z) : y = z := by
 match l, h with
 | [], _ => cases hx
 | [a], _ => rw [List.mem_singleton.1 hy, List.mem_singleton.1 hz]
 | [a, b], _ =>
  simp only [List.mem_cons, List.not_mem_nil, or_false] at hx hy hz
  rcases hx with rfl | rfl <;> rcases hy with rfl | rfl <;> rcases hz with rfl | rfl <;> first | rfl | exact absurd rfl hxy | exact absurd rfl hxz
theorem mem_memB {m x : Nat} (h : m.testBit x = true) (h8 : x < 8) : x ∈ memB m := by
 unfold memB lowB
 exact List.mem_filter.2 ⟨List.mem_range.2 h8, h⟩
theorem Pos.lt8 {b : List Nat} (hp : Pos b) {x y : Nat} (h : (b.getD x 0).testBit y = true) : y < b.length ∧ y < 8 := by
 have := bit_lt hp.2.1 h
 have := hp.1
 omega
theorem dep_two {b : List Nat} (hp : Pos b) (h : depB b ≤ 2) {x y z : Nat} (hx : x < b.length) (hxy : (b.getD x 0).testBit y = true) (hne : y ≠ x) (hyz : (b.getD y 0).testBit z = true) : z = y := by
 obtain ⟨hb, hbm, hr, ht, ha⟩ := hp
 have hy := bit_lt hbm hxy
 have hz := bit_lt hbm hyz
 by_cases e : z = y
 ·exact e
 ·have h1 := dptB_above hb hbm hr ht ha hx hxy hne
  have h2 := dptB_above hb hbm hr ht ha hy hyz e
  have h3 := dptB_pos hb hbm hr ht ha hz
  have h4 := le_maxTo (c := dptL b) hx
  rw [dptL_get hx] at h4
  unfold depB at h
  omega
theorem dep_flat {b : List Nat} (hp : Pos b) (h : depB b ≤ 1) {x y : Nat} (hx : x < b.length) (hxy : (b.getD x 0).testBit y = true) : y = x := by
 by_cases e : y = x
 ·exact e
 ·obtain ⟨hb, hbm, hr, ht, ha⟩ := hp
  have hy := bit_lt hbm hxy
  have h1 := dptB_above hb hbm hr ht ha hx hxy e
  have h3 := dptB_pos hb hbm hr ht ha hy
  have h4 := le_maxTo (c := dptL b) hx
  rw [dptL_get hx] at h4
  unfold depB at h
  omega
theorem wid_lin {b : List Nat} (hp : Pos b) (h : widB b ≤ 1) {x y z : Nat} (hx : x < b.length) (hy : (b.getD x 0).testBit y = true) (hz : (b.getD x 0).testBit z = true) : (b.getD y 0).testBit z = true ∨ (b.getD z 0).testBit y = true := by
 by_cases h1 : (b.getD y 0).testBit z = true
 ·exact .inl h1
 ·by_cases h2 : (b.getD z 0).testBit y = true
  ·exact .inr h2
  ·exfalso
   have hy8 := hp.lt8 hy
   have hz8 := hp.lt8 hz
   have hyy := refl_of hp.2.2.1 hy8.1
   have hzz := refl_of hp.2.2.1 hz8.1
   have hne : y ≠ z := fun e => h1 (e ▸ hyy)
   have hs : (2 ^ y ||| 2 ^ z) < 256 := by
    have e1 : 2 ^ y < 2 ^ 8 := Nat.pow_lt_pow_right (by omega) hy8.2
    have e2 : 2 ^ z < 2 ^ 8 := Nat.pow_lt_pow_right (by omega) hz8.2
    exact Nat.or_lt_two_pow e1 e2
   have hbit : ∀ i, (2 ^ y ||| 2 ^ z).testBit i = (decide (y = i) || decide (z = i)) := fun i => by rw [Nat.testBit_or, Nat.testBit_two_pow, Nat.testBit_two_pow]
   have hw : okW b (2 ^ y ||| 2 ^ z) = true := by
    unfold okW
    rw [Bool.and_eq_true]
    constructor
    ·unfold antiC
     rw [List.all_eq_true]
     intro i hi
     rw [beq_iff_eq]
     apply Nat.eq_of_testBit_eq
     intro k
     have hi2 := (memB_mem hi).2
     rw [hbit, Bool.or_eq_true, decide_eq_true_eq, decide_eq_true_eq] at hi2
     rw [Nat.testBit_and, hbit, Nat.testBit_two_pow]
     rcases hi2 with rfl | rfl
     ·by_cases ek : y = k
      ·subst ek; simp only [hyy, decide_true, Bool.true_or, Bool.and_true]
      ·by_cases ek2 : z = k
       ·subst ek2; rw [Bool.eq_false_iff.2 h1]; simp [ek]
       ·simp [ek, ek2]
     ·by_cases ek : z = k
      ·subst ek; simp only [hzz, decide_true, Bool.or_true, Bool.and_true]
      ·by_cases ek2 : y = k
       ·subst ek2; rw [Bool.eq_false_iff.2 h2]; simp [ek]
       ·simp [ek, ek2]
    ·rw [List.any_eq_true]
     refine ⟨x, by simpa using hx, (inB_iff _ _).2 fun i hi => ?_⟩
     rw [hbit, Bool.or_eq_true, decide_eq_true_eq, decide_eq_true_eq] at hi
     rcases hi with rfl | rfl
     ·exact hy
     ·exact hz
   have h3 := widT_ge hs hw
   have h4 : cntB (2 ^ y ||| 2 ^ z) ≤ 1 := by unfold widB at h; omega
   exact hne (list_two h4 (mem_memB (by rw [hbit]; simp) hy8.2) (mem_memB (by rw [hbit]; simp) hz8.2))
theorem sml_two {b : List Nat} (hp : Pos b) (h : b.all ofSmL = true) {x y z : Nat} (hx : x < b.length) (hy : (b.getD x 0).testBit y = true) (hz : (b.getD x 0).testBit z = true) (hne : y ≠ x) (hne2 : z ≠ x) : y = z := by
 have h1 := List.all_eq_true.1 h (b.getD x 0) (by rw [List.getD_eq_getElem?_getD, List.getElem?_eq_getElem hx]; exact List.getElem_mem hx)
 unfold ofSmL at h1
 rw [decide_eq_true_eq] at h1
 have hxx := refl_of hp.2.2.1 hx
 exact list_three h1 (mem_memB hxx (hp.lt8 hxx).2) (mem_memB hy (hp.lt8 hy).2) (mem_memB hz (hp.lt8 hz).2) (Ne.symm hne) (Ne.symm hne2)
theorem mxB_bit (b : List Nat) (i : Nat) : (mxB b).testBit i = true ↔ i < b.length ∧ b.getD i 0 = 2 ^ i := by
 unfold mxB
 rw [mxT_bit, Bool.and_eq_true, decide_eq_true_eq, beq_iff_eq]
theorem kc_max {b : List Nat} (hp : Pos b) (h : b.all (ofKC b) = true) {x : Nat} (hx : x < b.length) : ∃ m, (b.getD x 0).testBit m = true ∧ b.getD m 0 = 2 ^ m ∧ ∀ m', (b.getD x 0).testBit m' = true → b.getD m' 0 = 2 ^ m' → m' = m := by
 have h1 := List.all_eq_true.1 h (b.getD x 0) (by rw [List.getD_eq_getElem?_getD, List.getElem?_eq_getElem hx]; exact List.getElem_mem hx)
 unfold ofKC at h1
 rw [beq_iff_eq] at h1
 unfold cntB at h1
 obtain ⟨m, hm⟩ : ∃ m, m ∈ memB (b.getD x 0 &&& mxB b) := List.exists_mem_of_length_pos (by omega)
 have hm2 := (memB_mem hm).2
 rw [Nat.testBit_and, Bool.and_eq_true, mxB_bit] at hm2
 refine ⟨m, hm2.1, hm2.2.2, fun m' h2 h3 => ?_⟩
 have h8 := hp.lt8 h2
 exact list_two (by omega) (mem_memB (by rw [Nat.testBit_and, h2, (mxB_bit b m').2 ⟨h8.1, h3⟩]; rfl) h8.2) hm
theorem kc_top {b : List Nat} (hp : Pos b) (h : b.all (ofKC b) = true) {x : Nat} (hx : x < b.length) : ∃ m, (b.getD x 0).testBit m = true ∧ ∀ u, (b.getD x 0).testBit u = true → (b.getD u 0).testBit m = true := by
 obtain ⟨m, h1, _, h3⟩ := kc_max hp h hx
 refine ⟨m, h1, fun u hu => ?_⟩
 have hul := (hp.lt8 hu).1
 obtain ⟨m', g1, g2, _⟩ := kc_max hp h hul
 have := h3 m' (trans_of hp.2.1 hp.2.2.2.1 hx hu g1) g2
 rwa [this] at g1
theorem ch_get {m k : Nat} (hk : k < m) : (chN m).getD k 0 = 2 ^ m - 2 ^ k := by simp [chN, List.getD_eq_getElem?_getD, hk]
theorem ch_bit {m k : Nat} (hk : k < m) (j : Nat) : ((chN m).getD k 0).testBit j = true ↔ k ≤ j ∧ j < m := by
 rw [ch_get hk]
 have h1 : 2 ^ k ≤ 2 ^ m := Nat.pow_le_pow_right (by omega) (by omega)
 have h2 := Nat.two_pow_pos k
 have e : 2 ^ m - 2 ^ k = 2 ^ m - (2 ^ k - 1 + 1) := by omega
 rw [e, Nat.testBit_two_pow_sub_succ (by omega), Nat.testBit_two_pow_sub_one, Bool.and_eq_true, decide_eq_true_eq, Bool.not_eq_true', decide_eq_false_iff_not]
 omega
theorem fk_root (m : Nat) : (fkN m).getD 0 0 = 2 ^ (m + 1) - 1 := rfl
theorem fk_prong {m j : Nat} (hj : j < m) : (fkN m).getD (j + 1) 0 = 2 ^ (j + 1) := by simp [fkN, List.getD_eq_getElem?_getD, hj]
theorem ch_Pos {m : Nat} (h : m ≤ 8) : Pos (chN m) := ok_Pos (ch_ok ⟨m, by omega⟩)
theorem fk_Pos {m : Nat} (h : m ≤ 7) : Pos (fkN m) := ok_Pos (fk_ok ⟨m, by omega⟩)
theorem vld_one {b : List Nat} (hp : Pos b) (hd : depB b ≤ 1) {t : Fm} (hw : t.wf) (h : vldR (chN 1) t = true) : vldR b t = true := by
 rw [vld_km b hp t hw]
 intro A hA x hx
 have hq : Pos (chN 1) := ch_Pos (by omega)
 have h1 := (vld_km (chN 1) hq t hw).1 h (fun _ p => A x p) (fun _ _ _ _ _ h => h) 0 (by rw [ch_len]; omega)
 refine (km_one (varL t) (kmA b hp A hA) (kmA (chN 1) hq _ _) ⟨x, hx⟩ ⟨0, by rw [ch_len]; omega⟩ ?_ ?_ (fun p => Iff.rfl) t (inV_varL hw)).2 h1
 ·rintro ⟨u, hu⟩ hle
  exact Subtype.ext (dep_flat hp hd hx hle)
 ·rintro ⟨u, hu⟩ _
  rw [ch_len] at hu
  exact Subtype.ext (show u = 0 by omega)
theorem vld_two {b : List Nat} (hp : Pos b) (hd : b.all ofSmL = true) {t : Fm} (hw : t.wf) (h : vldR (chN 2) t = true) : vldR b t = true := by
 rw [vld_km b hp t hw]
 intro A hA x hx
 have hq : Pos (chN 2) := ch_Pos (by omega)
 have hl2 : (chN 2).length = 2 := ch_len 2
 obtain ⟨y, hxy, hx2, hy2⟩ : ∃ y, (b.getD x 0).testBit y = true ∧ (∀ u, (b.getD x 0).testBit u = true → u = x ∨ u = y) ∧ ∀ u, (b.getD y 0).testBit u = true → u = y := by
  by_cases he : ∃ y, (b.getD x 0).testBit y = true ∧ y ≠ x
  ·obtain ⟨y, hy, hne⟩ := he
   have hyl := (hp.lt8 hy).1
   refine ⟨y, hy, fun u hu => ?_, fun u hu => ?_⟩
   ·by_cases e : u = x
    ·exact .inl e
    ·exact .inr (sml_two hp hd hx hu hy e hne)
   ·have hxu := trans_of hp.2.1 hp.2.2.2.1 hx hy hu
    by_cases e : u = x
    ·subst e
     exact (hne (anti_of hp.2.2.2.2 hyl hx hu hy)).elim
    ·exact sml_two hp hd hx hxu hy e hne
  ·have h1 : ∀ u, (b.getD x 0).testBit u = true → u = x := fun u hu => by
    by_cases e : u = x
    ·exact e
    ·exact absurd ⟨u, hu, e⟩ he
   exact ⟨x, refl_of hp.2.2.1 hx, fun u hu => .inl (h1 u hu), h1⟩
 have hyl := (hp.lt8 hxy).1
 have hA2 : ∀ i j p, i < (chN 2).length → ((chN 2).getD i 0).testBit j = true → (if i = 0 then A x p else A y p) → (if j = 0 then A x p else A y p) := by
  intro i j p hi hij hv
  rw [hl2] at hi
  have hb := (ch_bit hi j).1 hij
  by_cases ei : i = 0
  ·rw [if_pos ei] at hv
   by_cases ej : j = 0
   ·rwa [if_pos ej]
   ·rw [if_neg ej]; exact hA x y p hx hxy hv
  ·rw [if_neg ei] at hv
   rwa [if_neg (by omega)]
 have h1 := (vld_km (chN 2) hq t hw).1 h (fun i p => if i = 0 then A x p else A y p) hA2 0 (by rw [hl2]; omega)
 refine (km_two (varL t) (kmA b hp A hA) (kmA (chN 2) hq _ hA2) ⟨x, hx⟩ ⟨y, hyl⟩ ⟨0, (by rw [hl2]; exact Nat.zero_lt_succ 1 : 0 < (chN 2).length)⟩ ⟨1, (by rw [hl2]; exact Nat.lt_succ_self 1 : 1 < (chN 2).length)⟩ hxy ?_ ?_ ?_ ?_ ?_ (fun p => Iff.rfl) (fun p => Iff.rfl) t (inV_varL hw)).2 h1
 ·rintro ⟨u, hu⟩ hle
  rcases hx2 u hle with e | e
  ·exact .inl (Subtype.ext e)
  ·exact .inr (Subtype.ext e)
 ·rintro ⟨u, hu⟩ hle
  exact Subtype.ext (hy2 u hle)
 ·exact (ch_bit (m := 2) (k := 0) (by omega) 1).2 (by omega)
 ·rintro ⟨u, hu⟩ _
  rw [hl2] at hu
  by_cases e : u = 0
  ·exact .inl (Subtype.ext e)
  ·exact .inr (Subtype.ext (show u = 1 by omega))
 ·rintro ⟨u, hu⟩ hle
  have := (ch_bit (m := 2) (k := 1) (by omega) u).1 hle
  exact Subtype.ext (show u = 1 by omega)
theorem vld_chain {b : List Nat} (hp : Pos b) (hd : widB b ≤ 1) {t : Fm} (hw : t.wf) (h : vldR (chN ((varL t).length + 1)) t = true) : vldR b t = true := by
 rw [vld_km b hp t hw]
 intro A hA x hx
 have h6 : (varL t).length ≤ 6 := by
  unfold varL lowB
  exact Nat.le_trans (List.length_filter_le _ _) (by simp)
 generalize hV : varL t = V at *
 have hq : Pos (chN (V.length + 1)) := ch_Pos (by omega)
 have hlq : (chN (V.length + 1)).length = V.length + 1 := ch_len _
 let M := kmA b hp A hA
 let x0 : M.W := ⟨x, hx⟩
 let S : Nat → Prop := fun s => ∃ u, M.le x0 u ∧ cntV M V u = s
 have hlin : ∀ u v : M.W, M.le x0 u → M.le x0 v → M.le u v ∨ M.le v u := fun u v hu hv => wid_lin hp hd hx hu hv
 have hB : ∀ r, S r → r ≤ V.length := by rintro r ⟨u, _, rfl⟩; exact cntV_le M V u
 have hS0 : S (cntV M V x0) := ⟨x0, M.refl x0, rfl⟩
 let A2 : Nat → Nat → Prop := fun i p => p ∈ V ∧ ∃ u, M.le x0 u ∧ NearTo S i (cntV M V u) ∧ M.V u p
 have hA2 : ∀ i j p, i < (chN (V.length + 1)).length → ((chN (V.length + 1)).getD i 0).testBit j = true → A2 i p → A2 j p := by
  rintro i j p hi hij ⟨hpV, u, hu, hn, hv⟩
  rw [hlq] at hi
  have hb := (ch_bit hi j).1 hij
  obtain ⟨s, hs⟩ := near_ex V.length hB hS0 j
  have hm := near_mono hb.1 hn hs
  obtain ⟨v, hv2, hvs⟩ := hs.1
  refine ⟨hpV, v, hv2, by rw [hvs]; exact hs, ?_⟩
  rcases hlin u v hu hv2 with k | k
  ·exact M.mono _ _ p k hv
  ·have h1 := cntV_mono M V k
   exact (cntV_same M V k (by omega) hpV).2 hv
 have h1 := (vld_km _ hq t hw).1 h A2 hA2
 have hf : ∀ i j : (kmA (chN (V.length + 1)) hq A2 hA2).W, (kmA (chN (V.length + 1)) hq A2 hA2).le i j ↔ i.1 ≤ j.1 := by
  rintro ⟨i, hi⟩ ⟨j, hj⟩
  rw [hlq] at hi hj
  exact (ch_bit hi j).trans ⟨fun h => h.1, fun h => ⟨h, hj⟩⟩
 obtain ⟨i, hi⟩ := km_chain V M x0 hlin (kmA (chN (V.length + 1)) hq A2 hA2) (fun i => i.1) hf (fun n hn => ⟨⟨n, by rw [hlq]; omega⟩, rfl⟩) (fun i p hpV => ⟨fun k => k.2, fun k => ⟨hpV, k⟩⟩) t (by rw [← hV]; exact inV_varL hw)
 exact hi.2 (h1 i.1 i.2)
theorem vld_fork {b : List Nat} (hp : Pos b) (hd : depB b ≤ 2) {t : Fm} (hw : t.wf) (h2 : (varL t).length ≤ 2) (h : vldR (fkN (2 ^ (varL t).length)) t = true) : vldR b t = true := by
 rw [vld_km b hp t hw]
 intro A hA x hx
 have h4 : 2 ^ (varL t).length ≤ 4 := by
  have : 2 ^ (varL t).length ≤ 2 ^ 2 := Nat.pow_le_pow_right (by omega) h2
  omega
 generalize hV : varL t = V at *
 have hq : Pos (fkN (2 ^ V.length)) := fk_Pos (by omega)
 have hlq : (fkN (2 ^ V.length)).length = 2 ^ V.length + 1 := fk_len _
 let M := kmA b hp A hA
 let x0 : M.W := ⟨x, hx⟩
 have hd2 : ∀ u : M.W, M.le x0 u → u = x0 ∨ MaxM M u := by
  rintro ⟨u, hu⟩ hle
  by_cases e : u = x
  ·exact .inl (Subtype.ext e)
  ·refine .inr ?_
   rintro ⟨v, hv⟩ hle2
   exact Subtype.ext (dep_two hp hd hx hle e hle2)
 have hm : ∃ u, M.le x0 u ∧ MaxM M u := by
  by_cases he : ∃ u : M.W, M.le x0 u ∧ u ≠ x0
  ·obtain ⟨u, hu, hne⟩ := he
   exact ⟨u, hu, (hd2 u hu).resolve_left hne⟩
  ·refine ⟨x0, M.refl x0, fun v hv => ?_⟩
   by_cases e : v = x0
   ·exact e
   ·exact absurd ⟨v, hv, e⟩ he
 obtain ⟨g, hg⟩ := prong_ex M V x0 hm
 let A2 : Nat → Nat → Prop := fun i p => if i = 0 then A x p else M.V (g (i - 1)) p
 have hA2 : ∀ i j p, i < (fkN (2 ^ V.length)).length → ((fkN (2 ^ V.length)).getD i 0).testBit j = true → A2 i p → A2 j p := by
  intro i j p hi hij hv
  rw [hlq] at hi
  by_cases ei : i = 0
  ·simp only [A2, if_pos ei] at hv
   by_cases ej : j = 0
   ·simp only [A2, if_pos ej]; exact hv
   ·simp only [A2, if_neg ej]
    exact M.mono x0 _ p (hg (j - 1)).1 hv
  ·obtain ⟨k, rfl⟩ : ∃ k, i = k + 1 := ⟨i - 1, by omega⟩
   rw [fk_prong (by omega), Nat.testBit_two_pow, decide_eq_true_eq] at hij
   subst hij
   exact hv
 have h1 := (vld_km _ hq t hw).1 h A2 hA2 0 (by rw [hlq]; exact Nat.succ_pos _)
 let N := kmA (fkN (2 ^ V.length)) hq A2 hA2
 have hr0 : 0 < (fkN (2 ^ V.length)).length := by rw [hlq]; exact Nat.succ_pos _
 have hrj : ∀ j, j < 2 ^ V.length → j + 1 < (fkN (2 ^ V.length)).length := fun j hj => by rw [hlq]; exact Nat.succ_lt_succ hj
 let r : N.W := ⟨0, hr0⟩
 let pr : Nat → N.W := fun j => if hj : j < 2 ^ V.length then ⟨j + 1, hrj j hj⟩ else r
 have hpr : ∀ j (hj : j < 2 ^ V.length), pr j = ⟨j + 1, hrj j hj⟩ := fun j hj => dif_pos hj
 refine (km_fork V M x0 hd2 g hg N r pr ?_ ?_ ?_ (fun p _ => ?_) (fun j hj p _ => ?_) t (by rw [← hV]; exact inV_varL hw)).2 h1
 ·rintro ⟨u, hu⟩ _
  have hu2 := hu
  rw [hlq] at hu2
  by_cases e : u = 0
  ·exact .inl (Subtype.ext e)
  ·refine .inr ⟨u - 1, by omega, ?_⟩
   rw [hpr _ (by omega)]
   exact Subtype.ext (show u = u - 1 + 1 by omega)
 ·intro j hj
  rw [hpr j hj]
  show ((fkN (2 ^ V.length)).getD 0 0).testBit (j + 1) = true
  rw [fk_root, Nat.testBit_two_pow_sub_one, decide_eq_true_eq]
  omega
 ·intro j hj
  rw [hpr j hj]
  rintro ⟨u, hu⟩ hle
  have hle2 : ((fkN (2 ^ V.length)).getD (j + 1) 0).testBit u = true := hle
  rw [fk_prong hj, Nat.testBit_two_pow, decide_eq_true_eq] at hle2
  exact Subtype.ext hle2.symm
 ·show A x p ↔ A2 0 p
  simp only [A2, if_true]
 ·rw [hpr j hj]
  show M.V (g j) p ↔ A2 (j + 1) p
  simp [A2]
def wmF (v : Nat) : Fm := Fm.or (Fm.not (.var v)) (Fm.not (Fm.not (.var v)))
theorem vld_kc {b : List Nat} (hp : Pos b) (hd : b.all (ofKC b) = true) {t : Fm} (hw : t.wf) {G : List Fm} (hG : ∀ a ∈ G, ∃ v, a = wmF v) (h : Sq G t) : vldR b t = true := by
 rw [vld_km b hp t hw]
 intro A hA x hx
 refine h (kmA b hp A hA) ⟨x, hx⟩ fun a ha => ?_
 obtain ⟨v, rfl⟩ := hG a ha
 obtain ⟨m, h1, h2⟩ := kc_top hp hd hx
 exact km_weak (kmA b hp A hA) ⟨x, hx⟩ ⟨m, (hp.lt8 h1).1⟩ (fun u hu => h2 u.1 hu) v
end Go.Proofs.YtikooimokfbffaaGreatDoor
namespace Go.Proofs.YtikooimokfbffaaGreatDoor
open Fm
namespace Fm
def lev : Fm → Nat
 | .imp _ b => if b.isFls then 3 else 0
 | .or _ _ => 1
 | .and _ _ => 2
 | _ => 3
def par (b : Bool) (s : List UInt8) : List UInt8 := if b then 40 :: (s ++ [41]) else s
def body : Fm → List UInt8
 | .var v => [UInt8.ofNat (112 + v)]
 | .fls => [70]
 | .and a b => par (decide (a.lev < 2)) a.body ++ 38 :: par (decide (b.lev < 3)) b.body
 | .or a b => par (decide (a.lev < 1)) a.body ++ 124 :: par (decide (b.lev < 2)) b.body
 | .imp a b => if b.isFls then (if a.isFls then [84] else 126 :: par (decide (a.lev < 3)) a.body) else par (decide (a.lev < 1)) a.body ++ 62 :: b.body
 | .box a => 91 :: 93 :: par (decide (a.lev < 3)) a.body
 | .dia a => 60 :: 62 :: par (decide (a.lev < 3)) a.body
def txt (t : Fm) (l : Nat) : List UInt8 := par (decide (t.lev < l)) t.body
theorem txt0 (t : Fm) : t.txt 0 = t.body := by simp [txt, par]
theorem lev_le (t : Fm) : t.lev ≤ 3 := by
 cases t <;> simp only [lev] <;> (try split) <;> omega
theorem txt_eq (t : Fm) (l m : Nat) (h : t.lev < l ↔ t.lev < m) : t.txt l = t.txt m := by
 unfold txt; rw [show decide (t.lev < l) = decide (t.lev < m) from decide_eq_decide.2 h]
def andHead : Fm → Fm
 | .and a _ => a.andHead
 | t => t
def andTail : Fm → List Fm
 | .and a b => a.andTail ++ [b]
 | _ => []
def orHead : Fm → Fm
 | .or a _ => a.orHead
 | t => t
def orTail : Fm → List Fm
 | .or a b => a.orTail ++ [b]
 | _ => []
def behind (c : UInt8) (l : Nat) : List Fm → List UInt8
 | [] => []
 | x :: xs => c :: (x.txt l ++ behind c l xs)
theorem behind_append (c : UInt8) (l : Nat) (xs ys : List Fm) : behind c l (xs ++ ys) = behind c l xs ++ behind c l ys := by
 induction xs with
 | nil => rfl
 | cons x xs ih => simp [behind, ih]
theorem and_fold (t : Fm) : t.andTail.foldl Fm.and t.andHead = t := by
 induction t with
 | and a b iha _ => simp [andTail, andHead, List.foldl_append, iha]
 | _ => rfl
theorem or_fold (t : Fm) : t.orTail.foldl Fm.or t.orHead = t := by
 induction t with
 | or a b iha _ => simp [orTail, orHead, List.foldl_append, iha]
 | _ => rfl
theorem and_txt (t : Fm) : t.txt 2 = t.andHead.txt 3 ++ behind 38 3 t.andTail := by
 induction t with
 | and a b iha _ =>
  have h : (Fm.and a b).txt 2 = a.txt 2 ++ 38 :: b.txt 3 := by simp [txt, body, par, lev]
  rw [h, iha]
  simp [andTail, andHead, behind_append, behind]
 | var v => simp [andTail, andHead, behind]; exact txt_eq _ _ _ (by simp [lev])
 | fls => simp [andTail, andHead, behind]; exact txt_eq _ _ _ (by simp [lev])
 | or a b _ _ => simp [andTail, andHead, behind]; exact txt_eq _ _ _ (by simp [lev])
 | imp a b _ _ => simp [andTail, andHead, behind]; exact txt_eq _ _ _ (by simp only [lev]; split <;> omega)
 | box a _ => simp [andTail, andHead, behind]; exact txt_eq _ _ _ (by simp [lev])
 | dia a _ => simp [andTail, andHead, behind]; exact txt_eq _ _ _ (by simp [lev])
theorem or_txt (t : Fm) : t.txt 1 = t.orHead.txt 2 ++ behind 124 2 t.orTail := by
 induction t with
 | or a b iha _ =>
  have h : (Fm.or a b).txt 1 = a.txt 1 ++ 124 :: b.txt 2 := by simp [txt, body, par, lev]
  rw [h, iha]
  simp [orTail, orHead, behind_append, behind]
 | var v => simp [orTail, orHead, behind]; exact txt_eq _ _ _ (by simp [lev])
 | fls => simp [orTail, orHead, behind]; exact txt_eq _ _ _ (by simp [lev])
 | and a b _ _ => simp [orTail, orHead, behind]; exact txt_eq _ _ _ (by simp [lev])
 | imp a b _ _ => simp [orTail, orHead, behind]; exact txt_eq _ _ _ (by simp only [lev]; split <;> omega)
 | box a _ => simp [orTail, orHead, behind]; exact txt_eq _ _ _ (by simp [lev])
 | dia a _ => simp [orTail, orHead, behind]; exact txt_eq _ _ _ (by simp [lev])
theorem and_parts (t : Fm) : (t.lev = 2 → ∀ x ∈ t.andHead :: t.andTail, x.enc.length < t.enc.length) ∧ (∀ x ∈ t.andHead :: t.andTail, x.enc.length ≤ t.enc.length) := by
 induction t with
 | and a b iha _ =>
  have h : ∀ x ∈ (Fm.and a b).andHead :: (Fm.and a b).andTail, x.enc.length < (Fm.and a b).enc.length := by
   intro x hx
   simp only [andHead, andTail, List.mem_cons, List.mem_append] at hx
   have := iha.2
   simp only [enc, List.length_cons, List.length_append]
   rcases hx with rfl | hx | rfl | hx
   ·have := this _ (List.mem_cons_self ..); omega
   ·have := this _ (List.mem_cons_of_mem _ hx); omega
   ·omega
   ·cases hx
  exact ⟨fun _ => h, fun x hx => Nat.le_of_lt (h x hx)⟩
 | imp a b _ _ => exact ⟨fun h => by simp only [lev] at h; split at h <;> omega, fun x hx => by simp [andHead, andTail] at hx; subst hx; exact Nat.le_refl _⟩
 | _ => exact ⟨fun h => by simp [lev] at h, fun x hx => by simp [andHead, andTail] at hx; subst hx; exact Nat.le_refl _⟩
theorem or_parts (t : Fm) : (t.lev = 1 → ∀ x ∈ t.orHead :: t.orTail, x.enc.length < t.enc.length) ∧ (∀ x ∈ t.orHead :: t.orTail, x.enc.length ≤ t.enc.length) := by
 induction t with
 | or a b iha _ =>
  have h : ∀ x ∈ (Fm.or a b).orHead :: (Fm.or a b).orTail, x.enc.length < (Fm.or a b).enc.length := by
   intro x hx
   simp only [orHead, orTail, List.mem_cons, List.mem_append] at hx
   have := iha.2
   simp only [enc, List.length_cons, List.length_append]
   rcases hx with rfl | hx | rfl | hx
   ·have := this _ (List.mem_cons_self ..); omega
   ·have := this _ (List.mem_cons_of_mem _ hx); omega
   ·omega
   ·cases hx
  exact ⟨fun _ => h, fun x hx => Nat.le_of_lt (h x hx)⟩
 | imp a b _ _ => exact ⟨fun h => by simp only [lev] at h; split at h <;> omega, fun x hx => by simp [orHead, orTail] at hx; subst hx; exact Nat.le_refl _⟩
 | _ => exact ⟨fun h => by simp [lev] at h, fun x hx => by simp [orHead, orTail] at hx; subst hx; exact Nat.le_refl _⟩
theorem and_wf (t : Fm) (h : t.wf) : ∀ x ∈ t.andHead :: t.andTail, x.wf := by
 induction t with
 | and a b iha _ =>
  intro x hx
  simp only [andHead, andTail, List.mem_cons, List.mem_append] at hx
  have := iha h.1
  rcases hx with rfl | hx | rfl | hx
  ·exact this _ (List.mem_cons_self ..)
  ·exact this _ (List.mem_cons_of_mem _ hx)
  ·exact h.2
  ·cases hx
 | _ => intro x hx; simp [andHead, andTail] at hx; subst hx; exact h
theorem or_wf (t : Fm) (h : t.wf) : ∀ x ∈ t.orHead :: t.orTail, x.wf := by
 induction t with
 | or a b iha _ =>
  intro x hx
  simp only [orHead, orTail, List.mem_cons, List.mem_append] at hx
  have := iha h.1
  rcases hx with rfl | hx | rfl | hx
  ·exact this _ (List.mem_cons_self ..)
  ·exact this _ (List.mem_cons_of_mem _ hx)
  ·exact h.2
  ·cases hx
 | _ => intro x hx; simp [orHead, orTail] at hx; subst hx; exact h
end Fm
theorem reads_all (R : Nat → Fm → List UInt8 → Prop)
  (h3 : ∀ t : Fm, t.wf → t.lev = 3 → (∀ x : Fm, x.wf → x.enc.length < t.enc.length → R 3 x (x.txt 3)) → R 3 t t.body)
  (hp : ∀ t : Fm, R 0 t t.body → R 3 t (40 :: (t.body ++ [41])))
  (h2 : ∀ x0 xs, R 3 x0 (x0.txt 3) → (∀ x ∈ xs, R 3 x (x.txt 3)) → R 2 (xs.foldl Fm.and x0) (x0.txt 3 ++ behind 38 3 xs))
  (h1 : ∀ x0 xs, R 2 x0 (x0.txt 2) → (∀ x ∈ xs, R 2 x (x.txt 2)) → R 1 (xs.foldl Fm.or x0) (x0.txt 2 ++ behind 124 2 xs))
  (h0 : ∀ t X, R 1 t X → R 0 t X)
  (hi : ∀ a b, R 1 a (a.txt 1) → R 0 b b.body → R 0 (Fm.imp a b) (a.txt 1 ++ 62 :: b.body)) :
  ∀ (n : Nat) (t : Fm), t.enc.length ≤ n → t.wf → R 0 t (t.txt 0) ∧ R 1 t (t.txt 1) ∧ R 2 t (t.txt 2) ∧ R 3 t (t.txt 3) := by
 intro n
 induction n with
 | zero => intro t h; have := t.enc_pos; omega
 | succ n ih =>
  intro t hn hw
  have sm : ∀ x : Fm, x.wf → x.enc.length < t.enc.length → R 0 x (x.txt 0) ∧ R 1 x (x.txt 1) ∧ R 2 x (x.txt 2) ∧ R 3 x (x.txt 3) := fun x hx hl => ih x (by omega) hx
  have s2 : (∀ x ∈ t.andHead :: t.andTail, R 3 x (x.txt 3)) → R 2 t (t.txt 2) := fun h => by
   have := h2 t.andHead t.andTail (h _ (List.mem_cons_self ..)) (fun x hx => h x (List.mem_cons_of_mem _ hx))
   rwa [and_fold, ← and_txt] at this
  have s1 : (∀ x ∈ t.orHead :: t.orTail, R 2 x (x.txt 2)) → R 1 t (t.txt 1) := fun h => by
   have := h1 t.orHead t.orTail (h _ (List.mem_cons_self ..)) (fun x hx => h x (List.mem_cons_of_mem _ hx))
   rwa [or_fold, ← or_txt] at this
  have hle := t.lev_le
  have up2 : t.lev ≠ 2 → R 3 t (t.txt 3) → R 2 t (t.txt 2) := fun hl h => by
   apply s2
   intro x hx
   have hx' : x = t := by
    cases t with
    | and a b => exact absurd rfl hl
    | _ => simp [andHead, andTail] at hx; exact hx
   subst hx'; exact h
  have up1 : t.lev ≠ 1 → R 2 t (t.txt 2) → R 1 t (t.txt 1) := fun hl h => by
   apply s1
   intro x hx
   have hx' : x = t := by
    cases t with
    | or a b => exact absurd rfl hl
    | _ => simp [orHead, orTail] at hx; exact hx
   subst hx'; exact h
  have up0 : t.lev ≠ 0 → R 1 t (t.txt 1) → R 0 t (t.txt 0) := fun hl h => by
   rw [txt_eq t 0 1 (by omega)]
   exact h0 _ _ h
  have dn : t.lev < 3 → R 0 t (t.txt 0) → R 3 t (t.txt 3) := fun hl h => by
   rw [txt0] at h
   have := hp t h
   unfold txt par
   rw [decide_eq_true hl]
   simpa using this
  by_cases e3 : t.lev = 3
  ·have r3 : R 3 t (t.txt 3) := by
    have := h3 t hw e3 (fun x hx hl => (sm x hx hl).2.2.2)
    unfold txt par
    rw [decide_eq_false (by omega)]
    simpa using this
   have r2 := up2 (by omega) r3
   have r1 := up1 (by omega) r2
   exact ⟨up0 (by omega) r1, r1, r2, r3⟩
  by_cases e2 : t.lev = 2
  ·have r2 := s2 (fun x hx => (sm x (t.and_wf hw x hx) (t.and_parts.1 e2 x hx)).2.2.2)
   have r1 := up1 (by omega) r2
   have r0 := up0 (by omega) r1
   exact ⟨r0, r1, r2, dn (by omega) r0⟩
  by_cases e1 : t.lev = 1
  ·have r1 := s1 (fun x hx => (sm x (t.or_wf hw x hx) (t.or_parts.1 e1 x hx)).2.2.1)
   have r0 := up0 (by omega) r1
   have r3 := dn (by omega) r0
   exact ⟨r0, r1, up2 (by omega) r3, r3⟩
  ·have r0 : R 0 t (t.txt 0) := by
    have hz : t.lev = 0 := by omega
    cases t with
    | imp a b =>
     have hb : b.isFls = false := by
      simp only [lev] at hz; split at hz
      ·omega
      ·simpa using ‹¬ b.isFls = true›
     have ra := (sm a hw.1 (by simp only [enc, List.length_cons, List.length_append]; omega)).2.1
     have rb := (sm b hw.2 (by simp only [enc, List.length_cons, List.length_append]; omega)).1
     rw [txt0] at rb
     have := hi a b ra rb
     rw [txt0]
     simp only [body, hb]
     simpa [txt] using this
    | _ => simp [lev] at hz
   have r3 := dn (by omega) r0
   have r2 := up2 (by omega) r3
   exact ⟨r0, up1 (by omega) r2, r2, r3⟩
end Go.Proofs.YtikooimokfbffaaGreatDoor
namespace Go.Proofs.YtikooimokfbffaaGreatDoor
open Go.RowKit
def bts (s : ByteArray) : List UInt8 := s.data.toList
def strCells (a : List ByteArray) : List Value := a.map Value.string
theorem strCells_one (a : List ByteArray) : ∀ u ∈ strCells a, u.oneCell' = true := by
 intro u hu; simp [strCells] at hu; obtain ⟨x, _, rfl⟩ := hu; rfl
theorem Strs.at {w : World} {v : Value} {a : List ByteArray} (h : Strs w v a) : ∃ p cap, v = .slice p a.length cap ∧ a.length ≤ cap ∧ cap ≤ maxLen ∧ At w p (strCells a) ∧ a.length ≤ 2147483648 := by
 obtain ⟨p, cap, hv, h1, h2, h3⟩ := h.shape
 subst hv
 refine ⟨p, cap, rfl, h1, h2, fun j hj => ?_, h3⟩
 have hj' : j < a.length := by simpa [strCells] using hj
 obtain ⟨b, off, hp, hc⟩ := h.get j hj'
 exact ⟨b, off, hp, by simpa [strCells] using hc⟩
theorem Strs.ofAt {w : World} {p : Option Addr} {cap : Nat} {a : List ByteArray} (h1 : a.length ≤ cap) (h2 : cap ≤ maxLen) (h : At w p (strCells a)) (h3 : a.length ≤ 2147483648) : Strs w (.slice p a.length cap) a := by
 refine ⟨p, cap, rfl, h1, h2, h3, fun i hi => ?_⟩
 obtain ⟨b, off, hp, hc⟩ := h i (by simpa [strCells] using hi)
 refine ⟨b, off, fun _ => .string a[i], hp, fun c hc' => ?_, rfl⟩
 obtain rfl : c = 0 := by omega
 simpa [strCells] using hc
def OwnS (w : World) (B : Nat) (v : Value) (a : List ByteArray) : Prop := w.ownsRow B 9 1 v a.length (strCells a)
theorem OwnS.strs {w : World} {B : Nat} {v : Value} {a : List ByteArray} (h : OwnS w B v a) (hl : a.length ≤ 2147483648) : Strs w v a := by
 obtain ⟨p, cap, rfl, h2, h3, h4⟩ := At.of_own h
 exact Strs.ofAt h2 h3 h4 hl
theorem OwnS.keeps {w w' : World} {B : Nat} {v : Value} {a : List ByteArray} (h : OwnS w B v a) (k : Keeps w w') : OwnS w' B v a := own_keeps h k
theorem OwnS.mono {w : World} {B B' : Nat} {v : Value} {a : List ByteArray} (h : OwnS w B v a) (k : B' ≤ B) : OwnS w B' v a := own_mono h k
theorem OwnS.nil (w : World) (B : Nat) : OwnS w B (.slice none 0 0) [] := World.ownsRow_nil w B _ 1
theorem OwnS.len {w : World} {B : Nat} {v : Value} {a : List ByteArray} (h : OwnS w B v a) : ∀ k, v.ownBlock = some k → B ≤ k ∧ k < w.heap.size := World.ownsRow.lt h
theorem infoS : (Tryz.prog.info? 9).map (fun i => (i.zero, i.size, i.bytes)) = some (some (.string ⟨#[]⟩), 1, 16) := by kernel_rfl
theorem appSK {w : World} {o : Oper} {a : Act} {K : Act → World → Prop} {Q : Exit → Act → World → Prop} (s x : Operand)
  (ho : o.op = .call { callee := .builtin .append, args := #[s, x], argTypes := #[48, 48] }) (base : Nat) (v : Value) (xs : List ByteArray) (hs : a.eval s = v) (hown : OwnS w base v xs)
  (u : Value) (ys : List ByteArray) (hx : a.eval x = u) (hu : Strs w u ys) (hbase : base ≤ w.heap.size) (hlen : xs.length + ys.length ≤ 2147483648)
  (h : ∀ v' w', OwnS w' base v' (xs ++ ys) → w.grownBy w' v.ownBlock → (∀ k, v.ownBlock = some k → base ≤ k) → K (a.put o.dst v') w') : o.wp Tryz.prog a w K Q := by
 obtain ⟨i0, hi, hz0, hz1, hz2⟩ := info_parts infoS
 obtain ⟨p, cap, rfl, _, _, hat, _⟩ := hu.at
 refine wp_append_at s x _ ho _ i0 _ 1 16 Tryz.underlying48 hi hz0 hz1 hz2 rfl (by decide) base v _ _ hs hown p _ cap _ hx (by simp [strCells]) hat (strCells_one _) (by unfold maxLen; omega) (by omega) hbase ?_
 intro v' w' h1 h2 h3
 refine h v' w' ?_ h2 h3
 unfold OwnS
 rw [List.length_append, show strCells (xs ++ ys) = strCells xs ++ strCells ys by simp [strCells]]
 exact h1
theorem appS {w : World} {ops : Array Oper} {rest : List Oper} {o : Oper} {a : Act} {Q : Exit → Act → World → Prop} (hgd : o.guard = none) (s x : Operand)
  (ho : o.op = .call { callee := .builtin .append, args := #[s, x], argTypes := #[48, 48] }) (base : Nat) (v : Value) (xs : List ByteArray) (hs : a.eval s = v) (hown : OwnS w base v xs)
  (u : Value) (ys : List ByteArray) (hx : a.eval x = u) (hu : Strs w u ys) (hbase : base ≤ w.heap.size) (hlen : xs.length + ys.length ≤ 2147483648)
  (h : ∀ v' w', OwnS w' base v' (xs ++ ys) → w.grownBy w' v.ownBlock → (∀ k, v.ownBlock = some k → base ≤ k) → wpList Tryz.prog ops Q rest (a.put o.dst v') w') : wpList Tryz.prog ops Q (o :: rest) a w :=
 wpList_plain hgd fun _ hK => appSK s x ho base v xs hs hown u ys hx hu hbase hlen fun v' w' h1 h2 h3 => hK _ _ (h v' w' h1 h2 h3)
theorem Strs.lit1 (w : World) (s : ByteArray) : Strs (w.alloc (.cells #[.string s] 9)) (.slice (some ⟨w.heap.size, 0, none⟩) 1 1) [s] := Strs.lit (w := w) [s] (by simp)
theorem Strs.lit2 (w : World) (s t : ByteArray) : Strs (w.alloc (.cells #[.string s, .string t] 9)) (.slice (some ⟨w.heap.size, 0, none⟩) 2 2) [s, t] := Strs.lit (w := w) [s, t] (by simp)
theorem bts_inj {s t : ByteArray} (h : bts s = bts t) : s = t := by
 cases s; cases t
 unfold bts at h
 congr 1
 exact Array.toList_inj.1 h
theorem At.drop {w : World} {b off : Nat} {vs : List Value} (h : At w (some ⟨b, off, none⟩) vs) (i : Nat) {o : Nat} (ho : o = off + i) : At w (some ⟨b, o, none⟩) (vs.drop i) := fun j hj => by
 subst ho
 simp at hj
 obtain ⟨b', off', hp, hc⟩ := h (i + j) (by omega)
 cases hp
 exact ⟨b, _, rfl, by rw [Nat.add_assoc, hc]; simp⟩
end Go.Proofs.YtikooimokfbffaaGreatDoor
namespace Go.Proofs.YtikooimokfbffaaGreatDoor
open Go.RowKit
structure RdAt (w : World) (r : Nat) (s : ByteArray) (i : Nat) (bad : Bool) : Prop where
 c0 : w.cell? ⟨r, 0, none⟩ = some (.string s)
 c1 : w.cell? ⟨r, 1, none⟩ = some (.int .i64 i)
 c2 : w.cell? ⟨r, 2, none⟩ = some (.bool bad)
 f1 : w.frozen? ⟨r, 1, none⟩ = false
 f2 : w.frozen? ⟨r, 2, none⟩ = false
 le : i ≤ s.size
 sz : s.size ≤ 2147483648
theorem RdAt.lt {w : World} {r : Nat} {s : ByteArray} {i : Nat} {bad : Bool} (h : RdAt w r s i bad) : r < w.heap.size := World.block_lt_of_cell? _ _ h.c0
theorem RdAt.keeps {w w' : World} {r : Nat} {s : ByteArray} {i : Nat} {bad : Bool} (h : RdAt w r s i bad) (k : Keeps w w') : RdAt w' r s i bad := by
 have hl := h.lt
 obtain ⟨kc, kf⟩ := k.both
 exact ⟨k.cell h.c0, k.cell h.c1, k.cell h.c2, (kf _ _ hl).trans h.f1, (kf _ _ hl).trans h.f2, h.le, h.sz⟩
def stops (l : Nat) (r : List UInt8) : Prop := (l ≤ 2 → r.head? ≠ some 38) ∧ (l ≤ 1 → r.head? ≠ some 124) ∧ (l = 0 → r.head? ≠ some 62)
theorem stops.up {l m : Nat} {r : List UInt8} (h : stops l r) (k : l ≤ m) : stops m r := ⟨fun e => h.1 (by omega), fun e => h.2.1 (by omega), fun e => h.2.2 (by omega)⟩
theorem stops3 (r : List UInt8) : stops 3 r := ⟨fun e => by omega, fun e => by omega, fun e => by omega⟩
def RetRd (w : World) (r : Nat) (s : ByteArray) (j : Nat) (a : List Nd) (e : Ending) (w' : World) : Prop :=
 ∃ v, e = .returned v ∧ OwnN w' w.heap.size v a ∧ RdAt w' r s j false ∧ w.grownBy w' (some r)
def Reads (f : FuncId) (l : Nat) (t : Fm) (X : List UInt8) : Prop :=
 ∀ (w : World) (r : Nat) (s : ByteArray) (i : Nat) (rest : List UInt8), RdAt w r s i false → (bts s).drop i = X ++ rest → stops l rest → t.enc.length ≤ 100000000 →
  Calls Tryz.prog f #[.pointer (some ⟨r, 0, none⟩)] w (RetRd w r s (i + X.length) t.enc)
theorem bts_head {s : ByteArray} {i : Nat} {b : UInt8} {l : List UInt8} (h : (bts s).drop i = b :: l) : ∃ hi : i < s.size, s[i] = b ∧ (bts s).drop (i + 1) = l := by
 have hl : i < (bts s).length := by
  rcases Nat.lt_or_ge i (bts s).length with h' | h'
  ·exact h'
  ·rw [List.drop_eq_nil_of_le h'] at h; cases h
 have hs : (bts s).length = s.size := by show s.data.toList.length = s.data.size; simp
 rw [List.drop_eq_getElem_cons hl] at h
 injection h with h1 h2
 exact ⟨by omega, by rw [← h1]; simp [bts]; rfl, h2⟩
theorem bts_end {s : ByteArray} {i : Nat} (hi : i ≤ s.size) (h : (bts s).drop i = []) : i = s.size := by
 have hs : (bts s).length = s.size := by show s.data.toList.length = s.data.size; simp
 have := List.drop_eq_nil_iff.1 h
 omega
theorem drop_more {s : ByteArray} {i : Nat} {X Y : List UInt8} (h : (bts s).drop i = X ++ Y) : (bts s).drop (i + X.length) = Y := by
 rw [← List.drop_drop, h, List.drop_left]
theorem fold_and_len (ys : List Fm) : ∀ a : Fm, a.enc.length ≤ (ys.foldl Fm.and a).enc.length := by
 induction ys with
 | nil => intro a; exact Nat.le_refl _
 | cons y ys ih => intro a; have := ih (Fm.and a y); simp only [List.foldl_cons, Fm.enc, List.length_cons, List.length_append] at *; omega
theorem fold_or_len (ys : List Fm) : ∀ a : Fm, a.enc.length ≤ (ys.foldl Fm.or a).enc.length := by
 induction ys with
 | nil => intro a; exact Nat.le_refl _
 | cons y ys ih => intro a; have := ih (Fm.or a y); simp only [List.foldl_cons, Fm.enc, List.length_cons, List.length_append] at *; omega
theorem OwnN.grown {w w' : World} {B r : Nat} {v : Value} {x : List Nd} (h : OwnN w B v x) (k : w.grownBy w' (some r)) (hr : r < B) : OwnN w' B v x := by
 refine ⟨h.1, ?_⟩
 rcases h.2 with hn | ⟨g, cap, cur, rfl, hb, hgg, rest⟩
 ·exact .inl hn
 ·exact .inr ⟨g, cap, cur, rfl, hb, (k.block g (Array.getElem?_eq_some_iff.1 hgg).1 (fun e => by cases e; omega)).trans hgg, rest⟩
theorem grown_keeps {w w1 w2 : World} {row : Option Nat} (h : w.grownBy w1 row) (k : Keeps w1 w2) : w.grownBy w2 row :=
 ⟨k.os.trans h.os, k.tape.trans h.tape, k.output.trans h.output, Nat.le_trans h.size k.size, fun i hi hr => (k.block (Nat.lt_of_lt_of_le hi h.size)).trans (h.block i hi hr)⟩
end Go.Proofs.YtikooimokfbffaaGreatDoor
