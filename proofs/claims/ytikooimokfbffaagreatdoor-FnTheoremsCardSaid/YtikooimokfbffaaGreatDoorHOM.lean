import Derived.Test.YtikooimokfbffaaGreatDoorHOG
/- The program: a relation that is numbered anew. -/
namespace Go.Proofs.YtikooimokfbffaaGreatDoor
open Go.RowKit
def outM (F : Nat → Nat) (n i z : Nat) : List Nat := (List.range n).map fun j => if j < i then F j else if j = i then z else 0
theorem outM_len (F : Nat → Nat) (n i z : Nat) : (outM F n i z).length = n := by simp [outM]
theorem outM_get (F : Nat → Nat) (n i z j : Nat) (h : j < n) : (outM F n i z).getD j 0 = if j < i then F j else if j = i then z else 0 := by simp [outM, List.getD_eq_getElem?_getD, h]
theorem outM_start (F : Nat → Nat) (n : Nat) : outM F n 0 0 = List.replicate n 0 := by
 refine List.ext_getElem (by simp [outM]) fun i h1 h2 => ?_
 simp [outM]
theorem outM_set (F : Nat → Nat) (n i z y : Nat) : (outM F n i z).set i y = outM F n i y := by
 refine List.ext_getElem (by simp [outM]) fun j h1 h2 => ?_
 rw [List.getElem_set]
 simp only [outM, List.getElem_map, List.getElem_range]
 by_cases e : i = j
 ·subst e; simp
 ·rw [if_neg e, if_neg (Ne.symm e), if_neg (Ne.symm e)]
theorem outM_next (F : Nat → Nat) (n i : Nat) : outM F n i (F i) = outM F n (i + 1) 0 := by
 unfold outM
 refine List.map_congr_left fun j _ => ?_
 by_cases h1 : j < i
 ·rw [if_pos h1, if_pos (by omega)]
 ·by_cases h2 : j = i
  ·subst h2; rw [if_neg h1, if_pos rfl, if_pos (by omega)]
  ·rw [if_neg h1, if_neg h2, if_neg (by omega)]; simp
theorem outM_end (a o : List Nat) (F : Nat → Nat) (hF : ∀ j, F j = orP (toP o.length o o.length) (memB (a.getD (o.getD j 0) 0))) : outM F o.length o.length 0 = renQ a o := by
 unfold outM renQ
 refine List.ext_getElem (by simp) fun j h1 h2 => ?_
 have hj : j < o.length := by simpa using h1
 simp only [List.getElem_map, List.getElem_range]
 rw [if_pos hj, hF, getD_get hj]
theorem OwnI.other {w w' : World} {B g g' n c : Nat} {x : List Int} (h : OwnI w B (.slice (some ⟨g, 0, none⟩) n c) x) (k : w.grownBy w' (some g')) (hne : g ≠ g') : OwnI w' B (.slice (some ⟨g, 0, none⟩) n c) x :=
 h.touch (Touch.grown k) (fun i hi e => by
  have h1 : g = i := by simpa [Value.ownBlock] using hi
  have h2 : i = g' := by simpa using e
  omega)
theorem OwnI.zcell {w : World} {B g n cap : Nat} {l : List Nat} (h : OwnI w B (.slice (some ⟨g, 0, none⟩) n cap) (zs l)) (i : Nat) (hi : i < l.length) :
  w.cell? ⟨g, i, none⟩ = some (.int .i64 (l.getD i 0 : Nat)) ∧ w.frozen? ⟨g, i, none⟩ = false := by
 obtain ⟨c, f⟩ := h.cell i (by rw [zs_length]; exact hi)
 rw [zs_get, ← getD_get hi] at c
 exact ⟨c, f⟩
set_option maxRecDepth 20000 in
set_option maxHeartbeats 2000000 in
theorem reordered_any (a o : List Nat) (va vo : Value) (w : World) (hva : Ints w va (zs a)) (hvo : Ints w vo (zs o)) (hn8 : o.length ≤ 8) (hal : a.length = o.length) (hlo : ∀ x ∈ o, x < o.length) (hab : Bnd o.length a) :
  Calls Tryz.prog 140 #[va, vo] w (RetI w (zs (renQ a o))) := by
 have h256 := two8 hn8
 have hva0 := hva
 have hvo0 := hvo
 obtain ⟨p, cap, rfl, _, hmx, _, _⟩ := hva
 obtain ⟨q, cap2, rfl, _, hmx2, _, _⟩ := hvo
 unfold maxLen at hmx hmx2
 rw [zs_length a] at *
 rw [zs_length o] at *
 have HVA := hid (fun i (hi : i < a.length) wr (k : Keeps w wr) => (hva0.keeps k).zs_cell i hi)
 clear hva0
 rw [hal] at *
 clear hal
 obtain ⟨wm, hmk, hown0, km⟩ := run_makeI w o.length (by omega)
 rw [← zs_rep] at hown0
 have hT : Hid (∀ i, toP o.length o (i + 1) = (toP o.length o i).set (o.getD i 0) i) := hid fun _ => rfl
 have hTl : ∀ i, (toP o.length o i).length = o.length := toP_len _ _
 have hTb : Hid (∀ j, (toP o.length o o.length).getD j 0 ≤ 8) := hid fun j => Nat.le_trans (toP_le _ _ _ j) hn8
 have HT0 : Hid (toP o.length o 0 = List.replicate o.length 0) := hid rfl
 rw [← HT0.out] at hown0
 clear HT0
 obtain ⟨F, hF⟩ : ∃ F : Nat → Nat, ∀ j, F j = orP (toP o.length o o.length) (memB (a.getD (o.getD j 0) 0)) := ⟨_, fun _ => rfl⟩
 have HEND := hid (outM_end a o F hF)
 have HF := hid hF; clear hF
 have HLO : Hid (∀ i, i < o.length → o.getD i 0 < o.length) := hid fun i hi => by rw [getD_get hi]; exact hlo _ (List.getElem_mem hi)
 clear hlo
 have HVO := hid (fun i (hi : i < o.length) wr (k : Keeps w wr) => (hvo0.keeps k).zs_cell i hi)
 clear hvo0
 generalize renQ a o = R at *
 have HO0 := hid hown0; clear hown0
 have KM := hid km; clear km
 have HTL := hid hTl; clear hTl
 generalize hT2 : toP o.length o = T at *
 clear hT2
 generalize hn : o.length = n at *
 have HN := hid hn; clear hn
 obtain ⟨O, hO⟩ : ∃ O : Nat → Nat, ∀ i, O i = o.getD i 0 := ⟨fun i => o.getD i 0, fun _ => rfl⟩
 obtain ⟨A, hA⟩ : ∃ A : Nat → Nat, ∀ i, A i = a.getD i 0 := ⟨fun i => a.getD i 0, fun _ => rfl⟩
 have HAB : Hid (∀ i, A i < 2 ^ n) := hid fun i => by rw [hA]; exact hab i
 simp only [← hO] at hT HLO HVO HF
 simp only [← hA] at HVA HF
 clear hO hA hab
 go_enter Tryz.func140, Tryz.ntmps140
 go_wp2
 clear hmk
 go_loopw [18] (fun i' wr => ∃ i : Nat, i ≤ n ∧ i' = .int .i64 i ∧ OwnI wr w.heap.size (.slice (some ⟨w.heap.size, 0, none⟩) n n) (zs (T i)) ∧ Keeps w wr) (fun i' _ => n - (intOf i').toNat)
 case atStart => exact ⟨0, by omega, rfl, HO0.out, KM.out⟩
 case round =>
  obtain ⟨i, hi, rfl, hown, kw⟩ := hrel
  clear HO0 KM
  by_cases hlt : i < n
  ·have hlt' : (i : Int) < n := by omega
   obtain ⟨b1, o1, rfl, h1⟩ := HVO.out i hlt wr kw
   have hx := HLO.out i hlt
   have hx' : (O i : Int) < n := by omega
   have hti := HTL.out i
   obtain ⟨old, ci⟩ : ∃ old, wr.cell? ⟨w.heap.size, O i, none⟩ = some old := ⟨_, (hown.cell (O i) (by rw [zs_length, hti]; exact hx)).1⟩
   have fi := (hown.cell (O i) (by rw [zs_length, hti]; exact hx)).2
   have hst := hown.store (O i) (by rw [zs_length, hti]; exact hx) (i : Int)
   rw [← zs_set, ← hT.out] at hst
   have HST := hid hst; clear hst
   have KW := hid kw; clear kw
   clear hown hti
   generalize O i = x at *
   go_wp2_with fail
   go_roundw
   case rel => exact ⟨i + 1, by omega, by go_num, HST.out.1, KW.out.grown HST.out.2 (fun k hk => by cases hk; simp)⟩
   case measure => simp [intOf]; omega
  ·have e : n = i := by omega
   subst e
   have hlt' : ¬ (n : Int) < n := by omega
   obtain ⟨wm, hmk, hown2, km⟩ := run_makeI wr n (by omega)
   rw [← zs_rep, ← outM_start F] at hown2
   have hto := hown.keeps km
   have hsz := (hown.len _ rfl).2
   have KM := hid (kw.trans km); clear km kw
   have HO := hid hto; clear hto hown
   have HO2 := hid hown2; clear hown2
   have HTL2 := HTL.out n
   generalize T n = Z at *
   generalize hB : wr.heap.size = B at *
   have HB := hid hB; clear hB
   go_wp2
   clear hmk
   go_loopw [33] (fun i' wr => ∃ j : Nat, j ≤ n ∧ i' = .int .i64 j ∧ OwnI wr w.heap.size (.slice (some ⟨w.heap.size, 0, none⟩) n n) (zs Z) ∧ OwnI wr w.heap.size (.slice (some ⟨B, 0, none⟩) n n) (zs (outM F n j 0)) ∧ Keeps w wr) (fun i' _ => n - (intOf i').toNat)
   case atStart => exact ⟨0, by omega, rfl, HO.out, HO2.out.mono (by omega), KM.out⟩
   case round =>
    obtain ⟨j, hj, rfl, hto, hown, kw⟩ := hrel
    clear HO HO2 KM
    by_cases hlt : j < n
    ·have hlt' : (j : Int) < n := by omega
     have hx := HLO.out j hlt
     have hx' : (O j : Int) < n := by omega
     obtain ⟨b1, o1, e1, h1⟩ := HVO.out j hlt wr kw
     obtain ⟨b2, o2, e2, h2⟩ := HVA.out (O j) hx wr kw
     subst e1 e2
     have hax := HAB.out (O j)
     have HFJ := hid (HF.out j)
     generalize O j = x at *
     have HM := hid (fun w2 => membersB_any (A x) w2 (by omega))
     have HL := hid (fun y (h : y ∈ memB (A x)) => memB_lt hax h)
     have hml : (memB (A x)).length ≤ 8 := lowB_len _ 8
     generalize memB (A x) = l at *
     generalize A x = ax at *
     go_wp2_with fail
     refine (HM.out _).mono ?_; rintro e w2 ⟨v2, rfl, hv2, k2⟩
     obtain ⟨p2, c2, rfl, _, hm2, _, _⟩ := hv2.ints (by rw [zs_length]; omega)
     unfold maxLen at hm2
     rw [zs_length] at *
     have hBs := (hown.len _ rfl).2
     have HTO := hid (hto.keeps k2); clear hto
     have HO := hid (hown.keeps k2); clear hown
     have KW := hid (kw.trans k2); clear kw
     have HV2 := hid hv2; clear hv2
     generalize hB0 : wr.heap.size = B0 at *
     have HB0 := hid hB0; clear hB0
     clear h1 h2
     go_wp2
     go_loopw [44] (fun t' wr' => ∃ t : Nat, t ≤ l.length ∧ t' = .int .i64 t ∧ OwnI wr' w.heap.size (.slice (some ⟨w.heap.size, 0, none⟩) n n) (zs Z) ∧ OwnI wr' w.heap.size (.slice (some ⟨B, 0, none⟩) n n) (zs (outM F n j (orP Z (l.take t)))) ∧ Keeps w wr' ∧ OwnI wr' B0 (.slice p2 l.length c2) (zs l)) (fun t' _ => l.length - (intOf t').toNat)
     case atStart => exact ⟨0, by omega, rfl, HTO.out, HO.out, KW.out, HV2.out⟩
     case round =>
      obtain ⟨t, ht, rfl, hto, hown, kw, hl2⟩ := hrel
      clear HO KW HV2 HTO
      by_cases htl : t < l.length
      ·have htl' : (t : Int) < l.length := by omega
       obtain ⟨b3, o3, e3, h3⟩ := (hl2.ints (by rw [zs_length]; omega)).zs_cell t htl
       subst e3
       have hy := HL.out l[t] (List.getElem_mem htl)
       rw [getD_get htl] at h3
       have hZy := hTb.out l[t]
       obtain ⟨cz, _⟩ := hto.zcell l[t] (by rw [HTL2]; exact hy)
       have hsn := orP_snoc Z (l.take t) l[t]
       rw [← List.take_succ_eq_append_getElem htl] at hsn
       have HSN := hid hsn; clear hsn
       have hol := outM_len F n j (orP Z (l.take t))
       have hog := outM_get F n j (orP Z (l.take t)) j hlt
       rw [if_neg (by omega), if_pos rfl] at hog
       obtain ⟨ci, fi⟩ := hown.zcell j (by rw [hol]; exact hlt)
       rw [hog] at ci
       have hlz : orP Z (l.take t) < 2 ^ 9 := orP_lt (fun k => by have := hTb.out k; omega) _
       have hstt := outM_set F n j (orP Z (l.take t))
       generalize l[t] = y at *
       generalize hz : Z.getD y 0 = z at *
       have e1 := (pow63 z (by omega)).1
       have e2 : ((2 ^ z : Nat) : Int) = 2 ^ z := by push_cast; rfl
       have h2z : 2 ^ z < 2 ^ 9 := Nat.pow_lt_pow_right (by omega) (by omega)
       have hor := orN (orP Z (l.take t)) (2 ^ z) (by omega) (by omega)
       rw [e2] at hor
       have hst := OwnI.store (hown.keeps (Keeps.refl wr).drew) j (by rw [zs_length, hol]; exact hlt) ((orP Z (l.take t) ||| 2 ^ z : Nat) : Int)
       rw [← zs_set, hstt] at hst
       have HST := hid hst; clear hst
       have HTO := hid ((hto.keeps (Keeps.refl wr).drew).other HST.out.2 (by omega))
       have HL3 := hid ((hl2.keeps (Keeps.refl wr).drew).setBelow (b := B) (o := j) (by omega) (.int .i64 ((orP Z (l.take t) ||| 2 ^ z : Nat) : Int)))
       have KW := hid kw; clear kw
       have hy' : (y : Int) < n := by omega
       clear hl2 hown e2 hto hol hog hz hstt
       generalize orP Z (l.take t) = s at *
       go_wp2_with fail
       go_region
       go_wp2
       go_roundw
       case rel => exact ⟨t + 1, by omega, by go_num, by first | exact HTO.out | (rw [hor]; exact HTO.out), by rw [HSN.out]; first | exact HST.out.1 | (rw [hor]; exact HST.out.1), by first | exact (Keeps.drew KW.out).grown HST.out.2 (fun k hk => by cases hk; omega) | (rw [hor]; exact (Keeps.drew KW.out).grown HST.out.2 (fun k hk => by cases hk; omega)), by first | exact HL3.out | (rw [hor]; exact HL3.out)⟩
       case measure => simp [intOf]; omega
      ·have htl' : ¬ (t : Int) < l.length := by omega
       rw [List.take_of_length_le (by omega), ← HFJ.out, outM_next] at hown
       go_wp2_with fail
       go_roundw
       case rel => exact ⟨j + 1, by omega, by go_num, hto, hown, kw⟩
       case measure => simp [intOf]; omega
    ·obtain rfl : j = n := by omega
     have hlt' : ¬ (j : Int) < j := by omega
     go_wp2_with fail
     go_ret
     exact ⟨_, rfl, by rw [← HEND.out]; exact hown, kw⟩
end Go.Proofs.YtikooimokfbffaaGreatDoor
namespace Go.Proofs.YtikooimokfbffaaGreatDoor
open Go.RowKit
theorem cmpL_step (x y : Nat) (a b : List Nat) : cmpL (x :: a) (y :: b) = if x < y then -1 else if y < x then 1 else cmpL a b := by
 unfold cmpL
 rw [lessL]
 by_cases h : x = y
 ·subst h
  simp
 ·rw [if_neg h]
  by_cases h1 : x < y
  ·simp [h1]
  ·have h2 : y < x := by omega
   simp [h1, h2, h]
theorem cmpL_nil : cmpL [] [] = 0 := by simp [cmpL, lessL]
theorem cmpL_nl (y : Nat) (b : List Nat) : cmpL [] (y :: b) = -1 := by simp [cmpL, lessL]
theorem cmpL_nr (x : Nat) (a : List Nat) : cmpL (x :: a) [] = 1 := by simp [cmpL, lessL]
theorem cmpL_drop (a b : List Nat) (i : Nat) (ha : i < a.length) (hb : i < b.length) : cmpL (a.drop i) (b.drop i) = if a.getD i 0 < b.getD i 0 then -1 else if b.getD i 0 < a.getD i 0 then 1 else cmpL (a.drop (i + 1)) (b.drop (i + 1)) := by
 rw [List.drop_eq_getElem_cons ha, List.drop_eq_getElem_cons hb, cmpL_step, getD_get ha, getD_get hb]
theorem isNaN64_any (x : Int) (w : World) : Calls Tryz.prog 226 #[.int .i64 x] w fun e w' => e = .returned (.bool false) ∧ w = w' := by
 have h : (x != x) = false := by simp
 go_enter Tryz.func226, Tryz.ntmps226
 go_wp2_with fail
 go_ret
 exact ⟨rfl, rfl⟩
theorem compare64_any (x y : Int) (w : World) : Calls Tryz.prog 145 #[.int .i64 x, .int .i64 y] w fun e w' => e = .returned (.int .i64 (if x < y then -1 else if y < x then 1 else 0)) ∧ w = w' := by
 have HN := hid (fun z => isNaN64_any z w)
 by_cases h1 : x < y
 ·rw [if_pos h1]
  go_enter Tryz.func145, Tryz.ntmps145
  go_wp2_with (go_at_call 226; refine (HN.out _).mono ?_; rintro e w' ⟨rfl, rfl⟩)
  go_ret
  exact ⟨rfl, rfl⟩
 ·rw [if_neg h1]
  by_cases h2 : y < x
  ·rw [if_pos h2]
   have h3 : x > y := h2
   go_enter Tryz.func145, Tryz.ntmps145
   go_wp2_with (go_at_call 226; refine (HN.out _).mono ?_; rintro e w' ⟨rfl, rfl⟩)
   go_ret
   exact ⟨rfl, rfl⟩
  ·rw [if_neg h2]
   have h3 : ¬ x > y := h2
   go_enter Tryz.func145, Tryz.ntmps145
   go_wp2_with (go_at_call 226; refine (HN.out _).mono ?_; rintro e w' ⟨rfl, rfl⟩)
   go_ret
   exact ⟨rfl, rfl⟩
set_option maxRecDepth 20000 in
set_option maxHeartbeats 1000000 in
theorem compareI_any (a b : List Nat) (va vb : Value) (w : World) (hva : Ints w va (zs a)) (hvb : Ints w vb (zs b)) :
  Calls Tryz.prog 141 #[va, vb] w fun e w' => e = .returned (.int .i64 (cmpL a b)) ∧ w = w' := by
 have hva0 := hva
 have hvb0 := hvb
 obtain ⟨p, cap, rfl, _, hmx, _, hl1⟩ := hva
 obtain ⟨q, cap2, rfl, _, hmx2, _, hl2⟩ := hvb
 unfold maxLen at hmx hmx2
 rw [zs_length a] at *
 rw [zs_length b] at *
 have HA := hid (fun i (hi : i < a.length) => hva0.zs_cell i hi)
 have HB := hid (fun i (hi : i < b.length) => hvb0.zs_cell i hi)
 clear hva0 hvb0
 have HD := hid (cmpL_drop a b)
 have HE1 : Hid (a.length < b.length → cmpL (a.drop a.length) (b.drop a.length) = -1) := hid fun h => by
  rw [List.drop_length, List.drop_eq_getElem_cons h, cmpL_nl]
 have HE2 : Hid (a.length = b.length → cmpL (a.drop a.length) (b.drop a.length) = 0) := hid fun h => by
  rw [List.drop_length, h, List.drop_length, cmpL_nil]
 have HE3 : Hid (∀ i, i < a.length → b.length = i → cmpL (a.drop i) (b.drop i) = 1) := hid fun i h e => by
  subst e
  rw [List.drop_length, List.drop_eq_getElem_cons h, cmpL_nr]
 have hst : cmpL a b = cmpL (a.drop 0) (b.drop 0) := rfl
 rw [hst]
 clear hst
 obtain ⟨D, hD⟩ : ∃ D : Nat → Int, ∀ i, D i = cmpL (a.drop i) (b.drop i) := ⟨fun i => cmpL (a.drop i) (b.drop i), fun _ => rfl⟩
 obtain ⟨A, hA⟩ : ∃ A : Nat → Nat, ∀ i, A i = a.getD i 0 := ⟨fun i => a.getD i 0, fun _ => rfl⟩
 obtain ⟨B, hB⟩ : ∃ B : Nat → Nat, ∀ i, B i = b.getD i 0 := ⟨fun i => b.getD i 0, fun _ => rfl⟩
 simp only [← hD, ← hA, ← hB] at *
 clear hD hA hB
 have HC := hid (fun x y => compare64_any x y w)
 generalize a.length = n at *
 generalize b.length = m at *
 go_enter Tryz.func141, Tryz.ntmps141
 go_wp2_with fail
 go_loopw [11] (fun i' wr => ∃ i : Nat, i ≤ n ∧ i ≤ m ∧ i' = .int .i64 i ∧ Hid (D i = D 0) ∧ w = wr) (fun i' _ => n - (intOf i').toNat)
 case atStart => exact ⟨0, by omega, by omega, rfl, hid rfl, rfl⟩
 case round =>
  obtain ⟨i, hi, hi2, rfl, HI, rfl⟩ := hrel
  by_cases hlt : i < n
  ·have hlt' : (i : Int) < n := by omega
   obtain ⟨b1, o1, rfl, h1⟩ := HA.out i hlt
   by_cases hlm : i < m
   ·have hlm' : ¬ ((i : Int) ≥ m) := by omega
    have hlm2 : (i : Int) < m := by omega
    obtain ⟨b2, o2, rfl, h2⟩ := HB.out i hlm
    have hd := HD.out i hlt hlm
    have HCC := hid (HC.out (A i) (B i))
    by_cases hx : A i < B i
    ·rw [if_pos hx] at hd
     have h5 : ((A i : Nat) : Int) < (B i : Nat) := by omega
     rw [if_pos h5] at HCC
     have HX := hid hd; clear hd
     clear hx h5
     generalize A i = x at *
     generalize B i = y at *
     go_wp2_with fail
     refine HCC.out.mono ?_; rintro e w' ⟨rfl, rfl⟩
     go_wp2_with fail
     go_ret
     exact ⟨ret_int (by rw [← HI.out, HX.out]), rfl⟩
    ·rw [if_neg hx] at hd
     have h5 : ¬ ((A i : Nat) : Int) < (B i : Nat) := by omega
     rw [if_neg h5] at HCC
     by_cases hy : B i < A i
     ·rw [if_pos hy] at hd
      have h6 : ((B i : Nat) : Int) < (A i : Nat) := by omega
      rw [if_pos h6] at HCC
      have HX := hid hd; clear hd
      clear hx h5 hy h6
      generalize A i = x at *
      generalize B i = y at *
      go_wp2_with fail
      refine HCC.out.mono ?_; rintro e w' ⟨rfl, rfl⟩
      go_wp2_with fail
      go_ret
      exact ⟨ret_int (by rw [← HI.out, HX.out]), rfl⟩
     ·rw [if_neg hy] at hd
      have h6 : ¬ ((B i : Nat) : Int) < (A i : Nat) := by omega
      rw [if_neg h6] at HCC
      have HX := hid hd; clear hd
      clear hx h5 hy h6
      generalize A i = x at *
      generalize B i = y at *
      go_wp2_with fail
      refine HCC.out.mono ?_; rintro e w' ⟨rfl, rfl⟩
      go_wp2_with fail
      go_roundw
      case rel => exact ⟨i + 1, by omega, by omega, by go_num, hid (by rw [← HX.out]; exact HI.out), trivial⟩
      case measure => simp [intOf]; omega
   ·have hlm' : (i : Int) ≥ m := by omega
    have HX := hid (HE3.out i hlt (by omega))
    go_wp2_with fail
    go_ret
    exact ⟨ret_int (by rw [← HI.out, HX.out]), rfl⟩
  ·have e : n = i := by omega
   subst e
   have hlt' : ¬ (n : Int) < n := by omega
   by_cases hlm : n < m
   ·have hlm' : (n : Int) < m := by omega
    have HX := hid (HE1.out hlm)
    go_wp2_with fail
    go_ret
    exact ⟨ret_int (by rw [← HI.out, HX.out]), rfl⟩
   ·have hlm' : ¬ (n : Int) < m := by omega
    have HX := hid (HE2.out (by omega))
    go_wp2_with fail
    go_ret
    exact ⟨ret_int (by rw [← HI.out, HX.out]), rfl⟩
end Go.Proofs.YtikooimokfbffaaGreatDoor
namespace Go.Proofs.YtikooimokfbffaaGreatDoor
open Go.RowKit
structure PNe (g go gn gf gg ga gb : Nat) : Prop where
 h1 : go ≠ gn
 h2 : go ≠ gf
 h3 : go ≠ gg
 h4 : go ≠ ga
 h5 : go ≠ gb
 h6 : go ≠ g
 h7 : gb ≠ gn
 h8 : gb ≠ gf
 h9 : gb ≠ gg
 h10 : gb ≠ ga
 h11 : gb ≠ g
 h12 : g ≠ gn
 h13 : g ≠ gf
 h14 : g ≠ gg
 h15 : g ≠ ga
def PBox (g go gn gf gg ga gb k : Nat) : Prop := k = g ∨ k = go ∨ k = gn ∨ k = gf ∨ k = gg ∨ k = ga ∨ k = gb
structure PSt (w0 w : World) (g go gn gf gg ga gb n : Nat) (va : Value) (o best : List Nat) (vb : Value) : Prop where
 kp : Keeps w0 w
 co : w.cell? ⟨go, 0, none⟩ = some (.slice (some ⟨g, 0, none⟩) o.length n)
 fo : w.frozen? ⟨go, 0, none⟩ = false
 cn : w.cell? ⟨gn, 0, none⟩ = some (.int .i64 n)
 cf : w.cell? ⟨gf, 0, none⟩ = some (.func (.func 139) #[] #[.pointer (some ⟨ga, 0, none⟩), .pointer (some ⟨gb, 0, none⟩)])
 cg : w.cell? ⟨gg, 0, none⟩ = some (.func (.func 215) #[] #[.pointer (some ⟨go, 0, none⟩), .pointer (some ⟨gn, 0, none⟩), .pointer (some ⟨gf, 0, none⟩), .pointer (some ⟨gg, 0, none⟩)])
 ca : w.cell? ⟨ga, 0, none⟩ = some va
 cb : w.cell? ⟨gb, 0, none⟩ = some vb
 fb : w.frozen? ⟨gb, 0, none⟩ = false
 row : OwnI w w0.heap.size (.slice (some ⟨g, 0, none⟩) o.length n) (zs o)
 bst : OwnI w w0.heap.size vb (zs best)
 off : ∀ k, vb.ownBlock = some k → ¬ PBox g go gn gf gg ga gb k
theorem PSt.keeps {w0 w w' : World} {g go gn gf gg ga gb n : Nat} {va : Value} {o best : List Nat} {vb : Value} (h : PSt w0 w g go gn gf gg ga gb n va o best vb) (k : Keeps w w') : PSt w0 w' g go gn gf gg ga gb n va o best vb where
 kp := h.kp.trans k
 co := k.cell h.co
 fo := by rw [(k.both).2 go 0 (World.block_lt_of_cell? _ _ h.co)]; exact h.fo
 cn := k.cell h.cn
 cf := k.cell h.cf
 cg := k.cell h.cg
 ca := k.cell h.ca
 cb := k.cell h.cb
 fb := by rw [(k.both).2 gb 0 (World.block_lt_of_cell? _ _ h.cb)]; exact h.fb
 row := h.row.keeps k
 bst := h.bst.keeps k
 off := h.off
theorem PSt.size {w0 w : World} {g go gn gf gg ga gb n : Nat} {va : Value} {o best : List Nat} {vb : Value} (h : PSt w0 w g go gn gf gg ga gb n va o best vb) : g < w.heap.size ∧ go < w.heap.size ∧ gn < w.heap.size ∧ gf < w.heap.size ∧ gg < w.heap.size ∧ ga < w.heap.size ∧ gb < w.heap.size :=
 ⟨(h.row.len _ rfl).2, World.block_lt_of_cell? _ _ h.co, World.block_lt_of_cell? _ _ h.cn, World.block_lt_of_cell? _ _ h.cf, World.block_lt_of_cell? _ _ h.cg, World.block_lt_of_cell? _ _ h.ca, World.block_lt_of_cell? _ _ h.cb⟩
theorem PSt.fresh {w0 w : World} {g go gn gf gg ga gb n : Nat} {va : Value} {o best : List Nat} {vb : Value} (h : PSt w0 w g go gn gf gg ga gb n va o best vb) {k : Nat} (hk : w.heap.size ≤ k) : ¬ PBox g go gn gf gg ga gb k := by
 have := h.size
 unfold PBox
 omega
theorem cell_grown {w w' : World} {b g : Nat} {v : Value} (hc : w.cell? ⟨b, 0, none⟩ = some v) (k : w.grownBy w' (some g)) (hb : b ≠ g) : w'.cell? ⟨b, 0, none⟩ = some v ∧ w'.frozen? ⟨b, 0, none⟩ = w.frozen? ⟨b, 0, none⟩ := by
 have h := (Touch.grown k).cell (World.block_lt_of_cell? _ _ hc) (fun e => hb (by simpa using e))
 exact ⟨by rw [h.1]; exact hc, h.2 0⟩
theorem own_grown {w w' : World} {B g : Nat} {v : Value} {x : List Int} (h : OwnI w B v x) (k : w.grownBy w' (some g)) (hb : ∀ i, v.ownBlock = some i → i ≠ g) : OwnI w' B v x :=
 h.touch (Touch.grown k) (fun i hi e => hb i hi (by simpa using e))
theorem PSt.order {w0 w w1 : World} {g go gn gf gg ga gb n : Nat} {va : Value} {o o' best : List Nat} {vb : Value} (h : PSt w0 w g go gn gf gg ga gb n va o best vb) (N : PNe g go gn gf gg ga gb) (hg0 : w0.heap.size ≤ g) (hgo : w0.heap.size ≤ go)
  (k : w.grownBy w1 (some g)) (hrow : OwnI w1 w0.heap.size (.slice (some ⟨g, 0, none⟩) o'.length n) (zs o')) :
  PSt w0 (w1.setCell ⟨go, 0, none⟩ (.slice (some ⟨g, 0, none⟩) o'.length n)) g go gn gf gg ga gb n va o' best vb := by
 have k2 := grown_set (w := w1) go 0 (.slice (some ⟨g, 0, none⟩) o'.length n)
 have c1 := cell_grown h.co k N.h6
 have cn1 := cell_grown h.cn k (Ne.symm N.h12)
 have cf1 := cell_grown h.cf k (Ne.symm N.h13)
 have cg1 := cell_grown h.cg k (Ne.symm N.h14)
 have ca1 := cell_grown h.ca k (Ne.symm N.h15)
 have cb1 := cell_grown h.cb k N.h11
 have b1 := own_grown h.bst k (fun i hi e => h.off i hi (.inl e))
 refine ⟨(h.kp.grown k (fun j e => by cases e; exact hg0)).setCell hgo _, ?_, ?_, (cell_grown cn1.1 k2 (Ne.symm N.h1)).1, (cell_grown cf1.1 k2 (Ne.symm N.h2)).1, (cell_grown cg1.1 k2 (Ne.symm N.h3)).1, (cell_grown ca1.1 k2 (Ne.symm N.h4)).1, (cell_grown cb1.1 k2 (Ne.symm N.h5)).1, ?_, ?_, ?_, h.off⟩
 ·exact World.cell?_setCell_same _ _ _ c1.1
 ·rw [World.frozen?_setCell]; rw [c1.2]; exact h.fo
 ·rw [World.frozen?_setCell]; rw [cb1.2]; exact h.fb
 ·exact own_grown hrow k2 (fun i hi e => N.h6 (by have : g = i := by simpa [Value.ownBlock] using hi
                                                  omega))
 ·exact own_grown b1 k2 (fun i hi e => h.off i hi (.inr (.inl e)))
theorem PSt.better {w0 w : World} {g go gn gf gg ga gb n : Nat} {va : Value} {o best b' : List Nat} {vb v' : Value} (h : PSt w0 w g go gn gf gg ga gb n va o best vb) (N : PNe g go gn gf gg ga gb) (hgb : w0.heap.size ≤ gb)
  (hb : OwnI w w0.heap.size v' (zs b')) (hoff : ∀ k, v'.ownBlock = some k → ¬ PBox g go gn gf gg ga gb k) : PSt w0 (w.setCell ⟨gb, 0, none⟩ v') g go gn gf gg ga gb n va o b' v' := by
 have k2 := grown_set (w := w) gb 0 v'
 refine ⟨h.kp.setCell hgb _, (cell_grown h.co k2 N.h5).1, ?_, (cell_grown h.cn k2 (Ne.symm N.h7)).1, (cell_grown h.cf k2 (Ne.symm N.h8)).1, (cell_grown h.cg k2 (Ne.symm N.h9)).1, (cell_grown h.ca k2 (Ne.symm N.h10)).1, World.cell?_setCell_same _ _ _ h.cb, ?_, ?_, ?_, hoff⟩
 ·rw [World.frozen?_setCell]; exact h.fo
 ·rw [World.frozen?_setCell]; exact h.fb
 ·exact own_grown h.row k2 (fun i hi e => N.h11 (by have : g = i := by simpa [Value.ownBlock] using hi
                                                    omega))
 ·exact own_grown hb k2 (fun i hi e => hoff i hi (by unfold PBox; omega))
def PRet (w0 : World) (g go gn gf gg ga gb n : Nat) (va : Value) (o best : List Nat) (e : Ending) (w' : World) : Prop := e = .returned (.tuple #[]) ∧ ∃ vb, PSt w0 w' g go gn gf gg ga gb n va o best vb
set_option maxRecDepth 20000 in
set_option maxHeartbeats 1000000 in
theorem least_1_any (w0 w : World) (g go gn gf gg ga gb n : Nat) (va : Value) (a o best : List Nat) (vb : Value) (h : PSt w0 w g go gn gf gg ga gb n va o best vb) (N : PNe g go gn gf gg ga gb) (hgb : w0.heap.size ≤ gb)
  (hva : Ints w0 va (zs a)) (hn : n ≤ 4) (hal : a.length = n) (hab : Bnd n a) (ho : o ∈ permP n) (hbl : best.length = n) :
  Calls Tryz.prog 139 #[.slice (some ⟨g, 0, none⟩) o.length n, .pointer (some ⟨ga, 0, none⟩), .pointer (some ⟨gb, 0, none⟩)] w (PRet w0 g go gn gf gg ga gb n va o (betP a best o)) := by
 obtain ⟨hol, hox⟩ := perm_len hn ho
 have hre := ren_eq hn hab ho
 have HR := hid (reordered_any a o va _ w (hva.keeps h.kp) (h.row.ints (by rw [zs_length]; omega)) (by omega) (by omega) (by rw [hol]; exact hox) (by rw [hol]; exact hab))
 rw [hre] at HR
 have hrl := renP_len a o
 have HCM := hid (fun (v : Value) (w2 : World) (k : Keeps w w2) (hv : OwnI w2 w.heap.size v (zs (renP a o))) => compareI_any (renP a o) best v vb w2 (hv.ints (by rw [zs_length]; omega)) ((h.bst.keeps k).ints (by rw [zs_length]; omega)))
 have HB : Hid (betP a best o = if lessL (renP a o) best then renP a o else best) := hid rfl
 have HLT := hid (cmpL_neg (renP a o) best)
 have hca := h.ca
 have hcb := h.cb
 have H := hid h
 obtain ⟨pa, na, qa, rfl⟩ : ∃ p n c, va = .slice p n c := by
  obtain ⟨p, c, e, _⟩ := hva; exact ⟨p, _, c, e⟩
 clear hre hrl hab hva
 obtain ⟨pb, qb, rfl, _⟩ := h.bst.ints (by rw [zs_length]; omega)
 clear h
 generalize hR : renP a o = R at *
 clear hR hol hox hbl hal ho
 go_enter Tryz.func139, Tryz.ntmps139
 go_wp2_with fail
 refine HR.out.mono ?_; rintro e w2 ⟨v2, rfl, hv2, k2⟩
 replace hcb := k2.cell hcb
 have HC2 := hid (HCM.out v2 w2 k2 hv2)
 have HST := hid (H.out.keeps k2)
 have HNEW := hid (fun k (e : v2.ownBlock = some k) => H.out.fresh (hv2.len k e).1)
 have HV2 := hid (hv2.mono (H.out.kp.size))
 obtain ⟨p2, c2, rfl, -, -, -⟩ := At.of_own hv2
 clear hca hv2
 cases hl : lessL R best
 ·have hlt : ¬ (cmpL R best < 0) := by
   have := HLT.out
   rw [hl] at this
   simpa using this
  have HBB : Hid (betP a best o = best) := hid (by rw [HB.out, hl]; rfl)
  clear hl
  generalize cmpL R best = c at *
  go_wp2_with fail
  refine HC2.out.mono ?_; rintro e w3 ⟨rfl, rfl⟩
  go_wp2_with fail
  go_end0
  exact ⟨rfl, _, by rw [HBB.out]; exact HST.out⟩
 ·have hlt : cmpL R best < 0 := by
   have := HLT.out
   rw [hl] at this
   simpa using this
  have HBB : Hid (betP a best o = R) := hid (by rw [HB.out, hl]; rfl)
  clear hl
  have hfb := HST.out.fb
  generalize cmpL R best = c at *
  go_wp2_with fail
  refine HC2.out.mono ?_; rintro e w3 ⟨rfl, rfl⟩
  go_wp2_with fail
  go_end0
  exact ⟨rfl, _, by rw [HBB.out]; exact HST.out.better N hgb HV2.out HNEW.out⟩
theorem enters_perm1 : Enters 215 := fun _ _ => by kernel_rfl
theorem enters_least1 : Enters 139 := fun _ _ => by kernel_rfl
theorem OwnI.cutI {w : World} {B g cap : Nat} {a : List Int} (h : OwnI w B (.slice (some ⟨g, 0, none⟩) a.length cap) a) (k : Nat) (hk : k ≤ a.length) : OwnI w B (.slice (some ⟨g, 0, none⟩) k cap) (a.take k) := by
 rcases h with ⟨hl, ⟨e, _⟩ | ⟨g', cap', cur, e, hb, hg, hn, hm, hs, ht⟩⟩
 ·cases e
 ·cases e
  refine ⟨by simp [intCells], .inr ⟨g, cap, cur, ?_, hb, hg, ?_, hm, hs, ?_⟩⟩
  ·rw [List.length_take, Nat.min_eq_left hk]
  ·rw [List.length_take, Nat.min_eq_left hk]; exact Nat.le_trans hk hn
  ·rw [List.length_take, Nat.min_eq_left hk, show intCells (a.take k) = (intCells a).take k by simp [intCells, List.map_take], ← ht, List.take_take, Nat.mul_one, Nat.mul_one, Nat.min_eq_left hk]
set_option maxRecDepth 20000 in
set_option maxHeartbeats 4000000 in
theorem grow_any (w0 : World) (g go gn gf gg ga gb n : Nat) (va : Value) (a : List Nat) (N : PNe g go gn gf gg ga gb) (hg0 : w0.heap.size ≤ g) (hgo : w0.heap.size ≤ go) (hgb : w0.heap.size ≤ gb)
  (hva : Ints w0 va (zs a)) (hn : n ≤ 4) (hal : a.length = n) (hab : Bnd n a) :
  ∀ f o best w vb, PSt w0 w g go gn gf gg ga gb n va o best vb → o.length + f = n → (∀ x ∈ o, x < n) → (∀ x ∈ growP n f o, x ∈ permP n) → best.length = n → Bnd n best →
   Calls Tryz.prog 215 #[.int .i64 (usedB o : Nat), .pointer (some ⟨go, 0, none⟩), .pointer (some ⟨gn, 0, none⟩), .pointer (some ⟨gf, 0, none⟩), .pointer (some ⟨gg, 0, none⟩)] w (PRet w0 g go gn gf gg ga gb n va o ((growP n f o).foldl (betP a) best)) := by
 intro f
 have hcf1 : ∀ args w, (callFunc 215 args).run Tryz.prog w = .ok (.enter 215 args) w := enters_perm1
 have hcf2 : ∀ args w, (callFunc 139 args).run Tryz.prog w = .ok (.enter 139 args) w := enters_least1
 have HVA := hid hva; clear hva
 have HAL := hid hal; clear hal
 have HAB := hid hab; clear hab
 induction f with
 | zero =>
  intro o best w vb h hof hox hsub hbl hbb
  have hol : o.length = n := by omega
  have hperm : o ∈ permP n := hsub o (by simp [growP])
  have HS := hid (fun w2 (k : Keeps w w2) => sizeI_any (zs o) _ w2 ((h.row.keeps k).ints (by rw [zs_length]; omega)))
  rw [zs_length] at HS
  have HL := hid (fun w2 (k : Keeps w w2) => least_1_any w0 w2 g go gn gf gg ga gb n va a o best vb (h.keeps k) N hgb HVA.out hn HAL.out HAB.out hperm hbl)
  have HG : Hid ((growP n 0 o).foldl (betP a) best = betP a best o) := hid rfl
  have heq : ((o.length : Int) == (n : Int)) = true := by rw [hol]; simp
  obtain ⟨_, c1, _, c2, c3, _, _, _, _, _, _, _⟩ := h
  have kd := fun q => (Keeps.refl w).drewN q
  rw [HG.out]
  clear hof hox hsub hbl hbb hol hperm HG
  generalize betP a best o = R at *
  generalize o.length = m at *
  go_enter Tryz.func215, Tryz.ntmps215
  go_wp2_with fail
  go_quiet (first | (go_at_call 41; refine quietS (HS.out _ (kd _))))
  go_wp2_with fail
  refine (HL.out _ (kd _)).mono ?_; rintro e w2 ⟨rfl, vb2, h2⟩
  go_wp2_with fail
  go_end0
  exact ⟨rfl, vb2, h2⟩
 | succ f ih =>
  intro o best w vb h hof hox hsub hbl hbb
  have IH := hid ih; clear ih
  have hlt0 : o.length < n := by omega
  have HS := hid (fun w2 (k : Keeps w w2) => sizeI_any (zs o) _ w2 ((h.row.keeps k).ints (by rw [zs_length]; omega)))
  rw [zs_length] at HS
  have heq : ((o.length : Int) == (n : Int)) = false := by simp; omega
  have HG : Hid ((growP n (f + 1) o) = growK n f o n) := hid (growK_all n f o).symm
  have HOF := hid hof; clear hof
  have HOX := hid hox; clear hox
  have HSUB := hid hsub; clear hsub
  have HBL := hid hbl; clear hbl
  have HBB := hid hbb; clear hbb
  have hu8 : usedB o < 256 := Nat.lt_of_lt_of_le (usedB_lt HOX.out) (two8 (by omega))
  have HH := hid (fun i w2 (hi : i ≤ 8) => hasB_any (usedB o) i w2 hu8 hi)
  have HUB := hid (usedB_bit o)
  have HST := hid h
  obtain ⟨_, c1, _, c2, c3, _, _, _, _, _, _, _⟩ := h
  have kd := fun q => (Keeps.refl w).drewN q
  have HFB : Hid (∀ k, k ≤ n → ((growK n f o k).foldl (betP a) best).length = n ∧ Bnd n ((growK n f o k).foldl (betP a) best)) := hid fun k hk =>
   fold_bet _ best (fun x hx => (perm_len hn (HSUB.out x (by rw [HG.out]; exact growK_sub hk hx))).1) HBL.out HBB.out
  rw [HG.out]
  have HO2 := hid hlt0; clear hlt0
  generalize hm : o.length = m at *
  have HM := hid hm; clear hm
  go_enter Tryz.func215, Tryz.ntmps215
  go_wp2_with fail
  go_quiet (first | (go_at_call 41; refine quietS (HS.out _ (kd _))))
  go_wp2_with fail
  clear c1 c2 c3
  go_loopw [15] (fun i' wr => ∃ i : Nat, i ≤ n ∧ i' = .int .i64 i ∧ ∃ vb', PSt w0 wr g go gn gf gg ga gb n va o ((growK n f o i).foldl (betP a) best) vb') (fun i' _ => n - (intOf i').toNat)
  case atStart => exact ⟨0, by omega, rfl, vb, by simpa [growK] using HST.out.keeps (kd _)⟩
  case round =>
   obtain ⟨i, hi, rfl, vb', h⟩ := hrel
   by_cases hlt : i < n
   ·have hlt' : (i : Int) < n := by omega
    have HGK : Hid (growK n f o (i + 1) = growK n f o i ++ (if o.contains i then [] else growP n f (o ++ [i]))) := hid rfl
    have hhas := HH.out i wr (by omega)
    cases hc : o.contains i
    ·rw [HUB.out, hc] at hhas
     have HHAS := hid hhas; clear hhas
     have HGK2 : Hid (growK n f o (i + 1) = growK n f o i ++ growP n f (o ++ [i])) := hid (by rw [HGK.out, hc]; rfl)
     have HSUB2 : Hid (∀ x ∈ growP n f (o ++ [i]), x ∈ permP n) := hid fun x hx => HSUB.out x (growK_step hlt hc hx)
     clear hc HGK
     have hb2 := HFB.out i hi
     have HB2 := hid hb2; clear hb2
     generalize hbest : (growK n f o i).foldl (betP a) best = bst at *
     have HBEST := hid hbest; clear hbest
     have hrow := h.row
     rw [HM.out] at hrow
     have HR := hid h
     obtain ⟨_, d1, d1f, d2, d3, d4, _, _, _, _, _, _⟩ := h
     rw [HM.out] at d1
     have hor := orN (usedB o) (2 ^ i) (by omega) (by have : 2 ^ i < 2 ^ 4 := Nat.pow_lt_pow_right (by omega) (by omega); omega)
     have e1 := (pow63 i (by omega)).1
     have e2 : ((2 ^ i : Nat) : Int) = 2 ^ i := by push_cast; rfl
     rw [e2, ← usedB_snoc] at hor
     obtain ⟨i0, hi0, hz0, hz1, hz2⟩ := info_parts infoI
     have hal1 := (Keeps.refl wr).alloc (.cells #[.int .i64 (i : Int)] 2)
     have hrw : (wr.alloc (.cells #[.int .i64 (i : Int)] 2)).ownsRow w0.heap.size 2 1 (.slice (some ⟨g, 0, none⟩) m n) m (intCells (zs o)) := by
      have := own_keeps hrow hal1
      rwa [zs_length, HM.out] at this
     have hlen : (o ++ [i]).length = m + 1 := by rw [List.length_append, HM.out]; rfl
     have hzs : intCells (zs o) ++ [.int .i64 (i : Int)] = intCells (zs (o ++ [i])) := by rw [zs_snoc]; simp [intCells]
     have htk : (zs (o ++ [i])).take m = zs o := by rw [zs_snoc]; exact List.take_left' (by rw [zs_length, HM.out])
     have HPS := hid (fun w1 (hg1 : (wr.alloc (.cells #[.int .i64 (i : Int)] 2)).grownBy w1 (some g)) (hr1 : w1.ownsRow w0.heap.size 2 1 (.slice (some ⟨g, 0, none⟩) (m + 1) n) (m + 1) (intCells (zs o) ++ [.int .i64 (i : Int)])) =>
      (HR.out.keeps hal1).order (o' := o ++ [i]) N hg0 hgo hg1 (by rw [hlen]; unfold OwnI; rw [zs_length, hlen, ← hzs]; exact hr1))
     have HD1 := hid (fun w1 (hg1 : (wr.alloc (.cells #[.int .i64 (i : Int)] 2)).grownBy w1 (some g)) => cell_grown (hal1.cell d1) hg1 N.h6)
     have hfz : (wr.alloc (.cells #[.int .i64 (i : Int)] 2)).frozen? ⟨go, 0, none⟩ = false := by rw [hal1.both.2 go 0 (World.block_lt_of_cell? _ _ d1)]; exact d1f
     have HFZ := hid hfz; clear hfz
     rw [hlen] at HPS
     have hiu : ∀ x ∈ o ++ [i], x < n := fun x hx => by
      rcases List.mem_append.1 hx with hx | hx
      ·exact HOX.out x hx
      ·simp at hx; omega
     have HIH := hid (fun wz vz (hz : PSt w0 wz g go gn gf gg ga gb n va (o ++ [i]) bst vz) => IH.out (o ++ [i]) bst wz vz hz (by have := HOF.out; rw [hlen]; omega) hiu HSUB2.out HB2.out.1 HB2.out.2)
     have HHL := hid hlen; clear hlen hiu
     have HTK := hid htk; clear htk
     have hm1 : m + 1 ≤ n := HO2.out
     clear hzs
     generalize usedB o = ub at *
     generalize usedB (o ++ [i]) = ub2 at *
     go_wp2_with (first | (go_at_call 159; refine HHAS.out.mono ?_; rintro e w' ⟨rfl, rfl⟩) | (at_builtin; refine wpList_append_fits _ rfl _ _ _ rfl w0.heap.size _ i0 1 Tryz.underlying32 hi0 hz1 g _ n (intCells (zs o)) rfl hrw ⟨_, 0, none⟩ 1 1 [.int .i64 (i : Int)] rfl (by simp) (by intro j u hj; cases j with | zero => (simp at hj; subst hj; simp [Addr.add]) | succ j => simp at hj) (by simp [Value.oneCell']) hm1 ?_))
     intro w1 hown1 hg1
     have PS1 := HPS.out w1 hg1 hown1
     obtain ⟨x1, x2⟩ := HD1.out w1 hg1
     rw [HFZ.out] at x2
     have kd := (Keeps.refl (w1.setCell ⟨go, 0, none⟩ (.slice (some ⟨g, 0, none⟩) (m + 1) n))).drew
     have z3 := PS1.cg
     have HCALL := hid (HIH.out _ _ (PS1.keeps kd))
     clear PS1 hown1 hrw hal1 hg1 d1 d1f d2 d3 d4 hrow kd
     go_wp2_with fail
     generalize w1.setCell ⟨go, 0, none⟩ (.slice (some ⟨g, 0, none⟩) (m + 1) n) = w1b at *
     go_still_tail 5, (by kernel_rfl)
     change wpList _ _ _ _ _ w1b.drew
     generalize w1b.drew = w2 at *
     go_wp2_with fail
     refine HCALL.out.mono ?_; rintro e w3 ⟨rfl, vb3, h3⟩
     have y1 := h3.co
     have y1f := h3.fo
     have hrow3 := h3.row
     rw [HHL.out] at y1 hrow3
     have hcut := hrow3
     have hcut2 : OwnI w3 w0.heap.size (.slice (some ⟨g, 0, none⟩) o.length n) (zs o) := by
      have h4 : OwnI w3 w0.heap.size (.slice (some ⟨g, 0, none⟩) (zs (o ++ [i])).length n) (zs (o ++ [i])) := by rw [zs_length, HHL.out]; exact hrow3
      have := h4.cutI m (by rw [zs_length, HHL.out]; omega)
      rw [HTK.out] at this
      rw [HM.out]; exact this
     have PS2 := h3.order (o' := o) N hg0 hgo (grown_refl w3 (some g)) hcut2
     rw [HM.out] at PS2
     have HP2 := hid PS2
     clear PS2 hcut hcut2 hrow3 h3 x1 x2
     have hsub1 : ((m + 1 : Nat) : Int) - 1 = m := by omega
     go_wp2_with fail
     go_roundw
     case rel => exact ⟨i + 1, by omega, by go_num, vb3, by rw [HGK2.out, List.foldl_append, HBEST.out]; exact HP2.out⟩
     case measure => simp [intOf]; omega
    ·rw [HUB.out, hc] at hhas
     have HHAS := hid hhas; clear hhas
     have HGK2 : Hid (growK n f o (i + 1) = growK n f o i) := hid (by rw [HGK.out, hc]; simp)
     clear hc HGK
     go_wp2_with fail
     refine HHAS.out.mono ?_; rintro e w' ⟨rfl, rfl⟩
     go_wp2_with fail
     go_roundw
     case rel => exact ⟨i + 1, by omega, by go_num, vb', by rw [HGK2.out]; exact h⟩
     case measure => simp [intOf]; omega
   ·have e : n = i := by omega
    subst e
    have hlt' : ¬ (n : Int) < n := by omega
    go_wp2_with fail
    go_end0
    exact ⟨rfl, vb', h⟩
end Go.Proofs.YtikooimokfbffaaGreatDoor
