/- The reference: comparisons of lists, the least relation. -/
import Derived.Test.YtponaoefpicfpaaGreatDoorGOR
import Derived.Test.YtponaoefpicfpaaGreatDoorGAL
namespace Go.Proofs.YtponaoefpicfpaaGreatDoor
open Go.RowKit
theorem lessL_drop (a b : List Nat) (i : Nat) (ha : i < a.length) (hb : i < b.length) : lessL (a.drop i) (b.drop i) = if a.getD i 0 = b.getD i 0 then lessL (a.drop (i + 1)) (b.drop (i + 1)) else decide (a.getD i 0 < b.getD i 0) := by
  rw [List.drop_eq_getElem_cons ha, List.drop_eq_getElem_cons hb, lessL, getD_get ha, getD_get hb]
theorem lessL_end (a b : List Nat) (i : Nat) (h : ¬ (i < a.length ∧ i < b.length)) (ha : i ≤ a.length) (hb : i ≤ b.length) : lessL (a.drop i) (b.drop i) = decide (a.length < b.length) := by
  by_cases h1 : i < a.length
  · have h2 : i = b.length := by omega
    rw [h2, List.drop_length, List.drop_eq_getElem_cons (h2 ▸ h1), lessL]
    simp; omega
  · have h2 : i = a.length := by omega
    rw [h2, List.drop_length]
    by_cases h3 : a.length < b.length
    · rw [List.drop_eq_getElem_cons h3, lessL]; simp [h3]
    · rw [List.drop_eq_nil_of_le (by omega), lessL]; simp; omega
--
set_option maxRecDepth 20000 in
set_option maxHeartbeats 1000000 in
theorem l01Less_any (a b : List Nat) (va vb : Value) (w : World) (hva : Ints w va (zs a)) (hvb : Ints w vb (zs b)) :
    Calls Tryz.prog 193 #[va, vb] w fun e w' => e = .returned (.bool (lessL a b)) ∧ Keeps w w' := by
  have hva0 := hva
  have hvb0 := hvb
  obtain ⟨p, cap, rfl, _, hmx, _, hl1⟩ := hva
  obtain ⟨q, cap2, rfl, _, hmx2, _, hl2⟩ := hvb
  unfold maxLen at hmx hmx2
  rw [zs_length a] at *
  rw [zs_length b] at *
  have HA := hid (fun i (hi : i < a.length) wr (k : Keeps w wr) => (hva0.keeps k).zs_cell i hi)
  have HB := hid (fun i (hi : i < b.length) wr (k : Keeps w wr) => (hvb0.keeps k).zs_cell i hi)
  clear hva0 hvb0
  have HD := hid (lessL_drop a b)
  have HE := hid (lessL_end a b)
  have hst : lessL a b = lessL (a.drop 0) (b.drop 0) := rfl
  rw [hst]
  clear hst
  obtain ⟨D, hD⟩ : ∃ D : Nat → Bool, ∀ i, D i = lessL (a.drop i) (b.drop i) := ⟨fun i => lessL (a.drop i) (b.drop i), fun _ => rfl⟩
  obtain ⟨A, hA⟩ : ∃ A : Nat → Nat, ∀ i, A i = a.getD i 0 := ⟨fun i => a.getD i 0, fun _ => rfl⟩
  obtain ⟨B, hB⟩ : ∃ B : Nat → Nat, ∀ i, B i = b.getD i 0 := ⟨fun i => b.getD i 0, fun _ => rfl⟩
  simp only [← hD, ← hA, ← hB] at *
  clear hD hA hB
  generalize a.length = n at *
  generalize b.length = m at *
  go_enter Tryz.func193, Tryz.ntmps193
  go_wp2_with fail
  go_loopw [4, 5] (fun s4 s5 wr => ∃ i : Nat, i ≤ n ∧ i ≤ m ∧ s4 = .bool false ∧ s5 = .int .i64 i ∧ Hid (D i = D 0) ∧ Keeps w wr) (fun _ s5 _ => n - (intOf s5).toNat)
  case atStart => exact ⟨0, by omega, by omega, rfl, rfl, hid rfl, Keeps.refl w⟩
  case round =>
    obtain ⟨i, hi, hi2, rfl, rfl, HI, kw⟩ := hrel
    have KW := hid kw
    by_cases hlt : i < n
    · have hlt' : (i : Int) < n := by omega
      by_cases hlm : i < m
      · have hlm' : (i : Int) < m := by omega
        obtain ⟨b1, o1, rfl, h1⟩ := HA.out i hlt wr kw
        obtain ⟨b2, o2, rfl, h2⟩ := HB.out i hlm wr kw
        have hd := HD.out i hlt hlm
        by_cases he : A i = B i
        · rw [if_pos he] at hd
          have hb : (((A i : Nat) : Int) != (B i : Nat)) = false := by rw [he]; simp
          have HX := hid hd; clear hd
          clear he kw
          generalize A i = x at *
          generalize B i = y at *
          go_wp2_with fail
          go_quiet (fail)
          go_wp2_with fail
          go_roundw
          case rel => exact ⟨i + 1, by omega, by omega, rfl, by go_num, hid (by rw [← HX.out]; exact HI.out), KW.out.drewN _⟩
          case measure => simp [intOf]; omega
        · rw [if_neg he] at hd
          have hb : (((A i : Nat) : Int) != (B i : Nat)) = true := by simp; omega
          have HX := hid hd; clear hd
          clear he kw
          generalize A i = x at *
          generalize B i = y at *
          go_wp2_with fail
          go_quiet (fail)
          go_wp2_with fail
          go_quiet (fail)
          go_wp2_with fail
          go_ret
          refine ⟨ret_bool ?_, (KW.out.drewN _).drewN _⟩
          rw [← HI.out, HX.out, Bool.eq_iff_iff]
      · have hlm' : ¬ (i : Int) < m := by omega
        have HX := hid (HE.out i (by omega) hi hi2)
        clear kw
        go_wp2_with fail
        go_ret
        refine ⟨ret_bool ?_, KW.out⟩
        rw [← HI.out, HX.out, Bool.eq_iff_iff]
    · have hlt' : ¬ (i : Int) < n := by omega
      have HX := hid (HE.out i (by omega) hi hi2)
      clear kw
      go_wp2_with fail
      go_ret
      refine ⟨ret_bool ?_, KW.out⟩
      rw [← HI.out, HX.out, Bool.eq_iff_iff]
--
set_option maxRecDepth 20000 in
set_option maxHeartbeats 1000000 in
theorem l01SameN_any (a b : List Nat) (va vb : Value) (w : World) (hva : Ints w va (zs a)) (hvb : Ints w vb (zs b)) :
    Calls Tryz.prog 108 #[va, vb] w fun e w' => e = .returned (.bool (a == b)) ∧ Keeps w w' := by
  have hva0 := hva
  have hvb0 := hvb
  obtain ⟨p, cap, rfl, _, hmx, _, hl1⟩ := hva
  obtain ⟨q, cap2, rfl, _, hmx2, _, hl2⟩ := hvb
  unfold maxLen at hmx hmx2
  rw [zs_length a] at *
  rw [zs_length b] at *
  have HA := hid (fun i (hi : i < a.length) wr (k : Keeps w wr) => (hva0.keeps k).zs_cell i hi)
  have HB := hid (fun i (hi : i < b.length) wr (k : Keeps w wr) => (hvb0.keeps k).zs_cell i hi)
  clear hva0 hvb0
  have HF : Hid (∀ i, a.getD i 0 ≠ b.getD i 0 → (a == b) = false) := hid fun i h => by
    rw [beq_eq_false_iff_ne]
    intro e; exact h (by rw [e])
  have HN : Hid (a.length ≠ b.length → (a == b) = false) := hid fun h => by
    rw [beq_eq_false_iff_ne]
    intro e; exact h (by rw [e])
  have HT : Hid (a.length = b.length → (∀ j, j < a.length → a.getD j 0 = b.getD j 0) → (a == b) = true) := hid fun hl h => by
    rw [beq_iff_eq]
    refine List.ext_getElem hl fun j h1 h2 => ?_
    have := h j h1
    rwa [getD_get h1, getD_get h2] at this
  generalize (a == b) = r at *
  obtain ⟨A, hA⟩ : ∃ A : Nat → Nat, ∀ i, A i = a.getD i 0 := ⟨fun i => a.getD i 0, fun _ => rfl⟩
  obtain ⟨B, hB⟩ : ∃ B : Nat → Nat, ∀ i, B i = b.getD i 0 := ⟨fun i => b.getD i 0, fun _ => rfl⟩
  simp only [← hA, ← hB] at *
  clear hA hB
  generalize a.length = n at *
  generalize b.length = m at *
  by_cases hnm : n = m
  · subst hnm
    have hne : ((n : Int) != n) = false := by simp
    go_enter Tryz.func108, Tryz.ntmps108
    go_wp2_with fail
    go_loopw [4, 5] (fun s4 s5 wr => ∃ i : Nat, i ≤ n ∧ s4 = .bool false ∧ s5 = .int .i64 i ∧ Hid (∀ j, j < i → A j = B j) ∧ Keeps w wr) (fun _ s5 _ => n - (intOf s5).toNat)
    case atStart => exact ⟨0, by omega, rfl, rfl, hid (fun j h => by omega), Keeps.refl w⟩
    case round =>
      obtain ⟨i, hi, rfl, rfl, HI, kw⟩ := hrel
      have KW := hid kw
      by_cases hlt : i < n
      · have hlt' : (i : Int) < n := by omega
        obtain ⟨b1, o1, rfl, h1⟩ := HA.out i hlt wr kw
        obtain ⟨b2, o2, rfl, h2⟩ := HB.out i hlt wr kw
        by_cases he : A i = B i
        · have hb : (((A i : Nat) : Int) != (B i : Nat)) = false := by rw [he]; simp
          have HX := hid he
          clear he kw
          generalize hx : A i = x at *
          generalize hy : B i = y at *
          have HX1 := hid hx
          have HY1 := hid hy
          clear hx hy
          go_wp2_with fail
          go_quiet (fail)
          go_wp2_with fail
          go_roundw
          case rel => exact ⟨i + 1, by omega, rfl, by go_num, hid (fun j hj => by
            by_cases e : j = i
            · rw [e, HX1.out, HY1.out]; exact HX.out
            · exact HI.out j (by omega)), KW.out.drewN _⟩
          case measure => simp [intOf]; omega
        · have hb : (((A i : Nat) : Int) != (B i : Nat)) = true := by simp; omega
          have HX := hid (HF.out i he)
          clear he kw
          generalize A i = x at *
          generalize B i = y at *
          go_wp2_with fail
          go_quiet (fail)
          go_wp2_with fail
          go_ret
          exact ⟨ret_bool HX.out.symm, KW.out.drewN _⟩
      · have e : n = i := by omega
        subst e
        have hlt' : ¬ (n : Int) < n := by omega
        have HX := hid (HT.out trivial HI.out)
        clear kw
        go_wp2_with fail
        go_ret
        exact ⟨ret_bool HX.out.symm, KW.out⟩
  · have hne : ((n : Int) != m) = true := by simp; omega
    have HX := hid (HN.out hnm)
    clear hnm
    go_enter Tryz.func108, Tryz.ntmps108
    go_wp2_with fail
    go_ret
    exact ⟨ret_bool HX.out.symm, Keeps.refl _⟩
--
set_option maxRecDepth 20000 in
set_option maxHeartbeats 1000000 in
theorem l05Least_any (a : List Nat) (va : Value) (w : World) (hva : Ints w va (zs a)) (hn4 : a.length ≤ 4) (hab : Bnd a.length a) :
    Calls Tryz.prog 109 #[va] w (RetI w (zs (leastP a))) := by
  have hva0 := hva
  have hLE : leastP a = (roundP a.length a.length).foldl (betP a) a := by rw [leastP_fold, perm_rounds _ hn4]
  rw [hLE]
  clear hLE
  have hpm : ∀ o ∈ roundP a.length a.length, o.length = a.length ∧ ∀ x ∈ o, x < a.length := fun o ho => perm_len hn4 (by rw [perm_rounds _ hn4]; exact ho)
  have hOl : (roundP a.length a.length).length ≤ 24 := round_tab ⟨a.length, by omega⟩ ⟨a.length, by omega⟩
  have HFB : Hid (∀ i, (((roundP a.length a.length).take i).foldl (betP a) a).length = a.length) := hid fun i =>
    (fold_bet _ a (fun o ho => (hpm o (List.mem_of_mem_take ho)).1) rfl hab).1
  have HOR := hid (fun w2 => l05Orders_any a.length hn4 w2)
  generalize roundP a.length a.length = O at *
  have HOW := hid (fun w2 (k : Keeps w w2) => l01Own_any (zs a) va w2 (hva.keeps k))
  have HRE := hid (fun (o : List Nat) (ho : o ∈ O) (vo : Value) (w2 : World) (k : Keeps w w2) (hvo : Ints w2 vo (zs o)) => l05Renumber_any a o va vo w2 (hva.keeps k) hvo (by have := (hpm o ho).1; omega) (hpm o ho).1.symm (fun x hx => by rw [(hpm o ho).1]; exact (hpm o ho).2 x hx) (by rw [(hpm o ho).1]; exact hab))
  have HOL : Hid (∀ o ∈ O, o.length ≤ 4) := hid fun o ho => by have := (hpm o ho).1; omega
  have HLS := hid (fun (x y : List Nat) (vx vy : Value) (w2 : World) (h1 : Ints w2 vx (zs x)) (h2 : Ints w2 vy (zs y)) => l01Less_any x y vx vy w2 h1 h2)
  have HRL : Hid (∀ o ∈ O, (renP a o).length ≤ 4) := hid fun o ho => by rw [renP_len]; exact HOL.out o ho
  have hbet : Hid (∀ b o, betP a b o = if lessL (renP a o) b then renP a o else b) := hid fun _ _ => rfl
  obtain ⟨p, cap, rfl, _, hmx, _, _⟩ := hva
  rw [zs_length a] at *
  have HN4 := hid hn4; clear hn4
  clear hpm hab hva0
  generalize hn : a.length = n at *
  have HN := hid hn; clear hn
  go_enter Tryz.func109, Tryz.ntmps109
  go_wp2_with fail
  refine (HOR.out _).mono ?_; rintro e w1 ⟨v1, rfl, hv1, k1⟩
  obtain ⟨p1, q1, rfl, _, hm1⟩ := hv1.shape
  unfold maxLen at hm1
  go_wp2_with fail
  refine (HOW.out _ k1).mono ?_; rintro e w2 ⟨v2, rfl, hv2, k2⟩
  have HO2 := hid (hv1.keeps k2); clear hv1
  have HV2 := hid (hv2.mono k1.size); clear hv2
  have HK2 := hid (k1.trans k2); clear k1 k2
  go_wp2_with fail
  go_loopw [4, 5] (fun s4 s5 wr => ∃ i : Nat, i ≤ O.length ∧ s5 = .int .i64 i ∧ OwnI wr w.heap.size s4 (zs ((O.take i).foldl (betP a) a)) ∧ Keeps w2 wr) (fun _ s5 _ => O.length - (intOf s5).toNat)
  case atStart => exact ⟨0, by omega, rfl, HV2.out, Keeps.refl w2⟩
  case round =>
    obtain ⟨i, hi, rfl, hb, kw⟩ := hrel
    clear HV2
    by_cases hlt : i < O.length
    · have hlt' : (i : Int) < O.length := by omega
      obtain ⟨b1, o1, u, rfl, hcu, hou⟩ := (HO2.out.keeps kw).get i hlt
      have hmem : O[i] ∈ O := List.getElem_mem hlt
      have hol := HOL.out _ hmem
      have hrl := HRL.out _ hmem
      have HR2 := hid (HRE.out _ hmem u wr (HK2.out.trans kw) (hou.ints (by rw [zs_length]; omega)))
      obtain ⟨pu, qu, e, -, -, -⟩ := At.of_own hou
      subst e
      have HTK : Hid ((O.take (i + 1)).foldl (betP a) a = betP a ((O.take i).foldl (betP a) a) O[i]) := hid (by rw [List.take_succ_eq_append_getElem hlt, List.foldl_append]; rfl)
      have HBE := hid (hbet.out ((O.take i).foldl (betP a) a) O[i])
      have hbl := HFB.out i
      have HBL := hid hbl; clear hbl
      have HB := hid hb
      obtain ⟨pb, qb, e, -, -, -⟩ := At.of_own hb
      subst e
      have KW := hid kw; clear kw
      have HLS2 := hid (fun (vx : Value) (w3 : World) (k3 : Keeps wr w3) (h3 : OwnI w3 wr.heap.size vx (zs (renP a O[i]))) => HLS.out (renP a O[i]) ((O.take i).foldl (betP a) a) vx _ w3 (h3.ints (by rw [zs_length]; omega)) ((HB.out.keeps k3).ints (by rw [zs_length, HBL.out]; have := HN4.out; omega)))
      have hszw := (HK2.out.trans KW.out).size
      clear hb hou hmem hol hrl
      generalize hR : renP a O[i] = R at *
      clear hR
      generalize (O.take i).foldl (betP a) a = bst at *
      go_wp2_with fail
      refine HR2.out.mono ?_; rintro e w3 ⟨v3, rfl, hv3, k3⟩
      have HL3 := hid (HLS2.out v3 w3 k3 hv3)
      have HV3 := hid (hv3.mono hszw)
      obtain ⟨p3, q3, e, -, -, -⟩ := At.of_own hv3
      subst e
      clear hv3
      cases hl : lessL R bst
      · rw [hl] at HL3
        have HE : Hid ((O.take (i + 1)).foldl (betP a) a = bst) := hid (by rw [HTK.out, HBE.out, hl]; simp)
        clear hl HTK HBE
        go_wp2_with fail
        refine HL3.out.mono ?_; rintro e w4 ⟨rfl, k4⟩
        go_wp2_with fail
        go_roundw
        case rel => exact ⟨i + 1, by omega, by go_num, by rw [HE.out]; exact HB.out.keeps (k3.trans k4), KW.out.trans (k3.trans k4)⟩
        case measure => simp [intOf]; omega
      · rw [hl] at HL3
        have HE : Hid ((O.take (i + 1)).foldl (betP a) a = R) := hid (by rw [HTK.out, HBE.out, hl]; simp)
        clear hl HTK HBE
        go_wp2_with fail
        refine HL3.out.mono ?_; rintro e w4 ⟨rfl, k4⟩
        go_wp2_with fail
        go_roundw
        case rel => exact ⟨i + 1, by omega, by go_num, by rw [HE.out]; exact HV3.out.keeps k4, KW.out.trans (k3.trans k4)⟩
        case measure => simp [intOf]; omega
    · have e : O.length = i := by omega
      have hlt' : ¬ (i : Int) < O.length := by omega
      rw [← e, List.take_length] at hb
      go_wp2_with fail
      go_ret
      exact ⟨_, rfl, hb, HK2.out.trans kw⟩
end Go.Proofs.YtponaoefpicfpaaGreatDoor
/- The program: a relation that is numbered anew. -/
namespace Go.Proofs.YtponaoefpicfpaaGreatDoor
open Go.RowKit
def outM (F : Nat → Nat) (n i z : Nat) : List Nat := (List.range n).map fun j => if j < i then F j else if j = i then z else 0
theorem outM_len (F : Nat → Nat) (n i z : Nat) : (outM F n i z).length = n := by simp [outM]
theorem outM_get (F : Nat → Nat) (n i z j : Nat) (h : j < n) : (outM F n i z).getD j 0 = if j < i then F j else if j = i then z else 0 := by simp [outM, List.getD_eq_getElem?_getD, h]
theorem outM_start (F : Nat → Nat) (n : Nat) : outM F n 0 0 = List.replicate n 0 := by
  refine List.ext_getElem (by simp [outM]) fun i h1 h2 => ?_
  simp [outM]
theorem outM_set (F : Nat → Nat) (n i z y : Nat) : (outM F n i z).set i y = outM F n i y := by
  refine List.ext_getElem (by simp [outM]) fun j h1 h2 => ?_
  rw [List.getElem_set]
  simp only [outM, List.getElem_map, List.getElem_range]
  by_cases e : i = j
  · subst e; simp
  · rw [if_neg e, if_neg (Ne.symm e), if_neg (Ne.symm e)]
theorem outM_next (F : Nat → Nat) (n i : Nat) : outM F n i (F i) = outM F n (i + 1) 0 := by
  unfold outM
  refine List.map_congr_left fun j _ => ?_
  by_cases h1 : j < i
  · rw [if_pos h1, if_pos (by omega)]
  · by_cases h2 : j = i
    · subst h2; rw [if_neg h1, if_pos rfl, if_pos (by omega)]
    · rw [if_neg h1, if_neg h2, if_neg (by omega)]; simp
theorem outM_end (a o : List Nat) (F : Nat → Nat) (hF : ∀ j, F j = orP (toP o.length o o.length) (memB (a.getD (o.getD j 0) 0))) : outM F o.length o.length 0 = renQ a o := by
  unfold outM renQ
  refine List.ext_getElem (by simp) fun j h1 h2 => ?_
  have hj : j < o.length := by simpa using h1
  simp only [List.getElem_map, List.getElem_range]
  rw [if_pos hj, hF, getD_get hj]
theorem OwnI.other {w w' : World} {B g g' n c : Nat} {x : List Int} (h : OwnI w B (.slice (some ⟨g, 0, none⟩) n c) x) (k : w.grownBy w' (some g')) (hne : g ≠ g') : OwnI w' B (.slice (some ⟨g, 0, none⟩) n c) x :=
  h.touch (Touch.grown k) (fun i hi e => by
    have h1 : g = i := by simpa [Value.ownBlock] using hi
    have h2 : i = g' := by simpa using e
    omega)
theorem OwnI.zcell {w : World} {B g n cap : Nat} {l : List Nat} (h : OwnI w B (.slice (some ⟨g, 0, none⟩) n cap) (zs l)) (i : Nat) (hi : i < l.length) :
    w.cell? ⟨g, i, none⟩ = some (.int .i64 (l.getD i 0 : Nat)) ∧ w.frozen? ⟨g, i, none⟩ = false := by
  obtain ⟨c, f⟩ := h.cell i (by rw [zs_length]; exact hi)
  rw [zs_get, ← getD_get hi] at c
  exact ⟨c, f⟩
--
set_option maxRecDepth 20000 in
set_option maxHeartbeats 2000000 in
theorem reordered_any (a o : List Nat) (va vo : Value) (w : World) (hva : Ints w va (zs a)) (hvo : Ints w vo (zs o)) (hn8 : o.length ≤ 8) (hal : a.length = o.length) (hlo : ∀ x ∈ o, x < o.length) (hab : Bnd o.length a) :
    Calls Tryz.prog 181 #[va, vo] w (RetI w (zs (renQ a o))) := by
  have h256 := two8 hn8
  have hva0 := hva
  have hvo0 := hvo
  obtain ⟨p, cap, rfl, _, hmx, _, _⟩ := hva
  obtain ⟨q, cap2, rfl, _, hmx2, _, _⟩ := hvo
  unfold maxLen at hmx hmx2
  rw [zs_length a] at *
  rw [zs_length o] at *
  have HVA := hid (fun i (hi : i < a.length) wr (k : Keeps w wr) => (hva0.keeps k).zs_cell i hi)
  clear hva0
  rw [hal] at *
  clear hal
  obtain ⟨wm, hmk, hown0, km⟩ := run_makeI w o.length (by omega)
  rw [← zs_rep] at hown0
  have hT : Hid (∀ i, toP o.length o (i + 1) = (toP o.length o i).set (o.getD i 0) i) := hid fun _ => rfl
  have hTl : ∀ i, (toP o.length o i).length = o.length := toP_len _ _
  have hTb : Hid (∀ j, (toP o.length o o.length).getD j 0 ≤ 8) := hid fun j => Nat.le_trans (toP_le _ _ _ j) hn8
  have HT0 : Hid (toP o.length o 0 = List.replicate o.length 0) := hid rfl
  rw [← HT0.out] at hown0
  clear HT0
  obtain ⟨F, hF⟩ : ∃ F : Nat → Nat, ∀ j, F j = orP (toP o.length o o.length) (memB (a.getD (o.getD j 0) 0)) := ⟨_, fun _ => rfl⟩
  have HEND := hid (outM_end a o F hF)
  have HF := hid hF; clear hF
  have HLO : Hid (∀ i, i < o.length → o.getD i 0 < o.length) := hid fun i hi => by rw [getD_get hi]; exact hlo _ (List.getElem_mem hi)
  clear hlo
  have HVO := hid (fun i (hi : i < o.length) wr (k : Keeps w wr) => (hvo0.keeps k).zs_cell i hi)
  clear hvo0
  generalize renQ a o = R at *
  have HO0 := hid hown0; clear hown0
  have KM := hid km; clear km
  have HTL := hid hTl; clear hTl
  generalize hT2 : toP o.length o = T at *
  clear hT2
  generalize hn : o.length = n at *
  have HN := hid hn; clear hn
  obtain ⟨O, hO⟩ : ∃ O : Nat → Nat, ∀ i, O i = o.getD i 0 := ⟨fun i => o.getD i 0, fun _ => rfl⟩
  obtain ⟨A, hA⟩ : ∃ A : Nat → Nat, ∀ i, A i = a.getD i 0 := ⟨fun i => a.getD i 0, fun _ => rfl⟩
  have HAB : Hid (∀ i, A i < 2 ^ n) := hid fun i => by rw [hA]; exact hab i
  simp only [← hO] at hT HLO HVO HF
  simp only [← hA] at HVA HF
  clear hO hA hab
  go_enter Tryz.func181, Tryz.ntmps181
  go_wp2
  clear hmk
  go_loopw [18] (fun i' wr => ∃ i : Nat, i ≤ n ∧ i' = .int .i64 i ∧ OwnI wr w.heap.size (.slice (some ⟨w.heap.size, 0, none⟩) n n) (zs (T i)) ∧ Keeps w wr) (fun i' _ => n - (intOf i').toNat)
  case atStart => exact ⟨0, by omega, rfl, HO0.out, KM.out⟩
  case round =>
    obtain ⟨i, hi, rfl, hown, kw⟩ := hrel
    clear HO0 KM
    by_cases hlt : i < n
    · have hlt' : (i : Int) < n := by omega
      obtain ⟨b1, o1, rfl, h1⟩ := HVO.out i hlt wr kw
      have hx := HLO.out i hlt
      have hx' : (O i : Int) < n := by omega
      have hti := HTL.out i
      obtain ⟨old, ci⟩ : ∃ old, wr.cell? ⟨w.heap.size, O i, none⟩ = some old := ⟨_, (hown.cell (O i) (by rw [zs_length, hti]; exact hx)).1⟩
      have fi := (hown.cell (O i) (by rw [zs_length, hti]; exact hx)).2
      have hst := hown.store (O i) (by rw [zs_length, hti]; exact hx) (i : Int)
      rw [← zs_set, ← hT.out] at hst
      have HST := hid hst; clear hst
      have KW := hid kw; clear kw
      clear hown hti
      generalize O i = x at *
      go_wp2_with fail
      go_roundw
      case rel => exact ⟨i + 1, by omega, by go_num, HST.out.1, KW.out.grown HST.out.2 (fun k hk => by cases hk; simp)⟩
      case measure => simp [intOf]; omega
    · have e : n = i := by omega
      subst e
      have hlt' : ¬ (n : Int) < n := by omega
      obtain ⟨wm, hmk, hown2, km⟩ := run_makeI wr n (by omega)
      rw [← zs_rep, ← outM_start F] at hown2
      have hto := hown.keeps km
      have hsz := (hown.len _ rfl).2
      have KM := hid (kw.trans km); clear km kw
      have HO := hid hto; clear hto hown
      have HO2 := hid hown2; clear hown2
      have HTL2 := HTL.out n
      generalize T n = Z at *
      generalize hB : wr.heap.size = B at *
      have HB := hid hB; clear hB
      go_wp2
      clear hmk
      go_loopw [33] (fun i' wr => ∃ j : Nat, j ≤ n ∧ i' = .int .i64 j ∧ OwnI wr w.heap.size (.slice (some ⟨w.heap.size, 0, none⟩) n n) (zs Z) ∧ OwnI wr w.heap.size (.slice (some ⟨B, 0, none⟩) n n) (zs (outM F n j 0)) ∧ Keeps w wr) (fun i' _ => n - (intOf i').toNat)
      case atStart => exact ⟨0, by omega, rfl, HO.out, HO2.out.mono (by omega), KM.out⟩
      case round =>
        obtain ⟨j, hj, rfl, hto, hown, kw⟩ := hrel
        clear HO HO2 KM
        by_cases hlt : j < n
        · have hlt' : (j : Int) < n := by omega
          have hx := HLO.out j hlt
          have hx' : (O j : Int) < n := by omega
          obtain ⟨b1, o1, e1, h1⟩ := HVO.out j hlt wr kw
          obtain ⟨b2, o2, e2, h2⟩ := HVA.out (O j) hx wr kw
          subst e1 e2
          have hax := HAB.out (O j)
          have HFJ := hid (HF.out j)
          generalize O j = x at *
          have HM := hid (fun w2 => membersB_any (A x) w2 (by omega))
          have HL := hid (fun y (h : y ∈ memB (A x)) => memB_lt hax h)
          have hml : (memB (A x)).length ≤ 8 := lowB_len _ 8
          generalize memB (A x) = l at *
          generalize A x = ax at *
          go_wp2_with fail
          refine (HM.out _).mono ?_; rintro e w2 ⟨v2, rfl, hv2, k2⟩
          obtain ⟨p2, c2, rfl, _, hm2, _, _⟩ := hv2.ints (by rw [zs_length]; omega)
          unfold maxLen at hm2
          rw [zs_length] at *
          have hBs := (hown.len _ rfl).2
          have HTO := hid (hto.keeps k2); clear hto
          have HO := hid (hown.keeps k2); clear hown
          have KW := hid (kw.trans k2); clear kw
          have HV2 := hid hv2; clear hv2
          generalize hB0 : wr.heap.size = B0 at *
          have HB0 := hid hB0; clear hB0
          clear h1 h2
          go_wp2
          go_loopw [44] (fun t' wr' => ∃ t : Nat, t ≤ l.length ∧ t' = .int .i64 t ∧ OwnI wr' w.heap.size (.slice (some ⟨w.heap.size, 0, none⟩) n n) (zs Z) ∧ OwnI wr' w.heap.size (.slice (some ⟨B, 0, none⟩) n n) (zs (outM F n j (orP Z (l.take t)))) ∧ Keeps w wr' ∧ OwnI wr' B0 (.slice p2 l.length c2) (zs l)) (fun t' _ => l.length - (intOf t').toNat)
          case atStart => exact ⟨0, by omega, rfl, HTO.out, HO.out, KW.out, HV2.out⟩
          case round =>
            obtain ⟨t, ht, rfl, hto, hown, kw, hl2⟩ := hrel
            clear HO KW HV2 HTO
            by_cases htl : t < l.length
            · have htl' : (t : Int) < l.length := by omega
              obtain ⟨b3, o3, e3, h3⟩ := (hl2.ints (by rw [zs_length]; omega)).zs_cell t htl
              subst e3
              have hy := HL.out l[t] (List.getElem_mem htl)
              rw [getD_get htl] at h3
              have hZy := hTb.out l[t]
              obtain ⟨cz, _⟩ := hto.zcell l[t] (by rw [HTL2]; exact hy)
              have hsn := orP_snoc Z (l.take t) l[t]
              rw [← List.take_succ_eq_append_getElem htl] at hsn
              have HSN := hid hsn; clear hsn
              have hol := outM_len F n j (orP Z (l.take t))
              have hog := outM_get F n j (orP Z (l.take t)) j hlt
              rw [if_neg (by omega), if_pos rfl] at hog
              obtain ⟨ci, fi⟩ := hown.zcell j (by rw [hol]; exact hlt)
              rw [hog] at ci
              have hlz : orP Z (l.take t) < 2 ^ 9 := orP_lt (fun k => by have := hTb.out k; omega) _
              have hstt := outM_set F n j (orP Z (l.take t))
              generalize l[t] = y at *
              generalize hz : Z.getD y 0 = z at *
              have e1 := (pow63 z (by omega)).1
              have e2 : ((2 ^ z : Nat) : Int) = 2 ^ z := by push_cast; rfl
              have h2z : 2 ^ z < 2 ^ 9 := Nat.pow_lt_pow_right (by omega) (by omega)
              have hor := orN (orP Z (l.take t)) (2 ^ z) (by omega) (by omega)
              rw [e2] at hor
              have hst := OwnI.store (hown.keeps (Keeps.refl wr).drew) j (by rw [zs_length, hol]; exact hlt) ((orP Z (l.take t) ||| 2 ^ z : Nat) : Int)
              rw [← zs_set, hstt] at hst
              have HST := hid hst; clear hst
              have HTO := hid ((hto.keeps (Keeps.refl wr).drew).other HST.out.2 (by omega))
              have HL3 := hid ((hl2.keeps (Keeps.refl wr).drew).setBelow (b := B) (o := j) (by omega) (.int .i64 ((orP Z (l.take t) ||| 2 ^ z : Nat) : Int)))
              have KW := hid kw; clear kw
              have hy' : (y : Int) < n := by omega
              clear hl2 hown e2 hto hol hog hz hstt
              generalize orP Z (l.take t) = s at *
              go_wp2_with fail
              go_region
              go_wp2
              go_roundw
              case rel => exact ⟨t + 1, by omega, by go_num, by first | exact HTO.out | (rw [hor]; exact HTO.out), by rw [HSN.out]; first | exact HST.out.1 | (rw [hor]; exact HST.out.1), by first | exact (Keeps.drew KW.out).grown HST.out.2 (fun k hk => by cases hk; omega) | (rw [hor]; exact (Keeps.drew KW.out).grown HST.out.2 (fun k hk => by cases hk; omega)), by first | exact HL3.out | (rw [hor]; exact HL3.out)⟩
              case measure => simp [intOf]; omega
            · have htl' : ¬ (t : Int) < l.length := by omega
              rw [List.take_of_length_le (by omega), ← HFJ.out, outM_next] at hown
              go_wp2_with fail
              go_roundw
              case rel => exact ⟨j + 1, by omega, by go_num, hto, hown, kw⟩
              case measure => simp [intOf]; omega
        · obtain rfl : j = n := by omega
          have hlt' : ¬ (j : Int) < j := by omega
          go_wp2_with fail
          go_ret
          exact ⟨_, rfl, by rw [← HEND.out]; exact hown, kw⟩
end Go.Proofs.YtponaoefpicfpaaGreatDoor
/- The library's comparison of numbers and of lists of numbers. -/
namespace Go.Proofs.YtponaoefpicfpaaGreatDoor
open Go.RowKit
theorem cmpL_step (x y : Nat) (a b : List Nat) : cmpL (x :: a) (y :: b) = if x < y then -1 else if y < x then 1 else cmpL a b := by
  unfold cmpL
  rw [lessL]
  by_cases h : x = y
  · subst h
    simp
  · rw [if_neg h]
    by_cases h1 : x < y
    · simp [h1]
    · have h2 : y < x := by omega
      simp [h1, h2, h]
theorem cmpL_nil : cmpL [] [] = 0 := by simp [cmpL, lessL]
theorem cmpL_nl (y : Nat) (b : List Nat) : cmpL [] (y :: b) = -1 := by simp [cmpL, lessL]
theorem cmpL_nr (x : Nat) (a : List Nat) : cmpL (x :: a) [] = 1 := by simp [cmpL, lessL]
theorem cmpL_drop (a b : List Nat) (i : Nat) (ha : i < a.length) (hb : i < b.length) : cmpL (a.drop i) (b.drop i) = if a.getD i 0 < b.getD i 0 then -1 else if b.getD i 0 < a.getD i 0 then 1 else cmpL (a.drop (i + 1)) (b.drop (i + 1)) := by
  rw [List.drop_eq_getElem_cons ha, List.drop_eq_getElem_cons hb, cmpL_step, getD_get ha, getD_get hb]
--
theorem isNaN64_any (x : Int) (w : World) : Calls Tryz.prog 264 #[.int .i64 x] w fun e w' => e = .returned (.bool false) ∧ w = w' := by
  have h : (x != x) = false := by simp
  go_enter Tryz.func264, Tryz.ntmps264
  go_wp2_with fail
  go_ret
  exact ⟨rfl, rfl⟩
theorem compare64_any (x y : Int) (w : World) : Calls Tryz.prog 186 #[.int .i64 x, .int .i64 y] w fun e w' => e = .returned (.int .i64 (if x < y then -1 else if y < x then 1 else 0)) ∧ w = w' := by
  have HN := hid (fun z => isNaN64_any z w)
  by_cases h1 : x < y
  · rw [if_pos h1]
    go_enter Tryz.func186, Tryz.ntmps186
    go_wp2_with (go_at_call 264; refine (HN.out _).mono ?_; rintro e w' ⟨rfl, rfl⟩)
    go_ret
    exact ⟨rfl, rfl⟩
  · rw [if_neg h1]
    by_cases h2 : y < x
    · rw [if_pos h2]
      have h3 : x > y := h2
      go_enter Tryz.func186, Tryz.ntmps186
      go_wp2_with (go_at_call 264; refine (HN.out _).mono ?_; rintro e w' ⟨rfl, rfl⟩)
      go_ret
      exact ⟨rfl, rfl⟩
    · rw [if_neg h2]
      have h3 : ¬ x > y := h2
      go_enter Tryz.func186, Tryz.ntmps186
      go_wp2_with (go_at_call 264; refine (HN.out _).mono ?_; rintro e w' ⟨rfl, rfl⟩)
      go_ret
      exact ⟨rfl, rfl⟩
--
set_option maxRecDepth 20000 in
set_option maxHeartbeats 1000000 in
theorem compareI_any (a b : List Nat) (va vb : Value) (w : World) (hva : Ints w va (zs a)) (hvb : Ints w vb (zs b)) :
    Calls Tryz.prog 182 #[va, vb] w fun e w' => e = .returned (.int .i64 (cmpL a b)) ∧ w = w' := by
  have hva0 := hva
  have hvb0 := hvb
  obtain ⟨p, cap, rfl, _, hmx, _, hl1⟩ := hva
  obtain ⟨q, cap2, rfl, _, hmx2, _, hl2⟩ := hvb
  unfold maxLen at hmx hmx2
  rw [zs_length a] at *
  rw [zs_length b] at *
  have HA := hid (fun i (hi : i < a.length) => hva0.zs_cell i hi)
  have HB := hid (fun i (hi : i < b.length) => hvb0.zs_cell i hi)
  clear hva0 hvb0
  have HD := hid (cmpL_drop a b)
  have HE1 : Hid (a.length < b.length → cmpL (a.drop a.length) (b.drop a.length) = -1) := hid fun h => by
    rw [List.drop_length, List.drop_eq_getElem_cons h, cmpL_nl]
  have HE2 : Hid (a.length = b.length → cmpL (a.drop a.length) (b.drop a.length) = 0) := hid fun h => by
    rw [List.drop_length, h, List.drop_length, cmpL_nil]
  have HE3 : Hid (∀ i, i < a.length → b.length = i → cmpL (a.drop i) (b.drop i) = 1) := hid fun i h e => by
    subst e
    rw [List.drop_length, List.drop_eq_getElem_cons h, cmpL_nr]
  have hst : cmpL a b = cmpL (a.drop 0) (b.drop 0) := rfl
  rw [hst]
  clear hst
  obtain ⟨D, hD⟩ : ∃ D : Nat → Int, ∀ i, D i = cmpL (a.drop i) (b.drop i) := ⟨fun i => cmpL (a.drop i) (b.drop i), fun _ => rfl⟩
  obtain ⟨A, hA⟩ : ∃ A : Nat → Nat, ∀ i, A i = a.getD i 0 := ⟨fun i => a.getD i 0, fun _ => rfl⟩
  obtain ⟨B, hB⟩ : ∃ B : Nat → Nat, ∀ i, B i = b.getD i 0 := ⟨fun i => b.getD i 0, fun _ => rfl⟩
  simp only [← hD, ← hA, ← hB] at *
  clear hD hA hB
  have HC := hid (fun x y => compare64_any x y w)
  generalize a.length = n at *
  generalize b.length = m at *
  go_enter Tryz.func182, Tryz.ntmps182
  go_wp2_with fail
  go_loopw [11] (fun i' wr => ∃ i : Nat, i ≤ n ∧ i ≤ m ∧ i' = .int .i64 i ∧ Hid (D i = D 0) ∧ w = wr) (fun i' _ => n - (intOf i').toNat)
  case atStart => exact ⟨0, by omega, by omega, rfl, hid rfl, rfl⟩
  case round =>
    obtain ⟨i, hi, hi2, rfl, HI, rfl⟩ := hrel
    by_cases hlt : i < n
    · have hlt' : (i : Int) < n := by omega
      obtain ⟨b1, o1, rfl, h1⟩ := HA.out i hlt
      by_cases hlm : i < m
      · have hlm' : ¬ ((i : Int) ≥ m) := by omega
        have hlm2 : (i : Int) < m := by omega
        obtain ⟨b2, o2, rfl, h2⟩ := HB.out i hlm
        have hd := HD.out i hlt hlm
        have HCC := hid (HC.out (A i) (B i))
        by_cases hx : A i < B i
        · rw [if_pos hx] at hd
          have h5 : ((A i : Nat) : Int) < (B i : Nat) := by omega
          rw [if_pos h5] at HCC
          have HX := hid hd; clear hd
          clear hx h5
          generalize A i = x at *
          generalize B i = y at *
          go_wp2_with fail
          refine HCC.out.mono ?_; rintro e w' ⟨rfl, rfl⟩
          go_wp2_with fail
          go_ret
          exact ⟨ret_int (by rw [← HI.out, HX.out]), rfl⟩
        · rw [if_neg hx] at hd
          have h5 : ¬ ((A i : Nat) : Int) < (B i : Nat) := by omega
          rw [if_neg h5] at HCC
          by_cases hy : B i < A i
          · rw [if_pos hy] at hd
            have h6 : ((B i : Nat) : Int) < (A i : Nat) := by omega
            rw [if_pos h6] at HCC
            have HX := hid hd; clear hd
            clear hx h5 hy h6
            generalize A i = x at *
            generalize B i = y at *
            go_wp2_with fail
            refine HCC.out.mono ?_; rintro e w' ⟨rfl, rfl⟩
            go_wp2_with fail
            go_ret
            exact ⟨ret_int (by rw [← HI.out, HX.out]), rfl⟩
          · rw [if_neg hy] at hd
            have h6 : ¬ ((B i : Nat) : Int) < (A i : Nat) := by omega
            rw [if_neg h6] at HCC
            have HX := hid hd; clear hd
            clear hx h5 hy h6
            generalize A i = x at *
            generalize B i = y at *
            go_wp2_with fail
            refine HCC.out.mono ?_; rintro e w' ⟨rfl, rfl⟩
            go_wp2_with fail
            go_roundw
            case rel => exact ⟨i + 1, by omega, by omega, by go_num, hid (by rw [← HX.out]; exact HI.out), trivial⟩
            case measure => simp [intOf]; omega
      · have hlm' : (i : Int) ≥ m := by omega
        have HX := hid (HE3.out i hlt (by omega))
        go_wp2_with fail
        go_ret
        exact ⟨ret_int (by rw [← HI.out, HX.out]), rfl⟩
    · have e : n = i := by omega
      subst e
      have hlt' : ¬ (n : Int) < n := by omega
      by_cases hlm : n < m
      · have hlm' : (n : Int) < m := by omega
        have HX := hid (HE1.out hlm)
        go_wp2_with fail
        go_ret
        exact ⟨ret_int (by rw [← HI.out, HX.out]), rfl⟩
      · have hlm' : ¬ (n : Int) < m := by omega
        have HX := hid (HE2.out (by omega))
        go_wp2_with fail
        go_ret
        exact ⟨ret_int (by rw [← HI.out, HX.out]), rfl⟩
end Go.Proofs.YtponaoefpicfpaaGreatDoor
