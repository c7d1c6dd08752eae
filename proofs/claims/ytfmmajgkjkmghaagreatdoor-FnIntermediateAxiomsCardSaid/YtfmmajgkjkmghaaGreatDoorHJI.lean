import Derived.Test.YtfmmajgkjkmghaaGreatDoorHK1
import Derived.Test.YtfmmajgkjkmghaaGreatDoorHL1
import Derived.Deep.RegionLaw
import Derived.Deep.RegionHeld3
import Derived.Test.YtfmmajgkjkmghaaGreatDoorHAL
import Derived.Test.YtfmmajgkjkmghaaGreatDoorHQU
import Derived.Test.YtfmmajgkjkmghaaGreatDoorHOQ
/- Draws: numbers picked out of a list; a formula that is bent; any formula. -/
namespace Go.Proofs.YtfmmajgkjkmghaaGreatDoor
open Go.RowKit
theorem OwnI.dr {w w' : World} {B b : Nat} {v : Value} {a : List Int} (h : OwnI w b v a) (k : Dr B w w') (hB : B < b) : OwnI w' b v a := own_touch h k.1 (fun i hi e => by have := (h.len i hi).1; omega)
set_option maxRecDepth 20000 in
theorem l01Pick_any (B b : Nat) (xs : List Int) (v : Value) (w : World) (hs : Src w B) (hv : OwnI w b v xs) (hB : B < b) (hp : 0 < xs.length) (hl : xs.length ≤ 1000) :
  Calls Tryz.prog 38 #[.pointer (some ⟨B, 0, none⟩), v] w fun e w' => ∃ x ∈ xs, e = .returned (.int .i64 x) ∧ Dr B w w' := by
 have hv0 := hv
 obtain ⟨g, cap, rfl, _, _, _, hmx⟩ := hv.shape hp
 unfold maxLen at hmx
 clear hv
 go_enter Tryz.func38, Tryz.ntmps38
 go_wp2_with fail
 refine (l01Next_any (xs.length : Int) B w hs (by omega)).mono ?_; rintro e w2 ⟨r, rfl, hr, d2⟩
 have hrl : r < xs.length := by omega
 have hrl' : (r : Int) < xs.length := by omega
 obtain ⟨hc, _⟩ := (hv0.dr d2 hB).cell r hrl
 go_wp2_with fail
 go_ret
 exact ⟨xs[r], List.getElem_mem hrl, rfl, d2⟩
theorem OwnI.lit (w : World) (xs : List Int) (hl : xs.length ≤ maxLen) : OwnI (w.alloc (.cells (intCells xs).toArray 2)) w.heap.size (.slice (some ⟨w.heap.size, 0, none⟩) xs.length xs.length) xs :=
 ⟨by simp [intCells], .inr ⟨w.heap.size, xs.length, _, rfl, Nat.le_refl _, heap_alloc_new w _, Nat.le_refl _, hl, by simp [intCells], by rw [List.take_of_length_le (by simp [intCells])]⟩⟩
theorem Dr.beside {B g : Nat} {a b c : World} (h : Dr B a b) (k : Touch b c (fun i => i = g)) (hg : B < g) (ha : a.heap.size ≤ g) : Dr B a c := by
 have hs : Src c B := by
  obtain ⟨v, n, x, hh, c0, c1, c2, f1, f2, hx, p, cap, e, q1, q2, q3⟩ := h.2
  have hBl := World.block_lt_of_cell? _ _ c0
  have kc := k.cell hBl (show ¬ B = g by omega)
  refine ⟨v, n, x, hh, by rw [kc.1]; exact c0, by rw [kc.1]; exact c1, by rw [kc.1]; exact c2, by rw [kc.2]; exact f1, by rw [kc.2]; exact f2, hx, p, cap, e, q1, q2, fun j hj => ?_⟩
  obtain ⟨b', off, y, e2, hc, hy, hb⟩ := q3 j hj
  exact ⟨b', off, y, e2, by rw [(k.cell (b := b') (World.block_lt_of_cell? _ _ hc) (by omega)).1]; exact hc, hy, hb⟩
 refine ⟨⟨k.os.trans h.1.os, k.tape.trans h.1.tape, k.output.trans h.1.output, Nat.le_trans h.1.size k.size, fun i hi hn => ?_⟩, hs⟩
 rw [k.block i (Nat.lt_of_lt_of_le hi h.1.size) (by omega)]
 exact h.1.block i hi hn
end Go.Proofs.YtfmmajgkjkmghaaGreatDoor
namespace Go.Proofs.YtfmmajgkjkmghaaGreatDoor
open Go.RowKit
def outM (F : Nat → Nat) (n i z : Nat) : List Nat := (List.range n).map fun j => if j < i then F j else if j = i then z else 0
theorem outM_len (F : Nat → Nat) (n i z : Nat) : (outM F n i z).length = n := by simp [outM]
theorem outM_get (F : Nat → Nat) (n i z j : Nat) (h : j < n) : (outM F n i z).getD j 0 = if j < i then F j else if j = i then z else 0 := by simp [outM, List.getD_eq_getElem?_getD, h]
theorem outM_start (F : Nat → Nat) (n : Nat) : outM F n 0 0 = List.replicate n 0 := by
 refine List.ext_getElem (by simp [outM]) fun i h1 h2 => ?_
 simp [outM]
theorem outM_set (F : Nat → Nat) (n i z y : Nat) : (outM F n i z).set i y = outM F n i y := by
 refine List.ext_getElem (by simp [outM]) fun j h1 h2 => ?_
 rw [List.getElem_set]
 simp only [outM, List.getElem_map, List.getElem_range]
 by_cases e : i = j
 ·subst e; simp
 ·rw [if_neg e, if_neg (Ne.symm e), if_neg (Ne.symm e)]
theorem outM_next (F : Nat → Nat) (n i : Nat) : outM F n i (F i) = outM F n (i + 1) 0 := by
 unfold outM
 refine List.map_congr_left fun j _ => ?_
 by_cases h1 : j < i
 ·rw [if_pos h1, if_pos (by omega)]
 ·by_cases h2 : j = i
  ·subst h2; rw [if_neg h1, if_pos rfl, if_pos (by omega)]
  ·rw [if_neg h1, if_neg h2, if_neg (by omega)]; simp
theorem outM_end (a o : List Nat) (F : Nat → Nat) (hF : ∀ j, F j = orP (toP o.length o o.length) (memB (a.getD (o.getD j 0) 0))) : outM F o.length o.length 0 = renQ a o := by
 unfold outM renQ
 refine List.ext_getElem (by simp) fun j h1 h2 => ?_
 have hj : j < o.length := by simpa using h1
 simp only [List.getElem_map, List.getElem_range]
 rw [if_pos hj, hF, getD_get hj]
theorem OwnI.other {w w' : World} {B g g' n c : Nat} {x : List Int} (h : OwnI w B (.slice (some ⟨g, 0, none⟩) n c) x) (k : w.grownBy w' (some g')) (hne : g ≠ g') : OwnI w' B (.slice (some ⟨g, 0, none⟩) n c) x :=
 h.touch (Touch.grown k) (fun i hi e => by
  have h1 : g = i := by simpa [Value.ownBlock] using hi
  have h2 : i = g' := by simpa using e
  omega)
theorem OwnI.zcell {w : World} {B g n cap : Nat} {l : List Nat} (h : OwnI w B (.slice (some ⟨g, 0, none⟩) n cap) (zs l)) (i : Nat) (hi : i < l.length) :
  w.cell? ⟨g, i, none⟩ = some (.int .i64 (l.getD i 0 : Nat)) ∧ w.frozen? ⟨g, i, none⟩ = false := by
 obtain ⟨c, f⟩ := h.cell i (by rw [zs_length]; exact hi)
 rw [zs_get, ← getD_get hi] at c
 exact ⟨c, f⟩
set_option maxRecDepth 20000 in
set_option maxHeartbeats 2000000 in
theorem reordered_any (a o : List Nat) (va vo : Value) (w : World) (hva : Ints w va (zs a)) (hvo : Ints w vo (zs o)) (hn8 : o.length ≤ 8) (hal : a.length = o.length) (hlo : ∀ x ∈ o, x < o.length) (hab : Bnd o.length a) :
  Calls Tryz.prog 79 #[va, vo] w (RetI w (zs (renQ a o))) := by
 have h256 := two8 hn8
 have hva0 := hva
 have hvo0 := hvo
 obtain ⟨p, cap, rfl, _, hmx, _, _⟩ := hva
 obtain ⟨q, cap2, rfl, _, hmx2, _, _⟩ := hvo
 unfold maxLen at hmx hmx2
 rw [zs_length a] at *
 rw [zs_length o] at *
 have HVA := hid (fun i (hi : i < a.length) wr (k : Keeps w wr) => (hva0.keeps k).zs_cell i hi)
 clear hva0
 rw [hal] at *
 clear hal
 obtain ⟨wm, hmk, hown0, km⟩ := run_makeI w o.length (by omega)
 rw [← zs_rep] at hown0
 have hT : Hid (∀ i, toP o.length o (i + 1) = (toP o.length o i).set (o.getD i 0) i) := hid fun _ => rfl
 have hTl : ∀ i, (toP o.length o i).length = o.length := toP_len _ _
 have hTb : Hid (∀ j, (toP o.length o o.length).getD j 0 ≤ 8) := hid fun j => Nat.le_trans (toP_le _ _ _ j) hn8
 have HT0 : Hid (toP o.length o 0 = List.replicate o.length 0) := hid rfl
 rw [← HT0.out] at hown0
 clear HT0
 obtain ⟨F, hF⟩ : ∃ F : Nat → Nat, ∀ j, F j = orP (toP o.length o o.length) (memB (a.getD (o.getD j 0) 0)) := ⟨_, fun _ => rfl⟩
 have HEND := hid (outM_end a o F hF)
 have HF := hid hF; clear hF
 have HLO : Hid (∀ i, i < o.length → o.getD i 0 < o.length) := hid fun i hi => by rw [getD_get hi]; exact hlo _ (List.getElem_mem hi)
 clear hlo
 have HVO := hid (fun i (hi : i < o.length) wr (k : Keeps w wr) => (hvo0.keeps k).zs_cell i hi)
 clear hvo0
 generalize renQ a o = R at *
 have HO0 := hid hown0; clear hown0
 have KM := hid km; clear km
 have HTL := hid hTl; clear hTl
 generalize hT2 : toP o.length o = T at *
 clear hT2
 generalize hn : o.length = n at *
 have HN := hid hn; clear hn
 obtain ⟨O, hO⟩ : ∃ O : Nat → Nat, ∀ i, O i = o.getD i 0 := ⟨fun i => o.getD i 0, fun _ => rfl⟩
 obtain ⟨A, hA⟩ : ∃ A : Nat → Nat, ∀ i, A i = a.getD i 0 := ⟨fun i => a.getD i 0, fun _ => rfl⟩
 have HAB : Hid (∀ i, A i < 2 ^ n) := hid fun i => by rw [hA]; exact hab i
 simp only [← hO] at hT HLO HVO HF
 simp only [← hA] at HVA HF
 clear hO hA hab
 go_enter Tryz.func79, Tryz.ntmps79
 go_wp2
 clear hmk
 go_loopw [18] (fun i' wr => ∃ i : Nat, i ≤ n ∧ i' = .int .i64 i ∧ OwnI wr w.heap.size (.slice (some ⟨w.heap.size, 0, none⟩) n n) (zs (T i)) ∧ Keeps w wr) (fun i' _ => n - (intOf i').toNat)
 case atStart => exact ⟨0, by omega, rfl, HO0.out, KM.out⟩
 case round =>
  obtain ⟨i, hi, rfl, hown, kw⟩ := hrel
  clear HO0 KM
  by_cases hlt : i < n
  ·have hlt' : (i : Int) < n := by omega
   obtain ⟨b1, o1, rfl, h1⟩ := HVO.out i hlt wr kw
   have hx := HLO.out i hlt
   have hx' : (O i : Int) < n := by omega
   have hti := HTL.out i
   obtain ⟨old, ci⟩ : ∃ old, wr.cell? ⟨w.heap.size, O i, none⟩ = some old := ⟨_, (hown.cell (O i) (by rw [zs_length, hti]; exact hx)).1⟩
   have fi := (hown.cell (O i) (by rw [zs_length, hti]; exact hx)).2
   have hst := hown.store (O i) (by rw [zs_length, hti]; exact hx) (i : Int)
   rw [← zs_set, ← hT.out] at hst
   have HST := hid hst; clear hst
   have KW := hid kw; clear kw
   clear hown hti
   generalize O i = x at *
   go_wp2_with fail
   go_roundw
   case rel => exact ⟨i + 1, by omega, by go_num, HST.out.1, KW.out.grown HST.out.2 (fun k hk => by cases hk; simp)⟩
   case measure => simp [intOf]; omega
  ·have e : n = i := by omega
   subst e
   have hlt' : ¬ (n : Int) < n := by omega
   obtain ⟨wm, hmk, hown2, km⟩ := run_makeI wr n (by omega)
   rw [← zs_rep, ← outM_start F] at hown2
   have hto := hown.keeps km
   have hsz := (hown.len _ rfl).2
   have KM := hid (kw.trans km); clear km kw
   have HO := hid hto; clear hto hown
   have HO2 := hid hown2; clear hown2
   have HTL2 := HTL.out n
   generalize T n = Z at *
   generalize hB : wr.heap.size = B at *
   have HB := hid hB; clear hB
   go_wp2
   clear hmk
   go_loopw [33] (fun i' wr => ∃ j : Nat, j ≤ n ∧ i' = .int .i64 j ∧ OwnI wr w.heap.size (.slice (some ⟨w.heap.size, 0, none⟩) n n) (zs Z) ∧ OwnI wr w.heap.size (.slice (some ⟨B, 0, none⟩) n n) (zs (outM F n j 0)) ∧ Keeps w wr) (fun i' _ => n - (intOf i').toNat)
   case atStart => exact ⟨0, by omega, rfl, HO.out, HO2.out.mono (by omega), KM.out⟩
   case round =>
    obtain ⟨j, hj, rfl, hto, hown, kw⟩ := hrel
    clear HO HO2 KM
    by_cases hlt : j < n
    ·have hlt' : (j : Int) < n := by omega
     have hx := HLO.out j hlt
     have hx' : (O j : Int) < n := by omega
     obtain ⟨b1, o1, e1, h1⟩ := HVO.out j hlt wr kw
     obtain ⟨b2, o2, e2, h2⟩ := HVA.out (O j) hx wr kw
     subst e1 e2
     have hax := HAB.out (O j)
     have HFJ := hid (HF.out j)
     generalize O j = x at *
     have HM := hid (fun w2 => membersB_any (A x) w2 (by omega))
     have HL := hid (fun y (h : y ∈ memB (A x)) => memB_lt hax h)
     have hml : (memB (A x)).length ≤ 8 := lowB_len _ 8
     generalize memB (A x) = l at *
     generalize A x = ax at *
     go_wp2_with fail
     refine (HM.out _).mono ?_; rintro e w2 ⟨v2, rfl, hv2, k2⟩
     obtain ⟨p2, c2, rfl, _, hm2, _, _⟩ := hv2.ints (by rw [zs_length]; omega)
     unfold maxLen at hm2
     rw [zs_length] at *
     have hBs := (hown.len _ rfl).2
     have HTO := hid (hto.keeps k2); clear hto
     have HO := hid (hown.keeps k2); clear hown
     have KW := hid (kw.trans k2); clear kw
     have HV2 := hid hv2; clear hv2
     generalize hB0 : wr.heap.size = B0 at *
     have HB0 := hid hB0; clear hB0
     clear h1 h2
     go_wp2
     go_loopw [44] (fun t' wr' => ∃ t : Nat, t ≤ l.length ∧ t' = .int .i64 t ∧ OwnI wr' w.heap.size (.slice (some ⟨w.heap.size, 0, none⟩) n n) (zs Z) ∧ OwnI wr' w.heap.size (.slice (some ⟨B, 0, none⟩) n n) (zs (outM F n j (orP Z (l.take t)))) ∧ Keeps w wr' ∧ OwnI wr' B0 (.slice p2 l.length c2) (zs l)) (fun t' _ => l.length - (intOf t').toNat)
     case atStart => exact ⟨0, by omega, rfl, HTO.out, HO.out, KW.out, HV2.out⟩
     case round =>
      obtain ⟨t, ht, rfl, hto, hown, kw, hl2⟩ := hrel
      clear HO KW HV2 HTO
      by_cases htl : t < l.length
      ·have htl' : (t : Int) < l.length := by omega
       obtain ⟨b3, o3, e3, h3⟩ := (hl2.ints (by rw [zs_length]; omega)).zs_cell t htl
       subst e3
       have hy := HL.out l[t] (List.getElem_mem htl)
       rw [getD_get htl] at h3
       have hZy := hTb.out l[t]
       obtain ⟨cz, _⟩ := hto.zcell l[t] (by rw [HTL2]; exact hy)
       have hsn := orP_snoc Z (l.take t) l[t]
       rw [← List.take_succ_eq_append_getElem htl] at hsn
       have HSN := hid hsn; clear hsn
       have hol := outM_len F n j (orP Z (l.take t))
       have hog := outM_get F n j (orP Z (l.take t)) j hlt
       rw [if_neg (by omega), if_pos rfl] at hog
       obtain ⟨ci, fi⟩ := hown.zcell j (by rw [hol]; exact hlt)
       rw [hog] at ci
       have hlz : orP Z (l.take t) < 2 ^ 9 := orP_lt (fun k => by have := hTb.out k; omega) _
       have hstt := outM_set F n j (orP Z (l.take t))
       generalize l[t] = y at *
       generalize hz : Z.getD y 0 = z at *
       have e1 := (pow63 z (by omega)).1
       have e2 : ((2 ^ z : Nat) : Int) = 2 ^ z := by push_cast; rfl
       have h2z : 2 ^ z < 2 ^ 9 := Nat.pow_lt_pow_right (by omega) (by omega)
       have hor := orN (orP Z (l.take t)) (2 ^ z) (by omega) (by omega)
       rw [e2] at hor
       have hst := OwnI.store (hown.keeps (Keeps.refl wr).drew) j (by rw [zs_length, hol]; exact hlt) ((orP Z (l.take t) ||| 2 ^ z : Nat) : Int)
       rw [← zs_set, hstt] at hst
       have HST := hid hst; clear hst
       have HTO := hid ((hto.keeps (Keeps.refl wr).drew).other HST.out.2 (by omega))
       have HL3 := hid ((hl2.keeps (Keeps.refl wr).drew).setBelow (b := B) (o := j) (by omega) (.int .i64 ((orP Z (l.take t) ||| 2 ^ z : Nat) : Int)))
       have KW := hid kw; clear kw
       have hy' : (y : Int) < n := by omega
       clear hl2 hown e2 hto hol hog hz hstt
       generalize orP Z (l.take t) = s at *
       go_wp2_with fail
       go_region
       go_wp2
       go_roundw
       case rel => exact ⟨t + 1, by omega, by go_num, by first | exact HTO.out | (rw [hor]; exact HTO.out), by rw [HSN.out]; first | exact HST.out.1 | (rw [hor]; exact HST.out.1), by first | exact (Keeps.drew KW.out).grown HST.out.2 (fun k hk => by cases hk; omega) | (rw [hor]; exact (Keeps.drew KW.out).grown HST.out.2 (fun k hk => by cases hk; omega)), by first | exact HL3.out | (rw [hor]; exact HL3.out)⟩
       case measure => simp [intOf]; omega
      ·have htl' : ¬ (t : Int) < l.length := by omega
       rw [List.take_of_length_le (by omega), ← HFJ.out, outM_next] at hown
       go_wp2_with fail
       go_roundw
       case rel => exact ⟨j + 1, by omega, by go_num, hto, hown, kw⟩
       case measure => simp [intOf]; omega
    ·obtain rfl : j = n := by omega
     have hlt' : ¬ (j : Int) < j := by omega
     go_wp2_with fail
     go_ret
     exact ⟨_, rfl, by rw [← HEND.out]; exact hown, kw⟩
end Go.Proofs.YtfmmajgkjkmghaaGreatDoor
namespace Go.Proofs.YtfmmajgkjkmghaaGreatDoor
open Go.RowKit
def rfL (a : List Nat) (k : Nat) : List Nat := (List.range k).map fun i => a.getD i 0 ||| 2 ^ i
theorem rfL_succ (a : List Nat) (k : Nat) : rfL a (k + 1) = rfL a k ++ [a.getD k 0 ||| 2 ^ k] := by simp [rfL, List.range_succ]
theorem rfL_len (a : List Nat) (k : Nat) : (rfL a k).length = k := by simp [rfL]
theorem rfL_bnd {a : List Nat} {n : Nat} (h : Bnd n a) (hn : a.length ≤ n) : Bnd n (rfL a a.length) := mem_bnd fun x hx => by
 obtain ⟨i, hi, rfl⟩ := List.mem_map.1 hx
 have hi := List.mem_range.1 hi
 exact Nat.or_lt_two_pow (h i) (Nat.pow_lt_pow_right (by omega) (by omega))
set_option maxRecDepth 20000 in
set_option maxHeartbeats 1000000 in
theorem l01Reflexive_any (a : List Nat) (v : Value) (w : World) (hv : Ints w v (zs a)) (h8 : a.length ≤ 8) (hb : Bnd 8 a) :
  Calls Tryz.prog 86 #[v] w (RetI w (zs (rfL a a.length))) := by
 have hv0 := hv
 obtain ⟨p, cap, rfl, -, hmx, -, -⟩ := hv
 rw [zs_length a] at *
 unfold maxLen at hmx
 have HV := hid hv0; clear hv0
 have H0 : Hid (zs (rfL a 0) = []) := hid rfl
 have HB := hid hb; clear hb
 have HS := hid (fun k => rfL_succ a k)
 have HLN := hid (fun k => show (zs (rfL a k)).length = k by rw [zs_length, rfL_len])
 obtain ⟨R, hR⟩ : ∃ R : Nat → List Nat, ∀ k, R k = rfL a k := ⟨_, fun _ => rfl⟩
 obtain ⟨A, hA⟩ : ∃ A : Nat → Nat, ∀ k, A k = a.getD k 0 := ⟨_, fun _ => rfl⟩
 have HVC := hid (fun i (hi : i < a.length) wr (k : Keeps w wr) => (HV.out.keeps k).zs_cell i hi)
 have HAB := hid (fun i => HB.out i)
 simp only [← hR, ← hA] at *
 clear hR hA HV HB
 generalize a.length = n at *
 go_enter Tryz.func86, Tryz.ntmps86
 go_wp2_with fail
 go_loopw [3, 4] (fun s3 s4 wr => ∃ i : Nat, i ≤ n ∧ s4 = .int .i64 i ∧ OwnI wr w.heap.size s3 (zs (R i)) ∧ Keeps w wr) (fun _ s4 _ => n - (intOf s4).toNat)
 case atStart => exact ⟨0, by omega, rfl, by rw [H0.out]; exact OwnI.empty w, (Keeps.refl w).alloc _⟩
 case round =>
  obtain ⟨i, hi, rfl, hown, kw⟩ := hrel
  by_cases hlt : i < n
  ·have hlt' : (i : Int) < n := by omega
   obtain ⟨b1, o1, e1, h1⟩ := HVC.out i hlt wr kw
   cases e1
   have hsi := HS.out i
   have hab := HAB.out i
   have hzl := HLN.out i
   generalize A i = x at *
   have H1 := hid (fun wz => l01One_any (i : Int) wz (by omega) (by omega))
   simp only [Int.toNat_natCast] at H1
   have hor : bits .or .i64 (x : Int) ((2 : Int) ^ i) = ((x ||| 2 ^ i : Nat) : Int) := by
    have hp : (2 : Nat) ^ i < 2 ^ 8 := Nat.pow_lt_pow_right (by omega) (by omega)
    have := orN x (2 ^ i) (by omega) (by omega)
    rwa [show ((2 ^ i : Nat) : Int) = (2 : Int) ^ i by push_cast; rfl] at this
   generalize (2 : Int) ^ i = P at *
   generalize (x ||| 2 ^ i) = y at *
   have hsz := kw.size
   have HSI := hid hsi; clear hsi
   go_wp2_with fail
   go_region_law (first | (go_simp; go_at_call 91; refine (H1.out _).mono ?_; rintro e w' ⟨rfl, rfl⟩) | (refine stepI rfl (.tmp 12) (.tmp 20) rfl w.heap.size _ (zs (R i)) rfl (by exact hown.keeps (by first | exact ((Keeps.refl wr).drew).alloc _ | exact ((Keeps.refl wr).alloc _).drew)) _ [_] rfl (by first | exact Ints.lit1 _ _ | exact (Ints.lit1 _ _).keeps ((Keeps.refl _).drew)) (by simp; omega) (by rw [hzl]; simp; omega) ?_; intro v1 w1 hv1 hg1 hr1))
   all_goals
    have k2 : Keeps w w1 := by
     refine Keeps.grown ?_ hg1 (by simpa using hr1)
     first | exact (kw.drew.alloc _) | exact (kw.alloc _).drew
    go_wp2
    go_roundw
    case rel => exact ⟨i + 1, by omega, by go_num, by rw [HSI.out, zs_snoc]; exact hv1, k2⟩
    case measure => simp [intOf]; omega
  ·have e : n = i := by omega
   subst e
   have hlt' : ¬ (n : Int) < n := by omega
   go_wp2_with fail
   go_ret
   exact ⟨_, rfl, hown, kw⟩
set_option maxRecDepth 20000 in
set_option maxHeartbeats 1000000 in
theorem l01Closure_any (b : List Nat) (v : Value) (w : World) (hv : Ints w v (zs b)) (hb : b.length ≤ 8) (hbm : Bnd b.length b) :
  Calls Tryz.prog 85 #[v] w (RetI w (zs (wAll b b.length b.length))) := by
 rcases Nat.eq_zero_or_pos b.length with hz | hpos
 ·obtain rfl : b = [] := List.length_eq_zero_iff.1 hz
  have HC := hid (l01Own_any (zs []) v w hv)
  obtain ⟨p, cap, rfl, _⟩ := hv
  simp only [zs, List.map_nil, List.length_nil] at *
  go_enter Tryz.func85, Tryz.ntmps85
  go_wp2_with fail
  refine HC.out.mono ?_; rintro e w1 ⟨v1, rfl, hown, k1⟩
  obtain ⟨p1, c1, rfl, _, hmx, _, _⟩ := hown.ints (by simp)
  unfold maxLen at hmx
  simp only [List.length_nil] at *
  go_wp2
  go_loop [4] (fun j' => j' = .int .i64 0) (fun _ => 0)
  case atStart => rfl
  case round =>
   subst hrel
   go_wp2
   go_ret
   exact ⟨_, rfl, hown, k1⟩
 ·have HC := hid (l01Own_any (zs b) v w hv)
  have h256 := two8 hb
  obtain ⟨p, cap, rfl, _⟩ := hv
  go_enter Tryz.func85, Tryz.ntmps85
  go_wp2_with fail
  refine HC.out.mono ?_; rintro e w1 ⟨v1, rfl, hown, k1⟩
  obtain ⟨g, c1, rfl, hg, _, _, hmx⟩ := hown.shape (by rw [zs_length]; omega)
  unfold maxLen at hmx
  rw [zs_length] at *
  generalize hn : b.length = n at *
  go_wp2
  go_loopw [4] (fun j' wr => ∃ j : Nat, j ≤ n ∧ j' = .int .i64 j ∧ OwnI wr w.heap.size (.slice (some ⟨g, 0, none⟩) n c1) (zs (wAll b n j)) ∧ Keeps w wr) (fun j' _ => n - (intOf j').toNat)
  case atStart => exact ⟨0, by omega, rfl, hown, k1⟩
  case round =>
   obtain ⟨j, hj, rfl, hownj, kw⟩ := hrel
   clear hown k1
   by_cases hlt : j < n
   ·have hlt' : (j : Int) < n := by omega
    have HO := hid hownj; clear hownj
    have KW := hid kw; clear kw
    have HB := hid (wAll_bnd hbm n j)
    have hs : wAll b n (j + 1) = wRow (wAll b n j) j n := rfl
    have hlen : (wAll b n j).length = n := by rw [wAll_len]; exact hn
    have HS := hid hs; clear hs
    generalize wAll b n j = a at *
    go_wp2_with fail
    go_loopw [5] (fun i' wr' => ∃ i : Nat, i ≤ n ∧ i' = .int .i64 i ∧ OwnI wr' w.heap.size (.slice (some ⟨g, 0, none⟩) n c1) (zs (wRow a j i)) ∧ Keeps w wr') (fun i' _ => n - (intOf i').toNat)
    case atStart => exact ⟨0, by omega, rfl, HO.out, KW.out⟩
    case round =>
     obtain ⟨i, hi, rfl, hown, kw⟩ := hrel
     clear HO KW
     by_cases hit : i < n
     ·have hit' : (i : Int) < n := by omega
      have HBi := hid (wRow_bnd HB.out j i)
      have hli : (wRow a j i).length = n := by rw [wRow_len]; exact hlen
      have hs2 : wRow a j (i + 1) = wStep (wRow a j i) j i := rfl
      unfold wStep at hs2
      have HS2 := hid hs2; clear hs2
      generalize wRow a j i = r at *
      obtain ⟨ci, fi⟩ := hown.cell i (by rw [zs_length]; omega)
      obtain ⟨cj, fj⟩ := hown.cell j (by rw [zs_length]; omega)
      rw [zs_get] at ci cj
      rw [← getD_get] at ci cj
      have bi := HBi.out i
      have bj := HBi.out j
      have HH := hid (l01BitB_any (r.getD i 0) j wr (by omega) (by omega))
      have hst := OwnI.store (hown.keeps (Keeps.refl wr).drew) i (by rw [zs_length]; omega) ((r.getD i 0 ||| r.getD j 0 : Nat) : Int)
      rw [← zs_set] at hst
      have hor := orN (r.getD i 0) (r.getD j 0) (by omega) (by omega)
      cases hbit : (r.getD i 0).testBit j
      ·rw [hbit] at HH HS2
       rw [if_neg (by simp)] at HS2
       clear hst hbit cj hor
       have HO := hid hown; clear hown
       generalize r.getD i 0 = x at *
       go_wp2_with fail
       refine HH.out.mono ?_; rintro e w' ⟨rfl, rfl⟩
       go_wp2_with fail
       go_roundw
       case rel => exact ⟨i + 1, by omega, by go_num, by rw [HS2.out]; exact HO.out, kw⟩
       case measure => simp [intOf]; omega
      ·rw [hbit] at HH HS2
       rw [if_pos rfl] at HS2
       clear hbit hown
       have HST := hid hst; clear hst
       have KW := hid kw; clear kw
       generalize hx : r.getD i 0 = x at *
       generalize hy : r.getD j 0 = y at *
       go_wp2_with fail
       refine HH.out.mono ?_; rintro e w' ⟨rfl, rfl⟩
       go_wp2_with fail
       go_region
       go_wp2
       go_roundw
       case rel => exact ⟨i + 1, by omega, by go_num, by first | (rw [HS2.out, hor]; exact HST.out.1) | (rw [HS2.out]; exact HST.out.1), by first | (rw [hor]; exact (Keeps.drew KW.out).grown HST.out.2 (fun k hk => by cases hk; exact hg)) | exact (Keeps.drew KW.out).grown HST.out.2 (fun k hk => by cases hk; exact hg)⟩
       case measure => simp [intOf]; omega
     ·obtain rfl : i = n := by omega
      have hit' : ¬ (i : Int) < i := by omega
      go_wp2_with fail
      go_roundw
      case rel => exact ⟨j + 1, by omega, by go_num, by rw [HS.out]; exact hown, kw⟩
      case measure => simp [intOf]; omega
   ·obtain rfl : j = n := by omega
    have hlt' : ¬ (j : Int) < j := by omega
    go_wp2_with fail
    go_ret
    exact ⟨_, rfl, hownj, kw⟩
end Go.Proofs.YtfmmajgkjkmghaaGreatDoor
namespace Go.Proofs.YtfmmajgkjkmghaaGreatDoor
open Go.RowKit
def DrawO (B n : Nat) (w : World) (e : Ending) (w' : World) : Prop := ∃ v, ∃ o : List Nat, e = .returned v ∧ OwnI w' w.heap.size v (zs o) ∧ o.length = n ∧ (∀ x ∈ o, x < n) ∧ Dr B w w'
theorem range_snoc (k : Nat) : zs (List.range (k + 1)) = zs (List.range k) ++ [(k : Int)] := by rw [List.range_succ, zs_snoc]
theorem set_lt {o : List Nat} {n i x : Nat} (h : ∀ y ∈ o, y < n) (hx : x < n) : ∀ y ∈ o.set i x, y < n := by
 intro y hy
 rcases List.mem_or_eq_of_mem_set hy with h1 | h1
 ·exact h y h1
 ·omega
def ShRel (B n g cap : Nat) (w : World) (wr : World) : Prop := ∃ o : List Nat, OwnI wr w.heap.size (.slice (some ⟨g, 0, none⟩) n cap) (zs o) ∧ o.length = n ∧ (∀ x ∈ o, x < n) ∧ Dr B w wr
set_option maxRecDepth 20000 in
set_option maxHeartbeats 1000000 in
theorem l16Shuffle_any (B n : Nat) (hn : n ≤ 8) (w : World) (hs : Src w B) : Calls Tryz.prog 89 #[.pointer (some ⟨B, 0, none⟩), .int .i64 n] w (DrawO B n w) := by
 have hB := hs.lt
 have HSN := hid range_snoc
 have H0 : Hid (zs (List.range 0) = []) := hid rfl
 have HLN := hid (fun k => show (zs (List.range k)).length = k by rw [zs_length, List.length_range])
 have HRL := hid (fun x (h : x ∈ List.range n) => List.mem_range.1 h)
 have HRN : Hid ((List.range n).length = n) := hid (List.length_range)
 obtain ⟨R, hR⟩ : ∃ R : Nat → List Nat, ∀ k, R k = List.range k := ⟨_, fun _ => rfl⟩
 simp only [← hR] at *
 clear hR
 go_enter Tryz.func89, Tryz.ntmps89
 go_wp2_with fail
 go_loopw [5, 6] (fun s5 s6 wr => ∃ k : Nat, k ≤ n ∧ s6 = .int .i64 k ∧ OwnI wr w.heap.size s5 (zs (R k)) ∧ Keeps w wr) (fun _ s6 _ => n - (intOf s6).toNat)
 case atStart => exact ⟨0, by omega, rfl, by rw [H0.out]; exact OwnI.empty w, (Keeps.refl w).alloc _⟩
 case round =>
  obtain ⟨k, hk, rfl, hown, kw⟩ := hrel
  by_cases hlt : k < n
  ·have hlt' : (k : Int) < n := by omega
   have hzl := HLN.out k
   have hsn := HSN.out k
   have HSK := hid hsn; clear hsn
   have hsz := kw.size
   have kA := (Keeps.refl wr).alloc (.cells #[.int .i64 (k : Int)] 2)
   go_wp2_with (at_builtin; refine appI rfl _ _ rfl w.heap.size _ (zs (R k)) rfl (hown.keeps kA) _ [(k : Int)] rfl (Ints.lit1 wr k) (by simp; omega) (by rw [hzl]; simp; omega) ?_; intro v1 w1 hv1 hg1 hr1)
   go_roundw
   case rel => exact ⟨k + 1, by omega, by go_num, by rw [HSK.out]; exact hv1, (kw.trans kA).grown hg1 hr1⟩
   case measure => simp [intOf]; omega
  ·have e : n = k := by omega
   subst e
   have hlt' : ¬ (n : Int) < n := by omega
   have D := hid (Dr.of hs kw)
   rcases Nat.eq_zero_or_pos n with hz | hpos
   ·subst hz
    obtain ⟨p1, n1, q1, rfl⟩ := (show ∃ p n c, _ = Value.slice p n c by obtain ⟨p, c, e, _⟩ := At.of_own hown; exact ⟨p, _, c, e⟩)
    go_wp2_with fail
    go_loopw [7] (fun s7 wx => s7 = .int .i64 (-1) ∧ wx = wr) (fun _ _ => 0)
    case atStart => exact ⟨rfl, rfl⟩
    case round =>
     obtain ⟨rfl, rfl⟩ := hrel
     go_wp2_with fail
     go_ret
     exact ⟨_, R 0, rfl, hown, HRN.out, HRL.out, D.out⟩
   ·obtain ⟨g, cap, rfl, hg, hg2, hcap, hmx⟩ := hown.shape (by rw [HLN.out]; exact hpos)
    rw [HLN.out] at hown hcap ⊢
    unfold maxLen at hmx
    have HS := hid (show ShRel B n g cap w wr from ⟨R n, hown, HRN.out, HRL.out, D.out⟩)
    clear hown D kw hlt' hs HLN HSN H0 HRL HRN
    go_wp2_with fail
    go_loopw [7] (fun s7 wx => ∃ m : Nat, m < n ∧ s7 = .int .i64 m ∧ ShRel B n g cap w wx) (fun s7 _ => (intOf s7).toNat)
    case atStart => exact ⟨n - 1, by omega, by go_num, HS.out⟩
    case round =>
     obtain ⟨m, hm, rfl, o, hown, hol, hox, D⟩ := hrel
     have hwm : w.heap.size < wr.heap.size + 0 := by have := D.size; have := (hown.len g rfl).2; omega
     clear HS
     by_cases hm0 : 0 < m
     ·have hm0' : (0 : Int) < (m : Int) := by omega
      go_wp2_with fail
      refine (l01Next_any ((m : Int) + 1) B _ D.2 (by omega)).mono ?_; rintro e w3 ⟨r3, rfl, hr3, d3⟩
      have D3 := D.trans d3
      have hr : r3 < n := by omega
      have hr' : (r3 : Int) < n := by omega
      have hm' : (m : Int) < n := by omega
      have hown3 := hown.dr d3 (by omega)
      obtain ⟨c1, f1⟩ := hown3.zcell m (by omega)
      obtain ⟨c2, f2⟩ := hown3.zcell r3 (by omega)
      have hx1 : o.getD m 0 < n := by rw [getD_get (by omega)]; exact hox _ (List.getElem_mem _)
      have hx2 : o.getD r3 0 < n := by rw [getD_get (by omega)]; exact hox _ (List.getElem_mem _)
      obtain ⟨st1, gr1⟩ := hown3.store m (by rw [zs_length]; omega) ((o.getD r3 0 : Nat) : Int)
      rw [← zs_set] at st1
      have hox1 := set_lt (i := m) hox hx2
      have hol1 : (o.set m (o.getD r3 0)).length = n := by rw [List.length_set]; exact hol
      have D4 := D3.beside ((Touch.grown gr1).mono (fun k e => by simpa using e)) (show B < g by omega) hg
      obtain ⟨st2, gr2⟩ := st1.store r3 (by rw [zs_length, hol1]; omega) ((o.getD m 0 : Nat) : Int)
      rw [← zs_set] at st2
      have hox2 := set_lt (i := r3) hox1 hx1
      have D5 := D4.beside ((Touch.grown gr2).mono (fun k e => by simpa using e)) (show B < g by omega) hg
      obtain ⟨c3, f3⟩ := st1.zcell r3 (by rw [hol1]; omega)
      have HE := hid (show ShRel B n g cap w _ from ⟨_, st2, by rw [List.length_set]; exact hol1, hox2, D5⟩)
      clear st2 hox2 D5 gr2 hox1 hol1 D4 gr1 st1 hox hol hown hown3 D D3 d3
      generalize ((o.set m (o.getD r3 0)).getD r3 0) = z at *
      generalize o.getD m 0 = x1 at *
      generalize o.getD r3 0 = x2 at *
      go_wp2_with fail
      go_roundw
      case rel => exact ⟨m - 1, by omega, by go_num, HE.out⟩
      case measure => simp [intOf]; omega
     ·obtain rfl : m = 0 := by omega
      have HE := hid (show DrawO B n w (.returned (.slice (some ⟨g, 0, none⟩) n cap)) wr from ⟨_, o, rfl, hown, hol, hox, D⟩)
      clear hown hol hox D
      go_wp2_with fail
      go_ret
      exact HE.out
end Go.Proofs.YtfmmajgkjkmghaaGreatDoor
