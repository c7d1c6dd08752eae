/- The reference's first surviving type that refutes a sequent: l12First. (printed by mkxf.py) -/
import Derived.Test.YtkkcfifnkcnceaaGreatHXE
import Derived.Test.YtkkcfifnkcnceaaGreatHPY
import Derived.Test.YtkkcfifnkcnceaaGreatHMV
import Derived.Test.YtkkcfifnkcnceaaGreatHMJ
import Derived.Test.YtkkcfifnkcnceaaGreatRows
import Derived.Test.YtkkcfifnkcnceaaGreatHBase
import Derived.ProofKit
import Derived.OpenShut
import Derived.Deep.Slices
import Derived.Deep.Fields
import Derived.ChangeSame
import Derived.Test.YtkkcfifnkcnceaaGreatHD29
namespace Go.Proofs.YtkkcfifnkcnceaaGreat
open Go.RowKit
theorem madeB (n : Nat) : (madeCells (Value.cells (.bool false)) (n * 1)).toList = boolCells (List.replicate n false) := by
 rw [Nat.mul_one, show Value.cells (.bool false) = #[.bool false] from rfl, toList_madeCells_one]; simp [boolCells]
theorem run_makeB (w : World) (n : Nat) (hn : n ≤ 2147483648) : ∃ w', (Instr.makeSlice 100 (.int .i64 (n : Int)) (.int .i64 (n : Int))).run Tryz.prog w = .ok (.slice (some ⟨w.heap.size, 0, none⟩) n n) w' ∧
   OwnB w' w.heap.size (.slice (some ⟨w.heap.size, 0, none⟩) n n) (List.replicate n false) ∧ Keeps w w' := by
 obtain ⟨i0, hi, hz0, hz1, hz2⟩ := info_parts infoB
 obtain ⟨w', hr, ho, hg⟩ := run_make_full (P := Tryz.prog) w w.heap.size 100 4 i0 _ 1 Tryz.underlying100 hi hz0 hz1 .i64 .i64 n (by rw [hz2]; omega) (by unfold maxLen; omega) (Nat.le_refl _)
 refine ⟨w', hr, ?_, (Keeps.refl w).grown hg (by simp)⟩
 unfold OwnB
 rw [List.length_replicate, ← madeB]
 exact ho
def FsS (w1 w wr : World) (r g b : Nat) (E : List Fm) (l : List Nat) (c0 c1 c2 c3 c4 c5 : Value) (U : List ByteArray) (v u : Value) (n : Nat) (d : List Bool) : Prop :=
 ∃ c6 c7 ks, SpT w1 wr r g E l c0 c1 c2 c3 c4 c5 c6 c7 ks ks ∧ ks.Nodup ∧ (∀ k ∈ ks, k ∈ U) ∧ OwnB wr g (.slice (some ⟨g, 0, none⟩) n n) d ∧ BoxG wr b 26 [v, u] ∧ w.heap.size ≤ wr.heap.size ∧ g < wr.heap.size ∧ w1.heap.size ≤ g
section
variable {w1 w wr w' : World} {r g b : Nat} {E : List Fm} {l : List Nat} {c0 c1 c2 c3 c4 c5 : Value} {U : List ByteArray} {v u : Value} {n : Nat} {d : List Bool}
theorem FsS.touch (h : FsS w1 w wr r g b E l c0 c1 c2 c3 c4 c5 U v u n d) : Touch w1 wr (fun i => i = r) := by
 obtain ⟨c6, c7, ks, a, _⟩ := h
 exact a.tch
theorem FsS.cells (h : FsS w1 w wr r g b E l c0 c1 c2 c3 c4 c5 U v u n d) : wr.cell? ⟨b, 0, none⟩ = some v ∧ wr.cell? ⟨b, 1, none⟩ = some u ∧ wr.cell? ⟨r, 5, none⟩ = some c5 := by
 obtain ⟨c6, c7, ks, h1, h2, h3, h4, h5, h6, h7, h8⟩ := h
 exact ⟨h5.cell 0 (by simp), h5.cell 1 (by simp), h1.box.cell 5 (by simp)⟩
theorem FsS.at (h : FsS w1 w wr r g b E l c0 c1 c2 c3 c4 c5 U v u n d) (k : Nat) (hk : k < d.length) : wr.cell? ⟨g, k, none⟩ = some (.bool d[k]) ∧ wr.frozen? ⟨g, k, none⟩ = false := by
 obtain ⟨c6, c7, ks, h1, h2, h3, h4, _⟩ := h
 exact h4.cell k hk
theorem FsS.store (h : FsS w1 w wr r g b E l c0 c1 c2 c3 c4 c5 U v u n d) (k : Nat) (hk : k < d.length) (x : Bool) : FsS w1 w (wr.setCell ⟨g, k, none⟩ (.bool x)) r g b E l c0 c1 c2 c3 c4 c5 U v u n (d.set k x) ∧
  ∀ B v8 q, OwnB wr B v8 q → (∀ j, v8.ownBlock = some j → j ≠ g) → OwnB (wr.setCell ⟨g, k, none⟩ (.bool x)) B v8 q := by
 obtain ⟨c6, c7, ks, h1, h2, h3, h4, h5, h6, h7, h8⟩ := h
 have hs := h4.store k hk x
 have ht := Touch.grown hs.2
 refine ⟨⟨c6, c7, ks, h1.write h4 (fun i hi => by injection hi) h8 ht, h2, h3, hs.1, own_touch h5 ht (fun i e hi => type_ne h4 h5 (by decide) (k := i) (by rw [show i = g by injection hi]; rfl) e), Nat.le_trans h6 ht.size, Nat.lt_of_lt_of_le h7 ht.size, h8⟩, fun B v8 q ho hne => own_touch ho ht (fun i e hi => hne i e (by injection hi))⟩
end
theorem FsS.row {w1 w wr : World} {r g b L N : Nat} {E : List Fm} {sE : List ByteArray} {c0 c1 c2 c3 c4 c5 : Value} {U : List ByteArray} {v u : Value} {n : Nat} {d : List Bool} (h : FsS w1 w wr r g b E (livL L E N) c0 c1 c2 c3 c4 c5 U v u n d)
  (hF : SpF w1 r L E sE N c0 c1 c2 c3 c4 c5) (hE : EOk E sE N) (hUl : U.length ≤ 100000) (x : ByteArray) (hx : InE E x) (hxU : x ∈ U) :
  Calls Tryz.prog 74 #[.pointer (some ⟨r, 0, none⟩), .string x] wr fun e w' => ∃ v8, e = .returned v8 ∧ OwnB w' w1.heap.size v8 (rowT E (livL L E N) x) ∧ (∀ k, v8.ownBlock = some k → k ≠ g) ∧ FsS w1 w w' r g b E (livL L E N) c0 c1 c2 c3 c4 c5 U v u n d := by
 obtain ⟨c6, c7, ks, h1, h2, h3, h4, h5, h6, h7, h8⟩ := h
 refine (l12Row_any w1 r g L N E sE c0 c1 c2 c3 c4 c5 c6 c7 ks U x wr hF hE h1 hx h7 h2 h3 hxU hUl).mono ?_
 rintro e w' ⟨v8, d6, d7, js, rfl, a1, a2, a3, a4, a5, a6⟩
 exact ⟨v8, rfl, a1, a2, d6, d7, js, a3, a4, a5, a6.2 _ _ _ _ _ _ (by decide) (by decide) (by decide) h4, a6.2 _ _ _ _ _ _ (by decide) (by decide) (by decide) h5, Nat.le_trans h6 a6.1, Nat.lt_of_lt_of_le h7 a6.1, h8⟩
theorem fm_take {ss : List ByteArray} {i : Nat} (h : i < ss.length) : (fmL ss).take (i + 1) = (fmL ss).take i ++ [txF ss[i]] := by
 have hl : i < (fmL ss).length := by rw [fmL_len]; exact h
 rw [List.take_succ_eq_append_getElem hl, fmL_get h]
def allP (E A : List Fm) (i m : Nat) : Bool := (A.take i).all (valB E m)
def nonP (E A B : List Fm) (j m : Nat) : Bool := A.all (valB E m) && (B.take j).all (fun t => !valB E m t)
theorem allP_next (E : List Fm) {ss : List ByteArray} {i : Nat} (h : i < ss.length) (m : Nat) : allP E (fmL ss) (i + 1) m = (allP E (fmL ss) i m && valB E m (txF ss[i])) := by
 unfold allP
 rw [fm_take h, List.all_append]
 simp
theorem nonP_next (E A : List Fm) {ss : List ByteArray} {i : Nat} (h : i < ss.length) (m : Nat) : nonP E A (fmL ss) (i + 1) m = (nonP E A (fmL ss) i m && !valB E m (txF ss[i])) := by
 unfold nonP
 rw [fm_take h, List.all_append]
 simp [Bool.and_assoc]
theorem nonP_zero (E A B : List Fm) : nonP E A B 0 = allP E A A.length := by
 funext m
 unfold nonP allP
 rw [List.take_length]
 simp
theorem nonP_end (E A B : List Fm) : nonP E A B B.length = refB E A B := by
 funext m
 unfold nonP refB
 rw [List.take_length, List.not_any_eq_all_not]
theorem allP_zero (E A : List Fm) : allP E A 0 = fun _ => true := by funext m; simp [allP]
def FstR (w1 w : World) (r : Nat) (E : List Fm) (l : List Nat) (c0 c1 c2 c3 c4 c5 : Value) (U : List ByteArray) (j : Int) (e : Ending) (w' : World) : Prop :=
 ∃ g c6 c7 ks, e = .returned (.int .i64 j) ∧ SpT w1 w' r g E l c0 c1 c2 c3 c4 c5 c6 c7 ks ks ∧ ks.Nodup ∧ (∀ k ∈ ks, k ∈ U) ∧ w.heap.size ≤ w'.heap.size
set_option maxRecDepth 100000 in
set_option maxHeartbeats 8000000 in
theorem l12First_any (w1 : World) (r g0 L N : Nat) (E : List Fm) (sE : List ByteArray) (c0 c1 c2 c3 c4 c5 c6 c7 : Value) (ks U : List ByteArray) (ss tt : List ByteArray) (v u : Value) (w : World)
  (hF : SpF w1 r L E sE N c0 c1 c2 c3 c4 c5) (hE : EOk E sE N) (hT : SpT w1 w r g0 E (livL L E N) c0 c1 c2 c3 c4 c5 c6 c7 ks ks) (hnd : ks.Nodup) (hU : ∀ k ∈ ks, k ∈ U) (hUl : U.length ≤ 100000)
  (hss : ∀ x ∈ ss, InE E x ∧ x ∈ U) (htt : ∀ x ∈ tt, InE E x ∧ x ∈ U) (hv : ∀ w', Touch w1 w' (fun i => i = r) → Strs w' v ss) (hu : ∀ w', Touch w1 w' (fun i => i = r) → Strs w' u tt) :
  Calls Tryz.prog 35 #[.pointer (some ⟨r, 0, none⟩), .agg #[v, u]] w (FstR w1 w r E (livL L E N) c0 c1 c2 c3 c4 c5 U (fstI L E N (fmL ss) (fmL tt))) := by
 have HFI := hid (fstI_livL L E N (fmL ss) (fmL tt))
 have hLL := livL_len L E N
 have hN := hE.hN
 have kb := (Keeps.refl w).alloc (.cells #[v, u] 26)
 have hbx := BoxG.made w 26 [v, u] (by simp) (by simp)
 obtain ⟨wm, hmk, hown0, km⟩ := run_makeB (w.alloc (.cells #[v, u] 26)) (livL L E N).length (by omega)
 have hst : FsS w1 w wm r (w.heap.size + 1) w.heap.size E (livL L E N) c0 c1 c2 c3 c4 c5 U v u (livL L E N).length (mixB (fun _ => false) (fun _ => true) (livL L E N) 0) := by
  rw [size1] at hown0
  refine ⟨c6, c7, ks, (hT.fresh (by omega)).keeps (kb.trans km), hnd, hU, ?_, hbx.keeps km, (kb.trans km).size, ?_, by have := hT.tch.size; omega⟩
  ·rw [mixB_zero, List.map_const']
   exact hown0
  ·have := (hown0.len (w.heap.size + 1) rfl).2
   exact this
 rw [size1] at hmk
 have HST := hid hst
 have hvv := hv _ hst.touch
 have huu := hu _ hst.touch
 have hii := hF.p5 _ hst.touch
 have HVV := hid hv
 have HUV := hid hu
 have HIN := hid hF.p5
 have HROW := hid (fun wr d (h : FsS w1 w wr r (w.heap.size + 1) w.heap.size E (livL L E N) c0 c1 c2 c3 c4 c5 U v u (livL L E N).length d) x hx => h.row hF hE hUl x (And.left hx) (And.right hx))
 have x5 : w.cell? ⟨r, 5, none⟩ = some c5 := hT.box.cell 5 (by simp)
 have x5b := kb.cell x5
 obtain ⟨p1, q1, rfl, hl1, hx1, -⟩ := hvv.shape
 obtain ⟨p2, q2, rfl, hl2, hx2, -⟩ := huu.shape
 obtain ⟨p5, q5, rfl, hl5, hx5, -⟩ := hii
 have hnl : (natI (livL L E N)).length = (livL L E N).length := by simp [natI]
 rw [hnl] at hl5 x5b HIN HROW HST ⊢
 unfold maxLen at hx1 hx2 hx5
 have HSS := hid (fun i (h : i < ss.length) => hss ss[i] (List.getElem_mem h))
 have HTS := hid (fun i (h : i < tt.length) => htt tt[i] (List.getElem_mem h))
 have HAN := hid (fun i (h : i < ss.length) m => allP_next E h m)
 have HNN := hid (fun i (h : i < tt.length) m => nonP_next E (fmL ss) h m)
 have HA0 := hid (allP_zero E (fmL ss))
 have HN0 : Hid (nonP E (fmL ss) (fmL tt) 0 = allP E (fmL ss) ss.length) := hid (by rw [nonP_zero, fmL_len])
 have HNE : Hid (nonP E (fmL ss) (fmL tt) tt.length = refB E (fmL ss) (fmL tt)) := hid (by have := nonP_end E (fmL ss) (fmL tt); rw [fmL_len] at this; exact this)
 have HVT := hid (fun k (h : k < (livL L E N).length) s => rowT_get E (livL L E N) s k h)
 have HRL := hid (fun s => rowT_len E (livL L E N) s)
 have hls : ss.length ≤ 2147483648 := by obtain ⟨_, _, _, _, _, h⟩ := (hv _ hst.touch).shape; exact h
 have hlt2 : tt.length ≤ 2147483648 := by obtain ⟨_, _, _, _, _, h⟩ := (hu _ hst.touch).shape; exact h
 clear hF hE hT hnd hU hss htt hv hu hst hvv huu hnl hown0 hbx x5 km kb
 rw [HFI.out]
 clear HFI
 generalize livL L E N = l at *
 have HMB := hid (fun f f' k (h : k < l.length) => mixB_set f f' l k h)
 have HMA := hid (fun f f' k (h : k < l.length) => mixB_at f f' l k h)
 have HML := hid (fun f f' k => mixB_len f f' l k)
 have HME := hid (fun f f' => mixB_end f f' l)
 have HMZ := hid (fun f f' => mixB_zero f f' l)
 generalize hg : w.heap.size + 1 = g at *
 clear hg
 go_enter Tryz.func35, Tryz.ntmps35
 go_wp2_with fail
 go_loopw [6] (fun k' wr => ∃ k : Nat, k ≤ l.length ∧ k' = .int .i64 k ∧ FsS w1 w wr r g w.heap.size E l c0 c1 c2 c3 c4 (.slice p5 l.length q5) U (.slice p1 ss.length q1) (.slice p2 tt.length q2) l.length (mixB (fun _ => false) (fun _ => true) l k)) (fun k' _ => l.length - (intOf k').toNat)
 case atStart => exact ⟨0, by omega, rfl, HST.out⟩
 case round =>
  obtain ⟨k, hk, rfl, hs⟩ := hrel
  clear HST x5b
  by_cases hlt : k < l.length
  ·have hlt' : (k : Int) < l.length := by omega
   have hkd : k < (mixB (fun _ => false) (fun _ => true) l k).length := by rw [HML.out]; exact hlt
   obtain ⟨e1, e2⟩ := hs.at k hkd
   rw [HMA.out _ _ k hlt] at e1
   have hs2 := (hs.store k hkd true).1
   have hset := HMB.out (fun _ => false) (fun _ => true) k hlt
   rw [show (mixB (fun _ => false) (fun _ => true) l k).set k true = mixB (fun _ => false) (fun _ => true) l (k + 1) from hset] at hs2
   have HS2 := hid hs2
   clear hs hs2 hset hkd
   go_wp2_with fail
   go_roundw
   case rel => exact ⟨k + 1, by omega, by go_num, HS2.out⟩
   case measure => simp [intOf]; omega
  ·obtain rfl : k = l.length := by omega
   have hlt' : ¬ ((l.length : Int) < l.length) := by omega
   rw [HME.out, ← HA0.out] at hs
   have HS0 := hid hs
   clear hs hlt hk
   go_wp2_with fail
   generalize wr = wa1 at *
   go_loopw [7] (fun i' wr => ∃ i : Nat, i ≤ ss.length ∧ i' = .int .i64 i ∧ FsS w1 w wr r g w.heap.size E l c0 c1 c2 c3 c4 (.slice p5 l.length q5) U (.slice p1 ss.length q1) (.slice p2 tt.length q2) l.length (l.map (allP E (fmL ss) i))) (fun i' _ => ss.length - (intOf i').toNat)
   case atStart => exact ⟨0, by omega, rfl, HS0.out⟩
   case round =>
    obtain ⟨i, hi, rfl, hs⟩ := hrel
    clear HS0
    obtain ⟨y0, y1, y5⟩ := hs.cells
    have hto := hs.touch
    by_cases hlt : i < ss.length
    ·have hlt' : (i : Int) < ss.length := by omega
     obtain ⟨b1, o1, rfl, h1⟩ := (HVV.out wr hto).get i hlt
     have HR := hid (HROW.out wr _ hs ss[i] (HSS.out i hlt))
     have HNX := hid (HAN.out i hlt)
     have HVX := hid (fun k h => HVT.out k h ss[i])
     have HRX := hid (HRL.out ss[i])
     clear hs hto
     generalize ss[i] = x at *
     go_wp2_with fail
     refine HR.out.mono ?_; rintro e w8 ⟨v8, rfl, hv8, hne8, hs8⟩
     obtain ⟨p8, q8, rfl, hq8, hx8, -⟩ := At.of_own hv8
     rw [HRX.out] at hv8 hne8 hq8 ⊢
     unfold maxLen at hx8
     rw [← HMZ.out (allP E (fmL ss) i) (allP E (fmL ss) (i + 1))] at hs8
     have HS8 := hid hs8
     have HV8 := hid hv8
     have HNE8 := hid hne8
     clear hs8 hv8 hne8 y0 y1 y5 h1
     go_wp2_with fail
     go_loopw [9] (fun k' wr => ∃ k : Nat, k ≤ l.length ∧ k' = .int .i64 k ∧ OwnB wr w1.heap.size (.slice p8 l.length q8) (rowT E l x) ∧ FsS w1 w wr r g w.heap.size E l c0 c1 c2 c3 c4 (.slice p5 l.length q5) U (.slice (some ⟨b1, o1, none⟩) ss.length q1) (.slice p2 tt.length q2) l.length (mixB (allP E (fmL ss) i) (allP E (fmL ss) (i + 1)) l k)) (fun k' _ => l.length - (intOf k').toNat)
     case atStart => exact ⟨0, by omega, rfl, HV8.out, HS8.out⟩
     case round =>
      obtain ⟨k, hk, rfl, hv, hs⟩ := hrel
      clear HS8 HV8
      by_cases hkl : k < l.length
      ·have hkl' : (k : Int) < l.length := by omega
       have hkd : k < (mixB (allP E (fmL ss) i) (allP E (fmL ss) (i + 1)) l k).length := by rw [HML.out]; exact hkl
       obtain ⟨e1, e2⟩ := hs.at k hkd
       rw [HMA.out _ _ k hkl] at e1
       obtain ⟨_, _, e8, _, _, hat8⟩ := At.of_own hv
       simp only [Value.slice.injEq] at e8
       obtain ⟨rfl, -, rfl⟩ := e8
       have hk8 : k < (rowT E l x).length := by rw [HRX.out]; exact hkl
       obtain ⟨b8, o8, rfl, e8⟩ := At.bool hat8 k hk8
       rw [HVX.out k hkl] at e8
       have hst := hs.store k hkd (allP E (fmL ss) (i + 1) l[k])
       have hset := HMB.out (allP E (fmL ss) i) (allP E (fmL ss) (i + 1)) k hkl
       rw [hset] at hst
       have HS2 := hid hst.1
       have HV2 := hid (hst.2 _ _ _ hv HNE8.out)
       have hnx := HNX.out l[k]
       clear hs hst hset hkd hat8 hk8 hv
       generalize l[k] = m at *
       generalize allP E (fmL ss) (i + 1) m = nx at *
       generalize allP E (fmL ss) i m = cu at *
       generalize valB E m (txF x) = vb at *
       have HNQ := hid hnx; clear hnx
       cases cu
       ·obtain rfl : nx = false := by rw [HNQ.out]; rfl
        go_wp2_with fail
        go_roundw
        case rel => exact ⟨k + 1, by omega, by go_num, HV2.out, HS2.out⟩
        case measure => simp [intOf]; omega
       ·obtain rfl : nx = vb := by rw [HNQ.out]; rfl
        go_wp2_with fail
        go_roundw
        case rel => exact ⟨k + 1, by omega, by go_num, HV2.out, HS2.out⟩
        case measure => simp [intOf]; omega
      ·obtain rfl : k = l.length := by omega
       have hkl' : ¬ ((l.length : Int) < l.length) := by omega
       rw [HME.out] at hs
       have HS9 := hid hs
       clear hs hv
       go_wp2_with fail
       go_roundw
       case rel => exact ⟨i + 1, by omega, by go_num, HS9.out⟩
       case measure => simp [intOf]; omega
    ·obtain rfl : i = ss.length := by omega
     have hlt' : ¬ ((ss.length : Int) < ss.length) := by omega
     have HS0 := hid hs
     clear hs hto hlt hi
     go_wp2_with fail
     generalize wr = wa2 at *
     go_loopw [10] (fun i' wr => ∃ i : Nat, i ≤ tt.length ∧ i' = .int .i64 i ∧ FsS w1 w wr r g w.heap.size E l c0 c1 c2 c3 c4 (.slice p5 l.length q5) U (.slice p1 ss.length q1) (.slice p2 tt.length q2) l.length (l.map (nonP E (fmL ss) (fmL tt) i))) (fun i' _ => tt.length - (intOf i').toNat)
     case atStart => exact ⟨0, by omega, rfl, by rw [HN0.out]; exact HS0.out⟩
     case round =>
      obtain ⟨i, hi, rfl, hs⟩ := hrel
      clear HS0
      obtain ⟨y0, y1, y5⟩ := hs.cells
      have hto := hs.touch
      by_cases hlt : i < tt.length
      ·have hlt' : (i : Int) < tt.length := by omega
       obtain ⟨b1, o1, rfl, h1⟩ := (HUV.out wr hto).get i hlt
       have HR := hid (HROW.out wr _ hs tt[i] (HTS.out i hlt))
       have HNX := hid (HNN.out i hlt)
       have HVX := hid (fun k h => HVT.out k h tt[i])
       have HRX := hid (HRL.out tt[i])
       clear hs hto
       generalize tt[i] = x at *
       go_wp2_with fail
       refine HR.out.mono ?_; rintro e w8 ⟨v8, rfl, hv8, hne8, hs8⟩
       obtain ⟨p8, q8, rfl, hq8, hx8, -⟩ := At.of_own hv8
       rw [HRX.out] at hv8 hne8 hq8 ⊢
       unfold maxLen at hx8
       rw [← HMZ.out (nonP E (fmL ss) (fmL tt) i) (nonP E (fmL ss) (fmL tt) (i + 1))] at hs8
       have HS8 := hid hs8
       have HV8 := hid hv8
       have HNE8 := hid hne8
       clear hs8 hv8 hne8 y0 y1 y5 h1
       go_wp2_with fail
       go_loopw [12] (fun k' wr => ∃ k : Nat, k ≤ l.length ∧ k' = .int .i64 k ∧ OwnB wr w1.heap.size (.slice p8 l.length q8) (rowT E l x) ∧ FsS w1 w wr r g w.heap.size E l c0 c1 c2 c3 c4 (.slice p5 l.length q5) U (.slice p1 ss.length q1) (.slice (some ⟨b1, o1, none⟩) tt.length q2) l.length (mixB (nonP E (fmL ss) (fmL tt) i) (nonP E (fmL ss) (fmL tt) (i + 1)) l k)) (fun k' _ => l.length - (intOf k').toNat)
       case atStart => exact ⟨0, by omega, rfl, HV8.out, HS8.out⟩
       case round =>
        obtain ⟨k, hk, rfl, hv, hs⟩ := hrel
        clear HS8 HV8
        by_cases hkl : k < l.length
        ·have hkl' : (k : Int) < l.length := by omega
         have hkd : k < (mixB (nonP E (fmL ss) (fmL tt) i) (nonP E (fmL ss) (fmL tt) (i + 1)) l k).length := by rw [HML.out]; exact hkl
         obtain ⟨e1, e2⟩ := hs.at k hkd
         rw [HMA.out _ _ k hkl] at e1
         obtain ⟨_, _, e8, _, _, hat8⟩ := At.of_own hv
         simp only [Value.slice.injEq] at e8
         obtain ⟨rfl, -, rfl⟩ := e8
         have hk8 : k < (rowT E l x).length := by rw [HRX.out]; exact hkl
         obtain ⟨b8, o8, rfl, e8⟩ := At.bool hat8 k hk8
         rw [HVX.out k hkl] at e8
         have hst := hs.store k hkd (nonP E (fmL ss) (fmL tt) (i + 1) l[k])
         have hset := HMB.out (nonP E (fmL ss) (fmL tt) i) (nonP E (fmL ss) (fmL tt) (i + 1)) k hkl
         rw [hset] at hst
         have HS2 := hid hst.1
         have HV2 := hid (hst.2 _ _ _ hv HNE8.out)
         have hnx := HNX.out l[k]
         clear hs hst hset hkd hat8 hk8 hv
         generalize l[k] = m at *
         generalize nonP E (fmL ss) (fmL tt) (i + 1) m = nx at *
         generalize nonP E (fmL ss) (fmL tt) i m = cu at *
         generalize valB E m (txF x) = vb at *
         have HNQ := hid hnx; clear hnx
         cases cu
         ·obtain rfl : nx = false := by rw [HNQ.out]; rfl
          go_wp2_with fail
          go_roundw
          case rel => exact ⟨k + 1, by omega, by go_num, HV2.out, HS2.out⟩
          case measure => simp [intOf]; omega
         ·obtain rfl : nx = !vb := by rw [HNQ.out]; rfl
          go_wp2_with fail
          go_roundw
          case rel => exact ⟨k + 1, by omega, by go_num, HV2.out, HS2.out⟩
          case measure => simp [intOf]; omega
        ·obtain rfl : k = l.length := by omega
         have hkl' : ¬ ((l.length : Int) < l.length) := by omega
         rw [HME.out] at hs
         have HS9 := hid hs
         clear hs hv
         go_wp2_with fail
         go_roundw
         case rel => exact ⟨i + 1, by omega, by go_num, HS9.out⟩
         case measure => simp [intOf]; omega
      ·obtain rfl : i = tt.length := by omega
       have hlt' : ¬ ((tt.length : Int) < tt.length) := by omega
       have HS0 := hid hs
       clear hs hto hlt hi
       go_wp2_with fail
       rw [HNE.out] at HS0
       generalize wr = wz at *
       have HFD := hid (fun k (h : k < l.length) => fst_drop (refB E (fmL ss) (fmL tt)) l k h)
       have HFE := hid (fst_end (refB E (fmL ss) (fmL tt)) l)
       have HF0 : Hid (fstOf (refB E (fmL ss) (fmL tt)) l = fstOf (refB E (fmL ss) (fmL tt)) (l.drop 0)) := hid (by rw [List.drop_zero])
       have hml : (l.map (refB E (fmL ss) (fmL tt))).length = l.length := by simp
       have HMG : Hid (∀ k (h : k < l.length) (h' : k < (l.map (refB E (fmL ss) (fmL tt))).length), (l.map (refB E (fmL ss) (fmL tt)))[k] = refB E (fmL ss) (fmL tt) l[k]) := hid (fun k h h' => by simp)
       have HFIN : Hid (∃ g c6 c7 ks, SpT w1 wz r g E l c0 c1 c2 c3 c4 (.slice p5 l.length q5) c6 c7 ks ks ∧ ks.Nodup ∧ (∀ k ∈ ks, k ∈ U) ∧ w.heap.size ≤ wz.heap.size) := hid (by
        obtain ⟨c6, c7, ks, h1, h2, h3, h4, h5, h6, h7, h8⟩ := HS0.out
        exact ⟨g, c6, c7, ks, h1, h2, h3, h6⟩)
       have HML2 := hid hml; clear hml
       generalize refB E (fmL ss) (fmL tt) = rf at *
       go_loopw [4, 13] (fun o k' wr => ∃ k : Nat, k ≤ l.length ∧ k' = .int .i64 k ∧ o = .int .i64 0 ∧ fstOf rf l = fstOf rf (l.drop k) ∧ wz = wr) (fun _ k' _ => l.length - (intOf k').toNat)
       case atStart => exact ⟨0, by omega, rfl, rfl, HF0.out, rfl⟩
       case round =>
        obtain ⟨k, hk, rfl, rfl, hfk, rfl⟩ := hrel
        have HFK := hid hfk; clear hfk
        by_cases hkl : k < l.length
        ·have hkl' : (k : Int) < l.length := by omega
         have e1 := (HS0.out.at k (by rw [HML2.out]; exact hkl)).1
         rw [HMG.out k hkl] at e1
         have z5 := HS0.out.cells.2.2
         obtain ⟨_, _, e0, _, _, hat, _⟩ := HIN.out _ HS0.out.touch
         simp only [Value.slice.injEq] at e0
         obtain ⟨rfl, -, rfl⟩ := e0
         obtain ⟨b3, o3, rfl, e3⟩ := hat.int k (by simpa [natI] using hkl)
         rw [show (natI l)[k]'(by simpa [natI] using hkl) = ((l[k] : Nat) : Int) by simp [natI]] at e3
         have HFDk := hid (HFD.out k hkl)
         clear hat
         generalize l[k] = m at *
         cases hr : rf m
         ·rw [hr] at e1 HFDk
          clear hr
          go_wp2_with fail
          go_roundw
          case rel => exact ⟨k + 1, by omega, by go_num, rfl, by rw [HFK.out, HFDk.out]; rfl, by trivial⟩
          case measure => simp [intOf]; omega
         ·rw [hr] at e1 HFDk
          clear hr
          go_wp2_with fail
          go_ret
          obtain ⟨g9, d6, d7, js, a1, a2, a3, a4⟩ := HFIN.out
          exact ⟨g9, d6, d7, js, ret_int (by rw [HFK.out, HFDk.out]; rfl), a1, a2, a3, a4⟩
        ·obtain rfl : k = l.length := by omega
         have hkl' : ¬ ((l.length : Int) < l.length) := by omega
         go_wp2_with fail
         go_ret
         obtain ⟨g9, d6, d7, js, a1, a2, a3, a4⟩ := HFIN.out
         exact ⟨g9, d6, d7, js, ret_int (by rw [HFK.out, HFE.out]), a1, a2, a3, a4⟩
end Go.Proofs.YtkkcfifnkcnceaaGreat
namespace Go.Proofs.YtkkcfifnkcnceaaGreat
open Go.RowKit
theorem seG_fine {ss tt : List ByteArray} (hs : Side ss) (ht : Side tt) : Fine (fmL (ss ++ tt)) := by rw [fmL_append]; exact (fmL_fine hs).append (fmL_fine ht)
theorem seE_ok {s : ByteArray} {ss tt : List ByteArray} (h : SrOk s ss tt) : EOk (seE ss tt) (elT (fmL (ss ++ tt))) (seN ss tt) :=
 ⟨elF_txts (seG_fine h.hs h.ht), fun t ht => (elF_fine (seG_fine h.hs h.ht) t ht).1, h.h8, h.hN⟩
theorem seE_in {ss tt : List ByteArray} (hs : Side ss) (ht : Side tt) : ∀ x ∈ ss ++ tt, InE (seE ss tt) x := by
 intro x hx
 have htx : IsTx x (txF x) := by
  rcases List.mem_append.1 hx with h | h
  ·exact txF_tx (hs.1 x h)
  ·exact txF_tx (ht.1 x h)
 exact ⟨htx, fun y hy he => elF_of (seG_fine hs ht) (List.mem_map_of_mem hx) hy he⟩
def CodeR (w : World) (s : ByteArray) (ss tt : List ByteArray) (e : Ending) (w' : World) : Prop :=
 (srC s ss tt = 0 ∧ ∃ r c0 c1 c2 c3 c4 c5, e = .returned (.tuple #[.pointer (some ⟨r, 0, none⟩), .int .i64 0]) ∧ Keeps w w' ∧ w.heap.size ≤ r ∧ SpF w' r (lgN s) (seE ss tt) (elT (fmL (ss ++ tt))) (seN ss tt) c0 c1 c2 c3 c4 c5) ∨
 (srC s ss tt ≠ 0 ∧ e = .returned (.tuple #[.pointer none, .int .i64 (srC s ss tt)]) ∧ Keeps w w')
set_option maxRecDepth 100000 in
set_option maxHeartbeats 2000000 in
theorem l12Code_any (s : ByteArray) (ss tt : List ByteArray) (v u : Value) (w : World) (hv : Strs w v ss) (hu : Strs w u tt) (hs : Mid ss) (ht : Mid tt) :
  Calls Tryz.prog 34 #[.string s, .agg #[v, u]] w (CodeR w s ss tt) := by
 have kA := (Keeps.refl w).alloc (.cells #[v, u] 26)
 obtain ⟨c0, c1⟩ := BoxQ.made w v u 26
 have HI := hid (fun wz => l12Is_any s wz)
 have HQ := hid (fun wz (kz : Keeps w wz) => l11Is_any ss tt v u wz (hv.keeps kz) (hu.keeps kz) hs ht)
 have HE := hid (fun (hq : isQ ss tt = true) wz (kz : Keeps w wz) => l12Elementary_any ss tt v u wz (hv.keeps kz) (hu.keeps kz) (isQ_iff hq).2.2.1 (isQ_iff hq).2.2.2 (isQ_iff hq).1 (isQ_iff hq).2.1)
 have HM := hid (fun (hz : srC s ss tt = 0) wz (kz : Keeps w wz) => by
  have hk := srC_ok hz
  have := l12Make_any (lgN s) hk.lg ss tt v u wz (hv.keeps kz) (hu.keeps kz) hk.hs hk.ht hk.h1 hk.h2 hk.h8
  rw [← hk.eq] at this
  exact this)
 have HR : Hid (srC s ss tt = if isLg s = true then (if isQ ss tt = true then (if (elT (fmL (ss ++ tt))).length ≤ 8 then 0 else 3) else 1) else 2) := hid rfl
 have hl : isQ ss tt = true → (elT (fmL (ss ++ tt))).length ≤ 2147483648 := fun hq => by
  obtain ⟨h1, h2, h3, h4⟩ := isQ_iff hq
  have := elT_len (seG_fine h3 h4)
  rw [fmL_len, List.length_append] at this
  omega
 obtain ⟨p, c, rfl, _⟩ := hv.shape
 obtain ⟨q, c2, rfl, _⟩ := hu.shape
 clear hv hu hs ht
 unfold RetSt at HE
 generalize hE : elT (fmL (ss ++ tt)) = sE at *
 have HEE := hid hE; clear hE
 cases hbl : isLg s
 ·rw [hbl] at HI
  rw [hbl, if_neg (by simp)] at HR
  clear HQ HE HM hbl hl
  go_enter Tryz.func34, Tryz.ntmps34
  go_wp2_with fail
  refine (HI.out _).mono ?_; rintro e w2 ⟨rfl, k2⟩
  go_wp2_with fail
  go_ret2
  exact .inr ⟨by rw [HR.out]; decide, by rw [HR.out]; rfl, kA.trans k2⟩
 ·rw [hbl] at HI
  rw [hbl, if_pos rfl] at HR
  clear hbl
  cases hbq : isQ ss tt
  ·rw [hbq] at HQ
   rw [hbq, if_neg (by simp)] at HR
   clear HE HM hbq hl
   go_enter Tryz.func34, Tryz.ntmps34
   go_wp2_with fail
   refine (HI.out _).mono ?_; rintro e w2 ⟨rfl, k2⟩
   have e0 := k2.cell c0
   have e1 := k2.cell c1
   go_wp2_with fail
   refine (HQ.out _ (kA.trans k2)).mono ?_; rintro e w3 ⟨rfl, k3⟩
   go_wp2_with fail
   go_ret2
   exact .inr ⟨by rw [HR.out]; decide, by rw [HR.out]; rfl, (kA.trans k2).trans k3⟩
  ·rw [hbq] at HQ
   rw [hbq, if_pos rfl] at HR
   have hl := hl hbq
   have HE2 := hid (HE.out hbq)
   clear HE hbq
   by_cases h8 : sE.length ≤ 8
   ·rw [if_pos h8] at HR
    have HM2 := hid (HM.out HR.out)
    clear HM
    go_enter Tryz.func34, Tryz.ntmps34
    go_wp2_with fail
    refine (HI.out _).mono ?_; rintro e w2 ⟨rfl, k2⟩
    have e0 := k2.cell c0
    have e1 := k2.cell c1
    go_wp2_with fail
    refine (HQ.out _ (kA.trans k2)).mono ?_; rintro e w3 ⟨rfl, k3⟩
    replace e0 := k3.cell e0
    replace e1 := k3.cell e1
    go_wp2_with fail
    refine (HE2.out _ ((kA.trans k2).trans k3)).mono ?_; rintro e w4 ⟨pv, rfl, hpv, k4⟩
    obtain ⟨pp, pc, rfl, hp1, hp2, -⟩ := (hpv.strs (by omega)).shape
    replace e0 := k4.cell e0
    replace e1 := k4.cell e1
    clear hpv
    go_wp2_with fail
    refine (HM2.out _ (((kA.trans k2).trans k3).trans k4)).mono ?_; rintro e w5 ⟨r, d0, d1, d2, d3, d4, d5, rfl, k5, hr, hF⟩
    go_wp2_with fail
    go_ret2
    have kk := ((kA.trans k2).trans k3).trans k4
    exact .inl ⟨HR.out, r, d0, d1, d2, d3, d4, d5, rfl, kk.trans k5, by have := kk.size; omega, by rw [← HEE.out] at hF; exact hF⟩
   ·rw [if_neg h8] at HR
    clear HM
    go_enter Tryz.func34, Tryz.ntmps34
    go_wp2_with fail
    refine (HI.out _).mono ?_; rintro e w2 ⟨rfl, k2⟩
    have e0 := k2.cell c0
    have e1 := k2.cell c1
    go_wp2_with fail
    refine (HQ.out _ (kA.trans k2)).mono ?_; rintro e w3 ⟨rfl, k3⟩
    replace e0 := k3.cell e0
    replace e1 := k3.cell e1
    go_wp2_with fail
    refine (HE2.out _ ((kA.trans k2).trans k3)).mono ?_; rintro e w4 ⟨pv, rfl, hpv, k4⟩
    obtain ⟨pp, pc, rfl, hp1, hp2, -⟩ := (hpv.strs (by omega)).shape
    clear hpv
    go_wp2_with fail
    go_ret2
    exact .inr ⟨by rw [HR.out]; decide, by rw [HR.out]; rfl, ((kA.trans k2).trans k3).trans k4⟩
theorem firstNew (s : ByteArray) (ss tt : List ByteArray) (w w1 : World) (r : Nat) (c0 c1 c2 c3 c4 c5 : Value) (hz : srC s ss tt = 0) (k1 : Keeps w w1) (hr : w.heap.size ≤ r) (hF : SpF w1 r (lgN s) (seE ss tt) (elT (fmL (ss ++ tt))) (seN ss tt) c0 c1 c2 c3 c4 c5)
  (v u : Value) (hv : Strs w v ss) (hu : Strs w u tt) : Calls Tryz.prog 35 #[.pointer (some ⟨r, 0, none⟩), .agg #[v, u]] w1 fun e w' => e = .returned (.int .i64 (fstI (lgN s) (seE ss tt) (seN ss tt) (fmL ss) (fmL tt))) ∧ Keeps w w' := by
 have hk := srC_ok hz
 have hin := seE_in hk.hs hk.ht
 have kt : ∀ w', Touch w1 w' (fun i => i = r) → Keeps w w' := fun w' t => k1.touch t (fun i hi => by have : i = r := hi; omega)
 refine (l12First_any w1 r 0 (lgN s) (seN ss tt) (seE ss tt) (elT (fmL (ss ++ tt))) c0 c1 c2 c3 c4 c5 (.slice none 0 0) (.slice none 0 0) [] (ss ++ tt) ss tt v u w1 hF (seE_ok hk) (SpT.start hF _ 0) List.nodup_nil (fun k h => by cases h) (by have := hk.h1; have := hk.h2; simp; omega)
  (fun x hx => ⟨hin x (by simp [hx]), by simp [hx]⟩) (fun x hx => ⟨hin x (by simp [hx]), by simp [hx]⟩) (fun w' t => hv.keeps (kt w' t)) (fun w' t => hu.keeps (kt w' t))).mono ?_
 rintro e w' ⟨g, c6, c7, ks, rfl, hT, _⟩
 exact ⟨rfl, kt w' hT.tch⟩
set_option maxRecDepth 100000 in
set_option maxHeartbeats 2000000 in
theorem specIsModalTheorem (s : ByteArray) (ss tt : List ByteArray) (v u : Value) (w : World) (hv : Strs w v ss) (hu : Strs w u tt) (hs : Mid ss) (ht : Mid tt) :
  Calls Tryz.prog 11 #[.string s, .agg #[v, u]] w fun e w' => e = .returned (.tuple #[.bool (mtR s ss tt), .int .i64 (srC s ss tt)]) ∧ Keeps w w' := by
 have kA := (Keeps.refl w).alloc (.cells #[v, u] 26)
 obtain ⟨c0, c1⟩ := BoxQ.made w v u 26
 have HC := hid (l12Code_any s ss tt v u _ (hv.keeps kA) (hu.keeps kA) hs ht)
 have HF := hid (fun w1 r d0 d1 d2 d3 d4 d5 hz k1 hr hF => firstNew s ss tt _ w1 r d0 d1 d2 d3 d4 d5 hz k1 hr hF v u (hv.keeps kA) (hu.keeps kA))
 have HR : Hid (mtR s ss tt = if srC s ss tt = 0 then mtB s ss tt else false) := hid rfl
 have HB : Hid (mtB s ss tt = decide (fstI (lgN s) (seE ss tt) (seN ss tt) (fmL ss) (fmL tt) < 0)) := hid rfl
 obtain ⟨p, c, rfl, _⟩ := hv.shape
 obtain ⟨q, c2, rfl, _⟩ := hu.shape
 clear hv hu hs ht
 by_cases hz : srC s ss tt = 0
 ·rw [if_pos hz, HB.out] at HR
  rw [HR.out, hz]
  have HZ := hid hz
  clear hz HR HB
  generalize fstI (lgN s) (seE ss tt) (seN ss tt) (fmL ss) (fmL tt) = j at *
  go_enter Tryz.func11, Tryz.ntmps11
  go_wp2_with fail
  refine HC.out.mono ?_; rintro e w2 (⟨hz, r, d0, d1, d2, d3, d4, d5, rfl, k2, hr, hF⟩ | ⟨hz, _, _⟩)
  ·have HF2 := hid (HF.out w2 r d0 d1 d2 d3 d4 d5 hz k2 hr hF)
   have e0 := k2.cell c0
   have e1 := k2.cell c1
   clear hF hz HF
   go_wp2_with fail
   refine HF2.out.mono ?_; rintro e w3 ⟨rfl, k3⟩
   go_wp2_with fail
   go_ret2
   exact ⟨rfl, kA.trans k3⟩
  ·exact absurd HZ.out hz
 ·rw [if_neg hz] at HR
  rw [HR.out]
  have hz' : (srC s ss tt != 0) = true := by simpa using hz
  have HZ := hid hz
  clear hz HR HF HB
  go_enter Tryz.func11, Tryz.ntmps11
  go_wp2_with fail
  refine HC.out.mono ?_; rintro e w2 (⟨hz, _⟩ | ⟨_, rfl, k2⟩)
  ·exact absurd hz HZ.out
  ·go_wp2_with fail
   go_ret2
   exact ⟨rfl, kA.trans k2⟩
end Go.Proofs.YtkkcfifnkcnceaaGreat
namespace Go.Proofs.YtkkcfifnkcnceaaGreat
open Go.ChangeShapes Go.WideShapes Go.ChangeAt Go.RowKit Go.Deep
theorem own : ownKnob Tryz.prog.godebug = none := by kernel_rfl
theorem laidOut : laidOutB Tryz.prog = true := by kernel_rfl
section
variable {H : Type} {enc : TypeId × Value → H}
theorem trodAll_stays {W W' : World} (hk : Keeps W W') : ∀ (ts : List TypeId) (vs : List Value) (ds : List (DataW H)) (ps : List MemPlace),
  (∀ t ∈ ts, Tryz.prog.readableRec t = true ∧ t < Tryz.prog.types.size) → (∀ x ∈ ps, x.block < W.heap.size) →
  DataW.TrodAll enc Tryz.prog W 0 (fun _ => true) true ts vs ds ps → DataW.TrodAll enc Tryz.prog W' 0 (fun b => decide (b < W.heap.size)) true ts vs ds ps := by
 intro ts
 induction ts with
 | nil =>
  intro vs ds ps _ _ h
  cases vs <;> cases ds <;> simp [DataW.TrodAll] at h ⊢
  exact h
 | cons t ts ih =>
  intro vs ds ps hr hlt h
  obtain ⟨v, vs', d, ds', p, q, rfl, rfl, rfl, h1, h2⟩ := trodAll_cons h
  obtain ⟨hr1, hr2⟩ := hr t (List.mem_cons_self ..)
  have g1 := Below.trod laidOut hr1 hr2 h1 hk (fun x hx => hlt x (List.mem_append.2 (.inl hx)))
  have g2 := ih _ _ _ (fun t ht => hr t (List.mem_cons_of_mem _ ht)) (fun x hx => hlt x (List.mem_append.2 (.inr hx))) h2
  exact trodAll_cons_mk g1 g2
theorem lawPost {f : Func} {s : ChangeSpec} {W W' : World} {args : Array Value} {ds gs : List (DataW H)} {before : List MemPlace}
  (hW : DataW.Whole enc Tryz.prog f.params.toList s.vars false W args.toList ds gs before) (hvars : s.vars = [])
  (hfn : s.fn H (ds ++ gs) = { results := [.lit (.bool true)], args := ds }) (hres : f.resultTypes = #[4])
  (hr : ∀ t ∈ f.params.toList, Tryz.prog.readableRec t = true ∧ t < Tryz.prog.types.size) (hk : Keeps W W') :
  s.post enc Tryz.prog f false true false false W args (.bool true) W' := by
 have hW' := hW
 obtain ⟨p, q, hA, hV, rfl, _, _⟩ := hW
 have hlt : ∀ x ∈ p, x.block < W.heap.size := fun x hx => hW'.lt x (List.mem_append.2 (.inl hx))
 refine ⟨ds, gs, _, [], p, [], hW', ?_, ?_, ?_, Below.frame hk _, fun h => by cases h⟩
 ·rw [hfn, hres]
  exact trodAll_cons_mk (shut_bool Tryz.underlying4 _) trodAll_mk0
 ·rw [hfn]
  exact trodAll_stays hk _ _ _ _ hr hlt hA
 ·rw [hfn, hvars]
  rfl
end
end Go.Proofs.YtkkcfifnkcnceaaGreat
namespace Go.Proofs.YtkkcfifnkcnceaaGreat
open Go.ChangeShapes Go.WideShapes Go.ChangeAt Go.RowKit Go.Deep
set_option maxRecDepth 100000 in
theorem open_bytes {H : Type} {enc : TypeId × Value → H} {W : World} {v : Value} {d : DataW H} {ps : List MemPlace} {r : Reach} {b0 : Nat} (hval : Value.okWide Tryz.prog W r b0 22 v)
  (h : DataW.Trod enc Tryz.prog W 0 (fun _ => true) true 22 v d ps) :
  ∃ p n cap, v = .slice p n cap ∧ n ≤ maxLen ∧ Bts W v n := by
 obtain ⟨p, n, cap, rfl⟩ := okWide_slice Tryz.underlying22 hval
 obtain ⟨fuel, hf⟩ := h
 have hC : Tryz.prog.cellsOf 5 = 1 := by kernel_rfl
 rcases open_slice1 Tryz.underlying22 hC hf with ⟨hcs, _⟩ | ⟨a, len, cap', m, n', V, D, Pl, hcs, _, hl, hm, hmm, _, hi⟩
 ·simp [Value.cells] at hcs
  obtain ⟨rfl, rfl, rfl⟩ := hcs
  exact ⟨none, 0, 0, rfl, by simp [maxLen], none, 0, rfl, by simp, by simp [maxLen], fun j hj => by omega⟩
 ·simp [Value.cells] at hcs
  obtain ⟨rfl, rfl, rfl⟩ := hcs
  simp at hmm
  refine ⟨some a, n, cap, rfl, by omega, some a, cap, rfl, hl, hm, fun j hj => ?_⟩
  obtain ⟨hc, ht⟩ := hi j (by omega)
  obtain ⟨x, hx, _, hwf⟩ := DataW.trod_int Tryz.underlying5 ht
  simp at hx
  rw [hx] at hc
  have hr : 0 ≤ x ∧ x < 256 := by
   simp [Lit.wf, IntKind.min, IntKind.max, IntKind.bits, IntKind.signed] at hwf
   omega
  obtain ⟨b, off, spot⟩ := a
  have hs : spot = none := by simpa [Addr.add] using World.cell?_spot (hi 0 (by omega)).1
  subst hs
  have hadd : (⟨b, off, none⟩ : Addr).add j = ⟨b, off + j, none⟩ := by unfold Addr.add; split <;> simp_all
  rw [hadd] at hc
  exact ⟨b, off, x.toNat, rfl, by rw [hc]; congr 2; omega, by omega, World.block_lt_of_cell? _ _ hc⟩
end Go.Proofs.YtkkcfifnkcnceaaGreat
