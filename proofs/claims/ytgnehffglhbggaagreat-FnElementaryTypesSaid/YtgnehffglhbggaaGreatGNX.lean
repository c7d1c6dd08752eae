/- The reference's first surviving type that refutes a sequent: l12First. (printed by mkxf.py) -/
import Derived.Test.YtgnehffglhbggaaGreatGXE
import Derived.Test.YtgnehffglhbggaaGreatGNK
import Derived.Test.YtgnehffglhbggaaGreatGNN
namespace Go.Proofs.YtgnehffglhbggaaGreat
open Go.RowKit
theorem madeB (n : Nat) : (madeCells (Value.cells (.bool false)) (n * 1)).toList = boolCells (List.replicate n false) := by
  rw [Nat.mul_one, show Value.cells (.bool false) = #[.bool false] from rfl, toList_madeCells_one]; simp [boolCells]
theorem run_makeB (w : World) (n : Nat) (hn : n ≤ 2147483648) : ∃ w', (Instr.makeSlice 77 (.int .i64 (n : Int)) (.int .i64 (n : Int))).run Tryz.prog w = .ok (.slice (some ⟨w.heap.size, 0, none⟩) n n) w' ∧
      OwnB w' w.heap.size (.slice (some ⟨w.heap.size, 0, none⟩) n n) (List.replicate n false) ∧ Keeps w w' := by
  obtain ⟨i0, hi, hz0, hz1, hz2⟩ := info_parts infoB
  obtain ⟨w', hr, ho, hg⟩ := run_make_full (P := Tryz.prog) w w.heap.size 77 4 i0 _ 1 Tryz.underlying77 hi hz0 hz1 .i64 .i64 n (by rw [hz2]; omega) (by unfold maxLen; omega) (Nat.le_refl _)
  refine ⟨w', hr, ?_, (Keeps.refl w).grown hg (by simp)⟩
  unfold OwnB
  rw [List.length_replicate, ← madeB]
  exact ho
--
/-- the state of a search for the first type that refutes: d are the truth values in block g -/
def FsS (w1 w wr : World) (r g b : Nat) (E : List Fm) (l : List Nat) (c0 c1 c2 c3 c4 c5 : Value) (U : List ByteArray) (v u : Value) (n : Nat) (d : List Bool) : Prop :=
  ∃ c6 c7 ks, SpT w1 wr r g E l c0 c1 c2 c3 c4 c5 c6 c7 ks ks ∧ ks.Nodup ∧ (∀ k ∈ ks, k ∈ U) ∧ OwnB wr g (.slice (some ⟨g, 0, none⟩) n n) d ∧ BoxG wr b 29 [v, u] ∧ w.heap.size ≤ wr.heap.size ∧ g < wr.heap.size ∧ w1.heap.size ≤ g
section
variable {w1 w wr w' : World} {r g b : Nat} {E : List Fm} {l : List Nat} {c0 c1 c2 c3 c4 c5 : Value} {U : List ByteArray} {v u : Value} {n : Nat} {d : List Bool}
theorem FsS.touch (h : FsS w1 w wr r g b E l c0 c1 c2 c3 c4 c5 U v u n d) : Touch w1 wr (fun i => i = r) := by
  obtain ⟨c6, c7, ks, a, _⟩ := h
  exact a.tch
theorem FsS.keeps (h : FsS w1 w wr r g b E l c0 c1 c2 c3 c4 c5 U v u n d) (k : Keeps wr w') : FsS w1 w w' r g b E l c0 c1 c2 c3 c4 c5 U v u n d := by
  obtain ⟨c6, c7, ks, h1, h2, h3, h4, h5, h6, h7, h8⟩ := h
  exact ⟨c6, c7, ks, h1.keeps k, h2, h3, h4.keeps k, h5.keeps k, Nat.le_trans h6 k.size, Nat.lt_of_lt_of_le h7 k.size, h8⟩
theorem FsS.cells (h : FsS w1 w wr r g b E l c0 c1 c2 c3 c4 c5 U v u n d) : wr.cell? ⟨b, 0, none⟩ = some v ∧ wr.cell? ⟨b, 1, none⟩ = some u ∧ wr.cell? ⟨r, 5, none⟩ = some c5 := by
  obtain ⟨c6, c7, ks, h1, h2, h3, h4, h5, h6, h7, h8⟩ := h
  exact ⟨h5.cell 0 (by simp), h5.cell 1 (by simp), h1.box.cell 5 (by simp)⟩
theorem FsS.at (h : FsS w1 w wr r g b E l c0 c1 c2 c3 c4 c5 U v u n d) (k : Nat) (hk : k < d.length) : wr.cell? ⟨g, k, none⟩ = some (.bool d[k]) ∧ wr.frozen? ⟨g, k, none⟩ = false := by
  obtain ⟨c6, c7, ks, h1, h2, h3, h4, _⟩ := h
  exact h4.cell k hk
theorem FsS.store (h : FsS w1 w wr r g b E l c0 c1 c2 c3 c4 c5 U v u n d) (k : Nat) (hk : k < d.length) (x : Bool) : FsS w1 w (wr.setCell ⟨g, k, none⟩ (.bool x)) r g b E l c0 c1 c2 c3 c4 c5 U v u n (d.set k x) ∧
    ∀ B v8 q, OwnB wr B v8 q → (∀ j, v8.ownBlock = some j → j ≠ g) → OwnB (wr.setCell ⟨g, k, none⟩ (.bool x)) B v8 q := by
  obtain ⟨c6, c7, ks, h1, h2, h3, h4, h5, h6, h7, h8⟩ := h
  have hs := h4.store k hk x
  have ht := Touch.grown hs.2
  refine ⟨⟨c6, c7, ks, h1.write h4 (fun i hi => by injection hi) h8 ht, h2, h3, hs.1, own_touch h5 ht (fun i e hi => type_ne h4 h5 (by decide) (k := i) (by rw [show i = g by injection hi]; rfl) e), Nat.le_trans h6 ht.size, Nat.lt_of_lt_of_le h7 ht.size, h8⟩, fun B v8 q ho hne => own_touch ho ht (fun i e hi => hne i e (by injection hi))⟩
end
/-- rows of a table are asked for while the search goes on -/
theorem FsS.row {w1 w wr : World} {r g b L N : Nat} {E : List Fm} {sE : List ByteArray} {c0 c1 c2 c3 c4 c5 : Value} {U : List ByteArray} {v u : Value} {n : Nat} {d : List Bool} (h : FsS w1 w wr r g b E (livL L E N) c0 c1 c2 c3 c4 c5 U v u n d)
    (hF : SpF w1 r L E sE N c0 c1 c2 c3 c4 c5) (hE : EOk E sE N) (hUl : U.length ≤ 100000) (x : ByteArray) (hx : InE E x) (hxU : x ∈ U) :
    Calls Tryz.prog 80 #[.pointer (some ⟨r, 0, none⟩), .string x] wr fun e w' => ∃ v8, e = .returned v8 ∧ OwnB w' w1.heap.size v8 (rowT E (livL L E N) x) ∧ (∀ k, v8.ownBlock = some k → k ≠ g) ∧ FsS w1 w w' r g b E (livL L E N) c0 c1 c2 c3 c4 c5 U v u n d := by
  obtain ⟨c6, c7, ks, h1, h2, h3, h4, h5, h6, h7, h8⟩ := h
  refine (l12Row_any w1 r g L N E sE c0 c1 c2 c3 c4 c5 c6 c7 ks U x wr hF hE h1 hx h7 h2 h3 hxU hUl).mono ?_
  rintro e w' ⟨v8, d6, d7, js, rfl, a1, a2, a3, a4, a5, a6⟩
  exact ⟨v8, rfl, a1, a2, d6, d7, js, a3, a4, a5, a6.2 _ _ _ _ _ _ (by decide) (by decide) (by decide) h4, a6.2 _ _ _ _ _ _ (by decide) (by decide) (by decide) h5, Nat.le_trans h6 a6.1, Nat.lt_of_lt_of_le h7 a6.1, h8⟩
theorem fm_take {ss : List ByteArray} {i : Nat} (h : i < ss.length) : (fmL ss).take (i + 1) = (fmL ss).take i ++ [txF ss[i]] := by
  have hl : i < (fmL ss).length := by rw [fmL_len]; exact h
  rw [List.take_succ_eq_append_getElem hl, fmL_get h]
/-- the truth values behind i texts on the left, and behind j texts on the right -/
def allP (E A : List Fm) (i m : Nat) : Bool := (A.take i).all (valB E m)
def nonP (E A B : List Fm) (j m : Nat) : Bool := A.all (valB E m) && (B.take j).all (fun t => !valB E m t)
theorem allP_next (E : List Fm) {ss : List ByteArray} {i : Nat} (h : i < ss.length) (m : Nat) : allP E (fmL ss) (i + 1) m = (allP E (fmL ss) i m && valB E m (txF ss[i])) := by
  unfold allP
  rw [fm_take h, List.all_append]
  simp
theorem nonP_next (E A : List Fm) {ss : List ByteArray} {i : Nat} (h : i < ss.length) (m : Nat) : nonP E A (fmL ss) (i + 1) m = (nonP E A (fmL ss) i m && !valB E m (txF ss[i])) := by
  unfold nonP
  rw [fm_take h, List.all_append]
  simp [Bool.and_assoc]
theorem nonP_zero (E A B : List Fm) : nonP E A B 0 = allP E A A.length := by
  funext m
  unfold nonP allP
  rw [List.take_length]
  simp
theorem nonP_end (E A B : List Fm) : nonP E A B B.length = refB E A B := by
  funext m
  unfold nonP refB
  rw [List.take_length, List.not_any_eq_all_not]
theorem allP_zero (E A : List Fm) : allP E A 0 = fun _ => true := by funext m; simp [allP]
/-- a number, and the table behind it -/
def FstR (w1 w : World) (r : Nat) (E : List Fm) (l : List Nat) (c0 c1 c2 c3 c4 c5 : Value) (U : List ByteArray) (j : Int) (e : Ending) (w' : World) : Prop :=
  ∃ g c6 c7 ks, e = .returned (.int .i64 j) ∧ SpT w1 w' r g E l c0 c1 c2 c3 c4 c5 c6 c7 ks ks ∧ ks.Nodup ∧ (∀ k ∈ ks, k ∈ U) ∧ w.heap.size ≤ w'.heap.size
set_option maxRecDepth 100000 in
set_option maxHeartbeats 8000000 in
theorem l12First_any (w1 : World) (r g0 L N : Nat) (E : List Fm) (sE : List ByteArray) (c0 c1 c2 c3 c4 c5 c6 c7 : Value) (ks U : List ByteArray) (ss tt : List ByteArray) (v u : Value) (w : World)
    (hF : SpF w1 r L E sE N c0 c1 c2 c3 c4 c5) (hE : EOk E sE N) (hT : SpT w1 w r g0 E (livL L E N) c0 c1 c2 c3 c4 c5 c6 c7 ks ks) (hnd : ks.Nodup) (hU : ∀ k ∈ ks, k ∈ U) (hUl : U.length ≤ 100000)
    (hss : ∀ x ∈ ss, InE E x ∧ x ∈ U) (htt : ∀ x ∈ tt, InE E x ∧ x ∈ U) (hv : ∀ w', Touch w1 w' (fun i => i = r) → Strs w' v ss) (hu : ∀ w', Touch w1 w' (fun i => i = r) → Strs w' u tt) :
    Calls Tryz.prog 48 #[.pointer (some ⟨r, 0, none⟩), .agg #[v, u]] w (FstR w1 w r E (livL L E N) c0 c1 c2 c3 c4 c5 U (fstI L E N (fmL ss) (fmL tt))) := by
  have HFI := hid (fstI_livL L E N (fmL ss) (fmL tt))
  have hLL := livL_len L E N
  have hN := hE.hN
  have kb := (Keeps.refl w).alloc (.cells #[v, u] 29)
  have hbx := BoxG.made w 29 [v, u] (by simp) (by simp)
  obtain ⟨wm, hmk, hown0, km⟩ := run_makeB (w.alloc (.cells #[v, u] 29)) (livL L E N).length (by omega)
  have hst : FsS w1 w wm r (w.heap.size + 1) w.heap.size E (livL L E N) c0 c1 c2 c3 c4 c5 U v u (livL L E N).length (mixB (fun _ => false) (fun _ => true) (livL L E N) 0) := by
    rw [size1] at hown0
    refine ⟨c6, c7, ks, (hT.fresh (by omega)).keeps (kb.trans km), hnd, hU, ?_, hbx.keeps km, (kb.trans km).size, ?_, by have := hT.tch.size; omega⟩
    · rw [mixB_zero, List.map_const']
      exact hown0
    · have := (hown0.len (w.heap.size + 1) rfl).2
      exact this
  rw [size1] at hmk
  have HST := hid hst
  have hvv := hv _ hst.touch
  have huu := hu _ hst.touch
  have hii := hF.p5 _ hst.touch
  have HVV := hid hv
  have HUV := hid hu
  have HIN := hid hF.p5
  have HROW := hid (fun wr d (h : FsS w1 w wr r (w.heap.size + 1) w.heap.size E (livL L E N) c0 c1 c2 c3 c4 c5 U v u (livL L E N).length d) x hx => h.row hF hE hUl x (And.left hx) (And.right hx))
  have x5 : w.cell? ⟨r, 5, none⟩ = some c5 := hT.box.cell 5 (by simp)
  have x5b := kb.cell x5
  obtain ⟨p1, q1, rfl, hl1, hx1, -⟩ := hvv.shape
  obtain ⟨p2, q2, rfl, hl2, hx2, -⟩ := huu.shape
  obtain ⟨p5, q5, rfl, hl5, hx5, -⟩ := hii
  have hnl : (natI (livL L E N)).length = (livL L E N).length := by simp [natI]
  rw [hnl] at hl5 x5b HIN HROW HST ⊢
  unfold maxLen at hx1 hx2 hx5
  have HSS := hid (fun i (h : i < ss.length) => hss ss[i] (List.getElem_mem h))
  have HTS := hid (fun i (h : i < tt.length) => htt tt[i] (List.getElem_mem h))
  have HAN := hid (fun i (h : i < ss.length) m => allP_next E h m)
  have HNN := hid (fun i (h : i < tt.length) m => nonP_next E (fmL ss) h m)
  have HA0 := hid (allP_zero E (fmL ss))
  have HN0 : Hid (nonP E (fmL ss) (fmL tt) 0 = allP E (fmL ss) ss.length) := hid (by rw [nonP_zero, fmL_len])
  have HNE : Hid (nonP E (fmL ss) (fmL tt) tt.length = refB E (fmL ss) (fmL tt)) := hid (by have := nonP_end E (fmL ss) (fmL tt); rw [fmL_len] at this; exact this)
  have HVT := hid (fun k (h : k < (livL L E N).length) s => rowT_get E (livL L E N) s k h)
  have HRL := hid (fun s => rowT_len E (livL L E N) s)
  have hls : ss.length ≤ 2147483648 := by obtain ⟨_, _, _, _, _, h⟩ := (hv _ hst.touch).shape; exact h
  have hlt2 : tt.length ≤ 2147483648 := by obtain ⟨_, _, _, _, _, h⟩ := (hu _ hst.touch).shape; exact h
  clear hF hE hT hnd hU hss htt hv hu hst hvv huu hnl hown0 hbx x5 km kb
  rw [HFI.out]
  clear HFI
  generalize livL L E N = l at *
  have HMB := hid (fun f f' k (h : k < l.length) => mixB_set f f' l k h)
  have HMA := hid (fun f f' k (h : k < l.length) => mixB_at f f' l k h)
  have HML := hid (fun f f' k => mixB_len f f' l k)
  have HME := hid (fun f f' => mixB_end f f' l)
  have HMZ := hid (fun f f' => mixB_zero f f' l)
  generalize hg : w.heap.size + 1 = g at *
  clear hg
  go_enter Tryz.func48, Tryz.ntmps48
  go_wp2_with fail
  go_loopw [6] (fun k' wr => ∃ k : Nat, k ≤ l.length ∧ k' = .int .i64 k ∧ FsS w1 w wr r g w.heap.size E l c0 c1 c2 c3 c4 (.slice p5 l.length q5) U (.slice p1 ss.length q1) (.slice p2 tt.length q2) l.length (mixB (fun _ => false) (fun _ => true) l k)) (fun k' _ => l.length - (intOf k').toNat)
  case atStart => exact ⟨0, by omega, rfl, HST.out⟩
  case round =>
    obtain ⟨k, hk, rfl, hs⟩ := hrel
    clear HST x5b
    by_cases hlt : k < l.length
    · have hlt' : (k : Int) < l.length := by omega
      have hkd : k < (mixB (fun _ => false) (fun _ => true) l k).length := by rw [HML.out]; exact hlt
      obtain ⟨e1, e2⟩ := hs.at k hkd
      rw [HMA.out _ _ k hlt] at e1
      have hs2 := (hs.store k hkd true).1
      have hset := HMB.out (fun _ => false) (fun _ => true) k hlt
      rw [show (mixB (fun _ => false) (fun _ => true) l k).set k true = mixB (fun _ => false) (fun _ => true) l (k + 1) from hset] at hs2
      have HS2 := hid hs2
      clear hs hs2 hset hkd
      go_wp2_with fail
      go_roundw
      case rel => exact ⟨k + 1, by omega, by go_num, HS2.out⟩
      case measure => simp [intOf]; omega
    · obtain rfl : k = l.length := by omega
      have hlt' : ¬ ((l.length : Int) < l.length) := by omega
      rw [HME.out, ← HA0.out] at hs
      have HS0 := hid hs
      clear hs hlt hk
      go_wp2_with fail
      generalize wr = wa1 at *
      go_loopw [7] (fun i' wr => ∃ i : Nat, i ≤ ss.length ∧ i' = .int .i64 i ∧ FsS w1 w wr r g w.heap.size E l c0 c1 c2 c3 c4 (.slice p5 l.length q5) U (.slice p1 ss.length q1) (.slice p2 tt.length q2) l.length (l.map (allP E (fmL ss) i))) (fun i' _ => ss.length - (intOf i').toNat)
      case atStart => exact ⟨0, by omega, rfl, HS0.out⟩
      case round =>
        obtain ⟨i, hi, rfl, hs⟩ := hrel
        clear HS0
        obtain ⟨y0, y1, y5⟩ := hs.cells
        have hto := hs.touch
        by_cases hlt : i < ss.length
        · have hlt' : (i : Int) < ss.length := by omega
          obtain ⟨b1, o1, rfl, h1⟩ := (HVV.out wr hto).get i hlt
          have HR := hid (HROW.out wr _ hs ss[i] (HSS.out i hlt))
          have HNX := hid (HAN.out i hlt)
          have HVX := hid (fun k h => HVT.out k h ss[i])
          have HRX := hid (HRL.out ss[i])
          clear hs hto
          generalize ss[i] = x at *
          go_wp2_with fail
          refine HR.out.mono ?_; rintro e w8 ⟨v8, rfl, hv8, hne8, hs8⟩
          obtain ⟨p8, q8, rfl, hq8, hx8, -⟩ := At.of_own hv8
          rw [HRX.out] at hv8 hne8 hq8 ⊢
          unfold maxLen at hx8
          rw [← HMZ.out (allP E (fmL ss) i) (allP E (fmL ss) (i + 1))] at hs8
          have HS8 := hid hs8
          have HV8 := hid hv8
          have HNE8 := hid hne8
          clear hs8 hv8 hne8 y0 y1 y5 h1
          go_wp2_with fail
          go_loopw [9] (fun k' wr => ∃ k : Nat, k ≤ l.length ∧ k' = .int .i64 k ∧ OwnB wr w1.heap.size (.slice p8 l.length q8) (rowT E l x) ∧ FsS w1 w wr r g w.heap.size E l c0 c1 c2 c3 c4 (.slice p5 l.length q5) U (.slice (some ⟨b1, o1, none⟩) ss.length q1) (.slice p2 tt.length q2) l.length (mixB (allP E (fmL ss) i) (allP E (fmL ss) (i + 1)) l k)) (fun k' _ => l.length - (intOf k').toNat)
          case atStart => exact ⟨0, by omega, rfl, HV8.out, HS8.out⟩
          case round =>
            obtain ⟨k, hk, rfl, hv, hs⟩ := hrel
            clear HS8 HV8
            by_cases hkl : k < l.length
            · have hkl' : (k : Int) < l.length := by omega
              have hkd : k < (mixB (allP E (fmL ss) i) (allP E (fmL ss) (i + 1)) l k).length := by rw [HML.out]; exact hkl
              obtain ⟨e1, e2⟩ := hs.at k hkd
              rw [HMA.out _ _ k hkl] at e1
              obtain ⟨_, _, e8, _, _, hat8⟩ := At.of_own hv
              simp only [Value.slice.injEq] at e8
              obtain ⟨rfl, -, rfl⟩ := e8
              have hk8 : k < (rowT E l x).length := by rw [HRX.out]; exact hkl
              obtain ⟨b8, o8, rfl, e8⟩ := At.bool hat8 k hk8
              rw [HVX.out k hkl] at e8
              have hst := hs.store k hkd (allP E (fmL ss) (i + 1) l[k])
              have hset := HMB.out (allP E (fmL ss) i) (allP E (fmL ss) (i + 1)) k hkl
              rw [hset] at hst
              have HS2 := hid hst.1
              have HV2 := hid (hst.2 _ _ _ hv HNE8.out)
              have hnx := HNX.out l[k]
              clear hs hst hset hkd hat8 hk8 hv
              generalize l[k] = m at *
              generalize allP E (fmL ss) (i + 1) m = nx at *
              generalize allP E (fmL ss) i m = cu at *
              generalize valB E m (txF x) = vb at *
              have HNQ := hid hnx; clear hnx
              cases cu
              · obtain rfl : nx = false := by rw [HNQ.out]; rfl
                go_wp2_with fail
                go_roundw
                case rel => exact ⟨k + 1, by omega, by go_num, HV2.out, HS2.out⟩
                case measure => simp [intOf]; omega
              · obtain rfl : nx = vb := by rw [HNQ.out]; rfl
                go_wp2_with fail
                go_roundw
                case rel => exact ⟨k + 1, by omega, by go_num, HV2.out, HS2.out⟩
                case measure => simp [intOf]; omega
            · obtain rfl : k = l.length := by omega
              have hkl' : ¬ ((l.length : Int) < l.length) := by omega
              rw [HME.out] at hs
              have HS9 := hid hs
              clear hs hv
              go_wp2_with fail
              go_roundw
              case rel => exact ⟨i + 1, by omega, by go_num, HS9.out⟩
              case measure => simp [intOf]; omega
        · obtain rfl : i = ss.length := by omega
          have hlt' : ¬ ((ss.length : Int) < ss.length) := by omega
          have HS0 := hid hs
          clear hs hto hlt hi
          go_wp2_with fail
          generalize wr = wa2 at *
          go_loopw [10] (fun i' wr => ∃ i : Nat, i ≤ tt.length ∧ i' = .int .i64 i ∧ FsS w1 w wr r g w.heap.size E l c0 c1 c2 c3 c4 (.slice p5 l.length q5) U (.slice p1 ss.length q1) (.slice p2 tt.length q2) l.length (l.map (nonP E (fmL ss) (fmL tt) i))) (fun i' _ => tt.length - (intOf i').toNat)
          case atStart => exact ⟨0, by omega, rfl, by rw [HN0.out]; exact HS0.out⟩
          case round =>
            obtain ⟨i, hi, rfl, hs⟩ := hrel
            clear HS0
            obtain ⟨y0, y1, y5⟩ := hs.cells
            have hto := hs.touch
            by_cases hlt : i < tt.length
            · have hlt' : (i : Int) < tt.length := by omega
              obtain ⟨b1, o1, rfl, h1⟩ := (HUV.out wr hto).get i hlt
              have HR := hid (HROW.out wr _ hs tt[i] (HTS.out i hlt))
              have HNX := hid (HNN.out i hlt)
              have HVX := hid (fun k h => HVT.out k h tt[i])
              have HRX := hid (HRL.out tt[i])
              clear hs hto
              generalize tt[i] = x at *
              go_wp2_with fail
              refine HR.out.mono ?_; rintro e w8 ⟨v8, rfl, hv8, hne8, hs8⟩
              obtain ⟨p8, q8, rfl, hq8, hx8, -⟩ := At.of_own hv8
              rw [HRX.out] at hv8 hne8 hq8 ⊢
              unfold maxLen at hx8
              rw [← HMZ.out (nonP E (fmL ss) (fmL tt) i) (nonP E (fmL ss) (fmL tt) (i + 1))] at hs8
              have HS8 := hid hs8
              have HV8 := hid hv8
              have HNE8 := hid hne8
              clear hs8 hv8 hne8 y0 y1 y5 h1
              go_wp2_with fail
              go_loopw [12] (fun k' wr => ∃ k : Nat, k ≤ l.length ∧ k' = .int .i64 k ∧ OwnB wr w1.heap.size (.slice p8 l.length q8) (rowT E l x) ∧ FsS w1 w wr r g w.heap.size E l c0 c1 c2 c3 c4 (.slice p5 l.length q5) U (.slice p1 ss.length q1) (.slice (some ⟨b1, o1, none⟩) tt.length q2) l.length (mixB (nonP E (fmL ss) (fmL tt) i) (nonP E (fmL ss) (fmL tt) (i + 1)) l k)) (fun k' _ => l.length - (intOf k').toNat)
              case atStart => exact ⟨0, by omega, rfl, HV8.out, HS8.out⟩
              case round =>
                obtain ⟨k, hk, rfl, hv, hs⟩ := hrel
                clear HS8 HV8
                by_cases hkl : k < l.length
                · have hkl' : (k : Int) < l.length := by omega
                  have hkd : k < (mixB (nonP E (fmL ss) (fmL tt) i) (nonP E (fmL ss) (fmL tt) (i + 1)) l k).length := by rw [HML.out]; exact hkl
                  obtain ⟨e1, e2⟩ := hs.at k hkd
                  rw [HMA.out _ _ k hkl] at e1
                  obtain ⟨_, _, e8, _, _, hat8⟩ := At.of_own hv
                  simp only [Value.slice.injEq] at e8
                  obtain ⟨rfl, -, rfl⟩ := e8
                  have hk8 : k < (rowT E l x).length := by rw [HRX.out]; exact hkl
                  obtain ⟨b8, o8, rfl, e8⟩ := At.bool hat8 k hk8
                  rw [HVX.out k hkl] at e8
                  have hst := hs.store k hkd (nonP E (fmL ss) (fmL tt) (i + 1) l[k])
                  have hset := HMB.out (nonP E (fmL ss) (fmL tt) i) (nonP E (fmL ss) (fmL tt) (i + 1)) k hkl
                  rw [hset] at hst
                  have HS2 := hid hst.1
                  have HV2 := hid (hst.2 _ _ _ hv HNE8.out)
                  have hnx := HNX.out l[k]
                  clear hs hst hset hkd hat8 hk8 hv
                  generalize l[k] = m at *
                  generalize nonP E (fmL ss) (fmL tt) (i + 1) m = nx at *
                  generalize nonP E (fmL ss) (fmL tt) i m = cu at *
                  generalize valB E m (txF x) = vb at *
                  have HNQ := hid hnx; clear hnx
                  cases cu
                  · obtain rfl : nx = false := by rw [HNQ.out]; rfl
                    go_wp2_with fail
                    go_roundw
                    case rel => exact ⟨k + 1, by omega, by go_num, HV2.out, HS2.out⟩
                    case measure => simp [intOf]; omega
                  · obtain rfl : nx = !vb := by rw [HNQ.out]; rfl
                    go_wp2_with fail
                    go_roundw
                    case rel => exact ⟨k + 1, by omega, by go_num, HV2.out, HS2.out⟩
                    case measure => simp [intOf]; omega
                · obtain rfl : k = l.length := by omega
                  have hkl' : ¬ ((l.length : Int) < l.length) := by omega
                  rw [HME.out] at hs
                  have HS9 := hid hs
                  clear hs hv
                  go_wp2_with fail
                  go_roundw
                  case rel => exact ⟨i + 1, by omega, by go_num, HS9.out⟩
                  case measure => simp [intOf]; omega
            · obtain rfl : i = tt.length := by omega
              have hlt' : ¬ ((tt.length : Int) < tt.length) := by omega
              have HS0 := hid hs
              clear hs hto hlt hi
              go_wp2_with fail
              rw [HNE.out] at HS0
              generalize wr = wz at *
              have HFD := hid (fun k (h : k < l.length) => fst_drop (refB E (fmL ss) (fmL tt)) l k h)
              have HFE := hid (fst_end (refB E (fmL ss) (fmL tt)) l)
              have HF0 : Hid (fstOf (refB E (fmL ss) (fmL tt)) l = fstOf (refB E (fmL ss) (fmL tt)) (l.drop 0)) := hid (by rw [List.drop_zero])
              have hml : (l.map (refB E (fmL ss) (fmL tt))).length = l.length := by simp
              have HMG : Hid (∀ k (h : k < l.length) (h' : k < (l.map (refB E (fmL ss) (fmL tt))).length), (l.map (refB E (fmL ss) (fmL tt)))[k] = refB E (fmL ss) (fmL tt) l[k]) := hid (fun k h h' => by simp)
              have HFIN : Hid (∃ g c6 c7 ks, SpT w1 wz r g E l c0 c1 c2 c3 c4 (.slice p5 l.length q5) c6 c7 ks ks ∧ ks.Nodup ∧ (∀ k ∈ ks, k ∈ U) ∧ w.heap.size ≤ wz.heap.size) := hid (by
                obtain ⟨c6, c7, ks, h1, h2, h3, h4, h5, h6, h7, h8⟩ := HS0.out
                exact ⟨g, c6, c7, ks, h1, h2, h3, h6⟩)
              have HML2 := hid hml; clear hml
              generalize refB E (fmL ss) (fmL tt) = rf at *
              go_loopw [4, 13] (fun o k' wr => ∃ k : Nat, k ≤ l.length ∧ k' = .int .i64 k ∧ o = .int .i64 0 ∧ fstOf rf l = fstOf rf (l.drop k) ∧ wz = wr) (fun _ k' _ => l.length - (intOf k').toNat)
              case atStart => exact ⟨0, by omega, rfl, rfl, HF0.out, rfl⟩
              case round =>
                obtain ⟨k, hk, rfl, rfl, hfk, rfl⟩ := hrel
                have HFK := hid hfk; clear hfk
                by_cases hkl : k < l.length
                · have hkl' : (k : Int) < l.length := by omega
                  have e1 := (HS0.out.at k (by rw [HML2.out]; exact hkl)).1
                  rw [HMG.out k hkl] at e1
                  have z5 := HS0.out.cells.2.2
                  obtain ⟨_, _, e0, _, _, hat, _⟩ := HIN.out _ HS0.out.touch
                  simp only [Value.slice.injEq] at e0
                  obtain ⟨rfl, -, rfl⟩ := e0
                  obtain ⟨b3, o3, rfl, e3⟩ := hat.int k (by simpa [natI] using hkl)
                  rw [show (natI l)[k]'(by simpa [natI] using hkl) = ((l[k] : Nat) : Int) by simp [natI]] at e3
                  have HFDk := hid (HFD.out k hkl)
                  clear hat
                  generalize l[k] = m at *
                  cases hr : rf m
                  · rw [hr] at e1 HFDk
                    clear hr
                    go_wp2_with fail
                    go_roundw
                    case rel => exact ⟨k + 1, by omega, by go_num, rfl, by rw [HFK.out, HFDk.out]; rfl, by trivial⟩
                    case measure => simp [intOf]; omega
                  · rw [hr] at e1 HFDk
                    clear hr
                    go_wp2_with fail
                    go_ret
                    obtain ⟨g9, d6, d7, js, a1, a2, a3, a4⟩ := HFIN.out
                    exact ⟨g9, d6, d7, js, ret_int (by rw [HFK.out, HFDk.out]; rfl), a1, a2, a3, a4⟩
                · obtain rfl : k = l.length := by omega
                  have hkl' : ¬ ((l.length : Int) < l.length) := by omega
                  go_wp2_with fail
                  go_ret
                  obtain ⟨g9, d6, d7, js, a1, a2, a3, a4⟩ := HFIN.out
                  exact ⟨g9, d6, d7, js, ret_int (by rw [HFK.out, HFE.out]), a1, a2, a3, a4⟩
end Go.Proofs.YtgnehffglhbggaaGreat
/- SurvivingTypes, IsModalTheorem, LogicsOf: the program's side. -/
namespace Go.Proofs.YtgnehffglhbggaaGreat
open Go.RowKit
/-- the surviving types as numbers -/
noncomputable def stL (s : ByteArray) (ss tt : List ByteArray) : List Nat := livL (lgN s) (seE ss tt) (seN ss tt)
noncomputable def stR (s : ByteArray) (ss tt : List ByteArray) : List Int := if srC s ss tt = 0 then natI (stL s ss tt) else []
noncomputable def mtB (s : ByteArray) (ss tt : List ByteArray) : Bool := thmB (lgN s) (seE ss tt) (seN ss tt) (fmL ss) (fmL tt)
noncomputable def mtR (s : ByteArray) (ss tt : List ByteArray) : Bool := if srC s ss tt = 0 then mtB s ss tt else false
noncomputable def loR (ss tt : List ByteArray) : List ByteArray := if srC (lgS 0) ss tt = 0 then names8.filter fun s => mtB s ss tt else []
def RetIC (w : World) (r : List Int) (c : Int) (e : Ending) (w' : World) : Prop := ∃ v, e = .returned (.tuple #[v, .int .i64 c]) ∧ OwnI w' w.heap.size v r ∧ Keeps w w'
theorem stR_len (s : ByteArray) (ss tt : List ByteArray) : (stR s ss tt).length ≤ 256 := by
  unfold stR
  split
  · rename_i h
    have h1 := livL_len (lgN s) (seE ss tt) (seN ss tt)
    have h2 := (srC_ok h).hN
    unfold stL
    simp [natI]; omega
  · simp
theorem loR_len (ss tt : List ByteArray) : (loR ss tt).length ≤ 8 := by
  unfold loR
  split
  · exact Nat.le_trans (List.length_filter_le _ _) (by show 8 ≤ 8; omega)
  · simp
theorem natI_snoc (l : List Nat) (k : Nat) : natI (l ++ [k]) = natI l ++ [(k : Int)] := by simp [natI]
theorem livTo_yes {L : Nat} {E : List Fm} {N k : Nat} (h : liveB L E N k = true) : (List.range (k + 1)).filter (liveB L E N) = (List.range k).filter (liveB L E N) ++ [k] := by rw [range_take, if_pos h]
theorem livTo_no {L : Nat} {E : List Fm} {N k : Nat} (h : liveB L E N k = false) : (List.range (k + 1)).filter (liveB L E N) = (List.range k).filter (liveB L E N) := by rw [range_take, if_neg (by rw [h]; simp), List.append_nil]
theorem seq1 (w : World) (v u : Value) : Keeps w ((w.alloc (.cells #[v, u] 29)).alloc (.cells #[v, u] 29)) ∧
    ((w.alloc (.cells #[v, u] 29)).alloc (.cells #[v, u] 29)).cell? ⟨w.heap.size, 0, none⟩ = some v ∧ ((w.alloc (.cells #[v, u] 29)).alloc (.cells #[v, u] 29)).cell? ⟨w.heap.size, 1, none⟩ = some u ∧
    ((w.alloc (.cells #[v, u] 29)).alloc (.cells #[v, u] 29)).cell? ⟨w.heap.size + 1, 0, none⟩ = some v ∧ ((w.alloc (.cells #[v, u] 29)).alloc (.cells #[v, u] 29)).cell? ⟨w.heap.size + 1, 1, none⟩ = some u := by
  obtain ⟨a0, a1⟩ := BoxQ.made w v u 29
  obtain ⟨b0, b1⟩ := BoxQ.made (w.alloc (.cells #[v, u] 29)) v u 29
  rw [size1] at b0 b1
  have k := (Keeps.refl (w.alloc (.cells #[v, u] 29))).alloc (.cells #[v, u] 29)
  exact ⟨((Keeps.refl w).alloc _).alloc _, k.cell a0, k.cell a1, b0, b1⟩
--
set_option maxRecDepth 100000 in
set_option maxHeartbeats 4000000 in
theorem implSurvivingTypes (s : ByteArray) (ss tt : List ByteArray) (v u : Value) (w : World) (hv : Strs w v ss) (hu : Strs w u tt) (hs : Mid ss) (ht : Mid tt) :
    Calls Tryz.prog 12 #[.string s, .agg #[v, u]] w (RetIC w (stR s ss tt) (srC s ss tt)) := by
  obtain ⟨kA, c0, c1, d0, d1⟩ := seq1 w v u
  have HC := hid (searchableCode_any s ss tt v u (w.heap.size + 1) _ (hv.keeps kA) (hu.keeps kA) hs ht d0 d1)
  have HR : Hid (stR s ss tt = if srC s ss tt = 0 then natI (stL s ss tt) else []) := hid rfl
  by_cases hz : srC s ss tt = 0
  · rw [if_pos hz] at HR
    rw [hz] at HC
    rw [HR.out, hz]
    have hk := srC_ok hz
    have HNT := hid (fun wz (kz : Keeps w wz) => newTypes_any (lgN s) hk.lg ss tt v u wz (hv.keeps kz) (hu.keeps kz) hk.hs hk.ht hk.h1 hk.h2 hk.h8)
    rw [← hk.eq] at HNT
    have hN := hk.hN
    have HE : Hid (stL s ss tt = (List.range (seN ss tt)).filter (liveB (lgN s) (seE ss tt) (seN ss tt))) := hid rfl
    change Hid (∀ wz, Keeps w wz → Calls Tryz.prog _ _ wz fun e w' => ∃ r, e = .returned (.pointer (some ⟨r, 0, none⟩)) ∧ Keeps wz w' ∧ NwR w' r (lgN s) (seE ss tt) (seN ss tt) (refL (seE ss tt) (fmL ss) (fmL tt) (seN ss tt)) (elT (fmL (ss ++ tt)))) at HNT
    obtain ⟨p, c, rfl, _⟩ := hv.shape
    obtain ⟨q, c2, rfl, _⟩ := hu.shape
    clear hv hu hs ht hz hk HR d0 d1
    rw [HE.out]
    have HYE := hid (fun k (h : liveB (lgN s) (seE ss tt) (seN ss tt) k = true) => livTo_yes h)
    have HNO := hid (fun k (h : liveB (lgN s) (seE ss tt) (seN ss tt) k = false) => livTo_no h)
    have HLG := hid (fun k (h : k < seN ss tt) => liveL_get (lgN s) (seE ss tt) (seN ss tt) k h)
    have HLN := hid (liveL_len (lgN s) (seE ss tt) (seN ss tt))
    have HLL : Hid (∀ k, (natI ((List.range k).filter (liveB (lgN s) (seE ss tt) (seN ss tt)))).length ≤ k) := hid (fun k => by
      have := List.length_filter_le (liveB (lgN s) (seE ss tt) (seN ss tt)) (List.range k)
      simpa [natI] using this)
    clear HE
    generalize seE ss tt = E at *
    generalize seN ss tt = N at *
    generalize lgN s = L at *
    generalize liveB L E N = lv at *
    go_enter Tryz.func12, Tryz.ntmps12
    go_wp2_with fail
    refine HC.out.mono ?_; rintro e w2 ⟨rfl, k2⟩
    have e0 := k2.cell c0
    have e1 := k2.cell c1
    go_wp2_with fail
    refine (HNT.out _ (kA.trans k2)).mono ?_; rintro e w3 ⟨r, rfl, k3, hr⟩
    have k03 := (kA.trans k2).trans k3
    have x3 := hr.ty.c3
    obtain ⟨v5, x5, hb5⟩ := hr.ty.c5
    obtain ⟨p5, q5, rfl, hl5, hx5, hat5, -⟩ := hb5
    unfold maxLen at hx5
    rw [HLN.out] at hl5 x5
    have HAT := hid (fun i (h : i < (liveL L E N).length) => hat5.bool i h)
    clear hr hat5 e0 e1
    go_wp2_with fail
    go_loopw [8, 24] (fun o k' wr => ∃ k : Nat, k ≤ N ∧ k' = .int .i64 k ∧ OwnI wr w3.heap.size o (natI ((List.range k).filter lv)) ∧ Keeps w3 wr) (fun _ k' _ => N - (intOf k').toNat)
    case atStart => exact ⟨0, by omega, rfl, OwnI.nil _ _, Keeps.refl _⟩
    case round =>
      obtain ⟨k, hk, rfl, hown, kw⟩ := hrel
      have y3 := kw.cell x3
      have y5 := kw.cell x5
      by_cases hlt : k < N
      · have hlt' : (k : Int) < N := by omega
        have hkT : k < (liveL L E N).length := by rw [HLN.out]; exact hlt
        obtain ⟨b5, o5, rfl, h5⟩ := HAT.out k hkT
        have h5' := kw.cell h5
        have hgd : (liveL L E N)[k] = lv k := by
          rw [← HLG.out k hlt, List.getD_eq_getElem?_getD, List.getElem?_eq_getElem hkT]; rfl
        rw [hgd] at h5'
        have hll := HLL.out k
        have HYK := hid (HYE.out k)
        have HNK := hid (HNO.out k)
        have hsz : w.heap.size ≤ wr.heap.size := (k03.trans kw).size
        clear h5 hgd hkT
        generalize lv k = b at *
        cases b
        · go_wp2_with fail
          go_roundw
          case rel => exact ⟨k + 1, by omega, by go_num, by rw [HNK.out (by trivial)]; exact hown, kw⟩
          case measure => simp [intOf]; omega
        · generalize hnl : natI ((List.range k).filter lv) = nl at *
          have HNL := hid hnl; clear hnl
          have hsz3 := kw.size
          go_wp2_with (at_builtin; refine appI rfl _ _ rfl w3.heap.size _ nl rfl (hown.keeps ((Keeps.refl wr).alloc _)) _ [(k : Int)] rfl (Ints.lit1 wr k) (by simp; omega) (by simp; omega) ?_; intro v7 w7 hv7 hg7 hr7; have k7 := (kw.alloc (.cells #[.int .i64 k] 2)).grown hg7 (fun q hq => hr7 q hq))
          go_roundw
          case rel => exact ⟨k + 1, by omega, by go_num, by rw [HYK.out (by trivial), natI_snoc, HNL.out]; exact hv7, k7⟩
          case measure => simp [intOf]; omega
      · obtain rfl : k = N := by omega
        have hlt' : ¬ ((k : Int) < k) := by omega
        go_wp2_with fail
        go_ret2
        exact ⟨_, rfl, hown.mono k03.size, k03.trans kw⟩
  · rw [if_neg hz] at HR
    rw [HR.out]
    obtain ⟨p, c, rfl, _⟩ := hv.shape
    obtain ⟨q, c2, rfl, _⟩ := hu.shape
    clear hv hu hs ht HR c0 c1 d0 d1
    generalize srC s ss tt = code at *
    go_enter Tryz.func12, Tryz.ntmps12
    go_wp2_with fail
    refine HC.out.mono ?_; rintro e w2 ⟨rfl, k2⟩
    go_wp2_with fail
    go_ret2
    exact ⟨_, rfl, OwnI.nil _ _, kA.trans k2⟩
--
set_option maxRecDepth 100000 in
set_option maxHeartbeats 4000000 in
theorem implIsModalTheorem (s : ByteArray) (ss tt : List ByteArray) (v u : Value) (w : World) (hv : Strs w v ss) (hu : Strs w u tt) (hs : Mid ss) (ht : Mid tt) :
    Calls Tryz.prog 19 #[.string s, .agg #[v, u]] w fun e w' => e = .returned (.tuple #[.bool (mtR s ss tt), .int .i64 (srC s ss tt)]) ∧ Keeps w w' := by
  obtain ⟨kA, c0, c1, d0, d1⟩ := seq1 w v u
  have HC := hid (searchableCode_any s ss tt v u (w.heap.size + 1) _ (hv.keeps kA) (hu.keeps kA) hs ht d0 d1)
  have HR : Hid (mtR s ss tt = if srC s ss tt = 0 then mtB s ss tt else false) := hid rfl
  by_cases hz : srC s ss tt = 0
  · rw [if_pos hz] at HR
    rw [hz] at HC
    rw [HR.out, hz]
    have hk := srC_ok hz
    have HM := hid (fun wz (kz : Keeps w wz) => isModalTheorem_any s ss tt v u wz (hv.keeps kz) (hu.keeps kz) hk)
    change Hid (∀ wz, Keeps w wz → Calls Tryz.prog _ _ wz fun e w' => e = .returned (.bool (mtB s ss tt)) ∧ Keeps wz w') at HM
    obtain ⟨p, c, rfl, _⟩ := hv.shape
    obtain ⟨q, c2, rfl, _⟩ := hu.shape
    clear hv hu hs ht hz hk HR d0 d1
    generalize mtB s ss tt = b at *
    go_enter Tryz.func19, Tryz.ntmps19
    go_wp2_with fail
    refine HC.out.mono ?_; rintro e w2 ⟨rfl, k2⟩
    have e0 := k2.cell c0
    have e1 := k2.cell c1
    go_wp2_with fail
    refine (HM.out _ (kA.trans k2)).mono ?_; rintro e w3 ⟨rfl, k3⟩
    go_wp2_with fail
    go_ret2
    exact ⟨rfl, (kA.trans k2).trans k3⟩
  · rw [if_neg hz] at HR
    rw [HR.out]
    obtain ⟨p, c, rfl, _⟩ := hv.shape
    obtain ⟨q, c2, rfl, _⟩ := hu.shape
    clear hv hu hs ht HR c0 c1 d0 d1
    generalize srC s ss tt = code at *
    go_enter Tryz.func19, Tryz.ntmps19
    go_wp2_with fail
    refine HC.out.mono ?_; rintro e w2 ⟨rfl, k2⟩
    go_wp2_with fail
    go_ret2
    exact ⟨rfl, kA.trans k2⟩
--
theorem srOk_of {ss tt : List ByteArray} (h : srC (lgS 0) ss tt = 0) {x : ByteArray} (hx : x ∈ names8) : SrOk x ss tt := by
  have hl : isLg x = true := by unfold isLg; exact @decide_eq_true _ (Classical.propDecidable _) hx
  have hk := srC_ok h
  exact ⟨(lgN_spec hl).1, (lgN_spec hl).2, hk.hs, hk.ht, hk.h1, hk.h2, hk.h8, hk.hN⟩
set_option maxHeartbeats 1000000 in
theorem logicsOf1_any (x : ByteArray) (ss tt : List ByteArray) (v u : Value) (g : Nat) (w : World) (hv : Strs w v ss) (hu : Strs w u tt) (hk : SrOk x ss tt) (c0 : w.cell? ⟨g, 0, none⟩ = some v) (c1 : w.cell? ⟨g, 1, none⟩ = some u) :
    Calls Tryz.prog 52 #[.string x, .pointer (some ⟨g, 0, none⟩)] w fun e w' => e = .returned (.bool (!mtB x ss tt)) ∧ Keeps w w' := by
  have HM := hid (isModalTheorem_any x ss tt v u w hv hu hk)
  change Hid (Calls Tryz.prog _ _ w fun e w' => e = .returned (.bool (mtB x ss tt)) ∧ Keeps w w') at HM
  obtain ⟨p, c, rfl, _⟩ := hv.shape
  obtain ⟨q, c2, rfl, _⟩ := hu.shape
  clear hv hu hk
  generalize mtB x ss tt = b at *
  go_enter Tryz.func52, Tryz.ntmps52
  go_wp2_with fail
  refine HM.out.mono ?_; rintro e w2 ⟨rfl, k2⟩
  go_wp2_with fail
  go_ret
  exact ⟨rfl, k2⟩
theorem enters_logicsOf1 : Enters 52 := fun _ _ => by kernel_rfl
set_option maxRecDepth 100000 in
set_option maxHeartbeats 4000000 in
theorem implLogicsOf (ss tt : List ByteArray) (v u : Value) (w : World) (hv : Strs w v ss) (hu : Strs w u tt) (hs : Mid ss) (ht : Mid tt) :
    Calls Tryz.prog 21 #[.agg #[v, u]] w (RetSC w (loR ss tt) (srC (lgS 0) ss tt)) := by
  obtain ⟨kA, c0, c1, d0, d1⟩ := seq1 w v u
  have HC := hid (searchableCode_any (lgS 0) ss tt v u (w.heap.size + 1) _ (hv.keeps kA) (hu.keeps kA) hs ht d0 d1)
  rw [show lgS 0 = ⟨#[75]⟩ from rfl] at HC
  rw [show srC (lgS 0) ss tt = srC ⟨#[75]⟩ ss tt from rfl]
  have HR : Hid (loR ss tt = if srC ⟨#[75]⟩ ss tt = 0 then names8.filter (fun s => mtB s ss tt) else []) := hid rfl
  by_cases hz : srC ⟨#[75]⟩ ss tt = 0
  · rw [if_pos hz] at HR
    rw [hz] at HC
    rw [HR.out, hz]
    have HD := hid (fun g cap w0 wz (kz0 : Keeps w w0) (ho : OwnS wz w0.heap.size (.slice (some ⟨g, 0, none⟩) names8.length cap) names8) (kz : Keeps w0 wz) (e0 : w0.cell? ⟨w.heap.size, 0, none⟩ = some v) (e1 : w0.cell? ⟨w.heap.size, 1, none⟩ = some u) =>
      deleteFuncSK (fun x => !mtB x ss tt) 52 #[.pointer (some ⟨w.heap.size, 0, none⟩)] names8 g cap w0 wz ho kz (by show 8 ≤ _; omega) enters_logicsOf1
        (fun x w1 hx k1 => logicsOf1_any x ss tt v u w.heap.size w1 (hv.keeps (kz0.trans k1)) (hu.keeps (kz0.trans k1)) (srOk_of hz hx) (k1.cell e0) (k1.cell e1)))
    have hnn : (fun x => !!mtB x ss tt) = fun x => mtB x ss tt := funext fun x => by simp
    rw [hnn] at HD
    have HSL := hid (fun wz => searchLogics_any wz)
    obtain ⟨p, c, rfl, _⟩ := hv.shape
    obtain ⟨q, c2, rfl, _⟩ := hu.shape
    clear hv hu hs ht hz HR d0 d1 hnn
    generalize names8.filter (fun x => mtB x ss tt) = R at *
    have h8 : names8.length = 8 := rfl
    rw [h8] at HD
    clear h8
    go_enter Tryz.func21, Tryz.ntmps21
    go_wp2_with fail
    refine HC.out.mono ?_; rintro e w2 ⟨rfl, k2⟩
    have e0 := k2.cell c0
    have e1 := k2.cell c1
    go_wp2_with fail
    refine (HSL.out w2).mono ?_; rintro e w3 ⟨v3, rfl, hv3, k3⟩
    obtain ⟨g, cap, rfl⟩ := own_some hv3 (by decide)
    rw [show names8.length = 8 from rfl] at *
    have HD2 := hid (HD.out g cap w2 w3 (kA.trans k2) hv3 k3 e0 e1)
    have hs2 := (kA.trans k2).size
    clear hv3
    go_wp2_with fail
    refine HD2.out.mono ?_; rintro e w4 ⟨v4, rfl, hv4, k4⟩
    go_wp2_with fail
    go_ret2
    exact ⟨_, rfl, hv4.mono hs2, (kA.trans k2).trans k4⟩
  · rw [if_neg hz] at HR
    rw [HR.out]
    obtain ⟨p, c, rfl, _⟩ := hv.shape
    obtain ⟨q, c2, rfl, _⟩ := hu.shape
    clear hv hu hs ht HR c0 c1 d0 d1
    generalize srC ⟨#[75]⟩ ss tt = code at *
    go_enter Tryz.func21, Tryz.ntmps21
    go_wp2_with fail
    refine HC.out.mono ?_; rintro e w2 ⟨rfl, k2⟩
    go_wp2_with fail
    go_ret2
    exact ⟨_, rfl, OwnS.nil _ _, kA.trans k2⟩
end Go.Proofs.YtgnehffglhbggaaGreat
