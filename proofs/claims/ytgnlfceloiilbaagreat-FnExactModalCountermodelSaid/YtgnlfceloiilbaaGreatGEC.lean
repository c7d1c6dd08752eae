/- The program's model of some types. -/
import Derived.Test.YtgnlfceloiilbaaGreatGNL
import Derived.Test.YtgnlfceloiilbaaGreatGLM
import Derived.Test.YtgnlfceloiilbaaGreatGRK
import Derived.Deep.CutBlock
import Derived.Deep.DeepCutAuto
namespace Go.Proofs.YtgnlfceloiilbaaGreat
open Go.RowKit
/-! ### making a row of numbers, as a function of the world -/
noncomputable def mkI (w : World) (n : Nat) : World := if h : n ≤ 2147483648 then Classical.choose (run_makeI w n h) else w
theorem mkI_spec (w : World) (n : Nat) (h : n ≤ 2147483648) : (Instr.makeSlice 26 (.int .i64 (n : Int)) (.int .i64 (n : Int))).run Tryz.prog w = .ok (.slice (some ⟨w.heap.size, 0, none⟩) n n) (mkI w n) ∧
      OwnI (mkI w n) w.heap.size (.slice (some ⟨w.heap.size, 0, none⟩) n n) (List.replicate n 0) ∧ Keeps w (mkI w n) := by
  unfold mkI
  rw [dif_pos h]
  exact Classical.choose_spec (run_makeI w n h)
theorem mkI_lt (w : World) (n : Nat) (h : n ≤ 2147483648) : w.heap.size < (mkI w n).heap.size := ((mkI_spec w n h).2.1.len _ rfl).2
theorem Keeps.mkI {a w : World} (h : Keeps a w) (n : Nat) : Keeps a (mkI w n) := by
  by_cases hn : n ≤ 2147483648
  · exact h.trans (mkI_spec w n hn).2.2
  · unfold Go.Proofs.YtgnlfceloiilbaaGreat.mkI
    rw [dif_neg hn]
    exact h
theorem own_mk {wz wx : World} {n b : Nat} (k : Keeps (mkI wz n) wx) (hb : b = wz.heap.size) (hn : n ≤ 2147483648) : OwnI wx b (.slice (some ⟨b, 0, none⟩) n n) (List.replicate n 0) := by
  subst hb
  exact (mkI_spec wz n hn).2.1.keeps k
theorem ints_mk {wz wx : World} {n b : Nat} (k : Keeps (mkI wz n) wx) (hb : b = wz.heap.size) (hn : n ≤ 1000) : Ints wx (.slice (some ⟨b, 0, none⟩) n n) (List.replicate n 0) :=
  (own_mk k hb (by omega)).ints (by simp; omega)
theorem zs_setM (a : List Nat) (i x : Nat) : zs (a.set i x) = (zs a).set i (x : Int) := by simp [zs, List.map_set]
theorem zs_repM (n : Nat) : List.replicate n (0 : Int) = zs (List.replicate n 0) := by simp [zs]
theorem natI_zs (l : List Nat) : natI l = zs l := rfl
theorem boxed3 {w : World} {r B s m : Nat} {T T' : TypeId} {cs ds : List Value} {u : Value} (ho : w.ownsRow B T' s u m ds) (h : BoxG w r T cs) (t : T ≠ T') (x y z : Value) : (((w.setCell ⟨r, 0, none⟩ x).setCell ⟨r, 1, none⟩ y).setCell ⟨r, 2, none⟩ z).ownsRow B T' s u m ds :=
  own_boxed (i := 2) (x := z) (own_boxed (i := 1) (x := y) (own_boxed (i := 0) (x := x) ho h t) (h.set 0 x) t) ((h.set 0 x).set 1 y) t
/-- a model that is made: its box, arrows and values -/
structure MdW (wA w : World) (g n gA gV : Nat) (A V : List Nat) : Prop where
  box : BoxG w g 30 [.int .i64 n, .slice (some ⟨gA, 0, none⟩) n n, .slice (some ⟨gV, 0, none⟩) 6 6]
  ra : OwnI w wA.heap.size (.slice (some ⟨gA, 0, none⟩) n n) (zs A)
  rv : OwnI w wA.heap.size (.slice (some ⟨gV, 0, none⟩) 6 6) (zs V)
  ne : gA ≠ gV
  kp : Keeps wA w
  hg : wA.heap.size ≤ g
  la : A.length = n
  lv : V.length = 6
section
variable {wA w w' : World} {g n gA gV : Nat} {A V : List Nat}
theorem MdW.keeps (h : MdW wA w g n gA gV A V) (k : Keeps w w') : MdW wA w' g n gA gV A V := ⟨h.box.keeps k, h.ra.keeps k, h.rv.keeps k, h.ne, h.kp.trans k, h.hg, h.la, h.lv⟩
theorem MdW.setA (h : MdW wA w g n gA gV A V) (i x : Nat) (hi : i < n) : MdW wA (w.setCell ⟨gA, i, none⟩ (.int .i64 (x : Int))) g n gA gV (A.set i x) V := by
  have hs := OwnI.store h.ra i (by rw [zs_length, h.la]; exact hi) (x : Int)
  rw [← zs_setM] at hs
  refine ⟨h.box.other h.ra (by decide) hs.2, hs.1, own_touch h.rv (Touch.grown hs.2) (fun k e hk => ?_), h.ne, h.kp.grown hs.2 (fun k e => ?_), h.hg, by simpa using h.la, h.lv⟩
  · have e1 : gV = k := by simpa [Value.ownBlock] using e
    have e2 : k = gA := by simpa [Value.ownBlock] using hk
    exact h.ne (by omega)
  · cases e
    exact (h.ra.len _ rfl).1
theorem MdW.setV (h : MdW wA w g n gA gV A V) (i x : Nat) (hi : i < 6) : MdW wA (w.setCell ⟨gV, i, none⟩ (.int .i64 (x : Int))) g n gA gV A (V.set i x) := by
  have hs := OwnI.store h.rv i (by rw [zs_length, h.lv]; exact hi) (x : Int)
  rw [← zs_setM] at hs
  refine ⟨h.box.other h.rv (by decide) hs.2, own_touch h.ra (Touch.grown hs.2) (fun k e hk => ?_), hs.1, h.ne, h.kp.grown hs.2 (fun k e => ?_), h.hg, h.la, by simpa using h.lv⟩
  · have e1 : gA = k := by simpa [Value.ownBlock] using e
    have e2 : k = gV := by simpa [Value.ownBlock] using hk
    exact h.ne (by omega)
  · cases e
    exact (h.rv.len _ rfl).1
theorem MdW.cells (h : MdW wA w g n gA gV A V) : w.cell? ⟨g, 0, none⟩ = some (.int .i64 n) ∧ w.cell? ⟨g, 1, none⟩ = some (.slice (some ⟨gA, 0, none⟩) n n) ∧ w.cell? ⟨g, 2, none⟩ = some (.slice (some ⟨gV, 0, none⟩) 6 6) :=
  ⟨h.box.cell 0 (by simp), h.box.cell 1 (by simp), h.box.cell 2 (by simp)⟩
theorem MdW.cellA (h : MdW wA w g n gA gV A V) (i : Nat) (hi : i < n) : w.cell? ⟨gA, i, none⟩ = some (.int .i64 (A.getD i 0 : Nat)) ∧ w.frozen? ⟨gA, i, none⟩ = false := by
  obtain ⟨a, b⟩ := h.ra.cell i (by rw [zs_length, h.la]; exact hi)
  rw [zs_get, ← getD_get] at a
  exact ⟨a, b⟩
theorem MdW.cellV (h : MdW wA w g n gA gV A V) (i : Nat) (hi : i < 6) : w.cell? ⟨gV, i, none⟩ = some (.int .i64 (V.getD i 0 : Nat)) ∧ w.frozen? ⟨gV, i, none⟩ = false := by
  obtain ⟨a, b⟩ := h.rv.cell i (by rw [zs_length, h.lv]; exact hi)
  rw [zs_get, ← getD_get] at a
  exact ⟨a, b⟩
end
/-! ### the arrows, as far as they are laid -/
noncomputable def arrL (L : Nat) (E : List Fm) (W : List Nat) (x y : Nat) : List Nat := (List.range W.length).map fun j => if j < x then cmA L E W j else if j = x then mskB (fun k => seeB L E (W.getD x 0) (W.getD k 0)) y else 0
theorem arrL_len (L : Nat) (E : List Fm) (W : List Nat) (x y : Nat) : (arrL L E W x y).length = W.length := by simp [arrL]
theorem arrL_get {L : Nat} {E : List Fm} {W : List Nat} {x : Nat} (y : Nat) (h : x < W.length) : (arrL L E W x y).getD x 0 = mskB (fun k => seeB L E (W.getD x 0) (W.getD k 0)) y := by
  rw [List.getD_eq_getElem?_getD]
  simp [arrL, h]
theorem arrL_start (L : Nat) (E : List Fm) (W : List Nat) : arrL L E W 0 0 = List.replicate W.length 0 := by
  apply List.ext_getElem (by simp [arrL])
  intro i h1 h2
  simp [arrL, mskB]
theorem arrL_end {L : Nat} {E : List Fm} {W : List Nat} {x : Nat} : arrL L E W x W.length = arrL L E W (x + 1) 0 := by
  apply List.ext_getElem (by simp [arrL])
  intro i h1 h2
  simp only [arrL, List.getElem_map, List.getElem_range, mskB]
  by_cases c : i < x
  · rw [if_pos c, if_pos (by omega)]
  · rw [if_neg c]
    by_cases d : i = x
    · rw [if_pos d, if_pos (by omega), d]; rfl
    · rw [if_neg d, if_neg (by omega)]; simp
theorem arrL_no {L : Nat} {E : List Fm} {W : List Nat} {x y : Nat} (h : seeB L E (W.getD x 0) (W.getD y 0) = false) : arrL L E W x (y + 1) = arrL L E W x y := by
  unfold arrL
  rw [show mskB (fun k => seeB L E (W.getD x 0) (W.getD k 0)) (y + 1) = mskB (fun k => seeB L E (W.getD x 0) (W.getD k 0)) y from by rw [mskB, if_neg (by rw [h]; simp)]]
theorem arrL_yes {L : Nat} {E : List Fm} {W : List Nat} {x y : Nat} (hx : x < W.length) (h : seeB L E (W.getD x 0) (W.getD y 0) = true) : (arrL L E W x y).set x ((arrL L E W x y).getD x 0 ||| 2 ^ y) = arrL L E W x (y + 1) := by
  rw [arrL_get y hx]
  apply List.ext_getElem (by simp [arrL])
  intro i h1 h2
  rw [List.getElem_set]
  simp only [arrL, List.getElem_map, List.getElem_range]
  by_cases c : x = i
  · subst c
    rw [if_pos rfl, if_neg (by omega), if_pos rfl, mskB, if_pos h]
  · rw [if_neg c]
    by_cases d : i < x
    · rw [if_pos d, if_pos d]
    · rw [if_neg d, if_neg d, if_neg (Ne.symm c), if_neg (Ne.symm c)]
theorem arrL_all (L : Nat) (E : List Fm) (W : List Nat) : arrL L E W W.length 0 = (List.range W.length).map (cmA L E W) := by
  apply List.ext_getElem (by simp [arrL])
  intro i h1 h2
  have hi : i < W.length := by simpa [arrL] using h1
  simp [arrL, hi]
theorem msk_lt8 {p : Nat → Bool} {y : Nat} (h : y ≤ 8) : mskB p y < 256 := Nat.lt_of_lt_of_le (mskB_lt p y) (two8 h)
--
set_option maxRecDepth 20000 in
theorem frameOfM_any (a : List Int) (v : Value) (w : World) (hv : Ints w v a) : Calls Tryz.prog 161 #[v] w fun e w' => e = .returned (.agg #[.int .i64 a.length, v]) ∧ Keeps w w' := by
  have HS := hid (fun w2 (k : Keeps w w2) => sizeI_any a v w2 (hv.keeps k))
  have kA := (Keeps.refl w).alloc (.cells #[.int .i64 0, .slice none 0 0] 28)
  obtain ⟨p, cap, rfl, _⟩ := hv
  go_enter Tryz.func161, Tryz.ntmps161
  go_wp2_with fail
  refine (HS.out _ kA).mono ?_; rintro e w2 ⟨rfl, rfl⟩
  go_wp2_with fail
  refine bodyPost_ret (v := .agg #[.int .i64 a.length, .slice p a.length cap]) (by simp [results, Tryz.results161, go_sem]) rfl ?_
  exact ⟨rfl, (Keeps.refl w).alloc _⟩
/-- what is so while the model's frame, values and box are made -/
structure MdI (wA : World) (n : Nat) (sl : Value) (l : Nat → Bool) (f : Nat → Value) (w : World) : Prop where
  f1 : f 1 = sl
  kp : Keeps wA w
  h0 : l 0 = true → f 12 = sl
  h1 : l 1 = true → f 13 = .int .i64 n
  h2 : l 2 = true → ∃ g, f 14 = .slice (some ⟨g, 0, none⟩) n n ∧ OwnI w wA.heap.size (.slice (some ⟨g, 0, none⟩) n n) (List.replicate n 0)
  h3 : l 3 = true → l 2 = true ∧ f 15 = .agg #[.int .i64 n, f 14]
  h4 : l 4 = true → ∃ g, f 16 = .slice (some ⟨g, 0, none⟩) 6 6 ∧ OwnI w wA.heap.size (.slice (some ⟨g, 0, none⟩) 6 6) (List.replicate 6 0)
  h24 : l 2 = true → l 4 = true → (f 14).ownBlock ≠ (f 16).ownBlock
  h5 : l 5 = true → l 2 = true ∧ l 4 = true ∧ f 17 = .agg #[.int .i64 n, f 14, f 16]
  h7 : l 7 = true → l 5 = true ∧ l 6 = true
  h6 : l 6 = true → ∃ g, f 5 = .pointer (some ⟨g, 0, none⟩) ∧ wA.heap.size ≤ g ∧ BoxG w g 30 (if l 7 = true then [.int .i64 n, f 14, f 16] else [.int .i64 0, .slice none 0 0, .slice none 0 0])
theorem MdI.congr {wA : World} {n : Nat} {sl : Value} {l l' : Nat → Bool} {f : Nat → Value} {w : World} (hl : ∀ j, j < 8 → l j = l' j) (h : MdI wA n sl l f w) : MdI wA n sl l' f w := by
  obtain ⟨a, b, c, d, e, g, i, j, k, q, m⟩ := h
  rw [hl 0 (by omega)] at c
  rw [hl 1 (by omega)] at d
  rw [hl 2 (by omega)] at e
  rw [hl 3 (by omega), hl 2 (by omega)] at g
  rw [hl 4 (by omega)] at i
  rw [hl 2 (by omega), hl 4 (by omega)] at j
  rw [hl 5 (by omega), hl 2 (by omega), hl 4 (by omega)] at k
  rw [hl 5 (by omega), hl 6 (by omega), hl 7 (by omega)] at q
  rw [hl 6 (by omega), hl 7 (by omega)] at m
  exact ⟨a, b, c, d, e, g, i, j, k, q, m⟩
theorem MdI.keeps {wA : World} {n : Nat} {sl : Value} {l : Nat → Bool} {f : Nat → Value} {w w' : World} (h : MdI wA n sl l f w) (k : Keeps w w') : MdI wA n sl l f w' := by
  refine ⟨h.f1, h.kp.trans k, h.h0, h.h1, fun e => ?_, h.h3, fun e => ?_, h.h24, h.h5, h.h7, fun e => ?_⟩
  · obtain ⟨g, a, b⟩ := h.h2 e
    exact ⟨g, a, b.keeps k⟩
  · obtain ⟨g, a, b⟩ := h.h4 e
    exact ⟨g, a, b.keeps k⟩
  · obtain ⟨g, a, b, c⟩ := h.h6 e
    exact ⟨g, a, b, c.keeps k⟩
section
variable {wA : World} {n : Nat} {sl : Value} {l : Nat → Bool} {f : Nat → Value} {w w' : World}
theorem MdI.s0 (h : MdI wA n sl l f w) : MdI wA n sl (fun j => l j || j == 0) (fun s => if (some 12 : Option Nat) = some s then sl else f s) w := 
  ⟨by simpa using h.f1, h.kp, fun _ => by simp, by simpa using h.h1, by simpa using h.h2, by simpa using h.h3, by simpa using h.h4, by simpa using h.h24, by simpa using h.h5, by simpa using h.h7, by simpa using h.h6⟩
theorem MdI.s1 (h : MdI wA n sl l f w) : MdI wA n sl (fun j => l j || j == 1) (fun s => if (some 13 : Option Nat) = some s then .int .i64 n else f s) w := 
  ⟨by simpa using h.f1, h.kp, by simpa using h.h0, fun _ => by simp, by simpa using h.h2, by simpa using h.h3, by simpa using h.h4, by simpa using h.h24, by simpa using h.h5, by simpa using h.h7, by simpa using h.h6⟩
theorem MdI.s2 (h : MdI wA n sl l f w) (hl : l 2 = false) (k : Keeps w w') (ho : OwnI w' w.heap.size (.slice (some ⟨w.heap.size, 0, none⟩) n n) (List.replicate n 0)) : MdI wA n sl (fun j => l j || j == 2) (fun s => if (some 14 : Option Nat) = some s then .slice (some ⟨w.heap.size, 0, none⟩) n n else f s) w' := by
  have hk := h.keeps k
  have h3 : l 3 = true → False := fun e => by have := (h.h3 e).1; rw [hl] at this; cases this
  have h5 : l 5 = true → False := fun e => by have := (h.h5 e).1; rw [hl] at this; cases this
  have h7 : l 7 = false := by
    cases e : l 7 with
    | false => rfl
    | true => exact (h5 (h.h7 e).1).elim
  refine ⟨by simpa using h.f1, hk.kp, by simpa using h.h0, by simpa using h.h1, fun _ => ⟨w.heap.size, by simp, ho.mono h.kp.size⟩, fun e => (h3 (by simpa using e)).elim, by simpa using hk.h4, fun _ e => ?_, fun e => (h5 (by simpa using e)).elim, by simpa using h.h7, ?_⟩
  · obtain ⟨g, a, b⟩ := h.h4 (by simpa using e)
    have := (b.len g rfl).2
    simp [a, Value.ownBlock]
    omega
  · have := hk.h6
    simp [h7] at this ⊢
    exact this
theorem MdI.s4 (h : MdI wA n sl l f w) (hl : l 4 = false) (k : Keeps w w') (ho : OwnI w' w.heap.size (.slice (some ⟨w.heap.size, 0, none⟩) 6 6) (List.replicate 6 0)) : MdI wA n sl (fun j => l j || j == 4) (fun s => if (some 16 : Option Nat) = some s then .slice (some ⟨w.heap.size, 0, none⟩) 6 6 else f s) w' := by
  have hk := h.keeps k
  have h5 : l 5 = true → False := fun e => by have := (h.h5 e).2.1; rw [hl] at this; cases this
  have h7 : l 7 = false := by
    cases e : l 7 with
    | false => rfl
    | true => exact (h5 (h.h7 e).1).elim
  refine ⟨by simpa using h.f1, hk.kp, by simpa using h.h0, by simpa using h.h1, by simpa using hk.h2, by simpa using h.h3, fun _ => ⟨w.heap.size, by simp, ho.mono h.kp.size⟩, fun e _ => ?_, fun e => (h5 (by simpa using e)).elim, by simpa using h.h7, ?_⟩
  · obtain ⟨g, a, b⟩ := h.h2 (by simpa using e)
    have := (b.len g rfl).2
    simp [a, Value.ownBlock]
    omega
  · have := hk.h6
    simp [h7] at this ⊢
    exact this
theorem MdI.s3 (h : MdI wA n sl l f w) (hl : l 2 = true) (k : Keeps w w') : MdI wA n sl (fun j => l j || j == 3) (fun s => if (some 15 : Option Nat) = some s then .agg #[.int .i64 n, f 14] else f s) w' := by
  have hk := h.keeps k
  exact ⟨by simpa using h.f1, hk.kp, by simpa using h.h0, by simpa using h.h1, by simpa using hk.h2, fun _ => ⟨by simpa using hl, by simp⟩, by simpa using hk.h4, by simpa using h.h24, by simpa using h.h5, by simpa using h.h7, by simpa using hk.h6⟩
theorem MdI.s5 (h : MdI wA n sl l f w) (hl : l 2 = true) (hl4 : l 4 = true) : MdI wA n sl (fun j => l j || j == 5) (fun s => if (some 17 : Option Nat) = some s then .agg #[.int .i64 n, f 14, f 16] else f s) w := by
  exact ⟨by simpa using h.f1, h.kp, by simpa using h.h0, by simpa using h.h1, by simpa using h.h2, by simpa using h.h3, by simpa using h.h4, by simpa using h.h24, fun _ => ⟨by simpa using hl, by simpa using hl4, by simp⟩, fun e => by simpa using (h.h7 (by simpa using e)).2, by simpa using h.h6⟩
theorem MdI.s6 (h : MdI wA n sl l f w) (hl : l 6 = false) : MdI wA n sl (fun j => l j || j == 6) (fun s => if (some 5 : Option Nat) = some s then .pointer (some ⟨w.heap.size, 0, none⟩) else f s) (w.alloc (.cells #[.int .i64 0, .slice none 0 0, .slice none 0 0] 30)) := by
  have hk := h.keeps ((Keeps.refl w).alloc (.cells #[.int .i64 0, .slice none 0 0, .slice none 0 0] 30))
  have h7 : l 7 = false := by
    cases e : l 7 with
    | false => rfl
    | true => have := (h.h7 e).2; rw [hl] at this; cases this
  refine ⟨by simpa using h.f1, hk.kp, by simpa using h.h0, by simpa using h.h1, by simpa using hk.h2, by simpa using h.h3, by simpa using hk.h4, by simpa using h.h24, by simpa using h.h5, fun e => ?_, fun _ => ⟨w.heap.size, by simp, h.kp.size, ?_⟩⟩
  · rw [h7] at e; simp at e
  · have := BoxG.made w 30 [.int .i64 0, .slice none 0 0, .slice none 0 0] (by simp) (by simp)
    simpa [h7] using this
theorem MdI.s7 {g gA gV : Nat} {v : Value} (h : MdI wA n sl l f w) (hl5 : l 5 = true) (hl6 : l 6 = true) (hl7 : l 7 = false) (hg : f 5 = .pointer (some ⟨g, 0, none⟩)) (hA : f 14 = .slice (some ⟨gA, 0, none⟩) n n) (hV : f 16 = .slice (some ⟨gV, 0, none⟩) 6 6) :
    MdI wA n sl (fun j => l j || j == 7) (fun s => if (none : Option Nat) = some s then v else f s) (((w.setCell ⟨g, 0, none⟩ (.int .i64 n)).setCell ⟨g, 1, none⟩ (.slice (some ⟨gA, 0, none⟩) n n)).setCell ⟨g, 2, none⟩ (.slice (some ⟨gV, 0, none⟩) 6 6)) := by
  obtain ⟨g', e, hle, hb⟩ := h.h6 hl6
  rw [hg] at e
  cases e
  simp only [hl7, Bool.false_eq_true, if_false] at hb
  have b1 := hb.set 0 (.int .i64 n)
  have b2 := b1.set 1 (.slice (some ⟨gA, 0, none⟩) n n)
  have b3 := b2.set 2 (.slice (some ⟨gV, 0, none⟩) 6 6)
  refine ⟨by simpa using h.f1, ((h.kp.setCell (p := ⟨g, 0, none⟩) hle _).setCell (p := ⟨g, 1, none⟩) hle _).setCell (p := ⟨g, 2, none⟩) hle _, by simpa using h.h0, by simpa using h.h1, fun e => ?_, by simpa using h.h3, fun e => ?_, by simpa using h.h24, by simpa using h.h5, fun _ => ⟨by simpa using hl5, by simpa using hl6⟩, fun _ => ⟨g, by simpa using hg, hle, ?_⟩⟩
  · obtain ⟨x, a, b⟩ := h.h2 (by simpa using e)
    exact ⟨x, by simpa using a, own_boxed (own_boxed (own_boxed b hb (by decide)) b1 (by decide)) b2 (by decide)⟩
  · obtain ⟨x, a, b⟩ := h.h4 (by simpa using e)
    exact ⟨x, by simpa using a, own_boxed (own_boxed (own_boxed b hb (by decide)) b1 (by decide)) b2 (by decide)⟩
  · simpa [hA, hV] using b3
theorem run_storeM (r : Nat) (a b c : Value) (x : Int) (p q : Option Addr) (m1 c1 m2 c2 : Nat) (w : World) (hb : BoxG w r 30 [a, b, c]) : (Instr.storeAt 30 (.pointer (some ⟨r, 0, none⟩)) (.agg #[.int .i64 x, .slice p m1 c1, .slice q m2 c2])).run Tryz.prog w = .ok () (((w.setCell ⟨r, 0, none⟩ (.int .i64 x)).setCell ⟨r, 1, none⟩ (.slice p m1 c1)).setCell ⟨r, 2, none⟩ (.slice q m2 c2)) := by
  have a0 := hb.cell 0 (by simp)
  have a1 := hb.cell 1 (by simp)
  have a2 := hb.cell 2 (by simp)
  have f0 := hb.froz 0
  have f1 := hb.froz 1
  have f2 := hb.froz 2
  simp only [List.getElem_cons_succ, List.getElem_cons_zero] at a0 a1 a2
  simp [Instr.storeAt, go_sem, a0, a1, a2, f0, f1, f2]
theorem run_buildM (n : Int) (p q : Option Addr) (m c m2 c2 : Nat) (w : World) : (Instr.build 30 #[(0, .agg #[.int .i64 n, .slice p m c]), (1, .slice q m2 c2)]).run Tryz.prog w = .ok (.agg #[.int .i64 n, .slice p m c, .slice q m2 c2]) w := by
  kernel_rfl
theorem enters_frameOf : Enters 161 := fun _ _ => by kernel_rfl
end
--
theorem seesW (r L N : Nat) (E : List Fm) (W : List Nat) (hWN : ∀ t ∈ W, t < N) (x y : Nat) (hx : x < W.length) (hy : y < W.length) (w : World) {R : List Bool} {ss : List ByteArray} (h : NwR w r L E N R ss) :
    Calls Tryz.prog 159 #[.pointer (some ⟨r, 0, none⟩), .int .i64 (W.getD x 0 : Nat), .int .i64 (W.getD y 0 : Nat)] w fun e w' => e = .returned (.bool (seeB L E (W.getD x 0) (W.getD y 0))) ∧ Keeps w w' := by
  have f1 := hWN (W.getD x 0) (by rw [List.getD_eq_getElem?_getD, List.getElem?_eq_getElem hx]; exact List.getElem_mem hx)
  have f2 := hWN (W.getD y 0) (by rw [List.getD_eq_getElem?_getD, List.getElem?_eq_getElem hy]; exact List.getElem_mem hy)
  have := sees_any r L N (nees E N) _ _ f1 f2 w h.ty.ty
  rw [nees_see L E N _ _ f1 f2] at this
  exact this
def RetMd (w : World) (L : Nat) (E : List Fm) (W : List Nat) (e : Ending) (w' : World) : Prop := ∃ va vb, e = .returned (.agg #[.int .i64 W.length, va, vb]) ∧ OwnI w' w.heap.size va (zs ((List.range W.length).map (cmA L E W))) ∧ OwnI w' w.heap.size vb (zs (cmV E W W.length)) ∧ Sep va vb ∧ Keeps w w'
set_option maxRecDepth 20000 in
set_option maxHeartbeats 8000000 in
theorem model_any (r L N : Nat) (E : List Fm) (ss : List ByteArray) (R : List Bool) (h8 : E.length ≤ 8) (hE : ∀ t ∈ E, isEl t = true ∧ t.wf) (W : List Nat) (hW8 : W.length ≤ 8) (hWN : ∀ t ∈ W, t < N) (v : Value) (w : World) (h : NwR w r L E N R ss) (hv : Ints w v (natI W)) :
    Calls Tryz.prog 60 #[.pointer (some ⟨r, 0, none⟩), v] w (RetMd w L E W) := by
  have hN := h.ty.ty.hN
  have kA := (Keeps.refl w).alloc (.cells #[.int .i64 0, .slice none 0 0, .slice none 0 0] 30)
  have hbA := BoxG.made w 30 [.int .i64 0, .slice none 0 0, .slice none 0 0] (by simp) (by simp)
  have HA := hid (h.keeps kA)
  have HVA := hid (hv.keeps kA)
  have HBA := hid hbA
  obtain ⟨p1, c1, rfl, hle1, hmx1, -⟩ := hv
  unfold maxLen at hmx1
  rw [natI_len] at *
  clear h hbA
  go_enter Tryz.func60, Tryz.ntmps60
  go_upto_region 1 with fail
  generalize w.alloc (.cells #[.int .i64 0, .slice none 0 0, .slice none 0 0] 30) = wA at *
  go_cut [5] from 12 to 17 (fun p5 wx => ∃ g gA gV, p5 = .pointer (some ⟨g, 0, none⟩) ∧ MdW wA wx g W.length gA gV (List.replicate W.length 0) (List.replicate 6 0))
  case first =>
    refine wp_region_inv (L := 8) (nt := 84) (ds := [12, 13, 14, 15, 16, 17, 5]) (by kernel_rfl) (by kernel_rfl) (MdI wA W.length (.slice p1 W.length c1)) (fun l l' f w hl h => MdI.congr hl h) ?_ (by kernel_rfl) rfl ?_ ?_
    · refine ⟨?_, ?_, ?_, ?_, ?_, ?_, ?_, ?_, True.intro⟩
      · intro lst a w2 K hsz hdf hl hdep hI hK
        unfold Oper.wp execOp
        simp only [hI.f1, Sem.run_pure]
        exact hK _ _ hI.s0
      · intro lst a w2 K hsz hdf hl hdep hI hK
        have h12 := hI.h0 (hdep 0 (by kernel_rfl))
        unfold Oper.wp execOp
        simp only [resolve, invoke, builtin, Sem.run_bind, Sem.run_pure, Result.andThen_ok, List.map_toArray, List.map_cons, List.map_nil, h12]
        refine hK _ _ hI.s1
      · intro lst a w2 K hsz hdf hl hdep hI hK
        have h13 := hI.h1 (hdep 1 (by kernel_rfl))
        obtain ⟨m1, m2, m3⟩ := mkI_spec w2 W.length (by omega)
        unfold Oper.wp execOp
        simp only [h13, m1, Sem.run_bind, Result.andThen_ok, Sem.run_pure]
        exact hK _ _ (hI.s2 hl m3 m2)
      · intro lst a w2 K hsz hdf hl hdep hI hK
        obtain ⟨g, h14, hown⟩ := hI.h2 (hdep 2 (by kernel_rfl))
        refine wp_callF _ _ _ rfl enters_frameOf #[.slice (some ⟨g, 0, none⟩) W.length W.length] (by simp [h14]) ((frameOfM_any _ _ w2 (hown.ints (by simp; omega))).mono ?_)
        rintro e w3 ⟨rfl, k3⟩
        refine ⟨_, rfl, hK _ _ ?_⟩
        have := hI.s3 (hdep 2 (by kernel_rfl)) k3
        rw [h14] at this
        simpa using this
      · intro lst a w2 K hsz hdf hl hdep hI hK
        obtain ⟨m1, m2, m3⟩ := mkI_spec w2 6 (by omega)
        unfold Oper.wp execOp
        simp only [Act.eval, show (6 : Int) = ((6 : Nat) : Int) from rfl, m1, Sem.run_bind, Result.andThen_ok, Sem.run_pure]
        exact hK _ _ (hI.s4 hl m3 m2)
      · intro lst a w2 K hsz hdf hl hdep hI hK
        obtain ⟨hl2, h15⟩ := hI.h3 (hdep 3 (by kernel_rfl))
        have hl4 := hdep 4 (by kernel_rfl)
        unfold Oper.wp execOp
        obtain ⟨gA, hA, oA⟩ := hI.h2 hl2
        obtain ⟨gV, hV, oV⟩ := hI.h4 hl4
        have hS := hI.s5 hl2 hl4
        simp only [hA, hV] at h15 hS
        have e2 : (#[(0, Operand.tmp 15), (1, Operand.tmp 16)] : Array (Nat × Operand)).map (fun (i, x) => (i, a.eval x)) = #[(0, .agg #[.int .i64 W.length, .slice (some ⟨gA, 0, none⟩) W.length W.length]), (1, .slice (some ⟨gV, 0, none⟩) 6 6)] := by simp [h15, hV]
        simp only
        rw [e2]
        simp only [Sem.run_bind, run_buildM, Result.andThen_ok, Sem.run_pure]
        exact hK _ _ hS
      · intro lst a w2 K hsz hdf hl hdep hI hK
        unfold Oper.wp
        have hrun : ∀ (b : Act) wz, (execOp b.eval { dst := some 5, op := .alloc 30, type := 0, pos := "", after := #[], guard := none }).run Tryz.prog wz = .ok (.value (.pointer (some ⟨wz.heap.size, 0, none⟩))) (wz.alloc (.cells #[.int .i64 0, .slice none 0 0, .slice none 0 0] 30)) := fun b wz => by kernel_rfl
        have h2 := hrun a w2
        unfold execOp at h2 ⊢
        simp only at h2 ⊢
        rw [h2]
        exact hK _ _ (hI.s6 hl)
      · intro lst a w2 K hsz hdf hl hdep hI hK
        obtain ⟨hl2, hl4, h17⟩ := hI.h5 (hdep 5 (by kernel_rfl))
        obtain ⟨gA, hA, oA⟩ := hI.h2 hl2
        obtain ⟨gV, hV, oV⟩ := hI.h4 hl4
        have hl6 := hdep 6 (by kernel_rfl)
        obtain ⟨g, h5, hle, hb⟩ := hI.h6 hl6
        rw [hA, hV] at h17
        simp only [hl, Bool.false_eq_true, if_false] at hb
        unfold Oper.wp execOp
        simp only [h5, h17, run_storeM g _ _ _ _ _ _ _ _ _ _ w2 hb, Sem.run_bind, Result.andThen_ok, Sem.run_pure]
        exact hK _ _ (hI.s7 (hdep 5 (by kernel_rfl)) hl6 hl h5 hA hV)
    · exact ⟨rfl, (Keeps.refl wA).drew, by simp, by simp, by simp, by simp, by simp, by simp, by simp, by simp, by simp⟩
    · intro f wx hI
      obtain ⟨gA, hA, oA⟩ := hI.h2 (by decide)
      obtain ⟨gV, hV, oV⟩ := hI.h4 (by decide)
      obtain ⟨g, h5, hle, hb⟩ := hI.h6 (by decide)
      have hne := hI.h24 (by decide) (by decide)
      rw [hA, hV] at hne
      rw [if_pos (by decide), hA, hV] at hb
      have hM : MdW wA wx g W.length gA gV (List.replicate W.length 0) (List.replicate 6 0) := ⟨hb, by rw [← zs_repM]; exact oA, by rw [← zs_repM]; exact oV, fun e => hne (by rw [e]; rfl), hI.kp, hle, by simp, by simp⟩
      have HM := hid hM
      clear hM hb oA oV hne hI
      simp only [putAll, Act.put, List.setIfInBounds_toArray, List.set_cons_zero, List.set_cons_succ, h5, hA, hV]
      go_wp2_with fail
      go_meet
      exact ⟨g, gA, gV, rfl, HM.out⟩
  case rest =>
    obtain ⟨g, gA, gV, rfl, hM⟩ := hcut
    have HM0 := hid hM
    clear hM
    have HSE := hid (fun x y (hx : x < W.length) (hy : y < W.length) wz (kz : Keeps wA wz) => seesW r L N E W hWN x y hx hy wz (HA.out.keeps kz))
    obtain ⟨v1, c1e, pe, ce, rfl, hce1, hce2, h3e, h4e, h5e⟩ := HA.out.c1
    rw [List.length_map] at h3e
    rw [h3e] at c1e hce1
    unfold maxLen at hce2
    have HCE := hid (fun wz (kz : Keeps wA wz) => kz.cell c1e)
    have HGE : Hid (∀ i (h : i < E.length), ∃ b off u, ∃ s : ByteArray, pe = some ⟨b, off, none⟩ ∧ ∀ wz, Keeps wA wz → wz.cell? ⟨b, off + i * 2, none⟩ = some (.string s) ∧ wz.cell? ⟨b, off + i * 2 + 1, none⟩ = some u ∧ Nds wz u E[i].enc) := hid (fun i hi => by
      obtain ⟨b, off, u, e1, e2, e3, e4⟩ := h5e i (by omega) (by simpa using hi)
      refine ⟨b, off, u, _, e1, fun wz kz => ⟨kz.cell e2, kz.cell e3, ?_⟩⟩
      have := e4.keeps kz
      simpa using this)
    clear c1e h3e h4e h5e
    have HEV := hid hE
    have HWN := hid hWN
    clear hE hWN HA
    go_wp2_with fail
    go_loopw [20] (fun i' wr => ∃ x : Nat, x ≤ W.length ∧ i' = .int .i64 x ∧ MdW wA wr g W.length gA gV (arrL L E W x 0) (cmV E W x)) (fun i' _ => W.length - (intOf i').toNat)
    case atStart => exact ⟨0, by omega, rfl, by rw [arrL_start]; exact HM0.out⟩
    case round =>
      obtain ⟨x, hx, rfl, hM⟩ := hrel
      have HM := hid hM
      clear hM HM0
      by_cases hlt : x < W.length
      · have hlt' : (x : Int) < W.length := by omega
        obtain ⟨_, _, e, _, _, hat, _⟩ := HVA.out.keeps HM.out.kp
        rw [natI_len] at e
        cases e
        obtain ⟨b1, o1, rfl, h1⟩ := hat.int x (by rw [natI_len]; exact hlt)
        rw [natI_get] at h1
        have HX := hid (fun y hy wz kz => HSE.out x y hlt hy wz kz)
        have HEND := hid (arrL_end (L := L) (E := E) (W := W) (x := x))
        have HNO := hid (fun y (h : seeB L E (W.getD x 0) (W.getD y 0) = false) => arrL_no (W := W) h)
        have HYE := hid (fun y (h : seeB L E (W.getD x 0) (W.getD y 0) = true) => arrL_yes hlt h)
        have HGT : Hid (∀ y, y ≤ 8 → (arrL L E W x y).getD x 0 < 256) := hid (fun y hy => by rw [arrL_get y hlt]; exact msk_lt8 hy)
        have HV1 : Hid (∀ V k, cmVx E W V x (k + 1) = cmV1 E (W.getD x 0) x (cmVx E W V x k) k) := hid (fun V k => cmVx_next E W V x k)
        have HVB := hid (fun k => cmVx_both (E := E) (W := W) (V := cmV E W x) (x := x) (n := 8) (by omega) (cmV_both E W 8 x (by omega)).2 k)
        have HVE : Hid (cmVx E W (cmV E W x) x E.length = cmV E W (x + 1)) := hid rfl
        have HFN : Hid (W.getD x 0 < 256) := hid (by have := HWN.out (W.getD x 0) (by rw [List.getD_eq_getElem?_getD, List.getElem?_eq_getElem hlt]; exact List.getElem_mem hlt); omega)
        generalize W.getD x 0 = fr at *
        clear hat
        go_wp2_with fail
        go_loopw [27] (fun y' wr => ∃ y : Nat, y ≤ W.length ∧ y' = .int .i64 y ∧ MdW wA wr g W.length gA gV (arrL L E W x y) (cmV E W x)) (fun y' _ => W.length - (intOf y').toNat)
        case atStart => exact ⟨0, by omega, rfl, HM.out⟩
        case round =>
          obtain ⟨y, hy, rfl, hM⟩ := hrel
          clear HM h1
          have HM := hid hM
          clear hM
          by_cases hyl : y < W.length
          · have hyl' : (y : Int) < W.length := by omega
            obtain ⟨_, _, e, _, _, hat, _⟩ := HVA.out.keeps HM.out.kp
            rw [natI_len] at e
            cases e
            obtain ⟨b2, o2, e2, h2⟩ := hat.int y (by rw [natI_len]; exact hyl)
            cases e2
            rw [natI_get] at h2
            have HXY := hid (HX.out y hyl)
            have HNOy := hid (HNO.out y)
            have HYEy := hid (HYE.out y)
            have hgt := HGT.out y (by omega)
            generalize W.getD y 0 = t2 at *
            generalize seeB L E fr t2 = b at *
            clear hat
            go_wp2_with fail
            refine (HXY.out _ HM.out.kp).mono ?_; rintro e w2 ⟨rfl, k2⟩
            have hM2 := HM.out.keeps k2
            cases b
            · have HM2 := hid hM2
              clear hM2
              go_wp2_with fail
              go_roundw
              case rel => exact ⟨y + 1, by omega, by go_num, by rw [HNOy.out (by trivial)]; exact HM2.out⟩
              case measure => simp [intOf]; omega
            · obtain ⟨m0, m1, m2⟩ := hM2.cells
              obtain ⟨a0, a1⟩ := hM2.cellA x hlt
              have hst := (hM2.keeps (Keeps.refl w2).drew).setA x ((arrL L E W x y).getD x 0 ||| 2 ^ y) hlt
              rw [HYEy.out (by trivial)] at hst
              have hor := orN ((arrL L E W x y).getD x 0) (2 ^ y) (by omega) (by have : 2 ^ y ≤ 2 ^ 8 := Nat.pow_le_pow_right (by omega) (by omega); omega)
              have e1 := (pow63 y (by omega)).1
              have e2 : ((2 ^ y : Nat) : Int) = 2 ^ y := by push_cast; rfl
              rw [e2] at hor
              have HST := hid hst
              clear hst hM2 e2
              generalize (arrL L E W x y).getD x 0 = z at *
              go_wp2_with fail
              go_region
              go_wp2
              go_roundw
              case rel => exact ⟨y + 1, by omega, by go_num, by first | exact HST.out | (rw [hor]; exact HST.out)⟩
              case measure => simp [intOf]; omega
          · obtain rfl : y = W.length := by omega
            have hyl' : ¬ ((W.length : Int) < W.length) := by omega
            have HM1 : Hid (MdW wA wr g W.length gA gV (arrL L E W (x + 1) 0) (cmV E W x)) := hid (by rw [← HEND.out]; exact HM.out)
            clear HM HX HNO HYE HGT HEND
            have y1 := HCE.out wr HM1.out.kp
            go_wp2_with fail
            go_loopw [52] (fun k' wr => ∃ k : Nat, k ≤ E.length ∧ k' = .int .i64 k ∧ MdW wA wr g W.length gA gV (arrL L E W (x + 1) 0) (cmVx E W (cmV E W x) x k)) (fun k' _ => E.length - (intOf k').toNat)
            case atStart => exact ⟨0, by omega, rfl, HM1.out⟩
            case round =>
              obtain ⟨k, hk, rfl, hM⟩ := hrel
              clear HM1 y1
              have HM := hid hM
              clear hM
              by_cases hkl : k < E.length
              · have hkl' : (k : Int) < E.length := by omega
                obtain ⟨b3, o3, u3, s3, rfl, hcs⟩ := HGE.out k hkl
                obtain ⟨e3a, e3b, hnd⟩ := hcs wr HM.out.kp
                obtain ⟨b6, o6, n6, c6, rfl, hn0, hn1, hn2, hn3, hc, hsy⟩ := hnd.root
                unfold maxLen at hn2
                have kE := (Keeps.refl wr).alloc (.cells #[.string s3, .slice (some ⟨b6, o6, none⟩) n6 c6] 183)
                obtain ⟨ze0, ze1⟩ := BoxQ.made wr (.string s3) (.slice (some ⟨b6, o6, none⟩) n6 c6) 183
                replace hc := kE.cell hc
                replace hsy := kE.cell hsy
                have HME := hid (HM.out.keeps kE)
                have HVk := HV1.out (cmV E W x) k
                have hV1 : cmV1 E fr x (cmVx E W (cmV E W x) x k) k = if isVr E[k] && fr.testBit k then (cmVx E W (cmV E W x) x k).set (vrS E[k]) ((cmVx E W (cmV E W x) x k).getD (vrS E[k]) 0 ||| 2 ^ x) else cmVx E W (cmV E W x) x k := by
                  unfold cmV1
                  rw [show E.getD k .fls = E[k] from by rw [List.getD_eq_getElem?_getD, List.getElem?_eq_getElem hkl]; rfl]
                rw [hV1] at HVk
                obtain ⟨hel, hwf⟩ := HEV.out E[k] (List.getElem_mem hkl)
                have HHV := hid HVk
                have HB := hid (fun wz => hasB_any fr k wz HFN.out (by omega))
                have hvl := HVB.out k
                rw [(cmV_both E W 8 x (by omega)).1] at hvl
                clear hcs hnd hV1 HVk HM
                generalize hNX : cmVx E W (cmV E W x) x (k + 1) = V2 at *
                have HNX := hid hNX
                clear hNX
                generalize cmVx E W (cmV E W x) x k = V at *
                generalize E[k] = t at *
                generalize fr.testBit k = b at *
                cases t with
                | var s =>
                  simp only [Fm.kind, Fm.sym] at hc hsy
                  have hs6 : s < 6 := hwf
                  simp only [isVr, vrS, Bool.true_and] at HHV
                  go_wp2_with fail
                  refine (HB.out _).mono ?_; rintro e w3 ⟨rfl, rfl⟩
                  cases b
                  · go_wp2_with fail
                    go_roundw
                    case rel => exact ⟨k + 1, by omega, by go_num, by rw [HNX.out, HHV.out, if_neg (by simp)]; exact HME.out⟩
                    case measure => simp [intOf]; omega
                  · obtain ⟨m0, m1, m2⟩ := HME.out.cells
                    obtain ⟨a0, a1⟩ := HME.out.cellV s hs6
                    have hst := (HME.out.keeps (Keeps.refl _).drew).setV s (V.getD s 0 ||| 2 ^ x) hs6
                    have hgt : V.getD s 0 < 256 := hvl.2 _ (by rw [List.getD_eq_getElem?_getD, List.getElem?_eq_getElem (by omega)]; exact List.getElem_mem _)
                    have hor := orN (V.getD s 0) (2 ^ x) (by omega) (by have : 2 ^ x ≤ 2 ^ 8 := Nat.pow_le_pow_right (by omega) (by omega); omega)
                    have e1 := (pow63 x (by omega)).1
                    have e2 : ((2 ^ x : Nat) : Int) = 2 ^ x := by push_cast; rfl
                    rw [e2] at hor
                    have HST : Hid (MdW wA _ g W.length gA gV (arrL L E W (x + 1) 0) V2) := hid (by rw [HHV.out, if_pos rfl]; exact hst)
                    clear hst e2 hvl
                    have hs6' : (s : Int) < 6 := by omega
                    generalize V.getD s 0 = z at *
                    go_wp2_with fail
                    go_region
                    go_wp2
                    go_roundw
                    case rel => exact ⟨k + 1, by omega, by go_num, by rw [HNX.out]; first | exact HST.out | (rw [hor]; exact HST.out)⟩
                    case measure => simp [intOf]; omega
                | box a =>
                  simp only [Fm.kind] at hc
                  simp only [isVr, Bool.false_and] at HHV
                  go_wp2_with fail
                  go_roundw
                  case rel => exact ⟨k + 1, by omega, by go_num, by rw [HNX.out, HHV.out, if_neg (by simp)]; exact HME.out⟩
                  case measure => simp [intOf]; omega
                | dia a =>
                  simp only [Fm.kind] at hc
                  simp only [isVr, Bool.false_and] at HHV
                  go_wp2_with fail
                  go_roundw
                  case rel => exact ⟨k + 1, by omega, by go_num, by rw [HNX.out, HHV.out, if_neg (by simp)]; exact HME.out⟩
                  case measure => simp [intOf]; omega
                | fls => simp [isEl] at hel
                | and a c => simp [isEl] at hel
                | or a c => simp [isEl] at hel
                | imp a c => simp [isEl] at hel
              · obtain rfl : k = E.length := by omega
                have hkl' : ¬ ((E.length : Int) < E.length) := by omega
                go_wp2_with fail
                go_roundw
                case rel => exact ⟨x + 1, by omega, by go_num, by rw [← HVE.out]; exact HM.out⟩
                case measure => simp [intOf]; omega
      · obtain rfl : x = W.length := by omega
        have hlt' : ¬ ((W.length : Int) < W.length) := by omega
        obtain ⟨m0, m1, m2⟩ := HM.out.cells
        have hb := HBA.out.keeps HM.out.kp
        have n0 := hb.cell 0 (by simp)
        have n1 := hb.cell 1 (by simp)
        have n2 := hb.cell 2 (by simp)
        have f0 := hb.froz 0
        have f1 := hb.froz 1
        have f2 := hb.froz 2
        simp only [List.getElem_cons_succ, List.getElem_cons_zero] at n0 n1 n2
        have b1 := hb.set 0 (.int .i64 W.length)
        have b2 := b1.set 1 (.slice (some ⟨gA, 0, none⟩) W.length W.length)
        have b3 := b2.set 2 (.slice (some ⟨gV, 0, none⟩) 6 6)
        have oA := boxed3 HM.out.ra hb (by decide) (.int .i64 W.length) (.slice (some ⟨gA, 0, none⟩) W.length W.length) (.slice (some ⟨gV, 0, none⟩) 6 6)
        have oV := boxed3 HM.out.rv hb (by decide) (.int .i64 W.length) (.slice (some ⟨gA, 0, none⟩) W.length W.length) (.slice (some ⟨gV, 0, none⟩) 6 6)
        have kF := (((kA.trans HM.out.kp).setCell (p := ⟨w.heap.size, 0, none⟩) (Nat.le_refl _) (.int .i64 W.length)).setCell (p := ⟨w.heap.size, 1, none⟩) (Nat.le_refl _) (.slice (some ⟨gA, 0, none⟩) W.length W.length)).setCell (p := ⟨w.heap.size, 2, none⟩) (Nat.le_refl _) (.slice (some ⟨gV, 0, none⟩) 6 6)
        have z0 := b3.cell 0 (by simp)
        have z1 := b3.cell 1 (by simp)
        have z2 := b3.cell 2 (by simp)
        simp only [List.set_cons_zero, List.set_cons_succ, List.getElem_cons_succ, List.getElem_cons_zero] at z0 z1 z2
        have HF := hid (show RetMd w L E W (.returned (.agg #[.int .i64 W.length, .slice (some ⟨gA, 0, none⟩) W.length W.length, .slice (some ⟨gV, 0, none⟩) 6 6])) _ from ⟨_, _, rfl, by rw [← arrL_all]; exact OwnI.mono oA kA.size, OwnI.mono oV kA.size, fun k e1 e2 => HM.out.ne (by
          have x1 : gA = k := by simpa [Value.ownBlock] using e1
          have x2 : gV = k := by simpa [Value.ownBlock] using e2
          omega), kF⟩)
        clear oA oV kF b1 b2 b3 hb
        go_wp2_with fail
        refine bodyPost_ret (v := .agg #[.int .i64 W.length, .slice (some ⟨gA, 0, none⟩) W.length W.length, .slice (some ⟨gV, 0, none⟩) 6 6]) (by simp [results, Tryz.results60, go_sem, z0, z1, z2]) rfl HF.out
end Go.Proofs.YtgnlfceloiilbaaGreat
