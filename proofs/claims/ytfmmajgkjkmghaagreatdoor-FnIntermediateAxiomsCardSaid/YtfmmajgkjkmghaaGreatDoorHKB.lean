import Derived.Test.YtfmmajgkjkmghaaGreatDoorHJV
import Derived.Test.YtfmmajgkjkmghaaGreatDoorHON
import Derived.Deep.RegionHeld3
import Derived.Sort.Grow
import Derived.Test.YtfmmajgkjkmghaaGreatDoorHQU
/- All classes, congruences (the program's side). -/
namespace Go.Proofs.YtfmmajgkjkmghaaGreatDoor
open Go.RowKit
def ccS (g : Nat → List (List Nat)) : Nat → List (List Nat)
 | 0 => []
 | k + 1 => ccS g k ++ g k
def ccG : Nat → List Nat → List (List Nat)
 | 0, o => [o]
 | f + 1, o => ccS (fun k => ccG f (o ++ [k])) (cntC o + 1)
theorem ccS_mono (g : Nat → List (List Nat)) {k : Nat} : ∀ {m}, k ≤ m → (ccS g k).length ≤ (ccS g m).length
 | 0, h => by
  obtain rfl : k = 0 := by omega
  exact Nat.le_refl _
 | m + 1, h => by
  by_cases e : k = m + 1
  ·subst e; exact Nat.le_refl _
  ·have := ccS_mono g (k := k) (m := m) (by omega)
   rw [ccS, List.length_append]; omega
theorem ccS_len {g : Nat → List (List Nat)} {M : Nat} : ∀ k, (∀ i, i < k → (g i).length ≤ M) → (ccS g k).length ≤ k * M
 | 0, _ => by simp [ccS]
 | k + 1, h => by
  have h1 := ccS_len k (fun i hi => h i (by omega))
  have h2 := h k (by omega)
  rw [ccS, List.length_append, Nat.succ_mul]; omega
theorem ArC.nil : ArC [] := fun k hk => by simp at hk
theorem ArC.snoc {o : List Nat} {c : Nat} (h : ArC o) (hc : c ≤ cntC o) : ArC (o ++ [c]) := fun k hk => by
 rw [List.length_append, List.length_singleton] at hk
 unfold grC
 by_cases e : k < o.length
 ·have := h k e
  unfold grC at this
  rw [List.take_append_of_le_length (by omega), List.getD_eq_getElem?_getD, List.getElem?_append_left e, ← List.getD_eq_getElem?_getD]
  exact this
 ·obtain rfl : k = o.length := by omega
  rw [List.take_left' rfl, List.getD_eq_getElem?_getD, List.getElem?_append_right (Nat.le_refl _)]
  simpa using hc
theorem cntC_snoc (o : List Nat) (c : Nat) : cntC (o ++ [c]) = max (cntC o) (c + 1) := by
 have h1 : (o ++ [c]).length = o.length + 1 := by simp
 have h2 := maxTo_take (o ++ [c]) o.length o.length (Nat.le_refl _)
 rw [List.take_left' rfl] at h2
 have h3 : (o ++ [c]).getD o.length 0 = c := by rw [List.getD_eq_getElem?_getD, List.getElem?_append_right (Nat.le_refl _)]; simp
 unfold cntC
 rw [if_neg (by omega), h1, maxTo, ← h2, h3]
 split
 ·rename_i h0
  rw [h0]
  simp [maxTo]
 ·omega
theorem ArC.cnt {o : List Nat} (h : ArC o) : cntC o ≤ o.length := by
 have := grC_le o h o.length (Nat.le_refl _)
 unfold grC at this
 rwa [List.take_length] at this
theorem ccG_len : ∀ f o, ArC o → o.length + f ≤ 8 → (ccG f o).length ≤ 9 ^ f
 | 0, o, _, _ => by simp [ccG]
 | f + 1, o, h, h8 => by
  have hc := h.cnt
  rw [ccG]
  have h1 := ccS_len (g := fun k => ccG f (o ++ [k])) (M := 9 ^ f) (cntC o + 1) (fun i hi => ccG_len f (o ++ [i]) (h.snoc (by omega)) (by simp; omega))
  have h2 : (cntC o + 1) * 9 ^ f ≤ 9 * 9 ^ f := Nat.mul_le_mul_right _ (by omega)
  rw [Nat.pow_succ, Nat.mul_comm (9 ^ f) 9]
  omega
theorem OwnLI.low {w w' : World} {S : Nat → Prop} {B : Nat} {v : Value} {xs : List (List Nat)} (h : OwnLI w B v xs) (k : Touch w w' S) (hS : ∀ i, S i → i < B) : OwnLI w' B v xs := by
 obtain ⟨vs, ho, hr⟩ := h
 refine ⟨vs, own_touch ho k (fun i hi hs => ?_), hr.touch k ?_⟩
 ·have h1 := (World.ownsRow.lt ho i hi).1
  have h2 := hS i hs
  omega
 ·rintro i ⟨j, hj, e⟩ hs
  have h1 := ((hr.2 j hj (by have := hr.1; omega)).len i e).1
  have h2 := hS i hs
  omega
theorem cell_roww {w w' : World} {row : Option Nat} {b o : Nat} {v : Value} (hc : w.cell? ⟨b, o, none⟩ = some v) (k : w.grownBy w' row) (hb : ∀ i, row = some i → b ≠ i) : w'.cell? ⟨b, o, none⟩ = some v ∧ w'.frozen? ⟨b, o, none⟩ = w.frozen? ⟨b, o, none⟩ := by
 have h := (Touch.grown k).cell (World.block_lt_of_cell? _ _ hc) (fun e => hb b e.symm rfl)
 exact ⟨by rw [h.1]; exact hc, h.2 o⟩
structure CNe (S B1 g go gn gf gg gF gb : Nat) : Prop where
 h0 : S ≤ gF
 h1 : gF < gb
 h2 : gb < gn
 h3 : gn < gf
 h4 : gf < g
 h5 : g < go
 h6 : go < gg
 h7 : gg < B1
structure CSt (w0 w : World) (B1 g go gn gf gg gF gb n : Nat) (vF : Value) (o : List Nat) (vb : Value) (out : List (List Nat)) : Prop where
 kp : Keeps w0 w
 hB : B1 ≤ w.heap.size
 co : w.cell? ⟨go, 0, none⟩ = some (.slice (some ⟨g, 0, none⟩) o.length n)
 fo : w.frozen? ⟨go, 0, none⟩ = false
 cn : w.cell? ⟨gn, 0, none⟩ = some (.int .i64 n)
 cf : w.cell? ⟨gf, 0, none⟩ = some (.func (.func 71) #[] #[.pointer (some ⟨gF, 0, none⟩), .pointer (some ⟨gb, 0, none⟩)])
 cg : w.cell? ⟨gg, 0, none⟩ = some (.func (.func 135) #[] #[.pointer (some ⟨go, 0, none⟩), .pointer (some ⟨gn, 0, none⟩), .pointer (some ⟨gf, 0, none⟩), .pointer (some ⟨gg, 0, none⟩)])
 c0 : w.cell? ⟨gF, 0, none⟩ = some (.int .i64 n)
 c1 : w.cell? ⟨gF, 1, none⟩ = some vF
 cb : w.cell? ⟨gb, 0, none⟩ = some vb
 fb : w.frozen? ⟨gb, 0, none⟩ = false
 row : OwnI w w0.heap.size (.slice (some ⟨g, 0, none⟩) o.length n) (zs o)
 out : OwnLI w B1 vb out
theorem CSt.keeps {w0 w w' : World} {B1 g go gn gf gg gF gb n : Nat} {vF : Value} {o : List Nat} {vb : Value} {out : List (List Nat)} (h : CSt w0 w B1 g go gn gf gg gF gb n vF o vb out) (k : Keeps w w') : CSt w0 w' B1 g go gn gf gg gF gb n vF o vb out where
 kp := h.kp.trans k
 hB := Nat.le_trans h.hB k.size
 co := k.cell h.co
 fo := by rw [(k.both).2 go 0 (World.block_lt_of_cell? _ _ h.co)]; exact h.fo
 cn := k.cell h.cn
 cf := k.cell h.cf
 cg := k.cell h.cg
 c0 := k.cell h.c0
 c1 := k.cell h.c1
 cb := k.cell h.cb
 fb := by rw [(k.both).2 gb 0 (World.block_lt_of_cell? _ _ h.cb)]; exact h.fb
 row := h.row.keeps k
 out := h.out.keeps k
theorem CSt.order {w0 w w1 : World} {B1 g go gn gf gg gF gb n : Nat} {vF : Value} {o o' : List Nat} {vb : Value} {out : List (List Nat)} (h : CSt w0 w B1 g go gn gf gg gF gb n vF o vb out) (N : CNe w0.heap.size B1 g go gn gf gg gF gb)
  (k : w.grownBy w1 (some g)) (hrow : OwnI w1 w0.heap.size (.slice (some ⟨g, 0, none⟩) o'.length n) (zs o')) :
  CSt w0 (w1.setCell ⟨go, 0, none⟩ (.slice (some ⟨g, 0, none⟩) o'.length n)) B1 g go gn gf gg gF gb n vF o' vb out := by
 obtain ⟨h0, h1, h2, h3, h4, h5, h6, h7⟩ := N
 have k2 := grown_set (w := w1) go 0 (.slice (some ⟨g, 0, none⟩) o'.length n)
 have cc : ∀ {b x : Nat} {v : Value}, w.cell? ⟨b, x, none⟩ = some v → b ≠ g → b ≠ go → (w1.setCell ⟨go, 0, none⟩ (.slice (some ⟨g, 0, none⟩) o'.length n)).cell? ⟨b, x, none⟩ = some v ∧ (w1.setCell ⟨go, 0, none⟩ (.slice (some ⟨g, 0, none⟩) o'.length n)).frozen? ⟨b, x, none⟩ = w.frozen? ⟨b, x, none⟩ := fun hc e1 e2 => by
  have a1 := cell_roww hc k (fun i hi => by cases hi; exact e1)
  have a2 := cell_roww a1.1 k2 (fun i hi => by cases hi; exact e2)
  exact ⟨a2.1, a2.2.trans a1.2⟩
 have c1 := cell_roww h.co k (fun i hi => by cases hi; omega)
 have kk := (h.kp.grown k (fun j e => by cases e; omega)).setCell (p := ⟨go, 0, none⟩) (show w0.heap.size ≤ go by omega) (.slice (some ⟨g, 0, none⟩) o'.length n)
 refine ⟨kk, ?_, World.cell?_setCell_same _ _ _ c1.1, by rw [World.frozen?_setCell]; rw [c1.2]; exact h.fo, (cc h.cn (by omega) (by omega)).1, (cc h.cf (by omega) (by omega)).1, (cc h.cg (by omega) (by omega)).1, (cc h.c0 (by omega) (by omega)).1, (cc h.c1 (by omega) (by omega)).1, (cc h.cb (by omega) (by omega)).1, by rw [(cc h.cb (by omega) (by omega)).2]; exact h.fb, ?_, ?_⟩
 ·have := (Touch.grown k).size
  have := (Touch.grown k2).size
  have := h.hB
  omega
 ·exact own_grown hrow k2 (fun i hi e => by
   have : g = i := by simpa [Value.ownBlock] using hi
   omega)
 ·exact (h.out.low (Touch.grown k) (fun i hi => by cases hi; omega)).low (Touch.grown k2) (fun i hi => by cases hi; omega)
theorem CSt.put {w0 w w1 : World} {B1 g go gn gf gg gF gb n : Nat} {vF : Value} {o : List Nat} {vb v' : Value} {out out' : List (List Nat)} (h : CSt w0 w B1 g go gn gf gg gF gb n vF o vb out) (N : CNe w0.heap.size B1 g go gn gf gg gF gb)
  (k : w.grownBy w1 vb.ownBlock) (hr : ∀ k, vb.ownBlock = some k → B1 ≤ k) (hout : OwnLI w1 B1 v' out') :
  CSt w0 (w1.setCell ⟨gb, 0, none⟩ v') B1 g go gn gf gg gF gb n vF o v' out' := by
 obtain ⟨h0, h1, h2, h3, h4, h5, h6, h7⟩ := N
 have k2 := grown_set (w := w1) gb 0 v'
 have c1 : ∀ {b x : Nat} {v : Value}, w.cell? ⟨b, x, none⟩ = some v → b < B1 → w1.cell? ⟨b, x, none⟩ = some v ∧ w1.frozen? ⟨b, x, none⟩ = w.frozen? ⟨b, x, none⟩ := fun hc e1 =>
  cell_roww hc k (fun i hi => by have := hr i hi; omega)
 have cc : ∀ {b x : Nat} {v : Value}, w.cell? ⟨b, x, none⟩ = some v → b < B1 → b ≠ gb → (w1.setCell ⟨gb, 0, none⟩ v').cell? ⟨b, x, none⟩ = some v ∧ (w1.setCell ⟨gb, 0, none⟩ v').frozen? ⟨b, x, none⟩ = w.frozen? ⟨b, x, none⟩ := fun hc e1 e2 => by
  have a1 := c1 hc e1
  have a2 := cell_roww a1.1 k2 (fun i hi => by cases hi; exact e2)
  exact ⟨a2.1, a2.2.trans a1.2⟩
 have kk := (h.kp.grown k (fun j e => by have := hr j e; omega)).setCell (p := ⟨gb, 0, none⟩) (show w0.heap.size ≤ gb by omega) v'
 refine ⟨kk, ?_, (cc h.co (by omega) (by omega)).1, by rw [(cc h.co (by omega) (by omega)).2]; exact h.fo, (cc h.cn (by omega) (by omega)).1, (cc h.cf (by omega) (by omega)).1, (cc h.cg (by omega) (by omega)).1, (cc h.c0 (by omega) (by omega)).1, (cc h.c1 (by omega) (by omega)).1, World.cell?_setCell_same _ _ _ (c1 h.cb (by omega)).1, by rw [World.frozen?_setCell]; rw [(c1 h.cb (by omega)).2]; exact h.fb, ?_, ?_⟩
 ·have := (Touch.grown k).size
  have := (Touch.grown k2).size
  have := h.hB
  omega
 ·refine own_grown (h.row.touch (Touch.grown k) (fun i hi e => ?_)) k2 (fun i hi e => ?_)
  ·have e1 : g = i := by simpa [Value.ownBlock] using hi
   have := hr i e.symm
   omega
  ·have e1 : g = i := by simpa [Value.ownBlock] using hi
   omega
 ·exact hout.low (Touch.grown k2) (fun i hi => by cases hi; omega)
def CRet (w0 : World) (B1 g go gn gf gg gF gb n : Nat) (vF : Value) (o : List Nat) (out : List (List Nat)) (e : Ending) (w' : World) : Prop := e = .returned (.tuple #[]) ∧ ∃ vb, CSt w0 w' B1 g go gn gf gg gF gb n vF o vb out
set_option maxRecDepth 20000 in
set_option maxHeartbeats 1000000 in
theorem visit_any (w0 w : World) (B1 g go gn gf gg gF gb n : Nat) (vF : Value) (b o : List Nat) (vb : Value) (out : List (List Nat)) (h : CSt w0 w B1 g go gn gf gg gF gb n vF o vb out) (N : CNe w0.heap.size B1 g go gn gf gg gF gb)
  (hvF : Ints w0 vF (zs b)) (hbn : b.length = n) (h8 : n ≤ 8) (hb : Bnd n b) (ha : ArC o) (hol : o.length = n) (hlen : out.length ≤ 2147483646) :
  Calls Tryz.prog 71 #[.slice (some ⟨g, 0, none⟩) o.length n, .pointer (some ⟨gF, 0, none⟩), .pointer (some ⟨gb, 0, none⟩)] w (CRet w0 B1 g go gn gf gg gF gb n vF o (out ++ if cgB b o then [o] else [])) := by
 have hin : Ints w (.slice (some ⟨g, 0, none⟩) o.length n) (zs o) := h.row.ints (by rw [zs_length]; omega)
 have HI := hid (isCongruence_any b o ha (by omega) (by omega) (by rw [hbn]; exact hb) vF _ w (hvF.keeps h.kp) hin)
 have HC := hid (fun wz (kz : Keeps w wz) => cloneI_any (zs o) _ wz (hin.keeps kz))
 rw [hbn] at HI
 have H := hid h
 have x0 := h.c0
 have x1 := h.c1
 have xb := h.cb
 obtain ⟨pF, cF, rfl, -⟩ := id hvF
 rw [zs_length b, hbn] at *
 obtain ⟨p, c, rfl, hcl, hcm⟩ := h.out.shape
 clear h hin hvF hb ha hol hbn
 have HLEN := hid hlen; clear hlen
 have HCM := hid hcm; clear hcm hcl
 generalize o.length = m at *
 have hLO := hid (Eq.refl out.length)
 generalize hlo : out.length = lo at *
 replace hLO := hid hlo
 clear hlo
 cases hcg : cgB b o
 ·rw [hcg] at HI
  rw [show (if (false : Bool) = true then [o] else []) = ([] : List (List Nat)) from rfl, List.append_nil]
  go_enter Tryz.func71, Tryz.ntmps71
  go_wp2_with fail
  refine HI.out.mono ?_; rintro e w2 ⟨rfl, k2⟩
  go_wp2_with fail
  go_end0
  exact ⟨rfl, _, H.out.keeps k2⟩
 ·rw [hcg] at HI
  rw [show (if (true : Bool) = true then [o] else []) = ([o] : List (List Nat)) from rfl]
  go_enter Tryz.func71, Tryz.ntmps71
  go_wp2_with fail
  refine HI.out.mono ?_; rintro e w2 ⟨rfl, k2⟩
  have kd := k2.drew
  have z2 := k2.drew.cell xb
  have hO := (H.out.keeps kd).out
  have hBd := (H.out.keeps kd).hB
  go_wp2_with fail
  go_region_law (first
   | (go_simp; go_at_call 73; refine (HC.out _ kd).mono ?_; rintro e w3 ⟨v3, rfl, hv3, k3⟩; have z3 := k3.cell z2; have hO3 := hO.keeps k3; have hv3B := hv3.mono (B' := B1) hBd; obtain ⟨p3, c3, rfl, -, -, -⟩ := At.of_own hv3; have hB3 := Nat.le_trans hBd k3.size; have z4 := fun v => ((Keeps.refl w3).alloc (.cells #[v] 24)).cell z3)
   | (refine stepLI rfl (.tmp 7) (.tmp 10) rfl B1 _ out rfl w3 hO3 ((Keeps.refl w3).alloc _) _ o (hv3B.keeps ((Keeps.refl w3).alloc _)) (Nat.le_trans hB3 ((Keeps.refl w3).alloc _).size) _ 1 rfl (At.lit1 _ _ _) (by have := hLO.out; have := HLEN.out; omega) ?_; intro v6 w6 hv6 hg6 hr6; have P6 := (CSt.keeps (H.out.keeps (kd.trans k3)) ((Keeps.refl w3).alloc _)).put N hg6 hr6 hv6; have hgs : gb < B1 := (by obtain ⟨h0, h1, h2, h3, h4, h5, h6, h7⟩ := N; omega); have e1 := cell_roww (((Keeps.refl w3).alloc _).cell z3) hg6 (fun i hi => by have := hr6 i hi; omega); have f6 := e1.2.trans (CSt.keeps (H.out.keeps (kd.trans k3)) ((Keeps.refl w3).alloc _)).fb; have x6 := e1.1; clear e1; obtain ⟨p6, c6, rfl, -, -⟩ := hv6.shape))
  all_goals
   go_wp2_with fail
   go_end0
   rw [List.length_append, List.length_singleton] at P6
   exact ⟨rfl, _, P6⟩
end Go.Proofs.YtfmmajgkjkmghaaGreatDoor
namespace Go.Proofs.YtfmmajgkjkmghaaGreatDoor
open Go.RowKit
theorem ccS_sub {g : Nat → List (List Nat)} {k m : Nat} (h : k < m) : (ccS g k).length + (g k).length ≤ (ccS g m).length := by
 have := ccS_mono g (k := k + 1) (m := m) h
 rw [ccS, List.length_append] at this
 exact this
theorem filter_len (p : List Nat → Bool) (l : List (List Nat)) : (l.filter p).length ≤ l.length := List.length_filter_le p l
theorem enters_allc1 : Enters 135 := fun _ _ => by kernel_rfl
theorem enters_cong1 : Enters 71 := fun _ _ => by kernel_rfl
set_option maxRecDepth 20000 in
set_option maxHeartbeats 4000000 in
theorem classes_any (w0 : World) (B1 g go gn gf gg gF gb n : Nat) (vF : Value) (b : List Nat) (N : CNe w0.heap.size B1 g go gn gf gg gF gb)
  (hvF : Ints w0 vF (zs b)) (hbn : b.length = n) (h8 : n ≤ 8) (hb : Bnd n b) :
  ∀ f o out w vb, CSt w0 w B1 g go gn gf gg gF gb n vF o vb out → o.length + f = n → ArC o → out.length + (ccG f o).length ≤ 2147483646 →
   Calls Tryz.prog 135 #[.int .i64 (cntC o : Nat), .pointer (some ⟨go, 0, none⟩), .pointer (some ⟨gn, 0, none⟩), .pointer (some ⟨gf, 0, none⟩), .pointer (some ⟨gg, 0, none⟩)] w (CRet w0 B1 g go gn gf gg gF gb n vF o (out ++ (ccG f o).filter (cgB b))) := by
 intro f
 have hcf1 : ∀ args w, (callFunc 135 args).run Tryz.prog w = .ok (.enter 135 args) w := enters_allc1
 have hcf2 : ∀ args w, (callFunc 71 args).run Tryz.prog w = .ok (.enter 71 args) w := enters_cong1
 have HVF := hid hvF; clear hvF
 have HBN := hid hbn; clear hbn
 have HB := hid hb; clear hb
 have HN := hid N
 have hgoN : go ≠ g := by have := N.h5; omega
 have hgoB : w0.heap.size ≤ go := by obtain ⟨h0, h1, h2, h3, h4, h5, h6, h7⟩ := N; omega
 clear N
 induction f with
 | zero =>
  intro o out w vb h hof ha hln
  have hol : o.length = n := by omega
  have HS := hid (fun w2 (k : Keeps w w2) => sizeI_any (zs o) _ w2 ((h.row.keeps k).ints (by rw [zs_length]; omega)))
  rw [zs_length] at HS
  have HL := hid (fun w2 (k : Keeps w w2) => visit_any w0 w2 B1 g go gn gf gg gF gb n vF b o vb out (h.keeps k) HN.out HVF.out HBN.out h8 HB.out ha hol (by omega))
  have HG : Hid (out ++ (ccG 0 o).filter (cgB b) = out ++ (if cgB b o then [o] else [])) := hid (by
   show out ++ [o].filter (cgB b) = _
   rw [List.filter_cons]; rfl)
  have heq : ((o.length : Int) == (n : Int)) = true := by rw [hol]; simp
  have c1 := h.co
  have c2 := h.cn
  have c3 := h.cf
  clear h
  have kd := fun q => (Keeps.refl w).drewN q
  rw [HG.out]
  clear hof ha hln hol HG
  generalize (out ++ (if cgB b o then [o] else [])) = R at *
  generalize cntC o = cnt at *
  generalize o.length = m at *
  go_enter Tryz.func135, Tryz.ntmps135
  go_wp2_with fail
  go_quiet (first | (go_at_call 43; refine quietS (HS.out _ (kd _))))
  go_wp2_with fail
  refine (HL.out _ (kd _)).mono ?_; rintro e w2 ⟨rfl, vb2, h2⟩
  go_wp2_with fail
  go_end0
  exact ⟨rfl, vb2, h2⟩
 | succ f ih =>
  intro o out w vb h hof ha hln
  have IH := hid ih; clear ih
  have hlt0 : o.length < n := by omega
  have HS := hid (fun w2 (k : Keeps w w2) => sizeI_any (zs o) _ w2 ((h.row.keeps k).ints (by rw [zs_length]; omega)))
  rw [zs_length] at HS
  have heq : ((o.length : Int) == (n : Int)) = false := by simp; omega
  obtain ⟨G, hG⟩ : ∃ G : Nat → List (List Nat), ∀ k, G k = ccG f (o ++ [k]) := ⟨_, fun _ => rfl⟩
  have hGf : G = fun k => ccG f (o ++ [k]) := funext hG
  have HG : Hid (ccG (f + 1) o = ccS G (cntC o + 1)) := hid (by rw [ccG, hGf])
  rw [HG.out] at hln ⊢
  have HGK := hid hG; clear hG hGf HG
  have HLN := hid hln; clear hln
  have HOF := hid hof; clear hof
  have HA := hid ha
  have hcn := ha.cnt
  clear ha
  have HST := hid h
  have c1 := h.co
  have c2 := h.cn
  have c3 := h.cf
  clear h
  have kd := fun q => (Keeps.refl w).drewN q
  have HSN := hid (cntC_snoc o)
  have HO2 := hid hlt0
  have hcn8 : cntC o < 8 := by omega
  generalize hm : o.length = m at *
  have HM := hid hm; clear hm
  generalize hcq : cntC o = cnt at *
  have HCQ := hid hcq; clear hcq
  go_enter Tryz.func135, Tryz.ntmps135
  go_wp2_with fail
  go_quiet (first | (go_at_call 43; refine quietS (HS.out _ (kd _))))
  go_wp2_with fail
  clear c1 c2 c3
  go_loopw [16] (fun i' wr => ∃ i : Nat, i ≤ cnt + 1 ∧ i' = .int .i64 i ∧ ∃ vb', CSt w0 wr B1 g go gn gf gg gF gb n vF o vb' (out ++ (ccS G i).filter (cgB b))) (fun i' _ => cnt + 1 - (intOf i').toNat)
  case atStart => exact ⟨0, by omega, rfl, vb, by simpa [ccS] using HST.out.keeps (kd _)⟩
  case round =>
   obtain ⟨i, hi, rfl, vb', h⟩ := hrel
   by_cases hlt : i < cnt + 1
   ·have hlt' : (i : Int) < cnt + 1 := by omega
    have hgk := HGK.out i
    have HSUB := hid (ccS_sub (g := G) hlt)
    have HSTEP : Hid (out ++ (ccS G (i + 1)).filter (cgB b) = (out ++ (ccS G i).filter (cgB b)) ++ (ccG f (o ++ [i])).filter (cgB b)) := hid (by rw [ccS, List.filter_append, List.append_assoc, hgk])
    have HLEN2 : Hid ((out ++ (ccS G i).filter (cgB b)).length + (ccG f (o ++ [i])).length ≤ 2147483646) := hid (by
     have h1 := HSUB.out
     have h2 := filter_len (cgB b) (ccS G i)
     have h3 := HLN.out
     rw [← hgk, List.length_append]
     omega)
    clear hgk HSUB
    generalize hou : (out ++ (ccS G i).filter (cgB b)) = outi at *
    clear hou
    have hrow := h.row
    rw [HM.out] at hrow
    have HR := hid h
    have d1 := h.co
    have d1f := h.fo
    have d4 := h.cg
    rw [HM.out] at d1
    clear h
    obtain ⟨i0, hi0, hz0, hz1, hz2⟩ := info_parts infoI
    have hal1 := (Keeps.refl wr).alloc (.cells #[.int .i64 (i : Int)] 2)
    have hrw : (wr.alloc (.cells #[.int .i64 (i : Int)] 2)).ownsRow w0.heap.size 2 1 (.slice (some ⟨g, 0, none⟩) m n) m (intCells (zs o)) := by
     have := own_keeps hrow hal1
     rwa [zs_length, HM.out] at this
    have hlen : (o ++ [i]).length = m + 1 := by rw [List.length_append, HM.out]; rfl
    have hzs : intCells (zs o) ++ [.int .i64 (i : Int)] = intCells (zs (o ++ [i])) := by rw [zs_snoc]; simp [intCells]
    have htk : (zs (o ++ [i])).take m = zs o := by rw [zs_snoc]; exact List.take_left' (by rw [zs_length, HM.out])
    have HPS := hid (fun w1 (hg1 : (wr.alloc (.cells #[.int .i64 (i : Int)] 2)).grownBy w1 (some g)) (hr1 : w1.ownsRow w0.heap.size 2 1 (.slice (some ⟨g, 0, none⟩) (m + 1) n) (m + 1) (intCells (zs o) ++ [.int .i64 (i : Int)])) =>
     (HR.out.keeps hal1).order (o' := o ++ [i]) HN.out hg1 (by rw [hlen]; unfold OwnI; rw [zs_length, hlen, ← hzs]; exact hr1))
    have HD1 := hid (fun w1 (hg1 : (wr.alloc (.cells #[.int .i64 (i : Int)] 2)).grownBy w1 (some g)) => cell_grown (hal1.cell d1) hg1 hgoN)
    have hfz : (wr.alloc (.cells #[.int .i64 (i : Int)] 2)).frozen? ⟨go, 0, none⟩ = false := by rw [hal1.both.2 go 0 (World.block_lt_of_cell? _ _ d1)]; exact d1f
    have HFZ := hid hfz; clear hfz
    rw [hlen] at HPS
    have HIH := hid (fun wz vz (hz : CSt w0 wz B1 g go gn gf gg gF gb n vF (o ++ [i]) vz outi) => IH.out (o ++ [i]) outi wz vz hz (by have := HOF.out; rw [hlen]; omega) (HA.out.snoc (by rw [HCQ.out]; omega)) HLEN2.out)
    have HSNI := HSN.out i
    rw [HSNI] at HIH
    have hmx : max (cnt : Int) ((i : Int) + 1) = ((max cnt (i + 1) : Nat) : Int) := by omega
    have HMX := hid hmx
    have HHL := hid hlen; clear hlen
    have HTK := hid htk; clear htk
    have hm1 : m + 1 ≤ n := HO2.out
    clear hzs HSNI
    have hmm : max cnt (i + 1) ≤ 9 := by omega
    have hi9 : i ≤ 8 := by omega
    generalize hmq : max cnt (i + 1) = mq at *
    go_wp2_with (first | (at_builtin; refine wpList_append_fits _ rfl _ _ _ rfl w0.heap.size _ i0 1 Tryz.underlying24 hi0 hz1 g _ n (intCells (zs o)) rfl hrw ⟨_, 0, none⟩ 1 1 [.int .i64 (i : Int)] rfl (by simp) (by intro j u hj; cases j with | zero => (simp at hj; subst hj; simp [Addr.add]) | succ j => simp at hj) (by simp [Value.oneCell']) hm1 ?_))
    intro w1 hown1 hg1
    have PS1 := HPS.out w1 hg1 hown1
    obtain ⟨x1, x2⟩ := HD1.out w1 hg1
    rw [HFZ.out] at x2
    have z3 := PS1.cg
    have kd2 := (Keeps.refl (w1.setCell ⟨go, 0, none⟩ (.slice (some ⟨g, 0, none⟩) (m + 1) n))).drew
    have HCALL := hid (HIH.out _ _ PS1)
    clear PS1 hown1 hrw hal1 hg1 d1 d1f d4 hrow
    go_wp2_with fail
    refine HCALL.out.mono ?_; rintro e w3 ⟨rfl, vb3, h3⟩
    have y1 := h3.co
    have y1f := h3.fo
    have hrow3 := h3.row
    rw [HHL.out] at y1 hrow3
    have hcut2 : OwnI w3 w0.heap.size (.slice (some ⟨g, 0, none⟩) o.length n) (zs o) := by
     have h4 : OwnI w3 w0.heap.size (.slice (some ⟨g, 0, none⟩) (zs (o ++ [i])).length n) (zs (o ++ [i])) := by rw [zs_length, HHL.out]; exact hrow3
     have := h4.cutI m (by rw [zs_length, HHL.out]; omega)
     rw [HTK.out] at this
     rw [HM.out]; exact this
    have PS2 := h3.order (o' := o) HN.out (grown_refl w3 (some g)) hcut2
    rw [HM.out] at PS2
    have HP2 := hid PS2
    clear PS2 hcut2 hrow3 h3 x1 x2
    have hsub1 : ((m + 1 : Nat) : Int) - 1 = m := by omega
    go_wp2_with fail
    go_roundw
    case rel => exact ⟨i + 1, by omega, by go_num, vb3, by rw [HSTEP.out]; exact HP2.out⟩
    case measure => simp [intOf]; omega
   ·have e : cnt + 1 = i := by omega
    subst e
    have hlt' : ¬ ((cnt + 1 : Nat) : Int) < cnt + 1 := by omega
    go_wp2_with fail
    go_end0
    exact ⟨rfl, vb', h⟩
end Go.Proofs.YtfmmajgkjkmghaaGreatDoor
namespace Go.Proofs.YtfmmajgkjkmghaaGreatDoor
open Go.RowKit
def cgL (b : List Nat) : List (List Nat) := (ccG b.length []).filter (cgB b)
theorem cgL_len {b : List Nat} (h8 : b.length ≤ 8) : (ccG b.length []).length ≤ 43046721 := by
 have h1 := ccG_len b.length [] ArC.nil (by simpa using h8)
 have h2 : 9 ^ b.length ≤ 9 ^ 8 := Nat.pow_le_pow_right (by omega) h8
 omega
set_option maxRecDepth 20000 in
set_option maxHeartbeats 4000000 in
theorem allClasses_any (w0 w : World) (gF gb n : Nat) (vF : Value) (b : List Nat) (kp : Keeps w0 w) (c0 : w.cell? ⟨gF, 0, none⟩ = some (.int .i64 n)) (c1 : w.cell? ⟨gF, 1, none⟩ = some vF) (cb : w.cell? ⟨gb, 0, none⟩ = some (.slice none 0 0)) (fb : w.frozen? ⟨gb, 0, none⟩ = false)
  (hS : w0.heap.size ≤ gF) (hlt : gF < gb) (hvF : Ints w0 vF (zs b)) (hbn : b.length = n) (h8 : n ≤ 8) (hb : Bnd n b) :
  Calls Tryz.prog 70 #[.int .i64 n, .func (.func 71) #[] #[.pointer (some ⟨gF, 0, none⟩), .pointer (some ⟨gb, 0, none⟩)]] w fun e w' => e = .returned (.tuple #[]) ∧
   ∃ vb, w'.cell? ⟨gb, 0, none⟩ = some vb ∧ OwnLI w' w0.heap.size vb (cgL b) ∧ Keeps w0 w' := by
 have hcf1 : ∀ args w, (callFunc 135 args).run Tryz.prog w = .ok (.enter 135 args) w := enters_allc1
 have sb := World.block_lt_of_cell? _ _ cb
 have s0 := kp.size
 have hcl := cgL_len (b := b) (by omega)
 have k1 := ((Keeps.refl w).alloc (.cells #[.int .i64 (n : Int)] 2)).alloc (.cells #[.func (.func 71) #[] #[.pointer (some ⟨gF, 0, none⟩), .pointer (some ⟨gb, 0, none⟩)]] 95)
 obtain ⟨wm, hmk, hown, km⟩ := run_makeI0 ((w.alloc (.cells #[.int .i64 (n : Int)] 2)).alloc (.cells #[.func (.func 71) #[] #[.pointer (some ⟨gF, 0, none⟩), .pointer (some ⟨gb, 0, none⟩)]] 95)) n (by omega)
 have hsz : ((w.alloc (.cells #[.int .i64 (n : Int)] 2)).alloc (.cells #[.func (.func 71) #[] #[.pointer (some ⟨gF, 0, none⟩), .pointer (some ⟨gb, 0, none⟩)]] 95)).heap.size = w.heap.size + 2 := by simp
 have cn : ((w.alloc (.cells #[.int .i64 (n : Int)] 2)).alloc (.cells #[.func (.func 71) #[] #[.pointer (some ⟨gF, 0, none⟩), .pointer (some ⟨gb, 0, none⟩)]] 95)).cell? ⟨w.heap.size, 0, none⟩ = some (.int .i64 n) := by simp
 have cf : ((w.alloc (.cells #[.int .i64 (n : Int)] 2)).alloc (.cells #[.func (.func 71) #[] #[.pointer (some ⟨gF, 0, none⟩), .pointer (some ⟨gb, 0, none⟩)]] 95)).cell? ⟨w.heap.size + 1, 0, none⟩ = some (.func (.func 71) #[] #[.pointer (some ⟨gF, 0, none⟩), .pointer (some ⟨gb, 0, none⟩)]) := by simp
 rw [hsz] at hmk hown
 have hst : ∀ (a : Addr) (f : Fn) (b c : Array Value) (m : Mode) (w' : World), (store a (.func f b c) m).run Tryz.prog w' = stored Tryz.prog w' a (.func f b c) m := fun a f b c m w' => run_store _ w' a _ m rfl
 have hszm := km.size
 rw [hsz] at hszm
 have KM := hid (k1.trans km)
 have CN := hid (km.cell cn)
 have CF := hid (km.cell cf)
 have HOWN := hid hown
 clear cn cf hown km k1
 have hcg : ∀ W : World, ((W.alloc (.cells #[.slice (some ⟨w.heap.size + 2, 0, none⟩) 0 n] 24)).alloc (.cells #[.nilFunc] 128)).cell? ⟨W.heap.size + 1, 0, none⟩ = some .nilFunc := fun W => by simp
 go_enter Tryz.func70, Tryz.ntmps70
 go_wp2_with fail
 have kA := ((Keeps.refl wm).alloc (.cells #[.slice (some ⟨w.heap.size + 2, 0, none⟩) 0 n] 24)).alloc (.cells #[.func (.func 135) #[] #[.pointer (some ⟨wm.heap.size, 0, none⟩), .pointer (some ⟨w.heap.size, 0, none⟩), .pointer (some ⟨w.heap.size + 1, 0, none⟩), .pointer (some ⟨wm.heap.size + 1, 0, none⟩)]] 128)
 have kB := KM.out.trans kA
 have hg : w.heap.size + 2 < wm.heap.size := (HOWN.out.len _ rfl).2
 have hN : CNe w0.heap.size (wm.heap.size + 2) (w.heap.size + 2) wm.heap.size w.heap.size (w.heap.size + 1) (wm.heap.size + 1) gF gb := by
  constructor <;> omega
 have hP : CSt w0 ((wm.alloc (.cells #[.slice (some ⟨w.heap.size + 2, 0, none⟩) 0 n] 24)).alloc (.cells #[.func (.func 135) #[] #[.pointer (some ⟨wm.heap.size, 0, none⟩), .pointer (some ⟨w.heap.size, 0, none⟩), .pointer (some ⟨w.heap.size + 1, 0, none⟩), .pointer (some ⟨wm.heap.size + 1, 0, none⟩)]] 128))
   (wm.heap.size + 2) (w.heap.size + 2) wm.heap.size w.heap.size (w.heap.size + 1) (wm.heap.size + 1) gF gb n vF [] (.slice none 0 0) [] := by
  refine ⟨kp.trans kB, by simp, by simp, by simp, kA.cell CN.out, kA.cell CF.out, by simp, kB.cell c0, kB.cell c1, kB.cell cb, by rw [kB.both.2 gb 0 sb]; exact fb, ?_, OwnLI.nil _ _⟩
  exact (HOWN.out.keeps kA).mono (by omega)
 have hgr := classes_any w0 (wm.heap.size + 2) (w.heap.size + 2) wm.heap.size w.heap.size (w.heap.size + 1) (wm.heap.size + 1) gF gb n vF b hN hvF hbn h8 hb n [] [] _ _ hP (by simp) ArC.nil (by rw [← hbn]; simp; omega)
 refine Calls.mono hgr ?_
 rintro e w5 ⟨rfl, vb5, h5⟩
 go_wp2_with fail
 go_end0
 refine ⟨rfl, vb5, h5.cb, ?_, h5.kp⟩
 have := h5.out.mono (B' := w0.heap.size) (by omega)
 unfold cgL
 rw [hbn]
 simpa using this
set_option maxRecDepth 20000 in
set_option maxHeartbeats 1000000 in
theorem congruences_any (b : List Nat) (vb : Value) (w : World) (hvb : Ints w vb (zs b)) (h8 : b.length ≤ 8) (hb : Bnd b.length b) :
  Calls Tryz.prog 24 #[.agg #[.int .i64 b.length, vb]] w (RetLI w (cgL b)) := by
 have kA := ((Keeps.refl w).alloc (.cells #[.int .i64 b.length, vb] 57)).alloc (.cells #[.slice none 0 0] 54)
 obtain ⟨a0, a1⟩ := BoxF.made w b.length vb 57
 have hal := (Keeps.refl (w.alloc (.cells #[.int .i64 b.length, vb] 57))).alloc (.cells #[.slice none 0 0] 54)
 have c0 := hal.cell a0
 have c1 := hal.cell a1
 have HP := hid (allClasses_any w ((w.alloc (.cells #[.int .i64 b.length, vb] 57)).alloc (.cells #[.slice none 0 0] 54)) w.heap.size (w.heap.size + 1) b.length vb b kA c0 c1 (by simp) (by simp) (Nat.le_refl _) (by omega) hvb rfl h8 hb)
 obtain ⟨p, cap, rfl, -⟩ := id hvb
 rw [zs_length] at *
 clear hvb hb kA hal c1 a1
 generalize cgL b = L at *
 generalize b.length = n at *
 go_enter Tryz.func24, Tryz.ntmps24
 go_wp2_with fail
 refine HP.out.mono ?_; rintro e w4 ⟨rfl, v4, cb4, hb4, k4⟩
 obtain ⟨p4, c4, rfl, -, -⟩ := hb4.shape
 go_wp2_with fail
 go_ret
 exact ⟨_, rfl, hb4, k4⟩
end Go.Proofs.YtfmmajgkjkmghaaGreatDoor
namespace Go.Proofs.YtfmmajgkjkmghaaGreatDoor
open Go.RowKit
def cmp2 (x y : Nat) : Int := if x < y then -1 else if y < x then 1 else 0
def cmpF (b c : List Nat) : Int := if cmp2 b.length c.length ≠ 0 then cmp2 b.length c.length else cmpL b c
set_option maxRecDepth 20000 in
theorem cmpOr_any (x y : Int) (g cap : Nat) (w : World) (h0 : w.cell? ⟨g, 0, none⟩ = some (.int .i64 x)) (h1 : w.cell? ⟨g, 1, none⟩ = some (.int .i64 y)) :
  Calls Tryz.prog 83 #[.slice (some ⟨g, 0, none⟩) 2 cap] w fun e w' => e = .returned (.int .i64 (if x ≠ 0 then x else y)) ∧ w = w' := by
 go_enter Tryz.func83, Tryz.ntmps83
 go_wp2_with fail
 go_loopw [8] (fun i' wr => ∃ i : Nat, i ≤ 2 ∧ i' = .int .i64 i ∧ Hid (0 < i → x = 0) ∧ Hid (1 < i → y = 0) ∧ w = wr) (fun i' _ => 2 - (intOf i').toNat)
 case atStart => exact ⟨0, by omega, rfl, hid (by omega), hid (by omega), rfl⟩
 case round =>
  obtain ⟨i, hi, rfl, HX, HY, rfl⟩ := hrel
  match i, hi with
  | 0, _ =>
   by_cases hx : x = 0
   ·have hd : (x != 0) = false := by simp [hx]
    have h0' : w.cell? ⟨g, 0 + 0, none⟩ = some (.int .i64 x) := h0
    go_wp2_with fail
    go_roundw
    case rel => exact ⟨1, by omega, by go_num, hid (fun _ => hx), hid (by omega), trivial⟩
    case measure => simp [intOf]
   ·have hd : (x != 0) = true := by simp [hx]
    go_wp2_with fail
    go_ret
    exact ⟨by first | rfl | (rw [if_pos hx]), rfl⟩
  | 1, _ =>
   have hx := HX.out (by omega)
   by_cases hy : y = 0
   ·have hd : (y != 0) = false := by simp [hy]
    go_wp2_with fail
    go_roundw
    case rel => exact ⟨2, by omega, by go_num, hid (fun _ => hx), hid (fun _ => hy), trivial⟩
    case measure => simp [intOf]
   ·have hd : (y != 0) = true := by simp [hy]
    go_wp2_with fail
    go_ret
    exact ⟨by first | rfl | (simp [hx]), rfl⟩
  | 2, _ =>
   have hx := HX.out (by omega)
   have hy := HY.out (by omega)
   go_wp2_with fail
   go_ret
   exact ⟨by first | rfl | (simp [hx, hy]), rfl⟩
theorem alloc_pair (W : World) (x y : Value) (T : TypeId) (k : Nat) (hk : W.heap.size = k) : (W.alloc (.cells #[x, y] T)).cell? ⟨k, 0, none⟩ = some x ∧ (W.alloc (.cells #[x, y] T)).cell? ⟨k, 1, none⟩ = some y := by
 subst hk
 exact ⟨by simp, by simp⟩
set_option maxRecDepth 20000 in
set_option maxHeartbeats 4000000 in
theorem compareFrames_any (b c : List Nat) (vb vc : Value) (w : World) (hvb : Ints w vb (zs b)) (hvc : Ints w vc (zs c)) :
  Calls Tryz.prog 32 #[.agg #[.int .i64 b.length, vb], .agg #[.int .i64 c.length, vc]] w fun e w' => e = .returned (.int .i64 (cmpF b c)) ∧ Keeps w w' ∧ ∃ q os, w' = Go.Sort.grow (w.drewN q) os := by
 have kA := (Keeps.refl w).alloc (.cells #[.int .i64 b.length, vb] 57)
 have kB := kA.alloc (.cells #[.int .i64 c.length, vc] 57)
 have kAB := (Keeps.refl (w.alloc (.cells #[.int .i64 b.length, vb] 57))).alloc (.cells #[.int .i64 c.length, vc] 57)
 obtain ⟨a0, a1⟩ := BoxF.made w b.length vb 57
 have b0 := kAB.cell a0
 have b1 := kAB.cell a1
 obtain ⟨c0, c1⟩ := BoxF.made (w.alloc (.cells #[.int .i64 b.length, vb] 57)) c.length vc 57
 have hsz : (w.alloc (.cells #[.int .i64 b.length, vb] 57)).heap.size = w.heap.size + 1 := by simp
 rw [hsz] at c0 c1
 have HC := hid (fun wz => compare64_any (b.length : Int) (c.length : Int) wz)
 have HL := hid (fun wz (kz : Keeps w wz) => compareI_any b c vb vc wz (hvb.keeps kz) (hvc.keeps kz))
 have HR : Hid (cmpF b c = if cmp2 b.length c.length ≠ 0 then cmp2 b.length c.length else cmpL b c) := hid rfl
 have hc2 : (if (b.length : Int) < (c.length : Int) then (-1 : Int) else if (c.length : Int) < (b.length : Int) then 1 else 0) = cmp2 b.length c.length := by
  unfold cmp2
  simp only [Int.ofNat_lt]
 rw [hc2] at HC
 rw [HR.out]
 have HO := hid (fun g cap wz => cmpOr_any (cmp2 b.length c.length) (cmpL b c) g cap wz)
 obtain ⟨pb, kb, rfl, _⟩ := hvb
 obtain ⟨pc, kc, rfl, _⟩ := hvc
 rw [zs_length] at *
 rw [zs_length] at *
 clear hc2 HR hsz a0 a1 kA kAB
 generalize cmp2 b.length c.length = x at *
 generalize cmpL b c = y at *
 generalize (if x ≠ 0 then x else y) = r at *
 generalize b.length = n at *
 generalize c.length = m at *
 have d0 := kB.drew
 have kr := (Keeps.refl ((w.alloc (.cells #[.int .i64 n, .slice pb n kb] 57)).alloc (.cells #[.int .i64 m, .slice pc m kc] 57))).drew
 have e0 := kr.cell b0
 have e1 := kr.cell b1
 have f0 := kr.cell c0
 have f1 := kr.cell c1
 go_enter Tryz.func32, Tryz.ntmps32
 go_wp2_with fail
 have kE := kr.alloc (.cells #[.int .i64 x, .int .i64 y] 3)
 have dE := kB.drew.alloc (.cells #[.int .i64 x, .int .i64 y] 3)
 have hs2 : ((w.alloc (.cells #[.int .i64 n, .slice pb n kb] 57)).alloc (.cells #[.int .i64 m, .slice pc m kc] 57)).drew.heap.size = w.heap.size + 1 + 1 := by simp [World.drew]
 obtain ⟨j0, j1⟩ := alloc_pair _ (.int .i64 x) (.int .i64 y) 3 _ hs2
 clear hs2
 have g0 := kE.cell b0
 have g1 := kE.cell b1
 have g2 := kE.cell c0
 have g3 := kE.cell c1
 go_region_held3 (fun w' => Keeps w w' ∧ w'.cell? ⟨w.heap.size, 0, none⟩ = some (.int .i64 n) ∧ w'.cell? ⟨w.heap.size, 1, none⟩ = some (.slice pb n kb) ∧ w'.cell? ⟨w.heap.size + 1, 0, none⟩ = some (.int .i64 m) ∧ w'.cell? ⟨w.heap.size + 1, 1, none⟩ = some (.slice pc m kc)) (first | exact ⟨d0, e0, e1, f0, f1⟩ | exact ⟨dE, g0, g1, g2, g3⟩) (first
  | (go_at_call 84; refine (HC.out _).mono ?_; rintro e w2 ⟨rfl, rfl⟩)
  | (go_at_call 80; refine (HL.out _ d0).mono ?_; rintro e w3 ⟨rfl, rfl⟩)
  | (go_at_call 83; refine (HO.out _ _ _ j0 j1).mono ?_; rintro e w4 ⟨rfl, rfl⟩))
 all_goals
  go_wp2_with fail
  go_ret
  exact ⟨rfl, by assumption, 1, #[_, _, _], by simp only [Go.Sort.alloc_eq_grow, Go.Sort.drew_grow, Go.Sort.grow_grow]; rfl⟩
end Go.Proofs.YtfmmajgkjkmghaaGreatDoor
namespace Go.Proofs.YtfmmajgkjkmghaaGreatDoor
open Go.RowKit
theorem infoFs : (Tryz.prog.info? 57).map (fun i => (i.zero, i.size, i.bytes)) = some (some (.agg #[.int .i64 0, .slice none 0 0]), 2, 32) := by kernel_rfl
theorem tyneFs : (57 : TypeId) ≠ 2 := by decide
def OwnFs (w : World) (B : Nat) (v : Value) (xs : List (List Nat)) : Prop := ∃ us, w.ownsRow B 57 2 v xs.length (psCells xs us) ∧ RowsI w B us xs
theorem OwnFs.nil (w : World) (B : Nat) : OwnFs w B (.slice none 0 0) [] := ⟨[], World.ownsRow_nil w B _ 2, RowsI.nil _ _⟩
theorem OwnFs.keeps {w w' : World} {B : Nat} {v : Value} {xs : List (List Nat)} (h : OwnFs w B v xs) (k : Keeps w w') : OwnFs w' B v xs := by
 obtain ⟨vs, ho, hr⟩ := h
 exact ⟨vs, own_keeps ho k, hr.keeps k⟩
theorem OwnFs.shape {w : World} {B : Nat} {v : Value} {xs : List (List Nat)} (h : OwnFs w B v xs) : ∃ p cap, v = .slice p xs.length cap ∧ xs.length ≤ cap ∧ cap ≤ maxLen := by
 obtain ⟨vs, ho, _⟩ := h
 obtain ⟨p, cap, h1, h2, h3, _⟩ := At.of_own ho
 exact ⟨p, cap, h1, h2, h3⟩
theorem OwnFs.get {w : World} {B : Nat} {p : Option Addr} {n cap : Nat} {xs : List (List Nat)} (h : OwnFs w B (.slice p n cap) xs) (i : Nat) (hi : i < xs.length) :
  ∃ b off u, p = some ⟨b, off, none⟩ ∧ w.cell? ⟨b, off + i * 2, none⟩ = some (.int .i64 (xs[i].length : Nat)) ∧ w.cell? ⟨b, off + i * 2 + 1, none⟩ = some u ∧ OwnI w B u (zs xs[i]) := by
 obtain ⟨us, ho, hr⟩ := h
 have hul := hr.1
 obtain ⟨p', cap', e, _, _, hat⟩ := At.of_own ho
 cases e
 have hl := psCells_len xs us hul
 obtain ⟨g1, g2⟩ := psCells_get xs us i hi (by omega)
 obtain ⟨b, off, hp, hc⟩ := hat (i * 2) (by omega)
 obtain ⟨b', off', hp', hc'⟩ := hat (i * 2 + 1) (by omega)
 rw [hp] at hp'
 cases hp'
 rw [List.getElem?_eq_getElem (by omega)] at g1 g2
 rw [Option.some.inj g1] at hc
 rw [Option.some.inj g2] at hc'
 exact ⟨b, off, us[i]'(by omega), hp, hc, by rw [Nat.add_assoc]; exact hc', hr.2 i (by omega) hi⟩
theorem appFsK {w : World} {o : Oper} {a : Act} {K : Act → World → Prop} {Q : Exit → Act → World → Prop} (s x : Operand)
  (ho : o.op = .call { callee := .builtin .append, args := #[s, x], argTypes := #[51, 51] }) (base : Nat) (v : Value) (xs : List (List Nat)) (hs : a.eval s = v)
  (w0 : World) (hown : OwnFs w0 base v xs) (k : Keeps w0 w) (us : List Value) (ys : List (List Nat)) (hu : RowsI w base us ys) (hbase : base ≤ w.heap.size)
  (p : Option Addr) (c : Nat) (hx : a.eval x = .slice p ys.length c) (hat : At w p (psCells ys us)) (hlen : xs.length + ys.length ≤ 2147483647)
  (h : ∀ v' w', OwnFs w' base v' (xs ++ ys) → w.grownBy w' v.ownBlock → (∀ k, v.ownBlock = some k → base ≤ k) → K (a.put o.dst v') w') : o.wp Tryz.prog a w K Q := by
 obtain ⟨i0, hi, hz0, hz1, hz2⟩ := info_parts infoFs
 obtain ⟨vs, hrow, hr⟩ := hown
 have hone : ∀ z ∈ psCells ys us, z.oneCell' = true := psCells_one ys us fun u hu' => by
  obtain ⟨j, hj, rfl⟩ := List.getElem_of_mem hu'
  exact (hu.2 j hj (by have := hu.1; omega)).one
 have hrow' := own_keeps hrow k
 have hr' := hr.keeps k
 refine wp_append_at s x _ ho _ i0 _ 2 32 Tryz.underlying51 hi hz0 hz1 hz2 rfl (by decide) base v _ _ hs hrow' p ys.length c (psCells ys us) hx (psCells_len ys us hu.1) hat hone (by unfold maxLen; omega) (by omega) hbase ?_
 intro v' w' h1 h2 h3
 refine h v' w' ⟨vs ++ us, ?_, RowsI.append ?_ ?_⟩ h2 h3
 ·rw [List.length_append, psCells_append _ _ _ _ hr.1]; exact h1
 ·exact hr'.touch (Touch.grown h2) (fun i hb e => hr'.off hrow' tyneFs e.symm hb)
 ·exact hu.touch (Touch.grown h2) (fun i hb e => hu.off hrow' tyneFs e.symm hb)
theorem appFs {w : World} {ops : Array Oper} {rest : List Oper} {o : Oper} {a : Act} {Q : Exit → Act → World → Prop} (hgd : o.guard = none) (s x : Operand)
  (ho : o.op = .call { callee := .builtin .append, args := #[s, x], argTypes := #[51, 51] }) (base : Nat) (v : Value) (xs : List (List Nat)) (hs : a.eval s = v)
  (w0 : World) (hown : OwnFs w0 base v xs) (k : Keeps w0 w) (us : List Value) (ys : List (List Nat)) (hu : RowsI w base us ys) (hbase : base ≤ w.heap.size)
  (p : Option Addr) (c : Nat) (hx : a.eval x = .slice p ys.length c) (hat : At w p (psCells ys us)) (hlen : xs.length + ys.length ≤ 2147483647)
  (h : ∀ v' w', OwnFs w' base v' (xs ++ ys) → w.grownBy w' v.ownBlock → (∀ k, v.ownBlock = some k → base ≤ k) → wpList Tryz.prog ops Q rest (a.put o.dst v') w') : wpList Tryz.prog ops Q (o :: rest) a w :=
 wpList_plain hgd fun _ hK => appFsK s x ho base v xs hs w0 hown k us ys hu hbase p c hx hat hlen fun v' w' h1 h2 h3 => hK _ _ (h v' w' h1 h2 h3)
end Go.Proofs.YtfmmajgkjkmghaaGreatDoor
