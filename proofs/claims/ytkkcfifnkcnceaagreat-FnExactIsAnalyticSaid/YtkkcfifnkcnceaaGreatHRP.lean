import Derived.Test.YtkkcfifnkcnceaaGreatHMV
import Derived.Deep.AppendLies
import Derived.Test.YtkkcfifnkcnceaaGreatHU1
import Derived.Test.YtkkcfifnkcnceaaGreatHQ1
import Derived.Laws.Bits64
import Derived.Test.YtkkcfifnkcnceaaGreatHMY
import Derived.Test.YtkkcfifnkcnceaaGreatHW5
import Derived.Test.YtkkcfifnkcnceaaGreatHRN
/- The types of a search, program side: newTypes. -/
namespace Go.Proofs.YtkkcfifnkcnceaaGreat
open Go.RowKit
end Go.Proofs.YtkkcfifnkcnceaaGreat
namespace Go.Proofs.YtkkcfifnkcnceaaGreat
open Go.RowKit
end Go.Proofs.YtkkcfifnkcnceaaGreat
namespace Go.Proofs.YtkkcfifnkcnceaaGreat
open Go.RowKit
end Go.Proofs.YtkkcfifnkcnceaaGreat
namespace Go.Proofs.YtkkcfifnkcnceaaGreat
open Go.RowKit
def BoxG (w : World) (r : Nat) (T : TypeId) (cs : List Value) : Prop := w.ownsRow r T cs.length (.slice (some ⟨r, 0, none⟩) 1 1) 1 cs
section
variable {w w' : World} {r : Nat} {T : TypeId} {cs : List Value}
theorem BoxG.cell (h : BoxG w r T cs) (i : Nat) (hi : i < cs.length) : w.cell? ⟨r, i, none⟩ = some cs[i] := by
 rw [World.ownsRow.cellAt h i (by omega)]
 exact List.getElem?_eq_getElem hi
theorem BoxG.froz (h : BoxG w r T cs) (i : Nat) : w.frozen? ⟨r, i, none⟩ = false := World.ownsRow.frozenAt h i
theorem BoxG.set (h : BoxG w r T cs) (i : Nat) (x : Value) : BoxG (w.setCell ⟨r, i, none⟩ x) r T (cs.set i x) := by
 have := (World.ownsRow.stored h i x).1
 unfold BoxG
 rw [List.length_set]
 exact this
theorem BoxG.grown (h : BoxG w r T cs) (i : Nat) (x : Value) : w.grownBy (w.setCell ⟨r, i, none⟩ x) (some r) := (World.ownsRow.stored h i x).2
theorem BoxG.keeps (h : BoxG w r T cs) (k : Keeps w w') : BoxG w' r T cs := own_keeps h k
theorem BoxG.made (w : World) (T : TypeId) (cs : List Value) (_h0 : 0 < cs.length) (_h1 : cs.length ≤ 1000) : BoxG (w.alloc (.cells cs.toArray T)) w.heap.size T cs := by
 have h := World.ownsRow_lit (base := w.heap.size) (e := T) (size := cs.length) w cs.toArray 1 (Nat.le_refl _) (by unfold maxLen; omega) (by simp)
 simpa [BoxG] using h
end
def tlV : Value → Value
 | .slice (some ⟨g, 0, none⟩) m cap => .slice (if cap = 1 then some ⟨g, 0, none⟩ else some ⟨g, 2, none⟩) (m - 1) (cap - 1)
 | v => v
theorem sizeOfN1 (w : World) : (sizeOf 131).run Tryz.prog w = .ok 2 w := by
 obtain ⟨i0, hi, hz0, hz1, hz2⟩ := info_parts infoN
 simp [sizeOf, typeInfo, hi, hz1]
theorem slice1 (g m cap : Nat) (hl : 1 ≤ m) (_hc : m ≤ cap) (wx : World) :
  (Instr.slice 95 (.slice (some ⟨g, 0, none⟩) m cap) (some (.int .i64 1)) none none).run Tryz.prog wx = .ok (tlV (.slice (some ⟨g, 0, none⟩) m cap)) wx := by
 have hT : Tryz.prog.underlying 95 = some (.slice (Tryz.prog.elem 95)) := by kernel_rfl
 have hE : Tryz.prog.elem 95 = 131 := by kernel_rfl
 rw [run_slice_l (P := Tryz.prog) wx 95 (some ⟨g, 0, none⟩) m cap hT .i64 1 (by omega) (by omega), hE, sizeOfN1]
 simp only [Result.andThen_ok, sliced, Option.map_some]
 rfl
theorem tail1 (g m cap : Nat) (hl : 1 ≤ m) (hc : m ≤ cap) (hm : cap ≤ maxLen) (w : World) (B : Nat) (a : List Nd) (h : OwnN w B (.slice (some ⟨g, 0, none⟩) m cap) a) (ha : a.length ≤ 2147483648) : Nds w (tlV (.slice (some ⟨g, 0, none⟩) m cap)) (a.drop 1) := by
 have h0 := h
 obtain ⟨_, _, e, _, _, hat, _⟩ := h.nds ha
 injection e with e1 e2 e3
 subst e1; subst e2; subst e3
 have hdl : (a.drop 1).length = a.length - 1 := by simp
 refine ⟨_, cap - 1, by rw [hdl]; rfl, by omega, by omega, ?_, by omega⟩
 split
 ·have : a.drop 1 = [] := List.drop_eq_nil_of_le (by omega)
  rw [this]; exact At.nil _ _
 ·intro j hj
  have hcd : ∀ (x : List Nd), ndCells (x.drop 1) = (ndCells x).drop 2 := by
   intro x
   cases x with
   | nil => rfl
   | cons y x => simp [ndCells]
  have hj2 : 2 + j < (ndCells a).length := by
   rw [hcd] at hj
   simp at hj
   omega
  obtain ⟨b', off', hp, hc'⟩ := hat (2 + j) hj2
  cases hp
  refine ⟨g, _, rfl, ?_⟩
  have e2 : (ndCells (a.drop 1))[j]? = (ndCells a)[2 + j]? := by rw [hcd, List.getElem?_drop]
  rw [List.getElem?_eq_getElem hj, List.getElem?_eq_getElem hj2] at e2
  rw [show 2 + j = 0 + (2 + j) by omega, hc']
  exact e2.symm
end Go.Proofs.YtkkcfifnkcnceaaGreat
namespace Go.Proofs.YtkkcfifnkcnceaaGreat
open Go.RowKit
theorem OwnS.sh {w : World} {B : Nat} {v : Value} {a : List ByteArray} (h : OwnS w B v a) : ∃ p n c, v = .slice p n c := by
 obtain ⟨p, c, e, _⟩ := At.of_own h
 exact ⟨p, _, c, e⟩
theorem infoQ2 : (Tryz.prog.info? 26).map (fun i => (i.zero, i.size, i.bytes)) = some (some (.agg #[.slice none 0 0, .slice none 0 0]), 2, 48) := by kernel_rfl
theorem sqCells_app : ∀ us vs : List (Value × Value), sqCells (us ++ vs) = sqCells us ++ sqCells vs
 | [], _ => rfl
 | x :: l, vs => by simp [sqCells, sqCells_app l vs]
theorem sqCells_get : ∀ (us : List (Value × Value)) (i : Nat) (hi : i < us.length), (sqCells us)[i * 2]? = some us[i].1 ∧ (sqCells us)[i * 2 + 1]? = some us[i].2
 | [], i, hi => by simp at hi
 | x :: l, 0, _ => by simp [sqCells]
 | x :: l, i + 1, hi => by
  have := sqCells_get l i (by simpa using hi)
  rw [show (i + 1) * 2 = i * 2 + 1 + 1 by omega, show i * 2 + 1 + 1 + 1 = (i * 2 + 1) + 1 + 1 by omega]
  simpa [sqCells] using this
def SqO (w : World) (B : Nat) (v : Value) (ps : List SqT) : Prop :=
 ∃ us : List (Value × Value), us.length = ps.length ∧ w.ownsRow B 26 2 v ps.length (sqCells us) ∧ ∀ i (h1 : i < us.length) (h2 : i < ps.length), OwnS w B us[i].1 ps[i].1 ∧ OwnS w B us[i].2 ps[i].2
theorem SqO.keeps {w w' : World} {B : Nat} {v : Value} {ps : List SqT} (h : SqO w B v ps) (k : Keeps w w') : SqO w' B v ps := by
 obtain ⟨us, h1, h2, h3⟩ := h
 exact ⟨us, h1, own_keeps h2 k, fun i a b => ⟨(h3 i a b).1.keeps k, (h3 i a b).2.keeps k⟩⟩
theorem SqO.empty (w : World) : SqO (w.alloc (.cells #[] 26)) w.heap.size (.slice (some ⟨w.heap.size, 0, none⟩) 0 0) [] :=
 ⟨[], rfl, World.ownsRow_made w #[] 0 (Nat.le_refl _) (by simp [maxLen]) (by simp), fun i h => by simp at h⟩
theorem SqO.sh {w : World} {B : Nat} {v : Value} {ps : List SqT} (h : SqO w B v ps) : ∃ p n c, v = .slice p n c := by
 obtain ⟨us, h1, h2, h3⟩ := h
 obtain ⟨p, c, e, _⟩ := At.of_own h2
 exact ⟨p, _, c, e⟩
theorem SqO.sql {w : World} {B : Nat} {v : Value} {ps : List SqT} (h : SqO w B v ps) (hl : ps.length ≤ 2147483648) (hb : ∀ p ∈ ps, p.1.length ≤ 2147483648 ∧ p.2.length ≤ 2147483648) : SqL w v ps := by
 obtain ⟨us, h1, h2, h3⟩ := h
 obtain ⟨p, c, rfl, hc1, hc2, hat⟩ := At.of_own h2
 refine ⟨p, c, rfl, hc1, hc2, hl, fun i hi => ?_⟩
 have hi' : i < us.length := by omega
 obtain ⟨g1, g2⟩ := sqCells_get us i hi'
 obtain ⟨r1, r2⟩ := h3 i hi' hi
 obtain ⟨b1, b2⟩ := hb ps[i] (List.getElem_mem hi)
 obtain ⟨ha1, ha2⟩ := List.getElem?_eq_some_iff.1 g1
 obtain ⟨hb1, hb2⟩ := List.getElem?_eq_some_iff.1 g2
 obtain ⟨b, off, hp, hcA⟩ := hat (i * 2) ha1
 obtain ⟨b', off', hp', hcB⟩ := hat (i * 2 + 1) hb1
 rw [hp] at hp'
 cases hp'
 rw [ha2] at hcA
 rw [hb2] at hcB
 refine ⟨b, off, fun c => if c = 0 then us[i].1 else us[i].2, hp, fun c hc => ?_, ⟨by simpa using r1.strsP b1, by simpa using r1.sh⟩, ⟨by simpa using r2.strsP b2, by simpa using r2.sh⟩⟩
 have hc2 : c = 0 ∨ c = 1 := by omega
 rcases hc2 with rfl | rfl
 ·simpa using hcA
 ·simpa [Nat.add_assoc] using hcB
theorem appQK {w : World} {o : Oper} {a : Act} {K : Act → World → Prop} {Q : Exit → Act → World → Prop} (s x : Operand)
  (ho : o.op = .call { callee := .builtin .append, args := #[s, x], argTypes := #[29, 29] }) (base : Nat) (v : Value) (ps : List SqT) (hs : a.eval s = v) (hown : SqO w base v ps)
  (p : Option Addr) (cc : Nat) (y z : Value) (A C : List ByteArray) (hx : a.eval x = .slice p 1 cc) (hat : At w p [y, z]) (hy : OwnS w base y A) (hz : OwnS w base z C) (hbase : base ≤ w.heap.size) (hlen : ps.length ≤ 1000000)
  (h : ∀ v' w', SqO w' base v' (ps ++ [(A, C)]) → w.grownBy w' v.ownBlock → (∀ k, v.ownBlock = some k → base ≤ k) → K (a.put o.dst v') w') : o.wp Tryz.prog a w K Q := by
 obtain ⟨i0, hi, hz0, hz1, hz2⟩ := info_parts infoQ2
 obtain ⟨us, hl, hrow, he⟩ := hown
 obtain ⟨py, ny, cy, ey⟩ := hy.sh
 obtain ⟨pz, nz, cz, ez⟩ := hz.sh
 refine wp_append_at s x _ ho _ i0 _ 2 48 Tryz.underlying29 hi hz0 hz1 hz2 rfl (by decide) base v _ _ hs hrow p 1 cc [y, z] hx (by simp) hat (by
  intro u hu
  simp at hu
  rcases hu with rfl | rfl
  ·rw [ey]; rfl
  ·rw [ez]; rfl) (by unfold maxLen; omega) (by omega) hbase ?_
 intro v' w' h1 h2 h4
 have T := Touch.grown h2
 have stay : ∀ {u : Value} {l : List ByteArray}, OwnS w base u l → OwnS w' base u l := fun hu => own_touch hu T (fun i hi e => type_ne hrow hu (by decide) e.symm hi)
 refine h v' w' ⟨us ++ [(y, z)], by simp [hl], ?_, fun i a1 a2 => ?_⟩ h2 h4
 ·rw [List.length_append, sqCells_app]
  exact h1
 ·by_cases hi2 : i < us.length
  ·have hi3 : i < ps.length := by omega
   rw [List.getElem_append_left hi2, List.getElem_append_left hi3]
   exact ⟨stay (he i hi2 hi3).1, stay (he i hi2 hi3).2⟩
  ·have : i = us.length := by simp at a1; omega
   subst this
   rw [List.getElem_append_right (Nat.le_refl _), List.getElem_append_right (by omega)]
   simp [hl]
   exact ⟨stay hy, stay hz⟩
section
variable {md : Region.Mode} {ops : Array Oper} {Q : Exit → Act → World → Prop} {nt : Nat} {ins : List Nat} {kd : Nat → Kq} {w0 : World} {o : Oper}
theorem kBuildO (B : Nat) (s s' : Nat) (x y : List ByteArray) (ho : o.op = .build 26 #[(0, .tmp s), (1, .tmp s')]) (hg : o.guard = none) (h : availK md ops ins o s = true) (h' : availK md ops ins o s' = true) (hs : kd s = .ows B x) (hs' : kd s' = .ows B y) (hk : ∀ d, o.dst = some d → kd d = .oq B x y) : StQ md ops Q nt ins kd w0 o :=
 StepK.plain hg fun a w K hsa hJ hins hdep hK => by
  have hv := getK h hins hdep
  have hv' := getK h' hins hdep
  change (kd s).holds _ w at hv
  change (kd s').holds _ w at hv'
  rw [hs] at hv
  rw [hs'] at hv'
  have hv : OwnS w B (a.eval (.tmp s)) x := hv
  have hv' : OwnS w B (a.eval (.tmp s')) y := hv'
  obtain ⟨p, n, c, e3⟩ := hv.sh
  obtain ⟨q, m, d, e4⟩ := hv'.sh
  rw [e3] at hv
  rw [e4] at hv'
  unfold Oper.wp execOp
  have e2 : (#[(0, Operand.tmp s), (1, Operand.tmp s')] : Array (Nat × Operand)).map (fun (i, x) => (i, a.eval x)) = #[(0, .slice p n c), (1, .slice q m d)] := by simp [e3, e4]
  simp only [ho]
  rw [e2]
  simp only [Sem.run_bind, run_bQ, Result.andThen_ok, Sem.run_pure]
  exact hK _ _ (Keeps.refl w) (fun d hd => by show (kd d).holds _ w; rw [hk d hd]; exact ⟨_, _, rfl, hv, hv'⟩)
theorem kRowO (B : Nat) (s : Nat) (x y : List ByteArray) (ho : o.op = .buildSlice 29 1 #[(0, .tmp s)]) (hg : o.guard = none) (h : availK md ops ins o s = true) (hs : kd s = .oq B x y) (hk : ∀ d, o.dst = some d → kd d = .orow B x y) : StQ md ops Q nt ins kd w0 o :=
 StepK.plain hg fun a w K hsa hJ hins hdep hK => by
  have hv := getK h hins hdep
  change (kd s).holds _ w at hv
  rw [hs] at hv
  obtain ⟨u, v, e, hu, hv⟩ := hv
  obtain ⟨p, n, c, rfl⟩ := hu.sh
  obtain ⟨q, m, d, rfl⟩ := hv.sh
  unfold Oper.wp execOp
  have e2 : (#[(0, Operand.tmp s)] : Array (Nat × Operand)).map (fun (i, x) => (i, a.eval x)) = #[(0, .agg #[.slice p n c, .slice q m d])] := by simp [e]
  simp only [ho]
  rw [e2]
  simp only [Sem.run_bind, run_rowQ1, Result.andThen_ok, Sem.run_pure]
  have k := (Keeps.refl w).alloc (.cells #[.slice p n c, .slice q m d] 26)
  refine hK _ _ k (fun d' hd => ?_)
  show (kd d').holds _ _
  rw [hk d' hd]
  refine ⟨_, _, _, rfl, fun j hj => ⟨w.heap.size, 0, rfl, ?_⟩, hu.keeps k, hv.keeps k⟩
  have hj2 : j = 0 ∨ j = 1 := by simp at hj; omega
  rw [cell_of_row _ w.heap.size (0 + j) #[.slice p n c, .slice q m d] 26 (0, 0) (heap_alloc_new w _)]
  rcases hj2 with rfl | rfl <;> simp
end
end Go.Proofs.YtkkcfifnkcnceaaGreat
