import Derived.Test.YtfmmajgkjkmghaaGreatEP6
import Derived.MapFrom
import Derived.Maps.OwnIn
import Derived.Test.YtfmmajgkjkmghaaGreatEVE
import Derived.Test.YtfmmajgkjkmghaaGreatEPP
import Derived.Test.YtfmmajgkjkmghaaGreatEPS
import Derived.Test.YtfmmajgkjkmghaaGreatEW7
import Derived.Test.YtfmmajgkjkmghaaGreatEVB
import Derived.Deep.RegionHeld3
/- The map of what is known: look-up and store, in plain words; worlds in which one map alone turns. -/
namespace Go.Proofs.YtfmmajgkjkmghaaGreat
open Go.RowKit Go.MapKept
def Turns (m : Nat) (w w' : World) : Prop := w.grownBy w' (some m) ∧ (∀ p v, w.cell? p = some v → w'.cell? p = some v)
theorem Turns.trans {m : Nat} {a b c : World} (h : Turns m a b) (k : Turns m b c) : Turns m a c := ⟨grown_trans h.1 k.1, fun p v hc => k.2 p v (h.2 p v hc)⟩
theorem Turns.ofKeeps {m : Nat} {a b : World} (h : Keeps a b) : Turns m a b := ⟨⟨h.os, h.tape, h.output, h.size, fun _k hk _ => h.block hk⟩, fun _ _ hc => h.cell hc⟩
theorem Turns.refl (m : Nat) (w : World) : Turns m w w := Turns.ofKeeps (Keeps.refl w)
theorem Turns.keeps {m : Nat} {a b : World} (h : Turns m a b) {c : World} (hm : c.heap.size ≤ m) (k : Keeps c a) : Keeps c b := k.grown h.1 (by rintro _ ⟨⟩; exact hm)
theorem At.turns {m : Nat} {w w' : World} {p : Option Addr} {vs : List Value} (h : At w p vs) (k : Turns m w w') : At w' p vs := fun j hj => by
 obtain ⟨b, off, hp, hc⟩ := h j hj
 exact ⟨b, off, hp, k.2 _ _ hc⟩
theorem Nds.turns {m : Nat} {w w' : World} {v : Value} {a : List Nd} (h : Nds w v a) (k : Turns m w w') : Nds w' v a := by
 obtain ⟨p, cap, hv, h1, h2, h3, h4⟩ := h
 exact ⟨p, cap, hv, h1, h2, h3.turns k, h4⟩
theorem SlC.turns {m : Nat} {α : Type} {sz : Nat} {R : World → (Nat → Value) → α → Prop} (hR : ∀ w w' f x, Turns m w w' → R w f x → R w' f x) {w w' : World} {v : Value} {xs : List α} (h : SlC sz R w v xs) (k : Turns m w w') : SlC sz R w' v xs := by
 obtain ⟨p, cap, hv, h1, h2, h3, h4⟩ := h
 refine ⟨p, cap, hv, h1, h2, h3, fun i hi => ?_⟩
 obtain ⟨b, off, f, hp, hc, hr⟩ := h4 i hi
 exact ⟨b, off, f, hp, fun c hcs => k.2 _ _ (hc c hcs), hR _ _ _ _ k hr⟩
theorem Strs.turns {m : Nat} {w w' : World} {v : Value} {ss : List ByteArray} (h : Strs w v ss) (k : Turns m w w') : Strs w' v ss :=
 SlC.turns (R := fun _ f (s : ByteArray) => f 0 = .string s) (fun _ _ _ _ _ h => h) h k
def Ans (w : World) (m : Nat) (S : ByteArray → Bool → Prop) : Prop := ∃ es clock, w.heap[m]? = some (.map es clock) ∧ ∀ x ∈ es.toList, ∃ s b, x.key = .string s ∧ x.val = .bool b ∧ S s b
theorem Ans.lt {w : World} {m : Nat} {S : ByteArray → Bool → Prop} (h : Ans w m S) : m < w.heap.size := by
 obtain ⟨es, clock, hb, _⟩ := h
 exact (Array.getElem?_eq_some_iff.1 hb).1
theorem Ans.keeps {w w' : World} {m : Nat} {S : ByteArray → Bool → Prop} (h : Ans w m S) (k : Keeps w w') : Ans w' m S := by
 have hl := h.lt
 obtain ⟨es, clock, hb, he⟩ := h
 exact ⟨es, clock, (k.block hl).trans hb, he⟩
theorem Ans.made (w : World) (S : ByteArray → Bool → Prop) : Ans (w.alloc (.map #[] 0)) w.heap.size S := ⟨#[], 0, (MapKept.heap_alloc w _).1, by simp⟩
section
variable {P : Program} {w : World} {t k e : TypeId} {m : Nat} {S : ByteArray → Bool → Prop} (ht : P.underlying t = some (.map k e)) (hk : P.underlying k = some .string)
include ht hk
theorem Ans.look (h : Ans w m S) (hz : (zeroValue e).run P w = .ok (.bool false) w) (s : ByteArray) :
  ∃ b ok, (Instr.lookup t (.map (some m)) (.string s) true).run P w = .ok (.tuple #[.bool b, .bool ok]) w ∧ (ok = true → S s b) := by
 obtain ⟨es, clock, hb, he⟩ := h
 have hik : IsKey .string (.string s) := trivial
 have hks : ∀ x ∈ es.toList, IsKey .string x.key := fun x hx => by obtain ⟨s', _, h1, _⟩ := he x hx; rw [h1]; trivial
 rcases findNow_spec hik es.toList 0 hks with ⟨h1, _⟩ | ⟨j, x, h1, h2, h3⟩
 ·refine ⟨false, false, ?_, fun h => by cases h⟩
  simp [Instr.lookup, run_underlying ht, MapKept.run_getObj_map hb, run_checkKey hk hik, run_findKey hk h1, hz, Result.andThen]
 ·have hx : x ∈ es.toList := List.mem_of_getElem? h2
  obtain ⟨s', b, g1, g2, g3⟩ := he x hx
  rw [h3] at g1
  cases g1
  refine ⟨b, true, ?_, fun _ => g3⟩
  simp [Instr.lookup, run_underlying ht, MapKept.run_getObj_map hb, run_checkKey hk hik, run_findKey hk h1, g2, Result.andThen]
theorem Ans.put (h : Ans w m S) (s : ByteArray) (b : Bool) (hS : S s b) :
  ∃ w', (Instr.mapUpdate t (.map (some m)) (.string s) (.bool b)).run P w = .ok () w' ∧ Ans w' m S ∧ Turns m w w' := by
 obtain ⟨es, clock, hb, he⟩ := h
 have hik : IsKey .string (.string s) := trivial
 have hks : ∀ x ∈ es.toList, IsKey .string x.key := fun x hx => by obtain ⟨s', _, h1, _⟩ := he x hx; rw [h1]; trivial
 have hrd : ∀ es' clock', Turns m w { w with heap := w.heap.setIfInBounds m (.map es' clock') } := fun es' clock' => by
  refine ⟨⟨rfl, rfl, rfl, by simp, fun k _ hk => ?_⟩, fun p v hc => ?_⟩
  ·exact (heap_set hb).2 k (fun e => hk (by rw [e]))
  ·have hne : p.block ≠ m := by
    rintro rfl
    simp [World.cell?, hb] at hc
   simp only [World.cell?] at hc ⊢
   rw [(heap_set hb).2 p.block hne]
   exact hc
 rcases findNow_spec hik es.toList 0 hks with ⟨h1, _⟩ | ⟨j, x, h1, h2, h3⟩
 ·refine ⟨_, by simp [Instr.mapUpdate, run_underlying ht, MapKept.run_getObj_map hb, run_checkKey hk hik, run_findKey hk h1, MapKept.run_setObj_map _ hb, Result.andThen]; rfl, ⟨_, _, (heap_set hb).1, ?_⟩, hrd _ _⟩
  intro x hx
  simp only [Array.toList_push, List.mem_append, List.mem_singleton] at hx
  rcases hx with hx | rfl
  ·exact he x hx
  ·exact ⟨s, b, rfl, rfl, hS⟩
 ·have hj : es[j]? = some x := by simpa using h2
  refine ⟨_, by simp [Instr.mapUpdate, run_underlying ht, MapKept.run_getObj_map hb, run_checkKey hk hik, run_findKey hk h1, hj, h3, run_keyThatStays hik, MapKept.run_setObj_map _ hb, Result.andThen]; rfl, ⟨_, _, (heap_set hb).1, ?_⟩, hrd _ _⟩
  intro y hy
  obtain ⟨i, hi⟩ := List.getElem?_of_mem hy
  simp only [Array.getElem?_toList, Array.getElem?_modify] at hi
  by_cases hij : j = i
  ·subst hij
   simp [hj] at hi
   subst hi
   exact ⟨s, b, by simp, rfl, hS⟩
  ·simp [hij] at hi
   exact he y (List.mem_of_getElem? (by simpa using hi))
theorem wpList_ans_look {ops : Array Oper} {rest : List Oper} {o : Oper} {a : Act} {Q : Exit → Act → World → Prop} (hg : o.guard = none) (x y : Operand) (hop : o.op = Op.lookup t x y true)
  (hz : (zeroValue e).run P w = .ok (.bool false) w) (hx : a.eval x = .map (some m)) (h : Ans w m S) (s : ByteArray) (hy : a.eval y = .string s)
  (hK : ∀ b ok, (ok = true → S s b) → wpList P ops Q rest (a.put o.dst (.tuple #[.bool b, .bool ok])) w) : wpList P ops Q (o :: rest) a w := by
 refine wpList_plain hg fun K' hK' => ?_
 obtain ⟨b, ok, hrun, hv⟩ := h.look ht hk hz s
 unfold Oper.wp
 simp [execOp, hop, hx, hy, hrun, Result.andThen]
 exact hK' _ _ (hK b ok hv)
theorem wpList_ans_put {ops : Array Oper} {rest : List Oper} {o : Oper} {a : Act} {Q : Exit → Act → World → Prop} (hg : o.guard = none) (x y z : Operand) (hop : o.op = Op.mapUpdate t x y z)
  (hx : a.eval x = .map (some m)) (h : Ans w m S) (s : ByteArray) (hy : a.eval y = .string s) (b : Bool) (hz : a.eval z = .bool b) (hS : S s b)
  (hK : ∀ w', Ans w' m S → Turns m w w' → wpList P ops Q rest (a.put o.dst undef) w') : wpList P ops Q (o :: rest) a w := by
 refine wpList_plain hg fun K' hK' => ?_
 obtain ⟨w', hrun, r1, r2⟩ := h.put ht hk s b hS
 unfold Oper.wp
 simp [execOp, hop, hx, hy, hz, hrun, Result.andThen]
 exact hK' _ _ (hK w' r1 r2)
end
end Go.Proofs.YtfmmajgkjkmghaaGreat
namespace Go.Proofs.YtfmmajgkjkmghaaGreat
open Go.RowKit
def partsL : Fm → List Fm
 | .and x y => [x, y]
 | .or x y => [x, y]
 | .imp x y => [x, y]
 | .box x => [x]
 | .dia x => [x]
 | _ => []
theorem NdsL.noneN (w : World) : NdsL w (.slice Option.none 0 0) [] := ⟨Option.none, 0, rfl, Nat.le_refl _, by simp [maxLen], by simp, fun i hi => by simp at hi⟩
theorem parts_any (t : Fm) (v : Value) (w : World) (hv : Nds w v t.enc) :
  Calls Tryz.prog 231 #[v] w fun e w' => ∃ u, e = .returned u ∧ NdsL w' u ((partsL t).map Fm.enc) ∧ Keeps w w' := by
 have hv0 := hv
 obtain ⟨b, off, n, cap, rfl, h0, h1, h2, h3, hc, _⟩ := hv.root
 cases t with
 | var _ =>
  replace hc : w.cell? ⟨b, off, none⟩ = some (.int .i64 0) := hc
  have hp := partsOf_any 0 w
  rw [show partsOf 0 = 0 from rfl] at hp
  go_enter Tryz.func231, Tryz.ntmps231
  go_wp2_with (go_at_call 64; refine hp.mono ?_; rintro e w' ⟨rfl, rfl⟩)
  go_ret
  exact ⟨_, rfl, NdsL.noneN _, Keeps.refl _⟩
 | fls =>
  replace hc : w.cell? ⟨b, off, none⟩ = some (.int .i64 1) := hc
  have hp := partsOf_any 1 w
  rw [show partsOf 1 = 0 from rfl] at hp
  go_enter Tryz.func231, Tryz.ntmps231
  go_wp2_with (go_at_call 64; refine hp.mono ?_; rintro e w' ⟨rfl, rfl⟩)
  go_ret
  exact ⟨_, rfl, NdsL.noneN _, Keeps.refl _⟩
 | and x y =>
  replace hc : w.cell? ⟨b, off, none⟩ = some (.int .i64 2) := hc
  have hp := partsOf_any 2 w
  rw [show partsOf 2 = 2 from rfl] at hp
  go_enter Tryz.func231, Tryz.ntmps231
  go_wp2_with fail
  refine hp.mono ?_; rintro e w' ⟨rfl, rfl⟩
  go_wp2_with fail
  refine (first_any _ _ x y.enc _ _ hv0 rfl).mono ?_; rintro e w' ⟨v1, rfl, hv1, rfl⟩
  go_wp2_with fail
  refine (second_any _ _ x y _ _ hv0 rfl).mono ?_; rintro e w' ⟨v2, rfl, hv2, rfl⟩
  obtain ⟨p1, n1, c1, rfl⟩ := hv1.shape
  obtain ⟨p2, n2, c2, rfl⟩ := hv2.shape
  go_wp2_with fail
  go_ret
  exact ⟨_, rfl, NdsL.lit2 hv1 hv2, (Keeps.refl w).alloc _⟩
 | or x y =>
  replace hc : w.cell? ⟨b, off, none⟩ = some (.int .i64 3) := hc
  have hp := partsOf_any 3 w
  rw [show partsOf 3 = 2 from rfl] at hp
  go_enter Tryz.func231, Tryz.ntmps231
  go_wp2_with fail
  refine hp.mono ?_; rintro e w' ⟨rfl, rfl⟩
  go_wp2_with fail
  refine (first_any _ _ x y.enc _ _ hv0 rfl).mono ?_; rintro e w' ⟨v1, rfl, hv1, rfl⟩
  go_wp2_with fail
  refine (second_any _ _ x y _ _ hv0 rfl).mono ?_; rintro e w' ⟨v2, rfl, hv2, rfl⟩
  obtain ⟨p1, n1, c1, rfl⟩ := hv1.shape
  obtain ⟨p2, n2, c2, rfl⟩ := hv2.shape
  go_wp2_with fail
  go_ret
  exact ⟨_, rfl, NdsL.lit2 hv1 hv2, (Keeps.refl w).alloc _⟩
 | imp x y =>
  replace hc : w.cell? ⟨b, off, none⟩ = some (.int .i64 4) := hc
  have hp := partsOf_any 4 w
  rw [show partsOf 4 = 2 from rfl] at hp
  go_enter Tryz.func231, Tryz.ntmps231
  go_wp2_with fail
  refine hp.mono ?_; rintro e w' ⟨rfl, rfl⟩
  go_wp2_with fail
  refine (first_any _ _ x y.enc _ _ hv0 rfl).mono ?_; rintro e w' ⟨v1, rfl, hv1, rfl⟩
  go_wp2_with fail
  refine (second_any _ _ x y _ _ hv0 rfl).mono ?_; rintro e w' ⟨v2, rfl, hv2, rfl⟩
  obtain ⟨p1, n1, c1, rfl⟩ := hv1.shape
  obtain ⟨p2, n2, c2, rfl⟩ := hv2.shape
  go_wp2_with fail
  go_ret
  exact ⟨_, rfl, NdsL.lit2 hv1 hv2, (Keeps.refl w).alloc _⟩
 | box x =>
  replace hc : w.cell? ⟨b, off, none⟩ = some (.int .i64 5) := hc
  have hp := partsOf_any 5 w
  rw [show partsOf 5 = 1 from rfl] at hp
  go_enter Tryz.func231, Tryz.ntmps231
  go_wp2_with fail
  refine hp.mono ?_; rintro e w' ⟨rfl, rfl⟩
  go_wp2_with fail
  refine (first_any _ ⟨5, 0⟩ x [] _ _ hv0 (by simp [Fm.enc])).mono ?_; rintro e w' ⟨v1, rfl, hv1, rfl⟩
  obtain ⟨p1, n1, c1, rfl⟩ := hv1.shape
  go_wp2_with fail
  go_ret
  exact ⟨_, rfl, NdsL.lit1 hv1, (Keeps.refl w).alloc _⟩
 | dia x =>
  replace hc : w.cell? ⟨b, off, none⟩ = some (.int .i64 6) := hc
  have hp := partsOf_any 6 w
  rw [show partsOf 6 = 1 from rfl] at hp
  go_enter Tryz.func231, Tryz.ntmps231
  go_wp2_with fail
  refine hp.mono ?_; rintro e w' ⟨rfl, rfl⟩
  go_wp2_with fail
  refine (first_any _ ⟨6, 0⟩ x [] _ _ hv0 (by simp [Fm.enc])).mono ?_; rintro e w' ⟨v1, rfl, hv1, rfl⟩
  obtain ⟨p1, n1, c1, rfl⟩ := hv1.shape
  go_wp2_with fail
  go_ret
  exact ⟨_, rfl, NdsL.lit1 hv1, (Keeps.refl w).alloc _⟩
theorem partsL_wf {t : Fm} (h : t.wf) : ∀ x ∈ partsL t, x.wf := by
 cases t <;> simp [partsL, Fm.wf] at h ⊢ <;> first | exact h | (intro x hx; rcases hx with rfl | rfl <;> simp_all) | simp_all
theorem partsL_len (t : Fm) : ∀ x ∈ partsL t, x.enc.length ≤ t.enc.length := by
 cases t <;> simp [partsL, Fm.enc] <;> omega
theorem partsL_two (t : Fm) : (partsL t).length ≤ 2 := by cases t <;> simp [partsL]
set_option maxRecDepth 20000 in
theorem partTexts_any (t : Fm) (hw : t.wf) (hl : t.enc.length ≤ 100000000) (v : Value) (w : World) (hv : Nds w v t.enc) :
  Calls Tryz.prog 219 #[v] w fun e w' => ∃ u ss, e = .returned u ∧ OwnS w' w.heap.size u ss ∧ Txts ss (partsL t) ∧ Keeps w w' := by
 have hP := hid (parts_any t v w hv)
 have hwf := hid (partsL_wf hw)
 have hln := hid (partsL_len t)
 have h2 := partsL_two t
 generalize hg : partsL t = G at *
 clear hg
 go_enter Tryz.func219, Tryz.ntmps219
 go_wp2_with fail
 refine hP.out.mono ?_; rintro e w1 ⟨v1, rfl, hv1, k1⟩
 obtain ⟨p, m, cap, rfl⟩ := NdsL.shapeL hv1
 have hm : m = G.length := by obtain ⟨_, _, e, _⟩ := hv1; cases e; simp
 have HM := hid hm; clear hm
 have hm2 : m ≤ 2 := by have := HM.out; omega
 go_wp2
 go_loopw [3, 9] (fun r i' wr => ∃ k : Nat, k ≤ m ∧ i' = .int .i64 k ∧ (∃ ss, OwnS wr w1.heap.size r ss ∧ Txts ss (G.take k)) ∧ Keeps w1 wr) (fun _ i _ => m - (intOf i).toNat)
 case atStart => exact ⟨0, by omega, rfl, ⟨[], OwnS.nil _ _, rfl⟩, Keeps.refl _⟩
 case round =>
  obtain ⟨k, hk, rfl, ⟨ss, hss, htx⟩, kw⟩ := hrel
  by_cases hlt : k < m
  ·have hkG : k < G.length := by have := HM.out; omega
   have hlt' : (k : Int) < m := by omega
   obtain ⟨b, off, u1, hp, hcell, hu1⟩ := (NdsL.keeps hv1 kw).get k (by simpa using hkG)
   replace hu1 : Nds wr u1 G[k].enc := by simpa using hu1
   subst hp
   have hT := hid (text_any G[k] (hwf.out _ (List.getElem_mem _)) (by have := hln.out G[k] (List.getElem_mem _); omega) u1 wr hu1)
   obtain ⟨q1, n1, c1, rfl⟩ := hu1.shape
   have hsl : ss.length ≤ 2 := by have := htx.length; simp at this; have := HM.out; omega
   have hsz := k1.size
   have hsz2 := kw.size
   go_wp2_with fail
   refine hT.out.mono ?_; rintro e w2 ⟨s, rfl, hs, k2⟩
   have hsz3 := k2.size
   go_wp2_with (at_builtin; refine appS rfl (.tmp 13) (.tmp 16) rfl w1.heap.size _ ss rfl ((hss.keeps k2).keeps ((Keeps.refl w2).alloc _)) _ [s] rfl (Strs.lit1 w2 s) (by simp; omega) (by simp; omega) ?_; intro v3 w3 hv3 hg3 hr3)
   go_roundw
   case rel => exact ⟨k + 1, by omega, by go_num, ⟨_, hv3, by rw [← List.take_append_getElem hkG]; exact htx.append (by simp [Txts, hs])⟩, (((kw.trans k2).alloc _).grown hg3 (fun q hq => by have := hr3 q hq; omega))⟩
   case measure => simp [intOf]; omega
  ·go_wp2
   go_ret
   have hkm : k = G.length := by have := HM.out; omega
   subst hkm
   exact ⟨_, _, rfl, hss.mono k1.size, by rw [List.take_length] at htx; exact htx, k1.trans kw⟩
end Go.Proofs.YtfmmajgkjkmghaaGreat
namespace Go.Proofs.YtfmmajgkjkmghaaGreat
open Go.RowKit
def Left (w : World) (v : Value) (G : List Fm) : Prop := ∃ ss, Strs w v ss ∧ Txts ss G
theorem Left.keeps {w w' : World} {v : Value} {G : List Fm} (h : Left w v G) (k : Keeps w w') : Left w' v G := by
 obtain ⟨ss, h1, h2⟩ := h
 exact ⟨ss, h1.keeps k, h2⟩
theorem Left.nil (w : World) : Left w (.slice none 0 0) [] := ⟨[], (OwnS.nil w 0).strs (by simp), rfl⟩
theorem Left.shape {w : World} {v : Value} {G : List Fm} (h : Left w v G) : ∃ p n c, v = .slice p n c := by
 obtain ⟨ss, h1, _⟩ := h
 obtain ⟨p, c, e, _⟩ := h1.at
 exact ⟨p, _, c, e⟩
theorem Left.lit1 (w : World) {s : ByteArray} {t : Fm} (h : bts s = t.body) : Left (w.alloc (.cells #[.string s] 9)) (.slice (some ⟨w.heap.size, 0, none⟩) 1 1) [t] := ⟨[s], Strs.lit1 w s, by simp [Txts, h]⟩
theorem Left.lit1N {N : Nat} (w : World) (hN : N = w.heap.size) {s : ByteArray} {t : Fm} (h : bts s = t.body) : Left (w.alloc (.cells #[.string s] 9)) (.slice (some ⟨N, 0, none⟩) 1 1) [t] := by
 subst hN
 exact Left.lit1 w h
theorem Left.lit2 (w : World) {s s' : ByteArray} {t t' : Fm} (h : bts s = t.body) (h' : bts s' = t'.body) : Left (w.alloc (.cells #[.string s, .string s'] 9)) (.slice (some ⟨w.heap.size, 0, none⟩) 2 2) [t, t'] := ⟨[s, s'], Strs.lit2 w s s', by simp [Txts, h, h']⟩
theorem OwnS.left {w : World} {B : Nat} {v : Value} {ss : List ByteArray} {G : List Fm} (h : OwnS w B v ss) (k : Txts ss G) (hl : G.length ≤ 2147483648) : Left w v G := ⟨ss, h.strs (by rw [k.length]; exact hl), k⟩
theorem Left.turns {m : Nat} {w w' : World} {v : Value} {G : List Fm} (h : Left w v G) (k : Turns m w w') : Left w' v G := by
 obtain ⟨ss, h1, h2⟩ := h
 exact ⟨ss, h1.turns k, h2⟩
def GoalL (w : World) (v : Value) (gs : List (List Fm × Fm)) : Prop := SlC 2 (fun w f g => ∃ s, f 1 = .string s ∧ Left w (f 0) g.1 ∧ bts s = g.2.body) w v gs
theorem GoalL.keeps {w w' : World} {v : Value} {gs : List (List Fm × Fm)} (h : GoalL w v gs) (k : Keeps w w') : GoalL w' v gs :=
 SlC.keeps (R := fun w f (g : List Fm × Fm) => ∃ s, f 1 = .string s ∧ Left w (f 0) g.1 ∧ bts s = g.2.body) (fun _ _ _ _ k ⟨s, h1, h2, h3⟩ => ⟨s, h1, h2.keeps k, h3⟩) h k
theorem GoalL.turns {m : Nat} {w w' : World} {v : Value} {gs : List (List Fm × Fm)} (h : GoalL w v gs) (k : Turns m w w') : GoalL w' v gs :=
 SlC.turns (R := fun w f (g : List Fm × Fm) => ∃ s, f 1 = .string s ∧ Left w (f 0) g.1 ∧ bts s = g.2.body) (fun _ _ _ _ k ⟨s, h1, h2, h3⟩ => ⟨s, h1, h2.turns k, h3⟩) h k
theorem GoalL.shape {w : World} {v : Value} {gs : List (List Fm × Fm)} (h : GoalL w v gs) : ∃ p cap, v = .slice p gs.length cap ∧ gs.length ≤ cap ∧ cap ≤ maxLen ∧ gs.length ≤ 2147483648 := by
 obtain ⟨p, cap, hv, h1, h2, h3, _⟩ := h
 exact ⟨p, cap, hv, h1, h2, h3⟩
theorem GoalL.get {w : World} {p : Option Addr} {n cap : Nat} {gs : List (List Fm × Fm)} (h : GoalL w (.slice p n cap) gs) (i : Nat) (hi : i < gs.length) :
  ∃ b off q m c s, p = some ⟨b, off, none⟩ ∧ w.cell? ⟨b, off + i * 2, none⟩ = some (.slice q m c) ∧ w.cell? ⟨b, off + i * 2 + 1, none⟩ = some (.string s) ∧ Left w (.slice q m c) gs[i].1 ∧ bts s = gs[i].2.body := by
 obtain ⟨p', cap', hv, h1, h2, h3, h4⟩ := h
 cases hv
 obtain ⟨b, off, f, hp, hc, s, g1, g2, g3⟩ := h4 i hi
 obtain ⟨q, m, c, e⟩ := g2.shape
 refine ⟨b, off, q, m, c, s, hp, ?_, ?_, by rw [← e]; exact g2, g3⟩
 ·rw [← e]; exact hc 0 (by omega)
 ·rw [← g1]; exact hc 1 (by omega)
theorem GoalL.lit1 {w : World} {v : Value} {s : ByteArray} {G : List Fm} {c : Fm} (h : Left w v G) (hs : bts s = c.body) :
  GoalL (w.alloc (.cells #[v, .string s] 144)) (.slice (some ⟨w.heap.size, 0, none⟩) 1 1) [(G, c)] := by
 refine ⟨_, 1, rfl, by simp, by simp [maxLen], by simp, fun i hi => ?_⟩
 obtain rfl : i = 0 := by simp at hi; omega
 refine ⟨w.heap.size, 0, fun c => if c = 0 then v else .string s, rfl, fun c hc => ?_, s, rfl, h.keeps ((Keeps.refl w).alloc _), hs⟩
 rw [cell_of_row _ w.heap.size _ #[v, .string s] 144 (0, 0) (heap_alloc_new w _)]
 have : c = 0 ∨ c = 1 := by omega
 rcases this with rfl | rfl <;> simp
theorem GoalL.lit2 {w : World} {v v' : Value} {s s' : ByteArray} {G G' : List Fm} {c c' : Fm} (h : Left w v G) (hs : bts s = c.body) (h' : Left w v' G') (hs' : bts s' = c'.body) :
  GoalL (w.alloc (.cells #[v, .string s, v', .string s'] 144)) (.slice (some ⟨w.heap.size, 0, none⟩) 2 2) [(G, c), (G', c')] := by
 refine ⟨_, 2, rfl, by simp, by simp [maxLen], by simp, fun i hi => ?_⟩
 have hi2 : i = 0 ∨ i = 1 := by simp at hi; omega
 have k := (Keeps.refl w).alloc (.cells #[v, .string s, v', .string s'] 144)
 rcases hi2 with rfl | rfl
 ·refine ⟨w.heap.size, 0, fun c => if c = 0 then v else .string s, rfl, fun c hc => ?_, s, rfl, h.keeps k, hs⟩
  rw [cell_of_row _ w.heap.size _ #[v, .string s, v', .string s'] 144 (0, 0) (heap_alloc_new w _)]
  have : c = 0 ∨ c = 1 := by omega
  rcases this with rfl | rfl <;> simp
 ·refine ⟨w.heap.size, 0, fun c => if c = 0 then v' else .string s', rfl, fun c hc => ?_, s', rfl, h'.keeps k, hs'⟩
  rw [cell_of_row _ w.heap.size _ #[v, .string s, v', .string s'] 144 (0, 0) (heap_alloc_new w _)]
  have : c = 0 ∨ c = 1 := by omega
  rcases this with rfl | rfl <;> simp
set_option maxHeartbeats 400000 in
theorem indexFuncSI (Inv : World → Prop) (pr : ByteArray → Bool) (f : FuncId) (cp : Array Value) (a : List ByteArray) (v : Value) (w : World) (hv : ∀ w1, Inv w1 → Strs w1 v a) (h0 : Inv w) (hcf : Enters f)
  (hf : ∀ x w1, x ∈ a → Inv w1 → Calls Tryz.prog f (#[.string x] ++ cp) w1 fun e w2 => e = .returned (.bool (pr x)) ∧ Inv w2) :
  Calls Tryz.prog 256 #[v, .func (.func f) #[] cp] w fun e w' => e = .returned (.int .i64 (idxOf pr a 0)) ∧ Inv w' := by
 obtain ⟨p, cap, rfl, hle, hmx, _, hlen⟩ := (hv w h0).at
 unfold maxLen at hmx
 have HV := hid hv; clear hv
 have HF := hid hf; clear hf
 have H0 := hid h0; clear h0
 have hcf' : ∀ args w, (callFunc f args).run Tryz.prog w = .ok (.enter f args) w := hcf
 clear hcf
 go_enter Tryz.func256, Tryz.ntmps256
 go_wp2
 go_loopw [4, 8] (fun r i' wr => ∃ k : Nat, k ≤ a.length ∧ idxOf pr a 0 = idxOf pr (a.drop k) k ∧ Hid (Inv wr) ∧ i' = .int .i64 k ∧ r = .int .i64 0) (fun _ i _ => a.length - (intOf i).toNat)
 case atStart => exact ⟨0, by omega, by simp, H0, rfl, rfl⟩
 case round =>
  obtain ⟨k, hk, hs, kw, rfl, rfl⟩ := hrel
  have Hs := hid hs; clear hs
  by_cases hlt : k < a.length
  ·obtain ⟨b, off, rfl, h1⟩ := (HV.out wr kw.out).get k hlt
   have hd := hid (idxOf_drop pr a k hlt)
   cases hp : pr a[k]
   all_goals
    have Hp := hid hp; clear hp
    go_wp2_with ((with_reducible refine (HF.out a[k] wr (List.getElem_mem hlt) kw.out).mono ?_); rintro e w2 ⟨rfl, k2⟩; replace k2 := hid k2; rw [Hp.out])
   ·go_roundw
    case rel => exact ⟨k + 1, by omega, by rw [Hs.out, hd.out, Hp.out]; rfl, k2, by go_num, rfl⟩
    case measure => simp [intOf]; omega
   ·go_ret
    exact ⟨ret_int (by rw [Hs.out, hd.out, Hp.out]; rfl), k2.out⟩
  ·go_wp2
   go_ret
   exact ⟨ret_int (by rw [Hs.out, idxOf_end _ _ _ (by omega)]), kw.out⟩
theorem containsFuncSI (Inv : World → Prop) (pr : ByteArray → Bool) (f : FuncId) (cp : Array Value) (a : List ByteArray) (v : Value) (w : World) (hv : ∀ w1, Inv w1 → Strs w1 v a) (h0 : Inv w) (hcf : Enters f)
  (hf : ∀ x w1, x ∈ a → Inv w1 → Calls Tryz.prog f (#[.string x] ++ cp) w1 fun e w2 => e = .returned (.bool (pr x)) ∧ Inv w2) :
  Calls Tryz.prog 236 #[v, .func (.func f) #[] cp] w fun e w' => e = .returned (.bool (a.any pr)) ∧ Inv w' := by
 have H := hid (indexFuncSI Inv pr f cp a v w hv h0 hcf hf)
 clear hv hf hcf h0
 have he := hid (idxOf_any pr a 0)
 go_enter Tryz.func236, Tryz.ntmps236
 go_wp2_with (go_at_call 256; refine H.out.mono ?_; rintro e w2 ⟨rfl, k2⟩; replace k2 := hid k2)
 go_ret
 exact ⟨ret_bool he.out, k2.out⟩
set_option maxRecDepth 20000 in
set_option maxHeartbeats 400000 in
theorem indexFuncG (Inv : World → Prop) (pr : List Fm × Fm → Bool) (f : FuncId) (cp : Array Value) (a : List (List Fm × Fm)) (v : Value) (w : World) (hv : ∀ w1, Inv w1 → GoalL w1 v a) (h0 : Inv w) (hcf : Enters f)
  (hf : ∀ g, g ∈ a → ∀ q m c s w1, Inv w1 → Left w1 (.slice q m c) g.1 → bts s = g.2.body → Calls Tryz.prog f (#[.agg #[.slice q m c, .string s]] ++ cp) w1 fun e w2 => e = .returned (.bool (pr g)) ∧ Inv w2) :
  Calls Tryz.prog 254 #[v, .func (.func f) #[] cp] w fun e w' => e = .returned (.int .i64 (idxOf pr a 0)) ∧ Inv w' := by
 obtain ⟨p, cap, rfl, hle, hmx, hlen⟩ := (hv w h0).shape
 unfold maxLen at hmx
 have HV := hid hv; clear hv
 have HF := hid hf; clear hf
 have H0 := hid h0; clear h0
 have hcf' : ∀ args w, (callFunc f args).run Tryz.prog w = .ok (.enter f args) w := hcf
 clear hcf
 go_enter Tryz.func254, Tryz.ntmps254
 go_wp2
 go_loopw [4, 8] (fun r i' wr => ∃ k : Nat, k ≤ a.length ∧ idxOf pr a 0 = idxOf pr (a.drop k) k ∧ Hid (Inv wr) ∧ i' = .int .i64 k ∧ r = .int .i64 0) (fun _ i _ => a.length - (intOf i).toNat)
 case atStart => exact ⟨0, by omega, by simp, H0, rfl, rfl⟩
 case round =>
  obtain ⟨k, hk, hs, kw, rfl, rfl⟩ := hrel
  have Hs := hid hs; clear hs
  by_cases hlt : k < a.length
  ·obtain ⟨b, off, q, m, c, s, rfl, h1, h2, h3, h4⟩ := (HV.out wr kw.out).get k hlt
   have hd := hid (idxOf_drop pr a k hlt)
   have HC := hid (HF.out a[k] (List.getElem_mem hlt) q m c s wr kw.out h3 h4)
   clear h3 h4
   cases hp : pr a[k]
   all_goals
    have Hp := hid hp; clear hp
    go_wp2_with ((with_reducible refine HC.out.mono ?_); rintro e w2 ⟨rfl, k2⟩; replace k2 := hid k2; rw [Hp.out])
   ·go_roundw
    case rel => exact ⟨k + 1, by omega, by rw [Hs.out, hd.out, Hp.out]; rfl, k2, by go_num, rfl⟩
    case measure => simp [intOf]; omega
   ·go_ret
    exact ⟨ret_int (by rw [Hs.out, hd.out, Hp.out]; rfl), k2.out⟩
  ·go_wp2
   go_ret
   exact ⟨ret_int (by rw [Hs.out, idxOf_end _ _ _ (by omega)]), kw.out⟩
theorem containsFuncG (Inv : World → Prop) (pr : List Fm × Fm → Bool) (f : FuncId) (cp : Array Value) (a : List (List Fm × Fm)) (v : Value) (w : World) (hv : ∀ w1, Inv w1 → GoalL w1 v a) (h0 : Inv w) (hcf : Enters f)
  (hf : ∀ g, g ∈ a → ∀ q m c s w1, Inv w1 → Left w1 (.slice q m c) g.1 → bts s = g.2.body → Calls Tryz.prog f (#[.agg #[.slice q m c, .string s]] ++ cp) w1 fun e w2 => e = .returned (.bool (pr g)) ∧ Inv w2) :
  Calls Tryz.prog 232 #[v, .func (.func f) #[] cp] w fun e w' => e = .returned (.bool (a.any pr)) ∧ Inv w' := by
 have H := hid (indexFuncG Inv pr f cp a v w hv h0 hcf hf)
 clear hv hf hcf h0
 have he := hid (idxOf_any pr a 0)
 go_enter Tryz.func232, Tryz.ntmps232
 go_wp2_with (go_at_call 254; refine H.out.mono ?_; rintro e w2 ⟨rfl, k2⟩; replace k2 := hid k2)
 go_ret
 exact ⟨ret_bool he.out, k2.out⟩
end Go.Proofs.YtfmmajgkjkmghaaGreat
namespace Go.Proofs.YtfmmajgkjkmghaaGreat
open Go.RowKit
theorem enters_drop_1 : Enters 268 := fun _ _ => by kernel_rfl
set_option maxRecDepth 20000 in
set_option maxHeartbeats 1000000 in
theorem drop_any (ss : List ByteArray) (t : ByteArray) (v : Value) (w : World) (hv : Strs w v ss) (h0 : 0 < ss.length) (hl : ss.length ≤ 1000000000) :
  Calls Tryz.prog 255 #[v, .string t] w fun e w' => ∃ v', e = .returned v' ∧ OwnS w' w.heap.size v' (ss.filter fun s => !(s.toList == t.toList)) ∧ Keeps w w' := by
 have kA := (Keeps.refl w).alloc (.cells #[.string t] 9)
 have hb : (w.alloc (.cells #[.string t] 9)).cell? ⟨w.heap.size, 0, none⟩ = some (.string t) := by simp
 have hva := hv.keeps kA
 obtain ⟨p, cap, rfl, hle, hmx, hat, _⟩ := hva.at
 obtain ⟨b, off, rfl, _⟩ := hat 0 (by simpa [strCells] using h0)
 have hc : ∀ j, j < ss.length → (w.alloc (.cells #[.string t] 9)).cell? ⟨b, off + j, none⟩ = some (.string (ss.getD j ByteArray.empty)) := by
  intro j hj
  obtain ⟨b', off', hp, hc⟩ := hat j (by simpa [strCells] using hj)
  cases hp
  rw [hc]
  simp [strCells, List.getD_eq_getElem?_getD, hj]
 have hC := Tryz.slices_Clone_string b off ss.length cap ss (w.alloc (.cells #[.string t] 9)) (Nat.le_refl _) (by omega) hc
 rw [List.take_length] at hC
 have HC := hid hC; clear hC hc hat
 have HB := hid hb; clear hb
 clear hva
 go_enter Tryz.func255, Tryz.ntmps255
 go_wp2_with fail
 refine HC.out.mono ?_; rintro e w1 ⟨v1, rfl, hv1, hn1, k1⟩
 have hown : OwnS w1 (w.alloc (.cells #[.string t] 9)).heap.size v1 ss := hv1
 obtain ⟨g, c1, rfl⟩ : ∃ g c, v1 = .slice (some ⟨g, 0, none⟩) ss.length c := by
  rcases hown.2 with ⟨e, _⟩ | ⟨g, c, _, e, _⟩
  ·exact absurd e hn1
  ·exact ⟨g, c, e⟩
 have HD := hid (deleteFuncS (fun s => s.toList == t.toList) 268 #[.pointer (some ⟨w.heap.size, 0, none⟩)] ss g c1 (w.alloc (.cells #[.string t] 9)) w1 hown k1 (by omega) enters_drop_1 (fun x w2 k2 => drop_1_any x t _ w2 (Keeps.cell k2 HB.out)))
 clear hown hv1 hn1
 go_wp2_with fail
 refine HD.out.mono ?_; rintro e w2 ⟨v2, rfl, hv2, k2⟩
 go_wp2_with fail
 go_ret
 exact ⟨_, rfl, hv2.mono (by simp), kA.trans k2⟩
def OLeft (w : World) (B : Nat) (v : Value) (G : List Fm) : Prop := ∃ ss, OwnS w B v ss ∧ Txts ss G ∧ G.length ≤ 2147483648
theorem OLeft.left {w : World} {B : Nat} {v : Value} {G : List Fm} (h : OLeft w B v G) : Left w v G := by
 obtain ⟨ss, h1, h2, h3⟩ := h
 exact h1.left h2 h3
theorem OLeft.setBelow {w : World} {B : Nat} {v : Value} {G : List Fm} (h : OLeft w B v G) {g : Nat} (hg : g < B) (o : Nat) (u : Value) : OLeft (w.setCell ⟨g, o, none⟩ u) B v G := by
 obtain ⟨ss, h1, h2, h3⟩ := h
 refine ⟨ss, World.ownsRow.kept h1 (grown_set g o u) ?_, h2, h3⟩
 cases hb : v.ownBlock with
 | none => exact .inl rfl
 | some k => exact .inr (fun e => by cases e; have := (OwnS.len h1 g hb).1; omega)
theorem put_fm (G H : List Fm) (v u : Value) (w : World) (hv : Left w v G) (hu : Left w u H) (hG : OkL G) (hH : OkL H) (hl : wts G + wts H ≤ 1000000000) :
  Calls Tryz.prog 189 #[v, u] w fun e w' => ∃ v' R, e = .returned v' ∧ OLeft w' w.heap.size v' R ∧ (∀ a, a ∈ R ↔ a ∈ G ∨ a ∈ H) ∧ wts R ≤ wts G + wts H ∧ Keeps w w' := by
 obtain ⟨ss, h1, h2⟩ := hv
 obtain ⟨tt, h3, h4⟩ := hu
 have hl1 := len_le_wts G
 have hl2 := len_le_wts H
 obtain ⟨R, hR, hm, hw, hln⟩ := put_txts h2 h4 (fun a ha => (hG a ha).1) (fun a ha => (hH a ha).1)
 refine (put_any ss tt v u w h1 h3 (by rw [h2.length, h4.length]; omega)).mono ?_
 rintro e w' ⟨v', rfl, ho, k⟩
 exact ⟨v', R, rfl, ⟨_, ho, hR, by omega⟩, hm, hw, k⟩
theorem drop_fm (G : List Fm) (t : Fm) (x : ByteArray) (hx : bts x = t.body) (hm : t ∈ G) (v : Value) (w : World) (hv : Left w v G) (hG : OkL G) (hl : wts G ≤ 1000000000) :
  Calls Tryz.prog 255 #[v, .string x] w fun e w' => ∃ v', e = .returned v' ∧ OLeft w' w.heap.size v' (G.filter fun a => !decide (a = t)) ∧ Keeps w w' := by
 obtain ⟨ss, h1, h2⟩ := hv
 have hl1 := len_le_wts G
 have hp : 0 < G.length := List.length_pos_of_mem hm
 refine (drop_any ss x v w h1 (by rw [h2.length]; exact hp) (by rw [h2.length]; omega)).mono ?_
 rintro e w' ⟨v', rfl, ho, k⟩
 have := drop_txts hx (hG t hm).1 h2 (fun a ha => (hG a ha).1)
 exact ⟨v', rfl, ⟨_, ho, this, by have := List.length_filter_le (fun a => !decide (a = t)) G; omega⟩, k⟩
end Go.Proofs.YtfmmajgkjkmghaaGreat
namespace Go.Proofs.YtfmmajgkjkmghaaGreat
open Go.RowKit
set_option maxRecDepth 20000 in
set_option maxHeartbeats 1000000 in
theorem proving_any (p : Option Addr) (n c : Nat) (s t : ByteArray) (w : World) :
  Calls Tryz.prog 221 #[.agg #[.slice p n c, .string s], .string t] w fun e w' => e = .returned (.agg #[.slice p n c, .string t]) ∧ Keeps w w' := by
 have kA := (((Keeps.refl w).alloc (.cells #[.slice p n c, .string s] 144)).alloc (.cells #[.slice none 0 0, .string ⟨#[]⟩] 144))
 have pa : ((w.alloc (.cells #[.slice p n c, .string s] 144)).alloc (.cells #[.slice none 0 0, .string ⟨#[]⟩] 144)).cell? ⟨w.heap.size, 0, none⟩ = some (.slice p n c) := by rw [World.cell?_alloc_lt (h := by simp)]; simp
 go_enter Tryz.func221, Tryz.ntmps221
 go_wp2
 refine bodyPost_ret (v := .agg #[.slice p n c, .string t]) (by simp [results, Tryz.results221, go_sem]) rfl ?_
 exact ⟨rfl, (((Keeps.refl w).alloc _).alloc _)⟩
set_option maxRecDepth 20000 in
set_option maxHeartbeats 1000000 in
theorem with_any (G H : List Fm) (p : Option Addr) (n c : Nat) (s : ByteArray) (u : Value) (w : World) (hv : Left w (.slice p n c) G) (hu : Left w u H) (hG : OkL G) (hH : OkL H) (hl : wts G + wts H ≤ 1000000000) :
  Calls Tryz.prog 222 #[.agg #[.slice p n c, .string s], u] w fun e w' => ∃ p' n' c' R, e = .returned (.agg #[.slice p' n' c', .string s]) ∧ Left w' (.slice p' n' c') R ∧ (∀ a, a ∈ R ↔ a ∈ G ∨ a ∈ H) ∧ wts R ≤ wts G + wts H ∧ Keeps w w' := by
 obtain ⟨p2, n2, c2, rfl⟩ := hu.shape
 have kA := (((Keeps.refl w).alloc (.cells #[.slice p n c, .string s] 144)).alloc (.cells #[.slice none 0 0, .string ⟨#[]⟩] 144)).drew
 have pa : ((w.alloc (.cells #[.slice p n c, .string s] 144)).alloc (.cells #[.slice none 0 0, .string ⟨#[]⟩] 144)).drew.cell? ⟨w.heap.size, 0, none⟩ = some (.slice p n c) := by show (World.alloc _ _).cell? _ = _; rw [World.cell?_alloc_lt (h := by simp)]; simp
 have pb : ((w.alloc (.cells #[.slice p n c, .string s] 144)).alloc (.cells #[.slice none 0 0, .string ⟨#[]⟩] 144)).drew.cell? ⟨w.heap.size, 1, none⟩ = some (.string s) := by show (World.alloc _ _).cell? _ = _; rw [World.cell?_alloc_lt (h := by simp)]; simp
 have HP := hid (put_fm G H _ _ _ (hv.keeps kA) (hu.keeps kA) hG hH hl)
 clear hv hu hG hH hl
 go_enter Tryz.func222, Tryz.ntmps222
 go_wp2_with fail
 go_region_held3 (fun w' => w'.cell? ⟨w.heap.size, 0, none⟩ = some (.slice p n c) ∧ w'.cell? ⟨w.heap.size, 1, none⟩ = some (.string s)) (first | exact ⟨pa, pb⟩ | exact ⟨qa, qb⟩ | (constructor <;> (rw [World.cell?_setCell_far _ _ _ _ (by simp), World.cell?_setCell_far _ _ _ _ (by simp)]; first | exact qa | exact qb))) (first | (go_at_call 189; refine HP.out.mono ?_; rintro e w2 ⟨v2, R, rfl, hR, hm, hwt, k2⟩; have qa := k2.cell pa; have qb := k2.cell pb; obtain ⟨p4, n4, q4, rfl⟩ := hR.left.shape; obtain ⟨hc3, hf3⟩ := k2.both))
 go_wp2
 refine bodyPost_ret (v := .agg #[.slice p4 n4 q4, .string s]) (by simp [results, Tryz.results222, go_sem, hc3]) rfl ?_
 exact ⟨p4, n4, q4, R, rfl, ((hR.setBelow (by simp) _ _).setBelow (by simp) _ _).left, hm, hwt, ((kA.trans k2).setCell (by simp) _).setCell (by simp) _⟩
set_option maxRecDepth 20000 in
set_option maxHeartbeats 1000000 in
theorem instead_any (G T : List Fm) (t : Fm) (x : ByteArray) (hx : bts x = t.body) (hm : t ∈ G) (p : Option Addr) (n c : Nat) (s : ByteArray) (u : Value) (w : World) (hv : Left w (.slice p n c) G) (hu : Left w u T) (hG : OkL G) (hT : OkL T) (hl : wts G + wts T ≤ 1000000000) :
  Calls Tryz.prog 234 #[.agg #[.slice p n c, .string s], .string x, u] w fun e w' => ∃ p' n' c' R, e = .returned (.agg #[.slice p' n' c', .string s]) ∧ Left w' (.slice p' n' c') R ∧ (∀ a, a ∈ R ↔ a ∈ T ∨ a ∈ G.filter (fun a => !decide (a = t))) ∧ wts R + wt t ≤ wts G + wts T ∧ Keeps w w' := by
 obtain ⟨p2, n2, c2, rfl⟩ := hu.shape
 have kA := (((Keeps.refl w).alloc (.cells #[.slice p n c, .string s] 144)).alloc (.cells #[.slice none 0 0, .string ⟨#[]⟩] 144)).drew
 have pa : ((w.alloc (.cells #[.slice p n c, .string s] 144)).alloc (.cells #[.slice none 0 0, .string ⟨#[]⟩] 144)).drew.cell? ⟨w.heap.size, 0, none⟩ = some (.slice p n c) := by show (World.alloc _ _).cell? _ = _; rw [World.cell?_alloc_lt (h := by simp)]; simp
 have pb : ((w.alloc (.cells #[.slice p n c, .string s] 144)).alloc (.cells #[.slice none 0 0, .string ⟨#[]⟩] 144)).drew.cell? ⟨w.heap.size, 1, none⟩ = some (.string s) := by show (World.alloc _ _).cell? _ = _; rw [World.cell?_alloc_lt (h := by simp)]; simp
 have hwt := wts_without hm
 have HD := hid (drop_fm G t x hx hm _ _ (hv.keeps kA) hG (by omega))
 have HP := hid (fun v2 w2 (k : Keeps w w2) (h : Left w2 v2 (G.filter fun a => !decide (a = t))) => put_fm _ T v2 _ w2 h (hu.keeps k) (fun a ha => hG a (mem_without.1 ha).1) hT (by omega))
 have HW := hid hwt
 clear hv hu hG hT hl hwt hx hm
 go_enter Tryz.func234, Tryz.ntmps234
 go_wp2_with fail
 go_region_held3 (fun w' => w'.cell? ⟨w.heap.size, 0, none⟩ = some (.slice p n c) ∧ w'.cell? ⟨w.heap.size, 1, none⟩ = some (.string s)) (first | exact ⟨pa, pb⟩ | exact ⟨qa, qb⟩ | exact ⟨ra, rb⟩ | (constructor <;> (rw [World.cell?_setCell_far _ _ _ _ (by simp), World.cell?_setCell_far _ _ _ _ (by simp)]; first | exact ra | exact rb))) (first
  | (go_at_call 255; refine HD.out.mono ?_; rintro e w2 ⟨v2, rfl, hv2, k2⟩; have qa := k2.cell pa; have qb := k2.cell pb; obtain ⟨p4, n4, q4, rfl⟩ := hv2.left.shape)
  | (go_at_call 189; refine (HP.out _ w2 (kA.trans k2) hv2.left).mono ?_; rintro e w3 ⟨v3, R, rfl, hR, hmem, hwR, k3⟩; have ra := k3.cell qa; have rb := k3.cell qb; obtain ⟨p5, n5, q5, rfl⟩ := hR.left.shape; obtain ⟨hc3, hf3⟩ := (k2.trans k3).both))
 have hs2 := k2.size
 go_wp2
 refine bodyPost_ret (v := .agg #[.slice p5 n5 q5, .string s]) (by simp [results, Tryz.results234, go_sem, hc3]) rfl ?_
 have hlt : w.heap.size + 1 < w2.heap.size := by have := hs2; simp at this; omega
 exact ⟨p5, n5, q5, R, rfl, ((hR.setBelow hlt _ _).setBelow hlt _ _).left, fun a => (hmem a).trans or_comm, by have := HW.out; omega, ((kA.trans (k2.trans k3)).setCell (by simp) _).setCell (by simp) _⟩
end Go.Proofs.YtfmmajgkjkmghaaGreat
namespace Go.Proofs.YtfmmajgkjkmghaaGreat
open Go.RowKit Fm
def Prem (G : List Fm) (c : Fm) (gs : List (List Fm × Fm)) : Prop := (∀ g ∈ gs, OkL g.1 ∧ OkF g.2 ∧ wts g.1 + wt g.2 < wts G + wt c) ∧ (Sq G c ↔ ∀ g ∈ gs, Sq g.1 g.2)
def Left4 (G : List Fm) (t : Fm) : Prop := t = fls ∨ (∃ p, t = var p) ∨ (∃ p b, t = imp (var p) b ∧ var p ∉ G) ∨ (∃ x y b, t = imp (imp x y) b)
theorem OkF.and {x y : Fm} (h : OkF (and x y)) : OkF x ∧ OkF y := by obtain ⟨h1, h2⟩ := h; simp [plain] at h2; exact ⟨⟨h1.1, h2.1⟩, ⟨h1.2, h2.2⟩⟩
theorem OkF.or {x y : Fm} (h : OkF (or x y)) : OkF x ∧ OkF y := by obtain ⟨h1, h2⟩ := h; simp [plain] at h2; exact ⟨⟨h1.1, h2.1⟩, ⟨h1.2, h2.2⟩⟩
theorem OkF.imp {x y : Fm} (h : OkF (imp x y)) : OkF x ∧ OkF y := by obtain ⟨h1, h2⟩ := h; simp [plain] at h2; exact ⟨⟨h1.1, h2.1⟩, ⟨h1.2, h2.2⟩⟩
theorem OkF.mkImp {x y : Fm} (h : OkF x) (k : OkF y) : OkF (Fm.imp x y) := ⟨⟨h.1, k.1⟩, by simp [plain, h.2, k.2]⟩
theorem okL_one {x : Fm} (h : OkF x) : OkL [x] := fun a ha => by rw [List.mem_singleton.1 ha]; exact h
theorem okL_two {x y : Fm} (h : OkF x) (k : OkF y) : OkL [x, y] := fun a ha => by
 rcases List.mem_cons.1 ha with rfl | ha
 ·exact h
 ·rw [List.mem_singleton.1 ha]; exact k
theorem okL_nil : OkL [] := fun a ha => by cases ha
section
variable {G T R : List Fm} {c t : Fm} (hG : OkL G) (hc : OkF c) (hm : t ∈ G) (hT : OkL T) (hR : ∀ a, a ∈ R ↔ a ∈ T ∨ a ∈ G.filter (fun a => !decide (a = t))) (hw : wts R + wt t ≤ wts G + wts T)
include hm in
theorem mem_split : ∀ a, a ∈ G ↔ a = t ∨ a ∈ G.filter (fun a => !decide (a = t)) := (instead_mem (T := []) (R := G.filter fun a => !decide (a = t)) hm (fun a => by simp)).1
include hG hT hR in
theorem okL_instead : OkL R := fun a ha => ((hR a).1 ha).elim (hT a) fun h => hG a (mem_without.1 h).1
include hG hc hT hR hw in
theorem prem_one (hlt : wts T < wt t) (hs : Sq G c ↔ Sq R c) : Prem G c [(R, c)] := by
 refine ⟨fun g hg => ?_, by simpa using hs⟩
 rw [List.mem_singleton.1 hg]
 exact ⟨okL_instead hG hT hR, hc, by simp only; omega⟩
include hG hc hm hw in
theorem prem_fls {b : Fm} (ht : t = imp fls b) (hT0 : T = []) (hR : ∀ a, a ∈ R ↔ a ∈ T ∨ a ∈ G.filter (fun a => !decide (a = t))) : Prem G c [(R, c)] := by
 subst hT0
 have hlt : wts [] < wt t := by have := wt_ge t; simp only [wts]; omega
 refine prem_one hG hc okL_nil hR hw hlt ?_
 rw [sq_drop_imp (x := fls) (y := b) (H := G.filter fun a => !decide (a = t)) (by rw [← ht]; exact mem_split hm) (.inl rfl)]
 exact sq_same fun a => by rw [hR a]; simp
include hG hc hm hR hw in
theorem prem_var {p : Nat} {b : Fm} (ht : t = imp (var p) b) (hT1 : T = [b]) (hb : OkF b) (hp : var p ∈ G) : Prem G c [(R, c)] := by
 subst hT1
 have hlt : wts [b] < wt t := by rw [ht]; have := wt_imp (var p) b; simp only [wts]; omega
 refine prem_one hG hc (okL_one hb) hR hw hlt ?_
 exact sq_impL (x := var p) (b := b) (H := G.filter fun a => !decide (a = t)) (by rw [← ht]; exact mem_split hm) (mem_without.2 ⟨hp, by rw [ht]; intro h; cases h⟩) (fun a => by rw [hR a]; simp)
include hG hc hm hR hw in
theorem prem_and {x y : Fm} (ht : t = and x y) (hT1 : T = [x, y]) (hx : OkF x) (hy : OkF y) : Prem G c [(R, c)] := by
 subst hT1
 have hlt : wts [x, y] < wt t := by rw [ht]; have := wt_and x y; simp only [wts]; omega
 refine prem_one hG hc (okL_two hx hy) hR hw hlt ?_
 exact sq_andL (x := x) (y := y) (H := G.filter fun a => !decide (a = t)) (by rw [← ht]; exact mem_split hm) (fun a => by rw [hR a]; simp)
include hG hc hm hR hw in
theorem prem_andimp {x y b : Fm} (ht : t = imp (and x y) b) (hT1 : T = [imp x (imp y b)]) (hx : OkF x) (hy : OkF y) (hb : OkF b) : Prem G c [(R, c)] := by
 subst hT1
 have hlt : wts [imp x (imp y b)] < wt t := by rw [ht]; have := wt_andimp x y b; simp only [wts]; omega
 refine prem_one hG hc (okL_one (.mkImp hx (.mkImp hy hb))) hR hw hlt ?_
 exact sq_andimpL (x := x) (y := y) (b := b) (H := G.filter fun a => !decide (a = t)) (by rw [← ht]; exact mem_split hm) (fun a => by rw [hR a]; simp)
include hG hc hm hR hw in
theorem prem_orimp {x y b : Fm} (ht : t = imp (or x y) b) (hT1 : T = [imp x b, imp y b]) (hx : OkF x) (hy : OkF y) (hb : OkF b) : Prem G c [(R, c)] := by
 subst hT1
 have hlt : wts [imp x b, imp y b] < wt t := by rw [ht]; have := wt_orimp x y b; simp only [wts]; omega
 refine prem_one hG hc (okL_two (.mkImp hx hb) (.mkImp hy hb)) hR hw hlt ?_
 exact sq_orimpL (x := x) (y := y) (b := b) (H := G.filter fun a => !decide (a = t)) (by rw [← ht]; exact mem_split hm) (fun a => by rw [hR a]; simp)
end
theorem prem_or {G R R' : List Fm} {c t x y : Fm} (hG : OkL G) (hc : OkF c) (hm : t ∈ G) (ht : t = or x y) (hx : OkF x) (hy : OkF y)
  (hR : ∀ a, a ∈ R ↔ a ∈ [x] ∨ a ∈ G.filter (fun a => !decide (a = t))) (hw : wts R + wt t ≤ wts G + wts [x]) (hR' : ∀ a, a ∈ R' ↔ a ∈ [y] ∨ a ∈ G.filter (fun a => !decide (a = t))) (hw' : wts R' + wt t ≤ wts G + wts [y]) : Prem G c [(R, c), (R', c)] := by
 have h1 := wt_or x y
 rw [← ht] at h1
 simp only [wts] at hw hw'
 refine ⟨fun g hg => ?_, ?_⟩
 ·rcases List.mem_cons.1 hg with rfl | hg
  ·exact ⟨okL_instead hG (okL_one hx) hR, hc, by simp only; omega⟩
  ·rw [List.mem_singleton.1 hg]
   exact ⟨okL_instead hG (okL_one hy) hR', hc, by simp only; omega⟩
 ·rw [sq_orL (x := x) (y := y) (H := G.filter fun a => !decide (a = t)) (K := R) (K' := R') (by rw [← ht]; exact mem_split hm) (fun a => by rw [hR a]; simp) (fun a => by rw [hR' a]; simp)]
  simp
theorem Prem.all {G : List Fm} {c : Fm} {gs : List (List Fm × Fm)} (h : Prem G c gs) : (!(gs.any fun g => !sqB g.1 g.2)) = sqB G c := by
 rw [Bool.eq_iff_iff]
 simp only [Bool.not_eq_true', List.any_eq_false, Bool.not_eq_true', Bool.not_eq_false, sqB_iff]
 exact h.2.symm
end Go.Proofs.YtfmmajgkjkmghaaGreat
