import Derived.Test.YtkkcfifnkcnceaaGreatHPR
import Derived.Test.YtkkcfifnkcnceaaGreatHNH
import Derived.Deep.AppendLies
import Derived.Test.YtkkcfifnkcnceaaGreatHMV
import Derived.Test.YtkkcfifnkcnceaaGreatHMJ
import Derived.Test.YtkkcfifnkcnceaaGreatHMY
/- SurvivingTypes, IsModalTheorem, LogicsOf: the program's side. -/
namespace Go.Proofs.YtkkcfifnkcnceaaGreat
open Go.RowKit
end Go.Proofs.YtkkcfifnkcnceaaGreat
namespace Go.Proofs.YtkkcfifnkcnceaaGreat
open Go.RowKit
def isDi : Fm → Bool
 | .dia _ => true
 | _ => false
end Go.Proofs.YtkkcfifnkcnceaaGreat
namespace Go.Proofs.YtkkcfifnkcnceaaGreat
open Go.RowKit
def txS (t : Fm) : ByteArray := mkS t.body
theorem txS_eq {s : ByteArray} {t : Fm} (h : bts s = t.body) : s = txS t := bts_inj (h.trans (bts_mkS _).symm)
theorem txS_tx {t : Fm} (hw : t.wf) (hl : t.enc.length ≤ 40) : IsTx (txS t) t := ⟨hw, bts_mkS _, hl⟩
end Go.Proofs.YtkkcfifnkcnceaaGreat
namespace Go.Proofs.YtkkcfifnkcnceaaGreat
open Go.RowKit
theorem putL_ins {ss : List ByteArray} (h : Asc (ss.map bts)) (s : ByteArray) : putL ss [s] = insS ss s := by
 apply map_bts_inj
 rw [insS_bts]
 have e : (putL ss [s]).map bts = sortB ((ss ++ [s]).map bts) := by simp [putL, Function.comp_def, bts_mkS]
 rw [e]
 refine Asc.ext (sortB_asc _) (insB_asc _ h) fun z => ?_
 rw [sortB_iff, insB_mem]
 simp
def remS (ss : List ByteArray) (s : ByteArray) : List ByteArray := ss.filter fun u => decide (u ≠ s)
def uniS (ss tt : List ByteArray) : List ByteArray := tt.foldl insS ss
noncomputable def kdS (p : Fm → Bool) (ss : List ByteArray) : List ByteArray := ss.filter fun s => p (txF s)
noncomputable def ofS (p : Fm → Bool) (ss : List ByteArray) : List ByteArray := (kdS p ss).foldl (fun out s => insS out (txS (below (txF s)))) []
noncomputable def kepS (L : Nat) (p : Fm → Bool) (ss : List ByteArray) (main : ByteArray) : List ByteArray :=
 if L = 3 ∨ L = 5 then uniS (ofS p ss) (kdS p ss) else if L = 4 then kdS p ss else if L = 6 then remS (uniS (kdS isBx ss) (kdS isDi ss)) main else ofS p ss
theorem fmL_mem {ss : List ByteArray} {x : Fm} : x ∈ fmL ss ↔ ∃ s ∈ ss, txF s = x := by unfold fmL; rw [List.mem_map]
theorem insS_in {ss : List ByteArray} {s u : ByteArray} : u ∈ insS ss s ↔ u ∈ ss ∨ u = s := by
 have h := insS_mem (ss := ss) (s := s) (z := bts u)
 constructor
 ·intro hu
  rcases h.1 (List.mem_map.2 ⟨u, hu, rfl⟩) with h1 | h1
  ·obtain ⟨t, ht, e⟩ := List.mem_map.1 h1
   rw [bts_inj e] at ht; exact .inl ht
  ·exact .inr (bts_inj h1)
 ·intro hu
  have : bts u ∈ (insS ss s).map bts := h.2 (by
   rcases hu with hu | rfl
   ·exact .inl (List.mem_map.2 ⟨u, hu, rfl⟩)
   ·exact .inr rfl)
  obtain ⟨t, ht, e⟩ := List.mem_map.1 this
  rw [bts_inj e] at ht; exact ht
theorem uniS_in {tt : List ByteArray} {u : ByteArray} : ∀ {ss : List ByteArray}, u ∈ uniS ss tt ↔ u ∈ ss ∨ u ∈ tt := by
 induction tt with
 | nil => intro ss; simp [uniS]
 | cons t tt ih =>
  intro ss
  have := ih (ss := insS ss t)
  unfold uniS at this ⊢
  rw [List.foldl_cons, this, insS_in, List.mem_cons]
  exact ⟨fun h => by rcases h with (h | h) | h <;> simp [h], fun h => by rcases h with h | h | h <;> simp [h]⟩
theorem fold_in {f : ByteArray → ByteArray} {u : ByteArray} : ∀ (l : List ByteArray) (out : List ByteArray), u ∈ l.foldl (fun out s => insS out (f s)) out ↔ u ∈ out ∨ ∃ s ∈ l, u = f s
 | [], out => by simp
 | s :: l, out => by
  rw [List.foldl_cons, fold_in l, insS_in]
  constructor
  ·rintro ((h | h) | ⟨s', hs, e⟩)
   ·exact .inl h
   ·exact .inr ⟨s, by simp, h⟩
   ·exact .inr ⟨s', List.mem_cons_of_mem _ hs, e⟩
  ·rintro (h | ⟨s', hs, e⟩)
   ·exact .inl (.inl h)
   ·rcases List.mem_cons.1 hs with rfl | hs
    ·exact .inl (.inr e)
    ·exact .inr ⟨s', hs, e⟩
theorem side_tx {ss : List ByteArray} (h : Side ss) {s : ByteArray} (hs : s ∈ ss) : IsTx s (txF s) := txF_tx (h.1 s hs)
end Go.Proofs.YtkkcfifnkcnceaaGreat
