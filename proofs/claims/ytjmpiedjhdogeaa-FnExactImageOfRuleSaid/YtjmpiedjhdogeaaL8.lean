/- Walks: marks put into owned node lists, lists of lists, and rules, while other memory may have been written. -/
import Derived.Test.YtjmpiedjhdogeaaL7
namespace Go.Proofs.Ytjmpiedjhdogeaa
open Go.RowKit
/-- nothing from block B on has changed -/
def Low (w w' : World) (B : Nat) : Prop := Touch w w' (fun i => i < B)
theorem Low.of {w w' : World} (h : Keeps w w') (B : Nat) : Low w w' B := Touch.of_keeps h _
theorem Low.trans {a b c : World} {B : Nat} (h : Low a b B) (k : Low b c B) : Low a c B := Touch.trans h k
theorem Low.keeps {a b c : World} {B : Nat} (h : Low a b B) (k : Keeps b c) : Low a c B := Touch.trans h (Touch.of_keeps k _)
theorem Low.touch {a b c : World} {B : Nat} {S : Nat → Prop} (h : Low a b B) (k : Touch b c S) (hS : ∀ i, S i → i < B) : Low a c B := Touch.trans h (k.mono hS)
theorem Keeps.touched {a w w' : World} {B U : Nat} (h : Keeps a w) (k : Touch w w' (fun i => B ≤ i ∧ i < U)) (hB : a.heap.size ≤ B) : Keeps a w' := h.touch k (fun i hi => by omega)
theorem cell_touched {w w' : World} {B U : Nat} {b o : Nat} {v : Value} (h : w.cell? ⟨b, o, none⟩ = some v) (k : Touch w w' (fun i => B ≤ i ∧ i < U)) (hb : b < B ∨ U ≤ b) : w'.cell? ⟨b, o, none⟩ = some v := by
  have hlt : b < w.heap.size := World.block_lt_of_cell? _ _ h
  rw [(k.cell hlt (fun hh => by omega)).1]; exact h
--
theorem OwnN.low {w w' : World} {B : Nat} {v : Value} {x : List Nd} (h : OwnN w B v x) (k : Low w w' B) : OwnN w' B v x := h.touch k (fun i hi => by have := (h.len i hi).1; omega)
theorem OwnN.lowOf {w0 w : World} {B : Nat} {v : Value} {x : List Nd} (h : OwnN w0 B v x) (k : Keeps w0 w) : Low w0 w B := by have _ := h; exact Low.of k B
theorem markN_t (a : List Nd) (v : Value) (k0 : Int) (w0 w : World) (B : Nat) (hv : OwnN w0 B v a) (k : Low w0 w B) (hl : a.length ≤ 2147483648) (hk0 : 0 ≤ k0) (hk1 : k0 ≤ 4294967296) :
    Calls Try.prog 13 #[v, .int .i64 k0] w fun e w' => e = .returned (.int .i64 (k0 + 2 * a.length)) ∧ OwnN w' B v (marksN a.length k0) ∧ Touch w w' (fun i => B ≤ i ∧ i < w0.heap.size) := by
  have hlen := hv.len
  refine (markNodeS_any a v k0 w B (hv.low k) hl hk0 hk1).mono ?_
  rintro e w' ⟨rfl, ho, g⟩
  exact ⟨rfl, ho, (Touch.grown g).mono (fun i hi => hlen i hi.symm)⟩
--
theorem OwnL.low {w w' : World} {B : Nat} {v : Value} {x : List (List Nd)} (h : OwnL w B v x) (k : Low w w' B) : OwnL w' B v x := h.touched k (fun i hi => by omega)
theorem OwnL.lowOf {w0 w : World} {B : Nat} {v : Value} {x : List (List Nd)} (h : OwnL w0 B v x) (k : Keeps w0 w) : Low w0 w B := by have _ := h; exact Low.of k B
theorem markL_t (r : List (List Nd)) (v : Value) (k0 : Int) (w0 w : World) (B : Nat) (hv : OwnL w0 B v r) (k : Low w0 w B) (hl : r.length ≤ 1048576) (ht : tot r ≤ 1048576) (hk0 : 0 ≤ k0) (hk1 : k0 ≤ 2147483648) :
    Calls Try.prog 23 #[v, .int .i64 k0] w fun e w' => e = .returned (.int .i64 (k0 + 2 * tot r)) ∧ NdsL w' v (marksL r k0) ∧ Touch w w' (fun i => B ≤ i ∧ i < w0.heap.size) := by
  have hlt : ∀ vs, RowsN w0 B vs r → ∀ k, blk vs k → B ≤ k ∧ k < w0.heap.size := fun vs h k hk => h.lt hk
  obtain ⟨vs0, _, hr0, _, _⟩ := id hv
  obtain ⟨vs, ho, hr, ha, hf⟩ := hv
  have hlt' := hlt vs hr
  have ho' := own_touch ho k (fun i e hs => by have := (World.ownsRow.lt ho i e).1; omega)
  have hr' := hr.touch k (fun i e hs => by have := (hr.lt e).1; omega)
  obtain ⟨p, cap, rfl, hcap, hmx, hat⟩ := At.of_own ho'
  refine (markNodeSS_any r vs p cap k0 w B hat hr' ha hf (by omega) (by omega) (by omega) (by omega)).mono ?_
  rintro e w' ⟨rfl, hr2, t⟩
  have hat' : At w' p vs := fun j hj => by
    obtain ⟨b, off, hp, hc⟩ := hat j hj
    refine ⟨b, off, hp, ?_⟩
    rw [(t.cell (World.block_lt_of_cell? _ _ hc) (hf.not_blk (k := b) (by subst hp; rfl))).1]
    exact hc
  have hn := rows_ndsL hat' hr2 (by rw [marksL_length]; exact hcap) hmx (by rw [marksL_length]; omega) (by rw [tot_marks]; omega)
  rw [marksL_length] at hn
  exact ⟨rfl, hn, t.mono (fun k hk => hlt' k hk)⟩
--
theorem OwnR.low {w w' : World} {B : Nat} {v u : Value} {xs : List (List Nd)} {c : List Nd} (h : OwnR w B v u xs c) (k : Low w w' B) : OwnR w' B v u xs c := h.touch k (fun i hi => by omega)
theorem OwnR.lowOf {w0 w : World} {B : Nat} {v u : Value} {xs : List (List Nd)} {c : List Nd} (h : OwnR w0 B v u xs c) (k : Keeps w0 w) : Low w0 w B := by have _ := h; exact Low.of k B
theorem markR_t (xs : List (List Nd)) (c : List Nd) (v u : Value) (k0 : Int) (w0 w : World) (B : Nat) (hv : OwnR w0 B v u xs c) (k : Low w0 w B) (hl : xs.length ≤ 1048576) (ht : tot xs + c.length ≤ 1048576) (hk0 : 0 ≤ k0) (hk1 : k0 ≤ 1073741824) :
    Calls Try.prog 14 #[.agg #[v, u], .int .i64 k0] w fun e w' => e = .returned (.int .i64 (k0 + 2 * (tot xs + c.length))) ∧ NdsL w' v (marksL xs k0) ∧ Nds w' u (marksN c.length (k0 + 2 * tot xs)) ∧ Touch w w' (fun i => B ≤ i ∧ i < w0.heap.size) := by
  obtain ⟨vs, ho, hr, ha, hf⟩ := hv
  have hlt' := fun k (hk : blk (u :: vs) k) => hr.lt hk
  have ho' := own_touch ho k (fun i e hs => by have := (World.ownsRow.lt ho i e).1; omega)
  have hr' := hr.touch k (fun i e hs => by have := (hr.lt e).1; omega)
  obtain ⟨p, cap, rfl, hcap, hmx, hat⟩ := At.of_own ho'
  refine (markLogicRule_any xs c vs p cap u k0 w B hat hr' ha hf (by omega) (by omega) (by omega) (by omega)).mono ?_
  rintro e w' ⟨rfl, hr2, t⟩
  have hat' : At w' p vs := fun j hj => by
    obtain ⟨b, off, hp, hc⟩ := hat j hj
    refine ⟨b, off, hp, ?_⟩
    rw [(t.cell (World.block_lt_of_cell? _ _ hc) (hf.not_blk (k := b) (by subst hp; rfl))).1]
    exact hc
  have hn := rows_ndsL hat' hr2.tail (by rw [marksL_length]; exact hcap) hmx (by rw [marksL_length]; omega) (by rw [tot_marks]; omega)
  rw [marksL_length] at hn
  exact ⟨rfl, hn, hr2.head.nds (by rw [marksN_length]; omega), t.mono (fun k hk => hlt' k hk)⟩
end Go.Proofs.Ytjmpiedjhdogeaa
