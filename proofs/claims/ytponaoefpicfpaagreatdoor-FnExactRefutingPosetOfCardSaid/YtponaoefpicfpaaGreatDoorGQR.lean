/- Walks: the posets on both sides, and their laws. -/
import Derived.Test.YtponaoefpicfpaaGreatDoorGQ2
import Derived.Test.YtponaoefpicfpaaGreatDoorGBase
import Derived.Test.YtponaoefpicfpaaGreatDoorGQE0
namespace Go.Proofs.YtponaoefpicfpaaGreatDoor
open Go.RowKit

/-- a poset and an error come back -/
def RetPE (w : World) (a : List Int) (c : Int) (e : Ending) (w' : World) : Prop := ∃ v, e = .returned (.tuple #[.agg #[.int .i64 a.length, v], .int .i64 c]) ∧ OwnI w' w.heap.size v a ∧ Keeps w w'
--
set_option maxHeartbeats 400000 in
theorem eqPoset_any (a b : List Int) (va vb : Value) (w : World) (hva : Ints w va a) (hvb : Ints w vb b) :
    Calls Tryz.prog 15 #[.agg #[.int .i64 a.length, va], .agg #[.int .i64 b.length, vb]] w fun e w' => e = .returned (.bool (decide (a = b))) ∧ Keeps w w' := by
  obtain ⟨pa, na, ca, rfl⟩ : ∃ p n c, va = .slice p n c := by obtain ⟨p, c, e, _⟩ := hva; exact ⟨p, _, c, e⟩
  obtain ⟨pb, nb, cb, rfl⟩ : ∃ p n c, vb = .slice p n c := by obtain ⟨p, c, e, _⟩ := hvb; exact ⟨p, _, c, e⟩
  have k1 := ((Keeps.refl w).alloc (.cells #[.int .i64 a.length, .slice pa na ca] 32)).alloc (.cells #[.int .i64 b.length, .slice pb nb cb] 32)
  by_cases hl : a.length = b.length
  · have hl' : ((a.length : Int) != (b.length : Int)) = false := by simp [hl]
    have HL := hid hl; clear hl
    have HE := hid (eqInt64S_any a b _ _ _ (hva.keeps k1) (hvb.keeps k1))
    by_cases he : a = b
    · have hd : decide (a = b) = true := decide_eq_true he
      have HD := hid hd; clear hd
      clear he
      go_enter Tryz.func15, Tryz.ntmps15
      go_wp2_with fail
      refine HE.out.mono ?_
      rintro e w2 ⟨rfl, k2⟩
      rw [HD.out]
      go_wp2_with fail
      go_ret
      exact ⟨ret_bool HD.out.symm, k1.trans k2⟩
    · have hd : decide (a = b) = false := decide_eq_false he
      have HD := hid hd; clear hd
      clear he
      go_enter Tryz.func15, Tryz.ntmps15
      go_wp2_with fail
      refine HE.out.mono ?_
      rintro e w2 ⟨rfl, k2⟩
      rw [HD.out]
      go_wp2_with fail
      go_ret
      exact ⟨ret_bool HD.out.symm, k1.trans k2⟩
  · have hl' : ((a.length : Int) != (b.length : Int)) = true := by simp; omega
    have hd : decide (a = b) = false := decide_eq_false (by rintro rfl; exact hl rfl)
    have HD := hid hd; clear hd
    clear hl
    go_enter Tryz.func15, Tryz.ntmps15
    go_wp2_with fail
    go_ret
    exact ⟨ret_bool HD.out.symm, k1⟩
--
theorem grown_pre {w w1 w2 : World} {row : Option Nat} (h : Keeps w w1) (k : w1.grownBy w2 row) : w.grownBy w2 row :=
  ⟨k.os.trans h.os, k.tape.trans h.tape, k.output.trans h.output, Nat.le_trans h.size k.size, fun i hi hr => (k.block i (Nat.lt_of_lt_of_le hi h.size) hr).trans (h.block hi)⟩
theorem grown_cell {w w' : World} {p : Option Addr} {n c : Nat} (h : w.grownBy w' (Value.slice p n c).ownBlock) {b : Nat} (hb : b < w.heap.size) (hne : some b ≠ (Value.slice p n c).ownBlock) :
    (∀ o, w'.cell? ⟨b, o, none⟩ = w.cell? ⟨b, o, none⟩) ∧ (∀ o, w'.frozen? ⟨b, o, none⟩ = w.frozen? ⟨b, o, none⟩) := by
  have hk := h.block b hb hne
  refine ⟨fun o => World.cell?_of_block (a := ⟨b, o, none⟩) hk, fun o => ?_⟩
  exact World.frozen?_of_block hk
set_option maxHeartbeats 400000 in
theorem markPoset_any (a : List Int) (v : Value) (k0 : Int) (w : World) (B : Nat) (hv : OwnI w B v a) (hl : a.length ≤ 2147483648) (hk0 : 0 ≤ k0) (hk1 : k0 ≤ 4294967296) (_hB : B ≤ w.heap.size) :
    Calls Tryz.prog 16 #[.agg #[.int .i64 a.length, v], .int .i64 k0] w fun e w' => e = .returned (.int .i64 (k0 + a.length)) ∧ OwnI w' B v (marksI a.length k0) ∧ w.grownBy w' v.ownBlock := by
  obtain ⟨p, c, rfl, _⟩ := At.of_own hv
  · have k1 := (Keeps.refl w).alloc (.cells #[.int .i64 a.length, .slice p a.length c] 32)
    have HM := hid (markInt64S_any a _ k0 _ B (hv.keeps k1) hl hk0 hk1)
    have hlen := fun k hk => (hv.len k hk).1
    go_enter Tryz.func16, Tryz.ntmps16
    go_wp2_with fail
    refine HM.out.mono ?_
    rintro e w2 ⟨rfl, hv2, g2⟩
    go_wp2_with fail
    go_ret
    exact ⟨rfl, hv2, grown_pre k1 g2⟩
--
set_option maxHeartbeats 400000 in
theorem heldPoset_any (m n : Nat) (v : Value) (k0 : Int) (w : World) (hv : Ints w v (marksI n k0)) (hk0 : 0 ≤ k0) (hk1 : k0 ≤ 4294967296) (hn : n ≤ 4294967296) :
    Calls Tryz.prog 27 #[.agg #[.int .i64 m, v], .int .i64 k0] w fun e w' => e = .returned (.int .i64 (k0 + n)) ∧ Keeps w w' := by
  obtain ⟨p, nn, c, rfl⟩ : ∃ p n c, v = .slice p n c := by obtain ⟨p, c, e, _⟩ := hv; exact ⟨p, _, c, e⟩
  have k1 := (Keeps.refl w).alloc (.cells #[.int .i64 m, .slice p nn c] 32)
  have HM := hid (heldInt64S_any n _ k0 _ (hv.keeps k1) hk0 hk1)
  go_enter Tryz.func27, Tryz.ntmps27
  go_wp2_with fail
  refine HM.out.mono ?_
  rintro e w' ⟨rfl, rfl⟩
  go_wp2_with fail
  go_ret
  exact ⟨rfl, k1⟩
end Go.Proofs.YtponaoefpicfpaaGreatDoor
/- Worlds in which some blocks are written: what lies elsewhere is as it was. -/
namespace Go.Proofs.YtponaoefpicfpaaGreatDoor
open Go.RowKit

/-- blocks outside a set are as they were -/
structure Touch (w w' : World) (S : Nat → Prop) : Prop where
  os : w'.os = w.os
  tape : w'.tape = w.tape
  output : w'.output = w.output
  size : w.heap.size ≤ w'.heap.size
  block : ∀ k, k < w.heap.size → ¬ S k → w'.heap[k]? = w.heap[k]?
theorem Touch.refl (w : World) (S : Nat → Prop) : Touch w w S := ⟨rfl, rfl, rfl, Nat.le_refl _, fun _ _ _ => rfl⟩
theorem Touch.trans {a b c : World} {S : Nat → Prop} (h : Touch a b S) (k : Touch b c S) : Touch a c S :=
  ⟨k.os.trans h.os, k.tape.trans h.tape, k.output.trans h.output, Nat.le_trans h.size k.size, fun i hi hs => (k.block i (Nat.lt_of_lt_of_le hi h.size) hs).trans (h.block i hi hs)⟩
theorem Touch.mono {a b : World} {S S' : Nat → Prop} (h : Touch a b S) (hs : ∀ k, S k → S' k) : Touch a b S' :=
  ⟨h.os, h.tape, h.output, h.size, fun i hi hn => h.block i hi (fun e => hn (hs i e))⟩
theorem Touch.grown {a b : World} {row : Option Nat} (h : a.grownBy b row) : Touch a b (fun k => some k = row) :=
  ⟨h.os, h.tape, h.output, h.size, fun i hi hn => h.block i hi hn⟩
theorem Touch.of_keeps {a b : World} (h : Keeps a b) (S : Nat → Prop) : Touch a b S :=
  ⟨h.os, h.tape, h.output, h.size, fun _ hi _ => h.block hi⟩
theorem Touch.cell {w w' : World} {S : Nat → Prop} (h : Touch w w' S) {b : Nat} (hb : b < w.heap.size) (hs : ¬ S b) :
    (∀ o, w'.cell? ⟨b, o, none⟩ = w.cell? ⟨b, o, none⟩) ∧ (∀ o, w'.frozen? ⟨b, o, none⟩ = w.frozen? ⟨b, o, none⟩) :=
  ⟨fun o => World.cell?_of_block (a := ⟨b, o, none⟩) (h.block b hb hs), fun o => World.frozen?_of_block (a := ⟨b, o, none⟩) (h.block b hb hs)⟩
theorem Keeps.touch {a w w' : World} {S : Nat → Prop} (h : Keeps a w) (k : Touch w w' S) (hS : ∀ i, S i → a.heap.size ≤ i) : Keeps a w' :=
  ⟨k.os.trans h.os, k.tape.trans h.tape, k.output.trans h.output, Nat.le_trans h.size k.size, fun i hi => (k.block i (Nat.lt_of_lt_of_le hi h.size) (fun e => by have := hS i e; omega)).trans (h.block hi)⟩
theorem own_touch {w w' : World} {S : Nat → Prop} {base : Nat} {e : TypeId} {size : Nat} {v : Value} {n : Nat} {xs : List Value} (h : w.ownsRow base e size v n xs) (k : Touch w w' S) (hS : ∀ i, v.ownBlock = some i → ¬ S i) : w'.ownsRow base e size v n xs := by
  refine ⟨h.1, ?_⟩
  rcases h.2 with hn | ⟨g, cap, cur, rfl, hb, hgg, rest⟩
  · exact .inl hn
  · exact .inr ⟨g, cap, cur, rfl, hb, (k.block g (Array.getElem?_eq_some_iff.1 hgg).1 (hS g rfl)).trans hgg, rest⟩
/-- nothing from block B on has changed -/
def Low (w w' : World) (B : Nat) : Prop := Touch w w' (fun i => i < B)
theorem Low.of {w w' : World} (h : Keeps w w') (B : Nat) : Low w w' B := Touch.of_keeps h _
theorem Low.trans {a b c : World} {B : Nat} (h : Low a b B) (k : Low b c B) : Low a c B := Touch.trans h k
theorem Low.keeps {a b c : World} {B : Nat} (h : Low a b B) (k : Keeps b c) : Low a c B := Touch.trans h (Touch.of_keeps k _)
theorem Low.touch {a b c : World} {B : Nat} {S : Nat → Prop} (h : Low a b B) (k : Touch b c S) (hS : ∀ i, S i → i < B) : Low a c B := Touch.trans h (k.mono hS)
theorem Keeps.touched {a w w' : World} {B U : Nat} (h : Keeps a w) (k : Touch w w' (fun i => B ≤ i ∧ i < U)) (hB : a.heap.size ≤ B) : Keeps a w' := h.touch k (fun i hi => by omega)
theorem cell_touched {w w' : World} {B U : Nat} {b o : Nat} {v : Value} (h : w.cell? ⟨b, o, none⟩ = some v) (k : Touch w w' (fun i => B ≤ i ∧ i < U)) (hb : b < B ∨ U ≤ b) : w'.cell? ⟨b, o, none⟩ = some v := by
  have hlt : b < w.heap.size := World.block_lt_of_cell? _ _ h
  rw [(k.cell hlt (fun hh => by omega)).1]; exact h
theorem touch_pre {w w1 w2 : World} {S : Nat → Prop} (h : Keeps w w1) (k : Touch w1 w2 S) : Touch w w2 S := (Touch.of_keeps h S).trans k
end Go.Proofs.YtponaoefpicfpaaGreatDoor
/- Walks: the laws' own measures, copies, comparisons and marks of number lists, posets, frames and models. -/
namespace Go.Proofs.YtponaoefpicfpaaGreatDoor
open Go.RowKit

theorem Ints.shape {w : World} {v : Value} {a : List Int} (h : Ints w v a) : ∃ p n c, v = .slice p n c := by obtain ⟨p, c, e, _⟩ := h; exact ⟨p, _, c, e⟩
theorem OwnI.shape0 {w : World} {B : Nat} {v : Value} {a : List Int} (h : OwnI w B v a) : ∃ p n c, v = .slice p n c := by obtain ⟨p, c, e, _⟩ := At.of_own h; exact ⟨p, _, c, e⟩
theorem OwnI.touch {w w' : World} {S : Nat → Prop} {B : Nat} {v : Value} {a : List Int} (h : OwnI w B v a) (k : Touch w w' S) (hS : ∀ i, v.ownBlock = some i → ¬ S i) : OwnI w' B v a := own_touch h k hS
/-- two rows that lie apart -/
def Sep (va vb : Value) : Prop := ∀ k, va.ownBlock = some k → vb.ownBlock ≠ some k
theorem Sep.of {w1 w2 : World} {B1 B2 : Nat} {va vb : Value} {a b : List Int} (h1 : OwnI w1 B1 va a) (h2 : OwnI w2 B2 vb b) (h : w1.heap.size ≤ B2) : Sep va vb := fun k e1 e2 => by
  have := h1.len k e1; have := h2.len k e2; omega
/-- the row of a slice alone is touched -/
def TouchR (w w' : World) (v : Value) : Prop := Touch w w' (fun i => some i = v.ownBlock)
--
theorem szInt64S_any (p : Option Addr) (n cap : Nat) (left : Int) (w : World) (hn : n ≤ maxLen) (h0 : 0 ≤ left) (h1 : left ≤ 1048576) :
    Calls Tryz.prog 40 #[.slice p n cap, .int .i64 left] w fun e w' => e = .returned (.int .i64 (if left < n then -1 else left - n)) ∧ w = w' := by
  unfold maxLen at hn
  by_cases h : left < n
  all_goals
    go_enter Tryz.func40, Tryz.ntmps40
    go_wp2
    go_ret
    exact ⟨ret_int (by first | rfl | omega), rfl⟩
--
set_option maxRecDepth 20000 in
set_option maxHeartbeats 1000000 in
theorem toInt64S_any (a : List Int) (v : Value) (w : World) (hv : Ints w v a) : Calls Tryz.prog 45 #[v] w (RetI w a) := by
  have hv0 := hv
  obtain ⟨p, cap, rfl, hle, hmx, _, hlen⟩ := hv
  unfold maxLen at hmx
  obtain ⟨w1, hmk, hown, k1⟩ := run_makeI w a.length (by omega)
  have Hown := hid hown; clear hown
  go_enter Tryz.func45, Tryz.ntmps45
  go_wp2
  clear hmk
  have hown := Hown.out
  go_loopw [4] (fun i' wr => ∃ (k : Nat) (xs : List Int), k ≤ a.length ∧ i' = .int .i64 k ∧ xs.length = a.length ∧ xs.take k = a.take k ∧ OwnI wr w.heap.size (.slice (some ⟨w.heap.size, 0, none⟩) a.length a.length) xs ∧ Keeps w wr) (fun i _ => a.length - (intOf i).toNat)
  case atStart => exact ⟨0, _, by omega, rfl, by simp, by simp, hown, k1⟩
  case round =>
    obtain ⟨k, xs, hk, rfl, hxl, htk, hownk, kw⟩ := hrel
    have HX := hid hxl; clear hxl
    have HT := hid htk; clear htk
    clear Hown hown
    by_cases hlt : k < a.length
    · have hltx : k < xs.length := by have := HX.out; omega
      obtain ⟨_, _, e1, _, _, hata, _⟩ := hv0.keeps kw
      cases e1
      obtain ⟨b1, o1, rfl, h1⟩ := hata.int k hlt
      clear hata hv0
      have hlt' : (k : Int) < a.length := by omega
      obtain ⟨c1, c3⟩ := hownk.cell k hltx
      have h3 := (hownk.store k hltx a[k]).1
      have H3 := hid h3; clear h3
      have HO := hid hownk; clear hownk
      go_wp2
      go_roundw
      case rel =>
        refine ⟨k + 1, _, by omega, by go_num, ?_, ?_, H3.out, ?_⟩
        · rw [List.length_set]; exact HX.out
        · rw [take_set _ _ _ hltx, List.take_succ_eq_append_getElem hlt, HT.out]
        · exact kw.setCell (Nat.le_refl _) _
      case measure => simp [intOf]; omega
    · have hlt' : ¬ (k : Int) < a.length := by omega
      go_wp2
      go_ret
      have hx : xs = a := by
        have h1 := HX.out; have h2 := HT.out
        rw [List.take_of_length_le (by omega), List.take_of_length_le (by omega)] at h2
        exact h2
      subst hx
      exact ⟨_, rfl, hownk, kw⟩
--
theorem szPoset_any (n : Int) (p : Option Addr) (m cap : Nat) (left : Int) (w : World) (hn : m ≤ maxLen) (h0 : 0 ≤ left) (h1 : left ≤ 1048576) :
    Calls Tryz.prog 10 #[.agg #[.int .i64 n, .slice p m cap], .int .i64 left] w fun e w' => e = .returned (.int .i64 (if left < m then -1 else left - m)) ∧ Keeps w w' := by
  have k1 := (Keeps.refl w).alloc (.cells #[.int .i64 n, .slice p m cap] 27)
  have HS := hid (fun w2 => szInt64S_any p m cap left w2 hn h0 h1)
  unfold maxLen at hn
  by_cases h : left < m
  · rw [if_pos h] at *
    go_enter Tryz.func10, Tryz.ntmps10
    go_wp2_with fail
    refine (HS.out _).mono ?_; rintro e w2 ⟨rfl, rfl⟩
    go_wp2_with fail
    go_ret
    exact ⟨rfl, k1⟩
  · rw [if_neg h] at *
    go_enter Tryz.func10, Tryz.ntmps10
    go_wp2_with fail
    refine (HS.out _).mono ?_; rintro e w2 ⟨rfl, rfl⟩
    go_wp2_with fail
    go_ret
    exact ⟨rfl, k1⟩
--
set_option maxRecDepth 20000 in
theorem toPoset_any (n : Int) (a : List Int) (v : Value) (w : World) (hv : Ints w v a) :
    Calls Tryz.prog 12 #[.agg #[.int .i64 n, v]] w fun e w' => ∃ v', e = .returned (.agg #[.int .i64 n, v']) ∧ OwnI w' w.heap.size v' a ∧ Keeps w w' := by
  have hv0 := hv
  have hl : a.length ≤ 2147483648 := by obtain ⟨_, _, _, _, _, _, h⟩ := hv; exact h
  obtain ⟨p, m, c, rfl⟩ := hv.shape
  have kS := (((Keeps.refl w).alloc (.cells #[.int .i64 n, .slice p m c] 27)).alloc (.cells #[.int .i64 0, .slice none 0 0] 32)).alloc (.cells #[.int .i64 n, .slice none 0 0] 32)
  have HT := hid (toInt64S_any a _ _ (hv0.keeps kS))
  clear hv hv0
  go_enter Tryz.func12, Tryz.ntmps12
  go_wp2_with fail
  refine HT.out.mono ?_; rintro e w2 ⟨v2, rfl, hv2, k2⟩
  obtain ⟨p2, m2, c2, rfl⟩ := hv2.shape0
  obtain ⟨hc2, hf2⟩ := k2.both
  have hs2 := k2.size
  simp at hs2
  have g2 : w.heap.size + 1 + 1 < w2.heap.size := by omega
  have g1 : w.heap.size + 1 < w2.heap.size := by omega
  go_wp2_with fail
  refine bodyPost_ret (v := .agg #[.int .i64 n, .slice p2 m2 c2]) (by simp [results, Tryz.results12, go_sem, hc2]) rfl ?_
  exact ⟨_, rfl, (((hv2.setBelow (by simp) _).setBelow (by simp) _).setBelow (by simp) _).mono (by simp; omega), (((kS.trans k2).setCell (by simp; omega) _).setCell (by simp) _).setCell (by simp) _⟩
--
theorem eqPoset_same (n : Int) (a : List Int) (va vb : Value) (w : World) (hva : Ints w va a) (hvb : Ints w vb a) :
    Calls Tryz.prog 15 #[.agg #[.int .i64 n, va], .agg #[.int .i64 n, vb]] w fun e w' => e = .returned (.bool true) ∧ Keeps w w' := by
  obtain ⟨pa, na, ca, rfl⟩ := hva.shape
  obtain ⟨pb, nb, cb, rfl⟩ := hvb.shape
  have k1 := ((Keeps.refl w).alloc (.cells #[.int .i64 n, .slice pa na ca] 32)).alloc (.cells #[.int .i64 n, .slice pb nb cb] 32)
  have HE := hid (eqInt64S_any a a _ _ _ (hva.keeps k1) (hvb.keeps k1))
  rw [decide_eq_true rfl] at HE
  have hl' : (n != n) = false := by simp
  clear hva hvb
  go_enter Tryz.func15, Tryz.ntmps15
  go_wp2_with fail
  refine HE.out.mono ?_; rintro e w2 ⟨rfl, k2⟩
  go_wp2_with fail
  go_ret
  exact ⟨rfl, k1.trans k2⟩
theorem OwnI.low {w w' : World} {B : Nat} {v : Value} {x : List Int} (h : OwnI w B v x) (k : Low w w' B) : OwnI w' B v x := h.touch k (fun i hi => by have := (h.len i hi).1; omega)
theorem OwnI.lowOf {w0 w : World} {B : Nat} {v : Value} {x : List Int} (h : OwnI w0 B v x) (k : Keeps w0 w) : Low w0 w B := by have _ := h; exact Low.of k B
theorem cell_own {w w' : World} {b o : Nat} {v u : Value} (h : w.cell? ⟨b, o, none⟩ = some v) (k : Touch w w' (fun i => some i = u.ownBlock)) (hb : some b ≠ u.ownBlock) : w'.cell? ⟨b, o, none⟩ = some v := by
  rw [(k.cell (World.block_lt_of_cell? _ _ h) (fun e => hb e)).1]; exact h
--
theorem markI_o (a : List Int) (v : Value) (k0 : Int) (w : World) (B : Nat) (hv : OwnI w B v a) (hl : a.length ≤ 2147483648) (hk0 : 0 ≤ k0) (hk1 : k0 ≤ 4294967296) :
    Calls Tryz.prog 51 #[v, .int .i64 k0] w fun e w' => e = .returned (.int .i64 (k0 + a.length)) ∧ OwnI w' B v (marksI a.length k0) ∧ Touch w w' (fun i => some i = v.ownBlock) := by
  refine (markInt64S_any a v k0 w B hv hl hk0 hk1).mono ?_
  rintro e w' ⟨rfl, ho, g⟩
  exact ⟨rfl, ho, Touch.grown g⟩
theorem markI_t (a : List Int) (v : Value) (k0 : Int) (w0 w : World) (B : Nat) (hv : OwnI w0 B v a) (k : Low w0 w B) (hl : a.length ≤ 2147483648) (hk0 : 0 ≤ k0) (hk1 : k0 ≤ 4294967296) :
    Calls Tryz.prog 51 #[v, .int .i64 k0] w fun e w' => e = .returned (.int .i64 (k0 + a.length)) ∧ OwnI w' B v (marksI a.length k0) ∧ Touch w w' (fun i => B ≤ i ∧ i < w0.heap.size) := by
  have hlen := hv.len
  refine (markInt64S_any a v k0 w B (hv.low k) hl hk0 hk1).mono ?_
  rintro e w' ⟨rfl, ho, g⟩
  exact ⟨rfl, ho, (Touch.grown g).mono (fun i hi => hlen i hi.symm)⟩
--
theorem markP_t (n : Int) (a : List Int) (v : Value) (k0 : Int) (w0 w : World) (B : Nat) (hv : OwnI w0 B v a) (k : Low w0 w B) (hl : a.length ≤ 2147483648) (hk0 : 0 ≤ k0) (hk1 : k0 ≤ 4294967296) :
    Calls Tryz.prog 16 #[.agg #[.int .i64 n, v], .int .i64 k0] w fun e w' => e = .returned (.int .i64 (k0 + a.length)) ∧ OwnI w' B v (marksI a.length k0) ∧ Touch w w' (fun i => B ≤ i ∧ i < w0.heap.size) := by
  obtain ⟨p, m, c, rfl⟩ := hv.shape0
  have k1 := (Keeps.refl w).alloc (.cells #[.int .i64 n, .slice p m c] 32)
  have HM := hid (markI_t a _ k0 w0 _ B hv (k.keeps k1) hl hk0 hk1)
  clear hv
  go_enter Tryz.func16, Tryz.ntmps16
  go_wp2_with fail
  refine HM.out.mono ?_
  rintro e w2 ⟨rfl, hv2, t2⟩
  go_wp2_with fail
  go_ret
  exact ⟨rfl, hv2, touch_pre k1 t2⟩
--
theorem markP_o (n : Int) (a : List Int) (v : Value) (k0 : Int) (w : World) (B : Nat) (hv : OwnI w B v a) (hl : a.length ≤ 2147483648) (hk0 : 0 ≤ k0) (hk1 : k0 ≤ 4294967296) :
    Calls Tryz.prog 16 #[.agg #[.int .i64 n, v], .int .i64 k0] w fun e w' => e = .returned (.int .i64 (k0 + a.length)) ∧ OwnI w' B v (marksI a.length k0) ∧ Touch w w' (fun i => some i = v.ownBlock) := by
  obtain ⟨p, m, c, rfl⟩ := hv.shape0
  have k1 := (Keeps.refl w).alloc (.cells #[.int .i64 n, .slice p m c] 32)
  have HM := hid (markI_o a _ k0 _ B (hv.keeps k1) hl hk0 hk1)
  clear hv
  go_enter Tryz.func16, Tryz.ntmps16
  go_wp2_with fail
  refine HM.out.mono ?_
  rintro e w2 ⟨rfl, hv2, t2⟩
  go_wp2_with fail
  go_ret
  exact ⟨rfl, hv2, touch_pre k1 t2⟩
--
theorem heldPoset_any' (m : Int) (n : Nat) (v : Value) (k0 : Int) (w : World) (hv : Ints w v (marksI n k0)) (hk0 : 0 ≤ k0) (hk1 : k0 ≤ 4294967296) (hn : n ≤ 4294967296) :
    Calls Tryz.prog 27 #[.agg #[.int .i64 m, v], .int .i64 k0] w fun e w' => e = .returned (.int .i64 (k0 + n)) ∧ Keeps w w' := by
  obtain ⟨p, nn, c, rfl⟩ := hv.shape
  have k1 := (Keeps.refl w).alloc (.cells #[.int .i64 m, .slice p nn c] 32)
  have HM := hid (heldInt64S_any n _ k0 _ (hv.keeps k1) hk0 hk1)
  go_enter Tryz.func27, Tryz.ntmps27
  go_wp2_with fail
  refine HM.out.mono ?_
  rintro e w' ⟨rfl, rfl⟩
  go_wp2_with fail
  go_ret
  exact ⟨rfl, k1⟩
end Go.Proofs.YtponaoefpicfpaaGreatDoor
/- Members counted, masks below a mask: walks. -/
namespace Go.Proofs.YtponaoefpicfpaaGreatDoor
open Go.RowKit
/-- how many members are below i -/
def cntL (m : Nat) : Nat → Nat
  | 0 => 0
  | i + 1 => cntL m i + m / 2 ^ i % 2
theorem cntL_table : ∀ m : Fin 256, cntL m 8 = cntB m := by decide +kernel
theorem cntL_le (m : Nat) : ∀ i, cntL m i ≤ i
  | 0 => Nat.le_refl _
  | i + 1 => by have := cntL_le m i; unfold cntL; omega
theorem cntL_end {m i : Nat} (h : m / 2 ^ i = 0) : ∀ d, cntL m (i + d) = cntL m i
  | 0 => rfl
  | d + 1 => by
    have h2 : m / 2 ^ (i + d) = 0 := by rw [Nat.pow_add, ← Nat.div_div_eq_div_mul, h]; simp
    show cntL m (i + d) + m / 2 ^ (i + d) % 2 = cntL m i
    rw [cntL_end h d, h2]
    omega
theorem half_wrap : ∀ q : Fin 257, wrap64 (((q : Nat) : Int) / 2) = (((q : Nat) / 2 : Nat) : Int) := by decide +kernel
theorem all_false_at' {α : Type} {l : List α} {P : α → Bool} {k : Nat} (hk : k < l.length) (h : P l[k] = false) : l.all P = false := by
  rw [Bool.eq_false_iff]
  intro h2
  have := List.all_eq_true.1 h2 l[k] (List.getElem_mem hk)
  rw [h] at this; cases this
--
set_option maxRecDepth 20000 in
set_option maxHeartbeats 1000000 in
theorem l01Bits_any (m : Nat) (w : World) (hm : m < 256) : Calls Tryz.prog 112 #[.int .i64 m] w fun e w' => e = .returned (.int .i64 (cntB m)) ∧ w = w' := by
  have hE : cntL m 8 = cntB m := cntL_table ⟨m, hm⟩
  have HE := hid hE; clear hE
  go_enter Tryz.func112, Tryz.ntmps112
  go_wp2
  go_loop [0, 3] (fun x o => ∃ i : Nat, i ≤ 8 ∧ x = .int .i64 ((m / 2 ^ i : Nat) : Int) ∧ o = .int .i64 (cntL m i)) (fun x _ => (intOf x).toNat)
  case atStart => exact ⟨0, by omega, by simp, rfl⟩
  case round =>
    obtain ⟨i, hi, rfl, rfl⟩ := hrel
    have hs : cntL m (i + 1) = cntL m i + m / 2 ^ i % 2 := rfl
    have hle := cntL_le m i
    have hq2 : m / 2 ^ (i + 1) = m / 2 ^ i / 2 := by rw [Nat.pow_succ, Nat.div_div_eq_div_mul]
    have hqm : m / 2 ^ i ≤ m := Nat.div_le_self _ _
    have h8 : 0 < m / 2 ^ i → i < 8 := fun h => by
      rcases Nat.lt_or_ge i 8 with h' | h'
      · exact h'
      · obtain rfl : i = 8 := by omega
        omega
    have hend : m / 2 ^ i = 0 → cntL m i = cntB m := fun h => by
      rw [← HE.out, ← cntL_end h (8 - i), show i + (8 - i) = 8 by omega]
    generalize m / 2 ^ i = q at *
    have HQ2 := hid hq2; clear hq2
    have HS := hid hs; clear hs
    have HEND := hid hend; clear hend
    generalize hc : cntL m i = cc at *
    have HC := hid hc; clear hc
    by_cases hp : 0 < q
    · have hi8 := h8 hp
      have hwq := half_wrap ⟨q, by omega⟩
      simp only at hwq
      clear h8
      go_wp2
      go_round
      case rel => exact ⟨i + 1, by omega, by rw [HQ2.out, Int.natCast_ediv]; rfl, by rw [HS.out]; first | (push_cast; rfl) | go_num⟩
      case measure => first | (simp [intOf]; omega) | (simp [intOf, hwq]; omega)
    · obtain rfl : q = 0 := by omega
      have he := HEND.out rfl
      clear h8
      rw [he]
      go_wp2
      go_ret
      exact ⟨rfl, rfl⟩
--
set_option maxRecDepth 20000 in
set_option maxHeartbeats 1000000 in
theorem onesCount_any (m : Nat) (w : World) (hm : m < 256) : Calls Tryz.prog 238 #[.int .u64 m] w fun e w' => e = .returned (.int .i64 (cntB m)) ∧ w = w' := by
  go_enter Tryz.func238, Tryz.ntmps238
  go_wp2
  go_ret
  refine ⟨ret_int ?_, rfl⟩
  clear w
  revert m
  decide +kernel
--
set_option maxRecDepth 20000 in
theorem countMembers_any (m : Nat) (w : World) (hm : m < 256) : Calls Tryz.prog 159 #[.int .i64 m] w fun e w' => e = .returned (.int .i64 (cntB m)) ∧ w = w' := by
  have HO := hid (onesCount_any m w hm)
  have hw : IntKind.u64.wrap (m : Int) = m := by
    have : ∀ k : Fin 256, IntKind.u64.wrap ((k : Nat) : Int) = ((k : Nat) : Int) := by decide +kernel
    exact this ⟨m, hm⟩
  go_enter Tryz.func159, Tryz.ntmps159
  go_wp2_with fail
  refine HO.out.mono ?_; rintro e w' ⟨rfl, rfl⟩
  go_wp2_with fail
  go_ret
  exact ⟨rfl, rfl⟩
--
set_option maxRecDepth 20000 in
set_option maxHeartbeats 1000000 in
theorem subMasksB_any (m : Nat) (hm : m < 256) (w : World) : Calls Tryz.prog 236 #[.int .i64 m] w (RetI w (zs (subB m (m + 1)))) := by
  have HN := hid (fun s (hs : s < 256) (h : inB s m = true) => nxt_of hm hs h)
  have HG := hid (fun s (hs : s < 256) (h : inB s m = true) (hne : s ≠ m) => gap_of hm hs h hne)
  have HX := hid (fun s (hs : s < 256) (h : inB s m = true) (hne : s ≠ m) => subB_next hm hs h hne)
  have HZ := hid (inB_zero m)
  have k0 := (Keeps.refl w).alloc (.cells #[.int .i64 0] 2)
  have hO : OwnI (w.alloc (.cells #[.int .i64 0] 2)) w.heap.size (.slice (some ⟨w.heap.size, 0, none⟩) 1 1) [0] := World.ownsRow_lit w #[.int .i64 0] 1 (Nat.le_refl _) (by simp [maxLen]) (by simp)
  have h1 : zs (subB m 1) = [0] := by simp [subB, zs, inB_zero]
  rw [← h1] at hO
  have HO := hid hO
  clear h1 hO
  go_enter Tryz.func236, Tryz.ntmps236
  go_wp2
  go_loopw [3, 4] (fun r i' wr => ∃ s : Nat, s < 256 ∧ inB s m = true ∧ i' = .int .i64 s ∧ OwnI wr w.heap.size r (zs (subB m (s + 1))) ∧ Keeps w wr) (fun _ i' _ => 256 - (intOf i').toNat)
  case atStart => exact ⟨0, by omega, HZ.out, rfl, HO.out, k0⟩
  case round =>
    obtain ⟨s, hs, hin, rfl, hown, kw⟩ := hrel
    have HI := hid hin; clear hin
    clear HO k0
    have hlen : (zs (subB m (s + 1))).length ≤ 256 := by rw [zs_length]; have := subB_len m (s + 1); omega
    by_cases hne : s = m
    · subst hne
      have hd : ((s : Int) != (s : Int)) = false := by simp
      go_wp2
      go_ret
      exact ⟨_, rfl, hown, kw⟩
    · have hd : ((s : Int) != (m : Int)) = true := by simp; omega
      have hnx := HN.out s hs HI.out
      obtain ⟨g1, g2, g3, _⟩ := HG.out s hs HI.out hne
      have hx := HX.out s hs HI.out hne
      have HXs := hid hx; clear hx
      have HI2 := hid g3; clear g3
      generalize nxtB m s = t at *
      have hsz := kw.size
      clear HN HG HX
      generalize hL : zs (subB m (s + 1)) = L at *
      have HL := hid hL; clear hL
      go_wp2_with (at_builtin; refine appI rfl _ _ rfl w.heap.size _ L rfl (hown.keeps ((Keeps.refl wr).alloc _)) _ [(t : Int)] rfl (Ints.lit1 wr _) (by simp; omega) (by simp; omega) ?_; intro v3 w3 hv3 hg3 hr3; have k3 := (kw.alloc (.cells #[.int .i64 t] 2)).grown hg3 (fun q hq => hr3 q hq))
      go_roundw
      case rel => exact ⟨t, g2, HI2.out, rfl, by rw [HXs.out, zs_snoc, HL.out]; exact hv3, k3⟩
      case measure => simp [intOf]; omega
--
set_option maxRecDepth 20000 in
set_option maxHeartbeats 1000000 in
theorem isAntichain_any (b : List Nat) (n : Int) (s : Nat) (v : Value) (w : World) (hv : Ints w v (zs b)) (hb : b.length ≤ 8) (hbm : Bnd b.length b) (hs : s < 2 ^ b.length) :
    Calls Tryz.prog 237 #[.agg #[.int .i64 n, v], .int .i64 s] w fun e w' => e = .returned (.bool (antiC b s)) ∧ Keeps w w' := by
  have h256 := two8 hb
  have kA := (Keeps.refl w).alloc (.cells #[.int .i64 n, v] 32)
  obtain ⟨c0, c1⟩ := BoxF.made w n v 32
  have HM := hid (fun wz => membersB_any s wz (by omega))
  have hmem : ∀ x ∈ memB s, x < b.length := fun x hx => memB_lt hs hx
  have hml : (memB s).length ≤ 8 := lowB_len s 8
  have hdef : antiC b s = (memB s).all (fun x => b.getD x 0 &&& s == 2 ^ x) := rfl
  have HB : Hid (∀ i, b.getD i 0 < 256) := hid (fun i => Nat.lt_of_lt_of_le (hbm i) h256)
  have hv0 := hv
  obtain ⟨p, cap, rfl, hle, hmx, _, _⟩ := hv
  unfold maxLen at hmx
  rw [zs_length b] at *
  have HMEM := hid hmem
  have HDEF := hid hdef
  clear hbm hmem hdef
  generalize memB s = l at *
  obtain ⟨G, hG⟩ : ∃ G : Nat → Nat, ∀ x, G x = b.getD x 0 := ⟨fun x => b.getD x 0, fun _ => rfl⟩
  obtain ⟨Q, hQ⟩ : ∃ Q : Nat → Bool, ∀ x, Q x = (b.getD x 0 &&& s == 2 ^ x) := ⟨fun x => (b.getD x 0 &&& s == 2 ^ x), fun _ => rfl⟩
  have HALL : Hid (antiC b s = l.all Q) := hid (by rw [HDEF.out]; congr 1; funext x; rw [hQ])
  have HQ := hid hQ; clear hQ
  have HRD := hid (fun x (hx : x < b.length) wz (k : Keeps w wz) => (hv0.keeps k).zs_cell x hx)
  clear HDEF hG
  go_enter Tryz.func237, Tryz.ntmps237
  go_wp2_with fail
  refine (HM.out _).mono ?_; rintro e w2 ⟨v2, rfl, hv2, k2⟩
  have z1 := k2.cell c1
  have hv2i := hv2.ints (by rw [zs_length]; omega)
  obtain ⟨p2, c2, rfl, _, hm2, _, _⟩ := hv2.ints (by rw [zs_length]; omega)
  unfold maxLen at hm2
  rw [zs_length] at *
  have kk := kA.trans k2
  go_wp2
  go_loopw [4, 10] (fun r i' wr => ∃ i : Nat, i ≤ l.length ∧ i' = .int .i64 i ∧ r = .bool false ∧ (∀ j (h : j < l.length), j < i → Q l[j] = true) ∧ Keeps w2 wr) (fun _ i' _ => l.length - (intOf i').toNat)
  case atStart => exact ⟨0, by omega, rfl, rfl, fun j _ h => by omega, Keeps.refl _⟩
  case round =>
    obtain ⟨i, hi, rfl, rfl, hall, kw⟩ := hrel
    have HA := hid hall; clear hall
    by_cases hlt : i < l.length
    · obtain ⟨b1, o1, rfl, h1⟩ := (hv2i.keeps kw).zs_cell i hlt
      rw [getD_get hlt] at h1
      have hx := HMEM.out l[i] (List.getElem_mem hlt)
      obtain ⟨b2, o2, rfl, h2⟩ := HRD.out l[i] hx wr (kk.trans kw)
      have y1 := kw.cell z1
      have hlt' : (i : Int) < l.length := by omega
      have hx' : ((l[i] : Nat) : Int) < b.length := by omega
      have hg := HB.out l[i]
      have hand := andN (b.getD l[i] 0) s (by omega) (by omega)
      have e1 := (pow63 l[i] (by omega)).1
      have e2 : ((2 ^ l[i] : Nat) : Int) = 2 ^ l[i] := by push_cast; rfl
      have hq := HQ.out l[i]
      have HL : Hid (∀ r, Q l[i] = r → Q l[i] = r) := hid fun _ h => h
      cases hc : Q l[i]
      · have hne : (bits .and .i64 ((b.getD l[i] 0 : Nat) : Int) (s : Int) != 2 ^ l[i]) = true := by
          rw [hc] at hq
          rw [hand, ← e2]
          simp only [bne_iff_ne, ne_eq]
          intro e
          have : b.getD l[i] 0 &&& s = 2 ^ l[i] := Int.ofNat.inj e
          rw [this] at hq; simp at hq
        have HC := hid (show l.all Q = false from all_false_at' hlt hc)
        clear hc hq hand e2 HL
        generalize b.getD l[i] 0 = g at *
        generalize l[i] = x at *
        go_wp2_with fail
        go_quiet (fail)
        go_wp2_with fail
        go_ret
        exact ⟨ret_bool (by rw [HALL.out, HC.out]), (kk.trans kw).drewN _⟩
      · have hne : (bits .and .i64 ((b.getD l[i] 0 : Nat) : Int) (s : Int) != 2 ^ l[i]) = false := by
          rw [hc] at hq
          rw [hand, ← e2]
          have : b.getD l[i] 0 &&& s = 2 ^ l[i] := by simpa using hq.symm
          rw [this]; simp
        have HN : Hid (∀ j (h : j < l.length), j < i + 1 → Q l[j] = true) := hid (fun j h hj => by
          by_cases e : j = i
          · subst e; exact hc
          · exact HA.out j h (by omega))
        clear hc hq hand e2 HL
        generalize b.getD l[i] 0 = g at *
        generalize l[i] = x at *
        go_wp2_with fail
        go_quiet (fail)
        go_wp2_with fail
        go_roundw
        case rel => exact ⟨i + 1, by omega, by go_num, rfl, HN.out, kw.drewN _⟩
        case measure => simp [intOf]; omega
    · have hlt' : ¬ (i : Int) < l.length := by omega
      have HC : Hid (l.all Q = true) := hid (by
        rw [List.all_eq_true]
        intro x hx
        obtain ⟨j, hj, rfl⟩ := List.getElem_of_mem hx
        exact HA.out j hj (by omega))
      go_wp2_with fail
      go_ret
      exact ⟨ret_bool (by rw [HALL.out, HC.out]), kk.trans kw⟩
end Go.Proofs.YtponaoefpicfpaaGreatDoor
