/- Walks: the laws' own measures, copies, comparisons and marks of number lists, posets, frames and models. -/
import Derived.Test.YtpbjeoigpbnekaaDoorGTU
import Derived.Deep.RegionHeld3
namespace Go.Proofs.YtpbjeoigpbnekaaDoor
open Go.RowKit

theorem Ints.shape {w : World} {v : Value} {a : List Int} (h : Ints w v a) : ∃ p n c, v = .slice p n c := by obtain ⟨p, c, e, _⟩ := h; exact ⟨p, _, c, e⟩
theorem OwnI.shape0 {w : World} {B : Nat} {v : Value} {a : List Int} (h : OwnI w B v a) : ∃ p n c, v = .slice p n c := by obtain ⟨p, c, e, _⟩ := At.of_own h; exact ⟨p, _, c, e⟩
theorem OwnI.touch {w w' : World} {S : Nat → Prop} {B : Nat} {v : Value} {a : List Int} (h : OwnI w B v a) (k : Touch w w' S) (hS : ∀ i, v.ownBlock = some i → ¬ S i) : OwnI w' B v a := own_touch h k hS
/-- two rows that lie apart -/
def Sep (va vb : Value) : Prop := ∀ k, va.ownBlock = some k → vb.ownBlock ≠ some k
theorem Sep.of {w1 w2 : World} {B1 B2 : Nat} {va vb : Value} {a b : List Int} (h1 : OwnI w1 B1 va a) (h2 : OwnI w2 B2 vb b) (h : w1.heap.size ≤ B2) : Sep va vb := fun k e1 e2 => by
  have := h1.len k e1; have := h2.len k e2; omega
/-- the row of a slice alone is touched -/
def TouchR (w w' : World) (v : Value) : Prop := Touch w w' (fun i => some i = v.ownBlock)
--
theorem szInt64S_any (p : Option Addr) (n cap : Nat) (left : Int) (w : World) (hn : n ≤ maxLen) (h0 : 0 ≤ left) (h1 : left ≤ 1048576) :
    Calls Tryd.prog 16 #[.slice p n cap, .int .i64 left] w fun e w' => e = .returned (.int .i64 (if left < n then -1 else left - n)) ∧ w = w' := by
  unfold maxLen at hn
  by_cases h : left < n
  all_goals
    go_enter Tryd.func16, Tryd.ntmps16
    go_wp2
    go_ret
    exact ⟨ret_int (by first | rfl | omega), rfl⟩
--
set_option maxRecDepth 20000 in
set_option maxHeartbeats 1000000 in
theorem toInt64S_any (a : List Int) (v : Value) (w : World) (hv : Ints w v a) : Calls Tryd.prog 19 #[v] w (RetI w a) := by
  have hv0 := hv
  obtain ⟨p, cap, rfl, hle, hmx, _, hlen⟩ := hv
  unfold maxLen at hmx
  obtain ⟨w1, hmk, hown, k1⟩ := run_makeI w a.length (by omega)
  have Hown := hid hown; clear hown
  go_enter Tryd.func19, Tryd.ntmps19
  go_wp2
  clear hmk
  have hown := Hown.out
  go_loopw [4] (fun i' wr => ∃ (k : Nat) (xs : List Int), k ≤ a.length ∧ i' = .int .i64 k ∧ xs.length = a.length ∧ xs.take k = a.take k ∧ OwnI wr w.heap.size (.slice (some ⟨w.heap.size, 0, none⟩) a.length a.length) xs ∧ Keeps w wr) (fun i _ => a.length - (intOf i).toNat)
  case atStart => exact ⟨0, _, by omega, rfl, by simp, by simp, hown, k1⟩
  case round =>
    obtain ⟨k, xs, hk, rfl, hxl, htk, hownk, kw⟩ := hrel
    have HX := hid hxl; clear hxl
    have HT := hid htk; clear htk
    clear Hown hown
    by_cases hlt : k < a.length
    · have hltx : k < xs.length := by have := HX.out; omega
      obtain ⟨_, _, e1, _, _, hata, _⟩ := hv0.keeps kw
      cases e1
      obtain ⟨b1, o1, rfl, h1⟩ := hata.int k hlt
      clear hata hv0
      have hlt' : (k : Int) < a.length := by omega
      obtain ⟨c1, c3⟩ := hownk.cell k hltx
      have h3 := (hownk.store k hltx a[k]).1
      have H3 := hid h3; clear h3
      have HO := hid hownk; clear hownk
      go_wp2
      go_roundw
      case rel =>
        refine ⟨k + 1, _, by omega, by go_num, ?_, ?_, H3.out, ?_⟩
        · rw [List.length_set]; exact HX.out
        · rw [take_set _ _ _ hltx, List.take_succ_eq_append_getElem hlt, HT.out]
        · exact kw.setCell (Nat.le_refl _) _
      case measure => simp [intOf]; omega
    · have hlt' : ¬ (k : Int) < a.length := by omega
      go_wp2
      go_ret
      have hx : xs = a := by
        have h1 := HX.out; have h2 := HT.out
        rw [List.take_of_length_le (by omega), List.take_of_length_le (by omega)] at h2
        exact h2
      subst hx
      exact ⟨_, rfl, hownk, kw⟩
--
theorem szPoset_any (n : Int) (p : Option Addr) (m cap : Nat) (left : Int) (w : World) (hn : m ≤ maxLen) (h0 : 0 ≤ left) (h1 : left ≤ 1048576) :
    Calls Tryd.prog 5 #[.agg #[.int .i64 n, .slice p m cap], .int .i64 left] w fun e w' => e = .returned (.int .i64 (if left < m then -1 else left - m)) ∧ Keeps w w' := by
  have k1 := (Keeps.refl w).alloc (.cells #[.int .i64 n, .slice p m cap] 24)
  have HS := hid (fun w2 => szInt64S_any p m cap left w2 hn h0 h1)
  unfold maxLen at hn
  by_cases h : left < m
  · rw [if_pos h] at *
    go_enter Tryd.func5, Tryd.ntmps5
    go_wp2_with fail
    refine (HS.out _).mono ?_; rintro e w2 ⟨rfl, rfl⟩
    go_wp2_with fail
    go_ret
    exact ⟨rfl, k1⟩
  · rw [if_neg h] at *
    go_enter Tryd.func5, Tryd.ntmps5
    go_wp2_with fail
    refine (HS.out _).mono ?_; rintro e w2 ⟨rfl, rfl⟩
    go_wp2_with fail
    go_ret
    exact ⟨rfl, k1⟩
--
set_option maxRecDepth 20000 in
theorem toPoset_any (n : Int) (a : List Int) (v : Value) (w : World) (hv : Ints w v a) :
    Calls Tryd.prog 7 #[.agg #[.int .i64 n, v]] w fun e w' => ∃ v', e = .returned (.agg #[.int .i64 n, v']) ∧ OwnI w' w.heap.size v' a ∧ Keeps w w' := by
  have hv0 := hv
  have hl : a.length ≤ 2147483648 := by obtain ⟨_, _, _, _, _, _, h⟩ := hv; exact h
  obtain ⟨p, m, c, rfl⟩ := hv.shape
  have kS := (((Keeps.refl w).alloc (.cells #[.int .i64 n, .slice p m c] 24)).alloc (.cells #[.int .i64 0, .slice none 0 0] 28)).alloc (.cells #[.int .i64 n, .slice none 0 0] 28)
  have HT := hid (toInt64S_any a _ _ (hv0.keeps kS))
  clear hv hv0
  go_enter Tryd.func7, Tryd.ntmps7
  go_wp2_with fail
  refine HT.out.mono ?_; rintro e w2 ⟨v2, rfl, hv2, k2⟩
  obtain ⟨p2, m2, c2, rfl⟩ := hv2.shape0
  obtain ⟨hc2, hf2⟩ := k2.both
  have hs2 := k2.size
  simp at hs2
  have g2 : w.heap.size + 1 + 1 < w2.heap.size := by omega
  have g1 : w.heap.size + 1 < w2.heap.size := by omega
  go_wp2_with fail
  refine bodyPost_ret (v := .agg #[.int .i64 n, .slice p2 m2 c2]) (by simp [results, Tryd.results7, go_sem, hc2]) rfl ?_
  exact ⟨_, rfl, (((hv2.setBelow (by simp) _).setBelow (by simp) _).setBelow (by simp) _).mono (by simp; omega), (((kS.trans k2).setCell (by simp; omega) _).setCell (by simp) _).setCell (by simp) _⟩
--
theorem eqPoset_same (n : Int) (a : List Int) (va vb : Value) (w : World) (hva : Ints w va a) (hvb : Ints w vb a) :
    Calls Tryd.prog 9 #[.agg #[.int .i64 n, va], .agg #[.int .i64 n, vb]] w fun e w' => e = .returned (.bool true) ∧ Keeps w w' := by
  obtain ⟨pa, na, ca, rfl⟩ := hva.shape
  obtain ⟨pb, nb, cb, rfl⟩ := hvb.shape
  have k1 := ((Keeps.refl w).alloc (.cells #[.int .i64 n, .slice pa na ca] 28)).alloc (.cells #[.int .i64 n, .slice pb nb cb] 28)
  have HE := hid (eqInt64S_any a a _ _ _ (hva.keeps k1) (hvb.keeps k1))
  rw [decide_eq_true rfl] at HE
  have hl' : (n != n) = false := by simp
  clear hva hvb
  go_enter Tryd.func9, Tryd.ntmps9
  go_wp2_with fail
  refine HE.out.mono ?_; rintro e w2 ⟨rfl, k2⟩
  go_wp2_with fail
  go_ret
  exact ⟨rfl, k1.trans k2⟩
theorem OwnI.low {w w' : World} {B : Nat} {v : Value} {x : List Int} (h : OwnI w B v x) (k : Low w w' B) : OwnI w' B v x := h.touch k (fun i hi => by have := (h.len i hi).1; omega)
theorem OwnI.lowOf {w0 w : World} {B : Nat} {v : Value} {x : List Int} (h : OwnI w0 B v x) (k : Keeps w0 w) : Low w0 w B := by have _ := h; exact Low.of k B
theorem cell_own {w w' : World} {b o : Nat} {v u : Value} (h : w.cell? ⟨b, o, none⟩ = some v) (k : Touch w w' (fun i => some i = u.ownBlock)) (hb : some b ≠ u.ownBlock) : w'.cell? ⟨b, o, none⟩ = some v := by
  rw [(k.cell (World.block_lt_of_cell? _ _ h) (fun e => hb e)).1]; exact h
--
theorem markI_o (a : List Int) (v : Value) (k0 : Int) (w : World) (B : Nat) (hv : OwnI w B v a) (hl : a.length ≤ 2147483648) (hk0 : 0 ≤ k0) (hk1 : k0 ≤ 4294967296) :
    Calls Tryd.prog 27 #[v, .int .i64 k0] w fun e w' => e = .returned (.int .i64 (k0 + a.length)) ∧ OwnI w' B v (marksI a.length k0) ∧ Touch w w' (fun i => some i = v.ownBlock) := by
  refine (markInt64S_any a v k0 w B hv hl hk0 hk1).mono ?_
  rintro e w' ⟨rfl, ho, g⟩
  exact ⟨rfl, ho, Touch.grown g⟩
theorem markI_t (a : List Int) (v : Value) (k0 : Int) (w0 w : World) (B : Nat) (hv : OwnI w0 B v a) (k : Low w0 w B) (hl : a.length ≤ 2147483648) (hk0 : 0 ≤ k0) (hk1 : k0 ≤ 4294967296) :
    Calls Tryd.prog 27 #[v, .int .i64 k0] w fun e w' => e = .returned (.int .i64 (k0 + a.length)) ∧ OwnI w' B v (marksI a.length k0) ∧ Touch w w' (fun i => B ≤ i ∧ i < w0.heap.size) := by
  have hlen := hv.len
  refine (markInt64S_any a v k0 w B (hv.low k) hl hk0 hk1).mono ?_
  rintro e w' ⟨rfl, ho, g⟩
  exact ⟨rfl, ho, (Touch.grown g).mono (fun i hi => hlen i hi.symm)⟩
--
theorem markP_t (n : Int) (a : List Int) (v : Value) (k0 : Int) (w0 w : World) (B : Nat) (hv : OwnI w0 B v a) (k : Low w0 w B) (hl : a.length ≤ 2147483648) (hk0 : 0 ≤ k0) (hk1 : k0 ≤ 4294967296) :
    Calls Tryd.prog 13 #[.agg #[.int .i64 n, v], .int .i64 k0] w fun e w' => e = .returned (.int .i64 (k0 + a.length)) ∧ OwnI w' B v (marksI a.length k0) ∧ Touch w w' (fun i => B ≤ i ∧ i < w0.heap.size) := by
  obtain ⟨p, m, c, rfl⟩ := hv.shape0
  have k1 := (Keeps.refl w).alloc (.cells #[.int .i64 n, .slice p m c] 28)
  have HM := hid (markI_t a _ k0 w0 _ B hv (k.keeps k1) hl hk0 hk1)
  clear hv
  go_enter Tryd.func13, Tryd.ntmps13
  go_wp2_with fail
  refine HM.out.mono ?_
  rintro e w2 ⟨rfl, hv2, t2⟩
  go_wp2_with fail
  go_ret
  exact ⟨rfl, hv2, touch_pre k1 t2⟩
--
theorem markP_o (n : Int) (a : List Int) (v : Value) (k0 : Int) (w : World) (B : Nat) (hv : OwnI w B v a) (hl : a.length ≤ 2147483648) (hk0 : 0 ≤ k0) (hk1 : k0 ≤ 4294967296) :
    Calls Tryd.prog 13 #[.agg #[.int .i64 n, v], .int .i64 k0] w fun e w' => e = .returned (.int .i64 (k0 + a.length)) ∧ OwnI w' B v (marksI a.length k0) ∧ Touch w w' (fun i => some i = v.ownBlock) := by
  obtain ⟨p, m, c, rfl⟩ := hv.shape0
  have k1 := (Keeps.refl w).alloc (.cells #[.int .i64 n, .slice p m c] 28)
  have HM := hid (markI_o a _ k0 _ B (hv.keeps k1) hl hk0 hk1)
  clear hv
  go_enter Tryd.func13, Tryd.ntmps13
  go_wp2_with fail
  refine HM.out.mono ?_
  rintro e w2 ⟨rfl, hv2, t2⟩
  go_wp2_with fail
  go_ret
  exact ⟨rfl, hv2, touch_pre k1 t2⟩
end Go.Proofs.YtpbjeoigpbnekaaDoor
/- Walks: the laws' own measures, copies, comparisons and marks of models. -/
namespace Go.Proofs.YtpbjeoigpbnekaaDoor
open Go.RowKit
/-- a model's two owned rows, which lie apart -/
def OwnM (w : World) (B : Nat) (va vb : Value) (a b : List Int) : Prop := OwnI w B va a ∧ OwnI w B vb b ∧ Sep va vb
theorem OwnM.keeps {w w' : World} {B : Nat} {va vb : Value} {a b : List Int} (h : OwnM w B va vb a b) (k : Keeps w w') : OwnM w' B va vb a b := ⟨h.1.keeps k, h.2.1.keeps k, h.2.2⟩
theorem OwnM.mono {w : World} {B B' : Nat} {va vb : Value} {a b : List Int} (h : OwnM w B va vb a b) (k : B' ≤ B) : OwnM w B' va vb a b := ⟨h.1.mono k, h.2.1.mono k, h.2.2⟩
theorem OwnM.low {w w' : World} {B : Nat} {va vb : Value} {a b : List Int} (h : OwnM w B va vb a b) (k : Low w w' B) : OwnM w' B va vb a b := ⟨h.1.low k, h.2.1.low k, h.2.2⟩
theorem OwnM.lowOf {w0 w : World} {B : Nat} {va vb : Value} {a b : List Int} (h : OwnM w0 B va vb a b) (k : Keeps w0 w) : Low w0 w B := by have _ := h; exact Low.of k B
end Go.Proofs.YtpbjeoigpbnekaaDoor
/- The law of BoxValuesOf. -/
namespace Go.Proofs.YtpbjeoigpbnekaaDoor
open Go.RowKit
end Go.Proofs.YtpbjeoigpbnekaaDoor
