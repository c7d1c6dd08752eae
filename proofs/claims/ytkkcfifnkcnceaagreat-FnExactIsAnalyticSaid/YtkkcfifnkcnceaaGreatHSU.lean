import Derived.Test.YtkkcfifnkcnceaaGreatHVB
import Derived.Lib.SliceRun
import Derived.Test.YtkkcfifnkcnceaaGreatHMQ
import Derived.Test.YtkkcfifnkcnceaaGreatHP6
import Derived.Test.YtkkcfifnkcnceaaGreatHQ1
import Derived.Test.YtkkcfifnkcnceaaGreatHRN
/- DeleteFunc at []string. -/
namespace Go.Proofs.YtkkcfifnkcnceaaGreat
open Go.RowKit
theorem OwnS.store {w : World} {B : Nat} {g cap : Nat} {a : List ByteArray} (h : OwnS w B (.slice (some ⟨g, 0, none⟩) a.length cap) a) (i : Nat) (x : ByteArray) :
  OwnS (w.setCell ⟨g, i, none⟩ (.string x)) B (.slice (some ⟨g, 0, none⟩) a.length cap) (a.set i x) ∧ w.grownBy (w.setCell ⟨g, i, none⟩ (.string x)) (some g) := by
 have h' : w.ownsRow B 9 1 (.slice (some ⟨g, 0, none⟩) a.length cap) a.length (strCells a) := h
 have := h'.stored i (.string x)
 refine ⟨?_, this.2⟩
 unfold OwnS
 rw [List.length_set, show strCells (a.set i x) = (strCells a).set i (.string x) by simp [strCells, List.map_set]]
 exact this.1
theorem bts_toList (s : ByteArray) : s.toList = bts s := ByteArray.toList_eq s
theorem beq_bts (s t : ByteArray) : (s.toList == t.toList) = decide (bts s = bts t) := by rw [bts_toList, bts_toList, Bool.eq_iff_iff]; simp
theorem OwnS.cut {w : World} {B g cap : Nat} {a : List ByteArray} (h : OwnS w B (.slice (some ⟨g, 0, none⟩) a.length cap) a) (k : Nat) (hk : k ≤ a.length) : OwnS w B (.slice (some ⟨g, 0, none⟩) k cap) (a.take k) := by
 obtain ⟨hl, h | ⟨g', cap', cur, hv, hb, hg, hnc, hcm, hcs, ht⟩⟩ := h
 ·cases h.1
 cases hv
 have e : (a.take k).length = k := by simp; omega
 unfold OwnS
 rw [e]
 refine ⟨by simp [strCells]; omega, .inr ⟨g, cap, cur, rfl, hb, hg, by omega, hcm, hcs, ?_⟩⟩
 rw [show strCells (a.take k) = (strCells a).take k by simp [strCells, List.map_take], ← ht, List.take_take, Nat.min_eq_left (by omega), Nat.mul_one]
theorem OwnS.zeroed {B g cap : Nat} (x : ByteArray) : ∀ (m o : Nat) (w : World) (a : List ByteArray), OwnS w B (.slice (some ⟨g, 0, none⟩) a.length cap) a →
  ∃ a' : List ByteArray, a'.length = a.length ∧ a'.take o = a.take o ∧ OwnS (w.setCells g o (List.replicate m (.string x))) B (.slice (some ⟨g, 0, none⟩) a.length cap) a' ∧ w.grownBy (w.setCells g o (List.replicate m (.string x))) (some g)
 | 0, o, w, a, h => ⟨a, rfl, rfl, h, World.grownBy.refl _ _⟩
 | m + 1, o, w, a, h => by
  have h1 := h.store o x
  obtain ⟨a', h2, h3, h4, h5⟩ := OwnS.zeroed x m (o + 1) _ (a.set o x) (by rw [List.length_set]; exact h1.1)
  rw [List.length_set] at h2 h4
  refine ⟨a', h2, ?_, h4, grown_trans h1.2 h5⟩
  have h6 := congrArg (List.take o) h3
  rw [List.take_take, List.take_take, Nat.min_eq_left (by omega)] at h6
  rw [h6]
  apply List.ext_getElem?
  intro i
  by_cases hi : i < o
  ·simp [hi, Nat.ne_of_gt hi]
  ·simp [List.getElem?_take, hi]
theorem idxOf_case {α : Type} (pr : α → Bool) : ∀ (l : List α) (k : Nat), (idxOf pr l k = -1 ∧ ∀ x ∈ l, pr x = false) ∨ ∃ (j : Nat) (h : j < l.length), idxOf pr l k = ((k + j : Nat) : Int) ∧ pr l[j] = true ∧ ∀ x ∈ l.take j, pr x = false
 | [], k => .inl ⟨rfl, by simp⟩
 | x :: l, k => by
  cases hx : pr x
  ·rcases idxOf_case pr l (k + 1) with ⟨h1, h2⟩ | ⟨j, hj, h1, h2, h3⟩
   ·exact .inl ⟨by simp [idxOf, hx, h1], by intro y hy; rcases List.mem_cons.1 hy with rfl | hy; exact hx; exact h2 y hy⟩
   ·refine .inr ⟨j + 1, by simp; omega, by simp [idxOf, hx, h1]; omega, by simpa using h2, ?_⟩
    intro y hy
    rw [List.take_succ_cons] at hy
    rcases List.mem_cons.1 hy with rfl | hy
    ·exact hx
    ·exact h3 y hy
  ·exact .inr ⟨0, by simp, by simp [idxOf, hx], by simpa using hx, by simp⟩
def kept (pr : ByteArray → Bool) (a : List ByteArray) (k : Nat) : List ByteArray := (a.take k).filter fun x => !pr x
theorem kept_succ (pr : ByteArray → Bool) (a : List ByteArray) (k : Nat) (h : k < a.length) : kept pr a (k + 1) = kept pr a k ++ if pr a[k] then [] else [a[k]] := by
 unfold kept
 rw [List.take_succ_eq_append_getElem h, List.filter_append]
 cases h2 : pr a[k] <;> simp [h2]
theorem kept_le (pr : ByteArray → Bool) (a : List ByteArray) (k : Nat) : (kept pr a k).length ≤ k := by
 unfold kept
 exact Nat.le_trans (List.length_filter_le _ _) (by simp; omega)
theorem kept_all (pr : ByteArray → Bool) (a : List ByteArray) : kept pr a a.length = a.filter fun x => !pr x := by unfold kept; rw [List.take_length]
theorem kept_start (pr : ByteArray → Bool) (a : List ByteArray) (j : Nat) (h : ∀ x ∈ a.take j, pr x = false) : kept pr a j = a.take j := by
 unfold kept
 exact List.filter_eq_self.2 fun x hx => by simp [h x hx]
def delRow (pr : ByteArray → Bool) (a : List ByteArray) (k : Nat) : List ByteArray := kept pr a k ++ a.drop (kept pr a k).length
theorem delRow_length (pr : ByteArray → Bool) (a : List ByteArray) (k : Nat) (h : k ≤ a.length) : (delRow pr a k).length = a.length := by
 have := kept_le pr a k
 simp [delRow]; omega
theorem delRow_get (pr : ByteArray → Bool) (a : List ByteArray) (k : Nat) (h : k < a.length) : (delRow pr a k)[k]? = some a[k] := by
 have := kept_le pr a k
 unfold delRow
 rw [List.getElem?_append_right this, List.getElem?_drop, show (kept pr a k).length + (k - (kept pr a k).length) = k by omega, List.getElem?_eq_getElem h]
theorem delRow_set (pr : ByteArray → Bool) (a : List ByteArray) (k : Nat) (h : k < a.length) (hp : pr a[k] = false) : (delRow pr a k).set (kept pr a k).length a[k] = delRow pr a (k + 1) := by
 have h1 := kept_le pr a k
 have h2 := kept_succ pr a k h
 rw [hp] at h2
 unfold delRow
 rw [h2]
 simp only [Bool.false_eq_true, if_false, List.length_append, List.length_cons, List.length_nil]
 rw [List.set_append_right _ _ (Nat.le_refl _), Nat.sub_self, List.append_assoc]
 rw [List.drop_eq_getElem_cons (show (kept pr a k).length < a.length by omega)]
 simp only [List.set_cons_zero, List.cons_append, List.nil_append]
theorem delRow_skip (pr : ByteArray → Bool) (a : List ByteArray) (k : Nat) (h : k < a.length) (hp : pr a[k] = true) : delRow pr a (k + 1) = delRow pr a k ∧ kept pr a (k + 1) = kept pr a k := by
 have h2 := kept_succ pr a k h
 rw [hp] at h2
 simp only [if_true, List.append_nil] at h2
 exact ⟨by unfold delRow; rw [h2], h2⟩
theorem OwnS.cellAt {w : World} {B g cap : Nat} {a : List ByteArray} (h : OwnS w B (.slice (some ⟨g, 0, none⟩) a.length cap) a) {i : Nat} {x : ByteArray} (hx : a[i]? = some x) : w.cell? ⟨g, i, none⟩ = some (.string x) ∧ w.frozen? ⟨g, i, none⟩ = false := by
 have hi : i < a.length := by
  rcases Nat.lt_or_ge i a.length with h | h
  ·exact h
  ·rw [List.getElem?_eq_none h] at hx; cases hx
 exact ⟨by rw [World.ownsRow.cellAt h i (by omega)]; simp [strCells, hx], World.ownsRow.frozenAt h i⟩
set_option maxRecDepth 20000 in
set_option maxHeartbeats 2000000 in
theorem deleteFuncSK (pr : ByteArray → Bool) (f : FuncId) (cp : Array Value) (a : List ByteArray) (g cap : Nat) (w0 w : World) (hown : OwnS w w0.heap.size (.slice (some ⟨g, 0, none⟩) a.length cap) a) (kw0 : Keeps w0 w) (hl : a.length ≤ 1000000000) (hcf : Enters f)
  (hf : ∀ x w1, x ∈ a → Keeps w0 w1 → Calls Tryz.prog f (#[.string x] ++ cp) w1 fun e w2 => e = .returned (.bool (pr x)) ∧ Keeps w1 w2) :
  Calls Tryz.prog 152 #[.slice (some ⟨g, 0, none⟩) a.length cap, .func (.func f) #[] cp] w fun e w' => ∃ v', e = .returned v' ∧ OwnS w' w0.heap.size v' (a.filter fun x => !pr x) ∧ Keeps w0 w' := by
 have hI := indexFuncS pr f cp a _ w (hown.strs (by omega)) hcf (fun x w1 hx k => hf x w1 hx (kw0.trans k))
 obtain ⟨_, _, hge, hncap, hcm, _⟩ : ∃ q c, w0.heap.size ≤ g ∧ a.length ≤ cap ∧ cap ≤ maxLen ∧ q = c := by
  obtain ⟨p, c, e, h1, h2, _⟩ := At.of_own hown
  cases e
  exact ⟨0, 0, (OwnS.len hown g rfl).1, h1, h2, rfl⟩
 unfold maxLen at hcm
 have HI := hid hI; clear hI
 have HF := hid hf; clear hf
 have HO := hid hown; clear hown
 have HK := hid kw0; clear kw0
 have hcf' : ∀ args w, (callFunc f args).run Tryz.prog w = .ok (.enter f args) w := hcf
 clear hcf
 rcases idxOf_case pr a 0 with ⟨hi, hall⟩ | ⟨j0, hj0, hi, hp0, hbef⟩
 ·rw [hi] at HI
  have hfil : (a.filter fun x => !pr x) = a := List.filter_eq_self.2 fun x hx => by simp [hall x hx]
  rw [hfil]
  clear hall hfil hi
  go_enter Tryz.func152, Tryz.ntmps152
  go_wp2_with fail
  refine HI.out.mono ?_; rintro e w1 ⟨rfl, k1⟩
  go_wp2_with fail
  go_ret
  exact ⟨_, rfl, HO.out.keeps k1, HK.out.trans k1⟩
 ·rw [show ((0 + j0 : Nat) : Int) = (j0 : Int) by omega] at hi
  rw [hi] at HI
  have hs1 : kept pr a (j0 + 1) = a.take j0 := by
   rw [kept_succ pr a j0 hj0, hp0, kept_start pr a j0 hbef]; simp
  have hs2 : delRow pr a (j0 + 1) = a := by
   unfold delRow; rw [hs1]; simp [Nat.min_eq_left (Nat.le_of_lt hj0)]
  have hs3 : (kept pr a (j0 + 1)).length = j0 := by rw [hs1]; simp; omega
  have HS := hid (And.intro hs2 hs3); clear hs1 hs2 hs3 hbef hp0 hi
  have hneq : ((j0 : Int) == -1) = false := by simp
  go_enter Tryz.func152, Tryz.ntmps152
  go_wp2_with fail
  refine HI.out.mono ?_; rintro e w1 ⟨rfl, k1⟩
  go_wp2_with fail
  go_loopw [5, 6] (fun iv jv wr => ∃ k n : Nat, k ≤ a.length ∧ n < k ∧ n = (kept pr a k).length ∧ iv = .int .i64 n ∧ jv = .int .i64 k ∧ OwnS wr w0.heap.size (.slice (some ⟨g, 0, none⟩) a.length cap) (delRow pr a k) ∧ Keeps w0 wr) (fun _ jv _ => a.length - (intOf jv).toNat)
  case atStart => exact ⟨j0 + 1, j0, by omega, by omega, HS.out.2.symm, rfl, by go_num, by rw [HS.out.1]; exact HO.out.keeps k1, HK.out.trans k1⟩
  case round =>
   obtain ⟨k, n, hk, hnk, hn, rfl, rfl, hrow, kw⟩ := hrel
   have HN := hid hn; clear hn
   by_cases hlt : k < a.length
   ·have hlt' : (k : Int) < a.length := by omega
    have hc := OwnS.cellAt (a := delRow pr a k) (by rw [delRow_length pr a k hk]; exact hrow) (delRow_get pr a k hlt)
    obtain ⟨xo, hxo⟩ : ∃ xo, (delRow pr a k)[n]? = some xo := ⟨_, List.getElem?_eq_getElem (by rw [delRow_length pr a k hk]; omega)⟩
    have hd := OwnS.cellAt (a := delRow pr a k) (by rw [delRow_length pr a k hk]; exact hrow) hxo
    obtain ⟨hc1, hc2⟩ := hc
    obtain ⟨hd1, hd2⟩ := hd
    have HR := hid hrow; clear hrow
    have hq := hid (delRow_set pr a k hlt)
    have hq2 := hid (delRow_skip pr a k hlt)
    have hq3 := hid (kept_succ pr a k hlt)
    cases hp : pr a[k]
    all_goals
     have Hp := hid hp; clear hp
     go_wp2_with ((with_reducible refine (HF.out a[k] wr (List.getElem_mem hlt) kw).mono ?_); rintro e w2 ⟨rfl, k2⟩; replace hd1 := k2.cell hd1; replace hd2 := (k2.both.2 g n (by first | exact (OwnS.len HR.out g rfl).2 | omega)).trans hd2; replace HR := hid (HR.out.keeps k2); replace kw := kw.trans k2; rw [Hp.out])
    ·go_roundw
     case rel =>
      refine ⟨k + 1, n + 1, by omega, by omega, ?_, by go_num, by go_num, ?_, ?_⟩
      ·rw [hq3.out, Hp.out, HN.out]; simp
      ·have := OwnS.store (a := delRow pr a k) (by rw [delRow_length pr a k hk]; exact HR.out) n a[k]
       rw [delRow_length pr a k hk] at this
       have h2 := this.1
       rw [HN.out, hq.out Hp.out, ← HN.out] at h2
       exact h2
      ·have := OwnS.store (a := delRow pr a k) (by rw [delRow_length pr a k hk]; exact HR.out) n a[k]
       exact kw.grown this.2 (by rintro _ ⟨⟩; exact hge)
     case measure => simp [intOf]; omega
    ·go_roundw
     case rel => exact ⟨k + 1, n, by omega, by omega, by rw [(hq2.out Hp.out).2]; exact HN.out, rfl, by go_num, by rw [(hq2.out Hp.out).1]; exact HR.out, kw⟩
     case measure => simp [intOf]; omega
   ·obtain rfl : k = a.length := by omega
    have hlt' : ¬ (a.length : Int) < a.length := by omega
    have hz := OwnS.zeroed (a := delRow pr a a.length) ⟨#[]⟩ (a.length - n) n wr (by rw [delRow_length pr a _ hk]; exact hrow)
    have hcell : ∀ j, j < a.length → ∃ x, (delRow pr a a.length)[j]? = some x := fun j hj => ⟨_, List.getElem?_eq_getElem (by rw [delRow_length pr a _ hk]; exact hj)⟩
    have hcl : ∀ ty, (Builtin.clear_ #[24] ty #[.slice (some ⟨g, n, none⟩) (a.length - n) (cap - n)]).run Tryz.prog wr = .ok (.tuple #[]) (wr.setCells g n (List.replicate (a.length - n) (.string ⟨#[]⟩))) :=
     fun ty => Lib.run_clear_slice wr _ _ ty _ Tryz.underlying24 (fun _ => Tryz.zeroValue9 _) rfl rfl g n _ _ (by omega)
      (fun j hj => by
       obtain ⟨x, hx⟩ := hcell (n + j) (by omega)
       rw [(OwnS.cellAt (a := delRow pr a a.length) (by rw [delRow_length pr a _ hk]; exact hrow) hx).1]; rfl)
      (fun j hj => by
       obtain ⟨x, hx⟩ := hcell (n + j) (by omega)
       rw [(OwnS.cellAt (a := delRow pr a a.length) (by rw [delRow_length pr a _ hk]; exact hrow) hx).2])
    have HZ := hid hz; clear hz hcell hrow
    go_wp2
    go_ret
    obtain ⟨a', h1, h2, h3, h4⟩ := HZ.out
    rw [delRow_length pr a _ hk] at h1 h3
    refine ⟨_, rfl, ?_, ?_⟩
    ·have hfin : a'.take n = a.filter fun x => !pr x := by
      rw [h2, ← kept_all, HN.out]
      unfold delRow
      rw [List.take_left]
     rw [← hfin]
     have := OwnS.cut (a := a') (by rw [h1]; exact h3) n (by omega)
     simpa using this
    ·have := kw.grown h4 (by rintro _ ⟨⟩; exact hge)
     simpa using this
end Go.Proofs.YtkkcfifnkcnceaaGreat
namespace Go.Proofs.YtkkcfifnkcnceaaGreat
open Go.RowKit
theorem drop_1_any (s t : ByteArray) (b : Nat) (w : World) (hc : w.cell? ⟨b, 0, none⟩ = some (.string t)) :
  Calls Tryz.prog 153 #[.string s, .pointer (some ⟨b, 0, none⟩)] w fun e w' => e = .returned (.bool (s.toList == t.toList)) ∧ w = w' := by
 go_enter Tryz.func153, Tryz.ntmps153
 go_wp2
 go_ret
 exact ⟨rfl, rfl⟩
end Go.Proofs.YtkkcfifnkcnceaaGreat
namespace Go.Proofs.YtkkcfifnkcnceaaGreat
open Go.RowKit
def IsTx (s : ByteArray) (t : Fm) : Prop := t.wf ∧ bts s = t.body ∧ t.enc.length ≤ 40
theorem IsTx.inj {s : ByteArray} {t u : Fm} (h : IsTx s t) (k : IsTx s u) : t = u := body_inj h.1 k.1 (h.2.1.symm.trans k.2.1)
theorem IsTx.small {s : ByteArray} {t : Fm} (h : IsTx s t) : s.size ≤ 200 := by
 have := body_len t
 rw [← bts_len, h.2.1]; have := h.2.2; omega
noncomputable def isTx (s : ByteArray) : Bool := @decide (∃ t, IsTx s t) (Classical.propDecidable _)
theorem isTx_iff {s : ByteArray} : isTx s = true ↔ ∃ t, IsTx s t := by unfold isTx; exact @decide_eq_true_iff _ (Classical.propDecidable _)
theorem isTx_not {s : ByteArray} : isTx s = false ↔ ∀ t, ¬ IsTx s t := by unfold isTx; exact (@decide_eq_false_iff_not _ (Classical.propDecidable _)).trans not_exists
def ReadR (w : World) (s : ByteArray) (e : Ending) (w' : World) : Prop :=
 (∃ j : Nat, j ≤ s.size ∧ e = .returned (.tuple #[.slice none 0 0, .int .i64 j]) ∧ Keeps w w') ∨
 (∃ (v : Value) (t : Fm), t.wf ∧ t.enc.length ≤ 3 * s.size + 1 ∧ e = .returned (.tuple #[v, .int .i64 (-1)]) ∧ OwnN w' w.heap.size v t.enc ∧ Keeps w w')
set_option maxRecDepth 20000 in
set_option maxHeartbeats 1000000 in
theorem l02ReadA (s : ByteArray) (w : World) (hs : s.size ≤ 10000000) : Calls Tryz.prog 173 #[.string s] w (ReadR w s) := by
 have h0 := RdAt.new w s 204 (by omega)
 have HR := hid ((specReadA s.size).1 _ _ s 0 false h0 hs (by omega))
 have k0 := (Keeps.refl w).alloc (.cells #[.string s, .int .i64 0, .bool false] 204)
 clear h0
 go_enter Tryz.func173, Tryz.ntmps173
 go_wp2_with fail
 refine HR.out.mono ?_; rintro e w1 ⟨v1, t1, j1, b1, rfl, hw1, hv1, h1, hj1, hl1, g1⟩
 have kw := k0.grown g1 (fun k hk => by cases hk; exact Nat.le_refl _)
 obtain ⟨c0, c1, c2, f1, f2, le, sz⟩ := h1
 cases b1 with
 | true =>
  go_wp2_with fail
  go_quiet (fail)
  go_wp2_with fail
  refine bodyPost_ret (v := .tuple #[.slice none 0 0, .int .i64 j1]) (by simp [results, Tryz.results173, go_sem]) rfl ?_
  exact Or.inl ⟨j1, le, rfl, kw.drewN _⟩
 | false =>
  by_cases hlt : j1 < s.size
  ·have hlt' : decide ((j1 : Int) < s.size) = true := by simp; omega
   go_wp2_with fail
   go_quiet (fail)
   go_wp2_with fail
   refine bodyPost_ret (v := .tuple #[.slice none 0 0, .int .i64 j1]) (by simp [results, Tryz.results173, go_sem]) rfl ?_
   exact Or.inl ⟨j1, le, rfl, kw.drewN _⟩
  ·have hlt' : decide ((j1 : Int) < s.size) = false := by simp; omega
   go_wp2_with fail
   refine bodyPost_ret (v := .tuple #[v1, .int .i64 (-1)]) (by simp [results, Tryz.results173, go_sem]) rfl ?_
   exact Or.inr ⟨_, t1, hw1, by omega, rfl, hv1.mono (by simp), kw⟩
def ParsR (w : World) (s : ByteArray) (e : Ending) (w' : World) : Prop :=
 (∃ j c : Int, c ≠ 0 ∧ e = .returned (.tuple #[.slice none 0 0, .int .i64 j, .int .i64 c]) ∧ Keeps w w') ∨
 (∃ (v : Value) (t : Fm), t.wf ∧ t.enc.length ≤ 40 ∧ s.size ≤ 200 ∧ e = .returned (.tuple #[v, .int .i64 0, .int .i64 0]) ∧ OwnN w' w.heap.size v t.enc ∧ Keeps w w')
set_option maxRecDepth 20000 in
set_option maxHeartbeats 1000000 in
theorem specParseA (s : ByteArray) (w : World) (hs : s.size ≤ 10000000) : Calls Tryz.prog 132 #[.string s] w (ParsR w s) := by
 by_cases h200 : s.size > 200
 ·have hs' : (s.size : Int) > 200 := by omega
  go_enter Tryz.func132, Tryz.ntmps132
  go_wp2_with fail
  refine bodyPost_ret (v := .tuple #[.slice none 0 0, .int .i64 0, .int .i64 3]) (by simp [results, Tryz.results132, go_sem]) rfl ?_
  exact Or.inl ⟨0, 3, by decide, rfl, Keeps.refl _⟩
 ·have hs' : ¬ ((s.size : Int) > 200) := by omega
  have HR := hid (l02ReadA s w hs)
  go_enter Tryz.func132, Tryz.ntmps132
  go_wp2_with fail
  refine HR.out.mono ?_; rintro e w1 (⟨j, hj, rfl, k1⟩ | ⟨v1, t1, hw1, hl1, rfl, hv1, k1⟩)
  ·have hj' : (j : Int) ≥ 0 := by omega
   go_wp2_with fail
   refine bodyPost_ret (v := .tuple #[.slice none 0 0, .int .i64 j, .int .i64 6]) (by simp [results, Tryz.results132, go_sem]) rfl ?_
   exact Or.inl ⟨j, 6, by decide, rfl, k1⟩
  ·obtain ⟨p1, n1, q1, rfl⟩ : ∃ p n c, v1 = .slice p n c := by obtain ⟨p, c, e, _⟩ := At.of_own hv1; exact ⟨p, _, c, e⟩
   have hn1 : n1 = t1.enc.length := by obtain ⟨p, c, e, _⟩ := At.of_own hv1; cases e; rfl
   have HN1 := hid hn1; clear hn1
   by_cases h40 : t1.enc.length > 40
   ·have hl1 : (n1 : Int) > 40 := by have := HN1.out; omega
    go_wp2_with fail
    refine bodyPost_ret (v := .tuple #[.slice none 0 0, .int .i64 0, .int .i64 3]) (by simp [results, Tryz.results132, go_sem]) rfl ?_
    exact Or.inl ⟨0, 3, by decide, rfl, k1⟩
   ·have hl1 : ¬ ((n1 : Int) > 40) := by have := HN1.out; omega
    go_wp2_with fail
    refine bodyPost_ret (v := .tuple #[.slice p1 n1 q1, .int .i64 0, .int .i64 0]) (by simp [results, Tryz.results132, go_sem]) rfl ?_
    exact Or.inr ⟨_, t1, hw1, by omega, by omega, rfl, hv1, k1⟩
def GoodR (w : World) (s : ByteArray) (e : Ending) (w' : World) : Prop :=
 ∃ v, e = .returned (.tuple #[v, .bool (isTx s)]) ∧ Keeps w w' ∧ ∀ t, IsTx s t → OwnN w' w.heap.size v t.enc
set_option maxRecDepth 20000 in
set_option maxHeartbeats 1000000 in
theorem specParseT (t : Fm) (s : ByteArray) (w : World) (h : IsTx s t) :
  Calls Tryz.prog 132 #[.string s] w fun e w' => ∃ v, e = .returned (.tuple #[v, .int .i64 0, .int .i64 0]) ∧ OwnN w' w.heap.size v t.enc ∧ Keeps w w' := by
 have hs := h.small
 obtain ⟨hw, hb, hl⟩ := h
 have HR := hid (l02Read_any t hw s w hb (by omega) (by omega))
 have hs' : ¬ ((s.size : Int) > 200) := by omega
 clear hb
 go_enter Tryz.func132, Tryz.ntmps132
 go_wp2_with fail
 refine HR.out.mono ?_; rintro e w1 ⟨v1, rfl, hv1, k1⟩
 obtain ⟨p1, n1, q1, rfl⟩ : ∃ p n c, v1 = .slice p n c := by obtain ⟨p, c, e, _⟩ := At.of_own hv1; exact ⟨p, _, c, e⟩
 have hn1 : n1 = t.enc.length := by obtain ⟨p, c, e, _⟩ := At.of_own hv1; cases e; rfl
 have hl1 : ¬ ((n1 : Int) > 40) := by omega
 have HN1 := hid hn1; clear hn1
 go_wp2_with fail
 refine bodyPost_ret (v := .tuple #[.slice p1 n1 q1, .int .i64 0, .int .i64 0]) (by simp [results, Tryz.results132, go_sem]) rfl ?_
 exact ⟨_, rfl, hv1, k1⟩
set_option maxRecDepth 20000 in
set_option maxHeartbeats 1000000 in
theorem l02GoodA (s : ByteArray) (w : World) (hs : s.size ≤ 10000000) : Calls Tryz.prog 84 #[.string s] w (GoodR w s) := by
 by_cases hg : ∃ t, IsTx s t
 ·obtain ⟨t, ht⟩ := hg
  have hI := isTx_iff.2 ⟨t, ht⟩
  have HR := hid (specParseT t s w ht)
  have HT := hid (fun v w2 (hv : Nds w2 v t.enc) => l02TextA t ht.1 (by have := ht.2.2; omega) v w2 hv)
  have hl := ht.2.2
  have HB := hid ht
  have HI := hid hI
  clear ht hI
  go_enter Tryz.func84, Tryz.ntmps84
  go_wp2_with fail
  refine HR.out.mono ?_; rintro e w1 ⟨v1, rfl, hv1, k1⟩
  have hn1 : Nds w1 v1 t.enc := hv1.nds (by omega)
  go_wp2_with fail
  refine (HT.out v1 w1 hn1).mono ?_; rintro e w2 ⟨s2, rfl, hs2, k2⟩
  have he : (s2.toList == s.toList) = true := by rw [beq_bts, decide_eq_true_iff, hs2, HB.out.2.1]
  go_wp2_with fail
  refine bodyPost_ret (v := .tuple #[v1, .bool true]) (by simp [results, Tryz.results84, go_sem]) rfl ?_
  exact ⟨v1, by rw [HI.out], k1.trans k2, fun u hu => by rw [hu.inj HB.out]; exact hv1.keeps k2⟩
 ·have hI : isTx s = false := isTx_not.2 (not_exists.1 hg)
  have HR := hid (specParseA s w hs)
  have HN : Hid (∀ t, ¬ IsTx s t) := hid (not_exists.1 hg)
  have HI := hid hI; clear hI hg
  go_enter Tryz.func84, Tryz.ntmps84
  go_wp2_with fail
  refine HR.out.mono ?_; rintro e w1 (⟨j, c, hc, rfl, k1⟩ | ⟨v1, t1, hw1, hl1, h200, rfl, hv1, k1⟩)
  ·have hc' : (c == 0) = false := by simpa using hc
   go_wp2_with fail
   refine bodyPost_ret (v := .tuple #[.slice none 0 0, .bool false]) (by simp [results, Tryz.results84, go_sem]) rfl ?_
   exact ⟨_, by rw [HI.out], k1, fun u hu => absurd hu (HN.out u)⟩
  ·have hn1 : Nds w1 v1 t1.enc := hv1.nds (by omega)
   have HT := hid (l02TextA t1 hw1 (by omega) v1 w1 hn1)
   go_wp2_with fail
   refine HT.out.mono ?_; rintro e w2 ⟨s2, rfl, hs2, k2⟩
   have he : (s2.toList == s.toList) = false := by
    rw [beq_bts, decide_eq_false_iff_not, hs2]
    intro e
    exact HN.out t1 ⟨hw1, e.symm, hl1⟩
   go_wp2_with fail
   refine bodyPost_ret (v := .tuple #[v1, .bool false]) (by simp [results, Tryz.results84, go_sem]) rfl ?_
   exact ⟨v1, by rw [HI.out], k1.trans k2, fun u hu => absurd hu (HN.out u)⟩
set_option maxRecDepth 20000 in
set_option maxHeartbeats 1000000 in
theorem implParseA (s : ByteArray) (w : World) (hs : s.size ≤ 10000000) : Calls Tryz.prog 117 #[.string s] w (ParsR w s) := by
 by_cases h200 : s.size > 200
 ·have hs' : (s.size : Int) > 200 := by omega
  go_enter Tryz.func117, Tryz.ntmps117
  go_wp2_with fail
  refine bodyPost_ret (v := .tuple #[.slice none 0 0, .int .i64 0, .int .i64 3]) (by simp [results, Tryz.results117, go_sem]) rfl ?_
  exact Or.inl ⟨0, 3, by decide, rfl, Keeps.refl _⟩
 ·have hs' : ¬ ((s.size : Int) > 200) := by omega
  have h0 := RdAt.new w s 172 (by omega)
  have HR := hid ((implReadA s.size).1 _ _ s 0 false h0 hs (by omega))
  have k0 := (Keeps.refl w).alloc (.cells #[.string s, .int .i64 0, .bool false] 172)
  clear h0
  go_enter Tryz.func117, Tryz.ntmps117
  go_wp2_with fail
  refine HR.out.mono ?_; rintro e w1 ⟨v1, t1, j1, b1, rfl, hw1, hv1, h1, hj1, hl1, g1⟩
  have kw := k0.grown g1 (fun k hk => by cases hk; exact Nat.le_refl _)
  obtain ⟨c0, c1, c2, f1, f2, le, sz⟩ := h1
  obtain ⟨p1, n1, q1, rfl⟩ : ∃ p n c, v1 = .slice p n c := by obtain ⟨p, c, e, _⟩ := At.of_own hv1; exact ⟨p, _, c, e⟩
  have hn1 : n1 = t1.enc.length := by obtain ⟨p, c, e, _⟩ := At.of_own hv1; cases e; rfl
  have HN1 := hid hn1; clear hn1
  have HV1 := hid hv1; clear hv1
  cases b1 with
  | true =>
   go_wp2_with fail
   go_quiet (fail)
   go_wp2_with fail
   refine bodyPost_ret (v := .tuple #[.slice none 0 0, .int .i64 j1, .int .i64 6]) (by simp [results, Tryz.results117, go_sem]) rfl ?_
   exact Or.inl ⟨j1, 6, by decide, rfl, kw.drewN _⟩
  | false =>
   by_cases hlt : j1 < s.size
   ·have hlt' : decide ((j1 : Int) < s.size) = true := by simp; omega
    go_wp2_with fail
    go_quiet (fail)
    go_wp2_with fail
    refine bodyPost_ret (v := .tuple #[.slice none 0 0, .int .i64 j1, .int .i64 6]) (by simp [results, Tryz.results117, go_sem]) rfl ?_
    exact Or.inl ⟨j1, 6, by decide, rfl, kw.drewN _⟩
   ·have hlt' : decide ((j1 : Int) < s.size) = false := by simp; omega
    by_cases h40 : t1.enc.length > 40
    ·have hl2 : (n1 : Int) > 40 := by have := HN1.out; omega
     go_wp2_with fail
     refine bodyPost_ret (v := .tuple #[.slice none 0 0, .int .i64 0, .int .i64 3]) (by simp [results, Tryz.results117, go_sem]) rfl ?_
     exact Or.inl ⟨0, 3, by decide, rfl, kw⟩
    ·have hl2 : ¬ ((n1 : Int) > 40) := by have := HN1.out; omega
     go_wp2_with fail
     refine bodyPost_ret (v := .tuple #[.slice p1 n1 q1, .int .i64 0, .int .i64 0]) (by simp [results, Tryz.results117, go_sem]) rfl ?_
     exact Or.inr ⟨_, t1, hw1, by omega, by omega, rfl, HV1.out.mono (by simp), kw⟩
def PrsdR (w : World) (e : Ending) (w' : World) : Prop :=
 (e = .returned (.slice none 0 0) ∧ Keeps w w') ∨ (∃ (v : Value) (t : Fm), t.wf ∧ t.enc.length ≤ 40 ∧ e = .returned v ∧ OwnN w' w.heap.size v t.enc ∧ Keeps w w')
set_option maxRecDepth 20000 in
theorem parsedA (s : ByteArray) (w : World) (hs : s.size ≤ 10000000) : Calls Tryz.prog 67 #[.string s] w (PrsdR w) := by
 have HR := hid (implParseA s w hs)
 clear hs
 go_enter Tryz.func67, Tryz.ntmps67
 go_wp2_with fail
 refine HR.out.mono ?_; rintro e w1 (⟨j, c, hc, rfl, k1⟩ | ⟨v1, t1, hw1, hl1, h200, rfl, hv1, k1⟩)
 ·go_wp2_with fail
  go_ret
  exact Or.inl ⟨rfl, k1⟩
 ·go_wp2_with fail
  go_ret
  exact Or.inr ⟨_, t1, hw1, hl1, rfl, hv1, k1⟩
theorem parsedT (t : Fm) (s : ByteArray) (w : World) (h : IsTx s t) : Calls Tryz.prog 67 #[.string s] w (RetN w t.enc) :=
 parsed_any t h.1 s w h.2.1 h.small h.2.2
set_option maxRecDepth 20000 in
set_option maxHeartbeats 1000000 in
theorem isTextA (s : ByteArray) (w : World) (hs : s.size ≤ 10000000) : Calls Tryz.prog 65 #[.string s] w fun e w' => e = .returned (.bool (isTx s)) ∧ Keeps w w' := by
 by_cases hg : ∃ t, IsTx s t
 ·obtain ⟨t, ht⟩ := hg
  have hI := isTx_iff.2 ⟨t, ht⟩
  have HR := hid (parsedT t s w ht)
  have HT := hid (fun v w2 (hv : Nds w2 v t.enc) => text_any t ht.1 (by have := ht.2.2; omega) v w2 hv)
  have hl := ht.2.2
  have hp := Fm.enc_pos t
  have HB := hid ht
  have HI := hid hI
  clear ht hI
  go_enter Tryz.func65, Tryz.ntmps65
  go_wp2_with fail
  refine HR.out.mono ?_; rintro e w1 ⟨v1, rfl, hv1, k1⟩
  have hn1 : Nds w1 v1 t.enc := hv1.nds (by omega)
  have HTv := hid (HT.out v1 w1 hn1)
  obtain ⟨b1, o1, n1, c1, rfl, _⟩ := hn1.root
  go_wp2_with fail
  refine HTv.out.mono ?_; rintro e w2 ⟨s2, rfl, hs2, k2⟩
  have he : (s2.toList == s.toList) = true := by rw [beq_bts, decide_eq_true_iff, hs2, HB.out.2.1]
  go_wp2_with fail
  go_ret
  exact ⟨ret_bool (by rw [HI.out]), k1.trans k2⟩
 ·have hI : isTx s = false := isTx_not.2 (not_exists.1 hg)
  have HR := hid (parsedA s w hs)
  have HN : Hid (∀ t, ¬ IsTx s t) := hid (not_exists.1 hg)
  have HI := hid hI; clear hI hg
  go_enter Tryz.func65, Tryz.ntmps65
  go_wp2_with fail
  refine HR.out.mono ?_; rintro e w1 (⟨rfl, k1⟩ | ⟨v1, t1, hw1, hl1, rfl, hv1, k1⟩)
  ·go_wp2_with fail
   go_ret
   exact ⟨ret_bool (by rw [HI.out]), k1⟩
  ·have hn1 : Nds w1 v1 t1.enc := hv1.nds (by omega)
   have HTv := hid (text_any t1 hw1 (by omega) v1 w1 hn1)
   have hp := Fm.enc_pos t1
   obtain ⟨b1, o1, n1, c1, rfl, _⟩ := hn1.root
   go_wp2_with fail
   refine HTv.out.mono ?_; rintro e w2 ⟨s2, rfl, hs2, k2⟩
   have he : (s2.toList == s.toList) = false := by
    rw [beq_bts, decide_eq_false_iff_not, hs2]
    intro e
    exact HN.out t1 ⟨hw1, e.symm, hl1⟩
   go_wp2_with fail
   go_ret
   exact ⟨ret_bool (by rw [HI.out]), k1.trans k2⟩
end Go.Proofs.YtkkcfifnkcnceaaGreat
namespace Go.Proofs.YtkkcfifnkcnceaaGreat
def Fine (G : List Fm) : Prop := ∀ a ∈ G, a.wf ∧ a.enc.length ≤ 40
def subG (G : List Fm) : List Fm := G.flatMap subs
def subT (G : List Fm) : List ByteArray := (sortB ((subG G).map Fm.body)).map mkS
theorem subT_bts (G : List Fm) : (subT G).map bts = sortB ((subG G).map Fm.body) := by
 unfold subT
 rw [List.map_map]
 conv => rhs; rw [← List.map_id (sortB _)]
 apply List.map_congr_left
 intro b _
 exact bts_mkS b
theorem subT_asc (G : List Fm) : Asc ((subT G).map bts) := by rw [subT_bts]; exact sortB_asc _
theorem subT_body {G : List Fm} {z : List UInt8} : z ∈ (subT G).map bts ↔ ∃ x ∈ subG G, z = x.body := by
 rw [subT_bts, sortB_iff, List.mem_map]
 exact ⟨fun ⟨x, h1, h2⟩ => ⟨x, h1, h2.symm⟩, fun ⟨x, h1, h2⟩ => ⟨x, h1, h2.symm⟩⟩
theorem map_bts_inj : ∀ {r q : List ByteArray}, r.map bts = q.map bts → r = q
 | [], [], _ => rfl
 | [], _ :: _, h => by simp at h
 | _ :: _, [], h => by simp at h
 | x :: r, y :: q, h => by
  simp only [List.map_cons, List.cons.injEq] at h
  rw [bts_inj h.1, map_bts_inj h.2]
theorem subT_uniq {G : List Fm} {r : List ByteArray} (h1 : Asc (r.map bts)) (h2 : ∀ z, z ∈ r.map bts ↔ ∃ x ∈ subG G, z = x.body) : r = subT G :=
 map_bts_inj (Asc.ext h1 (subT_asc G) (fun z => (h2 z).trans subT_body.symm))
noncomputable def txF (s : ByteArray) : Fm := @dite _ (∃ t, IsTx s t) (Classical.propDecidable _) (fun h => Classical.choose h) (fun _ => .fls)
theorem txF_eq {s : ByteArray} {t : Fm} (h : IsTx s t) : txF s = t := by
 unfold txF
 rw [dif_pos ⟨t, h⟩]
 exact (Classical.choose_spec (⟨t, h⟩ : ∃ t, IsTx s t)).inj h
theorem txF_tx {s : ByteArray} (h : ∃ t, IsTx s t) : IsTx s (txF s) := by
 obtain ⟨t, ht⟩ := h
 rw [txF_eq ht]; exact ht
noncomputable def okAt (ss : List ByteArray) (i : Nat) : Bool := isTx (ss.getD i ⟨#[]⟩) && (i == 0 || decide (bts (ss.getD (i - 1) ⟨#[]⟩) < bts (ss.getD i ⟨#[]⟩)))
noncomputable def sideB (ss : List ByteArray) : Bool := (List.range ss.length).all (okAt ss)
def Side (ss : List ByteArray) : Prop := (∀ s ∈ ss, ∃ t, IsTx s t) ∧ Asc (ss.map bts)
theorem side_of {ss : List ByteArray} (h : sideB ss = true) : Side ss := by
 unfold sideB at h
 rw [List.all_eq_true] at h
 have h1 : ∀ i, i < ss.length → okAt ss i = true := fun i hi => h i (List.mem_range.2 hi)
 have hg : ∀ i (hi : i < ss.length), ss.getD i ⟨#[]⟩ = ss[i] := fun i hi => by rw [List.getD_eq_getElem?_getD, List.getElem?_eq_getElem hi]; rfl
 refine ⟨fun s hs => ?_, ?_⟩
 ·obtain ⟨i, hi, rfl⟩ := List.getElem_of_mem hs
  have := h1 i hi
  unfold okAt at this
  rw [Bool.and_eq_true, hg i hi] at this
  exact isTx_iff.1 this.1
 ·have step : ∀ i, i + 1 < ss.length → bts (ss.getD i ⟨#[]⟩) < bts (ss.getD (i + 1) ⟨#[]⟩) := fun i hi => by
   have := h1 (i + 1) hi
   unfold okAt at this
   rw [Bool.and_eq_true, Bool.or_eq_true] at this
   rcases this.2 with e | e
   ·simp at e
   ·simpa using of_decide_eq_true e
  have far : ∀ d i, i + d + 1 < ss.length → bts (ss.getD i ⟨#[]⟩) < bts (ss.getD (i + d + 1) ⟨#[]⟩) := by
   intro d
   induction d with
   | zero => intro i hi; exact step i hi
   | succ d ih => intro i hi; exact txt_trans (ih i (by omega)) (step (i + d + 1) hi)
  unfold Asc
  rw [List.pairwise_iff_getElem]
  intro i j hi hj hij
  simp only [List.length_map] at hi hj
  have := far (j - i - 1) i (by omega)
  rw [show i + (j - i - 1) + 1 = j by omega, hg i hi, hg j hj] at this
  simpa using this
noncomputable def isQ (ss tt : List ByteArray) : Bool := decide (ss.length ≤ 16) && decide (tt.length ≤ 16) && sideB ss && sideB tt
theorem isQ_iff {ss tt : List ByteArray} (h : isQ ss tt = true) : ss.length ≤ 16 ∧ tt.length ≤ 16 ∧ Side ss ∧ Side tt := by
 unfold isQ at h
 rw [Bool.and_eq_true, Bool.and_eq_true, Bool.and_eq_true, decide_eq_true_eq, decide_eq_true_eq] at h
 exact ⟨h.1.1.1, h.1.1.2, side_of h.1.2, side_of h.2⟩
noncomputable def fmL (ss : List ByteArray) : List Fm := ss.map txF
theorem fmL_len (ss : List ByteArray) : (fmL ss).length = ss.length := by simp [fmL]
theorem fmL_fine {ss : List ByteArray} (h : Side ss) : Fine (fmL ss) := by
 intro x hx
 obtain ⟨s, hs, rfl⟩ := List.mem_map.1 hx
 have := txF_tx (h.1 s hs)
 exact ⟨this.1, this.2.2⟩
theorem fmL_append (ss tt : List ByteArray) : fmL (ss ++ tt) = fmL ss ++ fmL tt := by simp [fmL]
theorem Fine.append {G H : List Fm} (h : Fine G) (k : Fine H) : Fine (G ++ H) := fun a ha => (List.mem_append.1 ha).elim (h a) (k a)
end Go.Proofs.YtkkcfifnkcnceaaGreat
namespace Go.Proofs.YtkkcfifnkcnceaaGreat
open Go.RowKit
theorem wp_append_atN {P : Program} {w : World} {o : Oper} {a : Act} {K : Act → World → Prop} {Q : Exit → Act → World → Prop} (s x : Operand) (t : TypeId)
  (ho : o.op = .call { callee := .builtin .append, args := #[s, x], argTypes := #[t, t] })
  (e : TypeId) (i : TypeInfo) (z : Value) (size bytes : Nat) (ht : P.underlying t = some (.slice e)) (hi : P.info? e = some i) (hz : i.zero = some z)
  (hsize : i.size = size) (hby : i.bytes = bytes) (hzs : z.cells.size = size) (hsz : 0 < size) (base : Nat)
  (v : Value) (n : Nat) (xs : List Value) (hs : a.eval s = v) (hown : w.ownsRow base e size v n xs)
  (p : Option Addr) (m c : Nat) (news : List Value) (hx : a.eval x = .slice p m c) (hl : news.length = m * size) (hat : At w p news) (h1 : ∀ u ∈ news, u.oneCell' = true)
  (h63 : n + m ≤ maxLen) (hbytes : (n + m) * bytes ≤ 140737488355328) (hbase : base ≤ w.heap.size)
  (h : ∀ v' w', w'.ownsRow base e size v' (n + m) (xs ++ news) → w.grownBy w' v.ownBlock → (∀ k, v.ownBlock = some k → base ≤ k) → (v' = .slice none 0 0 → v = .slice none 0 0) → K (a.put o.dst v') w') : o.wp P a w K Q := by
 have hlt := fun k hk => (hown.lt k hk).1
 cases p with
 | some ad =>
  refine wp_append_own w s x t ho base e i z size bytes ht hi hz hsize hby hzs hsz v n xs hs hown ad m c news hx hl ?_ h1 h63 hbytes hbase (fun v' w' h1 h2 h3 => h v' w' h1 h2 hlt (fun e => (h3.1 e).1))
  intro j u hu
  obtain ⟨hj, rfl⟩ := List.getElem?_eq_some_iff.1 hu
  obtain ⟨b, off, hp, hc⟩ := hat j hj
  cases hp
  have hadd : (⟨b, off, none⟩ : Addr).add j = ⟨b, off + j, none⟩ := by unfold Addr.add; split <;> simp_all
  rw [hadd]; exact hc
 | none =>
  have hn : news = [] := by
   cases news with
   | nil => rfl
   | cons u r => obtain ⟨b, off, hp, _⟩ := hat 0 (by simp); cases hp
  subst hn
  have hm : m = 0 := by
   rcases Nat.eq_zero_or_pos m with h | h
   ·exact h
   ·have := Nat.mul_pos h hsz; simp at hl; omega
  subst hm
  obtain ⟨p', cap, hv, hnc, _, _⟩ := At.of_own hown
  have hr := run_append_none (P := P) w t o.type e i ht hi p' n cap hnc c
  unfold Oper.wp execOp
  simp only [ho, resolve, invoke, builtin, Sem.run_bind, Sem.run_pure, Result.andThen_ok, List.map_toArray, List.map_cons, List.map_nil, hs, hx, hv, hr]
  refine h _ _ ?_ ⟨rfl, rfl, rfl, Nat.le_refl _, fun _ _ _ => rfl⟩ hlt (fun e => hv.trans e)
  rw [← hv]
  simpa using hown
theorem appSNK {w : World} {o : Oper} {a : Act} {K : Act → World → Prop} {Q : Exit → Act → World → Prop} (s x : Operand)
  (ho : o.op = .call { callee := .builtin .append, args := #[s, x], argTypes := #[24, 24] }) (base : Nat) (v : Value) (xs : List ByteArray) (hs : a.eval s = v) (hown : OwnS w base v xs)
  (u : Value) (ys : List ByteArray) (hx : a.eval x = u) (hu : Strs w u ys) (hbase : base ≤ w.heap.size) (hlen : xs.length + ys.length ≤ 2147483648)
  (h : ∀ v' w', OwnS w' base v' (xs ++ ys) → w.grownBy w' v.ownBlock → (∀ k, v.ownBlock = some k → base ≤ k) → (v' = .slice none 0 0 → v = .slice none 0 0) → K (a.put o.dst v') w') : o.wp Tryz.prog a w K Q := by
 obtain ⟨i0, hi, hz0, hz1, hz2⟩ := info_parts infoS
 obtain ⟨p, cap, rfl, _, _, hat, _⟩ := hu.at
 refine wp_append_atN s x _ ho _ i0 _ 1 16 Tryz.underlying24 hi hz0 hz1 hz2 rfl (by decide) base v _ _ hs hown p _ cap _ hx (by simp [strCells]) hat (strCells_one _) (by unfold maxLen; omega) (by omega) hbase ?_
 intro v' w' h1 h2 h3 h4
 refine h v' w' ?_ h2 h3 h4
 unfold OwnS
 rw [List.length_append, show strCells (xs ++ ys) = strCells xs ++ strCells ys by simp [strCells]]
 exact h1
theorem appSN {w : World} {ops : Array Oper} {rest : List Oper} {o : Oper} {a : Act} {Q : Exit → Act → World → Prop} (hgd : o.guard = none) (s x : Operand)
  (ho : o.op = .call { callee := .builtin .append, args := #[s, x], argTypes := #[24, 24] }) (base : Nat) (v : Value) (xs : List ByteArray) (hs : a.eval s = v) (hown : OwnS w base v xs)
  (u : Value) (ys : List ByteArray) (hx : a.eval x = u) (hu : Strs w u ys) (hbase : base ≤ w.heap.size) (hlen : xs.length + ys.length ≤ 2147483648)
  (h : ∀ v' w', OwnS w' base v' (xs ++ ys) → w.grownBy w' v.ownBlock → (∀ k, v.ownBlock = some k → base ≤ k) → (v' = .slice none 0 0 → v = .slice none 0 0) → wpList Tryz.prog ops Q rest (a.put o.dst v') w') : wpList Tryz.prog ops Q (o :: rest) a w :=
 wpList_plain hgd fun _ hK => appSNK s x ho base v xs hs hown u ys hx hu hbase hlen fun v' w' h1 h2 h3 h4 => hK _ _ (h v' w' h1 h2 h3 h4)
theorem OwnS.blk {w : World} {B : Nat} {v : Value} {a : List ByteArray} (h : OwnS w B v a) (hn : v ≠ .slice none 0 0) : ∃ g cap, v = .slice (some ⟨g, 0, none⟩) a.length cap := by
 obtain ⟨_, ⟨e, _⟩ | ⟨g, cap, cur, rfl, _⟩⟩ := h
 ·exact absurd e hn
 ·exact ⟨g, cap, rfl⟩
theorem sizeOfS (w : World) : (sizeOf 9).run Tryz.prog w = .ok 1 w := by
 obtain ⟨i0, hi, hz0, hz1, hz2⟩ := info_parts infoS
 simp [sizeOf, typeInfo, hi, hz1]
theorem tailS (b off m cap l : Nat) (i : Int) (hi : i = l) (hl : l ≤ m) (hc : m ≤ cap) :
  ∃ q, (∀ (w : World) (vs : List Value), At w (some ⟨b, off, none⟩) vs → vs.length = m → At w q (vs.drop l)) ∧
   ∀ wx, (Instr.slice 24 (.slice (some ⟨b, off, none⟩) m cap) (some (.int .i64 i)) none none).run Tryz.prog wx = .ok (.slice q (m - l) (cap - l)) wx := by
 subst hi
 have hT : Tryz.prog.underlying 24 = some (.slice (Tryz.prog.elem 24)) := by kernel_rfl
 have hE : Tryz.prog.elem 24 = 9 := by kernel_rfl
 refine ⟨if cap = l then some ⟨b, off, none⟩ else some ⟨b, off + l, none⟩, fun w vs h hvl => ?_, fun wx => ?_⟩
 ·split
  ·rename_i e
   have : vs.drop l = [] := List.drop_eq_nil_of_le (by omega)
   rw [this]
   exact At.nil _ _
  ·exact h.drop l rfl
 ·rw [run_slice_l (P := Tryz.prog) wx 24 (some ⟨b, off, none⟩) m cap hT .i64 (l : Int) (by omega) (by omega), hE, sizeOfS]
  simp only [Result.andThen_ok, sliced, Int.toNat_natCast, Nat.mul_one, Option.map_some]
  have hadd : (⟨b, off, none⟩ : Addr).add l = ⟨b, off + l, none⟩ := by unfold Addr.add; split <;> simp_all
  rw [hadd]
theorem At.takeN {w : World} {p : Option Addr} {vs : List Value} (h : At w p vs) (k : Nat) : At w p (vs.take k) := fun j hj => by
 simp at hj
 obtain ⟨b, off, hp, hc⟩ := h j (by omega)
 exact ⟨b, off, hp, by simpa using hc⟩
theorem strs_of {w : World} {p : Option Addr} {k cap : Nat} {a : List ByteArray} (h1 : k = a.length) (h2 : cap ≤ maxLen) (h : At w p (strCells a)) (h3 : a.length ≤ 2147483648 ∧ a.length ≤ cap) : Strs w (.slice p k cap) a := by
 subst h1
 exact Strs.ofAt h3.2 h2 h h3.1
theorem at_take {w : World} {p : Option Addr} {a : List ByteArray} (h : At w p (strCells a)) (k : Nat) : At w p (strCells (a.take k)) := by
 have := At.takeN h k
 rwa [show (strCells a).take k = strCells (a.take k) by simp [strCells, List.map_take]] at this
theorem at_drop {w : World} {p : Option Addr} {a : List ByteArray} {k : Nat} (h : At w p ((strCells a).drop k)) : At w p (strCells (a.drop k)) := by
 rwa [show (strCells a).drop k = strCells (a.drop k) by simp [strCells, List.map_drop]] at h
theorem own_some {w : World} {B : Nat} {v : Value} {a : List ByteArray} (h : OwnS w B v a) (hp : 0 < a.length) : ∃ g cap, v = .slice (some ⟨g, 0, none⟩) a.length cap := by
 rcases h.2 with ⟨_, e⟩ | ⟨g, c, _, e, _⟩
 ·omega
 ·exact ⟨g, c, e⟩
end Go.Proofs.YtkkcfifnkcnceaaGreat
