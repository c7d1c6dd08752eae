import Derived.Test.YtfmmajgkjkmghaaGreatEVB
import Derived.Lib.SliceRun
import Derived.Test.YtfmmajgkjkmghaaGreatEW7
import Derived.Test.YtfmmajgkjkmghaaGreatEP3
import Derived.BigQuiet
import Derived.Test.YtfmmajgkjkmghaaGreatEP6
/- DeleteFunc at []string. -/
namespace Go.Proofs.YtfmmajgkjkmghaaGreat
open Go.RowKit
theorem OwnS.store {w : World} {B : Nat} {g cap : Nat} {a : List ByteArray} (h : OwnS w B (.slice (some ⟨g, 0, none⟩) a.length cap) a) (i : Nat) (x : ByteArray) :
  OwnS (w.setCell ⟨g, i, none⟩ (.string x)) B (.slice (some ⟨g, 0, none⟩) a.length cap) (a.set i x) ∧ w.grownBy (w.setCell ⟨g, i, none⟩ (.string x)) (some g) := by
 have h' : w.ownsRow B 9 1 (.slice (some ⟨g, 0, none⟩) a.length cap) a.length (strCells a) := h
 have := h'.stored i (.string x)
 refine ⟨?_, this.2⟩
 unfold OwnS
 rw [List.length_set, show strCells (a.set i x) = (strCells a).set i (.string x) by simp [strCells, List.map_set]]
 exact this.1
theorem bts_toList (s : ByteArray) : s.toList = bts s := ByteArray.toList_eq s
theorem beq_bts (s t : ByteArray) : (s.toList == t.toList) = decide (bts s = bts t) := by rw [bts_toList, bts_toList, Bool.eq_iff_iff]; simp
theorem OwnS.cut {w : World} {B g cap : Nat} {a : List ByteArray} (h : OwnS w B (.slice (some ⟨g, 0, none⟩) a.length cap) a) (k : Nat) (hk : k ≤ a.length) : OwnS w B (.slice (some ⟨g, 0, none⟩) k cap) (a.take k) := by
 obtain ⟨hl, h | ⟨g', cap', cur, hv, hb, hg, hnc, hcm, hcs, ht⟩⟩ := h
 ·cases h.1
 cases hv
 have e : (a.take k).length = k := by simp; omega
 unfold OwnS
 rw [e]
 refine ⟨by simp [strCells]; omega, .inr ⟨g, cap, cur, rfl, hb, hg, by omega, hcm, hcs, ?_⟩⟩
 rw [show strCells (a.take k) = (strCells a).take k by simp [strCells, List.map_take], ← ht, List.take_take, Nat.min_eq_left (by omega), Nat.mul_one]
theorem OwnS.zeroed {B g cap : Nat} (x : ByteArray) : ∀ (m o : Nat) (w : World) (a : List ByteArray), OwnS w B (.slice (some ⟨g, 0, none⟩) a.length cap) a →
  ∃ a' : List ByteArray, a'.length = a.length ∧ a'.take o = a.take o ∧ OwnS (w.setCells g o (List.replicate m (.string x))) B (.slice (some ⟨g, 0, none⟩) a.length cap) a' ∧ w.grownBy (w.setCells g o (List.replicate m (.string x))) (some g)
 | 0, o, w, a, h => ⟨a, rfl, rfl, h, World.grownBy.refl _ _⟩
 | m + 1, o, w, a, h => by
  have h1 := h.store o x
  obtain ⟨a', h2, h3, h4, h5⟩ := OwnS.zeroed x m (o + 1) _ (a.set o x) (by rw [List.length_set]; exact h1.1)
  rw [List.length_set] at h2 h4
  refine ⟨a', h2, ?_, h4, grown_trans h1.2 h5⟩
  have h6 := congrArg (List.take o) h3
  rw [List.take_take, List.take_take, Nat.min_eq_left (by omega)] at h6
  rw [h6]
  apply List.ext_getElem?
  intro i
  by_cases hi : i < o
  ·simp [hi, Nat.ne_of_gt hi]
  ·simp [List.getElem?_take, hi]
theorem idxOf_case {α : Type} (pr : α → Bool) : ∀ (l : List α) (k : Nat), (idxOf pr l k = -1 ∧ ∀ x ∈ l, pr x = false) ∨ ∃ (j : Nat) (h : j < l.length), idxOf pr l k = ((k + j : Nat) : Int) ∧ pr l[j] = true ∧ ∀ x ∈ l.take j, pr x = false
 | [], k => .inl ⟨rfl, by simp⟩
 | x :: l, k => by
  cases hx : pr x
  ·rcases idxOf_case pr l (k + 1) with ⟨h1, h2⟩ | ⟨j, hj, h1, h2, h3⟩
   ·exact .inl ⟨by simp [idxOf, hx, h1], by intro y hy; rcases List.mem_cons.1 hy with rfl | hy; exact hx; exact h2 y hy⟩
   ·refine .inr ⟨j + 1, by simp; omega, by simp [idxOf, hx, h1]; omega, by simpa using h2, ?_⟩
    intro y hy
    rw [List.take_succ_cons] at hy
    rcases List.mem_cons.1 hy with rfl | hy
    ·exact hx
    ·exact h3 y hy
  ·exact .inr ⟨0, by simp, by simp [idxOf, hx], by simpa using hx, by simp⟩
def kept (pr : ByteArray → Bool) (a : List ByteArray) (k : Nat) : List ByteArray := (a.take k).filter fun x => !pr x
theorem kept_succ (pr : ByteArray → Bool) (a : List ByteArray) (k : Nat) (h : k < a.length) : kept pr a (k + 1) = kept pr a k ++ if pr a[k] then [] else [a[k]] := by
 unfold kept
 rw [List.take_succ_eq_append_getElem h, List.filter_append]
 cases h2 : pr a[k] <;> simp [h2]
theorem kept_le (pr : ByteArray → Bool) (a : List ByteArray) (k : Nat) : (kept pr a k).length ≤ k := by
 unfold kept
 exact Nat.le_trans (List.length_filter_le _ _) (by simp; omega)
theorem kept_all (pr : ByteArray → Bool) (a : List ByteArray) : kept pr a a.length = a.filter fun x => !pr x := by unfold kept; rw [List.take_length]
theorem kept_start (pr : ByteArray → Bool) (a : List ByteArray) (j : Nat) (h : ∀ x ∈ a.take j, pr x = false) : kept pr a j = a.take j := by
 unfold kept
 exact List.filter_eq_self.2 fun x hx => by simp [h x hx]
def delRow (pr : ByteArray → Bool) (a : List ByteArray) (k : Nat) : List ByteArray := kept pr a k ++ a.drop (kept pr a k).length
theorem delRow_length (pr : ByteArray → Bool) (a : List ByteArray) (k : Nat) (h : k ≤ a.length) : (delRow pr a k).length = a.length := by
 have := kept_le pr a k
 simp [delRow]; omega
theorem delRow_get (pr : ByteArray → Bool) (a : List ByteArray) (k : Nat) (h : k < a.length) : (delRow pr a k)[k]? = some a[k] := by
 have := kept_le pr a k
 unfold delRow
 rw [List.getElem?_append_right this, List.getElem?_drop, show (kept pr a k).length + (k - (kept pr a k).length) = k by omega, List.getElem?_eq_getElem h]
theorem delRow_set (pr : ByteArray → Bool) (a : List ByteArray) (k : Nat) (h : k < a.length) (hp : pr a[k] = false) : (delRow pr a k).set (kept pr a k).length a[k] = delRow pr a (k + 1) := by
 have h1 := kept_le pr a k
 have h2 := kept_succ pr a k h
 rw [hp] at h2
 unfold delRow
 rw [h2]
 simp only [Bool.false_eq_true, if_false, List.length_append, List.length_cons, List.length_nil]
 rw [List.set_append_right _ _ (Nat.le_refl _), Nat.sub_self, List.append_assoc]
 rw [List.drop_eq_getElem_cons (show (kept pr a k).length < a.length by omega)]
 simp only [List.set_cons_zero, List.cons_append, List.nil_append]
theorem delRow_skip (pr : ByteArray → Bool) (a : List ByteArray) (k : Nat) (h : k < a.length) (hp : pr a[k] = true) : delRow pr a (k + 1) = delRow pr a k ∧ kept pr a (k + 1) = kept pr a k := by
 have h2 := kept_succ pr a k h
 rw [hp] at h2
 simp only [if_true, List.append_nil] at h2
 exact ⟨by unfold delRow; rw [h2], h2⟩
theorem OwnS.cellAt {w : World} {B g cap : Nat} {a : List ByteArray} (h : OwnS w B (.slice (some ⟨g, 0, none⟩) a.length cap) a) {i : Nat} {x : ByteArray} (hx : a[i]? = some x) : w.cell? ⟨g, i, none⟩ = some (.string x) ∧ w.frozen? ⟨g, i, none⟩ = false := by
 have hi : i < a.length := by
  rcases Nat.lt_or_ge i a.length with h | h
  ·exact h
  ·rw [List.getElem?_eq_none h] at hx; cases hx
 exact ⟨by rw [World.ownsRow.cellAt h i (by omega)]; simp [strCells, hx], World.ownsRow.frozenAt h i⟩
set_option maxRecDepth 20000 in
set_option maxHeartbeats 2000000 in
theorem deleteFuncSK (pr : ByteArray → Bool) (f : FuncId) (cp : Array Value) (a : List ByteArray) (g cap : Nat) (w0 w : World) (hown : OwnS w w0.heap.size (.slice (some ⟨g, 0, none⟩) a.length cap) a) (kw0 : Keeps w0 w) (hl : a.length ≤ 1000000000) (hcf : Enters f)
  (hf : ∀ x w1, x ∈ a → Keeps w0 w1 → Calls Tryz.prog f (#[.string x] ++ cp) w1 fun e w2 => e = .returned (.bool (pr x)) ∧ Keeps w1 w2) :
  Calls Tryz.prog 266 #[.slice (some ⟨g, 0, none⟩) a.length cap, .func (.func f) #[] cp] w fun e w' => ∃ v', e = .returned v' ∧ OwnS w' w0.heap.size v' (a.filter fun x => !pr x) ∧ Keeps w0 w' := by
 have hI := indexFuncS pr f cp a _ w (hown.strs (by omega)) hcf (fun x w1 hx k => hf x w1 hx (kw0.trans k))
 obtain ⟨_, _, hge, hncap, hcm, _⟩ : ∃ q c, w0.heap.size ≤ g ∧ a.length ≤ cap ∧ cap ≤ maxLen ∧ q = c := by
  obtain ⟨p, c, e, h1, h2, _⟩ := At.of_own hown
  cases e
  exact ⟨0, 0, (OwnS.len hown g rfl).1, h1, h2, rfl⟩
 unfold maxLen at hcm
 have HI := hid hI; clear hI
 have HF := hid hf; clear hf
 have HO := hid hown; clear hown
 have HK := hid kw0; clear kw0
 have hcf' : ∀ args w, (callFunc f args).run Tryz.prog w = .ok (.enter f args) w := hcf
 clear hcf
 rcases idxOf_case pr a 0 with ⟨hi, hall⟩ | ⟨j0, hj0, hi, hp0, hbef⟩
 ·rw [hi] at HI
  have hfil : (a.filter fun x => !pr x) = a := List.filter_eq_self.2 fun x hx => by simp [hall x hx]
  rw [hfil]
  clear hall hfil hi
  go_enter Tryz.func266, Tryz.ntmps266
  go_wp2_with fail
  refine HI.out.mono ?_; rintro e w1 ⟨rfl, k1⟩
  go_wp2_with fail
  go_ret
  exact ⟨_, rfl, HO.out.keeps k1, HK.out.trans k1⟩
 ·rw [show ((0 + j0 : Nat) : Int) = (j0 : Int) by omega] at hi
  rw [hi] at HI
  have hs1 : kept pr a (j0 + 1) = a.take j0 := by
   rw [kept_succ pr a j0 hj0, hp0, kept_start pr a j0 hbef]; simp
  have hs2 : delRow pr a (j0 + 1) = a := by
   unfold delRow; rw [hs1]; simp [Nat.min_eq_left (Nat.le_of_lt hj0)]
  have hs3 : (kept pr a (j0 + 1)).length = j0 := by rw [hs1]; simp; omega
  have HS := hid (And.intro hs2 hs3); clear hs1 hs2 hs3 hbef hp0 hi
  have hneq : ((j0 : Int) == -1) = false := by simp
  go_enter Tryz.func266, Tryz.ntmps266
  go_wp2_with fail
  refine HI.out.mono ?_; rintro e w1 ⟨rfl, k1⟩
  go_wp2_with fail
  go_loopw [5, 6] (fun iv jv wr => ∃ k n : Nat, k ≤ a.length ∧ n < k ∧ n = (kept pr a k).length ∧ iv = .int .i64 n ∧ jv = .int .i64 k ∧ OwnS wr w0.heap.size (.slice (some ⟨g, 0, none⟩) a.length cap) (delRow pr a k) ∧ Keeps w0 wr) (fun _ jv _ => a.length - (intOf jv).toNat)
  case atStart => exact ⟨j0 + 1, j0, by omega, by omega, HS.out.2.symm, rfl, by go_num, by rw [HS.out.1]; exact HO.out.keeps k1, HK.out.trans k1⟩
  case round =>
   obtain ⟨k, n, hk, hnk, hn, rfl, rfl, hrow, kw⟩ := hrel
   have HN := hid hn; clear hn
   by_cases hlt : k < a.length
   ·have hlt' : (k : Int) < a.length := by omega
    have hc := OwnS.cellAt (a := delRow pr a k) (by rw [delRow_length pr a k hk]; exact hrow) (delRow_get pr a k hlt)
    obtain ⟨xo, hxo⟩ : ∃ xo, (delRow pr a k)[n]? = some xo := ⟨_, List.getElem?_eq_getElem (by rw [delRow_length pr a k hk]; omega)⟩
    have hd := OwnS.cellAt (a := delRow pr a k) (by rw [delRow_length pr a k hk]; exact hrow) hxo
    obtain ⟨hc1, hc2⟩ := hc
    obtain ⟨hd1, hd2⟩ := hd
    have HR := hid hrow; clear hrow
    have hq := hid (delRow_set pr a k hlt)
    have hq2 := hid (delRow_skip pr a k hlt)
    have hq3 := hid (kept_succ pr a k hlt)
    cases hp : pr a[k]
    all_goals
     have Hp := hid hp; clear hp
     go_wp2_with ((with_reducible refine (HF.out a[k] wr (List.getElem_mem hlt) kw).mono ?_); rintro e w2 ⟨rfl, k2⟩; replace hd1 := k2.cell hd1; replace hd2 := (k2.both.2 g n (by first | exact (OwnS.len HR.out g rfl).2 | omega)).trans hd2; replace HR := hid (HR.out.keeps k2); replace kw := kw.trans k2; rw [Hp.out])
    ·go_roundw
     case rel =>
      refine ⟨k + 1, n + 1, by omega, by omega, ?_, by go_num, by go_num, ?_, ?_⟩
      ·rw [hq3.out, Hp.out, HN.out]; simp
      ·have := OwnS.store (a := delRow pr a k) (by rw [delRow_length pr a k hk]; exact HR.out) n a[k]
       rw [delRow_length pr a k hk] at this
       have h2 := this.1
       rw [HN.out, hq.out Hp.out, ← HN.out] at h2
       exact h2
      ·have := OwnS.store (a := delRow pr a k) (by rw [delRow_length pr a k hk]; exact HR.out) n a[k]
       exact kw.grown this.2 (by rintro _ ⟨⟩; exact hge)
     case measure => simp [intOf]; omega
    ·go_roundw
     case rel => exact ⟨k + 1, n, by omega, by omega, by rw [(hq2.out Hp.out).2]; exact HN.out, rfl, by go_num, by rw [(hq2.out Hp.out).1]; exact HR.out, kw⟩
     case measure => simp [intOf]; omega
   ·obtain rfl : k = a.length := by omega
    have hlt' : ¬ (a.length : Int) < a.length := by omega
    have hz := OwnS.zeroed (a := delRow pr a a.length) ⟨#[]⟩ (a.length - n) n wr (by rw [delRow_length pr a _ hk]; exact hrow)
    have hcell : ∀ j, j < a.length → ∃ x, (delRow pr a a.length)[j]? = some x := fun j hj => ⟨_, List.getElem?_eq_getElem (by rw [delRow_length pr a _ hk]; exact hj)⟩
    have hcl : ∀ ty, (Builtin.clear_ #[120] ty #[.slice (some ⟨g, n, none⟩) (a.length - n) (cap - n)]).run Tryz.prog wr = .ok (.tuple #[]) (wr.setCells g n (List.replicate (a.length - n) (.string ⟨#[]⟩))) :=
     fun ty => Lib.run_clear_slice wr _ _ ty _ Tryz.underlying120 (fun _ => Tryz.zeroValue9 _) rfl rfl g n _ _ (by omega)
      (fun j hj => by
       obtain ⟨x, hx⟩ := hcell (n + j) (by omega)
       rw [(OwnS.cellAt (a := delRow pr a a.length) (by rw [delRow_length pr a _ hk]; exact hrow) hx).1]; rfl)
      (fun j hj => by
       obtain ⟨x, hx⟩ := hcell (n + j) (by omega)
       rw [(OwnS.cellAt (a := delRow pr a a.length) (by rw [delRow_length pr a _ hk]; exact hrow) hx).2])
    have HZ := hid hz; clear hz hcell hrow
    go_wp2
    go_ret
    obtain ⟨a', h1, h2, h3, h4⟩ := HZ.out
    rw [delRow_length pr a _ hk] at h1 h3
    refine ⟨_, rfl, ?_, ?_⟩
    ·have hfin : a'.take n = a.filter fun x => !pr x := by
      rw [h2, ← kept_all, HN.out]
      unfold delRow
      rw [List.take_left]
     rw [← hfin]
     have := OwnS.cut (a := a') (by rw [h1]; exact h3) n (by omega)
     simpa using this
    ·have := kw.grown h4 (by rintro _ ⟨⟩; exact hge)
     simpa using this
theorem deleteFuncS (pr : ByteArray → Bool) (f : FuncId) (cp : Array Value) (a : List ByteArray) (g cap : Nat) (w0 w : World) (hown : OwnS w w0.heap.size (.slice (some ⟨g, 0, none⟩) a.length cap) a) (kw0 : Keeps w0 w) (hl : a.length ≤ 1000000000) (hcf : Enters f)
  (hf : ∀ x w1, Keeps w0 w1 → Calls Tryz.prog f (#[.string x] ++ cp) w1 fun e w2 => e = .returned (.bool (pr x)) ∧ w1 = w2) :
  Calls Tryz.prog 266 #[.slice (some ⟨g, 0, none⟩) a.length cap, .func (.func f) #[] cp] w fun e w' => ∃ v', e = .returned v' ∧ OwnS w' w0.heap.size v' (a.filter fun x => !pr x) ∧ Keeps w0 w' :=
 deleteFuncSK pr f cp a g cap w0 w hown kw0 hl hcf (fun x w1 _ k => (hf x w1 k).mono (by rintro e w2 ⟨rfl, rfl⟩; exact ⟨rfl, Keeps.refl _⟩))
end Go.Proofs.YtfmmajgkjkmghaaGreat
namespace Go.Proofs.YtfmmajgkjkmghaaGreat
open Go.RowKit
theorem drop_1_any (s t : ByteArray) (b : Nat) (w : World) (hc : w.cell? ⟨b, 0, none⟩ = some (.string t)) :
  Calls Tryz.prog 268 #[.string s, .pointer (some ⟨b, 0, none⟩)] w fun e w' => e = .returned (.bool (s.toList == t.toList)) ∧ w = w' := by
 go_enter Tryz.func268, Tryz.ntmps268
 go_wp2
 go_ret
 exact ⟨rfl, rfl⟩
end Go.Proofs.YtfmmajgkjkmghaaGreat
namespace Go.Proofs.YtfmmajgkjkmghaaGreat
open Go.RowKit
theorem bts_append (s t : ByteArray) : bts (s ++ t) = bts s ++ bts t := by simp [bts]
theorem isNeg_imp (a b : Fm) : (Fm.imp a b).isNeg = b.isFls := by cases b <;> rfl
theorem lev_imp (a b : Fm) : (Fm.imp a b).lev = if b.isFls then 3 else 0 := rfl
theorem levelOf_any (t : Fm) (v : Value) (w : World) (hv : Nds w v t.enc) :
  Calls Tryz.prog 190 #[v] w fun e w' => e = .returned (.int .i64 t.lev) ∧ w = w' := by
 have hv0 := hv
 obtain ⟨b, off, n, cap, rfl, h0, h1, h2, h3, hc, _⟩ := hv.root
 cases t with
 | imp x y =>
  replace hc : w.cell? ⟨b, off, none⟩ = some (.int .i64 4) := hc
  have hn := isNegation_any (.imp x y) _ _ hv0
  rw [isNeg_imp] at hn
  rw [lev_imp]
  cases hf : y.isFls
  ·rw [hf] at hn
   have HN := hid hn; clear hn
   go_enter Tryz.func190, Tryz.ntmps190
   go_wp2_with (go_at_call 156; refine HN.out.mono ?_; rintro e w' ⟨rfl, rfl⟩)
   go_ret
   exact ⟨rfl, rfl⟩
  ·rw [hf] at hn
   have HN := hid hn; clear hn
   go_enter Tryz.func190, Tryz.ntmps190
   go_wp2_with (go_at_call 156; refine HN.out.mono ?_; rintro e w' ⟨rfl, rfl⟩)
   go_ret
   exact ⟨rfl, rfl⟩
 | var _ => 
  replace hc : w.cell? ⟨b, off, none⟩ = some (.int .i64 0) := hc
  go_enter Tryz.func190, Tryz.ntmps190
  go_wp2
  go_ret
  exact ⟨rfl, rfl⟩
 | fls =>
  replace hc : w.cell? ⟨b, off, none⟩ = some (.int .i64 1) := hc
  go_enter Tryz.func190, Tryz.ntmps190
  go_wp2
  go_ret
  exact ⟨rfl, rfl⟩
 | and _ _ =>
  replace hc : w.cell? ⟨b, off, none⟩ = some (.int .i64 2) := hc
  go_enter Tryz.func190, Tryz.ntmps190
  go_wp2
  go_ret
  exact ⟨rfl, rfl⟩
 | or _ _ =>
  replace hc : w.cell? ⟨b, off, none⟩ = some (.int .i64 3) := hc
  go_enter Tryz.func190, Tryz.ntmps190
  go_wp2
  go_ret
  exact ⟨rfl, rfl⟩
 | box _ =>
  replace hc : w.cell? ⟨b, off, none⟩ = some (.int .i64 5) := hc
  go_enter Tryz.func190, Tryz.ntmps190
  go_wp2
  go_ret
  exact ⟨rfl, rfl⟩
 | dia _ =>
  replace hc : w.cell? ⟨b, off, none⟩ = some (.int .i64 6) := hc
  go_enter Tryz.func190, Tryz.ntmps190
  go_wp2
  go_ret
  exact ⟨rfl, rfl⟩
end Go.Proofs.YtfmmajgkjkmghaaGreat
namespace Go.Proofs.YtfmmajgkjkmghaaGreat
open Go.RowKit
theorem bts_len (s : ByteArray) : (bts s).length = s.size := rfl
theorem txt_size {t : Fm} {l : Nat} {s : ByteArray} (h : bts s = t.txt l) (hl : t.enc.length ≤ 100000000) : s.size ≤ 600000000 := by
 have h1 := par_len (decide (t.lev < l)) t.body
 have h2 := body_len t
 rw [← bts_len, h]
 unfold Fm.txt
 omega
def TxtOk (t : Fm) : Prop := t.enc.length ≤ 100000000 → ∀ (l : Nat) (k : Int), k = (l : Int) → ∀ (v : Value) (w : World), Nds w v t.enc →
 Calls Tryz.prog 153 #[v, .int .i64 k] w fun e w' => ∃ s, e = .returned (.string s) ∧ bts s = t.txt l ∧ Keeps w w'
def BodyOk (t : Fm) : Prop := t.enc.length ≤ 100000000 → ∀ (k : Int), ¬ ((t.lev : Int) < k) → ∀ (v : Value) (w : World), Nds w v t.enc →
 Calls Tryz.prog 153 #[v, .int .i64 k] w fun e w' => ∃ s, e = .returned (.string s) ∧ bts s = t.body ∧ Keeps w w'
theorem TxtOk.of {t : Fm} (h : BodyOk t) : TxtOk t := by
 intro hL l k hk v w hv
 by_cases hl : (t.lev : Int) < k
 ·have hb := hid (h hL 0 (by omega) v w hv)
  have hr : t.txt l = 40 :: (t.body ++ [41]) := by simp only [Fm.txt, Fm.par]; rw [decide_eq_true (by omega)]; rfl
  rw [hr]
  clear hr hk
  go_enter Tryz.func153, Tryz.ntmps153
  go_wp2_with fail
  refine (levelOf_any t _ _ hv).mono ?_; rintro e w' ⟨rfl, rfl⟩
  go_wp2_with fail
  refine hb.out.mono ?_; rintro e w1 ⟨s, rfl, hs, k1⟩
  have z1 := txt_size (l := 0) (by rw [Fm.txt0]; exact hs) hL
  go_wp2_with fail
  go_ret
  exact ⟨_, rfl, by simp only [bts_append, hs]; rfl, k1⟩
 ·have hr : t.txt l = t.body := by simp only [Fm.txt, Fm.par]; rw [decide_eq_false (by omega)]; rfl
  rw [hr]
  exact h hL k hl v w hv
theorem bodyAnd (x y : Fm) (hx : TxtOk x) (hy : TxtOk y) : BodyOk (.and x y) := by
 intro hL k hk v w hv
 simp only [Fm.enc, List.length_cons, List.length_append] at hL
 have hv0 := hv
 obtain ⟨b, off, n, cap, rfl, h0, h1, h2, h3, hc, _⟩ := hv.root
 replace hc : w.cell? ⟨b, off, none⟩ = some (.int .i64 2) := hc
 have HX := hid (hx (by omega)); clear hx
 have HY := hid (hy (by omega)); clear hy
 go_enter Tryz.func153, Tryz.ntmps153
 go_wp2_with fail
 refine (levelOf_any _ _ _ hv).mono ?_; rintro e w' ⟨rfl, rfl⟩
 go_wp2_with fail
 refine (first_any _ _ x y.enc _ _ hv0 rfl).mono ?_; rintro e w' ⟨v1, rfl, hv1, rfl⟩
 go_wp2_with fail
 refine (HX.out 2 _ rfl _ _ hv1).mono ?_; rintro e w1 ⟨s1, rfl, hs1, k1⟩
 have z1 := txt_size hs1 (by omega)
 go_wp2_with fail
 refine (second_any _ _ x y _ _ (hv0.keeps k1) rfl).mono ?_; rintro e w' ⟨v2, rfl, hv2, rfl⟩
 go_wp2_with fail
 refine (HY.out 3 _ rfl _ _ hv2).mono ?_; rintro e w2 ⟨s2, rfl, hs2, k2⟩
 have z2 := txt_size hs2 (by omega)
 go_wp2_with fail
 go_ret
 exact ⟨_, rfl, by simp only [bts_append, hs1, hs2, Fm.body, Fm.txt, List.append_assoc]; rfl, k1.trans k2⟩
theorem bodyOr (x y : Fm) (hx : TxtOk x) (hy : TxtOk y) : BodyOk (.or x y) := by
 intro hL k hk v w hv
 simp only [Fm.enc, List.length_cons, List.length_append] at hL
 have hv0 := hv
 obtain ⟨b, off, n, cap, rfl, h0, h1, h2, h3, hc, _⟩ := hv.root
 replace hc : w.cell? ⟨b, off, none⟩ = some (.int .i64 3) := hc
 have HX := hid (hx (by omega)); clear hx
 have HY := hid (hy (by omega)); clear hy
 go_enter Tryz.func153, Tryz.ntmps153
 go_wp2_with fail
 refine (levelOf_any _ _ _ hv).mono ?_; rintro e w' ⟨rfl, rfl⟩
 go_wp2_with fail
 refine (first_any _ _ x y.enc _ _ hv0 rfl).mono ?_; rintro e w' ⟨v1, rfl, hv1, rfl⟩
 go_wp2_with fail
 refine (HX.out 1 _ rfl _ _ hv1).mono ?_; rintro e w1 ⟨s1, rfl, hs1, k1⟩
 have z1 := txt_size hs1 (by omega)
 go_wp2_with fail
 refine (second_any _ _ x y _ _ (hv0.keeps k1) rfl).mono ?_; rintro e w' ⟨v2, rfl, hv2, rfl⟩
 go_wp2_with fail
 refine (HY.out 2 _ rfl _ _ hv2).mono ?_; rintro e w2 ⟨s2, rfl, hs2, k2⟩
 have z2 := txt_size hs2 (by omega)
 go_wp2_with fail
 go_ret
 exact ⟨_, rfl, by simp only [bts_append, hs1, hs2, Fm.body, Fm.txt, List.append_assoc]; rfl, k1.trans k2⟩
theorem bodyBox (x : Fm) (hx : TxtOk x) : BodyOk (.box x) := by
 intro hL k hk v w hv
 simp only [Fm.enc, List.length_cons] at hL
 have hv0 := hv
 obtain ⟨b, off, n, cap, rfl, h0, h1, h2, h3, hc, hsy⟩ := hv.root
 replace hc : w.cell? ⟨b, off, none⟩ = some (.int .i64 5) := hc
 have HX := hid (hx (by omega)); clear hx
 go_enter Tryz.func153, Tryz.ntmps153
 go_wp2_with fail
 refine (levelOf_any _ _ _ hv).mono ?_; rintro e w' ⟨rfl, rfl⟩
 go_wp2_with fail
 refine (first_any _ ⟨5, 0⟩ x [] _ _ hv0 (by simp [Fm.enc])).mono ?_; rintro e w' ⟨v1, rfl, hv1, rfl⟩
 go_wp2_with fail
 refine (HX.out 3 _ rfl _ _ hv1).mono ?_; rintro e w1 ⟨s1, rfl, hs1, k1⟩
 have z1 := txt_size hs1 (by omega)
 go_wp2_with fail
 go_ret
 exact ⟨_, rfl, by simp only [bts_append, hs1, Fm.body, Fm.txt]; rfl, k1⟩
theorem bodyDia (x : Fm) (hx : TxtOk x) : BodyOk (.dia x) := by
 intro hL k hk v w hv
 simp only [Fm.enc, List.length_cons] at hL
 have hv0 := hv
 obtain ⟨b, off, n, cap, rfl, h0, h1, h2, h3, hc, hsy⟩ := hv.root
 replace hc : w.cell? ⟨b, off, none⟩ = some (.int .i64 6) := hc
 have HX := hid (hx (by omega)); clear hx
 go_enter Tryz.func153, Tryz.ntmps153
 go_wp2_with fail
 refine (levelOf_any _ _ _ hv).mono ?_; rintro e w' ⟨rfl, rfl⟩
 go_wp2_with fail
 refine (first_any _ ⟨6, 0⟩ x [] _ _ hv0 (by simp [Fm.enc])).mono ?_; rintro e w' ⟨v1, rfl, hv1, rfl⟩
 go_wp2_with fail
 refine (HX.out 3 _ rfl _ _ hv1).mono ?_; rintro e w1 ⟨s1, rfl, hs1, k1⟩
 have z1 := txt_size hs1 (by omega)
 go_wp2_with fail
 go_ret
 exact ⟨_, rfl, by simp only [bts_append, hs1, Fm.body, Fm.txt]; rfl, k1⟩
theorem bodyFls : BodyOk .fls := by
 intro hL k hk v w hv
 simp only [Fm.enc, List.length_cons] at hL
 have hv0 := hv
 obtain ⟨b, off, n, cap, rfl, h0, h1, h2, h3, hc, hsy⟩ := hv.root
 replace hc : w.cell? ⟨b, off, none⟩ = some (.int .i64 1) := hc
 go_enter Tryz.func153, Tryz.ntmps153
 go_wp2_with fail
 refine (levelOf_any _ _ _ hv).mono ?_; rintro e w' ⟨rfl, rfl⟩
 go_wp2_with fail
 go_ret
 exact ⟨_, rfl, rfl, Keeps.refl _⟩
theorem bodyImp (x y : Fm) (hf : y.isFls = false) (hx : TxtOk x) (hy : TxtOk y) : BodyOk (.imp x y) := by
 intro hL k hk v w hv
 simp only [Fm.enc, List.length_cons, List.length_append] at hL
 have hv0 := hv
 obtain ⟨b, off, n, cap, rfl, h0, h1, h2, h3, hc, hsy⟩ := hv.root
 replace hc : w.cell? ⟨b, off, none⟩ = some (.int .i64 4) := hc
 have HX := hid (hx (by omega)); clear hx
 have HY := hid (hy (by omega)); clear hy
 have hB : (Fm.imp x y).body = x.txt 1 ++ 62 :: y.body := by simp [Fm.body, Fm.txt, hf]
 have hn := isNegation_any (.imp x y) _ _ hv0
 rw [isNeg_imp, hf] at hn
 have HN := hid hn; clear hn
 have HB := hid hB; clear hB hf
 go_enter Tryz.func153, Tryz.ntmps153
 go_wp2_with fail
 refine (levelOf_any _ _ _ hv).mono ?_; rintro e w' ⟨rfl, rfl⟩
 go_wp2_with fail
 refine HN.out.mono ?_; rintro e w' ⟨rfl, rfl⟩
 go_wp2_with fail
 refine (first_any _ _ x y.enc _ _ hv0 rfl).mono ?_; rintro e w' ⟨v1, rfl, hv1, rfl⟩
 go_wp2_with fail
 refine (HX.out 1 _ rfl _ _ hv1).mono ?_; rintro e w1 ⟨s1, rfl, hs1, k1⟩
 have z1 := txt_size hs1 (by omega)
 go_wp2_with fail
 refine (second_any _ _ x y _ _ (hv0.keeps k1) rfl).mono ?_; rintro e w' ⟨v2, rfl, hv2, rfl⟩
 go_wp2_with fail
 refine (HY.out 0 _ rfl _ _ hv2).mono ?_; rintro e w2 ⟨s2, rfl, hs2, k2⟩
 have z2 := txt_size hs2 (by omega)
 go_wp2_with fail
 go_ret
 exact ⟨_, rfl, by rw [HB.out]; simp only [bts_append, hs1, hs2, Fm.txt0, List.append_assoc]; rfl, k1.trans k2⟩
theorem bodyTop (x y : Fm) (hf : y.isFls = true) (hx1 : x.isFls = true) : BodyOk (.imp x y) := by
 intro hL k hk v w hv
 simp only [Fm.enc, List.length_cons, List.length_append] at hL
 have hv0 := hv
 obtain ⟨b, off, n, cap, rfl, h0, h1, h2, h3, hc, hsy⟩ := hv.root
 replace hc : w.cell? ⟨b, off, none⟩ = some (.int .i64 4) := hc
 have hB : (Fm.imp x y).body = [84] := by simp [Fm.body, hf, hx1]
 have hn := isNegation_any (.imp x y) _ _ hv0
 rw [isNeg_imp, hf] at hn
 have HN := hid hn; clear hn
 have HB := hid hB; clear hB hf
 have HX1 := hid hx1; clear hx1
 go_enter Tryz.func153, Tryz.ntmps153
 go_wp2_with fail
 refine (levelOf_any _ _ _ hv).mono ?_; rintro e w' ⟨rfl, rfl⟩
 go_wp2_with fail
 refine HN.out.mono ?_; rintro e w' ⟨rfl, rfl⟩
 go_wp2_with fail
 refine (first_any _ _ x y.enc _ _ hv0 rfl).mono ?_; rintro e w' ⟨v1, rfl, hv1, rfl⟩
 go_wp2_with fail
 refine (isFalsum_any x _ _ hv1).mono ?_; rintro e w' ⟨rfl, rfl⟩; rw [HX1.out]
 go_wp2_with fail
 go_ret
 exact ⟨_, rfl, by rw [HB.out]; rfl, Keeps.refl _⟩
theorem bodyNeg (x y : Fm) (hf : y.isFls = true) (hx1 : x.isFls = false) (hx : TxtOk x) : BodyOk (.imp x y) := by
 intro hL k hk v w hv
 simp only [Fm.enc, List.length_cons, List.length_append] at hL
 have hv0 := hv
 obtain ⟨b, off, n, cap, rfl, h0, h1, h2, h3, hc, hsy⟩ := hv.root
 replace hc : w.cell? ⟨b, off, none⟩ = some (.int .i64 4) := hc
 have HX := hid (hx (by omega)); clear hx
 have hB : (Fm.imp x y).body = 126 :: x.txt 3 := by simp [Fm.body, Fm.txt, hf, hx1]
 have hn := isNegation_any (.imp x y) _ _ hv0
 rw [isNeg_imp, hf] at hn
 have HN := hid hn; clear hn
 have HB := hid hB; clear hB hf
 have HX1 := hid hx1; clear hx1
 go_enter Tryz.func153, Tryz.ntmps153
 go_wp2_with fail
 refine (levelOf_any _ _ _ hv).mono ?_; rintro e w' ⟨rfl, rfl⟩
 go_wp2_with fail
 refine HN.out.mono ?_; rintro e w' ⟨rfl, rfl⟩
 go_wp2_with fail
 refine (first_any _ _ x y.enc _ _ hv0 rfl).mono ?_; rintro e w' ⟨v1, rfl, hv1, rfl⟩
 go_wp2_with fail
 refine (isFalsum_any x _ _ hv1).mono ?_; rintro e w' ⟨rfl, rfl⟩; rw [HX1.out]
 go_wp2_with fail
 refine (first_any _ _ x y.enc _ _ hv0 rfl).mono ?_; rintro e w' ⟨v2, rfl, hv2, rfl⟩
 go_wp2_with fail
 refine (HX.out 3 _ rfl _ _ hv2).mono ?_; rintro e w1 ⟨s1, rfl, hs1, k1⟩
 have z1 := txt_size hs1 (by omega)
 go_wp2_with fail
 go_ret
 exact ⟨_, rfl, by rw [HB.out]; simp only [bts_append, hs1]; rfl, k1⟩
theorem bodyVar (i : Nat) (hi : i < 6) : BodyOk (.var i) := by
 intro hL k hk v w hv
 simp only [Fm.enc, List.length_cons] at hL
 have hv0 := hv
 obtain ⟨b, off, n, cap, rfl, h0, h1, h2, h3, hc, hsy⟩ := hv.root
 replace hc : w.cell? ⟨b, off, none⟩ = some (.int .i64 0) := hc
 replace hsy : w.cell? ⟨b, off + 1, none⟩ = some (.int .i64 (i : Int)) := hsy
 have hcase : i = 0 ∨ i = 1 ∨ i = 2 ∨ i = 3 ∨ i = 4 ∨ i = 5 := by omega
 rcases hcase with rfl | rfl | rfl | rfl | rfl | rfl
 ·replace hsy : w.cell? ⟨b, off + 1, none⟩ = some (.int .i64 0) := hsy
  go_enter Tryz.func153, Tryz.ntmps153
  go_wp2_with fail
  refine (levelOf_any _ _ _ hv).mono ?_; rintro e w' ⟨rfl, rfl⟩
  go_wp2_with fail
  go_quiet (fail)
  go_wp2_with fail
  go_ret
  refine ⟨_, rfl, ?_, ?_⟩
  ·decide
  ·exact Keeps.drewN (Keeps.refl _) _
 ·replace hsy : w.cell? ⟨b, off + 1, none⟩ = some (.int .i64 1) := hsy
  go_enter Tryz.func153, Tryz.ntmps153
  go_wp2_with fail
  refine (levelOf_any _ _ _ hv).mono ?_; rintro e w' ⟨rfl, rfl⟩
  go_wp2_with fail
  go_quiet (fail)
  go_wp2_with fail
  go_ret
  refine ⟨_, rfl, ?_, ?_⟩
  ·decide
  ·exact Keeps.drewN (Keeps.refl _) _
 ·replace hsy : w.cell? ⟨b, off + 1, none⟩ = some (.int .i64 2) := hsy
  go_enter Tryz.func153, Tryz.ntmps153
  go_wp2_with fail
  refine (levelOf_any _ _ _ hv).mono ?_; rintro e w' ⟨rfl, rfl⟩
  go_wp2_with fail
  go_quiet (fail)
  go_wp2_with fail
  go_ret
  refine ⟨_, rfl, ?_, ?_⟩
  ·decide
  ·exact Keeps.drewN (Keeps.refl _) _
 ·replace hsy : w.cell? ⟨b, off + 1, none⟩ = some (.int .i64 3) := hsy
  go_enter Tryz.func153, Tryz.ntmps153
  go_wp2_with fail
  refine (levelOf_any _ _ _ hv).mono ?_; rintro e w' ⟨rfl, rfl⟩
  go_wp2_with fail
  go_quiet (fail)
  go_wp2_with fail
  go_ret
  refine ⟨_, rfl, ?_, ?_⟩
  ·decide
  ·exact Keeps.drewN (Keeps.refl _) _
 ·replace hsy : w.cell? ⟨b, off + 1, none⟩ = some (.int .i64 4) := hsy
  go_enter Tryz.func153, Tryz.ntmps153
  go_wp2_with fail
  refine (levelOf_any _ _ _ hv).mono ?_; rintro e w' ⟨rfl, rfl⟩
  go_wp2_with fail
  go_quiet (fail)
  go_wp2_with fail
  go_ret
  refine ⟨_, rfl, ?_, ?_⟩
  ·decide
  ·exact Keeps.drewN (Keeps.refl _) _
 ·replace hsy : w.cell? ⟨b, off + 1, none⟩ = some (.int .i64 5) := hsy
  go_enter Tryz.func153, Tryz.ntmps153
  go_wp2_with fail
  refine (levelOf_any _ _ _ hv).mono ?_; rintro e w' ⟨rfl, rfl⟩
  go_wp2_with fail
  go_quiet (fail)
  go_wp2_with fail
  go_ret
  refine ⟨_, rfl, ?_, ?_⟩
  ·decide
  ·exact Keeps.drewN (Keeps.refl _) _
theorem txtOk_any (t : Fm) (hw : t.wf) : TxtOk t := by
 induction t with
 | var i => exact .of (bodyVar i hw)
 | fls => exact .of bodyFls
 | and x y hx hy => exact .of (bodyAnd x y (hx hw.1) (hy hw.2))
 | or x y hx hy => exact .of (bodyOr x y (hx hw.1) (hy hw.2))
 | box x hx => exact .of (bodyBox x (hx hw))
 | dia x hx => exact .of (bodyDia x (hx hw))
 | imp x y hx hy =>
  cases hf : y.isFls
  ·exact .of (bodyImp x y hf (hx hw.1) (hy hw.2))
  ·cases hx1 : x.isFls
   ·exact .of (bodyNeg x y hf hx1 (hx hw.1))
   ·exact .of (bodyTop x y hf hx1)
theorem text_any (t : Fm) (hw : t.wf) (hl : t.enc.length ≤ 100000000) (v : Value) (w : World) (hv : Nds w v t.enc) :
  Calls Tryz.prog 76 #[v] w fun e w' => ∃ s, e = .returned (.string s) ∧ bts s = t.body ∧ Keeps w w' := by
 have H := hid (txtOk_any t hw hl 0 0 rfl v w hv)
 go_enter Tryz.func76, Tryz.ntmps76
 go_wp2_with fail
 refine H.out.mono ?_; rintro e w' ⟨s, rfl, hs, k⟩
 go_wp2_with fail
 go_ret
 exact ⟨s, rfl, by rw [hs, Fm.txt0], k⟩
end Go.Proofs.YtfmmajgkjkmghaaGreat
namespace Go.Proofs.YtfmmajgkjkmghaaGreat
open Go.RowKit
def keyL (bs : List (List UInt8)) : List UInt8 := bs.flatMap fun b => b ++ [47]
def keyOf (bs cs : List (List UInt8)) : List UInt8 := keyL bs ++ (59 :: keyL cs)
theorem keyL_take (ss : List ByteArray) (k : Nat) (h : k < ss.length) : keyL ((ss.take (k + 1)).map bts) = keyL ((ss.take k).map bts) ++ (bts ss[k] ++ [47]) := by
 rw [List.take_succ_eq_append_getElem h, List.map_append]
 simp [keyL]
theorem keyL_le (ss : List ByteArray) (k : Nat) : (keyL ((ss.take k).map bts)).length ≤ (keyL (ss.map bts)).length := by
 have h : ss.map bts = (ss.take k).map bts ++ (ss.drop k).map bts := by rw [← List.map_append, List.take_append_drop]
 have h2 := congrArg (fun l => (keyL l).length) h
 simp only [keyL, List.flatMap_append, List.length_append] at h2 ⊢
 omega
set_option maxRecDepth 20000 in
set_option maxHeartbeats 1000000 in
theorem seqKey_any (ss rr : List ByteArray) (v u : Value) (w : World) (hv : Strs w v ss) (hu : Strs w u rr) (hl : (keyL (ss.map bts)).length + (keyL (rr.map bts)).length ≤ 1000000000) :
  Calls Tryz.prog 207 #[.agg #[v, u]] w fun e w' => ∃ s, e = .returned (.string s) ∧ bts s = keyOf (ss.map bts) (rr.map bts) ∧ Keeps w w' := by
 obtain ⟨p1, c1, rfl, _, _, _, hs1⟩ := hv.at
 obtain ⟨p2, c2, rfl, _, _, _, hs2⟩ := hu.at
 have k0 := (Keeps.refl w).alloc (.cells #[.slice p1 ss.length c1, .slice p2 rr.length c2] 156)
 have hv1 := hv.keeps k0
 have hu1 := hu.keeps k0
 have HV := hid hv1; clear hv1 hv
 have HU := hid hu1; clear hu1 hu
 have hle1 := hid (keyL_le ss)
 have hle2 := hid (keyL_le rr)
 have ht1 := hid (keyL_take ss)
 have ht2 := hid (keyL_take rr)
 have HL := hid hl
 go_enter Tryz.func207, Tryz.ntmps207
 go_wp2
 go_loop [3, 11] (fun o i' => ∃ (k : Nat) (x : ByteArray), k ≤ ss.length ∧ i' = .int .i64 k ∧ o = .string x ∧ bts x = keyL ((ss.take k).map bts)) (fun _ i => ss.length - (intOf i).toNat)
 case atStart => exact ⟨0, _, by omega, rfl, rfl, rfl⟩
 case round =>
  obtain ⟨k, x, hk, rfl, rfl, hx⟩ := hrel
  have hx1 : x.size ≤ 1000000000 := by
   rw [← bts_len, hx]; have := hle1.out k; have := HL.out; omega
  have HX := hid hx; clear hx
  by_cases hlt : k < ss.length
  ·have hlt' : (k : Int) < ss.length := by omega
   obtain ⟨b, off, rfl, h1⟩ := HV.out.get k hlt
   have hy1 : ss[k].size + 1 ≤ 1000000000 := by
    have e := congrArg List.length (ht1.out k hlt)
    have := hle1.out (k + 1); have := HL.out
    simp only [List.length_append, bts_len, List.length_cons, List.length_nil] at e
    omega
   have hq := hid (ht1.out k hlt)
   generalize ss[k] = y at *
   go_wp2
   go_round
   case rel => exact ⟨k + 1, _, by omega, by go_num, rfl, by rw [hq.out, ← HX.out]; simp only [bts_append]; rfl⟩
   case measure => simp [intOf]; omega
  ·obtain rfl : k = ss.length := by omega
   have hx3 : bts x = keyL (ss.map bts) := by rw [HX.out, List.take_length]
   have HX3 := hid hx3; clear hx3
   have hlt' : ¬ ((ss.length : Int) < ss.length) := by omega
   go_wp2
   go_loop [3, 25] (fun o i' => ∃ (k : Nat) (z : ByteArray), k ≤ rr.length ∧ i' = .int .i64 k ∧ o = .string z ∧ bts z = keyL (ss.map bts) ++ (59 :: keyL ((rr.take k).map bts))) (fun _ i => rr.length - (intOf i).toNat)
   case atStart => exact ⟨0, _, by omega, rfl, rfl, by rw [bts_append, HX3.out]; rfl⟩
   case round =>
    obtain ⟨j, z, hj, rfl, rfl, hz⟩ := hrel
    have hz1 : z.size ≤ 1000000001 := by
     rw [← bts_len, hz, List.length_append, List.length_cons]; have := hle2.out j; have := HL.out; omega
    have HZ := hid hz; clear hz
    by_cases hlt : j < rr.length
    ·have hlt' : (j : Int) < rr.length := by omega
     obtain ⟨b, off, rfl, h1⟩ := HU.out.get j hlt
     have hy1 : rr[j].size + 1 ≤ 1000000000 := by
      have e := congrArg List.length (ht2.out j hlt)
      have := hle2.out (j + 1); have := HL.out
      simp only [List.length_append, bts_len, List.length_cons, List.length_nil] at e
      omega
     have hq := hid (ht2.out j hlt)
     generalize rr[j] = y at *
     go_wp2
     go_round
     case rel => exact ⟨j + 1, _, by omega, by go_num, rfl, by rw [hq.out]; simp only [bts_append, HZ.out, List.append_assoc, List.cons_append]; rfl⟩
     case measure => simp [intOf]; omega
    ·obtain rfl : j = rr.length := by omega
     have hlt' : ¬ ((rr.length : Int) < rr.length) := by omega
     go_wp2
     go_ret
     exact ⟨_, rfl, by rw [HZ.out, List.take_length]; rfl, k0⟩
end Go.Proofs.YtfmmajgkjkmghaaGreat
namespace Go.Proofs.YtfmmajgkjkmghaaGreat
open Go.RowKit
theorem split_one (z : UInt8) : ∀ (xs ys X Y : List UInt8), z ∉ xs → z ∉ ys → xs ++ z :: X = ys ++ z :: Y → xs = ys ∧ X = Y
 | [], [], X, Y, _, _, h => by simpa using h
 | [], y :: ys, X, Y, _, hy, h => by injection h with h1 _; exact absurd (by simp [h1]) hy
 | x :: xs, [], X, Y, hx, _, h => by injection h with h1 _; exact absurd (by simp [h1]) hx
 | x :: xs, y :: ys, X, Y, hx, hy, h => by
  injection h with h1 h2
  obtain ⟨h3, h4⟩ := split_one z xs ys X Y (fun h => hx (by simp [h])) (fun h => hy (by simp [h])) h2
  exact ⟨by rw [h1, h3], h4⟩
def Clean (bs : List (List UInt8)) : Prop := ∀ b ∈ bs, (47 : UInt8) ∉ b ∧ (59 : UInt8) ∉ b ∧ b ≠ []
theorem key_split : ∀ (bs cs : List (List UInt8)) (X Y : List UInt8), Clean bs → Clean cs → keyL bs ++ (59 :: X) = keyL cs ++ (59 :: Y) → bs = cs ∧ X = Y
 | [], [], X, Y, _, _, h => by simpa [keyL] using h
 | [], c :: cs, X, Y, _, hc, h => by
  obtain ⟨_, h2, h3⟩ := hc c (by simp)
  cases c with
  | nil => exact absurd rfl h3
  | cons x c => simp [keyL] at h; exact absurd (by simp [h.1]) h2
 | b :: bs, [], X, Y, hb, _, h => by
  obtain ⟨_, h2, h3⟩ := hb b (by simp)
  cases b with
  | nil => exact absurd rfl h3
  | cons x c => simp [keyL] at h; exact absurd (by simp [h.1]) h2
 | b :: bs, c :: cs, X, Y, hb, hc, h => by
  have e1 : keyL (b :: bs) ++ (59 :: X) = b ++ 47 :: (keyL bs ++ (59 :: X)) := by simp [keyL]
  have e2 : keyL (c :: cs) ++ (59 :: Y) = c ++ 47 :: (keyL cs ++ (59 :: Y)) := by simp [keyL]
  rw [e1, e2] at h
  obtain ⟨h1, h2⟩ := split_one 47 _ _ _ _ (hb b (by simp)).1 (hc c (by simp)).1 h
  obtain ⟨h3, h4⟩ := key_split bs cs X Y (fun x hx => hb x (by simp [hx])) (fun x hx => hc x (by simp [hx])) h2
  exact ⟨by rw [h1, h3], h4⟩
def OkF (t : Fm) : Prop := t.wf ∧ t.plain = true
def OkL (G : List Fm) : Prop := ∀ a ∈ G, OkF a
theorem OkF.clean {t : Fm} (h : t.wf) : (47 : UInt8) ∉ t.body ∧ (59 : UInt8) ∉ t.body ∧ t.body ≠ [] :=
 ⟨fun hm => (body_bytes t h _ hm).1 rfl, fun hm => (body_bytes t h _ hm).2.1 rfl, fun e => by have := body_pos t; rw [e] at this; simp at this⟩
theorem OkL.clean {G : List Fm} (h : OkL G) : Clean (G.map Fm.body) := by
 intro b hb
 obtain ⟨a, ha, rfl⟩ := List.mem_map.1 hb
 exact OkF.clean (h a ha).1
theorem bodies_inj : ∀ {G H : List Fm}, OkL G → OkL H → G.map Fm.body = H.map Fm.body → G = H
 | [], [], _, _, _ => rfl
 | [], b :: H, _, _, h => by simp at h
 | a :: G, [], _, _, h => by simp at h
 | a :: G, b :: H, hG, hH, h => by
  simp only [List.map_cons] at h
  injection h with h1 h2
  rw [body_inj (hG a (by simp)).1 (hH b (by simp)).1 h1, bodies_inj (fun x hx => hG x (by simp [hx])) (fun x hx => hH x (by simp [hx])) h2]
def keyF (G : List Fm) (c : Fm) : List UInt8 := keyOf (G.map Fm.body) [c.body]
theorem keyF_inj {G H : List Fm} {c d : Fm} (hG : OkL G) (hH : OkL H) (hc : OkF c) (hd : OkF d) (h : keyF G c = keyF H d) : G = H ∧ c = d := by
 obtain ⟨h1, h2⟩ := key_split _ _ _ _ hG.clean hH.clean h
 refine ⟨bodies_inj hG hH h1, body_inj hc.1 hd.1 ?_⟩
 have e1 : keyL [c.body] = c.body ++ 47 :: [] := by simp [keyL]
 have e2 : keyL [d.body] = d.body ++ 47 :: [] := by simp [keyL]
 rw [e1, e2] at h2
 exact (split_one 47 _ _ _ _ (OkF.clean hc.1).1 (OkF.clean hd.1).1 h2).1
theorem drop_txts {x : ByteArray} {t : Fm} (hx : bts x = t.body) (ht : t.wf) : ∀ {ss : List ByteArray} {G : List Fm}, Txts ss G → (∀ a ∈ G, a.wf) → Txts (ss.filter fun s => !(s.toList == x.toList)) (G.filter fun a => !decide (a = t))
 | [], [], _, _ => rfl
 | [], b :: G, h, _ => by simp [Txts] at h
 | s :: ss, [], h, _ => by simp [Txts] at h
 | s :: ss, b :: G, h, hG => by
  unfold Txts at h
  simp only [List.map_cons] at h
  injection h with h1 h2
  have ih := drop_txts hx ht (ss := ss) (G := G) h2 (fun a ha => hG a (by simp [ha]))
  have hb : b.wf := hG b (by simp)
  have e : (s.toList == x.toList) = decide (b = t) := by
   rw [beq_bts, h1, hx, Bool.eq_iff_iff, decide_eq_true_iff, decide_eq_true_iff]
   exact ⟨body_inj hb ht, fun h => by rw [h]⟩
  by_cases hbt : b = t
  ·simp [hbt, e]; simpa using ih
  ·unfold Txts at ih ⊢
   simp [hbt, e, h1]; simpa using ih
theorem mem_without {G : List Fm} {t a : Fm} : a ∈ G.filter (fun a => !decide (a = t)) ↔ a ∈ G ∧ a ≠ t := by simp
theorem wts_without {G : List Fm} {t : Fm} (h : t ∈ G) : wts (G.filter fun a => !decide (a = t)) + wt t ≤ wts G := by
 induction G with
 | nil => cases h
 | cons b G ih =>
  by_cases hb : b = t
  ·subst hb
   have h1 := wts_sub (List.filter_sublist (l := G) (p := fun a => !decide (a = b)))
   simp [wts]
   omega
  ·rcases List.mem_cons.1 h with rfl | h
   ·exact absurd rfl hb
   ·have := ih h
    simp [hb, wts]
    omega
theorem instead_mem {G T R : List Fm} {t : Fm} (h : t ∈ G) (hR : ∀ a, a ∈ R ↔ a ∈ G.filter (fun a => !decide (a = t)) ∨ a ∈ T) :
  (∀ a, a ∈ G ↔ a = t ∨ a ∈ G.filter (fun a => !decide (a = t))) ∧ (∀ a, a ∈ R ↔ a ∈ T ∨ a ∈ G.filter (fun a => !decide (a = t))) := by
 refine ⟨fun a => ?_, fun a => (hR a).trans or_comm⟩
 rw [mem_without]
 constructor
 ·intro ha
  by_cases e : a = t
  ·exact .inl e
  ·exact .inr ⟨ha, e⟩
 ·rintro (rfl | ⟨ha, _⟩)
  ·exact h
  ·exact ha
end Go.Proofs.YtfmmajgkjkmghaaGreat
