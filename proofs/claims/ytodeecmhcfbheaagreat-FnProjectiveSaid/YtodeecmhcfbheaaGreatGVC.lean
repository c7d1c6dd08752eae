/- slices.IndexFunc, ContainsFunc at []string. -/
import Derived.Test.YtodeecmhcfbheaaGreatGV8
import Derived.Test.YtodeecmhcfbheaaGreatGW7
import Derived.Lib.SliceRun
namespace Go.Proofs.YtodeecmhcfbheaaGreat
open Go.RowKit
set_option maxHeartbeats 400000 in
theorem indexFuncS (pr : ByteArray → Bool) (f : FuncId) (cp : Array Value) (a : List ByteArray) (v : Value) (w : World) (hv : Strs w v a) (hcf : Enters f)
    (hf : ∀ x w1, x ∈ a → Keeps w w1 → Calls Tryz.prog f (#[.string x] ++ cp) w1 fun e w2 => e = .returned (.bool (pr x)) ∧ Keeps w1 w2) :
    Calls Tryz.prog 281 #[v, .func (.func f) #[] cp] w fun e w' => e = .returned (.int .i64 (idxOf pr a 0)) ∧ Keeps w w' := by
  have hv0 := hv
  obtain ⟨p, cap, rfl, hle, hmx, _, hlen⟩ := hv.at
  unfold maxLen at hmx
  have HF := hid hf; clear hf
  have hcf' : ∀ args w, (callFunc f args).run Tryz.prog w = .ok (.enter f args) w := hcf
  clear hcf
  go_enter Tryz.func281, Tryz.ntmps281
  go_wp2
  go_loopw [4, 8] (fun r i' wr => ∃ k : Nat, k ≤ a.length ∧ idxOf pr a 0 = idxOf pr (a.drop k) k ∧ Keeps w wr ∧ i' = .int .i64 k ∧ r = .int .i64 0) (fun _ i _ => a.length - (intOf i).toNat)
  case atStart => exact ⟨0, by omega, by simp, Keeps.refl w, rfl, rfl⟩
  case round =>
    obtain ⟨k, hk, hs, kw, rfl, rfl⟩ := hrel
    have Hs := hid hs; clear hs
    by_cases hlt : k < a.length
    · obtain ⟨b, off, rfl, h1⟩ := (hv0.keeps kw).get k hlt
      have hd := hid (idxOf_drop pr a k hlt)
      clear hv0
      cases hp : pr a[k]
      all_goals
        have Hp := hid hp; clear hp
        go_wp2_with ((with_reducible refine (HF.out a[k] wr (List.getElem_mem hlt) kw).mono ?_); rintro e w2 ⟨rfl, k2⟩; rw [Hp.out])
      · go_roundw
        case rel => exact ⟨k + 1, by omega, by rw [Hs.out, hd.out, Hp.out]; rfl, kw.trans k2, by go_num, rfl⟩
        case measure => simp [intOf]; omega
      · go_ret
        exact ⟨ret_int (by rw [Hs.out, hd.out, Hp.out]; rfl), kw.trans k2⟩
    · go_wp2
      go_ret
      exact ⟨ret_int (by rw [Hs.out, idxOf_end _ _ _ (by omega)]), kw⟩
theorem containsFuncS (pr : ByteArray → Bool) (f : FuncId) (cp : Array Value) (a : List ByteArray) (v : Value) (w : World) (hv : Strs w v a) (hcf : Enters f)
    (hf : ∀ x w1, x ∈ a → Keeps w w1 → Calls Tryz.prog f (#[.string x] ++ cp) w1 fun e w2 => e = .returned (.bool (pr x)) ∧ Keeps w1 w2) :
    Calls Tryz.prog 271 #[v, .func (.func f) #[] cp] w fun e w' => e = .returned (.bool (a.any pr)) ∧ Keeps w w' := by
  have H := hid (indexFuncS pr f cp a v w hv hcf hf)
  clear hv hf hcf
  have he := hid (idxOf_any pr a 0)
  go_enter Tryz.func271, Tryz.ntmps271
  go_wp2_with (go_at_call 281; refine H.out.mono ?_; rintro e w2 ⟨rfl, k2⟩)
  go_ret
  exact ⟨ret_bool he.out, k2⟩
end Go.Proofs.YtodeecmhcfbheaaGreat
/- drop: Clone, DeleteFunc at []string. -/
namespace Go.Proofs.YtodeecmhcfbheaaGreat
open Go.RowKit
theorem OwnS.store {w : World} {B : Nat} {g cap : Nat} {a : List ByteArray} (h : OwnS w B (.slice (some ⟨g, 0, none⟩) a.length cap) a) (i : Nat) (x : ByteArray) :
    OwnS (w.setCell ⟨g, i, none⟩ (.string x)) B (.slice (some ⟨g, 0, none⟩) a.length cap) (a.set i x) ∧ w.grownBy (w.setCell ⟨g, i, none⟩ (.string x)) (some g) := by
  have h' : w.ownsRow B 9 1 (.slice (some ⟨g, 0, none⟩) a.length cap) a.length (strCells a) := h
  have := h'.stored i (.string x)
  refine ⟨?_, this.2⟩
  unfold OwnS
  rw [List.length_set, show strCells (a.set i x) = (strCells a).set i (.string x) by simp [strCells, List.map_set]]
  exact this.1
theorem drop_1_any (s t : ByteArray) (b : Nat) (w : World) (hc : w.cell? ⟨b, 0, none⟩ = some (.string t)) :
    Calls Tryz.prog 286 #[.string s, .pointer (some ⟨b, 0, none⟩)] w fun e w' => e = .returned (.bool (s.toList == t.toList)) ∧ w = w' := by
  go_enter Tryz.func286, Tryz.ntmps286
  go_wp2
  go_ret
  exact ⟨rfl, rfl⟩
theorem bts_toList (s : ByteArray) : s.toList = bts s := ByteArray.toList_eq s
theorem beq_bts (s t : ByteArray) : (s.toList == t.toList) = decide (bts s = bts t) := by rw [bts_toList, bts_toList, Bool.eq_iff_iff]; simp
theorem OwnS.cut {w : World} {B g cap : Nat} {a : List ByteArray} (h : OwnS w B (.slice (some ⟨g, 0, none⟩) a.length cap) a) (k : Nat) (hk : k ≤ a.length) : OwnS w B (.slice (some ⟨g, 0, none⟩) k cap) (a.take k) := by
  obtain ⟨hl, h | ⟨g', cap', cur, hv, hb, hg, hnc, hcm, hcs, ht⟩⟩ := h
  · cases h.1
  cases hv
  have e : (a.take k).length = k := by simp; omega
  unfold OwnS
  rw [e]
  refine ⟨by simp [strCells]; omega, .inr ⟨g, cap, cur, rfl, hb, hg, by omega, hcm, hcs, ?_⟩⟩
  rw [show strCells (a.take k) = (strCells a).take k by simp [strCells, List.map_take], ← ht, List.take_take, Nat.min_eq_left (by omega), Nat.mul_one]
theorem OwnS.zeroed {B g cap : Nat} (x : ByteArray) : ∀ (m o : Nat) (w : World) (a : List ByteArray), OwnS w B (.slice (some ⟨g, 0, none⟩) a.length cap) a →
    ∃ a' : List ByteArray, a'.length = a.length ∧ a'.take o = a.take o ∧ OwnS (w.setCells g o (List.replicate m (.string x))) B (.slice (some ⟨g, 0, none⟩) a.length cap) a' ∧ w.grownBy (w.setCells g o (List.replicate m (.string x))) (some g)
  | 0, o, w, a, h => ⟨a, rfl, rfl, h, World.grownBy.refl _ _⟩
  | m + 1, o, w, a, h => by
    have h1 := h.store o x
    obtain ⟨a', h2, h3, h4, h5⟩ := OwnS.zeroed x m (o + 1) _ (a.set o x) (by rw [List.length_set]; exact h1.1)
    rw [List.length_set] at h2 h4
    refine ⟨a', h2, ?_, h4, grown_trans h1.2 h5⟩
    have h6 := congrArg (List.take o) h3
    rw [List.take_take, List.take_take, Nat.min_eq_left (by omega)] at h6
    rw [h6]
    apply List.ext_getElem?
    intro i
    by_cases hi : i < o
    · simp [hi, Nat.ne_of_gt hi]
    · simp [List.getElem?_take, hi]
theorem idxOf_case {α : Type} (pr : α → Bool) : ∀ (l : List α) (k : Nat), (idxOf pr l k = -1 ∧ ∀ x ∈ l, pr x = false) ∨ ∃ (j : Nat) (h : j < l.length), idxOf pr l k = ((k + j : Nat) : Int) ∧ pr l[j] = true ∧ ∀ x ∈ l.take j, pr x = false
  | [], k => .inl ⟨rfl, by simp⟩
  | x :: l, k => by
    cases hx : pr x
    · rcases idxOf_case pr l (k + 1) with ⟨h1, h2⟩ | ⟨j, hj, h1, h2, h3⟩
      · exact .inl ⟨by simp [idxOf, hx, h1], by intro y hy; rcases List.mem_cons.1 hy with rfl | hy; exact hx; exact h2 y hy⟩
      · refine .inr ⟨j + 1, by simp; omega, by simp [idxOf, hx, h1]; omega, by simpa using h2, ?_⟩
        intro y hy
        rw [List.take_succ_cons] at hy
        rcases List.mem_cons.1 hy with rfl | hy
        · exact hx
        · exact h3 y hy
    · exact .inr ⟨0, by simp, by simp [idxOf, hx], by simpa using hx, by simp⟩
/-- what DeleteFunc keeps of the first k -/
def kept (pr : ByteArray → Bool) (a : List ByteArray) (k : Nat) : List ByteArray := (a.take k).filter fun x => !pr x
theorem kept_succ (pr : ByteArray → Bool) (a : List ByteArray) (k : Nat) (h : k < a.length) : kept pr a (k + 1) = kept pr a k ++ if pr a[k] then [] else [a[k]] := by
  unfold kept
  rw [List.take_succ_eq_append_getElem h, List.filter_append]
  cases h2 : pr a[k] <;> simp [h2]
theorem kept_le (pr : ByteArray → Bool) (a : List ByteArray) (k : Nat) : (kept pr a k).length ≤ k := by
  unfold kept
  exact Nat.le_trans (List.length_filter_le _ _) (by simp; omega)
theorem kept_all (pr : ByteArray → Bool) (a : List ByteArray) : kept pr a a.length = a.filter fun x => !pr x := by unfold kept; rw [List.take_length]
theorem kept_start (pr : ByteArray → Bool) (a : List ByteArray) (j : Nat) (h : ∀ x ∈ a.take j, pr x = false) : kept pr a j = a.take j := by
  unfold kept
  exact List.filter_eq_self.2 fun x hx => by simp [h x hx]
/-- the row behind k rounds -/
def delRow (pr : ByteArray → Bool) (a : List ByteArray) (k : Nat) : List ByteArray := kept pr a k ++ a.drop (kept pr a k).length
theorem delRow_length (pr : ByteArray → Bool) (a : List ByteArray) (k : Nat) (h : k ≤ a.length) : (delRow pr a k).length = a.length := by
  have := kept_le pr a k
  simp [delRow]; omega
theorem delRow_get (pr : ByteArray → Bool) (a : List ByteArray) (k : Nat) (h : k < a.length) : (delRow pr a k)[k]? = some a[k] := by
  have := kept_le pr a k
  unfold delRow
  rw [List.getElem?_append_right this, List.getElem?_drop, show (kept pr a k).length + (k - (kept pr a k).length) = k by omega, List.getElem?_eq_getElem h]
theorem delRow_set (pr : ByteArray → Bool) (a : List ByteArray) (k : Nat) (h : k < a.length) (hp : pr a[k] = false) : (delRow pr a k).set (kept pr a k).length a[k] = delRow pr a (k + 1) := by
  have h1 := kept_le pr a k
  have h2 := kept_succ pr a k h
  rw [hp] at h2
  unfold delRow
  rw [h2]
  simp only [Bool.false_eq_true, if_false, List.length_append, List.length_cons, List.length_nil]
  rw [List.set_append_right _ _ (Nat.le_refl _), Nat.sub_self, List.append_assoc]
  rw [List.drop_eq_getElem_cons (show (kept pr a k).length < a.length by omega)]
  simp only [List.set_cons_zero, List.cons_append, List.nil_append]
theorem delRow_skip (pr : ByteArray → Bool) (a : List ByteArray) (k : Nat) (h : k < a.length) (hp : pr a[k] = true) : delRow pr a (k + 1) = delRow pr a k ∧ kept pr a (k + 1) = kept pr a k := by
  have h2 := kept_succ pr a k h
  rw [hp] at h2
  simp only [if_true, List.append_nil] at h2
  exact ⟨by unfold delRow; rw [h2], h2⟩
theorem OwnS.cellAt {w : World} {B g cap : Nat} {a : List ByteArray} (h : OwnS w B (.slice (some ⟨g, 0, none⟩) a.length cap) a) {i : Nat} {x : ByteArray} (hx : a[i]? = some x) : w.cell? ⟨g, i, none⟩ = some (.string x) ∧ w.frozen? ⟨g, i, none⟩ = false := by
  have hi : i < a.length := by
    rcases Nat.lt_or_ge i a.length with h | h
    · exact h
    · rw [List.getElem?_eq_none h] at hx; cases hx
  exact ⟨by rw [World.ownsRow.cellAt h i (by omega)]; simp [strCells, hx], World.ownsRow.frozenAt h i⟩
set_option maxRecDepth 20000 in
set_option maxHeartbeats 2000000 in
theorem deleteFuncS (pr : ByteArray → Bool) (f : FuncId) (cp : Array Value) (a : List ByteArray) (g cap : Nat) (w0 w : World) (hown : OwnS w w0.heap.size (.slice (some ⟨g, 0, none⟩) a.length cap) a) (kw0 : Keeps w0 w) (hl : a.length ≤ 1000000000) (hcf : Enters f)
    (hf : ∀ x w1, Keeps w0 w1 → Calls Tryz.prog f (#[.string x] ++ cp) w1 fun e w2 => e = .returned (.bool (pr x)) ∧ w1 = w2) :
    Calls Tryz.prog 284 #[.slice (some ⟨g, 0, none⟩) a.length cap, .func (.func f) #[] cp] w fun e w' => ∃ v', e = .returned v' ∧ OwnS w' w0.heap.size v' (a.filter fun x => !pr x) ∧ Keeps w0 w' := by
  have hI := indexFuncS pr f cp a _ w (hown.strs (by omega)) hcf (fun x w1 _ k => (hf x w1 (kw0.trans k)).mono (by rintro e w2 ⟨rfl, rfl⟩; exact ⟨rfl, Keeps.refl _⟩))
  obtain ⟨_, _, hge, hncap, hcm, _⟩ : ∃ q c, w0.heap.size ≤ g ∧ a.length ≤ cap ∧ cap ≤ maxLen ∧ q = c := by
    obtain ⟨p, c, e, h1, h2, _⟩ := At.of_own hown
    cases e
    exact ⟨0, 0, (OwnS.len hown g rfl).1, h1, h2, rfl⟩
  unfold maxLen at hcm
  have HI := hid hI; clear hI
  have HF := hid hf; clear hf
  have HO := hid hown; clear hown
  have HK := hid kw0; clear kw0
  have hcf' : ∀ args w, (callFunc f args).run Tryz.prog w = .ok (.enter f args) w := hcf
  clear hcf
  rcases idxOf_case pr a 0 with ⟨hi, hall⟩ | ⟨j0, hj0, hi, hp0, hbef⟩
  · rw [hi] at HI
    have hfil : (a.filter fun x => !pr x) = a := List.filter_eq_self.2 fun x hx => by simp [hall x hx]
    rw [hfil]
    clear hall hfil hi
    go_enter Tryz.func284, Tryz.ntmps284
    go_wp2_with fail
    refine HI.out.mono ?_; rintro e w1 ⟨rfl, k1⟩
    go_wp2_with fail
    go_ret
    exact ⟨_, rfl, HO.out.keeps k1, HK.out.trans k1⟩
  · rw [show ((0 + j0 : Nat) : Int) = (j0 : Int) by omega] at hi
    rw [hi] at HI
    have hs1 : kept pr a (j0 + 1) = a.take j0 := by
      rw [kept_succ pr a j0 hj0, hp0, kept_start pr a j0 hbef]; simp
    have hs2 : delRow pr a (j0 + 1) = a := by
      unfold delRow; rw [hs1]; simp [Nat.min_eq_left (Nat.le_of_lt hj0)]
    have hs3 : (kept pr a (j0 + 1)).length = j0 := by rw [hs1]; simp; omega
    have HS := hid (And.intro hs2 hs3); clear hs1 hs2 hs3 hbef hp0 hi
    have hneq : ((j0 : Int) == -1) = false := by simp
    go_enter Tryz.func284, Tryz.ntmps284
    go_wp2_with fail
    refine HI.out.mono ?_; rintro e w1 ⟨rfl, k1⟩
    go_wp2_with fail
    go_loopw [5, 6] (fun iv jv wr => ∃ k n : Nat, k ≤ a.length ∧ n < k ∧ n = (kept pr a k).length ∧ iv = .int .i64 n ∧ jv = .int .i64 k ∧ OwnS wr w0.heap.size (.slice (some ⟨g, 0, none⟩) a.length cap) (delRow pr a k) ∧ Keeps w0 wr) (fun _ jv _ => a.length - (intOf jv).toNat)
    case atStart => exact ⟨j0 + 1, j0, by omega, by omega, HS.out.2.symm, rfl, by go_num, by rw [HS.out.1]; exact HO.out.keeps k1, HK.out.trans k1⟩
    case round =>
      obtain ⟨k, n, hk, hnk, hn, rfl, rfl, hrow, kw⟩ := hrel
      have HN := hid hn; clear hn
      by_cases hlt : k < a.length
      · have hlt' : (k : Int) < a.length := by omega
        have hc := OwnS.cellAt (a := delRow pr a k) (by rw [delRow_length pr a k hk]; exact hrow) (delRow_get pr a k hlt)
        obtain ⟨xo, hxo⟩ : ∃ xo, (delRow pr a k)[n]? = some xo := ⟨_, List.getElem?_eq_getElem (by rw [delRow_length pr a k hk]; omega)⟩
        have hd := OwnS.cellAt (a := delRow pr a k) (by rw [delRow_length pr a k hk]; exact hrow) hxo
        obtain ⟨hc1, hc2⟩ := hc
        obtain ⟨hd1, hd2⟩ := hd
        have HR := hid hrow; clear hrow
        have hq := hid (delRow_set pr a k hlt)
        have hq2 := hid (delRow_skip pr a k hlt)
        have hq3 := hid (kept_succ pr a k hlt)
        cases hp : pr a[k]
        all_goals
          have Hp := hid hp; clear hp
          go_wp2_with ((with_reducible refine (HF.out a[k] wr kw).mono ?_); rintro e w2 ⟨rfl, rfl⟩; rw [Hp.out])
        · go_roundw
          case rel =>
            refine ⟨k + 1, n + 1, by omega, by omega, ?_, by go_num, by go_num, ?_, ?_⟩
            · rw [hq3.out, Hp.out, HN.out]; simp
            · have := OwnS.store (a := delRow pr a k) (by rw [delRow_length pr a k hk]; exact HR.out) n a[k]
              rw [delRow_length pr a k hk] at this
              have h2 := this.1
              rw [HN.out, hq.out Hp.out, ← HN.out] at h2
              exact h2
            · have := OwnS.store (a := delRow pr a k) (by rw [delRow_length pr a k hk]; exact HR.out) n a[k]
              exact kw.grown this.2 (by rintro _ ⟨⟩; exact hge)
          case measure => simp [intOf]; omega
        · go_roundw
          case rel => exact ⟨k + 1, n, by omega, by omega, by rw [(hq2.out Hp.out).2]; exact HN.out, rfl, by go_num, by rw [(hq2.out Hp.out).1]; exact HR.out, kw⟩
          case measure => simp [intOf]; omega
      · obtain rfl : k = a.length := by omega
        have hlt' : ¬ (a.length : Int) < a.length := by omega
        have hz := OwnS.zeroed (a := delRow pr a a.length) ⟨#[]⟩ (a.length - n) n wr (by rw [delRow_length pr a _ hk]; exact hrow)
        have hcell : ∀ j, j < a.length → ∃ x, (delRow pr a a.length)[j]? = some x := fun j hj => ⟨_, List.getElem?_eq_getElem (by rw [delRow_length pr a _ hk]; exact hj)⟩
        have hcl : ∀ ty, (Builtin.clear_ #[30] ty #[.slice (some ⟨g, n, none⟩) (a.length - n) (cap - n)]).run Tryz.prog wr = .ok (.tuple #[]) (wr.setCells g n (List.replicate (a.length - n) (.string ⟨#[]⟩))) :=
          fun ty => Lib.run_clear_slice wr _ _ ty _ Tryz.underlying30 (fun _ => Tryz.zeroValue9 _) rfl rfl g n _ _ (by omega)
            (fun j hj => by
              obtain ⟨x, hx⟩ := hcell (n + j) (by omega)
              rw [(OwnS.cellAt (a := delRow pr a a.length) (by rw [delRow_length pr a _ hk]; exact hrow) hx).1]; rfl)
            (fun j hj => by
              obtain ⟨x, hx⟩ := hcell (n + j) (by omega)
              rw [(OwnS.cellAt (a := delRow pr a a.length) (by rw [delRow_length pr a _ hk]; exact hrow) hx).2])
        have HZ := hid hz; clear hz hcell hrow
        go_wp2
        go_ret
        obtain ⟨a', h1, h2, h3, h4⟩ := HZ.out
        rw [delRow_length pr a _ hk] at h1 h3
        refine ⟨_, rfl, ?_, ?_⟩
        · have hfin : a'.take n = a.filter fun x => !pr x := by
            rw [h2, ← kept_all, HN.out]
            unfold delRow
            rw [List.take_left]
          rw [← hfin]
          have := OwnS.cut (a := a') (by rw [h1]; exact h3) n (by omega)
          simpa using this
        · have := kw.grown h4 (by rintro _ ⟨⟩; exact hge)
          simpa using this
end Go.Proofs.YtodeecmhcfbheaaGreat
