/- slices.IndexFunc, ContainsFunc at []string. -/
import Derived.Test.YtponaoefpicfpaaGreatDoorGSR
import Derived.Lib.SliceRun
import Derived.Test.YtponaoefpicfpaaGreatDoorGQR
import Derived.Deep.RegionHeld3
namespace Go.Proofs.YtponaoefpicfpaaGreatDoor
open Go.RowKit
--
set_option maxHeartbeats 400000 in
theorem indexFuncS (pr : ByteArray → Bool) (f : FuncId) (cp : Array Value) (a : List ByteArray) (v : Value) (w : World) (hv : Strs w v a) (hcf : Enters f)
    (hf : ∀ x w1, x ∈ a → Keeps w w1 → Calls Tryz.prog f (#[.string x] ++ cp) w1 fun e w2 => e = .returned (.bool (pr x)) ∧ Keeps w1 w2) :
    Calls Tryz.prog 120 #[v, .func (.func f) #[] cp] w fun e w' => e = .returned (.int .i64 (idxOf pr a 0)) ∧ Keeps w w' := by
  have hv0 := hv
  obtain ⟨p, cap, rfl, hle, hmx, _, hlen⟩ := hv.at
  unfold maxLen at hmx
  have HF := hid hf; clear hf
  have hcf' : ∀ args w, (callFunc f args).run Tryz.prog w = .ok (.enter f args) w := hcf
  clear hcf
  go_enter Tryz.func120, Tryz.ntmps120
  go_wp2
  go_loopw [4, 8] (fun r i' wr => ∃ k : Nat, k ≤ a.length ∧ idxOf pr a 0 = idxOf pr (a.drop k) k ∧ Keeps w wr ∧ i' = .int .i64 k ∧ r = .int .i64 0) (fun _ i _ => a.length - (intOf i).toNat)
  case atStart => exact ⟨0, by omega, by simp, Keeps.refl w, rfl, rfl⟩
  case round =>
    obtain ⟨k, hk, hs, kw, rfl, rfl⟩ := hrel
    have Hs := hid hs; clear hs
    by_cases hlt : k < a.length
    · obtain ⟨b, off, rfl, h1⟩ := (hv0.keeps kw).get k hlt
      have hd := hid (idxOf_drop pr a k hlt)
      clear hv0
      cases hp : pr a[k]
      all_goals
        have Hp := hid hp; clear hp
        go_wp2_with ((with_reducible refine (HF.out a[k] wr (List.getElem_mem hlt) kw).mono ?_); rintro e w2 ⟨rfl, k2⟩; rw [Hp.out])
      · go_roundw
        case rel => exact ⟨k + 1, by omega, by rw [Hs.out, hd.out, Hp.out]; rfl, kw.trans k2, by go_num, rfl⟩
        case measure => simp [intOf]; omega
      · go_ret
        exact ⟨ret_int (by rw [Hs.out, hd.out, Hp.out]; rfl), kw.trans k2⟩
    · go_wp2
      go_ret
      exact ⟨ret_int (by rw [Hs.out, idxOf_end _ _ _ (by omega)]), kw⟩
--
theorem containsFuncS (pr : ByteArray → Bool) (f : FuncId) (cp : Array Value) (a : List ByteArray) (v : Value) (w : World) (hv : Strs w v a) (hcf : Enters f)
    (hf : ∀ x w1, x ∈ a → Keeps w w1 → Calls Tryz.prog f (#[.string x] ++ cp) w1 fun e w2 => e = .returned (.bool (pr x)) ∧ Keeps w1 w2) :
    Calls Tryz.prog 48 #[v, .func (.func f) #[] cp] w fun e w' => e = .returned (.bool (a.any pr)) ∧ Keeps w w' := by
  have H := hid (indexFuncS pr f cp a v w hv hcf hf)
  clear hv hf hcf
  have he := hid (idxOf_any pr a 0)
  go_enter Tryz.func48, Tryz.ntmps48
  go_wp2_with (go_at_call 120; refine H.out.mono ?_; rintro e w2 ⟨rfl, k2⟩)
  go_ret
  exact ⟨ret_bool he.out, k2⟩
end Go.Proofs.YtponaoefpicfpaaGreatDoor
/- DeleteFunc at []string. -/
namespace Go.Proofs.YtponaoefpicfpaaGreatDoor
open Go.RowKit
theorem OwnS.store {w : World} {B : Nat} {g cap : Nat} {a : List ByteArray} (h : OwnS w B (.slice (some ⟨g, 0, none⟩) a.length cap) a) (i : Nat) (x : ByteArray) :
    OwnS (w.setCell ⟨g, i, none⟩ (.string x)) B (.slice (some ⟨g, 0, none⟩) a.length cap) (a.set i x) ∧ w.grownBy (w.setCell ⟨g, i, none⟩ (.string x)) (some g) := by
  have h' : w.ownsRow B 9 1 (.slice (some ⟨g, 0, none⟩) a.length cap) a.length (strCells a) := h
  have := h'.stored i (.string x)
  refine ⟨?_, this.2⟩
  unfold OwnS
  rw [List.length_set, show strCells (a.set i x) = (strCells a).set i (.string x) by simp [strCells, List.map_set]]
  exact this.1
theorem bts_toList (s : ByteArray) : s.toList = bts s := ByteArray.toList_eq s
theorem beq_bts (s t : ByteArray) : (s.toList == t.toList) = decide (bts s = bts t) := by rw [bts_toList, bts_toList, Bool.eq_iff_iff]; simp
theorem OwnS.cut {w : World} {B g cap : Nat} {a : List ByteArray} (h : OwnS w B (.slice (some ⟨g, 0, none⟩) a.length cap) a) (k : Nat) (hk : k ≤ a.length) : OwnS w B (.slice (some ⟨g, 0, none⟩) k cap) (a.take k) := by
  obtain ⟨hl, h | ⟨g', cap', cur, hv, hb, hg, hnc, hcm, hcs, ht⟩⟩ := h
  · cases h.1
  cases hv
  have e : (a.take k).length = k := by simp; omega
  unfold OwnS
  rw [e]
  refine ⟨by simp [strCells]; omega, .inr ⟨g, cap, cur, rfl, hb, hg, by omega, hcm, hcs, ?_⟩⟩
  rw [show strCells (a.take k) = (strCells a).take k by simp [strCells, List.map_take], ← ht, List.take_take, Nat.min_eq_left (by omega), Nat.mul_one]
theorem OwnS.zeroed {B g cap : Nat} (x : ByteArray) : ∀ (m o : Nat) (w : World) (a : List ByteArray), OwnS w B (.slice (some ⟨g, 0, none⟩) a.length cap) a →
    ∃ a' : List ByteArray, a'.length = a.length ∧ a'.take o = a.take o ∧ OwnS (w.setCells g o (List.replicate m (.string x))) B (.slice (some ⟨g, 0, none⟩) a.length cap) a' ∧ w.grownBy (w.setCells g o (List.replicate m (.string x))) (some g)
  | 0, o, w, a, h => ⟨a, rfl, rfl, h, World.grownBy.refl _ _⟩
  | m + 1, o, w, a, h => by
    have h1 := h.store o x
    obtain ⟨a', h2, h3, h4, h5⟩ := OwnS.zeroed x m (o + 1) _ (a.set o x) (by rw [List.length_set]; exact h1.1)
    rw [List.length_set] at h2 h4
    refine ⟨a', h2, ?_, h4, grown_trans h1.2 h5⟩
    have h6 := congrArg (List.take o) h3
    rw [List.take_take, List.take_take, Nat.min_eq_left (by omega)] at h6
    rw [h6]
    apply List.ext_getElem?
    intro i
    by_cases hi : i < o
    · simp [hi, Nat.ne_of_gt hi]
    · simp [List.getElem?_take, hi]
theorem idxOf_case {α : Type} (pr : α → Bool) : ∀ (l : List α) (k : Nat), (idxOf pr l k = -1 ∧ ∀ x ∈ l, pr x = false) ∨ ∃ (j : Nat) (h : j < l.length), idxOf pr l k = ((k + j : Nat) : Int) ∧ pr l[j] = true ∧ ∀ x ∈ l.take j, pr x = false
  | [], k => .inl ⟨rfl, by simp⟩
  | x :: l, k => by
    cases hx : pr x
    · rcases idxOf_case pr l (k + 1) with ⟨h1, h2⟩ | ⟨j, hj, h1, h2, h3⟩
      · exact .inl ⟨by simp [idxOf, hx, h1], by intro y hy; rcases List.mem_cons.1 hy with rfl | hy; exact hx; exact h2 y hy⟩
      · refine .inr ⟨j + 1, by simp; omega, by simp [idxOf, hx, h1]; omega, by simpa using h2, ?_⟩
        intro y hy
        rw [List.take_succ_cons] at hy
        rcases List.mem_cons.1 hy with rfl | hy
        · exact hx
        · exact h3 y hy
    · exact .inr ⟨0, by simp, by simp [idxOf, hx], by simpa using hx, by simp⟩
/-- what DeleteFunc keeps of the first k -/
def kept (pr : ByteArray → Bool) (a : List ByteArray) (k : Nat) : List ByteArray := (a.take k).filter fun x => !pr x
theorem kept_succ (pr : ByteArray → Bool) (a : List ByteArray) (k : Nat) (h : k < a.length) : kept pr a (k + 1) = kept pr a k ++ if pr a[k] then [] else [a[k]] := by
  unfold kept
  rw [List.take_succ_eq_append_getElem h, List.filter_append]
  cases h2 : pr a[k] <;> simp [h2]
theorem kept_le (pr : ByteArray → Bool) (a : List ByteArray) (k : Nat) : (kept pr a k).length ≤ k := by
  unfold kept
  exact Nat.le_trans (List.length_filter_le _ _) (by simp; omega)
theorem kept_all (pr : ByteArray → Bool) (a : List ByteArray) : kept pr a a.length = a.filter fun x => !pr x := by unfold kept; rw [List.take_length]
theorem kept_start (pr : ByteArray → Bool) (a : List ByteArray) (j : Nat) (h : ∀ x ∈ a.take j, pr x = false) : kept pr a j = a.take j := by
  unfold kept
  exact List.filter_eq_self.2 fun x hx => by simp [h x hx]
/-- the row behind k rounds -/
def delRow (pr : ByteArray → Bool) (a : List ByteArray) (k : Nat) : List ByteArray := kept pr a k ++ a.drop (kept pr a k).length
theorem delRow_length (pr : ByteArray → Bool) (a : List ByteArray) (k : Nat) (h : k ≤ a.length) : (delRow pr a k).length = a.length := by
  have := kept_le pr a k
  simp [delRow]; omega
theorem delRow_get (pr : ByteArray → Bool) (a : List ByteArray) (k : Nat) (h : k < a.length) : (delRow pr a k)[k]? = some a[k] := by
  have := kept_le pr a k
  unfold delRow
  rw [List.getElem?_append_right this, List.getElem?_drop, show (kept pr a k).length + (k - (kept pr a k).length) = k by omega, List.getElem?_eq_getElem h]
theorem delRow_set (pr : ByteArray → Bool) (a : List ByteArray) (k : Nat) (h : k < a.length) (hp : pr a[k] = false) : (delRow pr a k).set (kept pr a k).length a[k] = delRow pr a (k + 1) := by
  have h1 := kept_le pr a k
  have h2 := kept_succ pr a k h
  rw [hp] at h2
  unfold delRow
  rw [h2]
  simp only [Bool.false_eq_true, if_false, List.length_append, List.length_cons, List.length_nil]
  rw [List.set_append_right _ _ (Nat.le_refl _), Nat.sub_self, List.append_assoc]
  rw [List.drop_eq_getElem_cons (show (kept pr a k).length < a.length by omega)]
  simp only [List.set_cons_zero, List.cons_append, List.nil_append]
theorem delRow_skip (pr : ByteArray → Bool) (a : List ByteArray) (k : Nat) (h : k < a.length) (hp : pr a[k] = true) : delRow pr a (k + 1) = delRow pr a k ∧ kept pr a (k + 1) = kept pr a k := by
  have h2 := kept_succ pr a k h
  rw [hp] at h2
  simp only [if_true, List.append_nil] at h2
  exact ⟨by unfold delRow; rw [h2], h2⟩
theorem OwnS.cellAt {w : World} {B g cap : Nat} {a : List ByteArray} (h : OwnS w B (.slice (some ⟨g, 0, none⟩) a.length cap) a) {i : Nat} {x : ByteArray} (hx : a[i]? = some x) : w.cell? ⟨g, i, none⟩ = some (.string x) ∧ w.frozen? ⟨g, i, none⟩ = false := by
  have hi : i < a.length := by
    rcases Nat.lt_or_ge i a.length with h | h
    · exact h
    · rw [List.getElem?_eq_none h] at hx; cases hx
  exact ⟨by rw [World.ownsRow.cellAt h i (by omega)]; simp [strCells, hx], World.ownsRow.frozenAt h i⟩
--
set_option maxRecDepth 20000 in
set_option maxHeartbeats 2000000 in
theorem deleteFuncSK (pr : ByteArray → Bool) (f : FuncId) (cp : Array Value) (a : List ByteArray) (g cap : Nat) (w0 w : World) (hown : OwnS w w0.heap.size (.slice (some ⟨g, 0, none⟩) a.length cap) a) (kw0 : Keeps w0 w) (hl : a.length ≤ 1000000000) (hcf : Enters f)
    (hf : ∀ x w1, x ∈ a → Keeps w0 w1 → Calls Tryz.prog f (#[.string x] ++ cp) w1 fun e w2 => e = .returned (.bool (pr x)) ∧ Keeps w1 w2) :
    Calls Tryz.prog 117 #[.slice (some ⟨g, 0, none⟩) a.length cap, .func (.func f) #[] cp] w fun e w' => ∃ v', e = .returned v' ∧ OwnS w' w0.heap.size v' (a.filter fun x => !pr x) ∧ Keeps w0 w' := by
  have hI := indexFuncS pr f cp a _ w (hown.strs (by omega)) hcf (fun x w1 hx k => hf x w1 hx (kw0.trans k))
  obtain ⟨_, _, hge, hncap, hcm, _⟩ : ∃ q c, w0.heap.size ≤ g ∧ a.length ≤ cap ∧ cap ≤ maxLen ∧ q = c := by
    obtain ⟨p, c, e, h1, h2, _⟩ := At.of_own hown
    cases e
    exact ⟨0, 0, (OwnS.len hown g rfl).1, h1, h2, rfl⟩
  unfold maxLen at hcm
  have HI := hid hI; clear hI
  have HF := hid hf; clear hf
  have HO := hid hown; clear hown
  have HK := hid kw0; clear kw0
  have hcf' : ∀ args w, (callFunc f args).run Tryz.prog w = .ok (.enter f args) w := hcf
  clear hcf
  rcases idxOf_case pr a 0 with ⟨hi, hall⟩ | ⟨j0, hj0, hi, hp0, hbef⟩
  · rw [hi] at HI
    have hfil : (a.filter fun x => !pr x) = a := List.filter_eq_self.2 fun x hx => by simp [hall x hx]
    rw [hfil]
    clear hall hfil hi
    go_enter Tryz.func117, Tryz.ntmps117
    go_wp2_with fail
    refine HI.out.mono ?_; rintro e w1 ⟨rfl, k1⟩
    go_wp2_with fail
    go_ret
    exact ⟨_, rfl, HO.out.keeps k1, HK.out.trans k1⟩
  · rw [show ((0 + j0 : Nat) : Int) = (j0 : Int) by omega] at hi
    rw [hi] at HI
    have hs1 : kept pr a (j0 + 1) = a.take j0 := by
      rw [kept_succ pr a j0 hj0, hp0, kept_start pr a j0 hbef]; simp
    have hs2 : delRow pr a (j0 + 1) = a := by
      unfold delRow; rw [hs1]; simp [Nat.min_eq_left (Nat.le_of_lt hj0)]
    have hs3 : (kept pr a (j0 + 1)).length = j0 := by rw [hs1]; simp; omega
    have HS := hid (And.intro hs2 hs3); clear hs1 hs2 hs3 hbef hp0 hi
    have hneq : ((j0 : Int) == -1) = false := by simp
    go_enter Tryz.func117, Tryz.ntmps117
    go_wp2_with fail
    refine HI.out.mono ?_; rintro e w1 ⟨rfl, k1⟩
    go_wp2_with fail
    go_loopw [5, 6] (fun iv jv wr => ∃ k n : Nat, k ≤ a.length ∧ n < k ∧ n = (kept pr a k).length ∧ iv = .int .i64 n ∧ jv = .int .i64 k ∧ OwnS wr w0.heap.size (.slice (some ⟨g, 0, none⟩) a.length cap) (delRow pr a k) ∧ Keeps w0 wr) (fun _ jv _ => a.length - (intOf jv).toNat)
    case atStart => exact ⟨j0 + 1, j0, by omega, by omega, HS.out.2.symm, rfl, by go_num, by rw [HS.out.1]; exact HO.out.keeps k1, HK.out.trans k1⟩
    case round =>
      obtain ⟨k, n, hk, hnk, hn, rfl, rfl, hrow, kw⟩ := hrel
      have HN := hid hn; clear hn
      by_cases hlt : k < a.length
      · have hlt' : (k : Int) < a.length := by omega
        have hc := OwnS.cellAt (a := delRow pr a k) (by rw [delRow_length pr a k hk]; exact hrow) (delRow_get pr a k hlt)
        obtain ⟨xo, hxo⟩ : ∃ xo, (delRow pr a k)[n]? = some xo := ⟨_, List.getElem?_eq_getElem (by rw [delRow_length pr a k hk]; omega)⟩
        have hd := OwnS.cellAt (a := delRow pr a k) (by rw [delRow_length pr a k hk]; exact hrow) hxo
        obtain ⟨hc1, hc2⟩ := hc
        obtain ⟨hd1, hd2⟩ := hd
        have HR := hid hrow; clear hrow
        have hq := hid (delRow_set pr a k hlt)
        have hq2 := hid (delRow_skip pr a k hlt)
        have hq3 := hid (kept_succ pr a k hlt)
        cases hp : pr a[k]
        all_goals
          have Hp := hid hp; clear hp
          go_wp2_with ((with_reducible refine (HF.out a[k] wr (List.getElem_mem hlt) kw).mono ?_); rintro e w2 ⟨rfl, k2⟩; replace hd1 := k2.cell hd1; replace hd2 := (k2.both.2 g n (by first | exact (OwnS.len HR.out g rfl).2 | omega)).trans hd2; replace HR := hid (HR.out.keeps k2); replace kw := kw.trans k2; rw [Hp.out])
        · go_roundw
          case rel =>
            refine ⟨k + 1, n + 1, by omega, by omega, ?_, by go_num, by go_num, ?_, ?_⟩
            · rw [hq3.out, Hp.out, HN.out]; simp
            · have := OwnS.store (a := delRow pr a k) (by rw [delRow_length pr a k hk]; exact HR.out) n a[k]
              rw [delRow_length pr a k hk] at this
              have h2 := this.1
              rw [HN.out, hq.out Hp.out, ← HN.out] at h2
              exact h2
            · have := OwnS.store (a := delRow pr a k) (by rw [delRow_length pr a k hk]; exact HR.out) n a[k]
              exact kw.grown this.2 (by rintro _ ⟨⟩; exact hge)
          case measure => simp [intOf]; omega
        · go_roundw
          case rel => exact ⟨k + 1, n, by omega, by omega, by rw [(hq2.out Hp.out).2]; exact HN.out, rfl, by go_num, by rw [(hq2.out Hp.out).1]; exact HR.out, kw⟩
          case measure => simp [intOf]; omega
      · obtain rfl : k = a.length := by omega
        have hlt' : ¬ (a.length : Int) < a.length := by omega
        have hz := OwnS.zeroed (a := delRow pr a a.length) ⟨#[]⟩ (a.length - n) n wr (by rw [delRow_length pr a _ hk]; exact hrow)
        have hcell : ∀ j, j < a.length → ∃ x, (delRow pr a a.length)[j]? = some x := fun j hj => ⟨_, List.getElem?_eq_getElem (by rw [delRow_length pr a _ hk]; exact hj)⟩
        have hcl : ∀ ty, (Builtin.clear_ #[29] ty #[.slice (some ⟨g, n, none⟩) (a.length - n) (cap - n)]).run Tryz.prog wr = .ok (.tuple #[]) (wr.setCells g n (List.replicate (a.length - n) (.string ⟨#[]⟩))) :=
          fun ty => Lib.run_clear_slice wr _ _ ty _ Tryz.underlying29 (fun _ => Tryz.zeroValue9 _) rfl rfl g n _ _ (by omega)
            (fun j hj => by
              obtain ⟨x, hx⟩ := hcell (n + j) (by omega)
              rw [(OwnS.cellAt (a := delRow pr a a.length) (by rw [delRow_length pr a _ hk]; exact hrow) hx).1]; rfl)
            (fun j hj => by
              obtain ⟨x, hx⟩ := hcell (n + j) (by omega)
              rw [(OwnS.cellAt (a := delRow pr a a.length) (by rw [delRow_length pr a _ hk]; exact hrow) hx).2])
        have HZ := hid hz; clear hz hcell hrow
        go_wp2
        go_ret
        obtain ⟨a', h1, h2, h3, h4⟩ := HZ.out
        rw [delRow_length pr a _ hk] at h1 h3
        refine ⟨_, rfl, ?_, ?_⟩
        · have hfin : a'.take n = a.filter fun x => !pr x := by
            rw [h2, ← kept_all, HN.out]
            unfold delRow
            rw [List.take_left]
          rw [← hfin]
          have := OwnS.cut (a := a') (by rw [h1]; exact h3) n (by omega)
          simpa using this
        · have := kw.grown h4 (by rintro _ ⟨⟩; exact hge)
          simpa using this
theorem deleteFuncS (pr : ByteArray → Bool) (f : FuncId) (cp : Array Value) (a : List ByteArray) (g cap : Nat) (w0 w : World) (hown : OwnS w w0.heap.size (.slice (some ⟨g, 0, none⟩) a.length cap) a) (kw0 : Keeps w0 w) (hl : a.length ≤ 1000000000) (hcf : Enters f)
    (hf : ∀ x w1, Keeps w0 w1 → Calls Tryz.prog f (#[.string x] ++ cp) w1 fun e w2 => e = .returned (.bool (pr x)) ∧ w1 = w2) :
    Calls Tryz.prog 117 #[.slice (some ⟨g, 0, none⟩) a.length cap, .func (.func f) #[] cp] w fun e w' => ∃ v', e = .returned v' ∧ OwnS w' w0.heap.size v' (a.filter fun x => !pr x) ∧ Keeps w0 w' :=
  deleteFuncSK pr f cp a g cap w0 w hown kw0 hl hcf (fun x w1 _ k => (hf x w1 k).mono (by rintro e w2 ⟨rfl, rfl⟩; exact ⟨rfl, Keeps.refl _⟩))
end Go.Proofs.YtponaoefpicfpaaGreatDoor
/- Walks: the laws' own comparisons and marks of lists of strings. -/
namespace Go.Proofs.YtponaoefpicfpaaGreatDoor
open Go.RowKit
--
/-- the digits of a number ahead of a text -/
def digA : Nat → Nat → ByteArray → ByteArray
  | 0, _, s => s
  | f + 1, m, s => if m = 0 then s else digA f (m / 10) (⟨#[UInt8.ofNat (48 + m % 10)]⟩ ++ s)
def mkT (k : Int) : ByteArray := ⟨#[109]⟩ ++ digA 20 k.toNat ⟨#[]⟩
theorem byte_tab : ∀ m : Fin 10, ((UInt8.ofNat (48 + (m : Nat))).toNat : Int) = 48 + ((m : Nat) : Int) := by decide +kernel
theorem mod_tab : ∀ m : Fin 10, IntKind.u8.wrap (48 + ((m : Nat) : Int)) = 48 + ((m : Nat) : Int) := by decide +kernel
theorem digA_zero (f : Nat) (s : ByteArray) : digA f 0 s = s := by cases f <;> rfl
theorem digA_more (f m : Nat) (s : ByteArray) (h : 0 < m) : digA (f + 1) m s = digA f (m / 10) (⟨#[UInt8.ofNat (48 + m % 10)]⟩ ++ s) := by
  rw [digA, if_neg (by omega)]
set_option maxRecDepth 20000 in
set_option maxHeartbeats 1000000 in
theorem markText_any (k : Int) (w : World) (h0 : 0 < k) (h1 : k ≤ 4294967296) :
    Calls Tryz.prog 52 #[.int .i64 k] w fun e w' => e = .returned (.string (mkT k)) ∧ Keeps w w' := by
  obtain ⟨n, rfl⟩ := Int.eq_ofNat_of_zero_le (show 0 ≤ k by omega)
  have HK : Hid (mkT (n : Int) = ⟨#[109]⟩ ++ digA 20 n ⟨#[]⟩) := hid rfl
  go_enter Tryz.func52, Tryz.ntmps52
  go_wp2
  go_loopw [0, 3] (fun m' s' wr => ∃ (f m : Nat) (s : ByteArray), m < 10 ^ f ∧ f ≤ 20 ∧ m ≤ n ∧ s.size + f ≤ 20 ∧ m' = .int .i64 m ∧ s' = .string s ∧ digA 20 n ⟨#[]⟩ = digA f m s ∧ Keeps w wr) (fun m' _ _ => (intOf m').toNat)
  case atStart => exact ⟨20, n, ⟨#[]⟩, by omega, by omega, Nat.le_refl _, (by show 0 + 20 ≤ 20; omega), rfl, rfl, rfl, Keeps.refl _⟩
  case round =>
    obtain ⟨f, m, s, hm, hf, hmn, hs, rfl, rfl, hd, kw⟩ := hrel
    have HD := hid hd; clear hd
    by_cases hp : 0 < m
    · have hp' : (m : Int) > 0 := by omega
      obtain ⟨f, rfl⟩ : ∃ f', f = f' + 1 := by
        cases f with
        | zero => omega
        | succ f => exact ⟨f, rfl⟩
      have hlt : m / 10 < 10 ^ f := by rw [Nat.pow_succ] at hm; omega
      have e1 := mod_tab ⟨m % 10, Nat.mod_lt _ (by omega)⟩
      have e2 := byte_tab ⟨m % 10, Nat.mod_lt _ (by omega)⟩
      simp only at e1 e2
      have e3 : ((m % 10 : Nat) : Int) = (m : Int) % 10 := by omega
      rw [e3] at e1 e2
      have hcv : (convert 49 9 (.slice (some ⟨wr.heap.size, 0, none⟩) 1 1)).run Tryz.prog (wr.alloc (.cells #[.int .u8 (48 + (m : Int) % 10)] 5)) = .ok (.string ⟨#[UInt8.ofNat (48 + m % 10)]⟩) (wr.alloc (.cells #[.int .u8 (48 + (m : Int) % 10)] 5)) :=
        run_convert_bytes_back _ _ _ _ _ 1 [UInt8.ofNat (48 + m % 10)] Tryz.underlying49 Tryz.underlying5 Tryz.underlying9 (fun j hj => by
          obtain rfl : j = 0 := by simpa using hj
          rw [List.getElem_cons_zero, e2]
          simp [Addr.add])
      have HM := hid (digA_more f m s hp)
      have hsz : (⟨#[UInt8.ofNat (48 + m % 10)]⟩ : ByteArray).size = 1 := rfl
      have hsz2 : ((⟨#[UInt8.ofNat (48 + m % 10)]⟩ : ByteArray) ++ s).size = 1 + s.size := by rw [ByteArray.size_append, hsz]
      have HZ := hid hsz2; clear hsz2
      have k2 := kw.alloc (.cells #[.int .u8 (48 + (m : Int) % 10)] 5)
      clear hm e2 e3
      generalize (⟨#[UInt8.ofNat (48 + m % 10)]⟩ : ByteArray) = c at *
      go_wp2
      go_roundw
      case rel => exact ⟨f, m / 10, c ++ s, hlt, by omega, by omega, by have := HZ.out; omega, by first | rfl | (congr 1; omega), rfl, by rw [HD.out, HM.out], k2⟩
      case measure => simp [intOf]; omega
    · have hp' : ¬ (m : Int) > 0 := by omega
      have hm0 : m = 0 := by omega
      have HE : Hid (mkT (n : Int) = ⟨#[109]⟩ ++ s) := hid (by rw [HK.out, HD.out, hm0, digA_zero])
      clear hm0
      clear HD HK hm
      go_wp2
      go_ret
      exact ⟨by rw [HE.out]; rfl, kw⟩
--
set_option maxHeartbeats 400000 in
theorem eqStringS_same (a : List ByteArray) (va vb : Value) (w : World) (hva : Strs w va a) (hvb : Strs w vb a) :
    Calls Tryz.prog 14 #[va, vb] w fun e w' => e = .returned (.bool true) ∧ Keeps w w' := by
  obtain ⟨pa, ca, rfl, hlea, hmxa, hlena⟩ := hva.shape
  obtain ⟨pb, cb, rfl, hleb, hmxb, hlenb⟩ := hvb.shape
  unfold maxLen at hmxa hmxb
  have HA := hid hva; clear hva
  have HB := hid hvb; clear hvb
  have hl' : ((a.length : Int) != (a.length : Int)) = false := by simp
  go_enter Tryz.func14, Tryz.ntmps14
  go_wp2
  go_loopw [4, 5] (fun r i' wr => ∃ k : Nat, k ≤ a.length ∧ Keeps w wr ∧ i' = .int .i64 k ∧ r = .bool false) (fun _ i _ => a.length - (intOf i).toNat)
  case atStart => exact ⟨0, by omega, Keeps.refl w, rfl, rfl⟩
  case round =>
    obtain ⟨k, hk, kw, rfl, rfl⟩ := hrel
    clear hl'
    by_cases hlt : k < a.length
    · obtain ⟨b1, o1, rfl, h1⟩ := (HA.out.keeps kw).get k hlt
      obtain ⟨b2, o2, rfl, h2⟩ := (HB.out.keeps kw).get k hlt
      have hlt' : (k : Int) < a.length := by omega
      generalize a[k] = x at *
      have hd : (x.toList != x.toList) = false := by simp
      go_wp2_with fail
      go_quiet (fail)
      go_wp2
      go_roundw
      case rel => exact ⟨k + 1, by omega, kw.drewN _, by go_num, rfl⟩
      case measure => simp [intOf]; omega
    · have hlt' : ¬ (k : Int) < a.length := by omega
      go_wp2
      go_ret
      exact ⟨rfl, kw⟩
theorem OwnS.shape0 {w : World} {B : Nat} {v : Value} {a : List ByteArray} (h : OwnS w B v a) : ∃ p n c, v = .slice p n c := by obtain ⟨p, c, e, _⟩ := At.of_own h; exact ⟨p, _, c, e⟩
theorem OwnS.shape {w : World} {B : Nat} {v : Value} {a : List ByteArray} (h : OwnS w B v a) (hne : 0 < a.length) : ∃ g cap, v = .slice (some ⟨g, 0, none⟩) a.length cap ∧ B ≤ g ∧ a.length ≤ cap ∧ cap ≤ maxLen := by
  obtain ⟨hl, ⟨_, h0⟩ | ⟨g, cap, cur, rfl, hb, hg, hn, hm, hs, ht⟩⟩ := h
  · omega
  · exact ⟨g, cap, rfl, hb, hn, hm⟩
theorem Strs.shape0 {w : World} {v : Value} {a : List ByteArray} (h : Strs w v a) : ∃ p n c, v = .slice p n c := by obtain ⟨p, c, e, _⟩ := h.shape; exact ⟨p, _, c, e⟩
theorem OwnS.touch {w w' : World} {S : Nat → Prop} {B : Nat} {v : Value} {a : List ByteArray} (h : OwnS w B v a) (k : Touch w w' S) (hS : ∀ i, v.ownBlock = some i → ¬ S i) : OwnS w' B v a := own_touch h k hS
theorem OwnS.low {w w' : World} {B : Nat} {v : Value} {x : List ByteArray} (h : OwnS w B v x) (k : Low w w' B) : OwnS w' B v x := h.touch k (fun i hi => by have := (h.len i hi).1; omega)
theorem OwnS.lowOf {w0 w : World} {B : Nat} {v : Value} {x : List ByteArray} (h : OwnS w0 B v x) (k : Keeps w0 w) : Low w0 w B := by have _ := h; exact Low.of k B
theorem grown_keepsS {w w1 w2 : World} {row : Option Nat} (h : w.grownBy w1 row) (k : Keeps w1 w2) : w.grownBy w2 row :=
  ⟨k.os.trans h.os, k.tape.trans h.tape, k.output.trans h.output, Nat.le_trans h.size k.size, fun i hi hr => (k.block (Nat.lt_of_lt_of_le hi h.size)).trans (h.block i hi hr)⟩
--
def marksS (n : Nat) (k : Int) : List ByteArray := (marksI n k).map mkT
theorem marksS_length (n : Nat) (k : Int) : (marksS n k).length = n := by simp [marksS, marksI_length]
theorem marksS_succ (n : Nat) (k : Int) : marksS (n + 1) k = marksS n k ++ [mkT (k + n)] := by simp [marksS, marksI_succ]
theorem marksS_get (n : Nat) (k : Int) (i : Nat) (h : i < (marksS n k).length) : (marksS n k)[i] = mkT (k + i) := by simp [marksS, marksI_get]
set_option maxRecDepth 20000 in
set_option maxHeartbeats 1000000 in
theorem markStringS_any (a : List ByteArray) (v : Value) (k0 : Int) (w : World) (B : Nat) (hv : OwnS w B v a) (hl : a.length ≤ 1000000000) (hk0 : 0 < k0) (hk1 : k0 ≤ 1000000000) :
    Calls Tryz.prog 17 #[v, .int .i64 k0] w fun e w' => e = .returned (.int .i64 (k0 + a.length)) ∧ OwnS w' B v (marksS a.length k0) ∧ w.grownBy w' v.ownBlock := by
  have hdist : a = [] ∨ 0 < a.length := by cases a with
    | nil => exact .inl rfl
    | cons x l => right; simp
  rcases hdist with rfl | hpos
  · obtain ⟨p, cap, rfl, _, _, _⟩ := At.of_own hv
    go_enter Tryz.func17, Tryz.ntmps17
    go_wp2
    refine wp_loop_once ?_
    go_wp2
    go_ret
    exact ⟨by simp, hv, grown_refl _ _⟩
  · obtain ⟨g, cap, rfl, hB, hle, hmx⟩ := hv.shape hpos
    unfold maxLen at hmx
    go_enter Tryz.func17, Tryz.ntmps17
    go_wp2
    go_loopw [1, 5] (fun c i' wr => ∃ (k : Nat) (xs : List ByteArray), k ≤ a.length ∧ i' = .int .i64 k ∧ c = .int .i64 (k0 + k) ∧ xs.length = a.length ∧ xs.take k = marksS k k0 ∧ OwnS wr B (.slice (some ⟨g, 0, none⟩) a.length cap) xs ∧ w.grownBy wr (some g)) (fun _ i _ => a.length - (intOf i).toNat)
    case atStart => exact ⟨0, a, by omega, rfl, by simp, rfl, by simp [marksS, marksI], hv, grown_refl _ _⟩
    case round =>
      obtain ⟨k, xs, hk, rfl, rfl, hxl, htk, hownk, hgr⟩ := hrel
      have HX := hid hxl; clear hxl
      have HT := hid htk; clear htk
      clear hv
      by_cases hlt : k < a.length
      · have hltx : k < xs.length := by have := HX.out; omega
        have hlt' : (k : Int) < a.length := by omega
        have HC := hid (markText_any (k0 + k) wr (by omega) (by omega))
        have HO := hid hownk; clear hownk
        generalize hmt : mkT (k0 + k) = mt at *
        have HMT := hid hmt; clear hmt
        go_wp2_with fail
        refine HC.out.mono ?_; rintro e w2 ⟨rfl, k2⟩
        have ho2 := HO.out.keeps k2
        have hcell := OwnS.cellAt (a := xs) (by rw [HX.out]; exact ho2) (List.getElem?_eq_getElem hltx)
        obtain ⟨c1, c3⟩ := hcell
        have h3 := (OwnS.store (a := xs) (by rw [HX.out]; exact ho2) k mt)
        rw [HX.out] at h3
        have H3 := hid h3; clear h3
        have hgr2 := grown_keepsS hgr k2
        have HG := hid hgr2; clear hgr2 ho2
        go_wp2_with fail
        go_roundw
        case rel =>
          refine ⟨k + 1, _, by omega, by go_num, by go_num, ?_, ?_, H3.out.1, ?_⟩
          · rw [List.length_set]; exact HX.out
          · rw [List.take_succ_eq_append_getElem (by rw [List.length_set]; exact hltx), List.take_set_of_le (Nat.le_refl _), List.getElem_set_self, HT.out, marksS_succ, HMT.out]
          · exact grown_trans HG.out H3.out.2
        case measure => simp [intOf]; omega
      · have hlt' : ¬ (k : Int) < a.length := by omega
        go_wp2
        go_ret
        obtain rfl : k = a.length := by omega
        have hx : xs = marksS a.length k0 := by
          have h1 := HX.out; have h2 := HT.out
          rw [List.take_of_length_le (by omega)] at h2
          exact h2
        subst hx
        exact ⟨rfl, hownk, hgr⟩
--
set_option maxRecDepth 20000 in
set_option maxHeartbeats 1000000 in
theorem heldStringS_any (n : Nat) (v : Value) (k0 : Int) (w : World) (hv : Strs w v (marksS n k0)) (hk0 : 0 < k0) (hk1 : k0 ≤ 1000000000) (hn1 : n ≤ 1000000000) :
    Calls Tryz.prog 18 #[v, .int .i64 k0] w fun e w' => e = .returned (.int .i64 (k0 + n)) ∧ Keeps w w' := by
  have hn : (marksS n k0).length = n := marksS_length n k0
  have hg := marksS_get n k0
  generalize marksS n k0 = a at *
  subst hn
  obtain ⟨p, cap, rfl, hle, hmx, hlen⟩ := hv.shape
  unfold maxLen at hmx
  have HV := hid hv; clear hv
  have HG := hid hg; clear hg
  go_enter Tryz.func18, Tryz.ntmps18
  go_wp2
  go_loopw [1, 4, 5] (fun c r i' wr => ∃ k : Nat, k ≤ a.length ∧ i' = .int .i64 k ∧ c = .int .i64 (k0 + k) ∧ r = .int .i64 0 ∧ Keeps w wr) (fun _ _ i _ => a.length - (intOf i).toNat)
  case atStart => exact ⟨0, by omega, rfl, by simp, rfl, Keeps.refl _⟩
  case round =>
    obtain ⟨k, hk, rfl, rfl, rfl, kw⟩ := hrel
    by_cases hlt : k < a.length
    · have hlt' : (k : Int) < a.length := by omega
      have kd := (Keeps.refl wr).drew
      obtain ⟨b, off, rfl, h1⟩ := (HV.out.keeps (kw.trans kd)).get k hlt
      rw [HG.out k hlt] at h1
      have HC := hid (markText_any (k0 + k) wr.drew (by omega) (by omega))
      generalize mkT (k0 + k) = mt at *
      have hd : (mt.toList != mt.toList) = false := by simp
      go_wp2_with fail
      go_region_held3 (fun w' => w'.cell? ⟨b, off + k, none⟩ = some (.string mt)) (first | exact h1 | exact y1) (first | (go_at_call 52; refine HC.out.mono ?_; rintro e w2 ⟨rfl, k2⟩; have y1 := k2.cell h1))
      go_wp2_with fail
      go_roundw
      case rel => exact ⟨k + 1, by omega, by go_num, by go_num, rfl, (kw.trans kd).trans k2⟩
      case measure => simp [intOf]; omega
    · have hlt' : ¬ (k : Int) < a.length := by omega
      go_wp2
      go_ret
      exact ⟨ret_int (by omega), kw⟩
--
theorem markS_o (a : List ByteArray) (v : Value) (k0 : Int) (w : World) (B : Nat) (hv : OwnS w B v a) (hl : a.length ≤ 1000000000) (hk0 : 0 < k0) (hk1 : k0 ≤ 1000000000) :
    Calls Tryz.prog 17 #[v, .int .i64 k0] w fun e w' => e = .returned (.int .i64 (k0 + a.length)) ∧ OwnS w' B v (marksS a.length k0) ∧ Touch w w' (fun i => some i = v.ownBlock) := by
  refine (markStringS_any a v k0 w B hv hl hk0 hk1).mono ?_
  rintro e w' ⟨rfl, ho, g⟩
  exact ⟨rfl, ho, Touch.grown g⟩
theorem markS_t (a : List ByteArray) (v : Value) (k0 : Int) (w0 w : World) (B : Nat) (hv : OwnS w0 B v a) (k : Low w0 w B) (hl : a.length ≤ 1000000000) (hk0 : 0 < k0) (hk1 : k0 ≤ 1000000000) :
    Calls Tryz.prog 17 #[v, .int .i64 k0] w fun e w' => e = .returned (.int .i64 (k0 + a.length)) ∧ OwnS w' B v (marksS a.length k0) ∧ Touch w w' (fun i => B ≤ i ∧ i < w0.heap.size) := by
  have hlen := hv.len
  refine (markStringS_any a v k0 w B (hv.low k) hl hk0 hk1).mono ?_
  rintro e w' ⟨rfl, ho, g⟩
  exact ⟨rfl, ho, (Touch.grown g).mono (fun i hi => hlen i hi.symm)⟩
end Go.Proofs.YtponaoefpicfpaaGreatDoor
