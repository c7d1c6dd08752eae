import Derived.Test.YtkkcfifnkcnceaaGreatHRK
import Derived.Test.YtkkcfifnkcnceaaGreatHQ1
import Derived.Deep.RegionLaw
import Derived.Test.YtkkcfifnkcnceaaGreatHRB
import Derived.Lib.SmallJoins
/- Walks: the laws' own comparisons and marks of number lists and posets. -/
namespace Go.Proofs.YtkkcfifnkcnceaaGreat
open Go.RowKit
set_option maxHeartbeats 400000 in
theorem eqInt64S_any (a b : List Int) (va vb : Value) (w : World) (hva : Ints w va a) (hvb : Ints w vb b) :
  Calls Tryz.prog 100 #[va, vb] w fun e w' => e = .returned (.bool (decide (a = b))) ∧ Keeps w w' := by
 have hva0 := hva
 have hvb0 := hvb
 obtain ⟨pa, ca, rfl, hlea, hmxa, _, hlena⟩ := hva
 obtain ⟨pb, cb, rfl, hleb, hmxb, _, hlenb⟩ := hvb
 unfold maxLen at hmxa hmxb
 by_cases hl : a.length = b.length
 ·have hl' : ((a.length : Int) != (b.length : Int)) = false := by simp [hl]
  have HL := hid hl; clear hl
  go_enter Tryz.func100, Tryz.ntmps100
  go_wp2
  go_loopw [4, 5] (fun r i' wr => ∃ k : Nat, k ≤ a.length ∧ a.take k = b.take k ∧ Keeps w wr ∧ i' = .int .i64 k ∧ r = .bool false) (fun _ i _ => a.length - (intOf i).toNat)
  case atStart => exact ⟨0, by omega, rfl, Keeps.refl w, rfl, rfl⟩
  case round =>
   obtain ⟨k, hk, htk, kw, rfl, rfl⟩ := hrel
   have HT := hid htk; clear htk
   clear hl'
   by_cases hlt : k < a.length
   ·have hltb : k < b.length := by have := HL.out; omega
    obtain ⟨_, _, e1, _, _, hata, _⟩ := hva0.keeps kw
    obtain ⟨_, _, e2, _, _, hatb, _⟩ := hvb0.keeps kw
    cases e1; cases e2
    obtain ⟨b1, o1, rfl, h1⟩ := hata.int k hlt
    obtain ⟨b2, o2, rfl, h3⟩ := hatb.int k hltb
    clear hata hatb hva0 hvb0
    have hlt' : (k : Int) < a.length := by omega
    have hltb' : (k : Int) < b.length := by omega
    by_cases he : a[k] = b[k]
    ·have hd : (a[k] != b[k]) = false := by simp [he]
     have HE := hid he; clear he
     go_wp2_with fail
     go_quiet (fail)
     go_wp2
     go_roundw
     case rel => exact ⟨k + 1, by omega, by rw [List.take_succ_eq_append_getElem hlt, List.take_succ_eq_append_getElem hltb, HT.out, HE.out], kw.drewN _, by go_num, rfl⟩
     case measure => simp [intOf]; omega
    ·have hd : (a[k] != b[k]) = true := by simp [he]
     have HE := hid he; clear he
     go_wp2_with fail
     go_quiet (fail)
     go_wp2
     go_ret
     refine ⟨ret_bool ?_, kw.drewN _⟩
     symm; rw [decide_eq_false_iff_not]
     rintro rfl; exact HE.out rfl
   ·go_wp2
    go_ret
    refine ⟨ret_bool ?_, kw⟩
    symm; rw [decide_eq_true_eq]
    have h1 := HL.out; have h2 := HT.out
    rw [List.take_of_length_le (by omega), List.take_of_length_le (by omega)] at h2
    exact h2
 ·have hl' : ((a.length : Int) != (b.length : Int)) = true := by simp; omega
  have HL := hid hl; clear hl
  go_enter Tryz.func100, Tryz.ntmps100
  go_wp2
  go_ret
  refine ⟨ret_bool ?_, Keeps.refl _⟩
  symm; rw [decide_eq_false_iff_not]
  rintro rfl; exact HL.out rfl
end Go.Proofs.YtkkcfifnkcnceaaGreat
namespace Go.Proofs.YtkkcfifnkcnceaaGreat
open Go.RowKit
end Go.Proofs.YtkkcfifnkcnceaaGreat
namespace Go.Proofs.YtkkcfifnkcnceaaGreat
open Go.RowKit
end Go.Proofs.YtkkcfifnkcnceaaGreat
namespace Go.Proofs.YtkkcfifnkcnceaaGreat
open Go.ChangeShapes Go.WideShapes Go.ChangeAt Go.RowKit Go.Deep
section
variable {H : Type} {enc : TypeId × Value → H} {W : World}
def WkI (w : World) (v : Value) : Prop := ∃ p n cap, v = .slice p n cap ∧ n ≤ maxLen ∧ (n ≤ 2147483648 → ∃ a : List Int, a.length = n ∧ Ints w v a)
theorem choose_allI {α : Type} {n : Nat} {P : Nat → α → Prop} [Inhabited α] (h : ∀ i, i < n → ∃ x, P i x) : ∃ l : List α, l.length = n ∧ ∀ i (hi : i < l.length), P i l[i] := by
 classical
 refine ⟨(List.range n).map fun i => if h' : i < n then Classical.choose (h i h') else default, by simp, fun i hi => ?_⟩
 have hi' : i < n := by simpa using hi
 simp only [List.getElem_map, List.getElem_range, dif_pos hi']
 exact Classical.choose_spec (h i hi')
set_option maxRecDepth 100000 in
theorem wkI_trod {u : Value} {fuel : Nat} {x : DataW H × List MemPlace} (hf : DataW.trod enc Tryz.prog W 0 (fun _ => true) true fuel 62 [u] = some x) : WkI W u := by
 have hC : Tryz.prog.cellsOf 2 = 1 := by kernel_rfl
 rcases open_slice1 Tryz.underlying62 hC hf with ⟨hcs, _⟩ | ⟨a, n, cap, m, n', V, D, Pl, hcs, _, hl, hm, hmm, _, hi⟩
 ·obtain rfl : u = .slice none 0 0 := by simpa using hcs
  exact ⟨none, 0, 0, rfl, by simp [maxLen], fun _ => ⟨[], rfl, none, 0, rfl, by simp, by simp [maxLen], At.nil _ _, by simp⟩⟩
 ·obtain rfl : u = .slice (some a) n cap := by simpa using hcs
  refine ⟨some a, n, cap, rfl, by omega, fun hn => ?_⟩
  simp at hmm
  have hel : ∀ i, i < n → ∃ x : Int, W.cell? (a.add i) = some (.int .i64 x) := fun i hin => by
   obtain ⟨h1, h2⟩ := hi i (by omega)
   obtain ⟨x, hx, _⟩ := DataW.trod_int Tryz.underlying2 h2
   simp at hx
   exact ⟨x, by rw [h1, hx]⟩
  have hspot : 0 < n → ∃ b off, a = ⟨b, off, none⟩ := fun h0 => by
   obtain ⟨b, off, spot⟩ := a
   obtain ⟨x, hx⟩ := hel 0 h0
   have hs : spot = none := by simpa [Addr.add] using World.cell?_spot hx
   subst hs
   exact ⟨b, off, rfl⟩
  have hadd : ∀ b off k, (⟨b, off, none⟩ : Addr).add k = ⟨b, off + k, none⟩ := fun b off k => by unfold Addr.add; split <;> simp_all
  obtain ⟨l, hnl, hns⟩ := choose_allI (α := Int) (P := fun i x => W.cell? (a.add i) = some (.int .i64 x)) (n := n) hel
  subst hnl
  refine ⟨l, rfl, some a, cap, rfl, hl, hm, ?_, hn⟩
  intro j hj
  have hj' : j < l.length := by simpa [intCells] using hj
  obtain ⟨b, off, rfl⟩ := hspot (by omega)
  refine ⟨b, off, rfl, ?_⟩
  have := hns j hj'
  rw [hadd] at this
  rw [this]; simp [intCells]
end
end Go.Proofs.YtkkcfifnkcnceaaGreat
