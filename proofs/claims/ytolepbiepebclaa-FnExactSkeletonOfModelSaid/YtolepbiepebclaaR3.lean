/- Arguments of the laws: numbers' lists, posets, frames, models. -/
import Derived.Test.YtolepbiepebclaaR
import Derived.Lib.SmallJoins
namespace Go.Proofs.Ytolepbiepebclaa
open Go.ChangeShapes Go.WideShapes Go.ChangeAt Go.RowKit Go.Deep
section
variable {H : Type} {enc : TypeId × Value → H} {W : World}
/-- a slice of numbers of whatever length -/
def WkI (w : World) (v : Value) : Prop := ∃ p n cap, v = .slice p n cap ∧ n ≤ maxLen ∧ (n ≤ 2147483648 → ∃ a : List Int, a.length = n ∧ Ints w v a)
theorem choose_allI {α : Type} {n : Nat} {P : Nat → α → Prop} [Inhabited α] (h : ∀ i, i < n → ∃ x, P i x) : ∃ l : List α, l.length = n ∧ ∀ i (hi : i < l.length), P i l[i] := by
  classical
  refine ⟨(List.range n).map fun i => if h' : i < n then Classical.choose (h i h') else default, by simp, fun i hi => ?_⟩
  have hi' : i < n := by simpa using hi
  simp only [List.getElem_map, List.getElem_range, dif_pos hi']
  exact Classical.choose_spec (h i hi')
set_option maxRecDepth 100000 in
theorem wkI_trod {u : Value} {fuel : Nat} {x : DataW H × List MemPlace} (hf : DataW.trod enc Try.prog W 0 (fun _ => true) true fuel 22 [u] = some x) : WkI W u := by
  have hC : Try.prog.cellsOf 2 = 1 := by kernel_rfl
  rcases open_slice1 Try.underlying22 hC hf with ⟨hcs, _⟩ | ⟨a, n, cap, m, n', V, D, Pl, hcs, _, hl, hm, hmm, _, hi⟩
  · obtain rfl : u = .slice none 0 0 := by simpa using hcs
    exact ⟨none, 0, 0, rfl, by simp [maxLen], fun _ => ⟨[], rfl, none, 0, rfl, by simp, by simp [maxLen], At.nil _ _, by simp⟩⟩
  · obtain rfl : u = .slice (some a) n cap := by simpa using hcs
    refine ⟨some a, n, cap, rfl, by omega, fun hn => ?_⟩
    simp at hmm
    have hel : ∀ i, i < n → ∃ x : Int, W.cell? (a.add i) = some (.int .i64 x) := fun i hin => by
      obtain ⟨h1, h2⟩ := hi i (by omega)
      obtain ⟨x, hx, _⟩ := DataW.trod_int Try.underlying2 h2
      simp at hx
      exact ⟨x, by rw [h1, hx]⟩
    have hspot : 0 < n → ∃ b off, a = ⟨b, off, none⟩ := fun h0 => by
      obtain ⟨b, off, spot⟩ := a
      obtain ⟨x, hx⟩ := hel 0 h0
      have hs : spot = none := by simpa [Addr.add] using World.cell?_spot hx
      subst hs
      exact ⟨b, off, rfl⟩
    have hadd : ∀ b off k, (⟨b, off, none⟩ : Addr).add k = ⟨b, off + k, none⟩ := fun b off k => by unfold Addr.add; split <;> simp_all
    obtain ⟨l, hnl, hns⟩ := choose_allI (α := Int) (P := fun i x => W.cell? (a.add i) = some (.int .i64 x)) (n := n) hel
    subst hnl
    refine ⟨l, rfl, some a, cap, rfl, hl, hm, ?_, hn⟩
    intro j hj
    have hj' : j < l.length := by simpa [intCells] using hj
    obtain ⟨b, off, rfl⟩ := hspot (by omega)
    refine ⟨b, off, rfl, ?_⟩
    have := hns j hj'
    rw [hadd] at this
    rw [this]; simp [intCells]
set_option maxRecDepth 100000 in
theorem open_wkI {r : Reach} {b0 : Nat} {v : Value} {d : DataW H} {ps : List MemPlace} (hval : Value.okWide Try.prog W r b0 22 v)
    (h : DataW.Trod enc Try.prog W 0 (fun _ => true) true 22 v d ps) : WkI W v := by
  obtain ⟨p, n, cap, rfl⟩ := okWide_slice Try.underlying22 hval
  obtain ⟨fuel, hf⟩ := h
  exact wkI_trod hf
--
set_option maxRecDepth 100000 in
theorem open_poset {r : Reach} {b0 : Nat} {v : Value} {d : DataW H} {ps : List MemPlace} (hval : Value.okWide Try.prog W r b0 24 v)
    (h : DataW.Trod enc Try.prog W 0 (fun _ => true) true 24 v d ps) : ∃ n y, v = .agg #[.int .i64 n, y] ∧ WkI W y := by
  obtain ⟨x, y, _, _, n, rfl, _, _, h1, h2⟩ := Go.Joins.open_agg2 Try.underlying24 (by kernel_rfl) (by kernel_rfl) hval h
  obtain ⟨z, hz, _⟩ := DataW.trod_int Try.underlying2 h1
  simp at hz
  subst hz
  exact ⟨z, y, rfl, wkI_trod h2⟩
--
set_option maxRecDepth 100000 in
theorem open_model {r : Reach} {b0 : Nat} {v : Value} {d : DataW H} {ps : List MemPlace} (hval : Value.okWide Try.prog W r b0 44 v)
    (h : DataW.Trod enc Try.prog W 0 (fun _ => true) true 44 v d ps) : ∃ n y z, v = .agg #[.int .i64 n, y, z] ∧ WkI W y ∧ WkI W z := by
  obtain ⟨cs, rfl, hsz⟩ := okWide_struct Try.underlying44 hval
  obtain ⟨c0, c1, c2, rfl⟩ := Go.Joins.array3 (hsz.trans (by kernel_rfl))
  obtain ⟨fuel, hf⟩ := h
  obtain ⟨y0, y1, n, _, _, h0, h1⟩ := trod_struct2 Try.underlying44 hf
  have e1 : Try.prog.cellsOf 42 = 2 := by kernel_rfl
  have e2 : Try.prog.cellsOf 22 = 1 := by kernel_rfl
  have e3 : Try.prog.cellsOf 2 = 1 := by kernel_rfl
  simp [Value.cells, e1, e2] at h0 h1
  obtain ⟨x0, x1, m, _, _, g0, g1⟩ := trod_struct2 Try.underlying42 h0
  simp [e2, e3] at g0 g1
  obtain ⟨z, hz, _⟩ := DataW.trod_int Try.underlying2 g0
  simp at hz
  subst hz
  exact ⟨z, c1, c2, rfl, wkI_trod g1, wkI_trod h1⟩
end
end Go.Proofs.Ytolepbiepebclaa
