/- Arguments of the laws: bytes. -/
import Derived.Test.YtgnehffglhbggaaGreatGL2
import Derived.Test.YtgnehffglhbggaaGreatGD30
namespace Go.Proofs.YtgnehffglhbggaaGreat
open Go.ChangeShapes Go.WideShapes Go.ChangeAt Go.RowKit Go.Deep
set_option maxRecDepth 100000 in
/-- a slice of bytes -/
theorem open_bytes {H : Type} {enc : TypeId × Value → H} {W : World} {v : Value} {d : DataW H} {ps : List MemPlace} {r : Reach} {b0 : Nat} (hval : Value.okWide Tryz.prog W r b0 50 v)
    (h : DataW.Trod enc Tryz.prog W 0 (fun _ => true) true 50 v d ps) :
    ∃ p n cap, v = .slice p n cap ∧ n ≤ maxLen ∧ Bts W v n := by
  obtain ⟨p, n, cap, rfl⟩ := okWide_slice Tryz.underlying50 hval
  obtain ⟨fuel, hf⟩ := h
  have hC : Tryz.prog.cellsOf 5 = 1 := by kernel_rfl
  rcases open_slice1 Tryz.underlying50 hC hf with ⟨hcs, _⟩ | ⟨a, len, cap', m, n', V, D, Pl, hcs, _, hl, hm, hmm, _, hi⟩
  · simp [Value.cells] at hcs
    obtain ⟨rfl, rfl, rfl⟩ := hcs
    exact ⟨none, 0, 0, rfl, by simp [maxLen], none, 0, rfl, by simp, by simp [maxLen], fun j hj => by omega⟩
  · simp [Value.cells] at hcs
    obtain ⟨rfl, rfl, rfl⟩ := hcs
    simp at hmm
    refine ⟨some a, n, cap, rfl, by omega, some a, cap, rfl, hl, hm, fun j hj => ?_⟩
    obtain ⟨hc, ht⟩ := hi j (by omega)
    obtain ⟨x, hx, _, hwf⟩ := DataW.trod_int Tryz.underlying5 ht
    simp at hx
    rw [hx] at hc
    have hr : 0 ≤ x ∧ x < 256 := by
      simp [Lit.wf, IntKind.min, IntKind.max, IntKind.bits, IntKind.signed] at hwf
      omega
    obtain ⟨b, off, spot⟩ := a
    have hs : spot = none := by simpa [Addr.add] using World.cell?_spot (hi 0 (by omega)).1
    subst hs
    have hadd : (⟨b, off, none⟩ : Addr).add j = ⟨b, off + j, none⟩ := by unfold Addr.add; split <;> simp_all
    rw [hadd] at hc
    exact ⟨b, off, x.toNat, rfl, by rw [hc]; congr 2; omega, by omega, World.block_lt_of_cell? _ _ hc⟩
end Go.Proofs.YtgnehffglhbggaaGreat
