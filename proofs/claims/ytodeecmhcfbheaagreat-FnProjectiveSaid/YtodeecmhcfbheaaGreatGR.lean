/- From a walk's end to a row's end: a law that answers true and keeps the memory meets its row. -/
import Derived.Test.YtodeecmhcfbheaaGreatRows
import Derived.Test.YtodeecmhcfbheaaGreatGBase
import Derived.ProofKit
import Derived.OpenShut
import Derived.Deep.Slices
import Derived.Deep.Fields
import Derived.ChangeSame
namespace Go.Proofs.YtodeecmhcfbheaaGreat
open Go.ChangeShapes Go.WideShapes Go.ChangeAt Go.RowKit Go.Deep

theorem own : ownKnob Tryz.prog.godebug = none := by kernel_rfl
theorem laidOut : laidOutB Tryz.prog = true := by kernel_rfl

section
variable {H : Type} {enc : TypeId × Value → H}
theorem trodAll_stays {W W' : World} (hk : Keeps W W') : ∀ (ts : List TypeId) (vs : List Value) (ds : List (DataW H)) (ps : List MemPlace),
    (∀ t ∈ ts, Tryz.prog.readableRec t = true ∧ t < Tryz.prog.types.size) → (∀ x ∈ ps, x.block < W.heap.size) →
    DataW.TrodAll enc Tryz.prog W 0 (fun _ => true) true ts vs ds ps → DataW.TrodAll enc Tryz.prog W' 0 (fun b => decide (b < W.heap.size)) true ts vs ds ps := by
  intro ts
  induction ts with
  | nil =>
    intro vs ds ps _ _ h
    cases vs <;> cases ds <;> simp [DataW.TrodAll] at h ⊢
    exact h
  | cons t ts ih =>
    intro vs ds ps hr hlt h
    obtain ⟨v, vs', d, ds', p, q, rfl, rfl, rfl, h1, h2⟩ := trodAll_cons h
    obtain ⟨hr1, hr2⟩ := hr t (List.mem_cons_self ..)
    have g1 := Below.trod laidOut hr1 hr2 h1 hk (fun x hx => hlt x (List.mem_append.2 (.inl hx)))
    have g2 := ih _ _ _ (fun t ht => hr t (List.mem_cons_of_mem _ ht)) (fun x hx => hlt x (List.mem_append.2 (.inr hx))) h2
    exact trodAll_cons_mk g1 g2
theorem lawPost {f : Func} {s : ChangeSpec} {W W' : World} {args : Array Value} {ds gs : List (DataW H)} {before : List MemPlace}
    (hW : DataW.Whole enc Tryz.prog f.params.toList s.vars false W args.toList ds gs before) (hvars : s.vars = [])
    (hfn : s.fn H (ds ++ gs) = { results := [.lit (.bool true)], args := ds }) (hres : f.resultTypes = #[4])
    (hr : ∀ t ∈ f.params.toList, Tryz.prog.readableRec t = true ∧ t < Tryz.prog.types.size) (hk : Keeps W W') :
    s.post enc Tryz.prog f false true false false W args (.bool true) W' := by
  have hW' := hW
  obtain ⟨p, q, hA, hV, rfl, _, _⟩ := hW
  have hlt : ∀ x ∈ p, x.block < W.heap.size := fun x hx => hW'.lt x (List.mem_append.2 (.inl hx))
  refine ⟨ds, gs, _, [], p, [], hW', ?_, ?_, ?_, Below.frame hk _, fun h => by cases h⟩
  · rw [hfn, hres]
    exact trodAll_cons_mk (shut_bool Tryz.underlying4 _) trodAll_mk0
  · rw [hfn]
    exact trodAll_stays hk _ _ _ _ hr hlt hA
  · rw [hfn, hvars]
    rfl
end
--
set_option maxRecDepth 100000 in
/-- a slice of the law's nodes -/
theorem open_nodes {H : Type} {enc : TypeId × Value → H} {W : World} {v : Value} {d : DataW H} {ps : List MemPlace} {r : Reach} {b0 : Nat} (hval : Value.okWide Tryz.prog W r b0 47 v)
    (h : DataW.Trod enc Tryz.prog W 0 (fun _ => true) true 47 v d ps) :
    ∃ p n cap, v = .slice p n cap ∧ n ≤ maxLen ∧ (n ≤ 2147483648 → ∃ a : List Nd, a.length = n ∧ Nds W v a) := by
  obtain ⟨p, n, cap, rfl⟩ := okWide_slice Tryz.underlying47 hval
  obtain ⟨fuel, hf⟩ := h
  have hmax : n ≤ maxLen := by
    rcases open_slice Tryz.underlying47 hf with ⟨hcs, _⟩ | ⟨a, len, cap', m, n', D, Pl, hcs, _, hl, hm, _⟩
    · simp [Value.cells] at hcs
      omega
    · simp [Value.cells] at hcs
      omega
  refine ⟨p, n, cap, rfl, hmax, fun hn => ?_⟩
  rcases open_slice Tryz.underlying47 hf with ⟨hcs, _⟩ | ⟨a, len, cap', m, n', D, Pl, hcs, _, hl, hm, hmm, _, hi⟩
  · simp [Value.cells] at hcs
    obtain ⟨rfl, rfl, rfl⟩ := hcs
    exact ⟨[], rfl, none, 0, rfl, by simp, by simp [maxLen], At.nil _ _, by simp⟩
  · simp [Value.cells] at hcs
    obtain ⟨rfl, rfl, rfl⟩ := hcs
    simp at hmm
    subst hmm
    have hC : Tryz.prog.cellsOf 120 = 2 := by kernel_rfl
    have hnode : ∀ i, i < n → ∃ x : Nd, W.cell? (a.add (i * 2)) = some (.int .i64 x.k) ∧ W.cell? (a.add (i * 2 + 1)) = some (.int .i64 x.s) := by
      intro i hin
      obtain ⟨cs', hc, ht'⟩ := hi i (by omega)
      rw [hC] at hc
      obtain ⟨ys, n'', hn'', hy, hlen, hyl, hf'⟩ := DataW.trod_struct Tryz.underlying120 ht'
      obtain ⟨_, hcl, hat⟩ := World.cells?_some hc
      match cs', hcl with
      | [c0, c1], _ =>
        have f0 := hf' 0 _ rfl
        have f1 := hf' 1 _ rfl
        have a0 := hat 0 (by omega)
        have a1 := hat 1 (by omega)
        rw [add_add] at a0 a1
        have hone : oneCellFields Tryz.prog (match Tryz.prog.underlying 120 with | some (.struct fs) => fs | _ => #[]) = true := by kernel_rfl
        rw [Tryz.underlying120] at hone
        obtain ⟨o0, k0⟩ := hone_of hone 0 _ rfl
        obtain ⟨o1, k1⟩ := hone_of hone 1 _ rfl
        rw [o0, k0] at f0
        rw [o1, k1] at f1
        have hyl2 : ys.length = 2 := hyl
        obtain ⟨x, hx, _⟩ := DataW.trod_int Tryz.underlying2 (f0.trans (List.getElem?_eq_getElem (by omega)))
        obtain ⟨y, hy, _⟩ := DataW.trod_int Tryz.underlying2 (f1.trans (List.getElem?_eq_getElem (by omega)))
        simp at hx hy
        subst hx; subst hy
        exact ⟨⟨x, y⟩, by simpa using a0, by simpa using a1⟩
    have hex : ∃ f : Nat → Nd, ∀ i, i < n → W.cell? (a.add (i * 2)) = some (.int .i64 (f i).k) ∧ W.cell? (a.add (i * 2 + 1)) = some (.int .i64 (f i).s) := by
      classical
      refine ⟨fun i => if h : i < n then Classical.choose (hnode i h) else ⟨0, 0⟩, fun i h => ?_⟩
      simp only [dif_pos h]
      exact Classical.choose_spec (hnode i h)
    obtain ⟨f, hfs⟩ := hex
    refine ⟨(List.range n).map f, by simp, ?_⟩
    refine ⟨some a, m, by simp, by simpa using hl, hm, ?_, by simpa using hn⟩
    intro j hj
    rw [ndCells_length] at hj
    simp only [List.length_map, List.length_range] at hj
    obtain ⟨b, off, spot⟩ := a
    have hs : spot = none := by
      obtain ⟨h1, _⟩ := hfs 0 (by omega)
      simpa [Addr.add] using World.cell?_spot h1
    subst hs
    refine ⟨b, off, rfl, ?_⟩
    have hadd : ∀ k, (⟨b, off, none⟩ : Addr).add k = ⟨b, off + k, none⟩ := fun k => by unfold Addr.add; split <;> simp_all
    obtain ⟨h1, h2⟩ := hfs (j / 2) (by omega)
    obtain ⟨g1, g2⟩ := ndCells_get ((List.range n).map f) (j / 2) (by simp; omega)
    rw [hadd] at h1 h2
    have hj2 : j = j / 2 * 2 ∨ j = j / 2 * 2 + 1 := by omega
    have hgj : (ndCells ((List.range n).map f))[j]? = W.cell? ⟨b, off + j, none⟩ := by
      rcases hj2 with e | e
      · rw [e, g1, h1]; simp
      · rw [e, g2, h2]; simp
    rw [← hgj, List.getElem?_eq_getElem]
end Go.Proofs.YtodeecmhcfbheaaGreat
