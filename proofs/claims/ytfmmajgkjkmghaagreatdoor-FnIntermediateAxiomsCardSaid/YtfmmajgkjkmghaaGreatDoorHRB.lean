import Derived.Test.YtfmmajgkjkmghaaGreatDoorRows
import Derived.Test.YtfmmajgkjkmghaaGreatDoorHBase
import Derived.ProofKit
import Derived.OpenShut
import Derived.Deep.Slices
import Derived.Deep.Fields
import Derived.ChangeSame
import Derived.Lib.SmallJoins
import Derived.Test.YtfmmajgkjkmghaaGreatDoorCards
import Derived.Test.YtfmmajgkjkmghaaGreatDoorTie
import Derived.Deep.DeepHandedRow
import Derived.Lib.LaidTab
import Derived.Test.YtfmmajgkjkmghaaGreatDoorHK1
/- From a walk's end to a row's end: a law that answers true and keeps the memory meets its row. -/
namespace Go.Proofs.YtfmmajgkjkmghaaGreatDoor
open Go.ChangeShapes Go.WideShapes Go.ChangeAt Go.RowKit Go.Deep
theorem own : ownKnob Tryz.prog.godebug = none := by kernel_rfl
theorem laidOut : laidOutB Tryz.prog = true := by kernel_rfl
section
variable {H : Type} {enc : TypeId × Value → H}
theorem trodAll_stays {W W' : World} (hk : Keeps W W') : ∀ (ts : List TypeId) (vs : List Value) (ds : List (DataW H)) (ps : List MemPlace),
  (∀ t ∈ ts, Tryz.prog.readableRec t = true ∧ t < Tryz.prog.types.size) → (∀ x ∈ ps, x.block < W.heap.size) →
  DataW.TrodAll enc Tryz.prog W 0 (fun _ => true) true ts vs ds ps → DataW.TrodAll enc Tryz.prog W' 0 (fun b => decide (b < W.heap.size)) true ts vs ds ps := by
 intro ts
 induction ts with
 | nil =>
  intro vs ds ps _ _ h
  cases vs <;> cases ds <;> simp [DataW.TrodAll] at h ⊢
  exact h
 | cons t ts ih =>
  intro vs ds ps hr hlt h
  obtain ⟨v, vs', d, ds', p, q, rfl, rfl, rfl, h1, h2⟩ := trodAll_cons h
  obtain ⟨hr1, hr2⟩ := hr t (List.mem_cons_self ..)
  have g1 := Below.trod laidOut hr1 hr2 h1 hk (fun x hx => hlt x (List.mem_append.2 (.inl hx)))
  have g2 := ih _ _ _ (fun t ht => hr t (List.mem_cons_of_mem _ ht)) (fun x hx => hlt x (List.mem_append.2 (.inr hx))) h2
  exact trodAll_cons_mk g1 g2
end
end Go.Proofs.YtfmmajgkjkmghaaGreatDoor
namespace Go.Proofs.YtfmmajgkjkmghaaGreatDoor
open Go.ChangeShapes Go.WideShapes Go.ChangeAt Go.RowKit Go.Deep
end Go.Proofs.YtfmmajgkjkmghaaGreatDoor
namespace Go.Proofs.YtfmmajgkjkmghaaGreatDoor
open Go.ChangeShapes Go.WideShapes Go.ChangeAt Go.RowKit
section
variable {H : Type} {enc : TypeId × Value → H}
theorem trodVars_stays {W W' : World} (hk : Keeps W W') : ∀ (ns : List String) (gs : List (DataW H)) (ps : List MemPlace),
  (∀ n ∈ ns, ∀ g t, Tryz.prog.globalNamed n = some g → (Tryz.prog.globals[g]?).map (·.type) = some t → Tryz.prog.readableRec t = true ∧ t < Tryz.prog.types.size) → (∀ x ∈ ps, x.block < W.heap.size) →
  DataW.TrodVars enc Tryz.prog W (fun _ => true) ns gs ps → DataW.TrodVars enc Tryz.prog W' (fun b => decide (b < W.heap.size)) ns gs ps := by
 intro ns
 induction ns with
 | nil =>
  intro gs ps _ _ h
  cases gs <;> simp [DataW.TrodVars] at h ⊢
  exact h
 | cons n ns ih =>
  intro gs ps hr hlt h
  cases gs with
  | nil => simp [DataW.TrodVars] at h
  | cons d gs =>
   obtain ⟨g, t, cs, fuel, p, q, h1, h2, h3, h4, h5, rfl⟩ := h
   obtain ⟨hr1, hr2⟩ := hr n (List.mem_cons_self ..) g t h1 h2
   have hg : g < W.heap.size := by
    unfold World.var? at h3
    rw [h1] at h3
    simp only [Option.bind_some] at h3
    split at h3
    ·rename_i hh; exact (Array.getElem?_eq_some_iff.1 hh).1
    ·cases h3
   have h3' := var?_below hk h1 hg h3
   obtain ⟨fuel', h4'⟩ := Below.trod (v := .agg cs) laidOut hr1 hr2 ⟨fuel, h4⟩ hk (fun x hx => hlt x (by simp [hx]))
   exact ⟨g, t, cs, fuel', p, q, h1, h2, h3', h4', ih _ _ (fun n hn => hr n (List.mem_cons_of_mem _ hn)) (fun x hx => hlt x (by simp [hx])) h5, rfl⟩
theorem lawPostV {f : Func} {s : ChangeSpec} {W W' : World} {args : Array Value} {ds gs : List (DataW H)} {before : List MemPlace}
  (hW : DataW.Whole enc Tryz.prog f.params.toList s.vars false W args.toList ds gs before)
  (hfn : s.fn H (ds ++ gs) = { results := [.lit (.bool true)], args := ds, vars := gs }) (hres : f.resultTypes = #[4])
  (hr : ∀ t ∈ f.params.toList, Tryz.prog.readableRec t = true ∧ t < Tryz.prog.types.size)
  (hv : ∀ n ∈ s.vars, ∀ g t, Tryz.prog.globalNamed n = some g → (Tryz.prog.globals[g]?).map (·.type) = some t → Tryz.prog.readableRec t = true ∧ t < Tryz.prog.types.size) (hk : Keeps W W') :
  s.post enc Tryz.prog f false true false false W args (.bool true) W' := by
 have hW' := hW
 obtain ⟨p, q, hA, hV, rfl, _, _⟩ := hW
 have hlt : ∀ x ∈ p, x.block < W.heap.size := fun x hx => hW'.lt x (List.mem_append.2 (.inl hx))
 have hlq : ∀ x ∈ q, x.block < W.heap.size := fun x hx => hW'.lt x (List.mem_append.2 (.inr hx))
 refine ⟨ds, gs, _, [], p, q, hW', ?_, ?_, ?_, Below.frame hk _, fun h => by cases h⟩
 ·rw [hfn, hres]
  exact trodAll_cons_mk (shut_bool Tryz.underlying4 _) trodAll_mk0
 ·rw [hfn]
  exact trodAll_stays hk _ _ _ _ hr hlt hA
 ·rw [hfn]
  exact trodVars_stays hk _ _ _ hv hlq hV
theorem var_type {n n' : String} {g g' : Nat} {t t' : TypeId} (hn : n = n') (hg : Tryz.prog.globalNamed n' = some g') (ht : (Tryz.prog.globals[g']?).map (·.type) = some t') (h1 : Tryz.prog.globalNamed n = some g) (h2 : (Tryz.prog.globals[g]?).map (·.type) = some t) : t = t' := by
 subst hn
 rw [hg] at h1; cases h1
 rw [ht] at h2; cases h2
 rfl
end
end Go.Proofs.YtfmmajgkjkmghaaGreatDoor
namespace Go.Proofs.YtfmmajgkjkmghaaGreatDoor
open Go.ChangeShapes Go.WideShapes Go.ChangeAt Go.RowKit Go.Deep
set_option maxRecDepth 100000 in
theorem open_bytes {H : Type} {enc : TypeId × Value → H} {W : World} {v : Value} {d : DataW H} {ps : List MemPlace} {r : Reach} {b0 : Nat} (hval : Value.okWide Tryz.prog W r b0 22 v)
  (h : DataW.Trod enc Tryz.prog W 0 (fun _ => true) true 22 v d ps) :
  ∃ p n cap, v = .slice p n cap ∧ n ≤ maxLen ∧ Bts W v n := by
 obtain ⟨p, n, cap, rfl⟩ := okWide_slice Tryz.underlying22 hval
 obtain ⟨fuel, hf⟩ := h
 have hC : Tryz.prog.cellsOf 5 = 1 := by kernel_rfl
 rcases open_slice1 Tryz.underlying22 hC hf with ⟨hcs, _⟩ | ⟨a, len, cap', m, n', V, D, Pl, hcs, _, hl, hm, hmm, _, hi⟩
 ·simp [Value.cells] at hcs
  obtain ⟨rfl, rfl, rfl⟩ := hcs
  exact ⟨none, 0, 0, rfl, by simp [maxLen], none, 0, rfl, by simp, by simp [maxLen], fun j hj => by omega⟩
 ·simp [Value.cells] at hcs
  obtain ⟨rfl, rfl, rfl⟩ := hcs
  simp at hmm
  refine ⟨some a, n, cap, rfl, by omega, some a, cap, rfl, hl, hm, fun j hj => ?_⟩
  obtain ⟨hc, ht⟩ := hi j (by omega)
  obtain ⟨x, hx, _, hwf⟩ := DataW.trod_int Tryz.underlying5 ht
  simp at hx
  rw [hx] at hc
  have hr : 0 ≤ x ∧ x < 256 := by
   simp [Lit.wf, IntKind.min, IntKind.max, IntKind.bits, IntKind.signed] at hwf
   omega
  obtain ⟨b, off, spot⟩ := a
  have hs : spot = none := by simpa [Addr.add] using World.cell?_spot (hi 0 (by omega)).1
  subst hs
  have hadd : (⟨b, off, none⟩ : Addr).add j = ⟨b, off + j, none⟩ := by unfold Addr.add; split <;> simp_all
  rw [hadd] at hc
  exact ⟨b, off, x.toNat, rfl, by rw [hc]; congr 2; omega, by omega, World.block_lt_of_cell? _ _ hc⟩
end Go.Proofs.YtfmmajgkjkmghaaGreatDoor
