import Derived.Test.YtikooimokfbffaaGreatDoorHR
import Derived.Lib.SmallJoins
import Derived.Test.YtikooimokfbffaaGreatDoorCards
import Derived.Test.YtikooimokfbffaaGreatDoorTie
import Derived.ProofKit
import Derived.OpenShut
import Derived.Deep.DeepHandedRow
import Derived.Lib.LaidTab
/- Arguments of the laws: numbers' lists, posets, frames, models. -/
namespace Go.Proofs.YtikooimokfbffaaGreatDoor
open Go.ChangeShapes Go.WideShapes Go.ChangeAt Go.RowKit Go.Deep
end Go.Proofs.YtikooimokfbffaaGreatDoor
namespace Go.Proofs.YtikooimokfbffaaGreatDoor
open Go.ChangeShapes Go.WideShapes Go.ChangeAt Go.RowKit
section
variable {H : Type} {enc : TypeId × Value → H}
theorem trodVars_stays {W W' : World} (hk : Keeps W W') : ∀ (ns : List String) (gs : List (DataW H)) (ps : List MemPlace),
  (∀ n ∈ ns, ∀ g t, Tryz.prog.globalNamed n = some g → (Tryz.prog.globals[g]?).map (·.type) = some t → Tryz.prog.readableRec t = true ∧ t < Tryz.prog.types.size) → (∀ x ∈ ps, x.block < W.heap.size) →
  DataW.TrodVars enc Tryz.prog W (fun _ => true) ns gs ps → DataW.TrodVars enc Tryz.prog W' (fun b => decide (b < W.heap.size)) ns gs ps := by
 intro ns
 induction ns with
 | nil =>
  intro gs ps _ _ h
  cases gs <;> simp [DataW.TrodVars] at h ⊢
  exact h
 | cons n ns ih =>
  intro gs ps hr hlt h
  cases gs with
  | nil => simp [DataW.TrodVars] at h
  | cons d gs =>
   obtain ⟨g, t, cs, fuel, p, q, h1, h2, h3, h4, h5, rfl⟩ := h
   obtain ⟨hr1, hr2⟩ := hr n (List.mem_cons_self ..) g t h1 h2
   have hg : g < W.heap.size := by
    unfold World.var? at h3
    rw [h1] at h3
    simp only [Option.bind_some] at h3
    split at h3
    ·rename_i hh; exact (Array.getElem?_eq_some_iff.1 hh).1
    ·cases h3
   have h3' := var?_below hk h1 hg h3
   obtain ⟨fuel', h4'⟩ := Below.trod (v := .agg cs) laidOut hr1 hr2 ⟨fuel, h4⟩ hk (fun x hx => hlt x (by simp [hx]))
   exact ⟨g, t, cs, fuel', p, q, h1, h2, h3', h4', ih _ _ (fun n hn => hr n (List.mem_cons_of_mem _ hn)) (fun x hx => hlt x (by simp [hx])) h5, rfl⟩
theorem lawPostV {f : Func} {s : ChangeSpec} {W W' : World} {args : Array Value} {ds gs : List (DataW H)} {before : List MemPlace}
  (hW : DataW.Whole enc Tryz.prog f.params.toList s.vars false W args.toList ds gs before)
  (hfn : s.fn H (ds ++ gs) = { results := [.lit (.bool true)], args := ds, vars := gs }) (hres : f.resultTypes = #[4])
  (hr : ∀ t ∈ f.params.toList, Tryz.prog.readableRec t = true ∧ t < Tryz.prog.types.size)
  (hv : ∀ n ∈ s.vars, ∀ g t, Tryz.prog.globalNamed n = some g → (Tryz.prog.globals[g]?).map (·.type) = some t → Tryz.prog.readableRec t = true ∧ t < Tryz.prog.types.size) (hk : Keeps W W') :
  s.post enc Tryz.prog f false true false false W args (.bool true) W' := by
 have hW' := hW
 obtain ⟨p, q, hA, hV, rfl, _, _⟩ := hW
 have hlt : ∀ x ∈ p, x.block < W.heap.size := fun x hx => hW'.lt x (List.mem_append.2 (.inl hx))
 have hlq : ∀ x ∈ q, x.block < W.heap.size := fun x hx => hW'.lt x (List.mem_append.2 (.inr hx))
 refine ⟨ds, gs, _, [], p, q, hW', ?_, ?_, ?_, Below.frame hk _, fun h => by cases h⟩
 ·rw [hfn, hres]
  exact trodAll_cons_mk (shut_bool Tryz.underlying4 _) trodAll_mk0
 ·rw [hfn]
  exact trodAll_stays hk _ _ _ _ hr hlt hA
 ·rw [hfn]
  exact trodVars_stays hk _ _ _ hv hlq hV
theorem var_type {n n' : String} {g g' : Nat} {t t' : TypeId} (hn : n = n') (hg : Tryz.prog.globalNamed n' = some g') (ht : (Tryz.prog.globals[g']?).map (·.type) = some t') (h1 : Tryz.prog.globalNamed n = some g) (h2 : (Tryz.prog.globals[g]?).map (·.type) = some t) : t = t' := by
 subst hn
 rw [hg] at h1; cases h1
 rw [ht] at h2; cases h2
 rfl
end
end Go.Proofs.YtikooimokfbffaaGreatDoor
