/- The law of BoxValuesOf. -/
import Derived.Test.YtponaoefpicfpaaGreatDoorGLN
import Derived.Deep.RegionHeld3
import Derived.Test.YtponaoefpicfpaaGreatDoorGQR
import Derived.Test.YtponaoefpicfpaaGreatDoorGAL
import Derived.Test.YtponaoefpicfpaaGreatDoorRows
import Derived.Test.YtponaoefpicfpaaGreatDoorGBase
import Derived.ProofKit
import Derived.OpenShut
import Derived.Deep.Slices
import Derived.Deep.Fields
import Derived.ChangeSame
import Derived.Lib.SmallJoins
import Derived.Test.YtponaoefpicfpaaGreatDoorCards
import Derived.Test.YtponaoefpicfpaaGreatDoorTie
import Derived.Deep.DeepHandedRow
import Derived.Lib.LaidTab
import Derived.Test.YtponaoefpicfpaaGreatDoorGPP
namespace Go.Proofs.YtponaoefpicfpaaGreatDoor
open Go.RowKit
end Go.Proofs.YtponaoefpicfpaaGreatDoor
/- The law of IsBelowIntermediate. -/
namespace Go.Proofs.YtponaoefpicfpaaGreatDoor
open Go.RowKit
--
set_option maxRecDepth 20000 in
set_option maxHeartbeats 8000000 in
theorem lawIsBelowIntermediate (s0 : ByteArray) (s1 : ByteArray) (r : Bool) (c : Int) (hs : ∀  (w : World), LaidS 1 names9 w → Calls Tryz.prog 8 #[.string s0, .string s1] w (fun e w' => e = .returned (.tuple #[.bool r, .int .i64 c]) ∧ Keeps w w')) (hi : ∀  (w : World), LaidS 1 names9 w → Calls Tryz.prog 9 #[.string s0, .string s1] w (fun e w' => e = .returned (.tuple #[.bool r, .int .i64 c]) ∧ Keeps w w')) (w : World)   (hlen0 : s0.size ≤ 1048576) (hlen1 : s1.size ≤ 1048576) (hL : LaidS 1 names9 w) :
    Calls Tryz.prog 3 #[.string s0, .string s1] w fun e w' => e = .returned (.bool true) ∧ Keeps w w' := by
  have HS := hid hs; clear hs
  have HI := hid hi; clear hi
  have kW := Keeps.refl w
  have HL := hid hL; clear hL
  go_enter Tryz.func3, Tryz.ntmps3
  go_wp2_with fail
  refine (HS.out  _  (HL.out.keeps kW)).mono ?_; rintro e w1 ⟨rfl, kw1⟩
  replace kW := kW.trans kw1
  go_wp2_with fail
  refine (HI.out  _  (HL.out.keeps kW)).mono ?_; rintro e w2 ⟨rfl, kw2⟩
  replace kW := kW.trans kw2
  go_wp2_with fail
  go_ret
  exact ⟨rfl, kW⟩
--
set_option maxRecDepth 20000 in
set_option maxHeartbeats 1000000 in
theorem lawIsBelowIntermediateBig (s0 : ByteArray) (s1 : ByteArray) (w : World) (hm0 : s0.size ≤ maxLen) (_hm1 : s1.size ≤ maxLen) (hb : ¬ (s0.size ≤ 1048576 ∧ s1.size ≤ 1048576)) :
    Calls Tryz.prog 3 #[.string s0, .string s1] w fun e w' => e = .returned (.bool true) ∧ Keeps w w' := by
  have kP : Keeps w w := (Keeps.refl w)
  by_cases c0 : s0.size ≤ 1048576
  case neg =>
    have hd : decide (((s0.size : Nat) : Int) > 1048576) = true := by simp; omega
    unfold maxLen at *
    clear hb
    go_enter Tryz.func3, Tryz.ntmps3
    go_wp2
    go_ret
    exact ⟨rfl, kP⟩
  by_cases c1 : s1.size ≤ 1048576
  case neg =>
    have hd : decide (((s1.size : Nat) : Int) > 1048576) = true := by simp; omega
    unfold maxLen at *
    clear hb
    go_enter Tryz.func3, Tryz.ntmps3
    go_wp2
    go_ret
    exact ⟨rfl, kP⟩
  exact absurd ⟨c0, c1⟩ hb
end Go.Proofs.YtponaoefpicfpaaGreatDoor
/- From a walk's end to a row's end: a law that answers true and keeps the memory meets its row. -/
namespace Go.Proofs.YtponaoefpicfpaaGreatDoor
open Go.ChangeShapes Go.WideShapes Go.ChangeAt Go.RowKit Go.Deep

theorem own : ownKnob Tryz.prog.godebug = none := by kernel_rfl
theorem laidOut : laidOutB Tryz.prog = true := by kernel_rfl

section
variable {H : Type} {enc : TypeId × Value → H}
theorem trodAll_stays {W W' : World} (hk : Keeps W W') : ∀ (ts : List TypeId) (vs : List Value) (ds : List (DataW H)) (ps : List MemPlace),
    (∀ t ∈ ts, Tryz.prog.readableRec t = true ∧ t < Tryz.prog.types.size) → (∀ x ∈ ps, x.block < W.heap.size) →
    DataW.TrodAll enc Tryz.prog W 0 (fun _ => true) true ts vs ds ps → DataW.TrodAll enc Tryz.prog W' 0 (fun b => decide (b < W.heap.size)) true ts vs ds ps := by
  intro ts
  induction ts with
  | nil =>
    intro vs ds ps _ _ h
    cases vs <;> cases ds <;> simp [DataW.TrodAll] at h ⊢
    exact h
  | cons t ts ih =>
    intro vs ds ps hr hlt h
    obtain ⟨v, vs', d, ds', p, q, rfl, rfl, rfl, h1, h2⟩ := trodAll_cons h
    obtain ⟨hr1, hr2⟩ := hr t (List.mem_cons_self ..)
    have g1 := Below.trod laidOut hr1 hr2 h1 hk (fun x hx => hlt x (List.mem_append.2 (.inl hx)))
    have g2 := ih _ _ _ (fun t ht => hr t (List.mem_cons_of_mem _ ht)) (fun x hx => hlt x (List.mem_append.2 (.inr hx))) h2
    exact trodAll_cons_mk g1 g2
theorem lawPost {f : Func} {s : ChangeSpec} {W W' : World} {args : Array Value} {ds gs : List (DataW H)} {before : List MemPlace}
    (hW : DataW.Whole enc Tryz.prog f.params.toList s.vars false W args.toList ds gs before) (hvars : s.vars = [])
    (hfn : s.fn H (ds ++ gs) = { results := [.lit (.bool true)], args := ds }) (hres : f.resultTypes = #[4])
    (hr : ∀ t ∈ f.params.toList, Tryz.prog.readableRec t = true ∧ t < Tryz.prog.types.size) (hk : Keeps W W') :
    s.post enc Tryz.prog f false true false false W args (.bool true) W' := by
  have hW' := hW
  obtain ⟨p, q, hA, hV, rfl, _, _⟩ := hW
  have hlt : ∀ x ∈ p, x.block < W.heap.size := fun x hx => hW'.lt x (List.mem_append.2 (.inl hx))
  refine ⟨ds, gs, _, [], p, [], hW', ?_, ?_, ?_, Below.frame hk _, fun h => by cases h⟩
  · rw [hfn, hres]
    exact trodAll_cons_mk (shut_bool Tryz.underlying4 _) trodAll_mk0
  · rw [hfn]
    exact trodAll_stays hk _ _ _ _ hr hlt hA
  · rw [hfn, hvars]
    rfl
end
--
set_option maxRecDepth 100000 in
/-- a slice of the law's nodes -/
theorem open_nodes {H : Type} {enc : TypeId × Value → H} {W : World} {v : Value} {d : DataW H} {ps : List MemPlace} {r : Reach} {b0 : Nat} (hval : Value.okWide Tryz.prog W r b0 39 v)
    (h : DataW.Trod enc Tryz.prog W 0 (fun _ => true) true 39 v d ps) :
    ∃ p n cap, v = .slice p n cap ∧ n ≤ maxLen ∧ (n ≤ 2147483648 → ∃ a : List Nd, a.length = n ∧ Nds W v a) := by
  obtain ⟨p, n, cap, rfl⟩ := okWide_slice Tryz.underlying39 hval
  obtain ⟨fuel, hf⟩ := h
  have hmax : n ≤ maxLen := by
    rcases open_slice Tryz.underlying39 hf with ⟨hcs, _⟩ | ⟨a, len, cap', m, n', D, Pl, hcs, _, hl, hm, _⟩
    · simp [Value.cells] at hcs
      omega
    · simp [Value.cells] at hcs
      omega
  refine ⟨p, n, cap, rfl, hmax, fun hn => ?_⟩
  rcases open_slice Tryz.underlying39 hf with ⟨hcs, _⟩ | ⟨a, len, cap', m, n', D, Pl, hcs, _, hl, hm, hmm, _, hi⟩
  · simp [Value.cells] at hcs
    obtain ⟨rfl, rfl, rfl⟩ := hcs
    exact ⟨[], rfl, none, 0, rfl, by simp, by simp [maxLen], At.nil _ _, by simp⟩
  · simp [Value.cells] at hcs
    obtain ⟨rfl, rfl, rfl⟩ := hcs
    simp at hmm
    subst hmm
    have hC : Tryz.prog.cellsOf 88 = 2 := by kernel_rfl
    have hnode : ∀ i, i < n → ∃ x : Nd, W.cell? (a.add (i * 2)) = some (.int .i64 x.k) ∧ W.cell? (a.add (i * 2 + 1)) = some (.int .i64 x.s) := by
      intro i hin
      obtain ⟨cs', hc, ht'⟩ := hi i (by omega)
      rw [hC] at hc
      obtain ⟨ys, n'', hn'', hy, hlen, hyl, hf'⟩ := DataW.trod_struct Tryz.underlying88 ht'
      obtain ⟨_, hcl, hat⟩ := World.cells?_some hc
      match cs', hcl with
      | [c0, c1], _ =>
        have f0 := hf' 0 _ rfl
        have f1 := hf' 1 _ rfl
        have a0 := hat 0 (by omega)
        have a1 := hat 1 (by omega)
        rw [add_add] at a0 a1
        have hone : oneCellFields Tryz.prog (match Tryz.prog.underlying 88 with | some (.struct fs) => fs | _ => #[]) = true := by kernel_rfl
        rw [Tryz.underlying88] at hone
        obtain ⟨o0, k0⟩ := hone_of hone 0 _ rfl
        obtain ⟨o1, k1⟩ := hone_of hone 1 _ rfl
        rw [o0, k0] at f0
        rw [o1, k1] at f1
        have hyl2 : ys.length = 2 := hyl
        obtain ⟨x, hx, _⟩ := DataW.trod_int Tryz.underlying2 (f0.trans (List.getElem?_eq_getElem (by omega)))
        obtain ⟨y, hy, _⟩ := DataW.trod_int Tryz.underlying2 (f1.trans (List.getElem?_eq_getElem (by omega)))
        simp at hx hy
        subst hx; subst hy
        exact ⟨⟨x, y⟩, by simpa using a0, by simpa using a1⟩
    have hex : ∃ f : Nat → Nd, ∀ i, i < n → W.cell? (a.add (i * 2)) = some (.int .i64 (f i).k) ∧ W.cell? (a.add (i * 2 + 1)) = some (.int .i64 (f i).s) := by
      classical
      refine ⟨fun i => if h : i < n then Classical.choose (hnode i h) else ⟨0, 0⟩, fun i h => ?_⟩
      simp only [dif_pos h]
      exact Classical.choose_spec (hnode i h)
    obtain ⟨f, hfs⟩ := hex
    refine ⟨(List.range n).map f, by simp, ?_⟩
    refine ⟨some a, m, by simp, by simpa using hl, hm, ?_, by simpa using hn⟩
    intro j hj
    rw [ndCells_length] at hj
    simp only [List.length_map, List.length_range] at hj
    obtain ⟨b, off, spot⟩ := a
    have hs : spot = none := by
      obtain ⟨h1, _⟩ := hfs 0 (by omega)
      simpa [Addr.add] using World.cell?_spot h1
    subst hs
    refine ⟨b, off, rfl, ?_⟩
    have hadd : ∀ k, (⟨b, off, none⟩ : Addr).add k = ⟨b, off + k, none⟩ := fun k => by unfold Addr.add; split <;> simp_all
    obtain ⟨h1, h2⟩ := hfs (j / 2) (by omega)
    obtain ⟨g1, g2⟩ := ndCells_get ((List.range n).map f) (j / 2) (by simp; omega)
    rw [hadd] at h1 h2
    have hj2 : j = j / 2 * 2 ∨ j = j / 2 * 2 + 1 := by omega
    have hgj : (ndCells ((List.range n).map f))[j]? = W.cell? ⟨b, off + j, none⟩ := by
      rcases hj2 with e | e
      · rw [e, g1, h1]; simp
      · rw [e, g2, h2]; simp
    rw [← hgj, List.getElem?_eq_getElem]
end Go.Proofs.YtponaoefpicfpaaGreatDoor
/- Arguments of the laws: numbers' lists, posets, frames, models. -/
namespace Go.Proofs.YtponaoefpicfpaaGreatDoor
open Go.ChangeShapes Go.WideShapes Go.ChangeAt Go.RowKit Go.Deep
section
variable {H : Type} {enc : TypeId × Value → H} {W : World}
/-- a slice of numbers of whatever length -/
def WkI (w : World) (v : Value) : Prop := ∃ p n cap, v = .slice p n cap ∧ n ≤ maxLen ∧ (n ≤ 2147483648 → ∃ a : List Int, a.length = n ∧ Ints w v a)
theorem choose_allI {α : Type} {n : Nat} {P : Nat → α → Prop} [Inhabited α] (h : ∀ i, i < n → ∃ x, P i x) : ∃ l : List α, l.length = n ∧ ∀ i (hi : i < l.length), P i l[i] := by
  classical
  refine ⟨(List.range n).map fun i => if h' : i < n then Classical.choose (h i h') else default, by simp, fun i hi => ?_⟩
  have hi' : i < n := by simpa using hi
  simp only [List.getElem_map, List.getElem_range, dif_pos hi']
  exact Classical.choose_spec (h i hi')
set_option maxRecDepth 100000 in
theorem wkI_trod {u : Value} {fuel : Nat} {x : DataW H × List MemPlace} (hf : DataW.trod enc Tryz.prog W 0 (fun _ => true) true fuel 25 [u] = some x) : WkI W u := by
  have hC : Tryz.prog.cellsOf 2 = 1 := by kernel_rfl
  rcases open_slice1 Tryz.underlying25 hC hf with ⟨hcs, _⟩ | ⟨a, n, cap, m, n', V, D, Pl, hcs, _, hl, hm, hmm, _, hi⟩
  · obtain rfl : u = .slice none 0 0 := by simpa using hcs
    exact ⟨none, 0, 0, rfl, by simp [maxLen], fun _ => ⟨[], rfl, none, 0, rfl, by simp, by simp [maxLen], At.nil _ _, by simp⟩⟩
  · obtain rfl : u = .slice (some a) n cap := by simpa using hcs
    refine ⟨some a, n, cap, rfl, by omega, fun hn => ?_⟩
    simp at hmm
    have hel : ∀ i, i < n → ∃ x : Int, W.cell? (a.add i) = some (.int .i64 x) := fun i hin => by
      obtain ⟨h1, h2⟩ := hi i (by omega)
      obtain ⟨x, hx, _⟩ := DataW.trod_int Tryz.underlying2 h2
      simp at hx
      exact ⟨x, by rw [h1, hx]⟩
    have hspot : 0 < n → ∃ b off, a = ⟨b, off, none⟩ := fun h0 => by
      obtain ⟨b, off, spot⟩ := a
      obtain ⟨x, hx⟩ := hel 0 h0
      have hs : spot = none := by simpa [Addr.add] using World.cell?_spot hx
      subst hs
      exact ⟨b, off, rfl⟩
    have hadd : ∀ b off k, (⟨b, off, none⟩ : Addr).add k = ⟨b, off + k, none⟩ := fun b off k => by unfold Addr.add; split <;> simp_all
    obtain ⟨l, hnl, hns⟩ := choose_allI (α := Int) (P := fun i x => W.cell? (a.add i) = some (.int .i64 x)) (n := n) hel
    subst hnl
    refine ⟨l, rfl, some a, cap, rfl, hl, hm, ?_, hn⟩
    intro j hj
    have hj' : j < l.length := by simpa [intCells] using hj
    obtain ⟨b, off, rfl⟩ := hspot (by omega)
    refine ⟨b, off, rfl, ?_⟩
    have := hns j hj'
    rw [hadd] at this
    rw [this]; simp [intCells]
set_option maxRecDepth 100000 in
theorem open_wkI {r : Reach} {b0 : Nat} {v : Value} {d : DataW H} {ps : List MemPlace} (hval : Value.okWide Tryz.prog W r b0 25 v)
    (h : DataW.Trod enc Tryz.prog W 0 (fun _ => true) true 25 v d ps) : WkI W v := by
  obtain ⟨p, n, cap, rfl⟩ := okWide_slice Tryz.underlying25 hval
  obtain ⟨fuel, hf⟩ := h
  exact wkI_trod hf
--
set_option maxRecDepth 100000 in
theorem open_poset {r : Reach} {b0 : Nat} {v : Value} {d : DataW H} {ps : List MemPlace} (hval : Value.okWide Tryz.prog W r b0 27 v)
    (h : DataW.Trod enc Tryz.prog W 0 (fun _ => true) true 27 v d ps) : ∃ n y, v = .agg #[.int .i64 n, y] ∧ WkI W y := by
  obtain ⟨x, y, _, _, n, rfl, _, _, h1, h2⟩ := Go.Joins.open_agg2 Tryz.underlying27 (by kernel_rfl) (by kernel_rfl) hval h
  obtain ⟨z, hz, _⟩ := DataW.trod_int Tryz.underlying2 h1
  simp at hz
  subst hz
  exact ⟨z, y, rfl, wkI_trod h2⟩
end
end Go.Proofs.YtponaoefpicfpaaGreatDoor
/- From a walk's end to a row's end, where the row lists variables (beside the openers of R3). -/
namespace Go.Proofs.YtponaoefpicfpaaGreatDoor
open Go.ChangeShapes Go.WideShapes Go.ChangeAt Go.RowKit

section
variable {H : Type} {enc : TypeId × Value → H}
theorem trodVars_stays {W W' : World} (hk : Keeps W W') : ∀ (ns : List String) (gs : List (DataW H)) (ps : List MemPlace),
    (∀ n ∈ ns, ∀ g t, Tryz.prog.globalNamed n = some g → (Tryz.prog.globals[g]?).map (·.type) = some t → Tryz.prog.readableRec t = true ∧ t < Tryz.prog.types.size) → (∀ x ∈ ps, x.block < W.heap.size) →
    DataW.TrodVars enc Tryz.prog W (fun _ => true) ns gs ps → DataW.TrodVars enc Tryz.prog W' (fun b => decide (b < W.heap.size)) ns gs ps := by
  intro ns
  induction ns with
  | nil =>
    intro gs ps _ _ h
    cases gs <;> simp [DataW.TrodVars] at h ⊢
    exact h
  | cons n ns ih =>
    intro gs ps hr hlt h
    cases gs with
    | nil => simp [DataW.TrodVars] at h
    | cons d gs =>
      obtain ⟨g, t, cs, fuel, p, q, h1, h2, h3, h4, h5, rfl⟩ := h
      obtain ⟨hr1, hr2⟩ := hr n (List.mem_cons_self ..) g t h1 h2
      have hg : g < W.heap.size := by
        unfold World.var? at h3
        rw [h1] at h3
        simp only [Option.bind_some] at h3
        split at h3
        · rename_i hh; exact (Array.getElem?_eq_some_iff.1 hh).1
        · cases h3
      have h3' := var?_below hk h1 hg h3
      obtain ⟨fuel', h4'⟩ := Below.trod (v := .agg cs) laidOut hr1 hr2 ⟨fuel, h4⟩ hk (fun x hx => hlt x (by simp [hx]))
      exact ⟨g, t, cs, fuel', p, q, h1, h2, h3', h4', ih _ _ (fun n hn => hr n (List.mem_cons_of_mem _ hn)) (fun x hx => hlt x (by simp [hx])) h5, rfl⟩
theorem lawPostV {f : Func} {s : ChangeSpec} {W W' : World} {args : Array Value} {ds gs : List (DataW H)} {before : List MemPlace}
    (hW : DataW.Whole enc Tryz.prog f.params.toList s.vars false W args.toList ds gs before)
    (hfn : s.fn H (ds ++ gs) = { results := [.lit (.bool true)], args := ds, vars := gs }) (hres : f.resultTypes = #[4])
    (hr : ∀ t ∈ f.params.toList, Tryz.prog.readableRec t = true ∧ t < Tryz.prog.types.size)
    (hv : ∀ n ∈ s.vars, ∀ g t, Tryz.prog.globalNamed n = some g → (Tryz.prog.globals[g]?).map (·.type) = some t → Tryz.prog.readableRec t = true ∧ t < Tryz.prog.types.size) (hk : Keeps W W') :
    s.post enc Tryz.prog f false true false false W args (.bool true) W' := by
  have hW' := hW
  obtain ⟨p, q, hA, hV, rfl, _, _⟩ := hW
  have hlt : ∀ x ∈ p, x.block < W.heap.size := fun x hx => hW'.lt x (List.mem_append.2 (.inl hx))
  have hlq : ∀ x ∈ q, x.block < W.heap.size := fun x hx => hW'.lt x (List.mem_append.2 (.inr hx))
  refine ⟨ds, gs, _, [], p, q, hW', ?_, ?_, ?_, Below.frame hk _, fun h => by cases h⟩
  · rw [hfn, hres]
    exact trodAll_cons_mk (shut_bool Tryz.underlying4 _) trodAll_mk0
  · rw [hfn]
    exact trodAll_stays hk _ _ _ _ hr hlt hA
  · rw [hfn]
    exact trodVars_stays hk _ _ _ hv hlq hV
/-- the one type of a listed variable -/
theorem var_type {n n' : String} {g g' : Nat} {t t' : TypeId} (hn : n = n') (hg : Tryz.prog.globalNamed n' = some g') (ht : (Tryz.prog.globals[g']?).map (·.type) = some t') (h1 : Tryz.prog.globalNamed n = some g) (h2 : (Tryz.prog.globals[g]?).map (·.type) = some t) : t = t' := by
  subst hn
  rw [hg] at h1; cases h1
  rw [ht] at h2; cases h2
  rfl
end
end Go.Proofs.YtponaoefpicfpaaGreatDoor
/- Rows of strings that grow. -/
namespace Go.Proofs.YtponaoefpicfpaaGreatDoor
open Go.RowKit
/-- the bytes of a text -/
def bts (s : ByteArray) : List UInt8 := s.data.toList
def strCells (a : List ByteArray) : List Value := a.map Value.string
theorem strCells_one (a : List ByteArray) : ∀ u ∈ strCells a, u.oneCell' = true := by
  intro u hu; simp [strCells] at hu; obtain ⟨x, _, rfl⟩ := hu; rfl
theorem Strs.at {w : World} {v : Value} {a : List ByteArray} (h : Strs w v a) : ∃ p cap, v = .slice p a.length cap ∧ a.length ≤ cap ∧ cap ≤ maxLen ∧ At w p (strCells a) ∧ a.length ≤ 2147483648 := by
  obtain ⟨p, cap, hv, h1, h2, h3⟩ := h.shape
  subst hv
  refine ⟨p, cap, rfl, h1, h2, fun j hj => ?_, h3⟩
  have hj' : j < a.length := by simpa [strCells] using hj
  obtain ⟨b, off, hp, hc⟩ := h.get j hj'
  exact ⟨b, off, hp, by simpa [strCells] using hc⟩
theorem Strs.ofAt {w : World} {p : Option Addr} {cap : Nat} {a : List ByteArray} (h1 : a.length ≤ cap) (h2 : cap ≤ maxLen) (h : At w p (strCells a)) (h3 : a.length ≤ 2147483648) : Strs w (.slice p a.length cap) a := by
  refine ⟨p, cap, rfl, h1, h2, h3, fun i hi => ?_⟩
  obtain ⟨b, off, hp, hc⟩ := h i (by simpa [strCells] using hi)
  refine ⟨b, off, fun _ => .string a[i], hp, fun c hc' => ?_, rfl⟩
  obtain rfl : c = 0 := by omega
  simpa [strCells] using hc
def OwnS (w : World) (B : Nat) (v : Value) (a : List ByteArray) : Prop := w.ownsRow B 9 1 v a.length (strCells a)
theorem OwnS.strs {w : World} {B : Nat} {v : Value} {a : List ByteArray} (h : OwnS w B v a) (hl : a.length ≤ 2147483648) : Strs w v a := by
  obtain ⟨p, cap, rfl, h2, h3, h4⟩ := At.of_own h
  exact Strs.ofAt h2 h3 h4 hl
theorem OwnS.keeps {w w' : World} {B : Nat} {v : Value} {a : List ByteArray} (h : OwnS w B v a) (k : Keeps w w') : OwnS w' B v a := own_keeps h k
theorem OwnS.mono {w : World} {B B' : Nat} {v : Value} {a : List ByteArray} (h : OwnS w B v a) (k : B' ≤ B) : OwnS w B' v a := own_mono h k
theorem OwnS.nil (w : World) (B : Nat) : OwnS w B (.slice none 0 0) [] := World.ownsRow_nil w B _ 1
theorem OwnS.len {w : World} {B : Nat} {v : Value} {a : List ByteArray} (h : OwnS w B v a) : ∀ k, v.ownBlock = some k → B ≤ k ∧ k < w.heap.size := World.ownsRow.lt h
theorem infoS : (Tryz.prog.info? 9).map (fun i => (i.zero, i.size, i.bytes)) = some (some (.string ⟨#[]⟩), 1, 16) := by kernel_rfl
theorem appSK {w : World} {o : Oper} {a : Act} {K : Act → World → Prop} {Q : Exit → Act → World → Prop} (s x : Operand)
    (ho : o.op = .call { callee := .builtin .append, args := #[s, x], argTypes := #[29, 29] }) (base : Nat) (v : Value) (xs : List ByteArray) (hs : a.eval s = v) (hown : OwnS w base v xs)
    (u : Value) (ys : List ByteArray) (hx : a.eval x = u) (hu : Strs w u ys) (hbase : base ≤ w.heap.size) (hlen : xs.length + ys.length ≤ 2147483648)
    (h : ∀ v' w', OwnS w' base v' (xs ++ ys) → w.grownBy w' v.ownBlock → (∀ k, v.ownBlock = some k → base ≤ k) → K (a.put o.dst v') w') : o.wp Tryz.prog a w K Q := by
  obtain ⟨i0, hi, hz0, hz1, hz2⟩ := info_parts infoS
  obtain ⟨p, cap, rfl, _, _, hat, _⟩ := hu.at
  refine wp_append_at s x _ ho _ i0 _ 1 16 Tryz.underlying29 hi hz0 hz1 hz2 rfl (by decide) base v _ _ hs hown p _ cap _ hx (by simp [strCells]) hat (strCells_one _) (by unfold maxLen; omega) (by omega) hbase ?_
  intro v' w' h1 h2 h3
  refine h v' w' ?_ h2 h3
  unfold OwnS
  rw [List.length_append, show strCells (xs ++ ys) = strCells xs ++ strCells ys by simp [strCells]]
  exact h1
theorem appS {w : World} {ops : Array Oper} {rest : List Oper} {o : Oper} {a : Act} {Q : Exit → Act → World → Prop} (hgd : o.guard = none) (s x : Operand)
    (ho : o.op = .call { callee := .builtin .append, args := #[s, x], argTypes := #[29, 29] }) (base : Nat) (v : Value) (xs : List ByteArray) (hs : a.eval s = v) (hown : OwnS w base v xs)
    (u : Value) (ys : List ByteArray) (hx : a.eval x = u) (hu : Strs w u ys) (hbase : base ≤ w.heap.size) (hlen : xs.length + ys.length ≤ 2147483648)
    (h : ∀ v' w', OwnS w' base v' (xs ++ ys) → w.grownBy w' v.ownBlock → (∀ k, v.ownBlock = some k → base ≤ k) → wpList Tryz.prog ops Q rest (a.put o.dst v') w') : wpList Tryz.prog ops Q (o :: rest) a w :=
  wpList_plain hgd fun _ hK => appSK s x ho base v xs hs hown u ys hx hu hbase hlen fun v' w' h1 h2 h3 => hK _ _ (h v' w' h1 h2 h3)
theorem stepS {w : World} {ops : Array Oper} {o : Oper} {a : Act} {K : Act → World → Prop} {Q : Exit → Act → World → Prop} {E : Prop} (hgd : o.guard = none) (s x : Operand)
    (ho : o.op = .call { callee := .builtin .append, args := #[s, x], argTypes := #[29, 29] }) (base : Nat) (v : Value) (xs : List ByteArray) (hs : a.eval s = v) (hown : OwnS w base v xs)
    (u : Value) (ys : List ByteArray) (hx : a.eval x = u) (hu : Strs w u ys) (hbase : base ≤ w.heap.size) (hlen : xs.length + ys.length ≤ 2147483648)
    (h : ∀ v' w', OwnS w' base v' (xs ++ ys) → w.grownBy w' v.ownBlock → (∀ k, v.ownBlock = some k → base ≤ k) → K (a.put o.dst v') w') : if Region.wanted o (yielded ops a.tmps) = true then Oper.wp Tryz.prog o a w K Q else E := by
  rw [if_pos (by simp [Region.wanted, hgd])]
  exact appSK s x ho base v xs hs hown u ys hx hu hbase hlen h
/-! ### append onto an empty literal: a fresh row -/
theorem run_append_fresh {P : Program} (w : World) (t ty e : TypeId) (i : TypeInfo) (z : Value) (size bytes : Nat) (ht : P.underlying t = some (.slice e)) (hi : P.info? e = some i) (hz : i.zero = some z)
    (hsize : i.size = size) (hby : i.bytes = bytes) (hzs : z.cells.size = size) (b a : Addr) (m c : Nat) (news : List Value) (hl : news.length = m * size) (hnews : ∀ j u, news[j]? = some u → w.cell? (a.add j) = some u)
    (h0 : 0 < m) (h63 : m ≤ maxLen) (hbytes : m * bytes ≤ 140737488355328) :
    ∃ v' w', (Builtin.append_ #[t, t] ty #[.slice (some b) 0 0, .slice (some a) m c]).run P w = .ok v' w' ∧ w'.ownsRow w.heap.size e size v' m news ∧ Keeps w w' := by
  subst hsize
  subst hby
  have hsmall : m ≤ 9223372036854775807 := by simp only [maxLen] at h63; omega
  have hr := run_append_grow (P := P) w t ty e i z ht hi hz b 0 0 [] (by simp) (fun j u h => by simp at h) a m c news hl hnews (by omega) (by omega) (by
    have h := growslice_fits (old := 0) (need := 0 + m) (by omega) (by simpa using hbytes)
    exact h)
  simp only [Nat.zero_add] at hr
  have hge := grownCap_ge w m 0 e
  have hcm : grownCap w m 0 e ≤ maxLen := grownCap_le_maxLen w m 0 e h63
  refine ⟨_, _, hr, ⟨hl, .inr ⟨w.heap.size, _, _, rfl, Nat.le_refl _, heap_alloc_new w.drew _, hge, hcm, ?_, ?_⟩⟩, (Keeps.refl w).drew.alloc _⟩
  · simp only [Array.size_append, List.size_toArray, size_zeroCells, hzs, hl, List.length_nil, Nat.zero_add, ← Nat.add_mul]
    congr 1
    omega
  · simp only [Array.toList_append, List.nil_append, ← hl]
    exact List.take_left
theorem appSFK {w : World} {o : Oper} {a : Act} {K : Act → World → Prop} {Q : Exit → Act → World → Prop} (s x : Operand)
    (ho : o.op = .call { callee := .builtin .append, args := #[s, x], argTypes := #[29, 29] }) (ad : Addr) (hs : a.eval s = .slice (some ad) 0 0)
    (u : Value) (ys : List ByteArray) (hx : a.eval x = u) (hu : Strs w u ys) (h0 : 0 < ys.length) (hlen : ys.length ≤ 2147483648)
    (h : ∀ v' w', OwnS w' w.heap.size v' ys → Keeps w w' → K (a.put o.dst v') w') : o.wp Tryz.prog a w K Q := by
  obtain ⟨i0, hi, hz0, hz1, hz2⟩ := info_parts infoS
  obtain ⟨p, cap, rfl, _, _, hat, _⟩ := hu.at
  cases p with
  | none => obtain ⟨b, off, hp, _⟩ := hat 0 (by simpa [strCells] using h0); cases hp
  | some bd =>
    obtain ⟨v', w', hr, h1, h2⟩ := run_append_fresh (P := Tryz.prog) w 29 o.type _ i0 _ 1 16 Tryz.underlying29 hi hz0 hz1 hz2 rfl ad bd ys.length cap (strCells ys) (by simp [strCells]) (fun j u' hu' => by
      obtain ⟨hj, rfl⟩ := List.getElem?_eq_some_iff.1 hu'
      obtain ⟨b, off, hp, hc⟩ := hat j hj
      cases hp
      have hadd : (⟨b, off, none⟩ : Addr).add j = ⟨b, off + j, none⟩ := by unfold Addr.add; split <;> simp_all
      rw [hadd]; exact hc) h0 (by unfold maxLen; omega) (by omega)
    unfold Oper.wp execOp
    simp only [ho, resolve, invoke, builtin, Sem.run_bind, Sem.run_pure, Result.andThen_ok, List.map_toArray, List.map_cons, List.map_nil, hs, hx, hr]
    exact h _ _ h1 h2
theorem appSF {w : World} {ops : Array Oper} {rest : List Oper} {o : Oper} {a : Act} {Q : Exit → Act → World → Prop} (hgd : o.guard = none) (s x : Operand)
    (ho : o.op = .call { callee := .builtin .append, args := #[s, x], argTypes := #[29, 29] }) (ad : Addr) (hs : a.eval s = .slice (some ad) 0 0)
    (u : Value) (ys : List ByteArray) (hx : a.eval x = u) (hu : Strs w u ys) (h0 : 0 < ys.length) (hlen : ys.length ≤ 2147483648)
    (h : ∀ v' w', OwnS w' w.heap.size v' ys → Keeps w w' → wpList Tryz.prog ops Q rest (a.put o.dst v') w') : wpList Tryz.prog ops Q (o :: rest) a w :=
  wpList_plain hgd fun _ hK => appSFK s x ho ad hs u ys hx hu h0 hlen fun v' w' h1 h2 => hK _ _ (h v' w' h1 h2)
theorem Strs.lit1 (w : World) (s : ByteArray) : Strs (w.alloc (.cells #[.string s] 9)) (.slice (some ⟨w.heap.size, 0, none⟩) 1 1) [s] := Strs.lit (w := w) [s] (by simp)
theorem Strs.lit2 (w : World) (s t : ByteArray) : Strs (w.alloc (.cells #[.string s, .string t] 9)) (.slice (some ⟨w.heap.size, 0, none⟩) 2 2) [s, t] := Strs.lit (w := w) [s, t] (by simp)
theorem OwnS.empty (w : World) : OwnS (w.alloc (.cells #[] 9)) w.heap.size (.slice (some ⟨w.heap.size, 0, none⟩) 0 0) [] :=
  World.ownsRow_made w #[] 0 (Nat.le_refl _) (by simp [maxLen]) (by simp)
theorem bts_inj {s t : ByteArray} (h : bts s = bts t) : s = t := by
  cases s; cases t
  unfold bts at h
  congr 1
  exact Array.toList_inj.1 h
theorem At.drop {w : World} {b off : Nat} {vs : List Value} (h : At w (some ⟨b, off, none⟩) vs) (i : Nat) {o : Nat} (ho : o = off + i) : At w (some ⟨b, o, none⟩) (vs.drop i) := fun j hj => by
  subst ho
  simp at hj
  obtain ⟨b', off', hp, hc⟩ := h (i + j) (by omega)
  cases hp
  exact ⟨b, _, rfl, by rw [Nat.add_assoc, hc]; simp⟩
end Go.Proofs.YtponaoefpicfpaaGreatDoor
