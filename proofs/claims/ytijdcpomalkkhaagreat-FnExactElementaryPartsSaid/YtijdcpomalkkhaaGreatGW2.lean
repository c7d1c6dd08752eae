/- From a walk's end to a row's end: a law that answers true and keeps the memory meets its row. -/
import Derived.Test.YtijdcpomalkkhaaGreatRows
import Derived.Test.YtijdcpomalkkhaaGreatGBase
import Derived.ProofKit
import Derived.OpenShut
import Derived.Deep.Slices
import Derived.Deep.Fields
import Derived.ChangeSame
import Derived.Lib.SmallJoins
import Derived.Test.YtijdcpomalkkhaaGreatGLV
import Derived.Test.YtijdcpomalkkhaaGreatGQ1
namespace Go.Proofs.YtijdcpomalkkhaaGreat
open Go.ChangeShapes Go.WideShapes Go.ChangeAt Go.RowKit Go.Deep

theorem own : ownKnob Tryz.prog.godebug = none := by kernel_rfl
theorem laidOut : laidOutB Tryz.prog = true := by kernel_rfl

section
variable {H : Type} {enc : TypeId × Value → H}
theorem trodAll_stays {W W' : World} (hk : Keeps W W') : ∀ (ts : List TypeId) (vs : List Value) (ds : List (DataW H)) (ps : List MemPlace),
    (∀ t ∈ ts, Tryz.prog.readableRec t = true ∧ t < Tryz.prog.types.size) → (∀ x ∈ ps, x.block < W.heap.size) →
    DataW.TrodAll enc Tryz.prog W 0 (fun _ => true) true ts vs ds ps → DataW.TrodAll enc Tryz.prog W' 0 (fun b => decide (b < W.heap.size)) true ts vs ds ps := by
  intro ts
  induction ts with
  | nil =>
    intro vs ds ps _ _ h
    cases vs <;> cases ds <;> simp [DataW.TrodAll] at h ⊢
    exact h
  | cons t ts ih =>
    intro vs ds ps hr hlt h
    obtain ⟨v, vs', d, ds', p, q, rfl, rfl, rfl, h1, h2⟩ := trodAll_cons h
    obtain ⟨hr1, hr2⟩ := hr t (List.mem_cons_self ..)
    have g1 := Below.trod laidOut hr1 hr2 h1 hk (fun x hx => hlt x (List.mem_append.2 (.inl hx)))
    have g2 := ih _ _ _ (fun t ht => hr t (List.mem_cons_of_mem _ ht)) (fun x hx => hlt x (List.mem_append.2 (.inr hx))) h2
    exact trodAll_cons_mk g1 g2
theorem lawPost {f : Func} {s : ChangeSpec} {W W' : World} {args : Array Value} {ds gs : List (DataW H)} {before : List MemPlace}
    (hW : DataW.Whole enc Tryz.prog f.params.toList s.vars false W args.toList ds gs before) (hvars : s.vars = [])
    (hfn : s.fn H (ds ++ gs) = { results := [.lit (.bool true)], args := ds }) (hres : f.resultTypes = #[4])
    (hr : ∀ t ∈ f.params.toList, Tryz.prog.readableRec t = true ∧ t < Tryz.prog.types.size) (hk : Keeps W W') :
    s.post enc Tryz.prog f false true false false W args (.bool true) W' := by
  have hW' := hW
  obtain ⟨p, q, hA, hV, rfl, _, _⟩ := hW
  have hlt : ∀ x ∈ p, x.block < W.heap.size := fun x hx => hW'.lt x (List.mem_append.2 (.inl hx))
  refine ⟨ds, gs, _, [], p, [], hW', ?_, ?_, ?_, Below.frame hk _, fun h => by cases h⟩
  · rw [hfn, hres]
    exact trodAll_cons_mk (shut_bool Tryz.underlying4 _) trodAll_mk0
  · rw [hfn]
    exact trodAll_stays hk _ _ _ _ hr hlt hA
  · rw [hfn, hvars]
    rfl
end
--
set_option maxRecDepth 100000 in
/-- a slice of the law's nodes -/
theorem open_nodes {H : Type} {enc : TypeId × Value → H} {W : World} {v : Value} {d : DataW H} {ps : List MemPlace} {r : Reach} {b0 : Nat} (hval : Value.okWide Tryz.prog W r b0 43 v)
    (h : DataW.Trod enc Tryz.prog W 0 (fun _ => true) true 43 v d ps) :
    ∃ p n cap, v = .slice p n cap ∧ n ≤ maxLen ∧ (n ≤ 2147483648 → ∃ a : List Nd, a.length = n ∧ Nds W v a) := by
  obtain ⟨p, n, cap, rfl⟩ := okWide_slice Tryz.underlying43 hval
  obtain ⟨fuel, hf⟩ := h
  have hmax : n ≤ maxLen := by
    rcases open_slice Tryz.underlying43 hf with ⟨hcs, _⟩ | ⟨a, len, cap', m, n', D, Pl, hcs, _, hl, hm, _⟩
    · simp [Value.cells] at hcs
      omega
    · simp [Value.cells] at hcs
      omega
  refine ⟨p, n, cap, rfl, hmax, fun hn => ?_⟩
  rcases open_slice Tryz.underlying43 hf with ⟨hcs, _⟩ | ⟨a, len, cap', m, n', D, Pl, hcs, _, hl, hm, hmm, _, hi⟩
  · simp [Value.cells] at hcs
    obtain ⟨rfl, rfl, rfl⟩ := hcs
    exact ⟨[], rfl, none, 0, rfl, by simp, by simp [maxLen], At.nil _ _, by simp⟩
  · simp [Value.cells] at hcs
    obtain ⟨rfl, rfl, rfl⟩ := hcs
    simp at hmm
    subst hmm
    have hC : Tryz.prog.cellsOf 91 = 2 := by kernel_rfl
    have hnode : ∀ i, i < n → ∃ x : Nd, W.cell? (a.add (i * 2)) = some (.int .i64 x.k) ∧ W.cell? (a.add (i * 2 + 1)) = some (.int .i64 x.s) := by
      intro i hin
      obtain ⟨cs', hc, ht'⟩ := hi i (by omega)
      rw [hC] at hc
      obtain ⟨ys, n'', hn'', hy, hlen, hyl, hf'⟩ := DataW.trod_struct Tryz.underlying91 ht'
      obtain ⟨_, hcl, hat⟩ := World.cells?_some hc
      match cs', hcl with
      | [c0, c1], _ =>
        have f0 := hf' 0 _ rfl
        have f1 := hf' 1 _ rfl
        have a0 := hat 0 (by omega)
        have a1 := hat 1 (by omega)
        rw [add_add] at a0 a1
        have hone : oneCellFields Tryz.prog (match Tryz.prog.underlying 91 with | some (.struct fs) => fs | _ => #[]) = true := by kernel_rfl
        rw [Tryz.underlying91] at hone
        obtain ⟨o0, k0⟩ := hone_of hone 0 _ rfl
        obtain ⟨o1, k1⟩ := hone_of hone 1 _ rfl
        rw [o0, k0] at f0
        rw [o1, k1] at f1
        have hyl2 : ys.length = 2 := hyl
        obtain ⟨x, hx, _⟩ := DataW.trod_int Tryz.underlying2 (f0.trans (List.getElem?_eq_getElem (by omega)))
        obtain ⟨y, hy, _⟩ := DataW.trod_int Tryz.underlying2 (f1.trans (List.getElem?_eq_getElem (by omega)))
        simp at hx hy
        subst hx; subst hy
        exact ⟨⟨x, y⟩, by simpa using a0, by simpa using a1⟩
    have hex : ∃ f : Nat → Nd, ∀ i, i < n → W.cell? (a.add (i * 2)) = some (.int .i64 (f i).k) ∧ W.cell? (a.add (i * 2 + 1)) = some (.int .i64 (f i).s) := by
      classical
      refine ⟨fun i => if h : i < n then Classical.choose (hnode i h) else ⟨0, 0⟩, fun i h => ?_⟩
      simp only [dif_pos h]
      exact Classical.choose_spec (hnode i h)
    obtain ⟨f, hfs⟩ := hex
    refine ⟨(List.range n).map f, by simp, ?_⟩
    refine ⟨some a, m, by simp, by simpa using hl, hm, ?_, by simpa using hn⟩
    intro j hj
    rw [ndCells_length] at hj
    simp only [List.length_map, List.length_range] at hj
    obtain ⟨b, off, spot⟩ := a
    have hs : spot = none := by
      obtain ⟨h1, _⟩ := hfs 0 (by omega)
      simpa [Addr.add] using World.cell?_spot h1
    subst hs
    refine ⟨b, off, rfl, ?_⟩
    have hadd : ∀ k, (⟨b, off, none⟩ : Addr).add k = ⟨b, off + k, none⟩ := fun k => by unfold Addr.add; split <;> simp_all
    obtain ⟨h1, h2⟩ := hfs (j / 2) (by omega)
    obtain ⟨g1, g2⟩ := ndCells_get ((List.range n).map f) (j / 2) (by simp; omega)
    rw [hadd] at h1 h2
    have hj2 : j = j / 2 * 2 ∨ j = j / 2 * 2 + 1 := by omega
    have hgj : (ndCells ((List.range n).map f))[j]? = W.cell? ⟨b, off + j, none⟩ := by
      rcases hj2 with e | e
      · rw [e, g1, h1]; simp
      · rw [e, g2, h2]; simp
    rw [← hgj, List.getElem?_eq_getElem]
end Go.Proofs.YtijdcpomalkkhaaGreat
/- Arguments of the laws: numbers' lists, posets, frames, models. -/
namespace Go.Proofs.YtijdcpomalkkhaaGreat
open Go.ChangeShapes Go.WideShapes Go.ChangeAt Go.RowKit Go.Deep
section
variable {H : Type} {enc : TypeId × Value → H} {W : World}
/-- a slice of numbers of whatever length -/
def WkI (w : World) (v : Value) : Prop := ∃ p n cap, v = .slice p n cap ∧ n ≤ maxLen ∧ (n ≤ 2147483648 → ∃ a : List Int, a.length = n ∧ Ints w v a)
theorem choose_allI {α : Type} {n : Nat} {P : Nat → α → Prop} [Inhabited α] (h : ∀ i, i < n → ∃ x, P i x) : ∃ l : List α, l.length = n ∧ ∀ i (hi : i < l.length), P i l[i] := by
  classical
  refine ⟨(List.range n).map fun i => if h' : i < n then Classical.choose (h i h') else default, by simp, fun i hi => ?_⟩
  have hi' : i < n := by simpa using hi
  simp only [List.getElem_map, List.getElem_range, dif_pos hi']
  exact Classical.choose_spec (h i hi')
set_option maxRecDepth 100000 in
theorem wkI_trod {u : Value} {fuel : Nat} {x : DataW H × List MemPlace} (hf : DataW.trod enc Tryz.prog W 0 (fun _ => true) true fuel 35 [u] = some x) : WkI W u := by
  have hC : Tryz.prog.cellsOf 2 = 1 := by kernel_rfl
  rcases open_slice1 Tryz.underlying35 hC hf with ⟨hcs, _⟩ | ⟨a, n, cap, m, n', V, D, Pl, hcs, _, hl, hm, hmm, _, hi⟩
  · obtain rfl : u = .slice none 0 0 := by simpa using hcs
    exact ⟨none, 0, 0, rfl, by simp [maxLen], fun _ => ⟨[], rfl, none, 0, rfl, by simp, by simp [maxLen], At.nil _ _, by simp⟩⟩
  · obtain rfl : u = .slice (some a) n cap := by simpa using hcs
    refine ⟨some a, n, cap, rfl, by omega, fun hn => ?_⟩
    simp at hmm
    have hel : ∀ i, i < n → ∃ x : Int, W.cell? (a.add i) = some (.int .i64 x) := fun i hin => by
      obtain ⟨h1, h2⟩ := hi i (by omega)
      obtain ⟨x, hx, _⟩ := DataW.trod_int Tryz.underlying2 h2
      simp at hx
      exact ⟨x, by rw [h1, hx]⟩
    have hspot : 0 < n → ∃ b off, a = ⟨b, off, none⟩ := fun h0 => by
      obtain ⟨b, off, spot⟩ := a
      obtain ⟨x, hx⟩ := hel 0 h0
      have hs : spot = none := by simpa [Addr.add] using World.cell?_spot hx
      subst hs
      exact ⟨b, off, rfl⟩
    have hadd : ∀ b off k, (⟨b, off, none⟩ : Addr).add k = ⟨b, off + k, none⟩ := fun b off k => by unfold Addr.add; split <;> simp_all
    obtain ⟨l, hnl, hns⟩ := choose_allI (α := Int) (P := fun i x => W.cell? (a.add i) = some (.int .i64 x)) (n := n) hel
    subst hnl
    refine ⟨l, rfl, some a, cap, rfl, hl, hm, ?_, hn⟩
    intro j hj
    have hj' : j < l.length := by simpa [intCells] using hj
    obtain ⟨b, off, rfl⟩ := hspot (by omega)
    refine ⟨b, off, rfl, ?_⟩
    have := hns j hj'
    rw [hadd] at this
    rw [this]; simp [intCells]
set_option maxRecDepth 100000 in
theorem open_wkI {r : Reach} {b0 : Nat} {v : Value} {d : DataW H} {ps : List MemPlace} (hval : Value.okWide Tryz.prog W r b0 35 v)
    (h : DataW.Trod enc Tryz.prog W 0 (fun _ => true) true 35 v d ps) : WkI W v := by
  obtain ⟨p, n, cap, rfl⟩ := okWide_slice Tryz.underlying35 hval
  obtain ⟨fuel, hf⟩ := h
  exact wkI_trod hf
end
end Go.Proofs.YtijdcpomalkkhaaGreat
/- Arguments of the laws: modal sequents. -/
namespace Go.Proofs.YtijdcpomalkkhaaGreat
open Go.ChangeShapes Go.WideShapes Go.ChangeAt Go.RowKit Go.Deep
section
variable {H : Type} {enc : TypeId × Value → H} {W : World}
--
set_option maxRecDepth 100000 in
theorem wkS_trod {u : Value} {fuel : Nat} {x : DataW H × List MemPlace} (hf : DataW.trod enc Tryz.prog W 0 (fun _ => true) true fuel 22 [u] = some x) : WkS W u := by
  have hC : Tryz.prog.cellsOf 9 = 1 := by kernel_rfl
  rcases open_slice1 Tryz.underlying22 hC hf with ⟨hcs, _⟩ | ⟨a, n, cap, m, n', V, D, Pl, hcs, _, hl, hm, hmm, _, hi⟩
  · obtain rfl : u = .slice none 0 0 := by simpa using hcs
    exact ⟨none, 0, 0, rfl, by simp [maxLen], fun _ => ⟨[], rfl, (OwnS.nil W 0).strs (by simp), fun s h => by simp at h⟩⟩
  · obtain rfl : u = .slice (some a) n cap := by simpa using hcs
    refine ⟨some a, n, cap, rfl, by omega, fun hn => ?_⟩
    simp at hmm
    have hel : ∀ i, i < n → ∃ x : ByteArray, W.cell? (a.add i) = some (.string x) ∧ x.size ≤ maxLen := fun i hin => by
      obtain ⟨h1, h2⟩ := hi i (by omega)
      obtain ⟨x, hx, _, hxz⟩ := DataW.trod_string Tryz.underlying9 h2
      simp at hx
      exact ⟨x, by rw [h1, hx], hxz⟩
    have hspot : 0 < n → ∃ b off, a = ⟨b, off, none⟩ := fun h0 => by
      obtain ⟨b, off, spot⟩ := a
      obtain ⟨x, hx, _⟩ := hel 0 h0
      have hs : spot = none := by simpa [Addr.add] using World.cell?_spot hx
      subst hs
      exact ⟨b, off, rfl⟩
    have hadd : ∀ b off k, (⟨b, off, none⟩ : Addr).add k = ⟨b, off + k, none⟩ := fun b off k => by unfold Addr.add; split <;> simp_all
    obtain ⟨l, hnl, hns⟩ := choose_allI (α := ByteArray) (P := fun i x => W.cell? (a.add i) = some (.string x) ∧ x.size ≤ maxLen) (n := n) hel
    subst hnl
    refine ⟨l, rfl, Strs.ofAt hl hm ?_ hn, fun s hs => by
      obtain ⟨i, hi, rfl⟩ := List.getElem_of_mem hs
      exact (hns i hi).2⟩
    intro j hj
    have hj' : j < l.length := by simpa [strCells] using hj
    obtain ⟨b, off, rfl⟩ := hspot (by omega)
    refine ⟨b, off, rfl, ?_⟩
    have := (hns j hj').1
    rw [hadd] at this
    rw [this]; simp [strCells]
set_option maxRecDepth 100000 in
theorem open_sequent {r : Reach} {b0 : Nat} {v : Value} {d : DataW H} {ps : List MemPlace} (hval : Value.okWide Tryz.prog W r b0 24 v)
    (h : DataW.Trod enc Tryz.prog W 0 (fun _ => true) true 24 v d ps) : ∃ y z, v = .agg #[y, z] ∧ WkS W y ∧ WkS W z := by
  obtain ⟨x, y, _, _, n, rfl, _, _, h1, h2⟩ := Go.Joins.open_agg2 Tryz.underlying24 (by kernel_rfl) (by kernel_rfl) hval h
  exact ⟨x, y, rfl, wkS_trod h1, wkS_trod h2⟩
end
end Go.Proofs.YtijdcpomalkkhaaGreat
/- Plain law: the text of a formula at each level of the grammar, and how a reader's contracts for all levels follow from those for its parts. -/
namespace Go.Proofs.YtijdcpomalkkhaaGreat
open Fm
namespace Fm
/-- the level of the grammar at which the text of a formula stands -/
def lev : Fm → Nat
  | .imp _ b => if b.isFls then 3 else 0
  | .or _ _ => 1
  | .and _ _ => 2
  | _ => 3
/-- a text in parentheses, if they are needed -/
def par (b : Bool) (s : List UInt8) : List UInt8 := if b then 40 :: (s ++ [41]) else s
/-- the text of a formula without parentheses of its own -/
def body : Fm → List UInt8
  | .var v => [UInt8.ofNat (112 + v)]
  | .fls => [70]
  | .and a b => par (decide (a.lev < 2)) a.body ++ 38 :: par (decide (b.lev < 3)) b.body
  | .or a b => par (decide (a.lev < 1)) a.body ++ 124 :: par (decide (b.lev < 2)) b.body
  | .imp a b => if b.isFls then (if a.isFls then [84] else 126 :: par (decide (a.lev < 3)) a.body) else par (decide (a.lev < 1)) a.body ++ 62 :: b.body
  | .box a => 91 :: 93 :: par (decide (a.lev < 3)) a.body
  | .dia a => 60 :: 62 :: par (decide (a.lev < 3)) a.body
/-- the text of a formula at a level -/
def txt (t : Fm) (l : Nat) : List UInt8 := par (decide (t.lev < l)) t.body
theorem txt0 (t : Fm) : t.txt 0 = t.body := by simp [txt, par]
theorem lev_le (t : Fm) : t.lev ≤ 3 := by
  cases t <;> simp only [lev] <;> (try split) <;> omega
theorem txt_eq (t : Fm) (l m : Nat) (h : t.lev < l ↔ t.lev < m) : t.txt l = t.txt m := by
  unfold txt; rw [show decide (t.lev < l) = decide (t.lev < m) from decide_eq_decide.2 h]
def andHead : Fm → Fm
  | .and a _ => a.andHead
  | t => t
def andTail : Fm → List Fm
  | .and a b => a.andTail ++ [b]
  | _ => []
def orHead : Fm → Fm
  | .or a _ => a.orHead
  | t => t
def orTail : Fm → List Fm
  | .or a b => a.orTail ++ [b]
  | _ => []
/-- texts behind a byte each -/
def behind (c : UInt8) (l : Nat) : List Fm → List UInt8
  | [] => []
  | x :: xs => c :: (x.txt l ++ behind c l xs)
theorem behind_append (c : UInt8) (l : Nat) (xs ys : List Fm) : behind c l (xs ++ ys) = behind c l xs ++ behind c l ys := by
  induction xs with
  | nil => rfl
  | cons x xs ih => simp [behind, ih]
theorem and_fold (t : Fm) : t.andTail.foldl Fm.and t.andHead = t := by
  induction t with
  | and a b iha _ => simp [andTail, andHead, List.foldl_append, iha]
  | _ => rfl
theorem or_fold (t : Fm) : t.orTail.foldl Fm.or t.orHead = t := by
  induction t with
  | or a b iha _ => simp [orTail, orHead, List.foldl_append, iha]
  | _ => rfl
theorem and_txt (t : Fm) : t.txt 2 = t.andHead.txt 3 ++ behind 38 3 t.andTail := by
  induction t with
  | and a b iha _ =>
    have h : (Fm.and a b).txt 2 = a.txt 2 ++ 38 :: b.txt 3 := by simp [txt, body, par, lev]
    rw [h, iha]
    simp [andTail, andHead, behind_append, behind]
  | var v => simp [andTail, andHead, behind]; exact txt_eq _ _ _ (by simp [lev])
  | fls => simp [andTail, andHead, behind]; exact txt_eq _ _ _ (by simp [lev])
  | or a b _ _ => simp [andTail, andHead, behind]; exact txt_eq _ _ _ (by simp [lev])
  | imp a b _ _ => simp [andTail, andHead, behind]; exact txt_eq _ _ _ (by simp only [lev]; split <;> omega)
  | box a _ => simp [andTail, andHead, behind]; exact txt_eq _ _ _ (by simp [lev])
  | dia a _ => simp [andTail, andHead, behind]; exact txt_eq _ _ _ (by simp [lev])
theorem or_txt (t : Fm) : t.txt 1 = t.orHead.txt 2 ++ behind 124 2 t.orTail := by
  induction t with
  | or a b iha _ =>
    have h : (Fm.or a b).txt 1 = a.txt 1 ++ 124 :: b.txt 2 := by simp [txt, body, par, lev]
    rw [h, iha]
    simp [orTail, orHead, behind_append, behind]
  | var v => simp [orTail, orHead, behind]; exact txt_eq _ _ _ (by simp [lev])
  | fls => simp [orTail, orHead, behind]; exact txt_eq _ _ _ (by simp [lev])
  | and a b _ _ => simp [orTail, orHead, behind]; exact txt_eq _ _ _ (by simp [lev])
  | imp a b _ _ => simp [orTail, orHead, behind]; exact txt_eq _ _ _ (by simp only [lev]; split <;> omega)
  | box a _ => simp [orTail, orHead, behind]; exact txt_eq _ _ _ (by simp [lev])
  | dia a _ => simp [orTail, orHead, behind]; exact txt_eq _ _ _ (by simp [lev])
theorem and_parts (t : Fm) : (t.lev = 2 → ∀ x ∈ t.andHead :: t.andTail, x.enc.length < t.enc.length) ∧ (∀ x ∈ t.andHead :: t.andTail, x.enc.length ≤ t.enc.length) := by
  induction t with
  | and a b iha _ =>
    have h : ∀ x ∈ (Fm.and a b).andHead :: (Fm.and a b).andTail, x.enc.length < (Fm.and a b).enc.length := by
      intro x hx
      simp only [andHead, andTail, List.mem_cons, List.mem_append] at hx
      have := iha.2
      simp only [enc, List.length_cons, List.length_append]
      rcases hx with rfl | hx | rfl | hx
      · have := this _ (List.mem_cons_self ..); omega
      · have := this _ (List.mem_cons_of_mem _ hx); omega
      · omega
      · cases hx
    exact ⟨fun _ => h, fun x hx => Nat.le_of_lt (h x hx)⟩
  | imp a b _ _ => exact ⟨fun h => by simp only [lev] at h; split at h <;> omega, fun x hx => by simp [andHead, andTail] at hx; subst hx; exact Nat.le_refl _⟩
  | _ => exact ⟨fun h => by simp [lev] at h, fun x hx => by simp [andHead, andTail] at hx; subst hx; exact Nat.le_refl _⟩
theorem or_parts (t : Fm) : (t.lev = 1 → ∀ x ∈ t.orHead :: t.orTail, x.enc.length < t.enc.length) ∧ (∀ x ∈ t.orHead :: t.orTail, x.enc.length ≤ t.enc.length) := by
  induction t with
  | or a b iha _ =>
    have h : ∀ x ∈ (Fm.or a b).orHead :: (Fm.or a b).orTail, x.enc.length < (Fm.or a b).enc.length := by
      intro x hx
      simp only [orHead, orTail, List.mem_cons, List.mem_append] at hx
      have := iha.2
      simp only [enc, List.length_cons, List.length_append]
      rcases hx with rfl | hx | rfl | hx
      · have := this _ (List.mem_cons_self ..); omega
      · have := this _ (List.mem_cons_of_mem _ hx); omega
      · omega
      · cases hx
    exact ⟨fun _ => h, fun x hx => Nat.le_of_lt (h x hx)⟩
  | imp a b _ _ => exact ⟨fun h => by simp only [lev] at h; split at h <;> omega, fun x hx => by simp [orHead, orTail] at hx; subst hx; exact Nat.le_refl _⟩
  | _ => exact ⟨fun h => by simp [lev] at h, fun x hx => by simp [orHead, orTail] at hx; subst hx; exact Nat.le_refl _⟩
theorem and_wf (t : Fm) (h : t.wf) : ∀ x ∈ t.andHead :: t.andTail, x.wf := by
  induction t with
  | and a b iha _ =>
    intro x hx
    simp only [andHead, andTail, List.mem_cons, List.mem_append] at hx
    have := iha h.1
    rcases hx with rfl | hx | rfl | hx
    · exact this _ (List.mem_cons_self ..)
    · exact this _ (List.mem_cons_of_mem _ hx)
    · exact h.2
    · cases hx
  | _ => intro x hx; simp [andHead, andTail] at hx; subst hx; exact h
theorem or_wf (t : Fm) (h : t.wf) : ∀ x ∈ t.orHead :: t.orTail, x.wf := by
  induction t with
  | or a b iha _ =>
    intro x hx
    simp only [orHead, orTail, List.mem_cons, List.mem_append] at hx
    have := iha h.1
    rcases hx with rfl | hx | rfl | hx
    · exact this _ (List.mem_cons_self ..)
    · exact this _ (List.mem_cons_of_mem _ hx)
    · exact h.2
    · cases hx
  | _ => intro x hx; simp [orHead, orTail] at hx; subst hx; exact h
end Fm
/-- what a reader's contract says of a formula at a level, for a list of bytes: `R level t bytes` -/
theorem reads_all (R : Nat → Fm → List UInt8 → Prop)
    (h3 : ∀ t : Fm, t.wf → t.lev = 3 → (∀ x : Fm, x.wf → x.enc.length < t.enc.length → R 3 x (x.txt 3)) → R 3 t t.body)
    (hp : ∀ t : Fm, R 0 t t.body → R 3 t (40 :: (t.body ++ [41])))
    (h2 : ∀ x0 xs, R 3 x0 (x0.txt 3) → (∀ x ∈ xs, R 3 x (x.txt 3)) → R 2 (xs.foldl Fm.and x0) (x0.txt 3 ++ behind 38 3 xs))
    (h1 : ∀ x0 xs, R 2 x0 (x0.txt 2) → (∀ x ∈ xs, R 2 x (x.txt 2)) → R 1 (xs.foldl Fm.or x0) (x0.txt 2 ++ behind 124 2 xs))
    (h0 : ∀ t X, R 1 t X → R 0 t X)
    (hi : ∀ a b, R 1 a (a.txt 1) → R 0 b b.body → R 0 (Fm.imp a b) (a.txt 1 ++ 62 :: b.body)) :
    ∀ (n : Nat) (t : Fm), t.enc.length ≤ n → t.wf → R 0 t (t.txt 0) ∧ R 1 t (t.txt 1) ∧ R 2 t (t.txt 2) ∧ R 3 t (t.txt 3) := by
  intro n
  induction n with
  | zero => intro t h; have := t.enc_pos; omega
  | succ n ih =>
    intro t hn hw
    have sm : ∀ x : Fm, x.wf → x.enc.length < t.enc.length → R 0 x (x.txt 0) ∧ R 1 x (x.txt 1) ∧ R 2 x (x.txt 2) ∧ R 3 x (x.txt 3) := fun x hx hl => ih x (by omega) hx
    have s2 : (∀ x ∈ t.andHead :: t.andTail, R 3 x (x.txt 3)) → R 2 t (t.txt 2) := fun h => by
      have := h2 t.andHead t.andTail (h _ (List.mem_cons_self ..)) (fun x hx => h x (List.mem_cons_of_mem _ hx))
      rwa [and_fold, ← and_txt] at this
    have s1 : (∀ x ∈ t.orHead :: t.orTail, R 2 x (x.txt 2)) → R 1 t (t.txt 1) := fun h => by
      have := h1 t.orHead t.orTail (h _ (List.mem_cons_self ..)) (fun x hx => h x (List.mem_cons_of_mem _ hx))
      rwa [or_fold, ← or_txt] at this
    have hle := t.lev_le
    have up2 : t.lev ≠ 2 → R 3 t (t.txt 3) → R 2 t (t.txt 2) := fun hl h => by
      apply s2
      intro x hx
      have hx' : x = t := by
        cases t with
        | and a b => exact absurd rfl hl
        | _ => simp [andHead, andTail] at hx; exact hx
      subst hx'; exact h
    have up1 : t.lev ≠ 1 → R 2 t (t.txt 2) → R 1 t (t.txt 1) := fun hl h => by
      apply s1
      intro x hx
      have hx' : x = t := by
        cases t with
        | or a b => exact absurd rfl hl
        | _ => simp [orHead, orTail] at hx; exact hx
      subst hx'; exact h
    have up0 : t.lev ≠ 0 → R 1 t (t.txt 1) → R 0 t (t.txt 0) := fun hl h => by
      rw [txt_eq t 0 1 (by omega)]
      exact h0 _ _ h
    have dn : t.lev < 3 → R 0 t (t.txt 0) → R 3 t (t.txt 3) := fun hl h => by
      rw [txt0] at h
      have := hp t h
      unfold txt par
      rw [decide_eq_true hl]
      simpa using this
    by_cases e3 : t.lev = 3
    · have r3 : R 3 t (t.txt 3) := by
        have := h3 t hw e3 (fun x hx hl => (sm x hx hl).2.2.2)
        unfold txt par
        rw [decide_eq_false (by omega)]
        simpa using this
      have r2 := up2 (by omega) r3
      have r1 := up1 (by omega) r2
      exact ⟨up0 (by omega) r1, r1, r2, r3⟩
    by_cases e2 : t.lev = 2
    · have r2 := s2 (fun x hx => (sm x (t.and_wf hw x hx) (t.and_parts.1 e2 x hx)).2.2.2)
      have r1 := up1 (by omega) r2
      have r0 := up0 (by omega) r1
      exact ⟨r0, r1, r2, dn (by omega) r0⟩
    by_cases e1 : t.lev = 1
    · have r1 := s1 (fun x hx => (sm x (t.or_wf hw x hx) (t.or_parts.1 e1 x hx)).2.2.1)
      have r0 := up0 (by omega) r1
      have r3 := dn (by omega) r0
      exact ⟨r0, r1, up2 (by omega) r3, r3⟩
    · have r0 : R 0 t (t.txt 0) := by
        have hz : t.lev = 0 := by omega
        cases t with
        | imp a b =>
          have hb : b.isFls = false := by
            simp only [lev] at hz; split at hz
            · omega
            · simpa using ‹¬ b.isFls = true›
          have ra := (sm a hw.1 (by simp only [enc, List.length_cons, List.length_append]; omega)).2.1
          have rb := (sm b hw.2 (by simp only [enc, List.length_cons, List.length_append]; omega)).1
          rw [txt0] at rb
          have := hi a b ra rb
          rw [txt0]
          simp only [body, hb]
          simpa [txt] using this
        | _ => simp [lev] at hz
      have r3 := dn (by omega) r0
      have r2 := up2 (by omega) r3
      exact ⟨r0, up1 (by omega) r2, r2, r3⟩
end Go.Proofs.YtijdcpomalkkhaaGreat
/- Walks: the reference's small functions on formulas. -/
namespace Go.Proofs.YtijdcpomalkkhaaGreat
open Go.RowKit

/-- fresh nodes come back -/
def RetN (w : World) (a : List Nd) (e : Ending) (w' : World) : Prop := ∃ v, e = .returned v ∧ OwnN w' w.heap.size v a ∧ Keeps w w'
/-- nodes that were there come back -/
def RetS (w : World) (a : List Nd) (e : Ending) (w' : World) : Prop := ∃ v, e = .returned v ∧ Nds w v a ∧ w = w'
def plainL (a : List Nd) : Bool := a.all fun n => decide (n.k ≠ 5 ∧ n.k ≠ 6)

def plainErr (a : List Nd) : Int := if isFm a then (if plainL a then 0 else 5) else 1
--
set_option maxHeartbeats 400000 in
theorem l02Is_any (a : List Nd) (v : Value) (w : World) (hv : Nds w v a) :
    Calls Tryz.prog 54 #[v] w fun e w' => e = .returned (.bool (isFm a)) ∧ w = w' := by
  have hv0 := hv
  obtain ⟨p, cap, rfl, hle, hmx, hr, hlen⟩ := hv
  unfold maxLen at hmx
  by_cases h : a.length ≤ 40
  all_goals
    go_enter Tryz.func54, Tryz.ntmps54
    go_wp2_with (go_at_call 92; refine (l02Tree_any _ _ _ hv0).mono ?_; rintro e w' ⟨rfl, rfl⟩)
    go_ret
    exact ⟨ret_bool (by simp [isFm]; omega), rfl⟩
--
set_option maxHeartbeats 400000 in
theorem l02Left_any (a : List Nd) (x : Nd) (t : Fm) (r : List Nd) (v : Value) (w : World) (hv : Nds w v a) (ha : a = x :: (t.enc ++ r)) :
    Calls Tryz.prog 139 #[v] w (RetS w t.enc) := by
  have hv0 := hv
  obtain ⟨p, cap, rfl, hle, hmx, hr, hlen⟩ := hv
  have hp := Fm.enc_pos t
  have hs : skipInt 1 a (1 : Int).toNat = 1 + t.enc.length := by subst ha; exact skipInt_enc [x] t r
  have hl : 1 + t.enc.length ≤ a.length := by subst ha; simp; omega
  obtain ⟨b, off, rfl⟩ := hr.ptrN (by omega)
  have hmx0 := hid hmx
  unfold maxLen at hmx
  have Ha := hid ha; clear ha
  have Hs := hid hs; clear hs
  have hc1 : ¬ cap = 1 := by omega
  go_enter Tryz.func139, Tryz.ntmps139
  go_wp2_with (go_at_call 138; refine (l02Part_any _ _ _ _ hv0 (by omega) (by omega)).mono ?_; rintro e w' ⟨rfl, rfl⟩; rw [Hs.out])
  go_ret
  have e := Ha.out
  rw [show x :: (t.enc ++ r) = [x] ++ (t.enc ++ r) from rfl] at e
  rw [e] at hr
  exact ⟨_, rfl, Nds.sub (l := [x]) (m := t.enc) (r := r) hr (by omega) (by simp) (by omega) (by omega) (by have := hmx0.out; omega), rfl⟩
--
set_option maxHeartbeats 400000 in
theorem l02Right_any (a : List Nd) (x : Nd) (t u : Fm) (v : Value) (w : World) (hv : Nds w v a) (ha : a = x :: (t.enc ++ u.enc)) :
    Calls Tryz.prog 140 #[v] w (RetS w u.enc) := by
  have hv0 := hv
  obtain ⟨p, cap, rfl, hle, hmx, hr, hlen⟩ := hv
  have hp := Fm.enc_pos u
  have hs : skipInt 1 a (1 : Int).toNat = 1 + t.enc.length := by subst ha; exact skipInt_enc [x] t u.enc
  have hl : a.length = 1 + t.enc.length + u.enc.length := by subst ha; simp; omega
  obtain ⟨b, off, rfl⟩ := hr.ptrN (by omega)
  have hmx0 := hid hmx
  unfold maxLen at hmx
  have Ha := hid ha; clear ha
  have Hs := hid hs; clear hs
  have hl1 : 1 + t.enc.length + u.enc.length ≤ a.length := by omega
  have Hl := hid hl; clear hl
  have hc1 : ¬ cap = 1 + t.enc.length := by omega
  go_enter Tryz.func140, Tryz.ntmps140
  go_wp2_with (go_at_call 138; refine (l02Part_any _ _ _ _ hv0 (by omega) (by omega)).mono ?_; rintro e w' ⟨rfl, rfl⟩; rw [Hs.out])
  go_ret
  have e := Ha.out
  rw [show x :: (t.enc ++ u.enc) = (x :: t.enc) ++ (u.enc ++ []) by simp] at e
  rw [e] at hr
  have e2 := Hl.out
  exact ⟨_, rfl, Nds.sub (l := x :: t.enc) (m := u.enc) (r := []) hr (by omega) (by simp; omega) (by omega) (by omega) (by have := hmx0.out; omega), rfl⟩
--
set_option maxHeartbeats 400000 in
theorem l02False_any (w : World) : Calls Tryz.prog 167 #[] w (RetN w Fm.fls.enc) := by
  go_enter Tryz.func167, Tryz.ntmps167
  go_wp2
  go_ret
  exact ⟨_, rfl, OwnN.lit1 w ⟨1, 0⟩, (Keeps.refl w).alloc _⟩
--
set_option maxHeartbeats 400000 in
theorem l02Pair_any (k : Int) (a b : List Nd) (va vb : Value) (w : World) (hva : Nds w va a) (hvb : Nds w vb b) (hl : 1 + a.length + b.length ≤ 2147483648) :
    Calls Tryz.prog 191 #[.int .i64 k, va, vb] w (RetN w (⟨k, 0⟩ :: (a ++ b))) := by
  go_enter Tryz.func191, Tryz.ntmps191
  have h1 := OwnN.lit1 w ⟨k, 0⟩
  have k1 := (Keeps.refl w).alloc (.cells #[.int .i64 k, .int .i64 0] 89)
  have ha1 := hva.keeps k1
  go_wp2_with (first | (at_builtin; refine appN rfl (.tmp 9) (.tmp 10) rfl w.heap.size _ [⟨k, 0⟩] rfl h1 _ a rfl ha1 (by simp) (by simp; omega) ?_; intro v1 w1 hv1 hg1 hr1; have k2 : Keeps w w1 := k1.grown hg1 hr1; have hb1 := hvb.keeps k2) | (at_builtin; refine appN rfl (.tmp 11) (.tmp 12) rfl w.heap.size _ ([⟨k, 0⟩] ++ a) rfl (by assumption) _ b rfl (by assumption) (by have := k2.size; omega) (by simp; omega) ?_; intro v2 w2 hv2 hg2 hr2; have k3 : Keeps w w2 := k2.grown hg2 hr2))
  go_ret
  exact ⟨_, rfl, by simpa using hv2, k3⟩
--
set_option maxHeartbeats 400000 in
theorem l02Not_any (t : Fm) (v : Value) (w : World) (hv : Nds w v t.enc) (hl : t.enc.length ≤ 1073741824) :
    Calls Tryz.prog 166 #[v] w (RetN w (Fm.not t).enc) := by
  go_enter Tryz.func166, Tryz.ntmps166
  go_wp2_with (first | (go_at_call 167; refine (l02False_any _).mono ?_; rintro e w1 ⟨v1, rfl, hv1, k1⟩) | (go_at_call 191; refine (l02Pair_any _ _ _ _ _ _ (hv.keeps k1) (hv1.nds (by simp [Fm.enc])) (by simp [Fm.enc]; omega)).mono ?_; rintro e w2 ⟨v2, rfl, hv2, k2⟩))
  go_ret
  exact ⟨_, rfl, hv2.mono k1.size, k1.trans k2⟩
end Go.Proofs.YtijdcpomalkkhaaGreat
