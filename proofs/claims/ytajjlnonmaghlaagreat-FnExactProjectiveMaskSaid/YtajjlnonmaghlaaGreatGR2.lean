/- Arguments too great for the laws: their sizes answer -1. -/
import Derived.Test.YtajjlnonmaghlaaGreatGL6
import Derived.Test.YtajjlnonmaghlaaGreatGR
import Derived.Lib.SmallJoins
namespace Go.Proofs.YtajjlnonmaghlaaGreat
open Go.RowKit
/-- a slice of nodes of whatever length -/
def WkN (w : World) (v : Value) : Prop := ∃ p n cap, v = .slice p n cap ∧ n ≤ maxLen ∧ (n ≤ 2147483648 → ∃ a : List Nd, a.length = n ∧ Nds w v a)
/-- a slice of slices of nodes of whatever lengths -/
def WkL (w : World) (v : Value) : Prop := ∃ p n cap, v = .slice p n cap ∧ n ≤ maxLen ∧ (n ≤ 2147483648 → ∃ ns : List Nat, ns.length = n ∧ LenL w v ns ∧ ((∀ m ∈ ns, m ≤ 2147483648) → ∃ xs : List (List Nd), xs.map List.length = ns ∧ NdsL w v xs))
/-- a size answers -1 from now on -/
def Szs (f : FuncId) (v : Value) (left : Int) (w : World) : Prop := ∀ w', Keeps w w' → Calls Tryz.prog f #[v, .int .i64 left] w' fun e w'' => e = .returned (.int .i64 (-1)) ∧ Keeps w' w''
theorem sumN_mem {ns : List Nat} {m : Nat} (h : m ∈ ns) : m ≤ sumN ns := by
  induction ns with
  | nil => simp at h
  | cons n ns ih =>
    rcases List.mem_cons.1 h with rfl | h
    · simp only [sumN]; omega
    · have := ih h; simp only [sumN]; omega
--
theorem szN_weak {w : World} {v : Value} (h : WkN w v) (left : Int) (h0 : 0 ≤ left) (h1 : left ≤ 1048576) : (∃ a : List Nd, Nds w v a ∧ a.length ≤ left) ∨ Szs 9 v left w := by
  obtain ⟨p, n, cap, rfl, hm, hn⟩ := h
  by_cases hb : left < n
  · right
    intro w' _
    refine (szNodeS_any p n cap left w' hm h0 h1).mono ?_
    rintro e w'' ⟨rfl, rfl⟩
    exact ⟨ret_int (by rw [if_pos hb]), Keeps.refl _⟩
  · obtain ⟨a, ha, hr⟩ := hn (by omega)
    exact .inl ⟨a, hr, by omega⟩
--
theorem szL_weak {w : World} {v : Value} (h : WkL w v) (left : Int) (h0 : 0 ≤ left) (h1 : left ≤ 1048576) : (∃ l : List (List Nd), NdsL w v l ∧ l.length + tot l ≤ left) ∨ Szs 16 v left w := by
  obtain ⟨p, n, cap, rfl, hm, hn⟩ := h
  by_cases hb : left < n
  · right
    intro w' _
    refine (szNodeSS_long p n cap left w' hm h0 h1 hb).mono ?_
    rintro e w'' ⟨rfl, rfl⟩
    exact ⟨rfl, Keeps.refl _⟩
  · obtain ⟨ns, rfl, hl, hx⟩ := hn (by omega)
    by_cases hs : left - ns.length < sumN ns
    · right
      intro w' k
      refine (szNodeSS_len ns _ left w' (hl.keeps k) h0 h1).mono ?_
      rintro e w'' ⟨rfl, rfl⟩
      exact ⟨ret_int (by rw [if_neg hb, if_pos hs]), Keeps.refl _⟩
    · obtain ⟨xs, e, hr⟩ := hx (fun m hm => by have := sumN_mem hm; omega)
      subst e
      rw [sumN_tot, List.length_map] at hs
      exact .inl ⟨xs, hr, by omega⟩
--
set_option maxRecDepth 20000 in
set_option maxHeartbeats 1000000 in
theorem szR_weak {w : World} {v u : Value} (h : WkL w v) (h' : WkN w u) (left : Int) (h0 : 0 ≤ left) (h1 : left ≤ 1048576) :
    (∃ (xs : List (List Nd)) (c : List Nd), NdsL w v xs ∧ Nds w u c ∧ xs.length + tot xs + c.length ≤ left) ∨ Szs 21 (.agg #[v, u]) left w := by
  rcases szL_weak h left h0 h1 with ⟨xs, hx, hs⟩ | hbad
  · rcases szN_weak h' (left - xs.length - tot xs) (by omega) (by omega) with ⟨c, hc, hs2⟩ | hbad
    · exact .inl ⟨xs, c, hx, hc, by omega⟩
    · right
      intro w' k
      obtain ⟨p1, n1, q1, rfl⟩ := agg_shape hx
      obtain ⟨p2, n2, q2, rfl, _⟩ := h'
      have k1 := (Keeps.refl w').alloc (.cells #[.slice p1 n1 q1, .slice p2 n2 q2] 38)
      have HZ := hid (szNodeSS_any xs _ left _ ((hx.keeps k).keeps k1) h0 h1 (by omega))
      have HB := hid (hbad _ (k.trans k1))
      have hp1 : (0 : Int) ≤ left - xs.length - tot xs := by omega
      clear hx hbad h
      go_enter Tryz.func21, Tryz.ntmps21
      go_wp2_with fail
      refine HZ.out.mono ?_; rintro e w' ⟨rfl, rfl⟩
      go_wp2_with fail
      refine HB.out.mono ?_; rintro e w2 ⟨rfl, k2⟩
      go_wp2_with fail
      go_ret
      exact ⟨rfl, k1.trans k2⟩
  · right
    intro w' k
    obtain ⟨p1, n1, q1, rfl, _⟩ := h
    obtain ⟨p2, n2, q2, rfl, _⟩ := h'
    have k1 := (Keeps.refl w').alloc (.cells #[.slice p1 n1 q1, .slice p2 n2 q2] 38)
    have HB := hid (hbad _ (k.trans k1))
    clear hbad
    go_enter Tryz.func21, Tryz.ntmps21
    go_wp2_with fail
    refine HB.out.mono ?_; rintro e w2 ⟨rfl, k2⟩
    go_wp2_with fail
    go_ret
    exact ⟨rfl, k1.trans k2⟩
end Go.Proofs.YtajjlnonmaghlaaGreat
/- Arguments of the laws: slices of slices of nodes, and rules. -/
namespace Go.Proofs.YtajjlnonmaghlaaGreat
open Go.ChangeShapes Go.WideShapes Go.ChangeAt Go.RowKit Go.Deep
section
variable {H : Type} {enc : TypeId × Value → H} {W : World}
--
set_option maxRecDepth 100000 in
theorem wkN_trod {u : Value} {fuel : Nat} {x : DataW H × List MemPlace} (hf : DataW.trod enc Tryz.prog W 0 (fun _ => true) true fuel 22 [u] = some x) : WkN W u := by
  rcases open_slice Tryz.underlying22 hf with ⟨hcs, _⟩ | ⟨a, n, cap, m, n', D, Pl, hcs, _, hl, hm, hmm, _, hi⟩
  · obtain rfl : u = .slice none 0 0 := by simpa using hcs
    exact ⟨none, 0, 0, rfl, by simp [maxLen], fun _ => ⟨[], rfl, none, 0, rfl, by simp, by simp [maxLen], At.nil _ _, by simp⟩⟩
  · obtain rfl : u = .slice (some a) n cap := by simpa using hcs
    refine ⟨some a, n, cap, rfl, by omega, fun hn => ?_⟩
    simp at hmm
    subst hmm
    have hC : Tryz.prog.cellsOf 56 = 2 := by kernel_rfl
    have hnode : ∀ i, i < n → ∃ x : Nd, W.cell? (a.add (i * 2)) = some (.int .i64 x.k) ∧ W.cell? (a.add (i * 2 + 1)) = some (.int .i64 x.s) := by
      intro i hin
      obtain ⟨cs', hc, ht'⟩ := hi i (by omega)
      rw [hC] at hc
      obtain ⟨ys, n'', hn'', hy, hlen, hyl, hf'⟩ := DataW.trod_struct Tryz.underlying56 ht'
      obtain ⟨_, hcl, hat⟩ := World.cells?_some hc
      match cs', hcl with
      | [c0, c1], _ =>
        have f0 := hf' 0 _ rfl
        have f1 := hf' 1 _ rfl
        have a0 := hat 0 (by omega)
        have a1 := hat 1 (by omega)
        rw [add_add] at a0 a1
        have hone : oneCellFields Tryz.prog (match Tryz.prog.underlying 56 with | some (.struct fs) => fs | _ => #[]) = true := by kernel_rfl
        rw [Tryz.underlying56] at hone
        obtain ⟨o0, k0⟩ := hone_of hone 0 _ rfl
        obtain ⟨o1, k1⟩ := hone_of hone 1 _ rfl
        rw [o0, k0] at f0
        rw [o1, k1] at f1
        have hyl2 : ys.length = 2 := hyl
        obtain ⟨x, hx, _⟩ := DataW.trod_int Tryz.underlying2 (f0.trans (List.getElem?_eq_getElem (by omega)))
        obtain ⟨y, hy, _⟩ := DataW.trod_int Tryz.underlying2 (f1.trans (List.getElem?_eq_getElem (by omega)))
        simp at hx hy
        subst hx; subst hy
        exact ⟨⟨x, y⟩, by simpa using a0, by simpa using a1⟩
    have hex : ∃ f : Nat → Nd, ∀ i, i < n → W.cell? (a.add (i * 2)) = some (.int .i64 (f i).k) ∧ W.cell? (a.add (i * 2 + 1)) = some (.int .i64 (f i).s) := by
      classical
      refine ⟨fun i => if h : i < n then Classical.choose (hnode i h) else ⟨0, 0⟩, fun i h => ?_⟩
      simp only [dif_pos h]
      exact Classical.choose_spec (hnode i h)
    obtain ⟨f, hfs⟩ := hex
    refine ⟨(List.range n).map f, by simp, ?_⟩
    refine ⟨some a, m, by simp, by simpa using hl, hm, ?_, by simpa using hn⟩
    intro j hj
    rw [ndCells_length] at hj
    simp only [List.length_map, List.length_range] at hj
    obtain ⟨b, off, spot⟩ := a
    have hs : spot = none := by
      obtain ⟨h1, _⟩ := hfs 0 (by omega)
      simpa [Addr.add] using World.cell?_spot h1
    subst hs
    refine ⟨b, off, rfl, ?_⟩
    have hadd : ∀ k, (⟨b, off, none⟩ : Addr).add k = ⟨b, off + k, none⟩ := fun k => by unfold Addr.add; split <;> simp_all
    obtain ⟨h1, h2⟩ := hfs (j / 2) (by omega)
    obtain ⟨g1, g2⟩ := ndCells_get ((List.range n).map f) (j / 2) (by simp; omega)
    rw [hadd] at h1 h2
    have hj2 : j = j / 2 * 2 ∨ j = j / 2 * 2 + 1 := by omega
    have hgj : (ndCells ((List.range n).map f))[j]? = W.cell? ⟨b, off + j, none⟩ := by
      rcases hj2 with e | e
      · rw [e, g1, h1]; simp
      · rw [e, g2, h2]; simp
    rw [← hgj, List.getElem?_eq_getElem]
set_option maxRecDepth 100000 in
theorem open_wkN {r : Reach} {b0 : Nat} {v : Value} {d : DataW H} {ps : List MemPlace} (hval : Value.okWide Tryz.prog W r b0 22 v)
    (h : DataW.Trod enc Tryz.prog W 0 (fun _ => true) true 22 v d ps) : WkN W v := by
  obtain ⟨p, n, cap, rfl⟩ := okWide_slice Tryz.underlying22 hval
  obtain ⟨fuel, hf⟩ := h
  exact wkN_trod hf
--
theorem choose_all {α : Type} {n : Nat} {P : Nat → α → Prop} [Inhabited α] (h : ∀ i, i < n → ∃ x, P i x) : ∃ l : List α, l.length = n ∧ ∀ i (hi : i < l.length), P i l[i] := by
  classical
  refine ⟨(List.range n).map fun i => if h' : i < n then Classical.choose (h i h') else default, by simp, fun i hi => ?_⟩
  have hi' : i < n := by simpa using hi
  simp only [List.getElem_map, List.getElem_range, dif_pos hi']
  exact Classical.choose_spec (h i hi')
set_option maxRecDepth 100000 in
theorem wkL_trod {u : Value} {fuel : Nat} {x : DataW H × List MemPlace} (hf : DataW.trod enc Tryz.prog W 0 (fun _ => true) true fuel 30 [u] = some x) : WkL W u := by
  have hC : Tryz.prog.cellsOf 22 = 1 := by kernel_rfl
  rcases open_slice1 Tryz.underlying30 hC hf with ⟨hcs, _⟩ | ⟨a, n, cap, m, n', V, D, Pl, hcs, _, hl, hm, hmm, _, hi⟩
  · obtain rfl : u = .slice none 0 0 := by simpa using hcs
    exact ⟨none, 0, 0, rfl, by simp [maxLen], fun _ => ⟨[], rfl, ⟨none, 0, rfl, by simp, by simp [maxLen], by simp, fun i hi => by simp at hi⟩, fun _ => ⟨[], rfl, none, 0, rfl, by simp, by simp [maxLen], by simp, fun i hi => by simp at hi⟩⟩⟩
  · obtain rfl : u = .slice (some a) n cap := by simpa using hcs
    refine ⟨some a, n, cap, rfl, by omega, fun hn => ?_⟩
    simp at hmm
    have hel : ∀ i, i < n → W.cell? (a.add i) = some (V i) ∧ WkN W (V i) := fun i hin => ⟨(hi i (by omega)).1, wkN_trod (hi i (by omega)).2⟩
    have hspot : 0 < n → ∃ b off, a = ⟨b, off, none⟩ := fun h0 => by
      obtain ⟨b, off, spot⟩ := a
      have hs : spot = none := by simpa [Addr.add] using World.cell?_spot (hel 0 h0).1
      subst hs
      exact ⟨b, off, rfl⟩
    have hadd : ∀ b off k, (⟨b, off, none⟩ : Addr).add k = ⟨b, off + k, none⟩ := fun b off k => by unfold Addr.add; split <;> simp_all
    obtain ⟨ns, hnl, hns⟩ := choose_all (α := Nat) (P := fun i q => ∃ p c, V i = .slice p q c ∧ q ≤ maxLen ∧ (q ≤ 2147483648 → ∃ y : List Nd, y.length = q ∧ Nds W (V i) y)) (n := n) (fun i hin => by
      obtain ⟨p, q, c, e, h1, h2⟩ := (hel i hin).2
      exact ⟨q, p, c, e, h1, h2⟩)
    refine ⟨ns, hnl, ⟨some a, cap, by rw [hnl], by omega, hm, by omega, fun i hin => ?_⟩, fun hsm => ?_⟩
    · obtain ⟨b, off, rfl⟩ := hspot (by omega)
      obtain ⟨p, c, e, h1, _⟩ := hns i hin
      refine ⟨b, off, fun _ => V i, rfl, fun c' hc' => ?_, p, c, e, h1⟩
      obtain rfl : c' = 0 := by omega
      have := (hel i (by omega)).1
      rw [hadd] at this
      simpa using this
    · obtain ⟨xs, hxl, hxs⟩ := choose_all (α := List Nd) (P := fun i y => ∀ h : i < ns.length, y.length = ns[i] ∧ Nds W (V i) y) (n := n) (fun i hin => by
        obtain ⟨p, c, e, h1, h2⟩ := hns i (by omega)
        obtain ⟨y, hy1, hy2⟩ := h2 (hsm _ (List.getElem_mem _))
        exact ⟨y, fun _ => ⟨hy1, hy2⟩⟩)
      refine ⟨xs, ?_, some a, cap, by rw [hxl], by omega, hm, by omega, fun i hin => ?_⟩
      · apply List.ext_getElem
        · simp; omega
        · intro i h1 h2
          simp only [List.getElem_map]
          exact (hxs i (by simpa using h1) h2).1
      · obtain ⟨b, off, rfl⟩ := hspot (by omega)
        refine ⟨b, off, fun _ => V i, rfl, fun c' hc' => ?_, (hxs i hin (by omega)).2⟩
        obtain rfl : c' = 0 := by omega
        have := (hel i (by omega)).1
        rw [hadd] at this
        simpa using this
set_option maxRecDepth 100000 in
theorem open_wkL {r : Reach} {b0 : Nat} {v : Value} {d : DataW H} {ps : List MemPlace} (hval : Value.okWide Tryz.prog W r b0 30 v)
    (h : DataW.Trod enc Tryz.prog W 0 (fun _ => true) true 30 v d ps) : WkL W v := by
  obtain ⟨p, n, cap, rfl⟩ := okWide_slice Tryz.underlying30 hval
  obtain ⟨fuel, hf⟩ := h
  exact wkL_trod hf
--
set_option maxRecDepth 100000 in
theorem open_rule {r : Reach} {b0 : Nat} {v : Value} {d : DataW H} {ps : List MemPlace} (hval : Value.okWide Tryz.prog W r b0 38 v)
    (h : DataW.Trod enc Tryz.prog W 0 (fun _ => true) true 38 v d ps) : ∃ x y, v = .agg #[x, y] ∧ WkL W x ∧ WkN W y := by
  obtain ⟨x, y, _, _, n, rfl, _, _, h1, h2⟩ := Go.Joins.open_agg2 Tryz.underlying38 (by kernel_rfl) (by kernel_rfl) hval h
  exact ⟨x, y, rfl, wkL_trod h1, wkN_trod h2⟩
end
end Go.Proofs.YtajjlnonmaghlaaGreat
