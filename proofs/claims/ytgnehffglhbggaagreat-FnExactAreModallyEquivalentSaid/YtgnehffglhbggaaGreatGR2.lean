/- The laws of functions that answer a bool and an error. -/
import Derived.Test.YtgnehffglhbggaaGreatGL6
import Derived.Deep.RegionHeld3
import Derived.Test.YtgnehffglhbggaaGreatGL2
import Derived.Lib.SmallJoins
namespace Go.Proofs.YtgnehffglhbggaaGreat
open Go.RowKit
--
theorem eqNodeS_same' (a : List Nd) (v v' : Value) (w : World) (hv : Nds w v a) (hv' : Nds w v' a) :
    Calls Tryz.prog 29 #[v, v'] w fun e w' => e = .returned (.bool true) ∧ Keeps w w' := by
  have h := eqNodeS_any a a v v' w hv hv'
  rw [decide_eq_true rfl] at h
  exact h
end Go.Proofs.YtgnehffglhbggaaGreat
/- Arguments too great for the laws: their sizes answer -1. -/
namespace Go.Proofs.YtgnehffglhbggaaGreat
open Go.RowKit
/-- a slice of nodes of whatever length -/
def WkN (w : World) (v : Value) : Prop := ∃ p n cap, v = .slice p n cap ∧ n ≤ maxLen ∧ (n ≤ 2147483648 → ∃ a : List Nd, a.length = n ∧ Nds w v a)
/-- a slice of slices of nodes of whatever lengths -/
def WkL (w : World) (v : Value) : Prop := ∃ p n cap, v = .slice p n cap ∧ n ≤ maxLen ∧ (n ≤ 2147483648 → ∃ ns : List Nat, ns.length = n ∧ LenL w v ns ∧ ((∀ m ∈ ns, m ≤ 2147483648) → ∃ xs : List (List Nd), xs.map List.length = ns ∧ NdsL w v xs))
/-- a size answers -1 from now on -/
def Szs (f : FuncId) (v : Value) (left : Int) (w : World) : Prop := ∀ w', Keeps w w' → Calls Tryz.prog f #[v, .int .i64 left] w' fun e w'' => e = .returned (.int .i64 (-1)) ∧ Keeps w' w''
theorem sumN_mem {ns : List Nat} {m : Nat} (h : m ∈ ns) : m ≤ sumN ns := by
  induction ns with
  | nil => simp at h
  | cons n ns ih =>
    rcases List.mem_cons.1 h with rfl | h
    · simp only [sumN]; omega
    · have := ih h; simp only [sumN]; omega
--
theorem szN_weak {w : World} {v : Value} (h : WkN w v) (left : Int) (h0 : 0 ≤ left) (h1 : left ≤ 1048576) : (∃ a : List Nd, Nds w v a ∧ a.length ≤ left) ∨ Szs 25 v left w := by
  obtain ⟨p, n, cap, rfl, hm, hn⟩ := h
  by_cases hb : left < n
  · right
    intro w' _
    refine (szNodeS_any p n cap left w' hm h0 h1).mono ?_
    rintro e w'' ⟨rfl, rfl⟩
    exact ⟨ret_int (by rw [if_pos hb]), Keeps.refl _⟩
  · obtain ⟨a, ha, hr⟩ := hn (by omega)
    exact .inl ⟨a, hr, by omega⟩
end Go.Proofs.YtgnehffglhbggaaGreat
/- The law of AreModallyEquivalent. -/
namespace Go.Proofs.YtgnehffglhbggaaGreat
open Go.RowKit
--
set_option maxRecDepth 20000 in
set_option maxHeartbeats 4000000 in
theorem lawAreModallyEquivalent (s : ByteArray) (a0 : List Nd) (v0 : Value) (a1 : List Nd) (v1 : Value) (b : Bool) (c : Int) (hs : ∀ (v0' : Value) (v1' : Value) (w : World), Nds w v0' a0 → Nds w v1' a1 → Calls Tryz.prog 26 #[.string s, v0', v1'] w (fun e w' => e = .returned (.tuple #[.bool b, .int .i64 c]) ∧ Keeps w w')) (hi : ∀ (v0' : Value) (v1' : Value) (w : World), Nds w v0' a0 → Nds w v1' a1 → Calls Tryz.prog 28 #[.string s, v0', v1'] w (fun e w' => e = .returned (.tuple #[.bool b, .int .i64 c]) ∧ Keeps w w')) (hlen : s.size ≤ 1048576) (w : World) (hv0 : Nds w v0 a0) (hv1 : Nds w v1 a1) (hsum : a0.length + a1.length ≤ 1048576) :
    Calls Tryz.prog 6 #[.string s, v0, v1] w fun e w' => e = .returned (.bool true) ∧ Keeps w w' := by
  have HS := hid hs; clear hs
  have HI := hid hi; clear hi
  obtain ⟨p0, n0, q0, rfl⟩ := hv0.shape
  obtain ⟨hn0, hm0⟩ : n0 = a0.length ∧ n0 ≤ maxLen := by obtain ⟨_, _, e, h1, h2, _⟩ := hv0; cases e; exact ⟨rfl, by omega⟩
  subst hn0
  obtain ⟨p1, n1, q1, rfl⟩ := hv1.shape
  obtain ⟨hn1, hm1⟩ : n1 = a1.length ∧ n1 ≤ maxLen := by obtain ⟨_, _, e, h1, h2, _⟩ := hv1; cases e; exact ⟨rfl, by omega⟩
  subst hn1
  have kW := Keeps.refl w
  go_enter Tryz.func6, Tryz.ntmps6
  have hz := szNodeS_any p0 a0.length q0 (1048576)
  go_wp2_with fail
  refine (hz _ hm0 (by omega) (by omega)).mono ?_; rintro e w' ⟨rfl, rfl⟩; rw [if_neg (by omega)]
  clear hz
  have hp0 : (0 : Int) ≤ 1048576 - (a0.length : Int) := by omega
  have hz := szNodeS_any p1 a1.length q1 (1048576 - (a0.length : Int))
  go_wp2_with fail
  refine (hz _ hm1 (by omega) (by omega)).mono ?_; rintro e w' ⟨rfl, rfl⟩; rw [if_neg (by omega)]
  clear hz
  have hp1 : (0 : Int) ≤ 1048576 - (a0.length : Int) - (a1.length : Int) := by omega
  go_wp2_with fail
  refine (toNodeS_any a0 _ _ (hv0.keeps kW) (by omega)).mono ?_; rintro e w3 ⟨s0, rfl, hs0, kw3⟩
  replace kW := kW.trans kw3
  have kS0 := Keeps.refl w3
  go_wp2_with fail
  refine (toNodeS_any a1 _ _ (hv1.keeps kW) (by omega)).mono ?_; rintro e w4 ⟨s1, rfl, hs1, kw4⟩
  replace kW := kW.trans kw4
  replace kS0 := kS0.trans kw4
  have kS1 := Keeps.refl w4
  go_wp2_with fail
  refine (HS.out _ _ _ ((hs0.keeps kS0).nds (by omega)) ((hs1.keeps kS1).nds (by omega))).mono ?_; rintro e w5 ⟨rfl, kw5⟩
  replace kW := kW.trans kw5
  replace kS0 := kS0.trans kw5
  replace kS1 := kS1.trans kw5
  clear hs0 kS0 hs1 kS1
  go_wp2_with fail
  refine (toNodeS_any a0 _ _ (hv0.keeps kW) (by omega)).mono ?_; rintro e w6 ⟨x0, rfl, hx0, kw6⟩
  replace kW := kW.trans kw6
  have kX0 := Keeps.refl w6
  go_wp2_with fail
  refine (toNodeS_any a1 _ _ (hv1.keeps kW) (by omega)).mono ?_; rintro e w7 ⟨x1, rfl, hx1, kw7⟩
  replace kW := kW.trans kw7
  replace kX0 := kX0.trans kw7
  have kX1 := Keeps.refl w7
  go_wp2_with fail
  refine (HI.out _ _ _ ((hx0.keeps kX0).nds (by omega)) ((hx1.keeps kX1).nds (by omega))).mono ?_; rintro e w8 ⟨rfl, kw8⟩
  replace kW := kW.trans kw8
  replace kX0 := kX0.trans kw8
  replace kX1 := kX1.trans kw8
  go_wp2_with fail
  refine (toNodeS_any a0 _ _ (hv0.keeps kW) (by omega)).mono ?_; rintro e w9 ⟨y0, rfl, hy0, kw9⟩
  replace kW := kW.trans kw9
  replace kX0 := kX0.trans kw9
  replace kX1 := kX1.trans kw9
  go_wp2_with fail
  refine (eqNodeS_same' a0 _ _ _ ((hx0.keeps kX0).nds (by omega)) (hy0.nds (by omega))).mono ?_; rintro e w10 ⟨rfl, kw10⟩
  replace kW := kW.trans kw10
  replace kX0 := kX0.trans kw10
  replace kX1 := kX1.trans kw10
  go_wp2_with fail
  refine (toNodeS_any a1 _ _ (hv1.keeps kW) (by omega)).mono ?_; rintro e w11 ⟨y1, rfl, hy1, kw11⟩
  replace kW := kW.trans kw11
  replace kX0 := kX0.trans kw11
  replace kX1 := kX1.trans kw11
  go_wp2_with fail
  refine (eqNodeS_same' a1 _ _ _ ((hx1.keeps kX1).nds (by omega)) (hy1.nds (by omega))).mono ?_; rintro e w12 ⟨rfl, kw12⟩
  replace kW := kW.trans kw12
  replace kX0 := kX0.trans kw12
  replace kX1 := kX1.trans kw12
  go_wp2_with fail
  go_ret
  exact ⟨rfl, kW⟩
--
set_option maxRecDepth 20000 in
set_option maxHeartbeats 1000000 in
theorem lawAreModallyEquivalentBigS (s : ByteArray) (p0 : Option Addr) (n0 q0 : Nat) (p1 : Option Addr) (n1 q1 : Nat) (w : World) (hbig : ¬ s.size ≤ 1048576) :
    Calls Tryz.prog 6 #[.string s, .slice p0 n0 q0, .slice p1 n1 q1] w fun e w' => e = .returned (.bool true) ∧ Keeps w w' := by
  have hd : decide (((s.size : Nat) : Int) > 1048576) = true := by simp; omega
  clear hbig
  go_enter Tryz.func6, Tryz.ntmps6
  go_wp2
  go_ret
  exact ⟨rfl, Keeps.refl _⟩
--
set_option maxRecDepth 20000 in
set_option maxHeartbeats 4000000 in
theorem lawAreModallyEquivalentBig0 (s : ByteArray)  (p0 : Option Addr) (n0 q0 : Nat) (p1 : Option Addr) (n1 q1 : Nat) (hlen : s.size ≤ 1048576) (w : World)  (hbig : Szs 25 (.slice p0 n0 q0) (1048576) w) :
    Calls Tryz.prog 6 #[.string s, .slice p0 n0 q0, .slice p1 n1 q1] w fun e w' => e = .returned (.bool true) ∧ Keeps w w' := by
  have kW := Keeps.refl w
  go_enter Tryz.func6, Tryz.ntmps6
  go_wp2_with fail
  refine (hbig _ (kW)).mono ?_; rintro e w1 ⟨rfl, kw1⟩
  replace kW := kW.trans kw1
  go_wp2_with fail
  go_ret
  exact ⟨rfl, kW⟩
--
set_option maxRecDepth 20000 in
set_option maxHeartbeats 4000000 in
theorem lawAreModallyEquivalentBig1 (s : ByteArray) (a0 : List Nd) (v0 : Value) (p1 : Option Addr) (n1 q1 : Nat) (hlen : s.size ≤ 1048576) (w : World) (hv0 : Nds w v0 a0) (hsum : a0.length ≤ 1048576) (hbig : Szs 25 (.slice p1 n1 q1) (1048576 - (a0.length : Int)) w) :
    Calls Tryz.prog 6 #[.string s, v0, .slice p1 n1 q1] w fun e w' => e = .returned (.bool true) ∧ Keeps w w' := by
  obtain ⟨p0, n0, q0, rfl⟩ := hv0.shape
  obtain ⟨hn0, hm0⟩ : n0 = a0.length ∧ n0 ≤ maxLen := by obtain ⟨_, _, e, h1, h2, _⟩ := hv0; cases e; exact ⟨rfl, by omega⟩
  subst hn0
  have kW := Keeps.refl w
  go_enter Tryz.func6, Tryz.ntmps6
  have hz := szNodeS_any p0 a0.length q0 (1048576)
  go_wp2_with fail
  refine (hz _ hm0 (by omega) (by omega)).mono ?_; rintro e w' ⟨rfl, rfl⟩; rw [if_neg (by omega)]
  clear hz
  have hp0 : (0 : Int) ≤ 1048576 - (a0.length : Int) := by omega
  go_wp2_with fail
  refine (hbig _ (kW)).mono ?_; rintro e w2 ⟨rfl, kw2⟩
  replace kW := kW.trans kw2
  go_wp2_with fail
  go_ret
  exact ⟨rfl, kW⟩
end Go.Proofs.YtgnehffglhbggaaGreat
/- Arguments of the laws: slices of slices of nodes, and rules. -/
namespace Go.Proofs.YtgnehffglhbggaaGreat
open Go.ChangeShapes Go.WideShapes Go.ChangeAt Go.RowKit Go.Deep
section
variable {H : Type} {enc : TypeId × Value → H} {W : World}
--
set_option maxRecDepth 100000 in
theorem wkN_trod {u : Value} {fuel : Nat} {x : DataW H × List MemPlace} (hf : DataW.trod enc Tryz.prog W 0 (fun _ => true) true fuel 43 [u] = some x) : WkN W u := by
  rcases open_slice Tryz.underlying43 hf with ⟨hcs, _⟩ | ⟨a, n, cap, m, n', D, Pl, hcs, _, hl, hm, hmm, _, hi⟩
  · obtain rfl : u = .slice none 0 0 := by simpa using hcs
    exact ⟨none, 0, 0, rfl, by simp [maxLen], fun _ => ⟨[], rfl, none, 0, rfl, by simp, by simp [maxLen], At.nil _ _, by simp⟩⟩
  · obtain rfl : u = .slice (some a) n cap := by simpa using hcs
    refine ⟨some a, n, cap, rfl, by omega, fun hn => ?_⟩
    simp at hmm
    subst hmm
    have hC : Tryz.prog.cellsOf 91 = 2 := by kernel_rfl
    have hnode : ∀ i, i < n → ∃ x : Nd, W.cell? (a.add (i * 2)) = some (.int .i64 x.k) ∧ W.cell? (a.add (i * 2 + 1)) = some (.int .i64 x.s) := by
      intro i hin
      obtain ⟨cs', hc, ht'⟩ := hi i (by omega)
      rw [hC] at hc
      obtain ⟨ys, n'', hn'', hy, hlen, hyl, hf'⟩ := DataW.trod_struct Tryz.underlying91 ht'
      obtain ⟨_, hcl, hat⟩ := World.cells?_some hc
      match cs', hcl with
      | [c0, c1], _ =>
        have f0 := hf' 0 _ rfl
        have f1 := hf' 1 _ rfl
        have a0 := hat 0 (by omega)
        have a1 := hat 1 (by omega)
        rw [add_add] at a0 a1
        have hone : oneCellFields Tryz.prog (match Tryz.prog.underlying 91 with | some (.struct fs) => fs | _ => #[]) = true := by kernel_rfl
        rw [Tryz.underlying91] at hone
        obtain ⟨o0, k0⟩ := hone_of hone 0 _ rfl
        obtain ⟨o1, k1⟩ := hone_of hone 1 _ rfl
        rw [o0, k0] at f0
        rw [o1, k1] at f1
        have hyl2 : ys.length = 2 := hyl
        obtain ⟨x, hx, _⟩ := DataW.trod_int Tryz.underlying2 (f0.trans (List.getElem?_eq_getElem (by omega)))
        obtain ⟨y, hy, _⟩ := DataW.trod_int Tryz.underlying2 (f1.trans (List.getElem?_eq_getElem (by omega)))
        simp at hx hy
        subst hx; subst hy
        exact ⟨⟨x, y⟩, by simpa using a0, by simpa using a1⟩
    have hex : ∃ f : Nat → Nd, ∀ i, i < n → W.cell? (a.add (i * 2)) = some (.int .i64 (f i).k) ∧ W.cell? (a.add (i * 2 + 1)) = some (.int .i64 (f i).s) := by
      classical
      refine ⟨fun i => if h : i < n then Classical.choose (hnode i h) else ⟨0, 0⟩, fun i h => ?_⟩
      simp only [dif_pos h]
      exact Classical.choose_spec (hnode i h)
    obtain ⟨f, hfs⟩ := hex
    refine ⟨(List.range n).map f, by simp, ?_⟩
    refine ⟨some a, m, by simp, by simpa using hl, hm, ?_, by simpa using hn⟩
    intro j hj
    rw [ndCells_length] at hj
    simp only [List.length_map, List.length_range] at hj
    obtain ⟨b, off, spot⟩ := a
    have hs : spot = none := by
      obtain ⟨h1, _⟩ := hfs 0 (by omega)
      simpa [Addr.add] using World.cell?_spot h1
    subst hs
    refine ⟨b, off, rfl, ?_⟩
    have hadd : ∀ k, (⟨b, off, none⟩ : Addr).add k = ⟨b, off + k, none⟩ := fun k => by unfold Addr.add; split <;> simp_all
    obtain ⟨h1, h2⟩ := hfs (j / 2) (by omega)
    obtain ⟨g1, g2⟩ := ndCells_get ((List.range n).map f) (j / 2) (by simp; omega)
    rw [hadd] at h1 h2
    have hj2 : j = j / 2 * 2 ∨ j = j / 2 * 2 + 1 := by omega
    have hgj : (ndCells ((List.range n).map f))[j]? = W.cell? ⟨b, off + j, none⟩ := by
      rcases hj2 with e | e
      · rw [e, g1, h1]; simp
      · rw [e, g2, h2]; simp
    rw [← hgj, List.getElem?_eq_getElem]
set_option maxRecDepth 100000 in
theorem open_wkN {r : Reach} {b0 : Nat} {v : Value} {d : DataW H} {ps : List MemPlace} (hval : Value.okWide Tryz.prog W r b0 43 v)
    (h : DataW.Trod enc Tryz.prog W 0 (fun _ => true) true 43 v d ps) : WkN W v := by
  obtain ⟨p, n, cap, rfl⟩ := okWide_slice Tryz.underlying43 hval
  obtain ⟨fuel, hf⟩ := h
  exact wkN_trod hf
end
end Go.Proofs.YtgnehffglhbggaaGreat
