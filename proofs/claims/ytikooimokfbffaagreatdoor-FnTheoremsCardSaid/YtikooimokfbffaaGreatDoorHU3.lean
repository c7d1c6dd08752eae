import Derived.Test.YtikooimokfbffaaGreatDoorHY2
import Derived.Carry
import Derived.Test.YtikooimokfbffaaGreatDoorHU2
import Derived.IntWalk
/- provable, implies, equivalent: what they answer. -/
namespace Go.Proofs.YtikooimokfbffaaGreatDoor
open Go.RowKit
set_option maxRecDepth 20000 in
theorem newDecider_any (w : World) : Calls Tryz.prog 92 #[] w fun e w' => ∃ d m, e = .returned (.pointer (some ⟨d, 0, none⟩)) ∧ Dec w' d m ∧ w.heap.size ≤ m ∧ Keeps w w' := by
 have hmm := @run_makeMap Tryz.prog
 go_enter Tryz.func92, Tryz.ntmps92
 go_wp2
 go_ret
 refine ⟨_, w.heap.size, rfl, ⟨?_, ?_⟩, Nat.le_refl _, ((Keeps.refl w).alloc _).alloc _⟩
 ·simp
 ·exact (Ans.made w Known).keeps ((Keeps.refl _).alloc _)
set_option maxRecDepth 20000 in
theorem dprovable_any (G : List Fm) (c : Fm) (hG : OkL G) (hc : OkF c) (hl : wts G + wt c ≤ 50000000) (s : ByteArray) (v : Value) (d m : Nat) (w : World) (hv : Left w v G) (hs : bts s = c.body) (hd : Dec w d m) :
  Calls Tryz.prog 93 #[.pointer (some ⟨d, 0, none⟩), v, .string s] w (Says w d m (sqB G c)) := by
 obtain ⟨p, n, q, rfl⟩ := hv.shape
 have HP := hid (put_fm G [] _ _ w hv (Left.nil w) hG okL_nil (by simp only [wts]; omega))
 have HR := hid (fun R (hR : ∀ a, a ∈ R ↔ a ∈ G ∨ a ∈ ([] : List Fm)) (hw : wts R ≤ wts G + wts []) => by
  have h1 : wts R + wt c ≤ 50000000 := by simp only [wts] at hw; omega
  have h2 := proves_all (wts R + wt c + 1) R c (fun a ha => hG a (by simpa using (hR a).1 ha)) hc (by omega) h1
  rw [sqB_congr (sq_same (fun a => (hR a).trans (by simp) : ∀ a, a ∈ R ↔ a ∈ G))] at h2
  exact h2)
 have HD := hid hd
 clear hv hd
 go_enter Tryz.func93, Tryz.ntmps93
 go_wp2_with fail
 refine HP.out.mono ?_; rintro e w2 ⟨v2, R, rfl, hR, hm, hwt, k2⟩
 obtain ⟨p2, n2, q2, rfl⟩ := hR.left.shape
 go_wp2_with fail
 refine (HR.out R hm hwt p2 n2 q2 s d m w2 hR.left hs (HD.out.keeps k2)).mono ?_; rintro e w3 ⟨rfl, ht, hd3⟩
 go_wp2_with fail
 go_ret
 exact ⟨rfl, (Turns.ofKeeps k2).trans ht, hd3⟩
set_option maxRecDepth 20000 in
theorem provable_any (G : List Fm) (c : Fm) (hG : OkL G) (hc : OkF c) (hl : wts G + wt c ≤ 50000000) (s : ByteArray) (v : Value) (w : World) (hv : Left w v G) (hs : bts s = c.body) :
  Calls Tryz.prog 37 #[v, .string s] w fun e w' => e = .returned (.bool (sqB G c)) ∧ Keeps w w' := by
 obtain ⟨p, n, q, rfl⟩ := hv.shape
 have HP := hid (fun d m w2 (k : Keeps w w2) (hd : Dec w2 d m) => dprovable_any G c hG hc hl s _ d m w2 (hv.keeps k) hs hd)
 clear hv
 go_enter Tryz.func37, Tryz.ntmps37
 go_wp2_with fail
 refine (newDecider_any w).mono ?_; rintro e w2 ⟨d, m, rfl, hd, hm, k2⟩
 go_wp2_with fail
 refine (HP.out d m w2 k2 hd).mono ?_; rintro e w3 ⟨rfl, ht, hd3⟩
 go_wp2_with fail
 go_ret
 exact ⟨rfl, ht.keeps hm k2⟩
end Go.Proofs.YtikooimokfbffaaGreatDoor
namespace Go.Proofs.YtikooimokfbffaaGreatDoor
open Go.RowKit
theorem sizeOfL (w : World) : (sizeOf 26).run Tryz.prog w = .ok 1 w := by
 obtain ⟨i0, hi, hz0, hz1, hz2⟩ := info_parts infoL
 simp [sizeOf, typeInfo, hi, hz1]
theorem tailL (b off m cap l : Nat) (i : Int) (hi : i = l) (hl : l ≤ m) (hc : m ≤ cap) :
  ∃ q, (∀ (w : World) (vs : List Value), At w (some ⟨b, off, none⟩) vs → vs.length = m → At w q (vs.drop l)) ∧
   ∀ wx, (Instr.slice 52 (.slice (some ⟨b, off, none⟩) m cap) (some (.int .i64 i)) none none).run Tryz.prog wx = .ok (.slice q (m - l) (cap - l)) wx := by
 subst hi
 have hT : Tryz.prog.underlying 52 = some (.slice (Tryz.prog.elem 52)) := by kernel_rfl
 have hE : Tryz.prog.elem 52 = 26 := by kernel_rfl
 refine ⟨if cap = l then some ⟨b, off, none⟩ else some ⟨b, off + l, none⟩, fun w vs h hvl => ?_, fun wx => ?_⟩
 ·split
  ·rename_i e
   have : vs.drop l = [] := List.drop_eq_nil_of_le (by omega)
   rw [this]
   exact At.nil _ _
  ·exact h.drop l rfl
 ·rw [run_slice_l (P := Tryz.prog) wx 52 (some ⟨b, off, none⟩) m cap hT .i64 (l : Int) (by omega) (by omega), hE, sizeOfL]
  simp only [Result.andThen_ok, sliced, Int.toNat_natCast, Nat.mul_one, Option.map_some]
  have hadd : (⟨b, off, none⟩ : Addr).add l = ⟨b, off + l, none⟩ := by unfold Addr.add; split <;> simp_all
  rw [hadd]
end Go.Proofs.YtikooimokfbffaaGreatDoor
namespace Go.Proofs.YtikooimokfbffaaGreatDoor
open Go.RowKit
theorem FsL.get {w : World} {p : Option Addr} {n cap : Nat} {G : List Fm} (h : FsL w (.slice p n cap) G) (i : Nat) (hi : i < G.length) :
  ∃ b off u, p = some ⟨b, off, none⟩ ∧ w.cell? ⟨b, off + i, none⟩ = some u ∧ Nds w u G[i].enc := by
 obtain ⟨b, off, u, h1, h2, h3⟩ := NdsL.get h i (by simpa using hi)
 exact ⟨b, off, u, h1, h2, by simpa using h3⟩
theorem FsL.len {w : World} {p : Option Addr} {n cap : Nat} {G : List Fm} (h : FsL w (.slice p n cap) G) : n = G.length ∧ n ≤ cap ∧ cap ≤ maxLen := by
 obtain ⟨_, _, e, h1, h2, _⟩ := h
 cases e
 exact ⟨by simp, h1, h2⟩
def Srch (n : Nat) : Prop := ∀ (G : List Fm) (c : Fm), wts G + wt c ≤ n → (∀ a ∈ G, a.plain = true) → c.plain = true → ∀ (v u : Value) (w : World), FsL w v G → Nds w u c.enc →
  Calls Tryz.prog 27 #[v, u] w fun e w' => e = .returned (.bool (sqB G c)) ∧ Keeps w w'
theorem isFls_eq' {b : Fm} (h : b.isFls = true) : b = .fls := by cases b <;> simp [Fm.isFls] at h <;> rfl
def stk (H : List Fm) (a : Fm) : Prop := ((∃ p, a = .var p) ∨ (∃ p b, a = .imp (.var p) b ∧ Fm.var p ∉ H) ∨ (∃ x y b, a = .imp (.imp x y) b ∧ Fm.imp x y ∉ H)) ∧ useF H a = false
def AllStk (G : List Fm) : Prop := ∀ k (hk : k < G.length), stk (rest G k) G[k]
theorem stk.stuck {H : List Fm} {a : Fm} (h : stk H a) : stuck H a := by
 rcases h.1 with h | h | ⟨x, y, b, h, _⟩
 ·exact .inl h
 ·exact .inr (.inl h)
 ·exact .inr (.inr ⟨x, y, b, h⟩)
set_option maxRecDepth 100000 in
set_option maxHeartbeats 1000000 in
theorem search_quick (G : List Fm) (c : Fm) (h12 : c ∈ G ∨ Fm.fls ∈ G) (v u : Value) (w : World) (hv : FsL w v G) (hu : Nds w u c.enc) :
  Calls Tryz.prog 27 #[v, u] w fun e w' => e = .returned (.bool (sqB G c)) ∧ Keeps w w' := by
 have hu0 := hu
 have hv0 := hv
 obtain ⟨p, m, cap, rfl⟩ := NdsL.shapeL hv
 obtain ⟨hm, hmc, hmx⟩ := FsL.len hv
 have HM := hid hm; clear hm
 unfold maxLen at hmx
 have HC := hid (has_fm G c _ _ w hv hu)
 have HF := hid (fun w1 (k : Keeps w w1) u1 (h : Nds w1 u1 Fm.fls.enc) => has_fm G .fls _ u1 w1 (hv.keeps k) h)
 by_cases h1 : c ∈ G
 ·rw [decide_eq_true h1] at HC
  rw [sqB_true (sq_mem h1)]
  clear h1 hv hu h12
  go_enter Tryz.func27, Tryz.ntmps27
  go_wp2_with fail
  refine HC.out.mono ?_; rintro e w2 ⟨rfl, k2⟩
  go_wp2_with fail
  go_ret
  exact ⟨rfl, k2⟩
 rw [decide_eq_false h1] at HC
 by_cases h2 : Fm.fls ∈ G
 ·rw [decide_eq_true h2] at HF
  rw [sqB_true (sq_fls h2)]
  clear h1 h2 hv hu h12
  go_enter Tryz.func27, Tryz.ntmps27
  go_wp2_with fail
  refine HC.out.mono ?_; rintro e w2 ⟨rfl, k2⟩
  go_wp2_with fail
  refine (l02False_any _).mono ?_; rintro e w3 ⟨v3, rfl, hv3, k3⟩
  go_wp2_with fail
  refine (HF.out w3 (k2.trans k3) _ (hv3.nds (by simp [Fm.enc]))).mono ?_; rintro e w4 ⟨rfl, k4⟩
  go_wp2_with fail
  go_ret
  exact ⟨rfl, (k2.trans k3).trans k4⟩
 exact absurd h12 (by simp [h1, h2])
end Go.Proofs.YtikooimokfbffaaGreatDoor
