import Derived.Test.YtikooimokfbffaaGreatDoorHHK
import Derived.Test.YtikooimokfbffaaGreatDoorHHZ
import Derived.Test.YtikooimokfbffaaGreatDoorHL5
import Derived.Deep.RegionHeld3
import Derived.Test.YtikooimokfbffaaGreatDoorHOR
import Derived.Test.YtikooimokfbffaaGreatDoorRows
import Derived.Test.YtikooimokfbffaaGreatDoorHBase
import Derived.ProofKit
import Derived.OpenShut
import Derived.Deep.Slices
import Derived.Deep.Fields
import Derived.ChangeSame
/- IsBelowIntermediate: both sides. -/
namespace Go.Proofs.YtikooimokfbffaaGreatDoor
open Go.RowKit
theorem find_neg {s : ByteArray} (h : ¬ 0 ≤ findS names9 s) : findS names9 s = -1 := by
 rcases find9 s with h2 | ⟨k, _, h2⟩
 ·exact h2
 ·omega
end Go.Proofs.YtikooimokfbffaaGreatDoor
namespace Go.Proofs.YtikooimokfbffaaGreatDoor
open Go.RowKit
def ThSame (s : ByteArray) (a : List Nd) (r : Bool) (c : Int) : Prop :=
 (∀ v w, Nds w v a → LaidS 1 names9 w → Calls Tryz.prog 9 #[.string s, v] w (RetBC w r c)) ∧ (∀ v w, Nds w v a → Calls Tryz.prog 7 #[.string s, v] w (RetBC w r c))
def ThK (k : Nat) : Prop := k = 0 ∨ k = 4 ∨ k = 5 ∨ k = 6 ∨ k = 7 ∨ k = 8
def ThSays (s : ByteArray) (a : List Nd) (r : Bool) (c : Int) : Prop :=
 (c = 0 ∨ c = 1 ∨ c = 3 ∨ c = 4 ∨ c = 5) ∧ (c ≠ 0 → r = false) ∧
  (c = 0 → ∃ (k : Nat) (t : Fm), s = nameK k ∧ findS names9 s = (k : Int) ∧ ThK k ∧ a = t.enc ∧ t.wf ∧ t.plain = true ∧ isFm t.enc = true ∧ t.enc.length ≤ 40 ∧ (k = 0 → (varL t).length ≤ 2) ∧ r = thV k t)
theorem thV_0 (t : Fm) : thV 0 t = vldR (fkN (2 ^ (varL t).length)) t := by simp [thV, tpN]
theorem thV_4 (t : Fm) : thV 4 t = vldR (chN 1) t := by simp [thV, tpN]
theorem thV_5 (t : Fm) : thV 5 t = sqB [] t := by simp [thV]
theorem thV_6 (t : Fm) : thV 6 t = sqB (wmL t) t := by simp [thV]
theorem thV_7 (t : Fm) : thV 7 t = vldR (chN ((varL t).length + 1)) t := by simp [thV, tpN]
theorem thV_8 (t : Fm) : thV 8 t = vldR (chN 2) t := by simp [thV, tpN]
theorem nameK_0 : nameK 0 = ⟨#[66, 68, 50]⟩ := rfl
theorem nameK_1 : nameK 1 = ⟨#[66, 68, 51]⟩ := rfl
theorem nameK_2 : nameK 2 = ⟨#[66, 87, 50]⟩ := rfl
theorem nameK_3 : nameK 3 = ⟨#[66, 87, 51]⟩ := rfl
theorem nameK_4 : nameK 4 = ⟨#[67, 76]⟩ := rfl
theorem nameK_5 : nameK 5 = ⟨#[73, 110, 116]⟩ := rfl
theorem nameK_6 : nameK 6 = ⟨#[75, 67]⟩ := rfl
theorem nameK_7 : nameK 7 = ⟨#[76, 67]⟩ := rfl
theorem nameK_8 : nameK 8 = ⟨#[83, 109, 76]⟩ := rfl
def ThNamed (k : Nat) (t : Fm) : Prop := ∃ c : Int, (c = 0 ∨ c = 3) ∧ (c = 0 → k = 0 → (varL t).length ≤ 2) ∧ ThSame (nameK k) t.enc (if c = 0 then thV k t else false) c
theorem th_named5 (t : Fm) (hw : t.wf) (ha : isFm t.enc = true) (hln : t.enc.length ≤ 40) (hpl : t.plain = true) : ThNamed 5 t := by
 by_cases h : t.enc.length ≤ 20
 ·refine ⟨0, .inl rfl, fun _ e => absurd e (by decide), ?_⟩
  rw [if_pos rfl, thV_5, nameK_5]
  exact ⟨fun v w hv hL => thI_s5 t hw v w hv ha hln hpl h hL, fun v w hv => thS_s5 t hw v w hv ha hpl h⟩
 ·refine ⟨3, .inr rfl, fun e => absurd e (by decide), ?_⟩
  rw [if_neg (by decide), nameK_5]
  exact ⟨fun v w hv hL => thI_l5 t hw v w hv ha hln hpl (by omega) hL, fun v w hv => thS_l5 t hw v w hv ha hpl (by omega) hln⟩
theorem th_named6 (t : Fm) (hw : t.wf) (ha : isFm t.enc = true) (hln : t.enc.length ≤ 40) (hpl : t.plain = true) : ThNamed 6 t := by
 by_cases h : t.enc.length ≤ 20
 ·refine ⟨0, .inl rfl, fun _ e => absurd e (by decide), ?_⟩
  rw [if_pos rfl, thV_6, nameK_6]
  exact ⟨fun v w hv hL => thI_s6 t hw v w hv ha hln hpl h hL, fun v w hv => thS_s6 t hw v w hv ha hpl h⟩
 ·refine ⟨3, .inr rfl, fun e => absurd e (by decide), ?_⟩
  rw [if_neg (by decide), nameK_6]
  exact ⟨fun v w hv hL => thI_l6 t hw v w hv ha hln hpl (by omega) hL, fun v w hv => thS_l6 t hw v w hv ha hpl (by omega) hln⟩
theorem th_named0 (t : Fm) (hw : t.wf) (ha : isFm t.enc = true) (hln : t.enc.length ≤ 40) (hpl : t.plain = true) : ThNamed 0 t := by
 by_cases h2 : (varL t).length ≤ 2
 ·by_cases h : (upL (fkN (2 ^ (varL t).length))).length ^ (varL t).length ≤ 4096
  ·have hc : capB (fkN (2 ^ (varL t).length)) t = true := decide_eq_true h
   refine ⟨0, .inl rfl, fun _ _ => h2, ?_⟩
   rw [if_pos rfl, thV_0, nameK_0]
   refine ⟨fun v w hv hL => ?_, fun v w hv => thS_v0 t hw v w hv ha hpl h2 h⟩
   have h1 := thI_v0 t hw v w hv ha hln hpl h2 hL
   rw [hc, Bool.true_and, if_pos rfl] at h1
   exact h1
  ·have hc : capB (fkN (2 ^ (varL t).length)) t = false := decide_eq_false h
   refine ⟨3, .inr rfl, fun e => absurd e (by decide), ?_⟩
   rw [if_neg (by decide), nameK_0]
   refine ⟨fun v w hv hL => ?_, fun v w hv => thS_w0 t hw v w hv ha hpl h2 h⟩
   have h1 := thI_v0 t hw v w hv ha hln hpl h2 hL
   rw [hc, Bool.false_and, if_neg (by decide)] at h1
   exact h1
 ·refine ⟨3, .inr rfl, fun e => absurd e (by decide), ?_⟩
  rw [if_neg (by decide), nameK_0]
  exact ⟨fun v w hv hL => thI_m0 t hw v w hv ha hln hpl (by omega) hL, fun v w hv => thS_m0 t hw v w hv ha hpl (by omega)⟩
theorem th_named4 (t : Fm) (hw : t.wf) (ha : isFm t.enc = true) (hln : t.enc.length ≤ 40) (hpl : t.plain = true) : ThNamed 4 t := by
 by_cases h : (upL (chN 1)).length ^ (varL t).length ≤ 4096
 ·have hc : capB (chN 1) t = true := decide_eq_true h
  refine ⟨0, .inl rfl, fun _ e => absurd e (by decide), ?_⟩
  rw [if_pos rfl, thV_4, nameK_4]
  refine ⟨fun v w hv hL => ?_, fun v w hv => thS_v4 t hw v w hv ha hpl h⟩
  have h1 := thI_v4 t hw v w hv ha hln hpl hL
  rw [hc, Bool.true_and, if_pos rfl] at h1
  exact h1
 ·have hc : capB (chN 1) t = false := decide_eq_false h
  refine ⟨3, .inr rfl, fun e => absurd e (by decide), ?_⟩
  rw [if_neg (by decide), nameK_4]
  refine ⟨fun v w hv hL => ?_, fun v w hv => thS_w4 t hw v w hv ha hpl h⟩
  have h1 := thI_v4 t hw v w hv ha hln hpl hL
  rw [hc, Bool.false_and, if_neg (by decide)] at h1
  exact h1
theorem th_named7 (t : Fm) (hw : t.wf) (ha : isFm t.enc = true) (hln : t.enc.length ≤ 40) (hpl : t.plain = true) : ThNamed 7 t := by
 by_cases h : (upL (chN ((varL t).length + 1))).length ^ (varL t).length ≤ 4096
 ·have hc : capB (chN ((varL t).length + 1)) t = true := decide_eq_true h
  refine ⟨0, .inl rfl, fun _ e => absurd e (by decide), ?_⟩
  rw [if_pos rfl, thV_7, nameK_7]
  refine ⟨fun v w hv hL => ?_, fun v w hv => thS_v7 t hw v w hv ha hpl h⟩
  have h1 := thI_v7 t hw v w hv ha hln hpl hL
  rw [hc, Bool.true_and, if_pos rfl] at h1
  exact h1
 ·have hc : capB (chN ((varL t).length + 1)) t = false := decide_eq_false h
  refine ⟨3, .inr rfl, fun e => absurd e (by decide), ?_⟩
  rw [if_neg (by decide), nameK_7]
  refine ⟨fun v w hv hL => ?_, fun v w hv => thS_w7 t hw v w hv ha hpl h⟩
  have h1 := thI_v7 t hw v w hv ha hln hpl hL
  rw [hc, Bool.false_and, if_neg (by decide)] at h1
  exact h1
theorem th_named8 (t : Fm) (hw : t.wf) (ha : isFm t.enc = true) (hln : t.enc.length ≤ 40) (hpl : t.plain = true) : ThNamed 8 t := by
 by_cases h : (upL (chN 2)).length ^ (varL t).length ≤ 4096
 ·have hc : capB (chN 2) t = true := decide_eq_true h
  refine ⟨0, .inl rfl, fun _ e => absurd e (by decide), ?_⟩
  rw [if_pos rfl, thV_8, nameK_8]
  refine ⟨fun v w hv hL => ?_, fun v w hv => thS_v8 t hw v w hv ha hpl h⟩
  have h1 := thI_v8 t hw v w hv ha hln hpl hL
  rw [hc, Bool.true_and, if_pos rfl] at h1
  exact h1
 ·have hc : capB (chN 2) t = false := decide_eq_false h
  refine ⟨3, .inr rfl, fun e => absurd e (by decide), ?_⟩
  rw [if_neg (by decide), nameK_8]
  refine ⟨fun v w hv hL => ?_, fun v w hv => thS_w8 t hw v w hv ha hpl h⟩
  have h1 := thI_v8 t hw v w hv ha hln hpl hL
  rw [hc, Bool.false_and, if_neg (by decide)] at h1
  exact h1
theorem th_named {k : Nat} (hk : ThK k) (t : Fm) (hw : t.wf) (ha : isFm t.enc = true) (hln : t.enc.length ≤ 40) (hpl : t.plain = true) : ThNamed k t := by
 rcases hk with rfl | rfl | rfl | rfl | rfl | rfl
 ·exact th_named0 t hw ha hln hpl
 ·exact th_named4 t hw ha hln hpl
 ·exact th_named5 t hw ha hln hpl
 ·exact th_named6 t hw ha hln hpl
 ·exact th_named7 t hw ha hln hpl
 ·exact th_named8 t hw ha hln hpl
theorem isFm_treeT {a : List Nd} (h : isFm a = true) : ∃ t : Fm, t.wf ∧ a = t.enc ∧ a.length ≤ 40 := by
 unfold isFm at h
 rw [Bool.and_eq_true, decide_eq_true_iff] at h
 obtain ⟨t, h1, h2⟩ := isTree_enc h.2
 exact ⟨t, h1, h2, h.1⟩
theorem says_err (s : ByteArray) (a : List Nd) {c : Int} (hc : c = 1 ∨ c = 3 ∨ c = 4 ∨ c = 5) : ThSays s a false c :=
 ⟨.inr hc, fun _ => rfl, fun e => by rcases hc with h | h | h | h <;> (rw [h] at e; cases e)⟩
theorem th_both (s : ByteArray) (a : List Nd) : ∃ r c, ThSame s a r c ∧ ThSays s a r c := by
 by_cases ha : isFm a = true
 ·by_cases hs : 0 ≤ findS names9 s
  ·obtain ⟨k, hk⟩ := Int.eq_ofNat_of_zero_le hs
   obtain ⟨hk9, hsn⟩ := find9_name hk
   cases hpl : plainL a
   ·exact ⟨false, 5, ⟨fun v w hv hL => thI_3 s k a v w hv ha hk hpl hL, fun v w hv => thS_3 s k a v w hv ha hk hpl⟩, says_err s a (by simp)⟩
   ·obtain ⟨t, hw, rfl, h40⟩ := isFm_treeT ha
    have hp : t.plain = true := by rw [← plainL_encP]; exact hpl
    have hcase : ThK k ∨ k = 1 ∨ k = 2 ∨ k = 3 := by unfold ThK; omega
    rcases hcase with hK | rfl | rfl | rfl
    ·obtain ⟨c, hc, h2, hsame⟩ := th_named hK t hw ha h40 hp
     rw [← hsn] at hsame
     refine ⟨_, c, hsame, ?_⟩
     rcases hc with rfl | rfl
     ·refine ⟨.inl rfl, fun e => absurd rfl e, fun _ => ⟨k, t, hsn, hk, hK, rfl, hw, hp, ha, h40, fun e => h2 rfl e, ?_⟩⟩
      rw [if_pos rfl]
     ·rw [if_neg (by decide)]
      exact says_err s _ (by simp)
    ·rw [hsn, nameK_1]
     exact ⟨false, 5, ⟨fun v w hv hL => thI_b1 t hw v w hv ha h40 hp hL, fun v w hv => thS_b1 t hw v w hv ha hp⟩, says_err _ _ (by simp)⟩
    ·rw [hsn, nameK_2]
     exact ⟨false, 5, ⟨fun v w hv hL => thI_b2 t hw v w hv ha h40 hp hL, fun v w hv => thS_b2 t hw v w hv ha hp⟩, says_err _ _ (by simp)⟩
    ·rw [hsn, nameK_3]
     exact ⟨false, 5, ⟨fun v w hv hL => thI_b3 t hw v w hv ha h40 hp hL, fun v w hv => thS_b3 t hw v w hv ha hp⟩, says_err _ _ (by simp)⟩
  ·have hn := find_neg hs
   exact ⟨false, 4, ⟨fun v w hv hL => thI_2 s a v w hv ha hn hL, fun v w hv => thS_2 s a v w hv ha hn⟩, says_err s a (by simp)⟩
 ·have hf : isFm a = false := by simpa using ha
  exact ⟨false, 1, ⟨fun v w hv _ => thI_1 s a v w hv hf, fun v w hv => thS_1 s a v w hv hf⟩, says_err s a (by simp)⟩
end Go.Proofs.YtikooimokfbffaaGreatDoor
namespace Go.Proofs.YtikooimokfbffaaGreatDoor
open Go.RowKit
end Go.Proofs.YtikooimokfbffaaGreatDoor
namespace Go.Proofs.YtikooimokfbffaaGreatDoor
open Go.RowKit
end Go.Proofs.YtikooimokfbffaaGreatDoor
namespace Go.Proofs.YtikooimokfbffaaGreatDoor
open Go.ChangeShapes Go.WideShapes Go.ChangeAt Go.RowKit Go.Deep
theorem own : ownKnob Tryz.prog.godebug = none := by kernel_rfl
theorem laidOut : laidOutB Tryz.prog = true := by kernel_rfl
section
variable {H : Type} {enc : TypeId × Value → H}
theorem trodAll_stays {W W' : World} (hk : Keeps W W') : ∀ (ts : List TypeId) (vs : List Value) (ds : List (DataW H)) (ps : List MemPlace),
  (∀ t ∈ ts, Tryz.prog.readableRec t = true ∧ t < Tryz.prog.types.size) → (∀ x ∈ ps, x.block < W.heap.size) →
  DataW.TrodAll enc Tryz.prog W 0 (fun _ => true) true ts vs ds ps → DataW.TrodAll enc Tryz.prog W' 0 (fun b => decide (b < W.heap.size)) true ts vs ds ps := by
 intro ts
 induction ts with
 | nil =>
  intro vs ds ps _ _ h
  cases vs <;> cases ds <;> simp [DataW.TrodAll] at h ⊢
  exact h
 | cons t ts ih =>
  intro vs ds ps hr hlt h
  obtain ⟨v, vs', d, ds', p, q, rfl, rfl, rfl, h1, h2⟩ := trodAll_cons h
  obtain ⟨hr1, hr2⟩ := hr t (List.mem_cons_self ..)
  have g1 := Below.trod laidOut hr1 hr2 h1 hk (fun x hx => hlt x (List.mem_append.2 (.inl hx)))
  have g2 := ih _ _ _ (fun t ht => hr t (List.mem_cons_of_mem _ ht)) (fun x hx => hlt x (List.mem_append.2 (.inr hx))) h2
  exact trodAll_cons_mk g1 g2
end
end Go.Proofs.YtikooimokfbffaaGreatDoor
