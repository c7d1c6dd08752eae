/- RefutingPosetOf: all cases. -/
import Derived.Test.YtponaoefpicfpaaGreatDoorGLR
import Derived.Test.YtponaoefpicfpaaGreatDoorGHM
import Derived.Test.YtponaoefpicfpaaGreatDoorGLN
namespace Go.Proofs.YtponaoefpicfpaaGreatDoor
open Go.RowKit
theorem isFm_treeR {a : List Nd} (h : isFm a = true) : ∃ t : Fm, t.wf ∧ a = t.enc ∧ a.length ≤ 40 := by
  unfold isFm at h
  rw [Bool.and_eq_true, decide_eq_true_iff] at h
  obtain ⟨t, h1, h2⟩ := isTree_enc h.2
  exact ⟨t, h1, h2, h.1⟩
--
theorem refLaw (s0 : ByteArray) (a1 : List Nd) (b : List Nat) (c : Int) (hb : b.length ≤ 4) (hs : ∀ v w, Nds w v a1 → Calls Tryz.prog 24 #[.string s0, v] w (RetPC w b c))
    (hi : ∀ v w, Nds w v a1 → LaidS 1 names9 w → Calls Tryz.prog 25 #[.string s0, v] w (RetPC w b c))
    (v1 : Value) (w : World) (hv1 : Nds w v1 a1) (hl1 : a1.length ≤ 1048576) (hl0 : s0.size ≤ 1048576) (hL : LaidS 1 names9 w) :
    Calls Tryz.prog 6 #[.string s0, v1] w fun e w' => e = .returned (.bool true) ∧ Keeps w w' :=
  lawRefutingPosetOf s0 a1 v1 b.length (zs b) c (by rw [zs_length]; omega) (fun v w hv _ => (hs v w hv).mono (fun e w' h => by
      obtain ⟨r, rfl, h0, k⟩ := h
      exact ⟨r, rfl, h0.ints (by rw [zs_length]; omega), k⟩)) (fun v w hv hL => hi v w hv hL) w hv1 (by omega) (by omega) hL
theorem refAll (s0 : ByteArray) (a1 : List Nd) (v1 : Value) (w : World) (hv1 : Nds w v1 a1) (hl1 : a1.length ≤ 1048576) (hl0 : s0.size ≤ 1048576) (hL : LaidS 1 names9 w) :
    Calls Tryz.prog 6 #[.string s0, v1] w fun e w' => e = .returned (.bool true) ∧ Keeps w w' := by
  by_cases ha : isFm a1 = true
  · by_cases hs : 0 ≤ findS names9 s0
    · obtain ⟨k, hk⟩ := Int.eq_ofNat_of_zero_le hs
      obtain ⟨hk9, hsn⟩ := find9_name hk
      cases hpl : plainL a1
      · exact refLaw s0 a1 [] 5 (by simp) (fun v w hv => refS_3 s0 k a1 v w hv ha hk hpl) (fun v w hv hL => refI_3 s0 k a1 v w hv ha hk hpl hL) v1 w hv1 hl1 hl0 hL
      · obtain ⟨t, hw, rfl, h40⟩ := isFm_treeR ha
        have hp : t.plain = true := by rw [← plainL_encP]; exact hpl
        have HS := fun v w (hv : Nds w v t.enc) => refS_4 s0 k hk9 hsn t hw v w hv ha hk hp
        have HI := fun v w (hv : Nds w v t.enc) hL => refI_4 s0 k hk9 hsn t hw v w hv ha h40 hk hp hL
        by_cases h3 : 3 < (varL t).length
        · simp only [if_pos h3] at HS HI
          exact refLaw s0 t.enc [] 3 (by simp) HS HI v1 w hv1 hl1 hl0 hL
        · simp only [if_neg h3] at HS HI
          cases hf : smallR.find? (rfQ k t) with
          | none =>
            rw [hf] at HS HI
            exact refLaw s0 t.enc [] 4 (by simp) HS HI v1 w hv1 hl1 hl0 hL
          | some b =>
            rw [hf] at HS HI
            exact refLaw s0 t.enc b 0 (small_pos (List.mem_of_find?_eq_some hf)).2.1 HS HI v1 w hv1 hl1 hl0 hL
    · have hn := find_neg hs
      exact refLaw s0 a1 [] 4 (by simp) (fun v w hv => refS_2 s0 a1 v w hv ha hn) (fun v w hv hL => refI_2 s0 a1 v w hv ha hn hL) v1 w hv1 hl1 hl0 hL
  · have hf : isFm a1 = false := by simpa using ha
    exact refLaw s0 a1 [] 1 (by simp) (fun v w hv => refS_1 s0 a1 v w hv hf) (fun v w hv _ => refI_1 s0 a1 v w hv hf) v1 w hv1 hl1 hl0 hL
end Go.Proofs.YtponaoefpicfpaaGreatDoor
