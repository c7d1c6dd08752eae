/- Walks: Harrop and negative formulas on both sides; lists of formulas. -/
import Derived.Test.YtffjmnimnmmemaaW3
namespace Go.Proofs.Ytffjmnimnmmemaa
open Go.RowKit

--
set_option maxHeartbeats 400000 in
theorem part_any (a l : List Nd) (t : Fm) (r : List Nd) (v : Value) (i : Int) (w : World) (hv : Nds w v a) (ha : a = l ++ (t.enc ++ r)) (hi : i = l.length) :
    Calls Try.prog 209 #[v, .int .i64 i] w (RetS w t.enc) := by
  subst hi
  have hv0 := hv
  obtain ⟨p, cap, rfl, hle, hmx, hr, hlen⟩ := hv
  have hp := Fm.enc_pos t
  have hs : skipInt 1 a (l.length : Int).toNat = l.length + t.enc.length := by subst ha; exact skipInt_enc l t r
  have hl : l.length + t.enc.length ≤ a.length := by subst ha; simp
  obtain ⟨b, off, rfl⟩ := hr.ptrN (by omega)
  have hmx0 := hid hmx
  unfold maxLen at hmx
  have Ha := hid ha; clear ha
  have Hs := hid hs; clear hs
  have hc1 : ¬ l.length + t.enc.length = l.length := by omega
  go_enter Try.func209, Try.ntmps209
  go_wp2_with (go_at_call 210; refine (partEnd_any _ _ _ _ hv0 (by omega) (by omega)).mono ?_; rintro e w' ⟨rfl, rfl⟩; rw [Hs.out])
  go_ret
  have e := Ha.out
  rw [e] at hr
  exact ⟨_, rfl, Nds.sub (l := l) (m := t.enc) (r := r) hr (by omega) rfl (by omega) (by omega) (by have := hmx0.out; omega), rfl⟩
--
theorem first_any (a : List Nd) (x : Nd) (t : Fm) (r : List Nd) (v : Value) (w : World) (hv : Nds w v a) (ha : a = x :: (t.enc ++ r)) :
    Calls Try.prog 190 #[v] w (RetS w t.enc) := by
  go_enter Try.func190, Try.ntmps190
  go_wp2_with (go_at_call 209; refine (part_any a [x] t r _ _ _ hv ha rfl).mono ?_; rintro e w' ⟨v1, rfl, hv1, rfl⟩)
  go_ret
  exact ⟨_, rfl, hv1, rfl⟩
--
theorem second_any (a : List Nd) (x : Nd) (t u : Fm) (v : Value) (w : World) (hv : Nds w v a) (ha : a = x :: (t.enc ++ u.enc)) :
    Calls Try.prog 191 #[v] w (RetS w u.enc) := by
  have hs : skipInt 1 a (1 : Int).toNat = 1 + t.enc.length := by subst ha; exact skipInt_enc [x] t u.enc
  have ha2 : a = (x :: t.enc) ++ (u.enc ++ []) := by subst ha; simp
  have hl1 : (1 : Int) ≤ a.length := by subst ha; simp; omega
  have Ha := hid ha2; clear ha2 ha
  have Hs := hid hs; clear hs
  go_enter Try.func191, Try.ntmps191
  go_wp2_with (first
    | (go_at_call 210; refine (partEnd_any _ _ _ _ hv (by omega) hl1).mono ?_; rintro e w' ⟨rfl, rfl⟩; rw [Hs.out])
    | (go_at_call 209; refine (part_any a (x :: t.enc) u [] _ _ _ hv Ha.out (by simp; omega)).mono ?_; rintro e w' ⟨v1, rfl, hv1, rfl⟩))
  go_ret
  exact ⟨_, rfl, hv1, rfl⟩
end Go.Proofs.Ytffjmnimnmmemaa
