/- Walks: Harrop and negative formulas on both sides; lists of formulas. -/
import Derived.Test.YteeonfdpcfnifaaW3
namespace Go.Proofs.Yteeonfdpcfnifaa
open Go.RowKit

--
set_option maxHeartbeats 400000 in
theorem part_any (a l : List Nd) (t : Fm) (r : List Nd) (v : Value) (i : Int) (w : World) (hv : Nds w v a) (ha : a = l ++ (t.enc ++ r)) (hi : i = l.length) :
    Calls Try.prog 79 #[v, .int .i64 i] w (RetS w t.enc) := by
  subst hi
  have hv0 := hv
  obtain ⟨p, cap, rfl, hle, hmx, hr, hlen⟩ := hv
  have hp := Fm.enc_pos t
  have hs : skipInt 1 a (l.length : Int).toNat = l.length + t.enc.length := by subst ha; exact skipInt_enc l t r
  have hl : l.length + t.enc.length ≤ a.length := by subst ha; simp
  obtain ⟨b, off, rfl⟩ := hr.ptrN (by omega)
  have hmx0 := hid hmx
  unfold maxLen at hmx
  have Ha := hid ha; clear ha
  have Hs := hid hs; clear hs
  have hc1 : ¬ l.length + t.enc.length = l.length := by omega
  go_enter Try.func79, Try.ntmps79
  go_wp2_with (go_at_call 80; refine (partEnd_any _ _ _ _ hv0 (by omega) (by omega)).mono ?_; rintro e w' ⟨rfl, rfl⟩; rw [Hs.out])
  go_ret
  have e := Ha.out
  rw [e] at hr
  exact ⟨_, rfl, Nds.sub (l := l) (m := t.enc) (r := r) hr (by omega) rfl (by omega) (by omega) (by have := hmx0.out; omega), rfl⟩
--
theorem first_any (a : List Nd) (x : Nd) (t : Fm) (r : List Nd) (v : Value) (w : World) (hv : Nds w v a) (ha : a = x :: (t.enc ++ r)) :
    Calls Try.prog 65 #[v] w (RetS w t.enc) := by
  go_enter Try.func65, Try.ntmps65
  go_wp2_with (go_at_call 79; refine (part_any a [x] t r _ _ _ hv ha rfl).mono ?_; rintro e w' ⟨v1, rfl, hv1, rfl⟩)
  go_ret
  exact ⟨_, rfl, hv1, rfl⟩
--
theorem second_any (a : List Nd) (x : Nd) (t u : Fm) (v : Value) (w : World) (hv : Nds w v a) (ha : a = x :: (t.enc ++ u.enc)) :
    Calls Try.prog 66 #[v] w (RetS w u.enc) := by
  have hs : skipInt 1 a (1 : Int).toNat = 1 + t.enc.length := by subst ha; exact skipInt_enc [x] t u.enc
  have ha2 : a = (x :: t.enc) ++ (u.enc ++ []) := by subst ha; simp
  have hl1 : (1 : Int) ≤ a.length := by subst ha; simp; omega
  have Ha := hid ha2; clear ha2 ha
  have Hs := hid hs; clear hs
  go_enter Try.func66, Try.ntmps66
  go_wp2_with (first
    | (go_at_call 80; refine (partEnd_any _ _ _ _ hv (by omega) hl1).mono ?_; rintro e w' ⟨rfl, rfl⟩; rw [Hs.out])
    | (go_at_call 79; refine (part_any a (x :: t.enc) u [] _ _ _ hv Ha.out (by simp; omega)).mono ?_; rintro e w' ⟨v1, rfl, hv1, rfl⟩))
  go_ret
  exact ⟨_, rfl, hv1, rfl⟩
--
theorem isFalsum_any (t : Fm) (v : Value) (w : World) (hv : Nds w v t.enc) :
    Calls Try.prog 81 #[v] w fun e w' => e = .returned (.bool t.isFls) ∧ w = w' := by
  obtain ⟨b, off, n, cap, rfl, h0, h1, h2, h3, hc, _⟩ := hv.root
  have hk := hid (Fm.kind_isFls t)
  go_enter Try.func81, Try.ntmps81
  go_wp2
  go_ret
  exact ⟨ret_bool hk.out, rfl⟩
--
set_option maxHeartbeats 400000 in
theorem isNegation_any (t : Fm) (v : Value) (w : World) (hv : Nds w v t.enc) :
    Calls Try.prog 67 #[v] w fun e w' => e = .returned (.bool t.isNeg) ∧ w = w' := by
  have hv0 := hv
  obtain ⟨b, off, n, cap, rfl, h0, h1, h2, h3, hc, _⟩ := hv.root
  clear hv
  cases t with
  | imp x y =>
    go_enter Try.func67, Try.ntmps67
    go_wp2_with (first
      | (go_at_call 66; refine (second_any _ _ x y _ _ hv0 rfl).mono ?_; rintro e w' ⟨v2, rfl, hv2, rfl⟩)
      | (go_at_call 81; refine (isFalsum_any y _ _ hv2).mono ?_; rintro e w' ⟨rfl, rfl⟩))
    go_ret
    exact ⟨rfl, rfl⟩
  | _ =>
    clear hv0
    simp only [Fm.kind] at hc
    go_enter Try.func67, Try.ntmps67
    go_wp2
    go_ret
    exact ⟨rfl, rfl⟩
--
set_option maxHeartbeats 1000000 in
theorem isHarrop_any (t : Fm) : ∀ (v : Value) (w : World), Nds w v t.enc →
    Calls Try.prog 47 #[v] w fun e w' => e = .returned (.bool t.harrop) ∧ w = w' := by
  induction t with
  | and x y ihx ihy =>
    intro v w hv
    have HX := hid ihx; clear ihx
    have HY := hid ihy; clear ihy
    have hv0 := hv
    obtain ⟨b, off, n, cap, rfl, h0, h1, h2, h3, hc, _⟩ := hv.head
    clear hv
    cases hx : x.harrop
    all_goals
      have Hx := hid hx; clear hx
      go_enter Try.func47, Try.ntmps47
      go_wp2_with (first
        | (go_at_call 65; refine (first_any _ _ x y.enc _ _ hv0 rfl).mono ?_; rintro e w' ⟨v1, rfl, hv1, rfl⟩)
        | (go_at_call 66; refine (second_any _ _ x y _ _ hv0 rfl).mono ?_; rintro e w' ⟨v2, rfl, hv2, rfl⟩)
        | (go_at_call 47; first | ((with_reducible refine (HX.out v1 _ hv1).mono ?_); rintro e w' ⟨rfl, rfl⟩; rw [Hx.out]) | ((with_reducible refine (HY.out v2 _ hv2).mono ?_); rintro e w' ⟨rfl, rfl⟩)))
      go_ret
      exact ⟨ret_bool (by simp [Fm.harrop, Hx.out]), rfl⟩
  | imp x y ihx ihy =>
    intro v w hv
    have HY := hid ihy; clear ihy ihx
    have hv0 := hv
    obtain ⟨b, off, n, cap, rfl, h0, h1, h2, h3, hc, _⟩ := hv.head
    clear hv
    go_enter Try.func47, Try.ntmps47
    go_wp2_with (first
        | (go_at_call 66; refine (second_any _ _ x y _ _ hv0 rfl).mono ?_; rintro e w' ⟨v2, rfl, hv2, rfl⟩)
        | (go_at_call 47; refine (HY.out v2 _ hv2).mono ?_; rintro e w' ⟨rfl, rfl⟩))
    go_ret
    exact ⟨ret_bool (by simp [Fm.harrop]), rfl⟩
  | _ =>
    intro v w hv
    obtain ⟨b, off, n, cap, rfl, h0, h1, h2, h3, hc, _⟩ := hv.head
    clear hv
    go_enter Try.func47, Try.ntmps47
    go_wp2
    go_ret
    exact ⟨ret_bool (by simp [Fm.harrop]), rfl⟩
--
set_option maxHeartbeats 1000000 in
theorem isNegative_any (t : Fm) : ∀ (ng : Bool) (v : Value) (w : World), Nds w v t.enc → t.plain = true →
    Calls Try.prog 50 #[v, .bool ng] w fun e w' => e = .returned (.bool (t.negative ng)) ∧ w = w' := by
  induction t with
  | and x y ihx ihy =>
    intro ng v w hv hpl
    have hpx : x.plain = true := by simp [Fm.plain] at hpl; exact hpl.1
    have hpy : y.plain = true := by simp [Fm.plain] at hpl; exact hpl.2
    have HX := hid (fun v w h => ihx false v w h hpx); clear ihx
    have HY := hid (fun v w h => ihy false v w h hpy); clear ihy
    clear hpl hpx hpy
    have hv0 := hv
    obtain ⟨b, off, n, cap, rfl, h0, h1, h2, h3, hc, _⟩ := hv.head
    clear hv
    cases hx : x.negative false
    all_goals
      have Hx := hid hx; clear hx
      go_enter Try.func50, Try.ntmps50
      go_wp2_with (first
        | (go_at_call 65; refine (first_any _ _ x y.enc _ _ hv0 rfl).mono ?_; rintro e w' ⟨v1, rfl, hv1, rfl⟩)
        | (go_at_call 67; refine (isNegation_any (x.and y) _ _ hv0).mono ?_; rintro e w' ⟨rfl, rfl⟩; simp only [Fm.isNeg])
        | (go_at_call 66; refine (second_any _ _ x y _ _ hv0 rfl).mono ?_; rintro e w' ⟨v2, rfl, hv2, rfl⟩)
        | (go_at_call 50; first | ((with_reducible refine (HX.out v1 _ hv1).mono ?_); rintro e w' ⟨rfl, rfl⟩; rw [Hx.out]) | ((with_reducible refine (HY.out v2 _ hv2).mono ?_); rintro e w' ⟨rfl, rfl⟩)))
      go_ret
      exact ⟨ret_bool (by simp [Fm.negative, Hx.out]), rfl⟩
  | imp x y ihx ihy =>
    intro ng v w hv hpl
    have hpx : x.plain = true := by simp [Fm.plain] at hpl; exact hpl.1
    have hpy : y.plain = true := by simp [Fm.plain] at hpl; exact hpl.2
    have HX := hid (fun v w h => ihx y.isFls v w h hpx); clear ihx
    have HY := hid (fun v w h => ihy false v w h hpy); clear ihy
    clear hpl hpx hpy
    have hv0 := hv
    obtain ⟨b, off, n, cap, rfl, h0, h1, h2, h3, hc, _⟩ := hv.head
    clear hv
    cases hx : x.negative y.isFls
    all_goals
      have Hx := hid hx; clear hx
      go_enter Try.func50, Try.ntmps50
      go_wp2_with (first
        | (go_at_call 65; refine (first_any _ _ x y.enc _ _ hv0 rfl).mono ?_; rintro e w' ⟨v1, rfl, hv1, rfl⟩)
        | (go_at_call 67; refine (isNegation_any (x.imp y) _ _ hv0).mono ?_; rintro e w' ⟨rfl, rfl⟩; simp only [Fm.isNeg])
        | (go_at_call 66; refine (second_any _ _ x y _ _ hv0 rfl).mono ?_; rintro e w' ⟨v2, rfl, hv2, rfl⟩)
        | (go_at_call 50; first | ((with_reducible refine (HX.out v1 _ hv1).mono ?_); rintro e w' ⟨rfl, rfl⟩; rw [Hx.out]) | ((with_reducible refine (HY.out v2 _ hv2).mono ?_); rintro e w' ⟨rfl, rfl⟩)))
      go_ret
      exact ⟨ret_bool (by simp [Fm.negative, Hx.out]), rfl⟩
  | box x _ => intro ng v w hv hpl; simp [Fm.plain] at hpl
  | dia x _ => intro ng v w hv hpl; simp [Fm.plain] at hpl
  | _ =>
    intro ng v w hv _
    obtain ⟨b, off, n, cap, rfl, h0, h1, h2, h3, hc, _⟩ := hv.head
    clear hv
    go_enter Try.func50, Try.ntmps50
    go_wp2
    go_ret
    exact ⟨ret_bool (by simp [Fm.negative]), rfl⟩
--
set_option maxHeartbeats 1000000 in
theorem l29Negative_any (t : Fm) : ∀ (ng : Bool) (v : Value) (w : World), Nds w v t.enc → t.plain = true →
    Calls Try.prog 49 #[v, .bool ng] w fun e w' => e = .returned (.bool (t.negative ng)) ∧ w = w' := by
  induction t with
  | and x y ihx ihy =>
    intro ng v w hv hpl
    have hpx : x.plain = true := by simp [Fm.plain] at hpl; exact hpl.1
    have hpy : y.plain = true := by simp [Fm.plain] at hpl; exact hpl.2
    have HX := hid (fun v w h => ihx false v w h hpx); clear ihx
    have HY := hid (fun v w h => ihy false v w h hpy); clear ihy
    clear hpl hpx hpy
    have hv0 := hv
    obtain ⟨b, off, n, cap, rfl, h0, h1, h2, h3, hc, _⟩ := hv.head
    clear hv
    cases hx : x.negative false
    all_goals
      have Hx := hid hx; clear hx
      go_enter Try.func49, Try.ntmps49
      go_wp2_with (first
        | (go_at_call 59; refine (l02Left_any _ _ x y.enc _ _ hv0 rfl).mono ?_; rintro e w' ⟨v1, rfl, hv1, rfl⟩)
        | (go_at_call 60; refine (l02Right_any _ _ x y _ _ hv0 rfl).mono ?_; rintro e w' ⟨v2, rfl, hv2, rfl⟩)
        | (go_at_call 49; first | ((with_reducible refine (HX.out v1 _ hv1).mono ?_); rintro e w' ⟨rfl, rfl⟩; rw [Hx.out]) | ((with_reducible refine (HY.out v2 _ hv2).mono ?_); rintro e w' ⟨rfl, rfl⟩)))
      go_ret
      exact ⟨ret_bool (by simp [Fm.negative, Hx.out]), rfl⟩
  | imp x y ihx ihy =>
    intro ng v w hv hpl
    have hpx : x.plain = true := by simp [Fm.plain] at hpl; exact hpl.1
    have hpy : y.plain = true := by simp [Fm.plain] at hpl; exact hpl.2
    have HX := hid (fun v w h => ihx (y.kind == 1) v w h hpx); clear ihx
    have HY := hid (fun v w h => ihy false v w h hpy); clear ihy
    clear hpl hpx hpy
    have hv0 := hv
    obtain ⟨b, off, n, cap, rfl, h0, h1, h2, h3, hc, _⟩ := hv.head
    clear hv
    have hky := Fm.kind_isFls y
    cases hx : x.negative (y.kind == 1)
    all_goals
      have Hx := hid hx; clear hx
      have Hk := hid hky; clear hky
      go_enter Try.func49, Try.ntmps49
      go_wp2_with (first
        | (go_at_call 59; refine (l02Left_any _ _ x y.enc _ _ hv0 rfl).mono ?_; rintro e w' ⟨v1, rfl, hv1, rfl⟩)
        | (go_at_call 60; refine (l02Right_any _ _ x y _ _ hv0 rfl).mono ?_; rintro e w' ⟨v2, rfl, hv2, rfl⟩; obtain ⟨b2, off2, n2, cap2, rfl, g0, g1, g2, g3, gc, _⟩ := hv2.root)
        | (go_at_call 49; first | ((with_reducible refine (HX.out v1 _ hv1).mono ?_); rintro e w' ⟨rfl, rfl⟩; rw [Hx.out]) | ((with_reducible refine (HY.out _ _ hv2).mono ?_); rintro e w' ⟨rfl, rfl⟩)))
      go_ret
      exact ⟨ret_bool (by simp [Fm.negative, ← Hk.out, Hx.out]), rfl⟩
  | box x _ => intro ng v w hv hpl; simp [Fm.plain] at hpl
  | dia x _ => intro ng v w hv hpl; simp [Fm.plain] at hpl
  | _ =>
    intro ng v w hv _
    obtain ⟨b, off, n, cap, rfl, h0, h1, h2, h3, hc, _⟩ := hv.head
    clear hv
    go_enter Try.func49, Try.ntmps49
    go_wp2
    go_ret
    exact ⟨ret_bool (by simp [Fm.negative]), rfl⟩
end Go.Proofs.Yteeonfdpcfnifaa
