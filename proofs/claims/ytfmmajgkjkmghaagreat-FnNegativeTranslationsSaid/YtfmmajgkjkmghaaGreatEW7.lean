import Derived.Test.YtfmmajgkjkmghaaGreatEVS
import Derived.Lib.AppendZeros
/- Walks: the program's readers of formulas, and the library's IndexFunc and ContainsFunc at two types. -/
namespace Go.Proofs.YtfmmajgkjkmghaaGreat
open Go.RowKit
set_option maxHeartbeats 400000 in
theorem indexFuncN (pr : Nd → Bool) (f : FuncId) (cp : Array Value) (a : List Nd) (v : Value) (w : World) (hv : Nds w v a) (hcf : Enters f)
  (hf : ∀ x w1, x ∈ a → Keeps w w1 → Calls Tryz.prog f (#[.agg #[.int .i64 x.k, .int .i64 x.s]] ++ cp) w1 fun e w2 => e = .returned (.bool (pr x)) ∧ Keeps w1 w2) :
  Calls Tryz.prog 181 #[v, .func (.func f) #[] cp] w fun e w' => e = .returned (.int .i64 (idxOf pr a 0)) ∧ Keeps w w' := by
 obtain ⟨p, cap, rfl, hle, hmx, hr, hlen⟩ := hv
 unfold maxLen at hmx
 have HF := hid hf; clear hf
 have hcf' : ∀ args w, (callFunc f args).run Tryz.prog w = .ok (.enter f args) w := hcf
 clear hcf
 go_enter Tryz.func181, Tryz.ntmps181
 go_wp2
 go_loopw [4, 8] (fun r i' wr => ∃ k : Nat, k ≤ a.length ∧ idxOf pr a 0 = idxOf pr (a.drop k) k ∧ Keeps w wr ∧ i' = .int .i64 k ∧ r = .int .i64 0) (fun _ i _ => a.length - (intOf i).toNat)
 case atStart => exact ⟨0, by omega, by simp, Keeps.refl w, rfl, rfl⟩
 case round =>
  obtain ⟨k, hk, hs, kw, rfl, rfl⟩ := hrel
  have Hs := hid hs; clear hs
  by_cases hlt : k < a.length
  ·obtain ⟨b, off, rfl, h1, h2⟩ := (hr.keeps kw).nd k hlt
   have hd := hid (idxOf_drop pr a k hlt)
   clear hr
   cases hp : pr a[k]
   all_goals
    have Hp := hid hp; clear hp
    go_wp2_with ((with_reducible refine (HF.out a[k] wr (List.getElem_mem hlt) kw).mono ?_); rintro e w2 ⟨rfl, k2⟩; rw [Hp.out])
   ·go_roundw
    case rel => exact ⟨k + 1, by omega, by rw [Hs.out, hd.out, Hp.out]; rfl, kw.trans k2, by go_num, rfl⟩
    case measure => simp [intOf]; omega
   ·go_ret
    exact ⟨ret_int (by rw [Hs.out, hd.out, Hp.out]; rfl), kw.trans k2⟩
  ·go_wp2
   go_ret
   exact ⟨ret_int (by rw [Hs.out, idxOf_end _ _ _ (by omega)]), kw⟩
theorem containsFuncN (pr : Nd → Bool) (f : FuncId) (cp : Array Value) (a : List Nd) (v : Value) (w : World) (hv : Nds w v a) (hcf : Enters f)
  (hf : ∀ x w1, x ∈ a → Keeps w w1 → Calls Tryz.prog f (#[.agg #[.int .i64 x.k, .int .i64 x.s]] ++ cp) w1 fun e w2 => e = .returned (.bool (pr x)) ∧ Keeps w1 w2) :
  Calls Tryz.prog 137 #[v, .func (.func f) #[] cp] w fun e w' => e = .returned (.bool (a.any pr)) ∧ Keeps w w' := by
 have H := hid (indexFuncN pr f cp a v w hv hcf hf)
 clear hv hf hcf
 have he := hid (idxOf_any pr a 0)
 go_enter Tryz.func137, Tryz.ntmps137
 go_wp2_with (go_at_call 181; refine H.out.mono ?_; rintro e w2 ⟨rfl, k2⟩)
 go_ret
 exact ⟨ret_bool he.out, k2⟩
theorem isVariable_any (x : Int) (w : World) : Calls Tryz.prog 182 #[.int .i64 x] w fun e w' => e = .returned (.bool (inR x 0 5)) ∧ w = w' := by
 go_enter Tryz.func182, Tryz.ntmps182
 go_wp2_with (go_at_call 167; refine (inRange_any _ _ _ _).mono ?_; rintro e w' ⟨rfl, rfl⟩)
 go_ret
 exact ⟨rfl, rfl⟩
set_option maxHeartbeats 400000 in
theorem isNode_any (x : Nd) (w : World) : Calls Tryz.prog 139 #[.agg #[.int .i64 x.k, .int .i64 x.s]] w fun e w' => e = .returned (.bool (okNd x)) ∧ Keeps w w' := by
 by_cases h : x.k = 0
 ·have h' : (x.k == 0) = true := by simp [h]
  have H := hid h; clear h
  go_enter Tryz.func139, Tryz.ntmps139
  go_wp2_with (go_at_call 182; refine (isVariable_any _ _).mono ?_; rintro e w' ⟨rfl, rfl⟩)
  go_ret
  exact ⟨ret_bool (by simp [okNd, H.out, inR]), (Keeps.refl w).alloc _⟩
 ·have h' : (x.k == 0) = false := by simp [h]
  have H := hid h; clear h
  cases hi : inR x.k 1 6
  all_goals
   have Hi := hid hi; clear hi
   go_enter Tryz.func139, Tryz.ntmps139
   go_wp2_with (go_at_call 167; refine (inRange_any _ _ _ _).mono ?_; rintro e w' ⟨rfl, rfl⟩; rw [Hi.out])
   go_ret
   refine ⟨ret_bool ?_, (Keeps.refl w).alloc _⟩
   have := Hi.out
   simp only [inR, decide_eq_true_eq, decide_eq_false_iff_not] at this
   unfold okNd
   rw [if_neg H.out]
   by_cases h0 : x.s = 0 <;> simp [h0] <;> omega
theorem isFormula_1_any (x : Nd) (w : World) : Calls Tryz.prog 138 #[.agg #[.int .i64 x.k, .int .i64 x.s]] w fun e w' => e = .returned (.bool (!okNd x)) ∧ Keeps w w' := by
 go_enter Tryz.func138, Tryz.ntmps138
 go_wp2_with (go_at_call 139; refine (isNode_any x _).mono ?_; rintro e w' ⟨rfl, k1⟩)
 go_ret
 exact ⟨rfl, ((Keeps.refl w).alloc _).trans k1⟩
theorem enters_isFormula_1 : Enters 138 := fun _ _ => by kernel_rfl
theorem isFm_split (a : List Nd) : isFm a = (decide (1 ≤ a.length) && (decide (a.length ≤ 40) && (!(a.any fun x => !okNd x) && (skipInt 1 a 0 == (a.length : Int))))) := by
 unfold isFm isTree
 have : (!(a.any fun x => !okNd x)) = a.all okNd := by
  induction a with
  | nil => rfl
  | cons x l ih => simp [List.all_cons, List.any_cons, ← ih]
 rw [this]
 cases a.all okNd <;> simp
 by_cases h : 0 < a.length <;> simp [h]
 all_goals omega
set_option maxHeartbeats 400000 in
theorem isFormula_any (a : List Nd) (v : Value) (w : World) (hv : Nds w v a) :
  Calls Tryz.prog 63 #[v] w fun e w' => e = .returned (.bool (isFm a)) ∧ Keeps w w' := by
 have hsp := hid (isFm_split a)
 have hv0 := hv
 obtain ⟨p, cap, rfl, hle, hmx, hr, hlen⟩ := hv
 unfold maxLen at hmx
 clear hr
 by_cases h1 : 1 ≤ a.length
 ·by_cases h40 : a.length ≤ 40
  ·cases ho : a.any fun x => !okNd x
   all_goals
    have Ho := hid ho; clear ho
    go_enter Tryz.func63, Tryz.ntmps63
    go_wp2_with (first
     | (go_at_call 137; refine (containsFuncN (fun x => !okNd x) _ #[] a _ _ hv0 enters_isFormula_1 (fun x w1 _ _ => isFormula_1_any x w1)).mono ?_; rintro e w1 ⟨rfl, k1⟩; rw [Ho.out])
     | (go_at_call 140; refine (partEnd_any a _ _ _ (hv0.keeps k1) (by omega) (by omega)).mono ?_; rintro e w' ⟨rfl, rfl⟩))
    go_ret
    refine ⟨ret_bool ?_, k1⟩
    rw [hsp.out, Ho.out]
    simp [h1, h40]
  ·go_enter Tryz.func63, Tryz.ntmps63
   go_wp2
   go_ret
   refine ⟨ret_bool ?_, Keeps.refl _⟩
   rw [hsp.out]; simp; omega
 ·go_enter Tryz.func63, Tryz.ntmps63
  go_wp2
  go_ret
  refine ⟨ret_bool ?_, Keeps.refl _⟩
  rw [hsp.out]; simp; omega
def modalB (k : Int) : Bool := decide (k = 5 ∨ k = 6)
theorem isModal_any (x : Int) (w : World) : Calls Tryz.prog 173 #[.int .i64 x] w fun e w' => e = .returned (.bool (modalB x)) ∧ w = w' := by
 go_enter Tryz.func173, Tryz.ntmps173
 go_wp2
 all_goals go_ret
 all_goals exact ⟨ret_bool (by by_cases h5 : x = 5 <;> by_cases h6 : x = 6 <;> simp_all [modalB]), rfl⟩
theorem isPlain_1_any (x : Nd) (w : World) : Calls Tryz.prog 172 #[.agg #[.int .i64 x.k, .int .i64 x.s]] w fun e w' => e = .returned (.bool (modalB x.k)) ∧ Keeps w w' := by
 go_enter Tryz.func172, Tryz.ntmps172
 go_wp2_with (go_at_call 173; refine (isModal_any _ _).mono ?_; rintro e w' ⟨rfl, rfl⟩)
 go_ret
 exact ⟨rfl, (Keeps.refl w).alloc _⟩
theorem enters_isPlain_1 : Enters 172 := fun _ _ => by kernel_rfl
theorem plainL_any (a : List Nd) : (!(a.any fun x => modalB x.k)) = plainL a := by
 unfold plainL
 induction a with
 | nil => rfl
 | cons x l ih => simp only [List.all_cons, List.any_cons, ← ih]; by_cases h : x.k = 5 <;> by_cases h' : x.k = 6 <;> simp [h, h', modalB]
theorem isPlain_any (a : List Nd) (v : Value) (w : World) (hv : Nds w v a) :
  Calls Tryz.prog 100 #[v] w fun e w' => e = .returned (.bool (plainL a)) ∧ Keeps w w' := by
 have hp := hid (plainL_any a)
 go_enter Tryz.func100, Tryz.ntmps100
 go_wp2_with (go_at_call 137; refine (containsFuncN (fun x => modalB x.k) _ #[] a _ _ hv enters_isPlain_1 (fun x w1 _ _ => isPlain_1_any x w1)).mono ?_; rintro e w1 ⟨rfl, k1⟩)
 go_ret
 exact ⟨ret_bool hp.out, k1⟩
end Go.Proofs.YtfmmajgkjkmghaaGreat
namespace Go.Proofs.YtfmmajgkjkmghaaGreat
open Go.RowKit
set_option maxHeartbeats 400000 in
theorem part_any (a l : List Nd) (t : Fm) (r : List Nd) (v : Value) (i : Int) (w : World) (hv : Nds w v a) (ha : a = l ++ (t.enc ++ r)) (hi : i = l.length) :
  Calls Tryz.prog 192 #[v, .int .i64 i] w (RetS w t.enc) := by
 subst hi
 have hv0 := hv
 obtain ⟨p, cap, rfl, hle, hmx, hr, hlen⟩ := hv
 have hp := Fm.enc_pos t
 have hs : skipInt 1 a (l.length : Int).toNat = l.length + t.enc.length := by subst ha; exact skipInt_enc l t r
 have hl : l.length + t.enc.length ≤ a.length := by subst ha; simp
 obtain ⟨b, off, rfl⟩ := hr.ptrN (by omega)
 have hmx0 := hid hmx
 unfold maxLen at hmx
 have Ha := hid ha; clear ha
 have Hs := hid hs; clear hs
 have hc1 : ¬ l.length + t.enc.length = l.length := by omega
 go_enter Tryz.func192, Tryz.ntmps192
 go_wp2_with (go_at_call 140; refine (partEnd_any _ _ _ _ hv0 (by omega) (by omega)).mono ?_; rintro e w' ⟨rfl, rfl⟩; rw [Hs.out])
 go_ret
 have e := Ha.out
 rw [e] at hr
 exact ⟨_, rfl, Nds.sub (l := l) (m := t.enc) (r := r) hr (by omega) rfl (by omega) (by omega) (by have := hmx0.out; omega), rfl⟩
theorem first_any (a : List Nd) (x : Nd) (t : Fm) (r : List Nd) (v : Value) (w : World) (hv : Nds w v a) (ha : a = x :: (t.enc ++ r)) :
  Calls Tryz.prog 155 #[v] w (RetS w t.enc) := by
 go_enter Tryz.func155, Tryz.ntmps155
 go_wp2_with (go_at_call 192; refine (part_any a [x] t r _ _ _ hv ha rfl).mono ?_; rintro e w' ⟨v1, rfl, hv1, rfl⟩)
 go_ret
 exact ⟨_, rfl, hv1, rfl⟩
theorem second_any (a : List Nd) (x : Nd) (t u : Fm) (v : Value) (w : World) (hv : Nds w v a) (ha : a = x :: (t.enc ++ u.enc)) :
  Calls Tryz.prog 157 #[v] w (RetS w u.enc) := by
 have hs : skipInt 1 a (1 : Int).toNat = 1 + t.enc.length := by subst ha; exact skipInt_enc [x] t u.enc
 have ha2 : a = (x :: t.enc) ++ (u.enc ++ []) := by subst ha; simp
 have hl1 : (1 : Int) ≤ a.length := by subst ha; simp; omega
 have Ha := hid ha2; clear ha2 ha
 have Hs := hid hs; clear hs
 go_enter Tryz.func157, Tryz.ntmps157
 go_wp2_with (first
  | (go_at_call 140; refine (partEnd_any _ _ _ _ hv (by omega) hl1).mono ?_; rintro e w' ⟨rfl, rfl⟩; rw [Hs.out])
  | (go_at_call 192; refine (part_any a (x :: t.enc) u [] _ _ _ hv Ha.out (by simp; omega)).mono ?_; rintro e w' ⟨v1, rfl, hv1, rfl⟩))
 go_ret
 exact ⟨_, rfl, hv1, rfl⟩
theorem isFalsum_any (t : Fm) (v : Value) (w : World) (hv : Nds w v t.enc) :
  Calls Tryz.prog 191 #[v] w fun e w' => e = .returned (.bool t.isFls) ∧ w = w' := by
 obtain ⟨b, off, n, cap, rfl, h0, h1, h2, h3, hc, _⟩ := hv.root
 have hk := hid (Fm.kind_isFls t)
 go_enter Tryz.func191, Tryz.ntmps191
 go_wp2
 go_ret
 exact ⟨ret_bool hk.out, rfl⟩
set_option maxHeartbeats 400000 in
theorem isNegation_any (t : Fm) (v : Value) (w : World) (hv : Nds w v t.enc) :
  Calls Tryz.prog 156 #[v] w fun e w' => e = .returned (.bool t.isNeg) ∧ w = w' := by
 have hv0 := hv
 obtain ⟨b, off, n, cap, rfl, h0, h1, h2, h3, hc, _⟩ := hv.root
 clear hv
 cases t with
 | imp x y =>
  go_enter Tryz.func156, Tryz.ntmps156
  go_wp2_with (first
   | (go_at_call 157; refine (second_any _ _ x y _ _ hv0 rfl).mono ?_; rintro e w' ⟨v2, rfl, hv2, rfl⟩)
   | (go_at_call 191; refine (isFalsum_any y _ _ hv2).mono ?_; rintro e w' ⟨rfl, rfl⟩))
  go_ret
  exact ⟨rfl, rfl⟩
 | _ =>
  clear hv0
  simp only [Fm.kind] at hc
  go_enter Tryz.func156, Tryz.ntmps156
  go_wp2
  go_ret
  exact ⟨rfl, rfl⟩
set_option maxHeartbeats 1000000 in
theorem isNegative_any (t : Fm) : ∀ (ng : Bool) (v : Value) (w : World), Nds w v t.enc → t.plain = true →
  Calls Tryz.prog 79 #[v, .bool ng] w fun e w' => e = .returned (.bool (t.negative ng)) ∧ w = w' := by
 induction t with
 | and x y ihx ihy =>
  intro ng v w hv hpl
  have hpx : x.plain = true := by simp [Fm.plain] at hpl; exact hpl.1
  have hpy : y.plain = true := by simp [Fm.plain] at hpl; exact hpl.2
  have HX := hid (fun v w h => ihx false v w h hpx); clear ihx
  have HY := hid (fun v w h => ihy false v w h hpy); clear ihy
  clear hpl hpx hpy
  have hv0 := hv
  obtain ⟨b, off, n, cap, rfl, h0, h1, h2, h3, hc, _⟩ := hv.head
  clear hv
  cases hx : x.negative false
  all_goals
   have Hx := hid hx; clear hx
   go_enter Tryz.func79, Tryz.ntmps79
   go_wp2_with (first
    | (go_at_call 155; refine (first_any _ _ x y.enc _ _ hv0 rfl).mono ?_; rintro e w' ⟨v1, rfl, hv1, rfl⟩)
    | (go_at_call 156; refine (isNegation_any (x.and y) _ _ hv0).mono ?_; rintro e w' ⟨rfl, rfl⟩; simp only [Fm.isNeg])
    | (go_at_call 157; refine (second_any _ _ x y _ _ hv0 rfl).mono ?_; rintro e w' ⟨v2, rfl, hv2, rfl⟩)
    | (go_at_call 79; first | ((with_reducible refine (HX.out v1 _ hv1).mono ?_); rintro e w' ⟨rfl, rfl⟩; rw [Hx.out]) | ((with_reducible refine (HY.out v2 _ hv2).mono ?_); rintro e w' ⟨rfl, rfl⟩)))
   go_ret
   exact ⟨ret_bool (by simp [Fm.negative, Hx.out]), rfl⟩
 | imp x y ihx ihy =>
  intro ng v w hv hpl
  have hpx : x.plain = true := by simp [Fm.plain] at hpl; exact hpl.1
  have hpy : y.plain = true := by simp [Fm.plain] at hpl; exact hpl.2
  have HX := hid (fun v w h => ihx y.isFls v w h hpx); clear ihx
  have HY := hid (fun v w h => ihy false v w h hpy); clear ihy
  clear hpl hpx hpy
  have hv0 := hv
  obtain ⟨b, off, n, cap, rfl, h0, h1, h2, h3, hc, _⟩ := hv.head
  clear hv
  cases hx : x.negative y.isFls
  all_goals
   have Hx := hid hx; clear hx
   go_enter Tryz.func79, Tryz.ntmps79
   go_wp2_with (first
    | (go_at_call 155; refine (first_any _ _ x y.enc _ _ hv0 rfl).mono ?_; rintro e w' ⟨v1, rfl, hv1, rfl⟩)
    | (go_at_call 156; refine (isNegation_any (x.imp y) _ _ hv0).mono ?_; rintro e w' ⟨rfl, rfl⟩; simp only [Fm.isNeg])
    | (go_at_call 157; refine (second_any _ _ x y _ _ hv0 rfl).mono ?_; rintro e w' ⟨v2, rfl, hv2, rfl⟩)
    | (go_at_call 79; first | ((with_reducible refine (HX.out v1 _ hv1).mono ?_); rintro e w' ⟨rfl, rfl⟩; rw [Hx.out]) | ((with_reducible refine (HY.out v2 _ hv2).mono ?_); rintro e w' ⟨rfl, rfl⟩)))
   go_ret
   exact ⟨ret_bool (by simp [Fm.negative, Hx.out]), rfl⟩
 | box x _ => intro ng v w hv hpl; simp [Fm.plain] at hpl
 | dia x _ => intro ng v w hv hpl; simp [Fm.plain] at hpl
 | _ =>
  intro ng v w hv _
  obtain ⟨b, off, n, cap, rfl, h0, h1, h2, h3, hc, _⟩ := hv.head
  clear hv
  go_enter Tryz.func79, Tryz.ntmps79
  go_wp2
  go_ret
  exact ⟨ret_bool (by simp [Fm.negative]), rfl⟩
end Go.Proofs.YtfmmajgkjkmghaaGreat
namespace Go.Proofs.YtfmmajgkjkmghaaGreat
open Go.RowKit
theorem zeroCells_size (n : Nat) (z : Array Value) : (Builtin.zeroCells z n).size = n * z.size := by simp [Builtin.zeroCells]
set_option maxRecDepth 20000 in
set_option maxHeartbeats 400000 in
theorem growN_any (n : Nat) (w : World) (hn : n ≤ 2147483648) :
  Calls Tryz.prog 160 #[.slice none 0 0, .int .i64 n] w (RetN w []) := by
 obtain ⟨i0, hi, hz0, hz1, hz2⟩ := info_parts infoN
 by_cases h0 : 0 < n
 ·have hrun := Lib.run_append_nil_zeros (P := Tryz.prog) w 24 3 24 61 i0 _ .i64 .i64 Tryz.underlying24 Tryz.underlying3 hi hz0 n h0 (by rw [hz1]; decide) (by omega) (by rw [hz2]; omega)
  have hge := grownCap_ge w n 0 61
  have hle := grownCap_le_maxLen w n 0 61 (by unfold maxLen; omega)
  unfold maxLen at hle
  have hown : OwnN (w.drew.alloc (.cells (Builtin.zeroCells (Value.agg #[.int .i64 0, .int .i64 0]).cells n ++ Builtin.zeroCells (Value.agg #[.int .i64 0, .int .i64 0]).cells (grownCap w n 0 61 - n)) 61)) w.heap.size (.slice (some ⟨w.heap.size, 0, none⟩) 0 (grownCap w n 0 61)) [] := by
   refine World.ownsRow_made w.drew _ _ (Nat.le_refl _) (by unfold maxLen; omega) ?_
   rw [Array.size_append, zeroCells_size, zeroCells_size]
   simp [Value.cells]
   omega
  have hk := ((Keeps.refl w).drew).alloc (.cells (Builtin.zeroCells (Value.agg #[.int .i64 0, .int .i64 0]).cells n ++ Builtin.zeroCells (Value.agg #[.int .i64 0, .int .i64 0]).cells (grownCap w n 0 61 - n)) 61)
  generalize w.drew.alloc (.cells (Builtin.zeroCells (Value.agg #[.int .i64 0, .int .i64 0]).cells n ++ Builtin.zeroCells (Value.agg #[.int .i64 0, .int .i64 0]).cells (grownCap w n 0 61 - n)) 61) = w1 at hrun hown hk
  generalize grownCap w n 0 61 = c1 at *
  have HR := hid hrun; clear hrun
  clear hz0 hz1 hz2 hi
  go_enter Tryz.func160, Tryz.ntmps160
  go_wp2_with (at_builtin; refine Lib.wpList_append_run _ rfl _ _ _ _ rfl _ _ rfl rfl _ _ HR.out ?_)
  go_ret
  exact ⟨_, rfl, hown, hk⟩
 ·obtain rfl : n = 0 := by omega
  go_enter Tryz.func160, Tryz.ntmps160
  go_wp2
  go_ret
  exact ⟨_, rfl, OwnN.nil _ _, Keeps.refl _⟩
def fl {α : Type} (l : List (List α)) (k : Nat) : List α := (l.take k).flatten
theorem fl_succ {α : Type} (l : List (List α)) (k : Nat) (h : k < l.length) : fl l (k + 1) = fl l k ++ l[k] := by
 unfold fl
 rw [List.take_succ_eq_append_getElem h, List.flatten_append]; simp
theorem fl_le {α : Type} (l : List (List α)) (k : Nat) : (fl l k).length ≤ (fl l l.length).length := by
 unfold fl
 rw [List.take_length]
 conv => rhs; rw [← List.take_append_drop k l]
 simp only [List.flatten_append, List.length_append]; omega
set_option maxHeartbeats 1000000 in
theorem concatN_any (l : List (List Nd)) (v : Value) (w : World) (hv : NdsL w v l) (hl : (fl l l.length).length ≤ 2147483648) :
  Calls Tryz.prog 83 #[v] w (RetN w (fl l l.length)) := by
 have hv0 := hv
 obtain ⟨p, cap, rfl, hle, hmx, hlen, _⟩ := hv
 unfold maxLen at hmx
 go_enter Tryz.func83, Tryz.ntmps83
 go_wp2
 go_loop [3, 11] (fun s i' => ∃ k : Nat, k ≤ l.length ∧ i' = .int .i64 k ∧ s = .int .i64 (fl l k).length) (fun _ i => l.length - (intOf i).toNat)
 case atStart => exact ⟨0, by omega, rfl, rfl⟩
 case round =>
  obtain ⟨k, hk, rfl, rfl⟩ := hrel
  have hf := fl_le l k
  by_cases hlt : k < l.length
  ·obtain ⟨b, off, u, rfl, h1, pu, capu, rfl, g1, g2, g3, g4⟩ := hv0.get k hlt
   have hft := fl_succ l k hlt
   have hf2 := fl_le l (k + 1)
   have hlen2 : (fl l (k + 1)).length = (fl l k).length + l[k].length := by rw [hft]; simp
   have hsum : (fl l k).length + l[k].length ≤ 2147483648 := by omega
   have HL := hid hlen2; clear hlen2 hft hf2
   clear hv0
   go_wp2
   go_round
   case rel => exact ⟨k + 1, by omega, by go_num, by rw [HL.out]; go_num⟩
   case measure => simp [intOf]; omega
  ·obtain rfl : k = l.length := by omega
   clear hf hk hlt
   go_wp2_with (go_at_call 160; refine (growN_any _ _ hl).mono ?_; rintro e w1 ⟨v1, rfl, hv1, k1⟩)
   go_loopw [6, 27] (fun s i' wr => ∃ k : Nat, k ≤ l.length ∧ i' = .int .i64 k ∧ OwnN wr w.heap.size s (fl l k) ∧ Keeps w wr) (fun _ i _ => l.length - (intOf i).toNat)
   case atStart => exact ⟨0, by omega, rfl, hv1, k1⟩
   case round =>
    obtain ⟨k, hk, rfl, hown, kw⟩ := hrel
    by_cases hlt : k < l.length
    ·obtain ⟨b, off, u, rfl, h1, hu⟩ := (hv0.keeps kw).get k hlt
     have hft := fl_succ l k hlt
     have hf2 := fl_le l (k + 1)
     have hsum : (fl l k).length + l[k].length ≤ 2147483648 := by
      have : (fl l (k + 1)).length = (fl l k).length + l[k].length := by rw [hft]; simp
      omega
     have HF := hid hft; clear hft hf2
     clear hv0
     have hsz := kw.size
     go_wp2_with (at_builtin; refine appN rfl _ _ rfl w.heap.size _ _ rfl hown _ _ rfl hu hsz hsum ?_; intro v2 w2 hv2 hg2 hr2; have k2 : Keeps w w2 := kw.grown hg2 hr2)
     go_roundw
     case rel => exact ⟨k + 1, by omega, by go_num, by rw [HF.out]; exact hv2, k2⟩
     case measure => simp [intOf]; omega
    ·obtain rfl : k = l.length := by omega
     go_wp2
     go_ret
     exact ⟨_, rfl, hown, kw⟩
end Go.Proofs.YtfmmajgkjkmghaaGreat
namespace Go.Proofs.YtfmmajgkjkmghaaGreat
open Go.RowKit
theorem falsum_any (w : World) : Calls Tryz.prog 141 #[] w (RetN w Fm.fls.enc) := by
 go_enter Tryz.func141, Tryz.ntmps141
 go_wp2
 go_ret
 exact ⟨_, rfl, OwnN.lit1 w ⟨1, 0⟩, (Keeps.refl w).alloc _⟩
set_option maxHeartbeats 400000 in
theorem join_any (k : Int) (a b : List Nd) (va vb : Value) (w : World) (hva : Nds w va a) (hvb : Nds w vb b) (hl : 1 + a.length + b.length ≤ 2147483648) :
  Calls Tryz.prog 35 #[.int .i64 k, va, vb] w (RetN w (⟨k, 0⟩ :: (a ++ b))) := by
 obtain ⟨pa, na, ca, rfl⟩ := hva.shape
 obtain ⟨pb, nb, cb, rfl⟩ := hvb.shape
 have k1 := (Keeps.refl w).alloc (.cells #[.int .i64 k, .int .i64 0] 61)
 have h1 := (OwnN.lit1 w ⟨k, 0⟩).nds (by simp)
 have h2 := NdsL.lit3N (N := w.heap.size + 1) (by simp) h1 (hva.keeps k1) (hvb.keeps k1)
 have k2 := k1.alloc (.cells #[.slice (some ⟨w.heap.size, 0, none⟩) 1 1, .slice pa na ca, .slice pb nb cb] 24)
 have hfl : fl [[⟨k, 0⟩], a, b] [[⟨k, 0⟩], a, b].length = ⟨k, 0⟩ :: (a ++ b) := by simp [fl]
 have hfl2 : (fl [[⟨k, 0⟩], a, b] [[(⟨k, 0⟩ : Nd)], a, b].length).length ≤ 2147483648 := by rw [hfl]; simp; omega
 have hc := concatN_any _ _ _ h2 hfl2
 rw [hfl] at hc
 have HC := hid hc
 clear hfl2 h1 h2 hfl hc
 go_enter Tryz.func35, Tryz.ntmps35
 go_wp2_with (go_at_call 83; go_must (refine HC.out.mono ?_); rintro e w3 ⟨v3, rfl, hv3, k3⟩)
 go_ret
 exact ⟨_, rfl, hv3.mono k2.size, k2.trans k3⟩
set_option maxHeartbeats 400000 in
theorem negation_any (t : Fm) (v : Value) (w : World) (hv : Nds w v t.enc) (hl : t.enc.length ≤ 1073741824) :
  Calls Tryz.prog 69 #[v] w (RetN w (Fm.not t).enc) := by
 go_enter Tryz.func69, Tryz.ntmps69
 go_wp2_with (first | (go_at_call 141; refine (falsum_any _).mono ?_; rintro e w1 ⟨v1, rfl, hv1, k1⟩) | (go_at_call 35; refine (join_any _ _ _ _ _ _ (hv.keeps k1) (hv1.nds (by simp [Fm.enc])) (by simp [Fm.enc]; omega)).mono ?_; rintro e w2 ⟨v2, rfl, hv2, k2⟩))
 go_ret
 exact ⟨_, rfl, hv2.mono k1.size, k1.trans k2⟩
set_option maxHeartbeats 400000 in
theorem doubleNegation_any (t : Fm) (v : Value) (w : World) (hv : Nds w v t.enc) (hl : t.enc.length ≤ 536870912) :
  Calls Tryz.prog 67 #[v] w (RetN w (Fm.not (Fm.not t)).enc) := by
 go_enter Tryz.func67, Tryz.ntmps67
 go_wp2_with (go_at_call 69; first | ((with_reducible refine (negation_any t v _ hv (by omega)).mono ?_); rintro e w1 ⟨v1, rfl, hv1, k1⟩) | ((with_reducible refine (negation_any t.not v1 _ (hv1.nds (by simp [Fm.not, Fm.enc]; omega)) (by simp [Fm.not, Fm.enc]; omega)).mono ?_); rintro e w2 ⟨v2, rfl, hv2, k2⟩))
 go_ret
 exact ⟨_, rfl, hv2.mono k1.size, k1.trans k2⟩
theorem limited_any (a : List Nd) (v : Value) (w : World) (hv : Nds w v a) :
  Calls Tryz.prog 65 #[v] w fun e w' => e = .returned (.tuple #[if a.length ≤ 40 then v else .slice none 0 0, .int .i64 (madeL a).2]) ∧ w = w' := by
 obtain ⟨p, cap, rfl, hle, hmx, hr, hlen⟩ := hv
 unfold maxLen at hmx
 by_cases h : a.length ≤ 40
 all_goals
  go_enter Tryz.func65, Tryz.ntmps65
  go_wp2
  go_ret2
  exact ⟨by simp [h, madeL], rfl⟩
theorem limited_own (a : List Nd) (v : Value) (w : World) (B : Nat) (hv : OwnN w B v a) (hl : a.length ≤ 2147483648) :
  Calls Tryz.prog 65 #[v] w fun e w' => ∃ u, e = .returned (.tuple #[u, .int .i64 (madeL a).2]) ∧ OwnN w' B u (madeL a).1 ∧ w = w' :=
 (limited_any a v w (hv.nds hl)).mono fun e w' ⟨he, hw⟩ => ⟨_, he, by subst hw; exact made_own hv, hw⟩
set_option maxHeartbeats 400000 in
theorem indexFuncL (pr : List Nd → Bool) (f : FuncId) (cp : Array Value) (a : List (List Nd)) (v : Value) (w : World) (hv : NdsL w v a) (hcf : Enters f)
  (hf : ∀ x u w1, x ∈ a → Keeps w w1 → Nds w1 u x → Calls Tryz.prog f (#[u] ++ cp) w1 fun e w2 => e = .returned (.bool (pr x)) ∧ Keeps w1 w2) :
  Calls Tryz.prog 184 #[v, .func (.func f) #[] cp] w fun e w' => e = .returned (.int .i64 (idxOf pr a 0)) ∧ Keeps w w' := by
 have hv0 := hv
 obtain ⟨p, cap, rfl, hle, hmx, hlen, _⟩ := hv
 unfold maxLen at hmx
 have HF := hid hf; clear hf
 have hcf' : ∀ args w, (callFunc f args).run Tryz.prog w = .ok (.enter f args) w := hcf
 clear hcf
 go_enter Tryz.func184, Tryz.ntmps184
 go_wp2
 go_loopw [4, 8] (fun r i' wr => ∃ k : Nat, k ≤ a.length ∧ idxOf pr a 0 = idxOf pr (a.drop k) k ∧ Keeps w wr ∧ i' = .int .i64 k ∧ r = .int .i64 0) (fun _ i _ => a.length - (intOf i).toNat)
 case atStart => exact ⟨0, by omega, by simp, Keeps.refl w, rfl, rfl⟩
 case round =>
  obtain ⟨k, hk, hs, kw, rfl, rfl⟩ := hrel
  have Hs := hid hs; clear hs
  by_cases hlt : k < a.length
  ·obtain ⟨b, off, u, rfl, h1, hu⟩ := (hv0.keeps kw).get k hlt
   have hd := hid (idxOf_drop pr a k hlt)
   clear hv0
   cases hp : pr a[k]
   all_goals
    have Hp := hid hp; clear hp
    go_wp2_with ((with_reducible refine (HF.out a[k] u wr (List.getElem_mem hlt) kw hu).mono ?_); rintro e w2 ⟨rfl, k2⟩; rw [Hp.out])
   ·go_roundw
    case rel => exact ⟨k + 1, by omega, by rw [Hs.out, hd.out, Hp.out]; rfl, kw.trans k2, by go_num, rfl⟩
    case measure => simp [intOf]; omega
   ·go_ret
    exact ⟨ret_int (by rw [Hs.out, hd.out, Hp.out]; rfl), kw.trans k2⟩
  ·go_wp2
   go_ret
   exact ⟨ret_int (by rw [Hs.out, idxOf_end _ _ _ (by omega)]), kw⟩
theorem containsFuncL (pr : List Nd → Bool) (f : FuncId) (cp : Array Value) (a : List (List Nd)) (v : Value) (w : World) (hv : NdsL w v a) (hcf : Enters f)
  (hf : ∀ x u w1, x ∈ a → Keeps w w1 → Nds w1 u x → Calls Tryz.prog f (#[u] ++ cp) w1 fun e w2 => e = .returned (.bool (pr x)) ∧ Keeps w1 w2) :
  Calls Tryz.prog 144 #[v, .func (.func f) #[] cp] w fun e w' => e = .returned (.bool (a.any pr)) ∧ Keeps w w' := by
 have H := hid (indexFuncL pr f cp a v w hv hcf hf)
 clear hv hf hcf
 have he := hid (idxOf_any pr a 0)
 go_enter Tryz.func144, Tryz.ntmps144
 go_wp2_with (go_at_call 184; refine H.out.mono ?_; rintro e w2 ⟨rfl, k2⟩)
 go_ret
 exact ⟨ret_bool he.out, k2⟩
theorem areFormulas_1_any (x : List Nd) (u : Value) (w : World) (hu : Nds w u x) : Calls Tryz.prog 183 #[u] w fun e w' => e = .returned (.bool (!isFm x)) ∧ Keeps w w' := by
 go_enter Tryz.func183, Tryz.ntmps183
 go_wp2_with (go_at_call 63; refine (isFormula_any x _ _ hu).mono ?_; rintro e w' ⟨rfl, k1⟩)
 go_ret
 exact ⟨rfl, k1⟩
theorem enters_areFormulas_1 : Enters 183 := fun _ _ => by kernel_rfl
def allFm (l : List (List Nd)) : Bool := !(l.any fun x => !isFm x)
theorem areFormulas_any (l : List (List Nd)) (v : Value) (w : World) (hv : NdsL w v l) :
  Calls Tryz.prog 143 #[v] w fun e w' => e = .returned (.bool (allFm l)) ∧ Keeps w w' := by
 go_enter Tryz.func143, Tryz.ntmps143
 go_wp2_with (go_at_call 144; refine (containsFuncL (fun x => !isFm x) _ #[] l _ _ hv enters_areFormulas_1 (fun x u w1 _ _ hu => areFormulas_1_any x u w1 hu)).mono ?_; rintro e w1 ⟨rfl, k1⟩)
 go_ret
 exact ⟨rfl, k1⟩
theorem plainCode_1_any (x : List Nd) (u : Value) (w : World) (hu : Nds w u x) : Calls Tryz.prog 145 #[u] w fun e w' => e = .returned (.bool (!plainL x)) ∧ Keeps w w' := by
 go_enter Tryz.func145, Tryz.ntmps145
 go_wp2_with (go_at_call 100; refine (isPlain_any x _ _ hu).mono ?_; rintro e w' ⟨rfl, k1⟩)
 go_ret
 exact ⟨rfl, k1⟩
theorem enters_plainCode_1 : Enters 145 := fun _ _ => by kernel_rfl
def allPlainL (l : List (List Nd)) : Bool := l.any fun x => !plainL x
def plainErrs (l : List (List Nd)) : Int := if allFm l then (if allPlainL l then 5 else 0) else 1
set_option maxHeartbeats 400000 in
theorem plainCode_any (l : List (List Nd)) (v : Value) (w : World) (hv : NdsL w v l) :
  Calls Tryz.prog 72 #[v] w fun e w' => e = .returned (.int .i64 (plainErrs l)) ∧ Keeps w w' := by
 have h1 := areFormulas_any l v w hv
 have h2 := fun w1 (k : Keeps w w1) => containsFuncL (fun x => !plainL x) _ #[] l v w1 (hv.keeps k) enters_plainCode_1 (fun x u w1 _ _ hu => plainCode_1_any x u w1 hu)
 have h2' : ∀ w1 (k : Keeps w w1), Calls Tryz.prog 144 #[v, .func (.func 145) #[] #[]] w1 fun e w' => e = .returned (.bool (allPlainL l)) ∧ Keeps w1 w' := h2
 clear h2
 cases hf : allFm l <;> cases hp : allPlainL l <;> rw [hf] at h1 <;> rw [hp] at h2'
 all_goals
  have Hf := hid hf; clear hf
  have Hp := hid hp; clear hp
  have H1 := hid h1; clear h1
  have H2 := hid h2'; clear h2'
  go_enter Tryz.func72, Tryz.ntmps72
  go_wp2_with (first | (go_at_call 143; refine H1.out.mono ?_; rintro e w1 ⟨rfl, k1⟩) | (go_at_call 144; refine (H2.out _ k1).mono ?_; rintro e w2 ⟨rfl, k2⟩))
  go_ret
  refine ⟨ret_int (by simp [plainErrs, Hf.out, Hp.out]), ?_⟩
  first | exact k1.trans k2 | exact k1
end Go.Proofs.YtfmmajgkjkmghaaGreat
namespace Go.Proofs.YtfmmajgkjkmghaaGreat
open Go.RowKit
set_option maxHeartbeats 400000 in
theorem l02Pre_any (k : Int) (a : List Nd) (va : Value) (w : World) (hva : Nds w va a) (hl : 1 + a.length ≤ 2147483648) :
  Calls Tryz.prog 87 #[.int .i64 k, va] w (RetN w (⟨k, 0⟩ :: a)) := by
 go_enter Tryz.func87, Tryz.ntmps87
 have h1 := OwnN.lit1 w ⟨k, 0⟩
 have k1 := (Keeps.refl w).alloc (.cells #[.int .i64 k, .int .i64 0] 61)
 have ha1 := hva.keeps k1
 go_wp2_with (at_builtin; refine appN rfl _ _ rfl w.heap.size _ [⟨k, 0⟩] rfl h1 _ a rfl ha1 (by simp) (by simp; omega) ?_; intro v1 w1 hv1 hg1 hr1; have k2 : Keeps w w1 := k1.grown hg1 hr1)
 go_ret
 exact ⟨_, rfl, by simpa using hv1, k2⟩
set_option maxRecDepth 20000 in
set_option maxHeartbeats 400000 in
theorem prefix_any (k : Int) (a : List Nd) (va : Value) (w : World) (hva : Nds w va a) (hl : 1 + a.length ≤ 2147483648) :
  Calls Tryz.prog 66 #[.int .i64 k, va] w (RetN w (⟨k, 0⟩ :: a)) := by
 obtain ⟨pa, na, ca, rfl⟩ := hva.shape
 have k1 := (Keeps.refl w).alloc (.cells #[.int .i64 k, .int .i64 0] 61)
 have h1 := (OwnN.lit1 w ⟨k, 0⟩).nds (by simp)
 have h2 := NdsL.lit2N (N := w.heap.size + 1) (by simp) h1 (hva.keeps k1)
 have k2 := k1.alloc (.cells #[.slice (some ⟨w.heap.size, 0, none⟩) 1 1, .slice pa na ca] 24)
 have hfl : fl [[⟨k, 0⟩], a] [[⟨k, 0⟩], a].length = ⟨k, 0⟩ :: a := by simp [fl]
 have hfl2 : (fl [[⟨k, 0⟩], a] [[(⟨k, 0⟩ : Nd)], a].length).length ≤ 2147483648 := by rw [hfl]; simp; omega
 have hc := concatN_any _ _ _ h2 hfl2
 rw [hfl] at hc
 have HC := hid hc
 clear hfl2 h1 h2 hfl hc
 go_enter Tryz.func66, Tryz.ntmps66
 go_wp2_with (go_at_call 83; go_must (refine HC.out.mono ?_); rintro e w3 ⟨v3, rfl, hv3, k3⟩)
 go_ret
 exact ⟨_, rfl, hv3.mono k2.size, k2.trans k3⟩
end Go.Proofs.YtfmmajgkjkmghaaGreat
