/- Walks: the program's readers of formulas, and the library's IndexFunc and ContainsFunc at two types. -/
import Derived.Test.YtodeecmhcfbheaaGreatGW2
namespace Go.Proofs.YtodeecmhcfbheaaGreat
open Go.RowKit

--
set_option maxHeartbeats 400000 in
theorem indexFuncN (pr : Nd → Bool) (f : FuncId) (cp : Array Value) (a : List Nd) (v : Value) (w : World) (hv : Nds w v a) (hcf : Enters f)
    (hf : ∀ x w1, x ∈ a → Keeps w w1 → Calls Tryz.prog f (#[.agg #[.int .i64 x.k, .int .i64 x.s]] ++ cp) w1 fun e w2 => e = .returned (.bool (pr x)) ∧ Keeps w1 w2) :
    Calls Tryz.prog 205 #[v, .func (.func f) #[] cp] w fun e w' => e = .returned (.int .i64 (idxOf pr a 0)) ∧ Keeps w w' := by
  obtain ⟨p, cap, rfl, hle, hmx, hr, hlen⟩ := hv
  unfold maxLen at hmx
  have HF := hid hf; clear hf
  have hcf' : ∀ args w, (callFunc f args).run Tryz.prog w = .ok (.enter f args) w := hcf
  clear hcf
  go_enter Tryz.func205, Tryz.ntmps205
  go_wp2
  go_loopw [4, 8] (fun r i' wr => ∃ k : Nat, k ≤ a.length ∧ idxOf pr a 0 = idxOf pr (a.drop k) k ∧ Keeps w wr ∧ i' = .int .i64 k ∧ r = .int .i64 0) (fun _ i _ => a.length - (intOf i).toNat)
  case atStart => exact ⟨0, by omega, by simp, Keeps.refl w, rfl, rfl⟩
  case round =>
    obtain ⟨k, hk, hs, kw, rfl, rfl⟩ := hrel
    have Hs := hid hs; clear hs
    by_cases hlt : k < a.length
    · obtain ⟨b, off, rfl, h1, h2⟩ := (hr.keeps kw).nd k hlt
      have hd := hid (idxOf_drop pr a k hlt)
      clear hr
      cases hp : pr a[k]
      all_goals
        have Hp := hid hp; clear hp
        go_wp2_with ((with_reducible refine (HF.out a[k] wr (List.getElem_mem hlt) kw).mono ?_); rintro e w2 ⟨rfl, k2⟩; rw [Hp.out])
      · go_roundw
        case rel => exact ⟨k + 1, by omega, by rw [Hs.out, hd.out, Hp.out]; rfl, kw.trans k2, by go_num, rfl⟩
        case measure => simp [intOf]; omega
      · go_ret
        exact ⟨ret_int (by rw [Hs.out, hd.out, Hp.out]; rfl), kw.trans k2⟩
    · go_wp2
      go_ret
      exact ⟨ret_int (by rw [Hs.out, idxOf_end _ _ _ (by omega)]), kw⟩
theorem containsFuncN (pr : Nd → Bool) (f : FuncId) (cp : Array Value) (a : List Nd) (v : Value) (w : World) (hv : Nds w v a) (hcf : Enters f)
    (hf : ∀ x w1, x ∈ a → Keeps w w1 → Calls Tryz.prog f (#[.agg #[.int .i64 x.k, .int .i64 x.s]] ++ cp) w1 fun e w2 => e = .returned (.bool (pr x)) ∧ Keeps w1 w2) :
    Calls Tryz.prog 150 #[v, .func (.func f) #[] cp] w fun e w' => e = .returned (.bool (a.any pr)) ∧ Keeps w w' := by
  have H := hid (indexFuncN pr f cp a v w hv hcf hf)
  clear hv hf hcf
  have he := hid (idxOf_any pr a 0)
  go_enter Tryz.func150, Tryz.ntmps150
  go_wp2_with (go_at_call 205; refine H.out.mono ?_; rintro e w2 ⟨rfl, k2⟩)
  go_ret
  exact ⟨ret_bool he.out, k2⟩
--
theorem isVariable_any (x : Int) (w : World) : Calls Tryz.prog 206 #[.int .i64 x] w fun e w' => e = .returned (.bool (inR x 0 5)) ∧ w = w' := by
  go_enter Tryz.func206, Tryz.ntmps206
  go_wp2_with (go_at_call 194; refine (inRange_any _ _ _ _).mono ?_; rintro e w' ⟨rfl, rfl⟩)
  go_ret
  exact ⟨rfl, rfl⟩
--
set_option maxHeartbeats 400000 in
theorem isNode_any (x : Nd) (w : World) : Calls Tryz.prog 152 #[.agg #[.int .i64 x.k, .int .i64 x.s]] w fun e w' => e = .returned (.bool (okNd x)) ∧ Keeps w w' := by
  by_cases h : x.k = 0
  · have h' : (x.k == 0) = true := by simp [h]
    have H := hid h; clear h
    go_enter Tryz.func152, Tryz.ntmps152
    go_wp2_with (go_at_call 206; refine (isVariable_any _ _).mono ?_; rintro e w' ⟨rfl, rfl⟩)
    go_ret
    exact ⟨ret_bool (by simp [okNd, H.out, inR]), (Keeps.refl w).alloc _⟩
  · have h' : (x.k == 0) = false := by simp [h]
    have H := hid h; clear h
    cases hi : inR x.k 1 6
    all_goals
      have Hi := hid hi; clear hi
      go_enter Tryz.func152, Tryz.ntmps152
      go_wp2_with (go_at_call 194; refine (inRange_any _ _ _ _).mono ?_; rintro e w' ⟨rfl, rfl⟩; rw [Hi.out])
      go_ret
      refine ⟨ret_bool ?_, (Keeps.refl w).alloc _⟩
      have := Hi.out
      simp only [inR, decide_eq_true_eq, decide_eq_false_iff_not] at this
      unfold okNd
      rw [if_neg H.out]
      by_cases h0 : x.s = 0 <;> simp [h0] <;> omega
--
theorem isFormula_1_any (x : Nd) (w : World) : Calls Tryz.prog 151 #[.agg #[.int .i64 x.k, .int .i64 x.s]] w fun e w' => e = .returned (.bool (!okNd x)) ∧ Keeps w w' := by
  go_enter Tryz.func151, Tryz.ntmps151
  go_wp2_with (go_at_call 152; refine (isNode_any x _).mono ?_; rintro e w' ⟨rfl, k1⟩)
  go_ret
  exact ⟨rfl, ((Keeps.refl w).alloc _).trans k1⟩
--
theorem enters_isFormula_1 : Enters 151 := fun _ _ => by kernel_rfl
theorem isFm_split (a : List Nd) : isFm a = (decide (1 ≤ a.length) && (decide (a.length ≤ 40) && (!(a.any fun x => !okNd x) && (skipInt 1 a 0 == (a.length : Int))))) := by
  unfold isFm isTree
  have : (!(a.any fun x => !okNd x)) = a.all okNd := by
    induction a with
    | nil => rfl
    | cons x l ih => simp [List.all_cons, List.any_cons, ← ih]
  rw [this]
  cases a.all okNd <;> simp
  by_cases h : 0 < a.length <;> simp [h]
  all_goals omega
set_option maxHeartbeats 400000 in
theorem isFormula_any (a : List Nd) (v : Value) (w : World) (hv : Nds w v a) :
    Calls Tryz.prog 66 #[v] w fun e w' => e = .returned (.bool (isFm a)) ∧ Keeps w w' := by
  have hsp := hid (isFm_split a)
  have hv0 := hv
  obtain ⟨p, cap, rfl, hle, hmx, hr, hlen⟩ := hv
  unfold maxLen at hmx
  clear hr
  by_cases h1 : 1 ≤ a.length
  · by_cases h40 : a.length ≤ 40
    · cases ho : a.any fun x => !okNd x
      all_goals
        have Ho := hid ho; clear ho
        go_enter Tryz.func66, Tryz.ntmps66
        go_wp2_with (first
          | (go_at_call 150; refine (containsFuncN (fun x => !okNd x) _ #[] a _ _ hv0 enters_isFormula_1 (fun x w1 _ _ => isFormula_1_any x w1)).mono ?_; rintro e w1 ⟨rfl, k1⟩; rw [Ho.out])
          | (go_at_call 153; refine (partEnd_any a _ _ _ (hv0.keeps k1) (by omega) (by omega)).mono ?_; rintro e w' ⟨rfl, rfl⟩))
        go_ret
        refine ⟨ret_bool ?_, k1⟩
        rw [hsp.out, Ho.out]
        simp [h1, h40]
    · go_enter Tryz.func66, Tryz.ntmps66
      go_wp2
      go_ret
      refine ⟨ret_bool ?_, Keeps.refl _⟩
      rw [hsp.out]; simp; omega
  · go_enter Tryz.func66, Tryz.ntmps66
    go_wp2
    go_ret
    refine ⟨ret_bool ?_, Keeps.refl _⟩
    rw [hsp.out]; simp; omega
def modalB (k : Int) : Bool := decide (k = 5 ∨ k = 6)
--
theorem isModal_any (x : Int) (w : World) : Calls Tryz.prog 202 #[.int .i64 x] w fun e w' => e = .returned (.bool (modalB x)) ∧ w = w' := by
  go_enter Tryz.func202, Tryz.ntmps202
  go_wp2
  all_goals go_ret
  all_goals exact ⟨ret_bool (by by_cases h5 : x = 5 <;> by_cases h6 : x = 6 <;> simp_all [modalB]), rfl⟩
--
theorem isPlain_1_any (x : Nd) (w : World) : Calls Tryz.prog 201 #[.agg #[.int .i64 x.k, .int .i64 x.s]] w fun e w' => e = .returned (.bool (modalB x.k)) ∧ Keeps w w' := by
  go_enter Tryz.func201, Tryz.ntmps201
  go_wp2_with (go_at_call 202; refine (isModal_any _ _).mono ?_; rintro e w' ⟨rfl, rfl⟩)
  go_ret
  exact ⟨rfl, (Keeps.refl w).alloc _⟩
theorem enters_isPlain_1 : Enters 201 := fun _ _ => by kernel_rfl
theorem plainL_any (a : List Nd) : (!(a.any fun x => modalB x.k)) = plainL a := by
  unfold plainL
  induction a with
  | nil => rfl
  | cons x l ih => simp only [List.all_cons, List.any_cons, ← ih]; by_cases h : x.k = 5 <;> by_cases h' : x.k = 6 <;> simp [h, h', modalB]
theorem isPlain_any (a : List Nd) (v : Value) (w : World) (hv : Nds w v a) :
    Calls Tryz.prog 144 #[v] w fun e w' => e = .returned (.bool (plainL a)) ∧ Keeps w w' := by
  have hp := hid (plainL_any a)
  go_enter Tryz.func144, Tryz.ntmps144
  go_wp2_with (go_at_call 150; refine (containsFuncN (fun x => modalB x.k) _ #[] a _ _ hv enters_isPlain_1 (fun x w1 _ _ => isPlain_1_any x w1)).mono ?_; rintro e w1 ⟨rfl, k1⟩)
  go_ret
  exact ⟨ret_bool hp.out, k1⟩
end Go.Proofs.YtodeecmhcfbheaaGreat
/- Walks: Harrop and negative formulas on both sides; lists of formulas. -/
namespace Go.Proofs.YtodeecmhcfbheaaGreat
open Go.RowKit

--
set_option maxHeartbeats 400000 in
theorem part_any (a l : List Nd) (t : Fm) (r : List Nd) (v : Value) (i : Int) (w : World) (hv : Nds w v a) (ha : a = l ++ (t.enc ++ r)) (hi : i = l.length) :
    Calls Tryz.prog 203 #[v, .int .i64 i] w (RetS w t.enc) := by
  subst hi
  have hv0 := hv
  obtain ⟨p, cap, rfl, hle, hmx, hr, hlen⟩ := hv
  have hp := Fm.enc_pos t
  have hs : skipInt 1 a (l.length : Int).toNat = l.length + t.enc.length := by subst ha; exact skipInt_enc l t r
  have hl : l.length + t.enc.length ≤ a.length := by subst ha; simp
  obtain ⟨b, off, rfl⟩ := hr.ptrN (by omega)
  have hmx0 := hid hmx
  unfold maxLen at hmx
  have Ha := hid ha; clear ha
  have Hs := hid hs; clear hs
  have hc1 : ¬ l.length + t.enc.length = l.length := by omega
  go_enter Tryz.func203, Tryz.ntmps203
  go_wp2_with (go_at_call 153; refine (partEnd_any _ _ _ _ hv0 (by omega) (by omega)).mono ?_; rintro e w' ⟨rfl, rfl⟩; rw [Hs.out])
  go_ret
  have e := Ha.out
  rw [e] at hr
  exact ⟨_, rfl, Nds.sub (l := l) (m := t.enc) (r := r) hr (by omega) rfl (by omega) (by omega) (by have := hmx0.out; omega), rfl⟩
--
theorem first_any (a : List Nd) (x : Nd) (t : Fm) (r : List Nd) (v : Value) (w : World) (hv : Nds w v a) (ha : a = x :: (t.enc ++ r)) :
    Calls Tryz.prog 145 #[v] w (RetS w t.enc) := by
  go_enter Tryz.func145, Tryz.ntmps145
  go_wp2_with (go_at_call 203; refine (part_any a [x] t r _ _ _ hv ha rfl).mono ?_; rintro e w' ⟨v1, rfl, hv1, rfl⟩)
  go_ret
  exact ⟨_, rfl, hv1, rfl⟩
--
theorem second_any (a : List Nd) (x : Nd) (t u : Fm) (v : Value) (w : World) (hv : Nds w v a) (ha : a = x :: (t.enc ++ u.enc)) :
    Calls Tryz.prog 146 #[v] w (RetS w u.enc) := by
  have hs : skipInt 1 a (1 : Int).toNat = 1 + t.enc.length := by subst ha; exact skipInt_enc [x] t u.enc
  have ha2 : a = (x :: t.enc) ++ (u.enc ++ []) := by subst ha; simp
  have hl1 : (1 : Int) ≤ a.length := by subst ha; simp; omega
  have Ha := hid ha2; clear ha2 ha
  have Hs := hid hs; clear hs
  go_enter Tryz.func146, Tryz.ntmps146
  go_wp2_with (first
    | (go_at_call 153; refine (partEnd_any _ _ _ _ hv (by omega) hl1).mono ?_; rintro e w' ⟨rfl, rfl⟩; rw [Hs.out])
    | (go_at_call 203; refine (part_any a (x :: t.enc) u [] _ _ _ hv Ha.out (by simp; omega)).mono ?_; rintro e w' ⟨v1, rfl, hv1, rfl⟩))
  go_ret
  exact ⟨_, rfl, hv1, rfl⟩
--
theorem isFalsum_any (t : Fm) (v : Value) (w : World) (hv : Nds w v t.enc) :
    Calls Tryz.prog 210 #[v] w fun e w' => e = .returned (.bool t.isFls) ∧ w = w' := by
  obtain ⟨b, off, n, cap, rfl, h0, h1, h2, h3, hc, _⟩ := hv.root
  have hk := hid (Fm.kind_isFls t)
  go_enter Tryz.func210, Tryz.ntmps210
  go_wp2
  go_ret
  exact ⟨ret_bool hk.out, rfl⟩
--
set_option maxHeartbeats 400000 in
theorem isNegation_any (t : Fm) (v : Value) (w : World) (hv : Nds w v t.enc) :
    Calls Tryz.prog 209 #[v] w fun e w' => e = .returned (.bool t.isNeg) ∧ w = w' := by
  have hv0 := hv
  obtain ⟨b, off, n, cap, rfl, h0, h1, h2, h3, hc, _⟩ := hv.root
  clear hv
  cases t with
  | imp x y =>
    go_enter Tryz.func209, Tryz.ntmps209
    go_wp2_with (first
      | (go_at_call 146; refine (second_any _ _ x y _ _ hv0 rfl).mono ?_; rintro e w' ⟨v2, rfl, hv2, rfl⟩)
      | (go_at_call 210; refine (isFalsum_any y _ _ hv2).mono ?_; rintro e w' ⟨rfl, rfl⟩))
    go_ret
    exact ⟨rfl, rfl⟩
  | _ =>
    clear hv0
    simp only [Fm.kind] at hc
    go_enter Tryz.func209, Tryz.ntmps209
    go_wp2
    go_ret
    exact ⟨rfl, rfl⟩
--
set_option maxHeartbeats 1000000 in
theorem isHarrop_any (t : Fm) : ∀ (v : Value) (w : World), Nds w v t.enc →
    Calls Tryz.prog 63 #[v] w fun e w' => e = .returned (.bool t.harrop) ∧ w = w' := by
  induction t with
  | and x y ihx ihy =>
    intro v w hv
    have HX := hid ihx; clear ihx
    have HY := hid ihy; clear ihy
    have hv0 := hv
    obtain ⟨b, off, n, cap, rfl, h0, h1, h2, h3, hc, _⟩ := hv.head
    clear hv
    cases hx : x.harrop
    all_goals
      have Hx := hid hx; clear hx
      go_enter Tryz.func63, Tryz.ntmps63
      go_wp2_with (first
        | (go_at_call 145; refine (first_any _ _ x y.enc _ _ hv0 rfl).mono ?_; rintro e w' ⟨v1, rfl, hv1, rfl⟩)
        | (go_at_call 146; refine (second_any _ _ x y _ _ hv0 rfl).mono ?_; rintro e w' ⟨v2, rfl, hv2, rfl⟩)
        | (go_at_call 63; first | ((with_reducible refine (HX.out v1 _ hv1).mono ?_); rintro e w' ⟨rfl, rfl⟩; rw [Hx.out]) | ((with_reducible refine (HY.out v2 _ hv2).mono ?_); rintro e w' ⟨rfl, rfl⟩)))
      go_ret
      exact ⟨ret_bool (by simp [Fm.harrop, Hx.out]), rfl⟩
  | imp x y ihx ihy =>
    intro v w hv
    have HY := hid ihy; clear ihy ihx
    have hv0 := hv
    obtain ⟨b, off, n, cap, rfl, h0, h1, h2, h3, hc, _⟩ := hv.head
    clear hv
    go_enter Tryz.func63, Tryz.ntmps63
    go_wp2_with (first
        | (go_at_call 146; refine (second_any _ _ x y _ _ hv0 rfl).mono ?_; rintro e w' ⟨v2, rfl, hv2, rfl⟩)
        | (go_at_call 63; refine (HY.out v2 _ hv2).mono ?_; rintro e w' ⟨rfl, rfl⟩))
    go_ret
    exact ⟨ret_bool (by simp [Fm.harrop]), rfl⟩
  | _ =>
    intro v w hv
    obtain ⟨b, off, n, cap, rfl, h0, h1, h2, h3, hc, _⟩ := hv.head
    clear hv
    go_enter Tryz.func63, Tryz.ntmps63
    go_wp2
    go_ret
    exact ⟨ret_bool (by simp [Fm.harrop]), rfl⟩
end Go.Proofs.YtodeecmhcfbheaaGreat
