/- Walks: the program's readers of formulas, and the library's IndexFunc and ContainsFunc at two types. -/
import Derived.Test.YtjmpiedjhdogeaaW2
namespace Go.Proofs.Ytjmpiedjhdogeaa
open Go.RowKit

def idxOf {α : Type} (pr : α → Bool) : List α → Nat → Int
  | [], _ => -1
  | x :: l, k => if pr x then k else idxOf pr l (k + 1)
theorem idxOf_any {α : Type} (pr : α → Bool) (l : List α) : ∀ k, decide (idxOf pr l k ≥ 0) = l.any pr := by
  induction l with
  | nil => intro k; simp [idxOf]
  | cons x l ih =>
    intro k
    cases h : pr x
    · have := ih (k + 1); simp only [idxOf, List.any_cons, h]; simpa using this
    · simp only [idxOf, h, List.any_cons]; simp
theorem idxOf_drop {α : Type} (pr : α → Bool) (l : List α) (k : Nat) (h : k < l.length) : idxOf pr (l.drop k) k = if pr l[k] then (k : Int) else idxOf pr (l.drop (k + 1)) (k + 1) := by
  rw [List.drop_eq_getElem_cons h]; rfl
theorem idxOf_end {α : Type} (pr : α → Bool) (l : List α) (k : Nat) (h : l.length ≤ k) : idxOf pr (l.drop k) k = -1 := by
  rw [List.drop_eq_nil_of_le h]; rfl
/-- the callee's text is there -/
def Enters (f : FuncId) : Prop := ∀ args w, (callFunc f args).run Try.prog w = .ok (.enter f args) w

--
set_option maxHeartbeats 400000 in
theorem indexFuncN (pr : Nd → Bool) (f : FuncId) (cp : Array Value) (a : List Nd) (v : Value) (w : World) (hv : Nds w v a) (hcf : Enters f)
    (hf : ∀ x w1, x ∈ a → Keeps w w1 → Calls Try.prog f (#[.agg #[.int .i64 x.k, .int .i64 x.s]] ++ cp) w1 fun e w2 => e = .returned (.bool (pr x)) ∧ Keeps w1 w2) :
    Calls Try.prog 172 #[v, .func (.func f) #[] cp] w fun e w' => e = .returned (.int .i64 (idxOf pr a 0)) ∧ Keeps w w' := by
  obtain ⟨p, cap, rfl, hle, hmx, hr, hlen⟩ := hv
  unfold maxLen at hmx
  have HF := hid hf; clear hf
  have hcf' : ∀ args w, (callFunc f args).run Try.prog w = .ok (.enter f args) w := hcf
  clear hcf
  go_enter Try.func172, Try.ntmps172
  go_wp2
  go_loopw [4, 8] (fun r i' wr => ∃ k : Nat, k ≤ a.length ∧ idxOf pr a 0 = idxOf pr (a.drop k) k ∧ Keeps w wr ∧ i' = .int .i64 k ∧ r = .int .i64 0) (fun _ i _ => a.length - (intOf i).toNat)
  case atStart => exact ⟨0, by omega, by simp, Keeps.refl w, rfl, rfl⟩
  case round =>
    obtain ⟨k, hk, hs, kw, rfl, rfl⟩ := hrel
    have Hs := hid hs; clear hs
    by_cases hlt : k < a.length
    · obtain ⟨b, off, rfl, h1, h2⟩ := (hr.keeps kw).nd k hlt
      have hd := hid (idxOf_drop pr a k hlt)
      clear hr
      cases hp : pr a[k]
      all_goals
        have Hp := hid hp; clear hp
        go_wp2_with ((with_reducible refine (HF.out a[k] wr (List.getElem_mem hlt) kw).mono ?_); rintro e w2 ⟨rfl, k2⟩; rw [Hp.out])
      · go_roundw
        case rel => exact ⟨k + 1, by omega, by rw [Hs.out, hd.out, Hp.out]; rfl, kw.trans k2, by go_num, rfl⟩
        case measure => simp [intOf]; omega
      · go_ret
        exact ⟨ret_int (by rw [Hs.out, hd.out, Hp.out]; rfl), kw.trans k2⟩
    · go_wp2
      go_ret
      exact ⟨ret_int (by rw [Hs.out, idxOf_end _ _ _ (by omega)]), kw⟩
theorem containsFuncN (pr : Nd → Bool) (f : FuncId) (cp : Array Value) (a : List Nd) (v : Value) (w : World) (hv : Nds w v a) (hcf : Enters f)
    (hf : ∀ x w1, x ∈ a → Keeps w w1 → Calls Try.prog f (#[.agg #[.int .i64 x.k, .int .i64 x.s]] ++ cp) w1 fun e w2 => e = .returned (.bool (pr x)) ∧ Keeps w1 w2) :
    Calls Try.prog 152 #[v, .func (.func f) #[] cp] w fun e w' => e = .returned (.bool (a.any pr)) ∧ Keeps w w' := by
  have H := hid (indexFuncN pr f cp a v w hv hcf hf)
  clear hv hf hcf
  have he := hid (idxOf_any pr a 0)
  go_enter Try.func152, Try.ntmps152
  go_wp2_with (go_at_call 172; refine H.out.mono ?_; rintro e w2 ⟨rfl, k2⟩)
  go_ret
  exact ⟨ret_bool he.out, k2⟩
--
theorem isVariable_any (x : Int) (w : World) : Calls Try.prog 176 #[.int .i64 x] w fun e w' => e = .returned (.bool (inR x 0 5)) ∧ w = w' := by
  go_enter Try.func176, Try.ntmps176
  go_wp2_with (go_at_call 159; refine (inRange_any _ _ _ _).mono ?_; rintro e w' ⟨rfl, rfl⟩)
  go_ret
  exact ⟨rfl, rfl⟩
--
set_option maxHeartbeats 400000 in
theorem isNode_any (x : Nd) (w : World) : Calls Try.prog 170 #[.agg #[.int .i64 x.k, .int .i64 x.s]] w fun e w' => e = .returned (.bool (okNd x)) ∧ Keeps w w' := by
  by_cases h : x.k = 0
  · have h' : (x.k == 0) = true := by simp [h]
    have H := hid h; clear h
    go_enter Try.func170, Try.ntmps170
    go_wp2_with (go_at_call 176; refine (isVariable_any _ _).mono ?_; rintro e w' ⟨rfl, rfl⟩)
    go_ret
    exact ⟨ret_bool (by simp [okNd, H.out, inR]), (Keeps.refl w).alloc _⟩
  · have h' : (x.k == 0) = false := by simp [h]
    have H := hid h; clear h
    cases hi : inR x.k 1 6
    all_goals
      have Hi := hid hi; clear hi
      go_enter Try.func170, Try.ntmps170
      go_wp2_with (go_at_call 159; refine (inRange_any _ _ _ _).mono ?_; rintro e w' ⟨rfl, rfl⟩; rw [Hi.out])
      go_ret
      refine ⟨ret_bool ?_, (Keeps.refl w).alloc _⟩
      have := Hi.out
      simp only [inR, decide_eq_true_eq, decide_eq_false_iff_not] at this
      unfold okNd
      rw [if_neg H.out]
      by_cases h0 : x.s = 0 <;> simp [h0] <;> omega
--
theorem isFormula_1_any (x : Nd) (w : World) : Calls Try.prog 169 #[.agg #[.int .i64 x.k, .int .i64 x.s]] w fun e w' => e = .returned (.bool (!okNd x)) ∧ Keeps w w' := by
  go_enter Try.func169, Try.ntmps169
  go_wp2_with (go_at_call 170; refine (isNode_any x _).mono ?_; rintro e w' ⟨rfl, k1⟩)
  go_ret
  exact ⟨rfl, ((Keeps.refl w).alloc _).trans k1⟩
--
theorem enters_isFormula_1 : Enters 169 := fun _ _ => by kernel_rfl
theorem isFm_split (a : List Nd) : isFm a = (decide (1 ≤ a.length) && (decide (a.length ≤ 40) && (!(a.any fun x => !okNd x) && (skipInt 1 a 0 == (a.length : Int))))) := by
  unfold isFm isTree
  have : (!(a.any fun x => !okNd x)) = a.all okNd := by
    induction a with
    | nil => rfl
    | cons x l ih => simp [List.all_cons, List.any_cons, ← ih]
  rw [this]
  cases a.all okNd <;> simp
  by_cases h : 0 < a.length <;> simp [h]
  all_goals omega
set_option maxHeartbeats 400000 in
theorem isFormula_any (a : List Nd) (v : Value) (w : World) (hv : Nds w v a) :
    Calls Try.prog 150 #[v] w fun e w' => e = .returned (.bool (isFm a)) ∧ Keeps w w' := by
  have hsp := hid (isFm_split a)
  have hv0 := hv
  obtain ⟨p, cap, rfl, hle, hmx, hr, hlen⟩ := hv
  unfold maxLen at hmx
  clear hr
  by_cases h1 : 1 ≤ a.length
  · by_cases h40 : a.length ≤ 40
    · cases ho : a.any fun x => !okNd x
      all_goals
        have Ho := hid ho; clear ho
        go_enter Try.func150, Try.ntmps150
        go_wp2_with (first
          | (go_at_call 152; refine (containsFuncN (fun x => !okNd x) _ #[] a _ _ hv0 enters_isFormula_1 (fun x w1 _ _ => isFormula_1_any x w1)).mono ?_; rintro e w1 ⟨rfl, k1⟩; rw [Ho.out])
          | (go_at_call 171; refine (partEnd_any a _ _ _ (hv0.keeps k1) (by omega) (by omega)).mono ?_; rintro e w' ⟨rfl, rfl⟩))
        go_ret
        refine ⟨ret_bool ?_, k1⟩
        rw [hsp.out, Ho.out]
        simp [h1, h40]
    · go_enter Try.func150, Try.ntmps150
      go_wp2
      go_ret
      refine ⟨ret_bool ?_, Keeps.refl _⟩
      rw [hsp.out]; simp; omega
  · go_enter Try.func150, Try.ntmps150
    go_wp2
    go_ret
    refine ⟨ret_bool ?_, Keeps.refl _⟩
    rw [hsp.out]; simp; omega
def modalB (k : Int) : Bool := decide (k = 5 ∨ k = 6)
--
theorem isModal_any (x : Int) (w : World) : Calls Try.prog 154 #[.int .i64 x] w fun e w' => e = .returned (.bool (modalB x)) ∧ w = w' := by
  go_enter Try.func154, Try.ntmps154
  go_wp2
  all_goals go_ret
  all_goals exact ⟨ret_bool (by by_cases h5 : x = 5 <;> by_cases h6 : x = 6 <;> simp_all [modalB]), rfl⟩
--
theorem isPlain_1_any (x : Nd) (w : World) : Calls Try.prog 153 #[.agg #[.int .i64 x.k, .int .i64 x.s]] w fun e w' => e = .returned (.bool (modalB x.k)) ∧ Keeps w w' := by
  go_enter Try.func153, Try.ntmps153
  go_wp2_with (go_at_call 154; refine (isModal_any _ _).mono ?_; rintro e w' ⟨rfl, rfl⟩)
  go_ret
  exact ⟨rfl, (Keeps.refl w).alloc _⟩
theorem enters_isPlain_1 : Enters 153 := fun _ _ => by kernel_rfl
theorem plainL_any (a : List Nd) : (!(a.any fun x => modalB x.k)) = plainL a := by
  unfold plainL
  induction a with
  | nil => rfl
  | cons x l ih => simp only [List.all_cons, List.any_cons, ← ih]; by_cases h : x.k = 5 <;> by_cases h' : x.k = 6 <;> simp [h, h', modalB]
theorem isPlain_any (a : List Nd) (v : Value) (w : World) (hv : Nds w v a) :
    Calls Try.prog 98 #[v] w fun e w' => e = .returned (.bool (plainL a)) ∧ Keeps w w' := by
  have hp := hid (plainL_any a)
  go_enter Try.func98, Try.ntmps98
  go_wp2_with (go_at_call 152; refine (containsFuncN (fun x => modalB x.k) _ #[] a _ _ hv enters_isPlain_1 (fun x w1 _ _ => isPlain_1_any x w1)).mono ?_; rintro e w1 ⟨rfl, k1⟩)
  go_ret
  exact ⟨ret_bool hp.out, k1⟩
end Go.Proofs.Ytjmpiedjhdogeaa
