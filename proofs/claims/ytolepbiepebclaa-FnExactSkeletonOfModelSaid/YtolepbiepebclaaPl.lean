/- Plain mathematics of formulas as lists of nodes and as trees; no program in sight. -/
import Init
namespace Go.Proofs.Ytolepbiepebclaa
theorem take_set {α : Type} (xs : List α) (k : Nat) (y : α) (h : k < xs.length) : (xs.set k y).take (k + 1) = xs.take k ++ [y] := by
  induction xs generalizing k with
  | nil => simp at h
  | cons x l ih =>
    cases k with
    | zero => simp
    | succ k => simpa using ih k (by simpa using h)
structure Nd where
  k : Int
  s : Int
deriving DecidableEq
def partsOf (k : Int) : Nat := if k = 2 ∨ k = 3 ∨ k = 4 then 2 else if k = 5 ∨ k = 6 then 1 else 0
theorem partsOf_le (k : Int) : partsOf k ≤ 2 := by unfold partsOf; split; omega; split <;> omega
/-- skips `n` formulas -/
def skip : Nat → List Nd → Option (List Nd)
  | 0, l => some l
  | _ + 1, [] => none
  | n + 1, x :: l => skip (n + partsOf x.k) l
def skipInt (n : Nat) (a : List Nd) (i : Nat) : Int := match skip n (a.drop i) with | none => -1 | some r => a.length - r.length
theorem skip_step (n : Nat) (a : List Nd) (i : Nat) (h : i < a.length) : skipInt (n + 1) a i = skipInt (n + partsOf a[i].k) a (i + 1) := by
  unfold skipInt
  rw [List.drop_eq_getElem_cons h]
  rfl
theorem skip_end (n : Nat) (a : List Nd) (i : Nat) (h : a.length ≤ i) : skipInt (n + 1) a i = -1 := by
  unfold skipInt
  rw [List.drop_eq_nil_of_le h]
  rfl
theorem skip_zero (a : List Nd) (i : Nat) (h : i ≤ a.length) : skipInt 0 a i = i := by
  unfold skipInt
  simp [skip]; omega
def okNd (n : Nd) : Bool := if n.k = 0 then decide (0 ≤ n.s ∧ n.s ≤ 5) else decide (1 ≤ n.k ∧ n.k ≤ 6 ∧ n.s = 0)
def isTree (a : List Nd) : Bool := a.all okNd && (decide (0 < a.length) && (skipInt 1 a 0 == (a.length : Int)))
def isFm (a : List Nd) : Bool := decide (a.length ≤ 40) && isTree a
/-- formulas -/
inductive Fm where
  | var (v : Nat)
  | fls
  | and (a b : Fm)
  | or (a b : Fm)
  | imp (a b : Fm)
  | box (a : Fm)
  | dia (a : Fm)
deriving DecidableEq
namespace Fm
def enc : Fm → List Nd
  | var v => [⟨0, v⟩]
  | fls => [⟨1, 0⟩]
  | and a b => ⟨2, 0⟩ :: (a.enc ++ b.enc)
  | or a b => ⟨3, 0⟩ :: (a.enc ++ b.enc)
  | imp a b => ⟨4, 0⟩ :: (a.enc ++ b.enc)
  | box a => ⟨5, 0⟩ :: a.enc
  | dia a => ⟨6, 0⟩ :: a.enc
def wf : Fm → Prop
  | var v => v < 6
  | fls => True
  | and a b => a.wf ∧ b.wf
  | or a b => a.wf ∧ b.wf
  | imp a b => a.wf ∧ b.wf
  | box a => a.wf
  | dia a => a.wf
def plain : Fm → Bool
  | var _ => true
  | fls => true
  | and a b => a.plain && b.plain
  | or a b => a.plain && b.plain
  | imp a b => a.plain && b.plain
  | box _ => false
  | dia _ => false
def not (a : Fm) : Fm := imp a fls
def kind : Fm → Int
  | var _ => 0
  | fls => 1
  | and _ _ => 2
  | or _ _ => 3
  | imp _ _ => 4
  | box _ => 5
  | dia _ => 6
def sym : Fm → Int
  | var v => v
  | _ => 0
def tail : Fm → List Nd
  | var _ => []
  | fls => []
  | and a b => a.enc ++ b.enc
  | or a b => a.enc ++ b.enc
  | imp a b => a.enc ++ b.enc
  | box a => a.enc
  | dia a => a.enc
theorem enc_head (t : Fm) : t.enc = ⟨t.kind, t.sym⟩ :: t.tail := by cases t <;> rfl
def isFls : Fm → Bool
  | fls => true
  | _ => false
theorem kind_isFls (t : Fm) : (t.kind == 1) = t.isFls := by cases t <;> rfl
def isNeg : Fm → Bool
  | imp _ b => b.isFls
  | _ => false
def harrop : Fm → Bool
  | or _ _ => false
  | and a b => a.harrop && b.harrop
  | imp _ b => b.harrop
  | _ => true
def negative : Fm → Bool → Bool
  | or _ _, _ => false
  | var _, n => n
  | fls, _ => true
  | and a b, _ => a.negative false && b.negative false
  | imp a b, _ => a.negative b.isFls && b.negative false
  | box _, _ => false
  | dia _, _ => false
theorem enc_pos (t : Fm) : 0 < t.enc.length := by cases t <;> simp [enc]
end Fm
open Fm
theorem skip_enc (t : Fm) : ∀ (n : Nat) (r : List Nd), skip (n + 1) (t.enc ++ r) = skip n r := by
  induction t with
  | var v => intro n r; simp [enc, skip, partsOf]
  | fls => intro n r; simp [enc, skip, partsOf]
  | and a b iha ihb => intro n r; simp only [enc, List.cons_append, skip, List.append_assoc]; show skip ((n + 1) + 1) _ = _; rw [iha, ihb]
  | or a b iha ihb => intro n r; simp only [enc, List.cons_append, skip, List.append_assoc]; show skip ((n + 1) + 1) _ = _; rw [iha, ihb]
  | imp a b iha ihb => intro n r; simp only [enc, List.cons_append, skip, List.append_assoc]; show skip ((n + 1) + 1) _ = _; rw [iha, ihb]
  | box a iha => intro n r; simp [enc, skip, partsOf, iha]
  | dia a iha => intro n r; simp [enc, skip, partsOf, iha]
theorem skip_one (t : Fm) (r : List Nd) : skip 1 (t.enc ++ r) = some r := by rw [show (1 : Nat) = 0 + 1 from rfl, skip_enc]; cases r <;> rfl
theorem skip_trees : ∀ (l : List Nd) (n : Nat) (r : List Nd), (∀ x ∈ l, okNd x = true) → skip n l = some r →
    ∃ ts : List Fm, ts.length = n ∧ (∀ t ∈ ts, t.wf) ∧ l = ts.flatMap enc ++ r := by
  intro l
  induction l with
  | nil =>
    intro n r _ h
    cases n with
    | zero => simp [skip] at h; subst h; exact ⟨[], rfl, by simp, by simp⟩
    | succ n => simp [skip] at h
  | cons x l ih =>
    intro n r ho h
    cases n with
    | zero => simp [skip] at h; subst h; exact ⟨[], rfl, by simp, by simp⟩
    | succ n =>
      simp only [skip] at h
      obtain ⟨ts, hl, hw, he⟩ := ih _ _ (fun y hy => ho y (List.mem_cons_of_mem _ hy)) h
      have hx := ho x (List.mem_cons_self ..)
      obtain ⟨k, s⟩ := x
      unfold okNd at hx
      simp only at hx hl
      by_cases h0 : k = 0
      · subst h0
        simp at hx
        obtain ⟨v, rfl⟩ := Int.eq_ofNat_of_zero_le hx.1
        exact ⟨var v :: ts, by simp [partsOf] at hl; simp [hl], by simpa [wf] using ⟨by omega, hw⟩, by simp [enc, he]⟩
      · rw [if_neg h0] at hx
        simp at hx
        obtain ⟨h1, h6, rfl⟩ := hx
        have hk : k = 1 ∨ k = 2 ∨ k = 3 ∨ k = 4 ∨ k = 5 ∨ k = 6 := by omega
        rcases hk with rfl | rfl | rfl | rfl | rfl | rfl
        · exact ⟨fls :: ts, by simp [partsOf] at hl; simp [hl], by simpa [wf] using hw, by simp [enc, he]⟩
        · simp [partsOf] at hl
          match ts, hl, hw, he with
          | a :: b :: ts, hl, hw, he =>
            simp at hw
            exact ⟨and a b :: ts, by simpa using hl, by simpa [wf] using ⟨⟨hw.1, hw.2.1⟩, hw.2.2⟩, by simp [enc, he]⟩
        · simp [partsOf] at hl
          match ts, hl, hw, he with
          | a :: b :: ts, hl, hw, he =>
            simp at hw
            exact ⟨or a b :: ts, by simpa using hl, by simpa [wf] using ⟨⟨hw.1, hw.2.1⟩, hw.2.2⟩, by simp [enc, he]⟩
        · simp [partsOf] at hl
          match ts, hl, hw, he with
          | a :: b :: ts, hl, hw, he =>
            simp at hw
            exact ⟨imp a b :: ts, by simpa using hl, by simpa [wf] using ⟨⟨hw.1, hw.2.1⟩, hw.2.2⟩, by simp [enc, he]⟩
        · simp [partsOf] at hl
          match ts, hl, hw, he with
          | a :: ts, hl, hw, he =>
            simp at hw
            exact ⟨box a :: ts, by simpa using hl, by simpa [wf] using hw, by simp [enc, he]⟩
        · simp [partsOf] at hl
          match ts, hl, hw, he with
          | a :: ts, hl, hw, he =>
            simp at hw
            exact ⟨dia a :: ts, by simpa using hl, by simpa [wf] using hw, by simp [enc, he]⟩
theorem isTree_enc {a : List Nd} (h : isTree a = true) : ∃ t : Fm, t.wf ∧ a = t.enc := by
  simp only [isTree, Bool.and_eq_true, List.all_eq_true, decide_eq_true_eq, beq_iff_eq] at h
  obtain ⟨ho, hp, hs⟩ := h
  unfold skipInt at hs
  simp only [List.drop_zero] at hs
  cases hk : skip 1 a with
  | none => simp only [hk] at hs; omega
  | some r =>
    simp [hk] at hs
    have hr : r = [] := by apply List.eq_nil_of_length_eq_zero; omega
    subst hr
    obtain ⟨ts, hl, hw, he⟩ := skip_trees a 1 [] ho hk
    match ts, hl with
    | [t], _ => exact ⟨t, hw t (by simp), by simpa using he⟩
theorem okNd_enc {t : Fm} (h : t.wf) : ∀ x ∈ t.enc, okNd x = true := by
  induction t with
  | var v => intro x hx; simp [enc] at hx; subst hx; simp [wf] at h; simp [okNd]; omega
  | fls => intro x hx; simp [enc] at hx; subst hx; simp [okNd]
  | and a b iha ihb => intro x hx; simp [enc] at hx; simp [wf] at h; rcases hx with rfl | hx | hx; simp [okNd]; exact iha h.1 x hx; exact ihb h.2 x hx
  | or a b iha ihb => intro x hx; simp [enc] at hx; simp [wf] at h; rcases hx with rfl | hx | hx; simp [okNd]; exact iha h.1 x hx; exact ihb h.2 x hx
  | imp a b iha ihb => intro x hx; simp [enc] at hx; simp [wf] at h; rcases hx with rfl | hx | hx; simp [okNd]; exact iha h.1 x hx; exact ihb h.2 x hx
  | box a iha => intro x hx; simp [enc] at hx; rcases hx with rfl | hx; simp [okNd]; exact iha h x hx
  | dia a iha => intro x hx; simp [enc] at hx; rcases hx with rfl | hx; simp [okNd]; exact iha h x hx
theorem isTree_of_enc {t : Fm} (h : t.wf) : isTree t.enc = true := by
  have h1 := skip_one t []
  simp only [List.append_nil] at h1
  simp only [isTree, Bool.and_eq_true, List.all_eq_true, decide_eq_true_eq, beq_iff_eq]
  exact ⟨okNd_enc h, enc_pos t, by simp [skipInt, h1]⟩
theorem skipInt_enc (l : List Nd) (t : Fm) (r : List Nd) : skipInt 1 (l ++ (t.enc ++ r)) l.length = l.length + t.enc.length := by
  unfold skipInt
  simp [skip_one]; omega
end Go.Proofs.Ytolepbiepebclaa
