/- Plain mathematics of formulas as lists of nodes and as trees; no program in sight. -/
import Init
namespace Go.Proofs.YtgnlfceloiilbaaGreat
theorem take_set {α : Type} (xs : List α) (k : Nat) (y : α) (h : k < xs.length) : (xs.set k y).take (k + 1) = xs.take k ++ [y] := by
  induction xs generalizing k with
  | nil => simp at h
  | cons x l ih =>
    cases k with
    | zero => simp
    | succ k => simpa using ih k (by simpa using h)
structure Nd where
  k : Int
  s : Int
deriving DecidableEq
def partsOf (k : Int) : Nat := if k = 2 ∨ k = 3 ∨ k = 4 then 2 else if k = 5 ∨ k = 6 then 1 else 0
theorem partsOf_le (k : Int) : partsOf k ≤ 2 := by unfold partsOf; split; omega; split <;> omega
/-- skips `n` formulas -/
def skip : Nat → List Nd → Option (List Nd)
  | 0, l => some l
  | _ + 1, [] => none
  | n + 1, x :: l => skip (n + partsOf x.k) l
def skipInt (n : Nat) (a : List Nd) (i : Nat) : Int := match skip n (a.drop i) with | none => -1 | some r => a.length - r.length
theorem skip_step (n : Nat) (a : List Nd) (i : Nat) (h : i < a.length) : skipInt (n + 1) a i = skipInt (n + partsOf a[i].k) a (i + 1) := by
  unfold skipInt
  rw [List.drop_eq_getElem_cons h]
  rfl
theorem skip_end (n : Nat) (a : List Nd) (i : Nat) (h : a.length ≤ i) : skipInt (n + 1) a i = -1 := by
  unfold skipInt
  rw [List.drop_eq_nil_of_le h]
  rfl
theorem skip_zero (a : List Nd) (i : Nat) (h : i ≤ a.length) : skipInt 0 a i = i := by
  unfold skipInt
  simp [skip]; omega
def okNd (n : Nd) : Bool := if n.k = 0 then decide (0 ≤ n.s ∧ n.s ≤ 5) else decide (1 ≤ n.k ∧ n.k ≤ 6 ∧ n.s = 0)
def isTree (a : List Nd) : Bool := a.all okNd && (decide (0 < a.length) && (skipInt 1 a 0 == (a.length : Int)))
def isFm (a : List Nd) : Bool := decide (a.length ≤ 40) && isTree a
/-- formulas -/
inductive Fm where
  | var (v : Nat)
  | fls
  | and (a b : Fm)
  | or (a b : Fm)
  | imp (a b : Fm)
  | box (a : Fm)
  | dia (a : Fm)
deriving DecidableEq
namespace Fm
def enc : Fm → List Nd
  | var v => [⟨0, v⟩]
  | fls => [⟨1, 0⟩]
  | and a b => ⟨2, 0⟩ :: (a.enc ++ b.enc)
  | or a b => ⟨3, 0⟩ :: (a.enc ++ b.enc)
  | imp a b => ⟨4, 0⟩ :: (a.enc ++ b.enc)
  | box a => ⟨5, 0⟩ :: a.enc
  | dia a => ⟨6, 0⟩ :: a.enc
def wf : Fm → Prop
  | var v => v < 6
  | fls => True
  | and a b => a.wf ∧ b.wf
  | or a b => a.wf ∧ b.wf
  | imp a b => a.wf ∧ b.wf
  | box a => a.wf
  | dia a => a.wf
def plain : Fm → Bool
  | var _ => true
  | fls => true
  | and a b => a.plain && b.plain
  | or a b => a.plain && b.plain
  | imp a b => a.plain && b.plain
  | box _ => false
  | dia _ => false
def not (a : Fm) : Fm := imp a fls
def kind : Fm → Int
  | var _ => 0
  | fls => 1
  | and _ _ => 2
  | or _ _ => 3
  | imp _ _ => 4
  | box _ => 5
  | dia _ => 6
def sym : Fm → Int
  | var v => v
  | _ => 0
def tail : Fm → List Nd
  | var _ => []
  | fls => []
  | and a b => a.enc ++ b.enc
  | or a b => a.enc ++ b.enc
  | imp a b => a.enc ++ b.enc
  | box a => a.enc
  | dia a => a.enc
theorem enc_head (t : Fm) : t.enc = ⟨t.kind, t.sym⟩ :: t.tail := by cases t <;> rfl
def isFls : Fm → Bool
  | fls => true
  | _ => false
theorem kind_isFls (t : Fm) : (t.kind == 1) = t.isFls := by cases t <;> rfl
def isNeg : Fm → Bool
  | imp _ b => b.isFls
  | _ => false
def harrop : Fm → Bool
  | or _ _ => false
  | and a b => a.harrop && b.harrop
  | imp _ b => b.harrop
  | _ => true
def negative : Fm → Bool → Bool
  | or _ _, _ => false
  | var _, n => n
  | fls, _ => true
  | and a b, _ => a.negative false && b.negative false
  | imp a b, _ => a.negative b.isFls && b.negative false
  | box _, _ => false
  | dia _, _ => false
theorem enc_pos (t : Fm) : 0 < t.enc.length := by cases t <;> simp [enc]
end Fm
open Fm
theorem skip_enc (t : Fm) : ∀ (n : Nat) (r : List Nd), skip (n + 1) (t.enc ++ r) = skip n r := by
  induction t with
  | var v => intro n r; simp [enc, skip, partsOf]
  | fls => intro n r; simp [enc, skip, partsOf]
  | and a b iha ihb => intro n r; simp only [enc, List.cons_append, skip, List.append_assoc]; show skip ((n + 1) + 1) _ = _; rw [iha, ihb]
  | or a b iha ihb => intro n r; simp only [enc, List.cons_append, skip, List.append_assoc]; show skip ((n + 1) + 1) _ = _; rw [iha, ihb]
  | imp a b iha ihb => intro n r; simp only [enc, List.cons_append, skip, List.append_assoc]; show skip ((n + 1) + 1) _ = _; rw [iha, ihb]
  | box a iha => intro n r; simp [enc, skip, partsOf, iha]
  | dia a iha => intro n r; simp [enc, skip, partsOf, iha]
theorem skip_one (t : Fm) (r : List Nd) : skip 1 (t.enc ++ r) = some r := by rw [show (1 : Nat) = 0 + 1 from rfl, skip_enc]; cases r <;> rfl
theorem skip_trees : ∀ (l : List Nd) (n : Nat) (r : List Nd), (∀ x ∈ l, okNd x = true) → skip n l = some r →
    ∃ ts : List Fm, ts.length = n ∧ (∀ t ∈ ts, t.wf) ∧ l = ts.flatMap enc ++ r := by
  intro l
  induction l with
  | nil =>
    intro n r _ h
    cases n with
    | zero => simp [skip] at h; subst h; exact ⟨[], rfl, by simp, by simp⟩
    | succ n => simp [skip] at h
  | cons x l ih =>
    intro n r ho h
    cases n with
    | zero => simp [skip] at h; subst h; exact ⟨[], rfl, by simp, by simp⟩
    | succ n =>
      simp only [skip] at h
      obtain ⟨ts, hl, hw, he⟩ := ih _ _ (fun y hy => ho y (List.mem_cons_of_mem _ hy)) h
      have hx := ho x (List.mem_cons_self ..)
      obtain ⟨k, s⟩ := x
      unfold okNd at hx
      simp only at hx hl
      by_cases h0 : k = 0
      · subst h0
        simp at hx
        obtain ⟨v, rfl⟩ := Int.eq_ofNat_of_zero_le hx.1
        exact ⟨var v :: ts, by simp [partsOf] at hl; simp [hl], by simpa [wf] using ⟨by omega, hw⟩, by simp [enc, he]⟩
      · rw [if_neg h0] at hx
        simp at hx
        obtain ⟨h1, h6, rfl⟩ := hx
        have hk : k = 1 ∨ k = 2 ∨ k = 3 ∨ k = 4 ∨ k = 5 ∨ k = 6 := by omega
        rcases hk with rfl | rfl | rfl | rfl | rfl | rfl
        · exact ⟨fls :: ts, by simp [partsOf] at hl; simp [hl], by simpa [wf] using hw, by simp [enc, he]⟩
        · simp [partsOf] at hl
          match ts, hl, hw, he with
          | a :: b :: ts, hl, hw, he =>
            simp at hw
            exact ⟨and a b :: ts, by simpa using hl, by simpa [wf] using ⟨⟨hw.1, hw.2.1⟩, hw.2.2⟩, by simp [enc, he]⟩
        · simp [partsOf] at hl
          match ts, hl, hw, he with
          | a :: b :: ts, hl, hw, he =>
            simp at hw
            exact ⟨or a b :: ts, by simpa using hl, by simpa [wf] using ⟨⟨hw.1, hw.2.1⟩, hw.2.2⟩, by simp [enc, he]⟩
        · simp [partsOf] at hl
          match ts, hl, hw, he with
          | a :: b :: ts, hl, hw, he =>
            simp at hw
            exact ⟨imp a b :: ts, by simpa using hl, by simpa [wf] using ⟨⟨hw.1, hw.2.1⟩, hw.2.2⟩, by simp [enc, he]⟩
        · simp [partsOf] at hl
          match ts, hl, hw, he with
          | a :: ts, hl, hw, he =>
            simp at hw
            exact ⟨box a :: ts, by simpa using hl, by simpa [wf] using hw, by simp [enc, he]⟩
        · simp [partsOf] at hl
          match ts, hl, hw, he with
          | a :: ts, hl, hw, he =>
            simp at hw
            exact ⟨dia a :: ts, by simpa using hl, by simpa [wf] using hw, by simp [enc, he]⟩
theorem isTree_enc {a : List Nd} (h : isTree a = true) : ∃ t : Fm, t.wf ∧ a = t.enc := by
  simp only [isTree, Bool.and_eq_true, List.all_eq_true, decide_eq_true_eq, beq_iff_eq] at h
  obtain ⟨ho, hp, hs⟩ := h
  unfold skipInt at hs
  simp only [List.drop_zero] at hs
  cases hk : skip 1 a with
  | none => simp only [hk] at hs; omega
  | some r =>
    simp [hk] at hs
    have hr : r = [] := by apply List.eq_nil_of_length_eq_zero; omega
    subst hr
    obtain ⟨ts, hl, hw, he⟩ := skip_trees a 1 [] ho hk
    match ts, hl with
    | [t], _ => exact ⟨t, hw t (by simp), by simpa using he⟩
theorem okNd_enc {t : Fm} (h : t.wf) : ∀ x ∈ t.enc, okNd x = true := by
  induction t with
  | var v => intro x hx; simp [enc] at hx; subst hx; simp [wf] at h; simp [okNd]; omega
  | fls => intro x hx; simp [enc] at hx; subst hx; simp [okNd]
  | and a b iha ihb => intro x hx; simp [enc] at hx; simp [wf] at h; rcases hx with rfl | hx | hx; simp [okNd]; exact iha h.1 x hx; exact ihb h.2 x hx
  | or a b iha ihb => intro x hx; simp [enc] at hx; simp [wf] at h; rcases hx with rfl | hx | hx; simp [okNd]; exact iha h.1 x hx; exact ihb h.2 x hx
  | imp a b iha ihb => intro x hx; simp [enc] at hx; simp [wf] at h; rcases hx with rfl | hx | hx; simp [okNd]; exact iha h.1 x hx; exact ihb h.2 x hx
  | box a iha => intro x hx; simp [enc] at hx; rcases hx with rfl | hx; simp [okNd]; exact iha h x hx
  | dia a iha => intro x hx; simp [enc] at hx; rcases hx with rfl | hx; simp [okNd]; exact iha h x hx
theorem isTree_of_enc {t : Fm} (h : t.wf) : isTree t.enc = true := by
  have h1 := skip_one t []
  simp only [List.append_nil] at h1
  simp only [isTree, Bool.and_eq_true, List.all_eq_true, decide_eq_true_eq, beq_iff_eq]
  exact ⟨okNd_enc h, enc_pos t, by simp [skipInt, h1]⟩
theorem skipInt_enc (l : List Nd) (t : Fm) (r : List Nd) : skipInt 1 (l ++ (t.enc ++ r)) l.length = l.length + t.enc.length := by
  unfold skipInt
  simp [skip_one]; omega
end Go.Proofs.YtgnlfceloiilbaaGreat
/- Plain law: the text of a formula at each level of the grammar, and how a reader's contracts for all levels follow from those for its parts. -/
namespace Go.Proofs.YtgnlfceloiilbaaGreat
open Fm
namespace Fm
/-- the level of the grammar at which the text of a formula stands -/
def lev : Fm → Nat
  | .imp _ b => if b.isFls then 3 else 0
  | .or _ _ => 1
  | .and _ _ => 2
  | _ => 3
/-- a text in parentheses, if they are needed -/
def par (b : Bool) (s : List UInt8) : List UInt8 := if b then 40 :: (s ++ [41]) else s
/-- the text of a formula without parentheses of its own -/
def body : Fm → List UInt8
  | .var v => [UInt8.ofNat (112 + v)]
  | .fls => [70]
  | .and a b => par (decide (a.lev < 2)) a.body ++ 38 :: par (decide (b.lev < 3)) b.body
  | .or a b => par (decide (a.lev < 1)) a.body ++ 124 :: par (decide (b.lev < 2)) b.body
  | .imp a b => if b.isFls then (if a.isFls then [84] else 126 :: par (decide (a.lev < 3)) a.body) else par (decide (a.lev < 1)) a.body ++ 62 :: b.body
  | .box a => 91 :: 93 :: par (decide (a.lev < 3)) a.body
  | .dia a => 60 :: 62 :: par (decide (a.lev < 3)) a.body
/-- the text of a formula at a level -/
def txt (t : Fm) (l : Nat) : List UInt8 := par (decide (t.lev < l)) t.body
theorem txt0 (t : Fm) : t.txt 0 = t.body := by simp [txt, par]
theorem lev_le (t : Fm) : t.lev ≤ 3 := by
  cases t <;> simp only [lev] <;> (try split) <;> omega
theorem txt_eq (t : Fm) (l m : Nat) (h : t.lev < l ↔ t.lev < m) : t.txt l = t.txt m := by
  unfold txt; rw [show decide (t.lev < l) = decide (t.lev < m) from decide_eq_decide.2 h]
def andHead : Fm → Fm
  | .and a _ => a.andHead
  | t => t
def andTail : Fm → List Fm
  | .and a b => a.andTail ++ [b]
  | _ => []
def orHead : Fm → Fm
  | .or a _ => a.orHead
  | t => t
def orTail : Fm → List Fm
  | .or a b => a.orTail ++ [b]
  | _ => []
/-- texts behind a byte each -/
def behind (c : UInt8) (l : Nat) : List Fm → List UInt8
  | [] => []
  | x :: xs => c :: (x.txt l ++ behind c l xs)
theorem behind_append (c : UInt8) (l : Nat) (xs ys : List Fm) : behind c l (xs ++ ys) = behind c l xs ++ behind c l ys := by
  induction xs with
  | nil => rfl
  | cons x xs ih => simp [behind, ih]
theorem and_fold (t : Fm) : t.andTail.foldl Fm.and t.andHead = t := by
  induction t with
  | and a b iha _ => simp [andTail, andHead, List.foldl_append, iha]
  | _ => rfl
theorem or_fold (t : Fm) : t.orTail.foldl Fm.or t.orHead = t := by
  induction t with
  | or a b iha _ => simp [orTail, orHead, List.foldl_append, iha]
  | _ => rfl
theorem and_txt (t : Fm) : t.txt 2 = t.andHead.txt 3 ++ behind 38 3 t.andTail := by
  induction t with
  | and a b iha _ =>
    have h : (Fm.and a b).txt 2 = a.txt 2 ++ 38 :: b.txt 3 := by simp [txt, body, par, lev]
    rw [h, iha]
    simp [andTail, andHead, behind_append, behind]
  | var v => simp [andTail, andHead, behind]; exact txt_eq _ _ _ (by simp [lev])
  | fls => simp [andTail, andHead, behind]; exact txt_eq _ _ _ (by simp [lev])
  | or a b _ _ => simp [andTail, andHead, behind]; exact txt_eq _ _ _ (by simp [lev])
  | imp a b _ _ => simp [andTail, andHead, behind]; exact txt_eq _ _ _ (by simp only [lev]; split <;> omega)
  | box a _ => simp [andTail, andHead, behind]; exact txt_eq _ _ _ (by simp [lev])
  | dia a _ => simp [andTail, andHead, behind]; exact txt_eq _ _ _ (by simp [lev])
theorem or_txt (t : Fm) : t.txt 1 = t.orHead.txt 2 ++ behind 124 2 t.orTail := by
  induction t with
  | or a b iha _ =>
    have h : (Fm.or a b).txt 1 = a.txt 1 ++ 124 :: b.txt 2 := by simp [txt, body, par, lev]
    rw [h, iha]
    simp [orTail, orHead, behind_append, behind]
  | var v => simp [orTail, orHead, behind]; exact txt_eq _ _ _ (by simp [lev])
  | fls => simp [orTail, orHead, behind]; exact txt_eq _ _ _ (by simp [lev])
  | and a b _ _ => simp [orTail, orHead, behind]; exact txt_eq _ _ _ (by simp [lev])
  | imp a b _ _ => simp [orTail, orHead, behind]; exact txt_eq _ _ _ (by simp only [lev]; split <;> omega)
  | box a _ => simp [orTail, orHead, behind]; exact txt_eq _ _ _ (by simp [lev])
  | dia a _ => simp [orTail, orHead, behind]; exact txt_eq _ _ _ (by simp [lev])
theorem and_parts (t : Fm) : (t.lev = 2 → ∀ x ∈ t.andHead :: t.andTail, x.enc.length < t.enc.length) ∧ (∀ x ∈ t.andHead :: t.andTail, x.enc.length ≤ t.enc.length) := by
  induction t with
  | and a b iha _ =>
    have h : ∀ x ∈ (Fm.and a b).andHead :: (Fm.and a b).andTail, x.enc.length < (Fm.and a b).enc.length := by
      intro x hx
      simp only [andHead, andTail, List.mem_cons, List.mem_append] at hx
      have := iha.2
      simp only [enc, List.length_cons, List.length_append]
      rcases hx with rfl | hx | rfl | hx
      · have := this _ (List.mem_cons_self ..); omega
      · have := this _ (List.mem_cons_of_mem _ hx); omega
      · omega
      · cases hx
    exact ⟨fun _ => h, fun x hx => Nat.le_of_lt (h x hx)⟩
  | imp a b _ _ => exact ⟨fun h => by simp only [lev] at h; split at h <;> omega, fun x hx => by simp [andHead, andTail] at hx; subst hx; exact Nat.le_refl _⟩
  | _ => exact ⟨fun h => by simp [lev] at h, fun x hx => by simp [andHead, andTail] at hx; subst hx; exact Nat.le_refl _⟩
theorem or_parts (t : Fm) : (t.lev = 1 → ∀ x ∈ t.orHead :: t.orTail, x.enc.length < t.enc.length) ∧ (∀ x ∈ t.orHead :: t.orTail, x.enc.length ≤ t.enc.length) := by
  induction t with
  | or a b iha _ =>
    have h : ∀ x ∈ (Fm.or a b).orHead :: (Fm.or a b).orTail, x.enc.length < (Fm.or a b).enc.length := by
      intro x hx
      simp only [orHead, orTail, List.mem_cons, List.mem_append] at hx
      have := iha.2
      simp only [enc, List.length_cons, List.length_append]
      rcases hx with rfl | hx | rfl | hx
      · have := this _ (List.mem_cons_self ..); omega
      · have := this _ (List.mem_cons_of_mem _ hx); omega
      · omega
      · cases hx
    exact ⟨fun _ => h, fun x hx => Nat.le_of_lt (h x hx)⟩
  | imp a b _ _ => exact ⟨fun h => by simp only [lev] at h; split at h <;> omega, fun x hx => by simp [orHead, orTail] at hx; subst hx; exact Nat.le_refl _⟩
  | _ => exact ⟨fun h => by simp [lev] at h, fun x hx => by simp [orHead, orTail] at hx; subst hx; exact Nat.le_refl _⟩
theorem and_wf (t : Fm) (h : t.wf) : ∀ x ∈ t.andHead :: t.andTail, x.wf := by
  induction t with
  | and a b iha _ =>
    intro x hx
    simp only [andHead, andTail, List.mem_cons, List.mem_append] at hx
    have := iha h.1
    rcases hx with rfl | hx | rfl | hx
    · exact this _ (List.mem_cons_self ..)
    · exact this _ (List.mem_cons_of_mem _ hx)
    · exact h.2
    · cases hx
  | _ => intro x hx; simp [andHead, andTail] at hx; subst hx; exact h
theorem or_wf (t : Fm) (h : t.wf) : ∀ x ∈ t.orHead :: t.orTail, x.wf := by
  induction t with
  | or a b iha _ =>
    intro x hx
    simp only [orHead, orTail, List.mem_cons, List.mem_append] at hx
    have := iha h.1
    rcases hx with rfl | hx | rfl | hx
    · exact this _ (List.mem_cons_self ..)
    · exact this _ (List.mem_cons_of_mem _ hx)
    · exact h.2
    · cases hx
  | _ => intro x hx; simp [orHead, orTail] at hx; subst hx; exact h
end Fm
/-- what a reader's contract says of a formula at a level, for a list of bytes: `R level t bytes` -/
theorem reads_all (R : Nat → Fm → List UInt8 → Prop)
    (h3 : ∀ t : Fm, t.wf → t.lev = 3 → (∀ x : Fm, x.wf → x.enc.length < t.enc.length → R 3 x (x.txt 3)) → R 3 t t.body)
    (hp : ∀ t : Fm, R 0 t t.body → R 3 t (40 :: (t.body ++ [41])))
    (h2 : ∀ x0 xs, R 3 x0 (x0.txt 3) → (∀ x ∈ xs, R 3 x (x.txt 3)) → R 2 (xs.foldl Fm.and x0) (x0.txt 3 ++ behind 38 3 xs))
    (h1 : ∀ x0 xs, R 2 x0 (x0.txt 2) → (∀ x ∈ xs, R 2 x (x.txt 2)) → R 1 (xs.foldl Fm.or x0) (x0.txt 2 ++ behind 124 2 xs))
    (h0 : ∀ t X, R 1 t X → R 0 t X)
    (hi : ∀ a b, R 1 a (a.txt 1) → R 0 b b.body → R 0 (Fm.imp a b) (a.txt 1 ++ 62 :: b.body)) :
    ∀ (n : Nat) (t : Fm), t.enc.length ≤ n → t.wf → R 0 t (t.txt 0) ∧ R 1 t (t.txt 1) ∧ R 2 t (t.txt 2) ∧ R 3 t (t.txt 3) := by
  intro n
  induction n with
  | zero => intro t h; have := t.enc_pos; omega
  | succ n ih =>
    intro t hn hw
    have sm : ∀ x : Fm, x.wf → x.enc.length < t.enc.length → R 0 x (x.txt 0) ∧ R 1 x (x.txt 1) ∧ R 2 x (x.txt 2) ∧ R 3 x (x.txt 3) := fun x hx hl => ih x (by omega) hx
    have s2 : (∀ x ∈ t.andHead :: t.andTail, R 3 x (x.txt 3)) → R 2 t (t.txt 2) := fun h => by
      have := h2 t.andHead t.andTail (h _ (List.mem_cons_self ..)) (fun x hx => h x (List.mem_cons_of_mem _ hx))
      rwa [and_fold, ← and_txt] at this
    have s1 : (∀ x ∈ t.orHead :: t.orTail, R 2 x (x.txt 2)) → R 1 t (t.txt 1) := fun h => by
      have := h1 t.orHead t.orTail (h _ (List.mem_cons_self ..)) (fun x hx => h x (List.mem_cons_of_mem _ hx))
      rwa [or_fold, ← or_txt] at this
    have hle := t.lev_le
    have up2 : t.lev ≠ 2 → R 3 t (t.txt 3) → R 2 t (t.txt 2) := fun hl h => by
      apply s2
      intro x hx
      have hx' : x = t := by
        cases t with
        | and a b => exact absurd rfl hl
        | _ => simp [andHead, andTail] at hx; exact hx
      subst hx'; exact h
    have up1 : t.lev ≠ 1 → R 2 t (t.txt 2) → R 1 t (t.txt 1) := fun hl h => by
      apply s1
      intro x hx
      have hx' : x = t := by
        cases t with
        | or a b => exact absurd rfl hl
        | _ => simp [orHead, orTail] at hx; exact hx
      subst hx'; exact h
    have up0 : t.lev ≠ 0 → R 1 t (t.txt 1) → R 0 t (t.txt 0) := fun hl h => by
      rw [txt_eq t 0 1 (by omega)]
      exact h0 _ _ h
    have dn : t.lev < 3 → R 0 t (t.txt 0) → R 3 t (t.txt 3) := fun hl h => by
      rw [txt0] at h
      have := hp t h
      unfold txt par
      rw [decide_eq_true hl]
      simpa using this
    by_cases e3 : t.lev = 3
    · have r3 : R 3 t (t.txt 3) := by
        have := h3 t hw e3 (fun x hx hl => (sm x hx hl).2.2.2)
        unfold txt par
        rw [decide_eq_false (by omega)]
        simpa using this
      have r2 := up2 (by omega) r3
      have r1 := up1 (by omega) r2
      exact ⟨up0 (by omega) r1, r1, r2, r3⟩
    by_cases e2 : t.lev = 2
    · have r2 := s2 (fun x hx => (sm x (t.and_wf hw x hx) (t.and_parts.1 e2 x hx)).2.2.2)
      have r1 := up1 (by omega) r2
      have r0 := up0 (by omega) r1
      exact ⟨r0, r1, r2, dn (by omega) r0⟩
    by_cases e1 : t.lev = 1
    · have r1 := s1 (fun x hx => (sm x (t.or_wf hw x hx) (t.or_parts.1 e1 x hx)).2.2.1)
      have r0 := up0 (by omega) r1
      have r3 := dn (by omega) r0
      exact ⟨r0, r1, up2 (by omega) r3, r3⟩
    · have r0 : R 0 t (t.txt 0) := by
        have hz : t.lev = 0 := by omega
        cases t with
        | imp a b =>
          have hb : b.isFls = false := by
            simp only [lev] at hz; split at hz
            · omega
            · simpa using ‹¬ b.isFls = true›
          have ra := (sm a hw.1 (by simp only [enc, List.length_cons, List.length_append]; omega)).2.1
          have rb := (sm b hw.2 (by simp only [enc, List.length_cons, List.length_append]; omega)).1
          rw [txt0] at rb
          have := hi a b ra rb
          rw [txt0]
          simp only [body, hb]
          simpa [txt] using this
        | _ => simp [lev] at hz
      have r3 := dn (by omega) r0
      have r2 := up2 (by omega) r3
      exact ⟨r0, up1 (by omega) r2, r2, r3⟩
end Go.Proofs.YtgnlfceloiilbaaGreat
