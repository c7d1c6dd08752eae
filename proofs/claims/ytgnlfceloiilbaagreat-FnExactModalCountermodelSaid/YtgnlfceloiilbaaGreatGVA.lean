/- Plain law: a text belongs to one formula alone; how long texts are. -/
import Derived.Test.YtgnlfceloiilbaaGreatGP6
import Derived.Test.YtgnlfceloiilbaaGreatGP1
import Derived.Test.YtgnlfceloiilbaaGreatGW7
namespace Go.Proofs.YtgnlfceloiilbaaGreat
open Fm
/-- a reader in plain Lean: levels 0 to 3 of the grammar, 4 and 5 for the loops of & and | -/
def prs : Nat → Nat → Fm → List UInt8 → Option (Fm × List UInt8)
  | 0, _, _, _ => none
  | n + 1, 0, _, X => match prs n 1 fls X with
    | some (a, 62 :: r) => (match prs n 0 fls r with | some (b, r') => some (imp a b, r') | none => none)
    | some (a, r) => some (a, r)
    | none => none
  | n + 1, 1, _, X => match prs n 2 fls X with | some (a, r) => prs n 5 a r | none => none
  | n + 1, 2, _, X => match prs n 3 fls X with | some (a, r) => prs n 4 a r | none => none
  | n + 1, 3, _, X => match X with
    | 126 :: r => (match prs n 3 fls r with | some (a, r') => some (imp a fls, r') | none => none)
    | 91 :: 93 :: r => (match prs n 3 fls r with | some (a, r') => some (box a, r') | none => none)
    | 60 :: 62 :: r => (match prs n 3 fls r with | some (a, r') => some (dia a, r') | none => none)
    | 70 :: r => some (fls, r)
    | 84 :: r => some (imp fls fls, r)
    | 40 :: r => (match prs n 0 fls r with | some (a, 41 :: r') => some (a, r') | _ => none)
    | c :: r => if 112 ≤ c.toNat ∧ c.toNat < 118 then some (var (c.toNat - 112), r) else none
    | [] => none
  | n + 1, 4, acc, X => match X with
    | 38 :: r => (match prs n 3 fls r with | some (b, r') => prs n 4 (.and acc b) r' | none => none)
    | r => some (acc, r)
  | n + 1, _, acc, X => match X with
    | 124 :: r => (match prs n 2 fls r with | some (b, r') => prs n 5 (.or acc b) r' | none => none)
    | r => some (acc, r)
def Prs (l : Nat) (t : Fm) (X : List UInt8) : Prop := ∃ N, ∀ n, N ≤ n → ∀ r, stops l r → prs n l fls (X ++ r) = some (t, r)
theorem prs4_end (n : Nat) (acc : Fm) (r : List UInt8) (h : r.head? ≠ some 38) : prs (n + 1) 4 acc r = some (acc, r) := by
  cases r with
  | nil => rfl
  | cons c r =>
    have hc : c ≠ 38 := fun e => h (by rw [e]; rfl)
    simp [prs, hc]
theorem prs5_end (n : Nat) (acc : Fm) (r : List UInt8) (h : r.head? ≠ some 124) : prs (n + 1) 5 acc r = some (acc, r) := by
  cases r with
  | nil => rfl
  | cons c r =>
    have hc : c ≠ 124 := fun e => h (by rw [e]; rfl)
    simp [prs, hc]
theorem prs4_all (xs : List Fm) : ∀ acc, (∀ x ∈ xs, Prs 3 x (x.txt 3)) → ∃ N, ∀ n, N ≤ n → ∀ r, stops 2 r → prs n 4 acc (behind 38 3 xs ++ r) = some (xs.foldl Fm.and acc, r) := by
  induction xs with
  | nil =>
    intro acc _
    refine ⟨1, fun n hn r hr => ?_⟩
    obtain ⟨m, rfl⟩ : ∃ m, n = m + 1 := ⟨n - 1, by omega⟩
    exact prs4_end m acc r (hr.1 (by omega))
  | cons x xs ih =>
    intro acc h
    obtain ⟨N1, h1⟩ := h x (List.mem_cons_self ..)
    obtain ⟨N2, h2⟩ := ih (Fm.and acc x) (fun y hy => h y (List.mem_cons_of_mem _ hy))
    refine ⟨max N1 N2 + 1, fun n hn r hr => ?_⟩
    obtain ⟨m, rfl⟩ : ∃ m, n = m + 1 := ⟨n - 1, by omega⟩
    have e1 := h1 m (by omega) (behind 38 3 xs ++ r) (stops3 _)
    have e2 := h2 m (by omega) r hr
    simp only [behind, List.cons_append, List.append_assoc, prs, e1, e2, List.foldl_cons]
theorem stops_behind (xs : List Fm) (r : List UInt8) (hr : stops 1 r) : stops 2 (behind 124 2 xs ++ r) := by
  cases xs with
  | nil => exact hr.up (by omega)
  | cons x xs => exact ⟨fun _ => by simp [behind], fun e => by omega, fun e => by omega⟩
theorem prs5_all (xs : List Fm) : ∀ acc, (∀ x ∈ xs, Prs 2 x (x.txt 2)) → ∃ N, ∀ n, N ≤ n → ∀ r, stops 1 r → prs n 5 acc (behind 124 2 xs ++ r) = some (xs.foldl Fm.or acc, r) := by
  induction xs with
  | nil =>
    intro acc _
    refine ⟨1, fun n hn r hr => ?_⟩
    obtain ⟨m, rfl⟩ : ∃ m, n = m + 1 := ⟨n - 1, by omega⟩
    exact prs5_end m acc r (hr.2.1 (by omega))
  | cons x xs ih =>
    intro acc h
    obtain ⟨N1, h1⟩ := h x (List.mem_cons_self ..)
    obtain ⟨N2, h2⟩ := ih (Fm.or acc x) (fun y hy => h y (List.mem_cons_of_mem _ hy))
    refine ⟨max N1 N2 + 1, fun n hn r hr => ?_⟩
    obtain ⟨m, rfl⟩ : ∃ m, n = m + 1 := ⟨n - 1, by omega⟩
    have e1 := h1 m (by omega) (behind 124 2 xs ++ r) (stops_behind xs r hr)
    have e2 := h2 m (by omega) r hr
    simp only [behind, List.cons_append, List.append_assoc, prs, e1, e2, List.foldl_cons]
theorem prs_all (t : Fm) (hw : t.wf) : Prs 0 t t.body := by
  have := (reads_all Prs
    (fun t hw hl hs => by
      refine lev3_cases (P := fun u X => (∀ x : Fm, x.wf → x.enc.length < u.enc.length → Prs 3 x (x.txt 3)) → Prs 3 u X) t hw hl ?_ ?_ ?_ ?_ ?_ ?_ (fun _ _ _ => trivial) hs
      · intro v hv _
        refine ⟨1, fun n hn r _ => ?_⟩
        obtain ⟨m, rfl⟩ : ∃ m, n = m + 1 := ⟨n - 1, by omega⟩
        have hv' : v = 0 ∨ v = 1 ∨ v = 2 ∨ v = 3 ∨ v = 4 ∨ v = 5 := by omega
        rcases hv' with rfl | rfl | rfl | rfl | rfl | rfl <;> rfl
      · intro _
        refine ⟨1, fun n hn r _ => ?_⟩
        obtain ⟨m, rfl⟩ : ∃ m, n = m + 1 := ⟨n - 1, by omega⟩
        rfl
      · intro _
        refine ⟨1, fun n hn r _ => ?_⟩
        obtain ⟨m, rfl⟩ : ∃ m, n = m + 1 := ⟨n - 1, by omega⟩
        rfl
      · intro a ha hl h
        obtain ⟨N, h⟩ := h a ha hl
        refine ⟨N + 1, fun n hn r hr => ?_⟩
        obtain ⟨m, rfl⟩ : ∃ m, n = m + 1 := ⟨n - 1, by omega⟩
        have e := h m (by omega) r hr
        simp only [List.cons_append, prs, e]
      · intro a ha hl h
        obtain ⟨N, h⟩ := h a ha hl
        refine ⟨N + 1, fun n hn r hr => ?_⟩
        obtain ⟨m, rfl⟩ : ∃ m, n = m + 1 := ⟨n - 1, by omega⟩
        have e := h m (by omega) r hr
        simp only [List.cons_append, prs, e]
      · intro a ha hl h
        obtain ⟨N, h⟩ := h a ha hl
        refine ⟨N + 1, fun n hn r hr => ?_⟩
        obtain ⟨m, rfl⟩ : ∃ m, n = m + 1 := ⟨n - 1, by omega⟩
        have e := h m (by omega) r hr
        simp only [List.cons_append, prs, e])
    (fun t h => by
      obtain ⟨N, h⟩ := h
      refine ⟨N + 1, fun n hn r hr => ?_⟩
      obtain ⟨m, rfl⟩ : ∃ m, n = m + 1 := ⟨n - 1, by omega⟩
      have e := h m (by omega) (41 :: r) ⟨fun _ => by simp, fun _ => by simp, fun _ => by simp⟩
      simp only [List.cons_append, List.append_assoc, List.nil_append, prs, e])
    (fun x0 xs h hs => by
      obtain ⟨N1, h1⟩ := h
      obtain ⟨N2, h2⟩ := prs4_all xs x0 hs
      refine ⟨max N1 N2 + 1, fun n hn r hr => ?_⟩
      obtain ⟨m, rfl⟩ : ∃ m, n = m + 1 := ⟨n - 1, by omega⟩
      have e1 := h1 m (by omega) (behind 38 3 xs ++ r) (stops3 _)
      have e2 := h2 m (by omega) r hr
      simp only [List.append_assoc, prs, e1, e2])
    (fun x0 xs h hs => by
      obtain ⟨N1, h1⟩ := h
      obtain ⟨N2, h2⟩ := prs5_all xs x0 hs
      refine ⟨max N1 N2 + 1, fun n hn r hr => ?_⟩
      obtain ⟨m, rfl⟩ : ∃ m, n = m + 1 := ⟨n - 1, by omega⟩
      have e1 := h1 m (by omega) (behind 124 2 xs ++ r) (stops_behind xs r hr)
      have e2 := h2 m (by omega) r hr
      simp only [List.append_assoc, prs, e1, e2])
    (fun t X h => by
      obtain ⟨N, h⟩ := h
      refine ⟨N + 1, fun n hn r hr => ?_⟩
      obtain ⟨m, rfl⟩ : ∃ m, n = m + 1 := ⟨n - 1, by omega⟩
      have e := h m (by omega) r (hr.up (by omega))
      have h62 := hr.2.2 rfl
      simp only [prs, e]
      cases r with
      | nil => rfl
      | cons c r =>
        have hc : c ≠ 62 := fun e => h62 (by rw [e]; rfl)
        split
        · rename_i he; simp at he; exact absurd he.2.1 hc
        · rename_i he; simp at he; obtain ⟨rfl, rfl⟩ := he; rfl
        · rename_i he; simp at he)
    (fun a b h1 h2 => by
      obtain ⟨N1, h1⟩ := h1
      obtain ⟨N2, h2⟩ := h2
      refine ⟨max N1 N2 + 1, fun n hn r hr => ?_⟩
      obtain ⟨m, rfl⟩ : ∃ m, n = m + 1 := ⟨n - 1, by omega⟩
      have e1 := h1 m (by omega) (62 :: (b.body ++ r)) ⟨fun _ => by simp, fun _ => by simp, fun e => by omega⟩
      have e2 := h2 m (by omega) r hr
      simp only [List.append_assoc, List.cons_append, prs, e1, e2])
    t.enc.length t (Nat.le_refl _) hw).1
  rwa [txt0] at this
theorem body_inj {t u : Fm} (ht : t.wf) (hu : u.wf) (h : t.body = u.body) : t = u := by
  obtain ⟨N1, h1⟩ := prs_all t ht
  obtain ⟨N2, h2⟩ := prs_all u hu
  have e1 := h1 (max N1 N2) (by omega) [] ⟨fun _ => by simp, fun _ => by simp, fun _ => by simp⟩
  have e2 := h2 (max N1 N2) (by omega) [] ⟨fun _ => by simp, fun _ => by simp, fun _ => by simp⟩
  rw [h, e2] at e1
  simp at e1
  exact e1.symm
theorem par_len (b : Bool) (s : List UInt8) : (par b s).length ≤ s.length + 2 := by unfold par; split <;> simp
theorem body_len : ∀ t : Fm, t.body.length + 3 ≤ 5 * t.enc.length := by
  intro t
  induction t with
  | var v => simp [body, enc]
  | fls => simp [body, enc]
  | and a b iha ihb =>
    have h1 := par_len (decide (a.lev < 2)) a.body; have h2 := par_len (decide (b.lev < 3)) b.body
    simp only [body, enc, List.length_append, List.length_cons]; omega
  | or a b iha ihb =>
    have h1 := par_len (decide (a.lev < 1)) a.body; have h2 := par_len (decide (b.lev < 2)) b.body
    simp only [body, enc, List.length_append, List.length_cons]; omega
  | imp a b iha ihb =>
    have h1 := par_len (decide (a.lev < 1)) a.body; have h2 := par_len (decide (a.lev < 3)) a.body
    have hb := enc_pos b
    simp only [body, enc, List.length_append, List.length_cons]
    split
    · split
      · simp; omega
      · simp only [List.length_cons]; omega
    · simp only [List.length_append, List.length_cons]; omega
  | box a iha =>
    have h2 := par_len (decide (a.lev < 3)) a.body
    simp only [body, enc, List.length_cons]; omega
  | dia a iha =>
    have h2 := par_len (decide (a.lev < 3)) a.body
    simp only [body, enc, List.length_cons]; omega
theorem body_pos (t : Fm) : 0 < t.body.length := by
  cases t with
  | imp a b =>
    simp only [body]
    split
    · split <;> simp
    · simp only [List.length_append, List.length_cons]; omega
  | _ => simp only [body, List.length_append, List.length_cons]; omega
/-- no text has a byte below 38 or one of / ; -/
theorem body_bytes : ∀ t : Fm, t.wf → ∀ c ∈ t.body, c ≠ 47 ∧ c ≠ 59 ∧ c ≠ 44 ∧ c ≠ 10 := by
  have hp : ∀ (b : Bool) (s : List UInt8), (∀ c ∈ s, c ≠ 47 ∧ c ≠ 59 ∧ c ≠ 44 ∧ c ≠ 10) → ∀ c ∈ par b s, c ≠ 47 ∧ c ≠ 59 ∧ c ≠ 44 ∧ c ≠ 10 := by
    intro b s h c hc
    unfold par at hc
    split at hc
    · simp at hc
      rcases hc with rfl | hc | rfl
      · decide
      · exact h c hc
      · decide
    · exact h c hc
  intro t
  induction t with
  | var v =>
    intro hw c hc
    simp [body] at hc
    have hv : v = 0 ∨ v = 1 ∨ v = 2 ∨ v = 3 ∨ v = 4 ∨ v = 5 := by simp [wf] at hw; omega
    subst hc
    rcases hv with rfl | rfl | rfl | rfl | rfl | rfl <;> decide
  | fls => intro _ c hc; simp [body] at hc; subst hc; decide
  | and a b iha ihb =>
    intro hw c hc
    simp only [body, List.mem_append, List.mem_cons] at hc
    rcases hc with hc | rfl | hc
    · exact hp _ _ (iha hw.1) c hc
    · decide
    · exact hp _ _ (ihb hw.2) c hc
  | or a b iha ihb =>
    intro hw c hc
    simp only [body, List.mem_append, List.mem_cons] at hc
    rcases hc with hc | rfl | hc
    · exact hp _ _ (iha hw.1) c hc
    · decide
    · exact hp _ _ (ihb hw.2) c hc
  | imp a b iha ihb =>
    intro hw c hc
    simp only [body] at hc
    split at hc
    · split at hc
      · simp at hc; subst hc; decide
      · simp only [List.mem_cons] at hc
        rcases hc with rfl | hc
        · decide
        · exact hp _ _ (iha hw.1) c hc
    · simp only [List.mem_append, List.mem_cons] at hc
      rcases hc with hc | rfl | hc
      · exact hp _ _ (iha hw.1) c hc
      · decide
      · exact ihb hw.2 c hc
  | box a iha =>
    intro hw c hc
    simp only [body, List.mem_cons] at hc
    rcases hc with rfl | rfl | hc
    · decide
    · decide
    · exact hp _ _ (iha hw) c hc
  | dia a iha =>
    intro hw c hc
    simp only [body, List.mem_cons] at hc
    rcases hc with rfl | rfl | hc
    · decide
    · decide
    · exact hp _ _ (iha hw) c hc
end Go.Proofs.YtgnlfceloiilbaaGreat
/- Plain mathematics: intuitionistic forcing, and the one step of a decision that is not invertible. No program in sight. -/
namespace Go.Proofs.YtgnlfceloiilbaaGreat
open Fm

/-- a Kripke model -/
structure KM where
  W : Type
  le : W → W → Prop
  refl : ∀ w, le w w
  trans : ∀ a b c, le a b → le b c → le a c
  V : W → Nat → Prop
  mono : ∀ a b p, le a b → V a p → V b p
namespace KM
def forces (M : KM) : M.W → Fm → Prop
  | w, .var v => M.V w v
  | _, .fls => False
  | w, .and a b => forces M w a ∧ forces M w b
  | w, .or a b => forces M w a ∨ forces M w b
  | w, .imp a b => ∀ u, M.le w u → forces M u a → forces M u b
  | _, .box _ => False
  | _, .dia _ => False
theorem up (M : KM) (a : Fm) : ∀ w u, M.le w u → M.forces w a → M.forces u a := by
  induction a with
  | var v => intro w u h hw; exact M.mono _ _ _ h hw
  | fls => intro w u _ hw; exact hw
  | and a b iha ihb => intro w u h hw; exact ⟨iha _ _ h hw.1, ihb _ _ h hw.2⟩
  | or a b iha ihb => intro w u h hw; exact hw.imp (iha _ _ h) (ihb _ _ h)
  | imp a b _ _ => intro w u h hw x hx; exact hw x (M.trans _ _ _ h hx)
  | box a _ => intro w u _ hw; exact hw
  | dia a _ => intro w u _ hw; exact hw
end KM
/-- the sequent holds in every model -/
def Sq (G : List Fm) (c : Fm) : Prop := ∀ (M : KM) (w : M.W), (∀ a ∈ G, M.forces w a) → M.forces w c
/-- it does not: there is a model and a world -/
theorem not_sq {G : List Fm} {c : Fm} (h : ¬ Sq G c) : ∃ (M : KM) (w : M.W), (∀ a ∈ G, M.forces w a) ∧ ¬ M.forces w c := by
  unfold Sq at h
  simp only [Classical.not_forall] at h
  obtain ⟨M, w, hg, hc⟩ := h
  exact ⟨M, w, hg, hc⟩
/-- a new root below some worlds of some models -/
def glue {ι : Type} (M : ι → KM) (r : ∀ i, (M i).W) (A : Nat → Prop) (hA : ∀ i p, A p → (M i).V (r i) p) : KM where
  W := Option (Σ i, (M i).W)
  le := fun x y => match x, y with
    | none, none => True
    | none, some ⟨i, u⟩ => (M i).le (r i) u
    | some _, none => False
    | some ⟨i, u⟩, some ⟨j, v⟩ => ∃ h : i = j, (M j).le (h ▸ u) v
  refl := fun x => by
    cases x with
    | none => trivial
    | some x => obtain ⟨i, u⟩ := x; exact ⟨rfl, (M i).refl u⟩
  trans := fun x y z h k => by
    cases x with
    | none =>
      cases y with
      | none => exact k
      | some y =>
        cases z with
        | none => exact k.elim
        | some z =>
          obtain ⟨i, u⟩ := y; obtain ⟨j, v⟩ := z
          obtain ⟨rfl, k⟩ := k
          exact (M i).trans _ _ _ h k
    | some x =>
      cases y with
      | none => exact h.elim
      | some y =>
        cases z with
        | none => exact k.elim
        | some z =>
          obtain ⟨i, u⟩ := x; obtain ⟨j, v⟩ := y; obtain ⟨l, t⟩ := z
          obtain ⟨rfl, h⟩ := h; obtain ⟨rfl, k⟩ := k
          exact ⟨rfl, (M i).trans _ _ _ h k⟩
  V := fun x p => match x with
    | none => A p
    | some ⟨i, u⟩ => (M i).V u p
  mono := fun x y p h k => by
    cases x with
    | none =>
      cases y with
      | none => exact k
      | some y => obtain ⟨i, u⟩ := y; exact (M i).mono _ _ _ h (hA i p k)
    | some x =>
      cases y with
      | none => exact h.elim
      | some y =>
        obtain ⟨i, u⟩ := x; obtain ⟨j, v⟩ := y
        obtain ⟨rfl, h⟩ := h
        exact (M i).mono _ _ _ h k
theorem glue_some {ι : Type} (M : ι → KM) (r : ∀ i, (M i).W) (A : Nat → Prop) (hA : ∀ i p, A p → (M i).V (r i) p) (a : Fm) :
    ∀ i (u : (M i).W), (glue M r A hA).forces (some ⟨i, u⟩) a ↔ (M i).forces u a := by
  induction a with
  | var v => intro i u; exact Iff.rfl
  | fls => intro i u; exact Iff.rfl
  | and a b iha ihb => intro i u; exact and_congr (iha i u) (ihb i u)
  | or a b iha ihb => intro i u; exact or_congr (iha i u) (ihb i u)
  | imp a b iha ihb =>
    intro i u
    constructor
    · intro h v hv ha
      exact (ihb i v).1 (h (some ⟨i, v⟩) ⟨rfl, hv⟩ ((iha i v).2 ha))
    · intro h y hy ha
      cases y with
      | none => exact hy.elim
      | some y =>
        obtain ⟨j, v⟩ := y
        obtain ⟨rfl, hy⟩ := hy
        exact (ihb i v).2 (h v hy ((iha i v).1 ha))
  | box a _ => intro i u; exact Iff.rfl
  | dia a _ => intro i u; exact Iff.rfl

/-! ### The invertible steps -/
theorem sq_congr {G H : List Fm} {c : Fm} (h : ∀ (M : KM) (w : M.W), (∀ a ∈ G, M.forces w a) ↔ (∀ a ∈ H, M.forces w a)) : Sq G c ↔ Sq H c :=
  ⟨fun k M w hw => k M w ((h M w).2 hw), fun k M w hw => k M w ((h M w).1 hw)⟩
theorem sq_mem {G : List Fm} {c : Fm} (h : c ∈ G) : Sq G c := fun _ _ hw => hw c h
theorem sq_fls {G : List Fm} {c : Fm} (h : fls ∈ G) : Sq G c := fun _ _ hw => (hw fls h).elim
theorem sq_and {G : List Fm} {a b : Fm} : Sq G (and a b) ↔ Sq G a ∧ Sq G b :=
  ⟨fun h => ⟨fun M w hw => (h M w hw).1, fun M w hw => (h M w hw).2⟩, fun h M w hw => ⟨h.1 M w hw, h.2 M w hw⟩⟩
theorem sq_imp {G : List Fm} {a b : Fm} : Sq G (imp a b) ↔ Sq (a :: G) b := by
  constructor
  · intro h M w hw
    exact h M w (fun x hx => hw x (List.mem_cons_of_mem _ hx)) w (M.refl w) (hw a (List.mem_cons_self ..))
  · intro h M w hw u hu ha
    refine h M u (fun x hx => ?_)
    rcases List.mem_cons.1 hx with rfl | hx
    · exact ha
    · exact M.up _ _ _ hu (hw x hx)
/-- what stands in the place of a formula of the left side may be any list that is forced where it is -/
theorem sq_left {G H : List Fm} {c x : Fm} {ys : List Fm} (hG : ∀ a, a ∈ G ↔ a = x ∨ a ∈ H) (h : ∀ (M : KM) (w : M.W), (∀ a ∈ H, M.forces w a) → (M.forces w x ↔ ∀ y ∈ ys, M.forces w y)) : Sq G c ↔ Sq (ys ++ H) c := by
  refine sq_congr fun M w => ⟨fun hw y hy => ?_, fun hw a ha => ?_⟩
  · rcases List.mem_append.1 hy with hy | hy
    · exact (h M w (fun a ha => hw a ((hG a).2 (.inr ha)))).1 (hw x ((hG x).2 (.inl rfl))) y hy
    · exact hw y ((hG y).2 (.inr hy))
  · rcases (hG a).1 ha with rfl | ha
    · exact (h M w (fun a ha => hw a (List.mem_append.2 (.inr ha)))).2 fun y hy => hw y (List.mem_append.2 (.inl hy))
    · exact hw a (List.mem_append.2 (.inr ha))
theorem sq_or_left {G H : List Fm} {c x y : Fm} (hG : ∀ a, a ∈ G ↔ a = or x y ∨ a ∈ H) : Sq G c ↔ Sq (x :: H) c ∧ Sq (y :: H) c := by
  constructor
  · intro h
    refine ⟨fun M w hw => h M w fun a ha => ?_, fun M w hw => h M w fun a ha => ?_⟩
    · rcases (hG a).1 ha with rfl | ha
      · exact .inl (hw x (List.mem_cons_self ..))
      · exact hw a (List.mem_cons_of_mem _ ha)
    · rcases (hG a).1 ha with rfl | ha
      · exact .inr (hw y (List.mem_cons_self ..))
      · exact hw a (List.mem_cons_of_mem _ ha)
  · intro h M w hw
    have hH : ∀ a ∈ H, M.forces w a := fun a ha => hw a ((hG a).2 (.inr ha))
    rcases hw (or x y) ((hG _).2 (.inl rfl)) with hx | hy
    · exact h.1 M w fun a ha => by
        rcases List.mem_cons.1 ha with rfl | ha
        · exact hx
        · exact hH a ha
    · exact h.2 M w fun a ha => by
        rcases List.mem_cons.1 ha with rfl | ha
        · exact hy
        · exact hH a ha
/-- (X>Y)>B where X is known: X>Y is Y, and so on -/
theorem forces_impimp (M : KM) (w : M.W) {x y b : Fm} (h : M.forces w (imp y b)) (hx : M.forces w x) : M.forces w (imp (imp x y) b) := by
  intro u hu hxy
  exact h u hu (hxy u (M.refl u) (M.up _ _ _ hu hx))

/-! ### The step that is not invertible -/
/-- the left side bears nothing that can be taken apart without loss -/
structure Final (G : List Fm) : Prop where
  nof : fls ∉ G
  forms : ∀ a ∈ G, (∃ p, a = var p) ∨ (∃ p b, a = imp (var p) b ∧ var p ∉ G) ∨ (∃ b, a = imp fls b) ∨ (∃ x y b, a = imp (imp x y) b)
/-- the two premises for (X>Y)>B: the rest of the left side stays -/
def Way (G : List Fm) (c x y b : Fm) : Prop := Sq (x :: imp y b :: G) y ∧ Sq (b :: G) c
theorem way_sound {G : List Fm} {c x y b : Fm} (hm : imp (imp x y) b ∈ G) (h : Way G c x y b) : Sq G c := by
  intro M w hw
  have hxy : M.forces w (imp x y) := by
    intro u hu hx
    refine h.1 M u fun a ha => ?_
    rcases List.mem_cons.1 ha with rfl | ha
    · exact hx
    · rcases List.mem_cons.1 ha with rfl | ha
      · intro v hv hy
        exact hw _ hm v (M.trans _ _ _ hu hv) fun t ht _ => M.up _ _ _ ht hy
      · exact M.up _ _ _ hu (hw a ha)
  have hb : M.forces w b := hw _ hm w (M.refl w) hxy
  exact h.2 M w fun a ha => by
    rcases List.mem_cons.1 ha with rfl | ha
    · exact hb
    · exact hw a ha
theorem final_complete {G : List Fm} {c : Fm} (hF : Final G) (hc : (∃ p, c = var p ∧ var p ∉ G) ∨ c = fls ∨ (∃ d e, c = Fm.or d e)) (h : Sq G c) :
    (∃ d e, c = Fm.or d e ∧ (Sq G d ∨ Sq G e)) ∨ (∃ x y b, imp (imp x y) b ∈ G ∧ Way G c x y b) := by
  classical
  by_cases hor : ∃ d e, c = Fm.or d e ∧ (Sq G d ∨ Sq G e)
  · exact .inl hor
  refine .inr (Classical.byContradiction fun hno => ?_)
  -- a countermodel for each implication of an implication: its left premise fails, or the right one does and we are done
  by_cases hright : ∃ x y b, imp (imp x y) b ∈ G ∧ Sq (x :: imp y b :: G) y ∧ ¬ Sq (b :: G) c
  · obtain ⟨x, y, b, hm, _, hn⟩ := hright
    obtain ⟨M, w, hw, hcw⟩ := not_sq hn
    exact hcw (h M w fun a ha => hw a (List.mem_cons_of_mem _ ha))
  have hleft : ∀ x y b, imp (imp x y) b ∈ G → ¬ Sq (x :: imp y b :: G) y := by
    intro x y b hm hs
    by_cases hr : Sq (b :: G) c
    · exact hno ⟨x, y, b, hm, hs, hr⟩
    · exact hright ⟨x, y, b, hm, hs, hr⟩
  -- the index: the implications of G, and the two sides of c
  let ι := { t : Fm × Fm × Fm // imp (imp t.1 t.2.1) t.2.2 ∈ G } ⊕ { d : Fm // (∃ e, c = Fm.or d e ∨ c = Fm.or e d) ∧ ¬ Sq G d }
  have hmod : ∀ i : ι, ∃ (M : KM) (w : M.W), (∀ a ∈ G, M.forces w a) ∧ (match i with
      | .inl t => M.forces w t.1.1 ∧ ¬ M.forces w t.1.2.1
      | .inr d => ¬ M.forces w d.1) := by
    intro i
    cases i with
    | inl t =>
      obtain ⟨M, w, hw, hn⟩ := not_sq (hleft _ _ _ t.2)
      exact ⟨M, w, fun a ha => hw a (List.mem_cons_of_mem _ (List.mem_cons_of_mem _ ha)), hw _ (List.mem_cons_self ..), hn⟩
    | inr d =>
      obtain ⟨M, w, hw, hn⟩ := not_sq d.2.2
      exact ⟨M, w, hw, hn⟩
  let M : ι → KM := fun i => Classical.choose (hmod i)
  let r : ∀ i, (M i).W := fun i => Classical.choose (Classical.choose_spec (hmod i))
  have hr : ∀ i, (∀ a ∈ G, (M i).forces (r i) a) ∧ (match i with
      | .inl t => (M i).forces (r i) t.1.1 ∧ ¬ (M i).forces (r i) t.1.2.1
      | .inr d => ¬ (M i).forces (r i) d.1) := fun i => Classical.choose_spec (Classical.choose_spec (hmod i))
  let A : Nat → Prop := fun p => var p ∈ G
  have hA : ∀ i p, A p → (M i).V (r i) p := fun i p hp => (hr i).1 _ hp
  let N := glue M r A hA
  have habove : ∀ i (u : (M i).W), (M i).le (r i) u → ∀ a ∈ G, N.forces (some ⟨i, u⟩) a := fun i u hu a ha =>
    (glue_some M r A hA a i u).2 ((M i).up _ _ _ hu ((hr i).1 a ha))
  have hroot : ∀ a ∈ G, N.forces (none : Option (Σ i, (M i).W)) a := by
    intro a ha
    rcases hF.forms a ha with ⟨p, rfl⟩ | ⟨p, b, rfl, hp⟩ | ⟨b, rfl⟩ | ⟨x, y, b, rfl⟩
    · exact ha
    · intro u hu hpu
      cases u with
      | none => exact (hp hpu).elim
      | some u =>
        obtain ⟨i, u⟩ := u
        exact habove i u hu _ ha (some ⟨i, u⟩) (N.refl _) hpu
    · intro u _ hf; exact hf.elim
    · intro u hu hxy
      cases u with
      | none =>
        have h1 := (hr (.inl ⟨(x, y, b), ha⟩)).2
        let i0 : ι := .inl ⟨(x, y, b), ha⟩
        have hx := (glue_some M r A hA x i0 (r i0)).2 h1.1
        have hy := hxy (some ⟨i0, r i0⟩) ((M i0).refl _) hx
        exact (h1.2 ((glue_some M r A hA y i0 (r i0)).1 hy)).elim
      | some u =>
        obtain ⟨i, u⟩ := u
        exact habove i u hu _ ha (some ⟨i, u⟩) (N.refl _) hxy
  have hfin := h N none hroot
  rcases hc with ⟨p, rfl, hp⟩ | rfl | ⟨d, e, rfl⟩
  · exact hp hfin
  · exact hfin
  · have hd : ¬ Sq G d := fun hs => hor ⟨d, e, rfl, .inl hs⟩
    have he : ¬ Sq G e := fun hs => hor ⟨d, e, rfl, .inr hs⟩
    rcases hfin with hf | hf
    · let i0 : ι := .inr ⟨d, ⟨e, .inl rfl⟩, hd⟩
      have := (hr i0).2
      exact this ((glue_some M r A hA d i0 (r i0)).1 (N.up d none (some ⟨i0, r i0⟩) ((M i0).refl _) hf))
    · let i0 : ι := .inr ⟨e, ⟨d, .inr rfl⟩, he⟩
      have := (hr i0).2
      exact this ((glue_some M r A hA e i0 (r i0)).1 (N.up e none (some ⟨i0, r i0⟩) ((M i0).refl _) hf))
end Go.Proofs.YtgnlfceloiilbaaGreat
/- Plain mathematics: weights of formulas, and each step of the two deciders as a statement on sequents. No program in sight. -/
namespace Go.Proofs.YtgnlfceloiilbaaGreat
open Fm

theorem enc_split : ∀ (a b : Fm) (r s : List Nd), a.enc ++ r = b.enc ++ s → a = b ∧ r = s := by
  intro a
  induction a with
  | var v =>
    intro b r s h; cases b <;> simp [enc] at h
    obtain ⟨h1, h2⟩ := h
    have h3 := Int.ofNat.inj h1
    exact ⟨by rw [h3], h2⟩
  | fls => intro b r s h; cases b <;> simp [enc] at h <;> simp_all
  | and x y ihx ihy =>
    intro b r s h; cases b <;> simp [enc] at h
    obtain ⟨h1, h⟩ := ihx _ _ _ h
    obtain ⟨h2, h⟩ := ihy _ _ _ h
    exact ⟨by rw [h1, h2], h⟩
  | or x y ihx ihy =>
    intro b r s h; cases b <;> simp [enc] at h
    obtain ⟨h1, h⟩ := ihx _ _ _ h
    obtain ⟨h2, h⟩ := ihy _ _ _ h
    exact ⟨by rw [h1, h2], h⟩
  | imp x y ihx ihy =>
    intro b r s h; cases b <;> simp [enc] at h
    obtain ⟨h1, h⟩ := ihx _ _ _ h
    obtain ⟨h2, h⟩ := ihy _ _ _ h
    exact ⟨by rw [h1, h2], h⟩
  | box x ihx =>
    intro b r s h; cases b <;> simp [enc] at h
    obtain ⟨h1, h⟩ := ihx _ _ _ h
    exact ⟨by rw [h1], h⟩
  | dia x ihx =>
    intro b r s h; cases b <;> simp [enc] at h
    obtain ⟨h1, h⟩ := ihx _ _ _ h
    exact ⟨by rw [h1], h⟩
theorem enc_inj {a b : Fm} (h : a.enc = b.enc) : a = b := (enc_split a b [] [] (by simpa using h)).1
theorem enc_mem {a : Fm} {G : List Fm} : a.enc ∈ G.map enc ↔ a ∈ G := by
  constructor
  · intro h
    obtain ⟨b, hb, e⟩ := List.mem_map.1 h
    exact enc_inj e ▸ hb
  · intro h; exact List.mem_map.2 ⟨a, h, rfl⟩

/-! ### weights -/
def wt : Fm → Nat
  | .var _ => 2
  | .fls => 2
  | .and a b => wt a * (1 + wt b)
  | .or a b => 1 + wt a + wt b
  | .imp a b => 1 + wt a * wt b
  | .box a => 2 + wt a
  | .dia a => 2 + wt a
def wts : List Fm → Nat
  | [] => 0
  | a :: G => wt a + wts G
theorem mul2 {a b : Nat} (ha : 2 ≤ a) (hb : 2 ≤ b) : a + b ≤ a * b := by
  obtain ⟨x, rfl⟩ : ∃ x, a = x + 2 := ⟨a - 2, by omega⟩
  obtain ⟨y, rfl⟩ : ∃ y, b = y + 2 := ⟨b - 2, by omega⟩
  have : (x + 2) * (y + 2) = x * y + 2 * x + 2 * y + 4 := by simp [Nat.add_mul, Nat.mul_add]; omega
  omega
theorem mul_two_le {a b : Nat} (hb : 2 ≤ b) : 2 * a ≤ a * b := by rw [Nat.mul_comm 2 a]; exact Nat.mul_le_mul_left a hb
theorem wt_ge : ∀ a : Fm, 2 ≤ wt a := by
  intro a
  induction a with
  | var v => simp [wt]
  | fls => simp [wt]
  | and a b iha ihb => simp only [wt]; have := mul_two_le (a := wt a) (b := 1 + wt b) (by omega); omega
  | or a b iha ihb => simp only [wt]; omega
  | imp a b iha ihb => simp only [wt]; have := mul2 iha ihb; omega
  | box a iha => simp only [wt]; omega
  | dia a iha => simp only [wt]; omega
theorem len_le_wt : ∀ a : Fm, a.enc.length ≤ wt a := by
  intro a
  induction a with
  | var v => simp [wt, enc]
  | fls => simp [wt, enc]
  | and a b iha ihb => simp only [wt, enc, List.length_cons, List.length_append, Nat.mul_add, Nat.mul_one]; have := mul2 (wt_ge a) (wt_ge b); have := wt_ge a; omega
  | or a b iha ihb => simp only [wt, enc, List.length_cons, List.length_append]; omega
  | imp a b iha ihb => simp only [wt, enc, List.length_cons, List.length_append]; have := mul2 (wt_ge a) (wt_ge b); omega
  | box a iha => simp only [wt, enc, List.length_cons]; omega
  | dia a iha => simp only [wt, enc, List.length_cons]; omega
theorem pow_ge2 {n : Nat} (h : 1 ≤ n) : 2 ≤ 2 ^ n := by
  obtain ⟨m, rfl⟩ : ∃ m, n = m + 1 := ⟨n - 1, by omega⟩
  have := Nat.one_le_two_pow (n := m)
  rw [Nat.pow_succ]; omega
theorem wt_le_pow : ∀ a : Fm, wt a ≤ 2 ^ a.enc.length := by
  intro a
  have hp := fun t : Fm => pow_ge2 (enc_pos t)
  induction a with
  | var v => simp [wt, enc]
  | fls => simp [wt, enc]
  | and a b iha ihb =>
    simp only [wt, enc, List.length_cons, List.length_append, Nat.mul_add, Nat.mul_one, Nat.pow_succ, Nat.pow_add]
    have h1 := Nat.mul_le_mul iha ihb
    have h2 : 2 ^ a.enc.length * 1 ≤ 2 ^ a.enc.length * 2 ^ b.enc.length := Nat.mul_le_mul_left _ (by have := hp b; omega)
    omega
  | or a b iha ihb =>
    simp only [wt, enc, List.length_cons, List.length_append, Nat.pow_succ, Nat.pow_add]
    have h1 := mul2 (hp a) (hp b)
    have := hp a
    omega
  | imp a b iha ihb =>
    simp only [wt, enc, List.length_cons, List.length_append, Nat.pow_succ, Nat.pow_add]
    have h1 := Nat.mul_le_mul iha ihb
    have := mul2 (hp a) (hp b)
    have := hp a
    omega
  | box a iha => simp only [wt, enc, List.length_cons, Nat.pow_succ]; have := hp a; omega
  | dia a iha => simp only [wt, enc, List.length_cons, Nat.pow_succ]; have := hp a; omega
theorem wts_append (G H : List Fm) : wts (G ++ H) = wts G + wts H := by
  induction G with
  | nil => simp [wts]
  | cons a G ih => simp [wts, ih]; omega
theorem wts_perm {G H : List Fm} (h : G.Perm H) : wts G = wts H := by
  induction h with
  | nil => rfl
  | cons a _ ih => simp [wts, ih]
  | swap a b l => simp [wts]; omega
  | trans _ _ ih1 ih2 => omega
theorem wts_sub {G H : List Fm} (h : G.Sublist H) : wts G ≤ wts H := by
  induction h with
  | slnil => exact Nat.le_refl _
  | cons a _ ih => simp only [wts]; omega
  | cons_cons a _ ih => simp only [wts]; omega
theorem len_le_wts (G : List Fm) : 2 * G.length ≤ wts G := by
  induction G with
  | nil => simp [wts]
  | cons a G ih => have := wt_ge a; simp only [wts, List.length_cons]; omega
theorem wts_mem {a : Fm} {G : List Fm} (h : a ∈ G) : wt a ≤ wts G := by
  induction G with
  | nil => simp at h
  | cons b G ih =>
    rcases List.mem_cons.1 h with rfl | h
    · simp only [wts]; omega
    · have := ih h; simp only [wts]; omega
/-- how many nodes formulas have -/
def nodes : List Fm → Nat
  | [] => 0
  | a :: G => a.enc.length + nodes G
theorem wts_le_pow (G : List Fm) : wts G ≤ 2 ^ nodes G := by
  induction G with
  | nil => simp [wts]
  | cons a G ih =>
    simp only [wts, nodes, Nat.pow_add]
    have h1 := wt_le_pow a
    have h0 := pow_ge2 (enc_pos a)
    cases G with
    | nil => simp [wts, nodes]; exact h1
    | cons b G =>
      have h2 : 2 ≤ 2 ^ nodes (b :: G) := pow_ge2 (by simp only [nodes]; have := enc_pos b; omega)
      have := mul2 h0 h2
      omega
/-! the weights go down -/
theorem wt_and (x y : Fm) : wt x + wt y < wt (and x y) := by
  simp only [wt, Nat.mul_add, Nat.mul_one]; have := mul2 (wt_ge x) (wt_ge y); have := wt_ge x; have := wt_ge y; omega
theorem wt_or (x y : Fm) : wt x + wt y < wt (or x y) := by simp only [wt]; omega
theorem wt_imp (x y : Fm) : wt x + wt y < wt (imp x y) := by
  simp only [wt]; have := mul2 (wt_ge x) (wt_ge y); omega
theorem wt_andimp (x y b : Fm) : wt (imp x (imp y b)) < wt (imp (and x y) b) := by
  simp only [wt, Nat.mul_add, Nat.mul_one, Nat.add_mul]
  have h1 := mul_two_le (a := wt x) (wt_ge b)
  have h2 := wt_ge x
  rw [Nat.mul_assoc]
  omega
theorem wt_orimp (x y b : Fm) : wt (imp x b) + wt (imp y b) < wt (imp (or x y) b) := by
  simp only [wt, Nat.add_mul, Nat.one_mul]
  have h2 := wt_ge b
  omega
theorem wt_impimp (x y b : Fm) : wt (imp y b) + (wt x + wt y) < wt (imp (imp x y) b) ∧ wt (imp y b) + wt (imp x y) < wt (imp (imp x y) b) + 1 := by
  simp only [wt, Nat.add_mul, Nat.one_mul]
  have hx := wt_ge x; have hy := wt_ge y; have hb := wt_ge b
  have h1 : 2 * (wt y * wt b) ≤ wt x * (wt y * wt b) := Nat.mul_le_mul_right _ hx
  have h2 : 2 * (wt x * wt y) ≤ wt x * wt y * wt b := mul_two_le hb
  have h3 := mul2 hx hy
  have h4 : wt x * (wt y * wt b) = wt x * wt y * wt b := (Nat.mul_assoc _ _ _).symm
  generalize wt x * wt y * wt b = t at *
  generalize wt x * (wt y * wt b) = t' at *
  generalize wt y * wt b = u at *
  generalize wt x * wt y = z at *
  omega
/-! ### the steps of the deciders -/
section
variable {G H K L : List Fm} {c x y b : Fm}
theorem sq_same (h : ∀ a, a ∈ G ↔ a ∈ H) : Sq G c ↔ Sq H c :=
  sq_congr fun _M _w => ⟨fun k a ha => k a ((h a).2 ha), fun k a ha => k a ((h a).1 ha)⟩
/-- forced on the right, forced on the left -/
theorem sq_repl (hG : ∀ a, a ∈ G ↔ a = x ∨ a ∈ H) (hK : ∀ a, a ∈ K ↔ a ∈ L ∨ a ∈ H) (h : ∀ (M : KM) (w : M.W), (∀ a ∈ H, M.forces w a) → (M.forces w x ↔ ∀ y ∈ L, M.forces w y)) : Sq G c ↔ Sq K c := by
  rw [sq_left (ys := L) hG h]
  exact sq_same fun a => by rw [List.mem_append, hK]
theorem sq_drop (hG : ∀ a, a ∈ G ↔ a = x ∨ a ∈ H) (h : ∀ (M : KM) (w : M.W), (∀ a ∈ H, M.forces w a) → M.forces w x) : Sq G c ↔ Sq H c :=
  sq_repl (L := []) hG (by simp) fun M w hw => ⟨fun _ _ hy => (by cases hy), fun _ => h M w hw⟩
theorem sq_drop_or1 (hG : ∀ a, a ∈ G ↔ a = or x y ∨ a ∈ H) (h : x ∈ H ∨ y ∈ H) : Sq G c ↔ Sq H c :=
  sq_drop hG fun _ _ hw => h.imp (hw _) (hw _)
theorem sq_drop_imp (hG : ∀ a, a ∈ G ↔ a = imp x y ∨ a ∈ H) (h : x = fls ∨ y ∈ H) : Sq G c ↔ Sq H c :=
  sq_drop hG fun M w hw u hu hx => by
    rcases h with rfl | h
    · exact hx.elim
    · exact M.up _ _ _ hu (hw _ h)
theorem sq_andL (hG : ∀ a, a ∈ G ↔ a = and x y ∨ a ∈ H) (hK : ∀ a, a ∈ K ↔ (a = x ∨ a = y) ∨ a ∈ H) : Sq G c ↔ Sq K c :=
  sq_repl (L := [x, y]) hG (by simpa using hK) fun M w _ => by simp [KM.forces]
theorem sq_orL {K' : List Fm} (hG : ∀ a, a ∈ G ↔ a = or x y ∨ a ∈ H) (hK : ∀ a, a ∈ K ↔ a = x ∨ a ∈ H) (hK' : ∀ a, a ∈ K' ↔ a = y ∨ a ∈ H) : Sq G c ↔ Sq K c ∧ Sq K' c := by
  rw [sq_or_left hG]
  exact and_congr (sq_same fun a => by rw [List.mem_cons, hK]) (sq_same fun a => by rw [List.mem_cons, hK'])
theorem sq_andimpL (hG : ∀ a, a ∈ G ↔ a = imp (and x y) b ∨ a ∈ H) (hK : ∀ a, a ∈ K ↔ a = imp x (imp y b) ∨ a ∈ H) : Sq G c ↔ Sq K c :=
  sq_repl (L := [imp x (imp y b)]) hG (by simpa using hK) fun M w _ => by
    simp only [List.mem_singleton, forall_eq]
    constructor
    · intro h u hu hx v hv hy
      exact h v (M.trans _ _ _ hu hv) ⟨M.up _ _ _ hv hx, hy⟩
    · intro h u hu hxy
      exact h u hu hxy.1 u (M.refl u) hxy.2
theorem sq_orimpL (hG : ∀ a, a ∈ G ↔ a = imp (or x y) b ∨ a ∈ H) (hK : ∀ a, a ∈ K ↔ (a = imp x b ∨ a = imp y b) ∨ a ∈ H) : Sq G c ↔ Sq K c :=
  sq_repl (L := [imp x b, imp y b]) hG (by simpa using hK) fun M w _ => by
    simp only [List.mem_cons, List.not_mem_nil, or_false, forall_eq_or_imp, forall_eq]
    constructor
    · intro h
      exact ⟨fun u hu hx => h u hu (.inl hx), fun u hu hy => h u hu (.inr hy)⟩
    · rintro ⟨h1, h2⟩ u hu hxy
      exact hxy.elim (h1 u hu) (h2 u hu)
theorem sq_impL (hG : ∀ a, a ∈ G ↔ a = imp x b ∨ a ∈ H) (hx : x ∈ H) (hK : ∀ a, a ∈ K ↔ a = b ∨ a ∈ H) : Sq G c ↔ Sq K c :=
  sq_repl (L := [b]) hG (by simpa using hK) fun M w hw => by
    simp only [List.mem_singleton, forall_eq]
    exact ⟨fun h => h w (M.refl w) (hw x hx), fun h u hu _ => M.up _ _ _ hu h⟩
theorem sq_impR (hK : ∀ a, a ∈ K ↔ a = x ∨ a ∈ G) : Sq G (imp x y) ↔ Sq K y := by
  rw [sq_imp]
  exact sq_same fun a => by rw [List.mem_cons, hK]
theorem sq_orR (h : Sq G x ∨ Sq G y) : Sq G (or x y) := fun M w hw => h.imp (fun k => k M w hw) (fun k => k M w hw)
/-- the premises with the formula itself taken away -/
theorem way_iff (hG : ∀ a, a ∈ G ↔ a = imp (imp x y) b ∨ a ∈ H) (hK : ∀ a, a ∈ K ↔ (a = imp y b ∨ a = x) ∨ a ∈ H) (hL : ∀ a, a ∈ L ↔ a = b ∨ a ∈ H) : Way G c x y b ↔ Sq K y ∧ Sq L c := by
  unfold Way
  have h1 : Sq (x :: imp y b :: G) y ↔ Sq (x :: imp y b :: H) y := by
    refine sq_drop (x := imp (imp x y) b) (fun a => ?_) (fun M w hw => ?_)
    · simp only [List.mem_cons, hG]
      constructor
      · rintro (h | h | h | h)
        · exact .inr (.inl h)
        · exact .inr (.inr (.inl h))
        · exact .inl h
        · exact .inr (.inr (.inr h))
      · rintro (h | h | h | h)
        · exact .inr (.inr (.inl h))
        · exact .inl h
        · exact .inr (.inl h)
        · exact .inr (.inr (.inr h))
    · exact forces_impimp M w (hw _ (by simp)) (hw _ (by simp))
  have h2 : Sq (b :: G) c ↔ Sq (b :: H) c := by
    refine sq_drop (x := imp (imp x y) b) (fun a => ?_) (fun M w hw u hu _ => ?_)
    · simp only [List.mem_cons, hG]
      constructor
      · rintro (h | h | h)
        · exact .inr (.inl h)
        · exact .inl h
        · exact .inr (.inr h)
      · rintro (h | h | h)
        · exact .inr (.inl h)
        · exact .inl h
        · exact .inr (.inr h)
    · exact M.up _ _ _ hu (hw b (by simp))
  rw [h1, h2]
  refine and_congr (sq_same fun a => ?_) (sq_same fun a => ?_)
  · simp only [List.mem_cons, hK]
    constructor
    · rintro (h | h | h)
      · exact .inl (.inr h)
      · exact .inl (.inl h)
      · exact .inr h
    · rintro ((h | h) | h)
      · exact .inr (.inl h)
      · exact .inl h
      · exact .inr (.inr h)
  · simp only [List.mem_cons, hL]
theorem way_iff' (hG : ∀ a, a ∈ G ↔ a = imp (imp x y) b ∨ a ∈ H) (hK : ∀ a, a ∈ K ↔ a = imp y b ∨ a ∈ H) (hL : ∀ a, a ∈ L ↔ a = b ∨ a ∈ H) : Way G c x y b ↔ Sq K (imp x y) ∧ Sq L c := by
  rw [way_iff (K := x :: K) hG (fun a => ?_) hL, sq_imp]
  rw [List.mem_cons, hK]
  constructor
  · rintro (h | h | h)
    · exact .inl (.inr h)
    · exact .inl (.inl h)
    · exact .inr h
  · rintro ((h | h) | h)
    · exact .inr (.inl h)
    · exact .inl h
    · exact .inr (.inr h)
end
end Go.Proofs.YtgnlfceloiilbaaGreat
/- Plain: what put hands back, as formulas. -/
namespace Go.Proofs.YtgnlfceloiilbaaGreat
open Go.RowKit
theorem range_get (zs : List (List UInt8)) : (List.range zs.length).map (zs.toArray[·]!) = zs := by
  apply List.ext_getElem
  · simp
  · intro i h1 h2
    simp at h1
    simp [h1]
theorem compact_sub (zs : List (List UInt8)) : (Lib.compact zs).Sublist zs := by
  have h : ((List.range zs.length).filter (Lib.keeps zs.toArray)).Sublist (List.range zs.length) := List.filter_sublist
  have h2 := h.map (zs.toArray[·]!)
  rw [range_get] at h2
  exact h2
theorem mem_compact (zs : List (List UInt8)) (j : Nat) (hj : j < zs.length) : zs.toArray[j]! ∈ Lib.compact zs := by
  induction j with
  | zero => exact List.mem_map.2 ⟨0, List.mem_filter.2 ⟨List.mem_range.2 hj, by simp [Lib.keeps]⟩, rfl⟩
  | succ j ih =>
    cases hk : Lib.keeps zs.toArray (j + 1)
    · have : zs.toArray[j + 1]! = zs.toArray[j]! := by simpa [Lib.keeps] using hk
      rw [this]
      exact ih (by omega)
    · exact List.mem_map.2 ⟨j + 1, List.mem_filter.2 ⟨List.mem_range.2 hj, hk⟩, rfl⟩
theorem compact_iff (zs : List (List UInt8)) (x : List UInt8) : x ∈ Lib.compact zs ↔ x ∈ zs := by
  constructor
  · exact fun h => (compact_sub zs).subset h
  · intro h
    obtain ⟨j, hj, rfl⟩ := List.getElem_of_mem h
    have := mem_compact zs j hj
    rwa [getElem!_pos _ _ (by simpa using hj), List.getElem_toArray] at this
theorem sortB_iff (zs : List (List UInt8)) (x : List UInt8) : x ∈ sortB zs ↔ x ∈ zs := by
  rw [sortB, compact_iff]
  exact (List.mergeSort_perm zs _).mem_iff
theorem perm_pre {α β : Type} (f : α → β) {l m : List β} (h : l.Perm m) : ∀ K : List α, m = K.map f → ∃ K' : List α, K'.Perm K ∧ l = K'.map f := by
  induction h with
  | nil => intro K hK; exact ⟨[], by rw [List.map_eq_nil_iff.1 hK.symm], rfl⟩
  | cons x _ ih =>
    intro K hK
    cases K with
    | nil => cases hK
    | cons a K =>
      injection hK with h1 h2
      obtain ⟨K', hp, e⟩ := ih K h2
      exact ⟨a :: K', hp.cons a, by rw [List.map_cons, e, h1]⟩
  | swap x y l =>
    intro K hK
    match K, hK with
    | a :: b :: K, hK =>
      injection hK with h1 h2
      injection h2 with h2 h3
      exact ⟨b :: a :: K, List.Perm.swap a b K, by simp [h1, h2, h3]⟩
  | trans _ _ ih1 ih2 =>
    intro K hK
    obtain ⟨K1, hp1, e1⟩ := ih2 K hK
    obtain ⟨K2, hp2, e2⟩ := ih1 K1 e1
    exact ⟨K2, hp2.trans hp1, e2⟩
/-- put, as formulas -/
theorem put_txts {ss tt : List ByteArray} {G H : List Fm} (h : Txts ss G) (k : Txts tt H) (hG : ∀ a ∈ G, a.wf) (hH : ∀ a ∈ H, a.wf) :
    ∃ R, Txts (putL ss tt) R ∧ (∀ a, a ∈ R ↔ a ∈ G ∨ a ∈ H) ∧ wts R ≤ wts G + wts H ∧ R.length ≤ G.length + H.length := by
  have hb : (ss ++ tt).map bts = (G ++ H).map Fm.body := h.append k
  obtain ⟨K, hp, e⟩ := perm_pre Fm.body (List.mergeSort_perm ((ss ++ tt).map bts) fun x y => decide (x ≤ y)) (G ++ H) hb
  have hs := compact_sub (((ss ++ tt).map bts).mergeSort fun x y => decide (x ≤ y))
  rw [e] at hs
  obtain ⟨R, hR, e2⟩ := List.sublist_map_iff.1 hs
  have hR0 : (putL ss tt).map bts = R.map Fm.body := by
    rw [← e2, ← e]
    simp [putL, Function.comp_def, bts_mkS, sortB]
  refine ⟨R, hR0, fun a => ?_, ?_, ?_⟩
  · constructor
    · intro ha
      have := hp.mem_iff.1 (hR.subset ha)
      exact List.mem_append.1 this
    · intro ha
      have h1 : a.body ∈ (G ++ H).map Fm.body := List.mem_map.2 ⟨a, List.mem_append.2 ha, rfl⟩
      rw [← hb, ← sortB_iff, sortB, e, e2] at h1
      obtain ⟨c, hc, e3⟩ := List.mem_map.1 h1
      have hcw : c.wf := (List.mem_append.1 (hp.mem_iff.1 (hR.subset hc))).elim (hG c) (hH c)
      have haw : a.wf := ha.elim (hG a) (hH a)
      rwa [← body_inj hcw haw e3]
  · have := wts_sub hR
    rw [wts_perm hp, wts_append] at this
    exact this
  · have := hR.length_le
    rw [hp.length_eq, List.length_append] at this
    exact this
end Go.Proofs.YtgnlfceloiilbaaGreat
