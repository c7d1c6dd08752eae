import Derived.Test.YtkkcfifnkcnceaaGreatHP6
import Derived.Test.YtkkcfifnkcnceaaGreatHBase
import Derived.Test.YtkkcfifnkcnceaaGreatHV90
/- Plain law: a text belongs to one formula alone; how long texts are. -/
namespace Go.Proofs.YtkkcfifnkcnceaaGreat
open Fm
def prs : Nat → Nat → Fm → List UInt8 → Option (Fm × List UInt8)
 | 0, _, _, _ => none
 | n + 1, 0, _, X => match prs n 1 fls X with
  | some (a, 62 :: r) => (match prs n 0 fls r with | some (b, r') => some (imp a b, r') | none => none)
  | some (a, r) => some (a, r)
  | none => none
 | n + 1, 1, _, X => match prs n 2 fls X with | some (a, r) => prs n 5 a r | none => none
 | n + 1, 2, _, X => match prs n 3 fls X with | some (a, r) => prs n 4 a r | none => none
 | n + 1, 3, _, X => match X with
  | 126 :: r => (match prs n 3 fls r with | some (a, r') => some (imp a fls, r') | none => none)
  | 91 :: 93 :: r => (match prs n 3 fls r with | some (a, r') => some (box a, r') | none => none)
  | 60 :: 62 :: r => (match prs n 3 fls r with | some (a, r') => some (dia a, r') | none => none)
  | 70 :: r => some (fls, r)
  | 84 :: r => some (imp fls fls, r)
  | 40 :: r => (match prs n 0 fls r with | some (a, 41 :: r') => some (a, r') | _ => none)
  | c :: r => if 112 ≤ c.toNat ∧ c.toNat < 118 then some (var (c.toNat - 112), r) else none
  | [] => none
 | n + 1, 4, acc, X => match X with
  | 38 :: r => (match prs n 3 fls r with | some (b, r') => prs n 4 (.and acc b) r' | none => none)
  | r => some (acc, r)
 | n + 1, _, acc, X => match X with
  | 124 :: r => (match prs n 2 fls r with | some (b, r') => prs n 5 (.or acc b) r' | none => none)
  | r => some (acc, r)
def Prs (l : Nat) (t : Fm) (X : List UInt8) : Prop := ∃ N, ∀ n, N ≤ n → ∀ r, stops l r → prs n l fls (X ++ r) = some (t, r)
theorem prs4_end (n : Nat) (acc : Fm) (r : List UInt8) (h : r.head? ≠ some 38) : prs (n + 1) 4 acc r = some (acc, r) := by
 cases r with
 | nil => rfl
 | cons c r =>
  have hc : c ≠ 38 := fun e => h (by rw [e]; rfl)
  simp [prs, hc]
theorem prs5_end (n : Nat) (acc : Fm) (r : List UInt8) (h : r.head? ≠ some 124) : prs (n + 1) 5 acc r = some (acc, r) := by
 cases r with
 | nil => rfl
 | cons c r =>
  have hc : c ≠ 124 := fun e => h (by rw [e]; rfl)
  simp [prs, hc]
theorem prs4_all (xs : List Fm) : ∀ acc, (∀ x ∈ xs, Prs 3 x (x.txt 3)) → ∃ N, ∀ n, N ≤ n → ∀ r, stops 2 r → prs n 4 acc (behind 38 3 xs ++ r) = some (xs.foldl Fm.and acc, r) := by
 induction xs with
 | nil =>
  intro acc _
  refine ⟨1, fun n hn r hr => ?_⟩
  obtain ⟨m, rfl⟩ : ∃ m, n = m + 1 := ⟨n - 1, by omega⟩
  exact prs4_end m acc r (hr.1 (by omega))
 | cons x xs ih =>
  intro acc h
  obtain ⟨N1, h1⟩ := h x (List.mem_cons_self ..)
  obtain ⟨N2, h2⟩ := ih (Fm.and acc x) (fun y hy => h y (List.mem_cons_of_mem _ hy))
  refine ⟨max N1 N2 + 1, fun n hn r hr => ?_⟩
  obtain ⟨m, rfl⟩ : ∃ m, n = m + 1 := ⟨n - 1, by omega⟩
  have e1 := h1 m (by omega) (behind 38 3 xs ++ r) (stops3 _)
  have e2 := h2 m (by omega) r hr
  simp only [behind, List.cons_append, List.append_assoc, prs, e1, e2, List.foldl_cons]
theorem stops_behind (xs : List Fm) (r : List UInt8) (hr : stops 1 r) : stops 2 (behind 124 2 xs ++ r) := by
 cases xs with
 | nil => exact hr.up (by omega)
 | cons x xs => exact ⟨fun _ => by simp [behind], fun e => by omega, fun e => by omega⟩
theorem prs5_all (xs : List Fm) : ∀ acc, (∀ x ∈ xs, Prs 2 x (x.txt 2)) → ∃ N, ∀ n, N ≤ n → ∀ r, stops 1 r → prs n 5 acc (behind 124 2 xs ++ r) = some (xs.foldl Fm.or acc, r) := by
 induction xs with
 | nil =>
  intro acc _
  refine ⟨1, fun n hn r hr => ?_⟩
  obtain ⟨m, rfl⟩ : ∃ m, n = m + 1 := ⟨n - 1, by omega⟩
  exact prs5_end m acc r (hr.2.1 (by omega))
 | cons x xs ih =>
  intro acc h
  obtain ⟨N1, h1⟩ := h x (List.mem_cons_self ..)
  obtain ⟨N2, h2⟩ := ih (Fm.or acc x) (fun y hy => h y (List.mem_cons_of_mem _ hy))
  refine ⟨max N1 N2 + 1, fun n hn r hr => ?_⟩
  obtain ⟨m, rfl⟩ : ∃ m, n = m + 1 := ⟨n - 1, by omega⟩
  have e1 := h1 m (by omega) (behind 124 2 xs ++ r) (stops_behind xs r hr)
  have e2 := h2 m (by omega) r hr
  simp only [behind, List.cons_append, List.append_assoc, prs, e1, e2, List.foldl_cons]
theorem prs_all (t : Fm) (hw : t.wf) : Prs 0 t t.body := by
 have := (reads_all Prs
  (fun t hw hl hs => by
   refine lev3_cases (P := fun u X => (∀ x : Fm, x.wf → x.enc.length < u.enc.length → Prs 3 x (x.txt 3)) → Prs 3 u X) t hw hl ?_ ?_ ?_ ?_ ?_ ?_ (fun _ _ _ => trivial) hs
   ·intro v hv _
    refine ⟨1, fun n hn r _ => ?_⟩
    obtain ⟨m, rfl⟩ : ∃ m, n = m + 1 := ⟨n - 1, by omega⟩
    have hv' : v = 0 ∨ v = 1 ∨ v = 2 ∨ v = 3 ∨ v = 4 ∨ v = 5 := by omega
    rcases hv' with rfl | rfl | rfl | rfl | rfl | rfl <;> rfl
   ·intro _
    refine ⟨1, fun n hn r _ => ?_⟩
    obtain ⟨m, rfl⟩ : ∃ m, n = m + 1 := ⟨n - 1, by omega⟩
    rfl
   ·intro _
    refine ⟨1, fun n hn r _ => ?_⟩
    obtain ⟨m, rfl⟩ : ∃ m, n = m + 1 := ⟨n - 1, by omega⟩
    rfl
   ·intro a ha hl h
    obtain ⟨N, h⟩ := h a ha hl
    refine ⟨N + 1, fun n hn r hr => ?_⟩
    obtain ⟨m, rfl⟩ : ∃ m, n = m + 1 := ⟨n - 1, by omega⟩
    have e := h m (by omega) r hr
    simp only [List.cons_append, prs, e]
   ·intro a ha hl h
    obtain ⟨N, h⟩ := h a ha hl
    refine ⟨N + 1, fun n hn r hr => ?_⟩
    obtain ⟨m, rfl⟩ : ∃ m, n = m + 1 := ⟨n - 1, by omega⟩
    have e := h m (by omega) r hr
    simp only [List.cons_append, prs, e]
   ·intro a ha hl h
    obtain ⟨N, h⟩ := h a ha hl
    refine ⟨N + 1, fun n hn r hr => ?_⟩
    obtain ⟨m, rfl⟩ : ∃ m, n = m + 1 := ⟨n - 1, by omega⟩
    have e := h m (by omega) r hr
    simp only [List.cons_append, prs, e])
  (fun t h => by
   obtain ⟨N, h⟩ := h
   refine ⟨N + 1, fun n hn r hr => ?_⟩
   obtain ⟨m, rfl⟩ : ∃ m, n = m + 1 := ⟨n - 1, by omega⟩
   have e := h m (by omega) (41 :: r) ⟨fun _ => by simp, fun _ => by simp, fun _ => by simp⟩
   simp only [List.cons_append, List.append_assoc, List.nil_append, prs, e])
  (fun x0 xs h hs => by
   obtain ⟨N1, h1⟩ := h
   obtain ⟨N2, h2⟩ := prs4_all xs x0 hs
   refine ⟨max N1 N2 + 1, fun n hn r hr => ?_⟩
   obtain ⟨m, rfl⟩ : ∃ m, n = m + 1 := ⟨n - 1, by omega⟩
   have e1 := h1 m (by omega) (behind 38 3 xs ++ r) (stops3 _)
   have e2 := h2 m (by omega) r hr
   simp only [List.append_assoc, prs, e1, e2])
  (fun x0 xs h hs => by
   obtain ⟨N1, h1⟩ := h
   obtain ⟨N2, h2⟩ := prs5_all xs x0 hs
   refine ⟨max N1 N2 + 1, fun n hn r hr => ?_⟩
   obtain ⟨m, rfl⟩ : ∃ m, n = m + 1 := ⟨n - 1, by omega⟩
   have e1 := h1 m (by omega) (behind 124 2 xs ++ r) (stops_behind xs r hr)
   have e2 := h2 m (by omega) r hr
   simp only [List.append_assoc, prs, e1, e2])
  (fun t X h => by
   obtain ⟨N, h⟩ := h
   refine ⟨N + 1, fun n hn r hr => ?_⟩
   obtain ⟨m, rfl⟩ : ∃ m, n = m + 1 := ⟨n - 1, by omega⟩
   have e := h m (by omega) r (hr.up (by omega))
   have h62 := hr.2.2 rfl
   simp only [prs, e]
   cases r with
   | nil => rfl
   | cons c r =>
    have hc : c ≠ 62 := fun e => h62 (by rw [e]; rfl)
    split
    ·rename_i he; simp at he; exact absurd he.2.1 hc
    ·rename_i he; simp at he; obtain ⟨rfl, rfl⟩ := he; rfl
    ·rename_i he; simp at he)
  (fun a b h1 h2 => by
   obtain ⟨N1, h1⟩ := h1
   obtain ⟨N2, h2⟩ := h2
   refine ⟨max N1 N2 + 1, fun n hn r hr => ?_⟩
   obtain ⟨m, rfl⟩ : ∃ m, n = m + 1 := ⟨n - 1, by omega⟩
   have e1 := h1 m (by omega) (62 :: (b.body ++ r)) ⟨fun _ => by simp, fun _ => by simp, fun e => by omega⟩
   have e2 := h2 m (by omega) r hr
   simp only [List.append_assoc, List.cons_append, prs, e1, e2])
  t.enc.length t (Nat.le_refl _) hw).1
 rwa [txt0] at this
theorem body_inj {t u : Fm} (ht : t.wf) (hu : u.wf) (h : t.body = u.body) : t = u := by
 obtain ⟨N1, h1⟩ := prs_all t ht
 obtain ⟨N2, h2⟩ := prs_all u hu
 have e1 := h1 (max N1 N2) (by omega) [] ⟨fun _ => by simp, fun _ => by simp, fun _ => by simp⟩
 have e2 := h2 (max N1 N2) (by omega) [] ⟨fun _ => by simp, fun _ => by simp, fun _ => by simp⟩
 rw [h, e2] at e1
 simp at e1
 exact e1.symm
theorem par_len (b : Bool) (s : List UInt8) : (par b s).length ≤ s.length + 2 := by unfold par; split <;> simp
theorem body_len : ∀ t : Fm, t.body.length + 3 ≤ 5 * t.enc.length := by
 intro t
 induction t with
 | var v => simp [body, enc]
 | fls => simp [body, enc]
 | and a b iha ihb =>
  have h1 := par_len (decide (a.lev < 2)) a.body; have h2 := par_len (decide (b.lev < 3)) b.body
  simp only [body, enc, List.length_append, List.length_cons]; omega
 | or a b iha ihb =>
  have h1 := par_len (decide (a.lev < 1)) a.body; have h2 := par_len (decide (b.lev < 2)) b.body
  simp only [body, enc, List.length_append, List.length_cons]; omega
 | imp a b iha ihb =>
  have h1 := par_len (decide (a.lev < 1)) a.body; have h2 := par_len (decide (a.lev < 3)) a.body
  have hb := enc_pos b
  simp only [body, enc, List.length_append, List.length_cons]
  split
  ·split
   ·simp; omega
   ·simp only [List.length_cons]; omega
  ·simp only [List.length_append, List.length_cons]; omega
 | box a iha =>
  have h2 := par_len (decide (a.lev < 3)) a.body
  simp only [body, enc, List.length_cons]; omega
 | dia a iha =>
  have h2 := par_len (decide (a.lev < 3)) a.body
  simp only [body, enc, List.length_cons]; omega
theorem body_pos (t : Fm) : 0 < t.body.length := by
 cases t with
 | imp a b =>
  simp only [body]
  split
  ·split <;> simp
  ·simp only [List.length_append, List.length_cons]; omega
 | _ => simp only [body, List.length_append, List.length_cons]; omega
end Go.Proofs.YtkkcfifnkcnceaaGreat
namespace Go.Proofs.YtkkcfifnkcnceaaGreat
open Fm
namespace KM
end KM
end Go.Proofs.YtkkcfifnkcnceaaGreat
namespace Go.Proofs.YtkkcfifnkcnceaaGreat
open Fm
theorem enc_split : ∀ (a b : Fm) (r s : List Nd), a.enc ++ r = b.enc ++ s → a = b ∧ r = s := by
 intro a
 induction a with
 | var v =>
  intro b r s h; cases b <;> simp [enc] at h
  obtain ⟨h1, h2⟩ := h
  have h3 := Int.ofNat.inj h1
  exact ⟨by rw [h3], h2⟩
 | fls => intro b r s h; cases b <;> simp [enc] at h <;> simp_all
 | and x y ihx ihy =>
  intro b r s h; cases b <;> simp [enc] at h
  obtain ⟨h1, h⟩ := ihx _ _ _ h
  obtain ⟨h2, h⟩ := ihy _ _ _ h
  exact ⟨by rw [h1, h2], h⟩
 | or x y ihx ihy =>
  intro b r s h; cases b <;> simp [enc] at h
  obtain ⟨h1, h⟩ := ihx _ _ _ h
  obtain ⟨h2, h⟩ := ihy _ _ _ h
  exact ⟨by rw [h1, h2], h⟩
 | imp x y ihx ihy =>
  intro b r s h; cases b <;> simp [enc] at h
  obtain ⟨h1, h⟩ := ihx _ _ _ h
  obtain ⟨h2, h⟩ := ihy _ _ _ h
  exact ⟨by rw [h1, h2], h⟩
 | box x ihx =>
  intro b r s h; cases b <;> simp [enc] at h
  obtain ⟨h1, h⟩ := ihx _ _ _ h
  exact ⟨by rw [h1], h⟩
 | dia x ihx =>
  intro b r s h; cases b <;> simp [enc] at h
  obtain ⟨h1, h⟩ := ihx _ _ _ h
  exact ⟨by rw [h1], h⟩
theorem enc_inj {a b : Fm} (h : a.enc = b.enc) : a = b := (enc_split a b [] [] (by simpa using h)).1
end Go.Proofs.YtkkcfifnkcnceaaGreat
namespace Go.Proofs.YtkkcfifnkcnceaaGreat
open Go.RowKit
theorem range_get (zs : List (List UInt8)) : (List.range zs.length).map (zs.toArray[·]!) = zs := by
 apply List.ext_getElem
 ·simp
 ·intro i h1 h2
  simp at h1
  simp [h1]
theorem compact_sub (zs : List (List UInt8)) : (Lib.compact zs).Sublist zs := by
 have h : ((List.range zs.length).filter (Lib.keeps zs.toArray)).Sublist (List.range zs.length) := List.filter_sublist
 have h2 := h.map (zs.toArray[·]!)
 rw [range_get] at h2
 exact h2
theorem mem_compact (zs : List (List UInt8)) (j : Nat) (hj : j < zs.length) : zs.toArray[j]! ∈ Lib.compact zs := by
 induction j with
 | zero => exact List.mem_map.2 ⟨0, List.mem_filter.2 ⟨List.mem_range.2 hj, by simp [Lib.keeps]⟩, rfl⟩
 | succ j ih =>
  cases hk : Lib.keeps zs.toArray (j + 1)
  ·have : zs.toArray[j + 1]! = zs.toArray[j]! := by simpa [Lib.keeps] using hk
   rw [this]
   exact ih (by omega)
  ·exact List.mem_map.2 ⟨j + 1, List.mem_filter.2 ⟨List.mem_range.2 hj, hk⟩, rfl⟩
theorem compact_iff (zs : List (List UInt8)) (x : List UInt8) : x ∈ Lib.compact zs ↔ x ∈ zs := by
 constructor
 ·exact fun h => (compact_sub zs).subset h
 ·intro h
  obtain ⟨j, hj, rfl⟩ := List.getElem_of_mem h
  have := mem_compact zs j hj
  rwa [getElem!_pos _ _ (by simpa using hj), List.getElem_toArray] at this
theorem sortB_iff (zs : List (List UInt8)) (x : List UInt8) : x ∈ sortB zs ↔ x ∈ zs := by
 rw [sortB, compact_iff]
 exact (List.mergeSort_perm zs _).mem_iff
end Go.Proofs.YtkkcfifnkcnceaaGreat
