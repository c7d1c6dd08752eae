import Derived.Test.YtfmmajgkjkmghaaGreatDoorHL1
import Derived.Test.YtfmmajgkjkmghaaGreatDoorHQR
import Derived.Test.YtfmmajgkjkmghaaGreatDoorHBase
import Derived.Test.YtfmmajgkjkmghaaGreatDoorHPP
/- Worlds in which some blocks are written; lists of owned node lists that lie apart. -/
namespace Go.Proofs.YtfmmajgkjkmghaaGreatDoor
open Go.RowKit
end Go.Proofs.YtfmmajgkjkmghaaGreatDoor
namespace Go.Proofs.YtfmmajgkjkmghaaGreatDoor
open Go.RowKit
end Go.Proofs.YtfmmajgkjkmghaaGreatDoor
namespace Go.Proofs.YtfmmajgkjkmghaaGreatDoor
open Fm
namespace Fm
def lev : Fm → Nat
 | .imp _ b => if b.isFls then 3 else 0
 | .or _ _ => 1
 | .and _ _ => 2
 | _ => 3
def par (b : Bool) (s : List UInt8) : List UInt8 := if b then 40 :: (s ++ [41]) else s
def body : Fm → List UInt8
 | .var v => [UInt8.ofNat (112 + v)]
 | .fls => [70]
 | .and a b => par (decide (a.lev < 2)) a.body ++ 38 :: par (decide (b.lev < 3)) b.body
 | .or a b => par (decide (a.lev < 1)) a.body ++ 124 :: par (decide (b.lev < 2)) b.body
 | .imp a b => if b.isFls then (if a.isFls then [84] else 126 :: par (decide (a.lev < 3)) a.body) else par (decide (a.lev < 1)) a.body ++ 62 :: b.body
 | .box a => 91 :: 93 :: par (decide (a.lev < 3)) a.body
 | .dia a => 60 :: 62 :: par (decide (a.lev < 3)) a.body
def txt (t : Fm) (l : Nat) : List UInt8 := par (decide (t.lev < l)) t.body
theorem txt0 (t : Fm) : t.txt 0 = t.body := by simp [txt, par]
theorem lev_le (t : Fm) : t.lev ≤ 3 := by
 cases t <;> simp only [lev] <;> (try split) <;> omega
theorem txt_eq (t : Fm) (l m : Nat) (h : t.lev < l ↔ t.lev < m) : t.txt l = t.txt m := by
 unfold txt; rw [show decide (t.lev < l) = decide (t.lev < m) from decide_eq_decide.2 h]
def andHead : Fm → Fm
 | .and a _ => a.andHead
 | t => t
def andTail : Fm → List Fm
 | .and a b => a.andTail ++ [b]
 | _ => []
def orHead : Fm → Fm
 | .or a _ => a.orHead
 | t => t
def orTail : Fm → List Fm
 | .or a b => a.orTail ++ [b]
 | _ => []
def behind (c : UInt8) (l : Nat) : List Fm → List UInt8
 | [] => []
 | x :: xs => c :: (x.txt l ++ behind c l xs)
theorem behind_append (c : UInt8) (l : Nat) (xs ys : List Fm) : behind c l (xs ++ ys) = behind c l xs ++ behind c l ys := by
 induction xs with
 | nil => rfl
 | cons x xs ih => simp [behind, ih]
theorem and_fold (t : Fm) : t.andTail.foldl Fm.and t.andHead = t := by
 induction t with
 | and a b iha _ => simp [andTail, andHead, List.foldl_append, iha]
 | _ => rfl
theorem or_fold (t : Fm) : t.orTail.foldl Fm.or t.orHead = t := by
 induction t with
 | or a b iha _ => simp [orTail, orHead, List.foldl_append, iha]
 | _ => rfl
theorem and_txt (t : Fm) : t.txt 2 = t.andHead.txt 3 ++ behind 38 3 t.andTail := by
 induction t with
 | and a b iha _ =>
  have h : (Fm.and a b).txt 2 = a.txt 2 ++ 38 :: b.txt 3 := by simp [txt, body, par, lev]
  rw [h, iha]
  simp [andTail, andHead, behind_append, behind]
 | var v => simp [andTail, andHead, behind]; exact txt_eq _ _ _ (by simp [lev])
 | fls => simp [andTail, andHead, behind]; exact txt_eq _ _ _ (by simp [lev])
 | or a b _ _ => simp [andTail, andHead, behind]; exact txt_eq _ _ _ (by simp [lev])
 | imp a b _ _ => simp [andTail, andHead, behind]; exact txt_eq _ _ _ (by simp only [lev]; split <;> omega)
 | box a _ => simp [andTail, andHead, behind]; exact txt_eq _ _ _ (by simp [lev])
 | dia a _ => simp [andTail, andHead, behind]; exact txt_eq _ _ _ (by simp [lev])
theorem or_txt (t : Fm) : t.txt 1 = t.orHead.txt 2 ++ behind 124 2 t.orTail := by
 induction t with
 | or a b iha _ =>
  have h : (Fm.or a b).txt 1 = a.txt 1 ++ 124 :: b.txt 2 := by simp [txt, body, par, lev]
  rw [h, iha]
  simp [orTail, orHead, behind_append, behind]
 | var v => simp [orTail, orHead, behind]; exact txt_eq _ _ _ (by simp [lev])
 | fls => simp [orTail, orHead, behind]; exact txt_eq _ _ _ (by simp [lev])
 | and a b _ _ => simp [orTail, orHead, behind]; exact txt_eq _ _ _ (by simp [lev])
 | imp a b _ _ => simp [orTail, orHead, behind]; exact txt_eq _ _ _ (by simp only [lev]; split <;> omega)
 | box a _ => simp [orTail, orHead, behind]; exact txt_eq _ _ _ (by simp [lev])
 | dia a _ => simp [orTail, orHead, behind]; exact txt_eq _ _ _ (by simp [lev])
theorem and_parts (t : Fm) : (t.lev = 2 → ∀ x ∈ t.andHead :: t.andTail, x.enc.length < t.enc.length) ∧ (∀ x ∈ t.andHead :: t.andTail, x.enc.length ≤ t.enc.length) := by
 induction t with
 | and a b iha _ =>
  have h : ∀ x ∈ (Fm.and a b).andHead :: (Fm.and a b).andTail, x.enc.length < (Fm.and a b).enc.length := by
   intro x hx
   simp only [andHead, andTail, List.mem_cons, List.mem_append] at hx
   have := iha.2
   simp only [enc, List.length_cons, List.length_append]
   rcases hx with rfl | hx | rfl | hx
   ·have := this _ (List.mem_cons_self ..); omega
   ·have := this _ (List.mem_cons_of_mem _ hx); omega
   ·omega
   ·cases hx
  exact ⟨fun _ => h, fun x hx => Nat.le_of_lt (h x hx)⟩
 | imp a b _ _ => exact ⟨fun h => by simp only [lev] at h; split at h <;> omega, fun x hx => by simp [andHead, andTail] at hx; subst hx; exact Nat.le_refl _⟩
 | _ => exact ⟨fun h => by simp [lev] at h, fun x hx => by simp [andHead, andTail] at hx; subst hx; exact Nat.le_refl _⟩
theorem or_parts (t : Fm) : (t.lev = 1 → ∀ x ∈ t.orHead :: t.orTail, x.enc.length < t.enc.length) ∧ (∀ x ∈ t.orHead :: t.orTail, x.enc.length ≤ t.enc.length) := by
 induction t with
 | or a b iha _ =>
  have h : ∀ x ∈ (Fm.or a b).orHead :: (Fm.or a b).orTail, x.enc.length < (Fm.or a b).enc.length := by
   intro x hx
   simp only [orHead, orTail, List.mem_cons, List.mem_append] at hx
   have := iha.2
   simp only [enc, List.length_cons, List.length_append]
   rcases hx with rfl | hx | rfl | hx
   ·have := this _ (List.mem_cons_self ..); omega
   ·have := this _ (List.mem_cons_of_mem _ hx); omega
   ·omega
   ·cases hx
  exact ⟨fun _ => h, fun x hx => Nat.le_of_lt (h x hx)⟩
 | imp a b _ _ => exact ⟨fun h => by simp only [lev] at h; split at h <;> omega, fun x hx => by simp [orHead, orTail] at hx; subst hx; exact Nat.le_refl _⟩
 | _ => exact ⟨fun h => by simp [lev] at h, fun x hx => by simp [orHead, orTail] at hx; subst hx; exact Nat.le_refl _⟩
theorem and_wf (t : Fm) (h : t.wf) : ∀ x ∈ t.andHead :: t.andTail, x.wf := by
 induction t with
 | and a b iha _ =>
  intro x hx
  simp only [andHead, andTail, List.mem_cons, List.mem_append] at hx
  have := iha h.1
  rcases hx with rfl | hx | rfl | hx
  ·exact this _ (List.mem_cons_self ..)
  ·exact this _ (List.mem_cons_of_mem _ hx)
  ·exact h.2
  ·cases hx
 | _ => intro x hx; simp [andHead, andTail] at hx; subst hx; exact h
theorem or_wf (t : Fm) (h : t.wf) : ∀ x ∈ t.orHead :: t.orTail, x.wf := by
 induction t with
 | or a b iha _ =>
  intro x hx
  simp only [orHead, orTail, List.mem_cons, List.mem_append] at hx
  have := iha h.1
  rcases hx with rfl | hx | rfl | hx
  ·exact this _ (List.mem_cons_self ..)
  ·exact this _ (List.mem_cons_of_mem _ hx)
  ·exact h.2
  ·cases hx
 | _ => intro x hx; simp [orHead, orTail] at hx; subst hx; exact h
end Fm
theorem reads_all (R : Nat → Fm → List UInt8 → Prop)
  (h3 : ∀ t : Fm, t.wf → t.lev = 3 → (∀ x : Fm, x.wf → x.enc.length < t.enc.length → R 3 x (x.txt 3)) → R 3 t t.body)
  (hp : ∀ t : Fm, R 0 t t.body → R 3 t (40 :: (t.body ++ [41])))
  (h2 : ∀ x0 xs, R 3 x0 (x0.txt 3) → (∀ x ∈ xs, R 3 x (x.txt 3)) → R 2 (xs.foldl Fm.and x0) (x0.txt 3 ++ behind 38 3 xs))
  (h1 : ∀ x0 xs, R 2 x0 (x0.txt 2) → (∀ x ∈ xs, R 2 x (x.txt 2)) → R 1 (xs.foldl Fm.or x0) (x0.txt 2 ++ behind 124 2 xs))
  (h0 : ∀ t X, R 1 t X → R 0 t X)
  (hi : ∀ a b, R 1 a (a.txt 1) → R 0 b b.body → R 0 (Fm.imp a b) (a.txt 1 ++ 62 :: b.body)) :
  ∀ (n : Nat) (t : Fm), t.enc.length ≤ n → t.wf → R 0 t (t.txt 0) ∧ R 1 t (t.txt 1) ∧ R 2 t (t.txt 2) ∧ R 3 t (t.txt 3) := by
 intro n
 induction n with
 | zero => intro t h; have := t.enc_pos; omega
 | succ n ih =>
  intro t hn hw
  have sm : ∀ x : Fm, x.wf → x.enc.length < t.enc.length → R 0 x (x.txt 0) ∧ R 1 x (x.txt 1) ∧ R 2 x (x.txt 2) ∧ R 3 x (x.txt 3) := fun x hx hl => ih x (by omega) hx
  have s2 : (∀ x ∈ t.andHead :: t.andTail, R 3 x (x.txt 3)) → R 2 t (t.txt 2) := fun h => by
   have := h2 t.andHead t.andTail (h _ (List.mem_cons_self ..)) (fun x hx => h x (List.mem_cons_of_mem _ hx))
   rwa [and_fold, ← and_txt] at this
  have s1 : (∀ x ∈ t.orHead :: t.orTail, R 2 x (x.txt 2)) → R 1 t (t.txt 1) := fun h => by
   have := h1 t.orHead t.orTail (h _ (List.mem_cons_self ..)) (fun x hx => h x (List.mem_cons_of_mem _ hx))
   rwa [or_fold, ← or_txt] at this
  have hle := t.lev_le
  have up2 : t.lev ≠ 2 → R 3 t (t.txt 3) → R 2 t (t.txt 2) := fun hl h => by
   apply s2
   intro x hx
   have hx' : x = t := by
    cases t with
    | and a b => exact absurd rfl hl
    | _ => simp [andHead, andTail] at hx; exact hx
   subst hx'; exact h
  have up1 : t.lev ≠ 1 → R 2 t (t.txt 2) → R 1 t (t.txt 1) := fun hl h => by
   apply s1
   intro x hx
   have hx' : x = t := by
    cases t with
    | or a b => exact absurd rfl hl
    | _ => simp [orHead, orTail] at hx; exact hx
   subst hx'; exact h
  have up0 : t.lev ≠ 0 → R 1 t (t.txt 1) → R 0 t (t.txt 0) := fun hl h => by
   rw [txt_eq t 0 1 (by omega)]
   exact h0 _ _ h
  have dn : t.lev < 3 → R 0 t (t.txt 0) → R 3 t (t.txt 3) := fun hl h => by
   rw [txt0] at h
   have := hp t h
   unfold txt par
   rw [decide_eq_true hl]
   simpa using this
  by_cases e3 : t.lev = 3
  ·have r3 : R 3 t (t.txt 3) := by
    have := h3 t hw e3 (fun x hx hl => (sm x hx hl).2.2.2)
    unfold txt par
    rw [decide_eq_false (by omega)]
    simpa using this
   have r2 := up2 (by omega) r3
   have r1 := up1 (by omega) r2
   exact ⟨up0 (by omega) r1, r1, r2, r3⟩
  by_cases e2 : t.lev = 2
  ·have r2 := s2 (fun x hx => (sm x (t.and_wf hw x hx) (t.and_parts.1 e2 x hx)).2.2.2)
   have r1 := up1 (by omega) r2
   have r0 := up0 (by omega) r1
   exact ⟨r0, r1, r2, dn (by omega) r0⟩
  by_cases e1 : t.lev = 1
  ·have r1 := s1 (fun x hx => (sm x (t.or_wf hw x hx) (t.or_parts.1 e1 x hx)).2.2.1)
   have r0 := up0 (by omega) r1
   have r3 := dn (by omega) r0
   exact ⟨r0, r1, up2 (by omega) r3, r3⟩
  ·have r0 : R 0 t (t.txt 0) := by
    have hz : t.lev = 0 := by omega
    cases t with
    | imp a b =>
     have hb : b.isFls = false := by
      simp only [lev] at hz; split at hz
      ·omega
      ·simpa using ‹¬ b.isFls = true›
     have ra := (sm a hw.1 (by simp only [enc, List.length_cons, List.length_append]; omega)).2.1
     have rb := (sm b hw.2 (by simp only [enc, List.length_cons, List.length_append]; omega)).1
     rw [txt0] at rb
     have := hi a b ra rb
     rw [txt0]
     simp only [body, hb]
     simpa [txt] using this
    | _ => simp [lev] at hz
   have r3 := dn (by omega) r0
   have r2 := up2 (by omega) r3
   exact ⟨r0, up1 (by omega) r2, r2, r3⟩
end Go.Proofs.YtfmmajgkjkmghaaGreatDoor
namespace Go.Proofs.YtfmmajgkjkmghaaGreatDoor
open Go.RowKit
def bts (s : ByteArray) : List UInt8 := s.data.toList
def strCells (a : List ByteArray) : List Value := a.map Value.string
theorem Strs.at {w : World} {v : Value} {a : List ByteArray} (h : Strs w v a) : ∃ p cap, v = .slice p a.length cap ∧ a.length ≤ cap ∧ cap ≤ maxLen ∧ At w p (strCells a) ∧ a.length ≤ 2147483648 := by
 obtain ⟨p, cap, hv, h1, h2, h3⟩ := h.shape
 subst hv
 refine ⟨p, cap, rfl, h1, h2, fun j hj => ?_, h3⟩
 have hj' : j < a.length := by simpa [strCells] using hj
 obtain ⟨b, off, hp, hc⟩ := h.get j hj'
 exact ⟨b, off, hp, by simpa [strCells] using hc⟩
theorem Strs.ofAt {w : World} {p : Option Addr} {cap : Nat} {a : List ByteArray} (h1 : a.length ≤ cap) (h2 : cap ≤ maxLen) (h : At w p (strCells a)) (h3 : a.length ≤ 2147483648) : Strs w (.slice p a.length cap) a := by
 refine ⟨p, cap, rfl, h1, h2, h3, fun i hi => ?_⟩
 obtain ⟨b, off, hp, hc⟩ := h i (by simpa [strCells] using hi)
 refine ⟨b, off, fun _ => .string a[i], hp, fun c hc' => ?_, rfl⟩
 obtain rfl : c = 0 := by omega
 simpa [strCells] using hc
end Go.Proofs.YtfmmajgkjkmghaaGreatDoor
