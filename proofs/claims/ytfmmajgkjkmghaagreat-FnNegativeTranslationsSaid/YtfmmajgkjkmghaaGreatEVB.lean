import Derived.Test.YtfmmajgkjkmghaaGreatEP6
import Derived.Test.YtfmmajgkjkmghaaGreatEVS
import Derived.Test.YtfmmajgkjkmghaaGreatEW7
import Derived.Lib.AppendZeros
import Derived.Sort.OwnSorted
import Derived.Sort.Grow
import Derived.Lib.OwnBridge
import Derived.Test.YtfmmajgkjkmghaaGreatEPS
import Derived.Test.YtfmmajgkjkmghaaGreatEP3
/- Plain law: a text belongs to one formula alone; how long texts are. -/
namespace Go.Proofs.YtfmmajgkjkmghaaGreat
open Fm
def prs : Nat → Nat → Fm → List UInt8 → Option (Fm × List UInt8)
 | 0, _, _, _ => none
 | n + 1, 0, _, X => match prs n 1 fls X with
  | some (a, 62 :: r) => (match prs n 0 fls r with | some (b, r') => some (imp a b, r') | none => none)
  | some (a, r) => some (a, r)
  | none => none
 | n + 1, 1, _, X => match prs n 2 fls X with | some (a, r) => prs n 5 a r | none => none
 | n + 1, 2, _, X => match prs n 3 fls X with | some (a, r) => prs n 4 a r | none => none
 | n + 1, 3, _, X => match X with
  | 126 :: r => (match prs n 3 fls r with | some (a, r') => some (imp a fls, r') | none => none)
  | 91 :: 93 :: r => (match prs n 3 fls r with | some (a, r') => some (box a, r') | none => none)
  | 60 :: 62 :: r => (match prs n 3 fls r with | some (a, r') => some (dia a, r') | none => none)
  | 70 :: r => some (fls, r)
  | 84 :: r => some (imp fls fls, r)
  | 40 :: r => (match prs n 0 fls r with | some (a, 41 :: r') => some (a, r') | _ => none)
  | c :: r => if 112 ≤ c.toNat ∧ c.toNat < 118 then some (var (c.toNat - 112), r) else none
  | [] => none
 | n + 1, 4, acc, X => match X with
  | 38 :: r => (match prs n 3 fls r with | some (b, r') => prs n 4 (.and acc b) r' | none => none)
  | r => some (acc, r)
 | n + 1, _, acc, X => match X with
  | 124 :: r => (match prs n 2 fls r with | some (b, r') => prs n 5 (.or acc b) r' | none => none)
  | r => some (acc, r)
def Prs (l : Nat) (t : Fm) (X : List UInt8) : Prop := ∃ N, ∀ n, N ≤ n → ∀ r, stops l r → prs n l fls (X ++ r) = some (t, r)
theorem prs4_end (n : Nat) (acc : Fm) (r : List UInt8) (h : r.head? ≠ some 38) : prs (n + 1) 4 acc r = some (acc, r) := by
 cases r with
 | nil => rfl
 | cons c r =>
  have hc : c ≠ 38 := fun e => h (by rw [e]; rfl)
  simp [prs, hc]
theorem prs5_end (n : Nat) (acc : Fm) (r : List UInt8) (h : r.head? ≠ some 124) : prs (n + 1) 5 acc r = some (acc, r) := by
 cases r with
 | nil => rfl
 | cons c r =>
  have hc : c ≠ 124 := fun e => h (by rw [e]; rfl)
  simp [prs, hc]
theorem prs4_all (xs : List Fm) : ∀ acc, (∀ x ∈ xs, Prs 3 x (x.txt 3)) → ∃ N, ∀ n, N ≤ n → ∀ r, stops 2 r → prs n 4 acc (behind 38 3 xs ++ r) = some (xs.foldl Fm.and acc, r) := by
 induction xs with
 | nil =>
  intro acc _
  refine ⟨1, fun n hn r hr => ?_⟩
  obtain ⟨m, rfl⟩ : ∃ m, n = m + 1 := ⟨n - 1, by omega⟩
  exact prs4_end m acc r (hr.1 (by omega))
 | cons x xs ih =>
  intro acc h
  obtain ⟨N1, h1⟩ := h x (List.mem_cons_self ..)
  obtain ⟨N2, h2⟩ := ih (Fm.and acc x) (fun y hy => h y (List.mem_cons_of_mem _ hy))
  refine ⟨max N1 N2 + 1, fun n hn r hr => ?_⟩
  obtain ⟨m, rfl⟩ : ∃ m, n = m + 1 := ⟨n - 1, by omega⟩
  have e1 := h1 m (by omega) (behind 38 3 xs ++ r) (stops3 _)
  have e2 := h2 m (by omega) r hr
  simp only [behind, List.cons_append, List.append_assoc, prs, e1, e2, List.foldl_cons]
theorem stops_behind (xs : List Fm) (r : List UInt8) (hr : stops 1 r) : stops 2 (behind 124 2 xs ++ r) := by
 cases xs with
 | nil => exact hr.up (by omega)
 | cons x xs => exact ⟨fun _ => by simp [behind], fun e => by omega, fun e => by omega⟩
theorem prs5_all (xs : List Fm) : ∀ acc, (∀ x ∈ xs, Prs 2 x (x.txt 2)) → ∃ N, ∀ n, N ≤ n → ∀ r, stops 1 r → prs n 5 acc (behind 124 2 xs ++ r) = some (xs.foldl Fm.or acc, r) := by
 induction xs with
 | nil =>
  intro acc _
  refine ⟨1, fun n hn r hr => ?_⟩
  obtain ⟨m, rfl⟩ : ∃ m, n = m + 1 := ⟨n - 1, by omega⟩
  exact prs5_end m acc r (hr.2.1 (by omega))
 | cons x xs ih =>
  intro acc h
  obtain ⟨N1, h1⟩ := h x (List.mem_cons_self ..)
  obtain ⟨N2, h2⟩ := ih (Fm.or acc x) (fun y hy => h y (List.mem_cons_of_mem _ hy))
  refine ⟨max N1 N2 + 1, fun n hn r hr => ?_⟩
  obtain ⟨m, rfl⟩ : ∃ m, n = m + 1 := ⟨n - 1, by omega⟩
  have e1 := h1 m (by omega) (behind 124 2 xs ++ r) (stops_behind xs r hr)
  have e2 := h2 m (by omega) r hr
  simp only [behind, List.cons_append, List.append_assoc, prs, e1, e2, List.foldl_cons]
theorem prs_all (t : Fm) (hw : t.wf) : Prs 0 t t.body := by
 have := (reads_all Prs
  (fun t hw hl hs => by
   refine lev3_cases (P := fun u X => (∀ x : Fm, x.wf → x.enc.length < u.enc.length → Prs 3 x (x.txt 3)) → Prs 3 u X) t hw hl ?_ ?_ ?_ ?_ ?_ ?_ (fun _ _ _ => trivial) hs
   ·intro v hv _
    refine ⟨1, fun n hn r _ => ?_⟩
    obtain ⟨m, rfl⟩ : ∃ m, n = m + 1 := ⟨n - 1, by omega⟩
    have hv' : v = 0 ∨ v = 1 ∨ v = 2 ∨ v = 3 ∨ v = 4 ∨ v = 5 := by omega
    rcases hv' with rfl | rfl | rfl | rfl | rfl | rfl <;> rfl
   ·intro _
    refine ⟨1, fun n hn r _ => ?_⟩
    obtain ⟨m, rfl⟩ : ∃ m, n = m + 1 := ⟨n - 1, by omega⟩
    rfl
   ·intro _
    refine ⟨1, fun n hn r _ => ?_⟩
    obtain ⟨m, rfl⟩ : ∃ m, n = m + 1 := ⟨n - 1, by omega⟩
    rfl
   ·intro a ha hl h
    obtain ⟨N, h⟩ := h a ha hl
    refine ⟨N + 1, fun n hn r hr => ?_⟩
    obtain ⟨m, rfl⟩ : ∃ m, n = m + 1 := ⟨n - 1, by omega⟩
    have e := h m (by omega) r hr
    simp only [List.cons_append, prs, e]
   ·intro a ha hl h
    obtain ⟨N, h⟩ := h a ha hl
    refine ⟨N + 1, fun n hn r hr => ?_⟩
    obtain ⟨m, rfl⟩ : ∃ m, n = m + 1 := ⟨n - 1, by omega⟩
    have e := h m (by omega) r hr
    simp only [List.cons_append, prs, e]
   ·intro a ha hl h
    obtain ⟨N, h⟩ := h a ha hl
    refine ⟨N + 1, fun n hn r hr => ?_⟩
    obtain ⟨m, rfl⟩ : ∃ m, n = m + 1 := ⟨n - 1, by omega⟩
    have e := h m (by omega) r hr
    simp only [List.cons_append, prs, e])
  (fun t h => by
   obtain ⟨N, h⟩ := h
   refine ⟨N + 1, fun n hn r hr => ?_⟩
   obtain ⟨m, rfl⟩ : ∃ m, n = m + 1 := ⟨n - 1, by omega⟩
   have e := h m (by omega) (41 :: r) ⟨fun _ => by simp, fun _ => by simp, fun _ => by simp⟩
   simp only [List.cons_append, List.append_assoc, List.nil_append, prs, e])
  (fun x0 xs h hs => by
   obtain ⟨N1, h1⟩ := h
   obtain ⟨N2, h2⟩ := prs4_all xs x0 hs
   refine ⟨max N1 N2 + 1, fun n hn r hr => ?_⟩
   obtain ⟨m, rfl⟩ : ∃ m, n = m + 1 := ⟨n - 1, by omega⟩
   have e1 := h1 m (by omega) (behind 38 3 xs ++ r) (stops3 _)
   have e2 := h2 m (by omega) r hr
   simp only [List.append_assoc, prs, e1, e2])
  (fun x0 xs h hs => by
   obtain ⟨N1, h1⟩ := h
   obtain ⟨N2, h2⟩ := prs5_all xs x0 hs
   refine ⟨max N1 N2 + 1, fun n hn r hr => ?_⟩
   obtain ⟨m, rfl⟩ : ∃ m, n = m + 1 := ⟨n - 1, by omega⟩
   have e1 := h1 m (by omega) (behind 124 2 xs ++ r) (stops_behind xs r hr)
   have e2 := h2 m (by omega) r hr
   simp only [List.append_assoc, prs, e1, e2])
  (fun t X h => by
   obtain ⟨N, h⟩ := h
   refine ⟨N + 1, fun n hn r hr => ?_⟩
   obtain ⟨m, rfl⟩ : ∃ m, n = m + 1 := ⟨n - 1, by omega⟩
   have e := h m (by omega) r (hr.up (by omega))
   have h62 := hr.2.2 rfl
   simp only [prs, e]
   cases r with
   | nil => rfl
   | cons c r =>
    have hc : c ≠ 62 := fun e => h62 (by rw [e]; rfl)
    split
    ·rename_i he; simp at he; exact absurd he.2.1 hc
    ·rename_i he; simp at he; obtain ⟨rfl, rfl⟩ := he; rfl
    ·rename_i he; simp at he)
  (fun a b h1 h2 => by
   obtain ⟨N1, h1⟩ := h1
   obtain ⟨N2, h2⟩ := h2
   refine ⟨max N1 N2 + 1, fun n hn r hr => ?_⟩
   obtain ⟨m, rfl⟩ : ∃ m, n = m + 1 := ⟨n - 1, by omega⟩
   have e1 := h1 m (by omega) (62 :: (b.body ++ r)) ⟨fun _ => by simp, fun _ => by simp, fun e => by omega⟩
   have e2 := h2 m (by omega) r hr
   simp only [List.append_assoc, List.cons_append, prs, e1, e2])
  t.enc.length t (Nat.le_refl _) hw).1
 rwa [txt0] at this
theorem body_inj {t u : Fm} (ht : t.wf) (hu : u.wf) (h : t.body = u.body) : t = u := by
 obtain ⟨N1, h1⟩ := prs_all t ht
 obtain ⟨N2, h2⟩ := prs_all u hu
 have e1 := h1 (max N1 N2) (by omega) [] ⟨fun _ => by simp, fun _ => by simp, fun _ => by simp⟩
 have e2 := h2 (max N1 N2) (by omega) [] ⟨fun _ => by simp, fun _ => by simp, fun _ => by simp⟩
 rw [h, e2] at e1
 simp at e1
 exact e1.symm
theorem par_len (b : Bool) (s : List UInt8) : (par b s).length ≤ s.length + 2 := by unfold par; split <;> simp
theorem body_len : ∀ t : Fm, t.body.length + 3 ≤ 5 * t.enc.length := by
 intro t
 induction t with
 | var v => simp [body, enc]
 | fls => simp [body, enc]
 | and a b iha ihb =>
  have h1 := par_len (decide (a.lev < 2)) a.body; have h2 := par_len (decide (b.lev < 3)) b.body
  simp only [body, enc, List.length_append, List.length_cons]; omega
 | or a b iha ihb =>
  have h1 := par_len (decide (a.lev < 1)) a.body; have h2 := par_len (decide (b.lev < 2)) b.body
  simp only [body, enc, List.length_append, List.length_cons]; omega
 | imp a b iha ihb =>
  have h1 := par_len (decide (a.lev < 1)) a.body; have h2 := par_len (decide (a.lev < 3)) a.body
  have hb := enc_pos b
  simp only [body, enc, List.length_append, List.length_cons]
  split
  ·split
   ·simp; omega
   ·simp only [List.length_cons]; omega
  ·simp only [List.length_append, List.length_cons]; omega
 | box a iha =>
  have h2 := par_len (decide (a.lev < 3)) a.body
  simp only [body, enc, List.length_cons]; omega
 | dia a iha =>
  have h2 := par_len (decide (a.lev < 3)) a.body
  simp only [body, enc, List.length_cons]; omega
theorem body_pos (t : Fm) : 0 < t.body.length := by
 cases t with
 | imp a b =>
  simp only [body]
  split
  ·split <;> simp
  ·simp only [List.length_append, List.length_cons]; omega
 | _ => simp only [body, List.length_append, List.length_cons]; omega
theorem body_bytes : ∀ t : Fm, t.wf → ∀ c ∈ t.body, c ≠ 47 ∧ c ≠ 59 ∧ c ≠ 44 ∧ c ≠ 10 := by
 have hp : ∀ (b : Bool) (s : List UInt8), (∀ c ∈ s, c ≠ 47 ∧ c ≠ 59 ∧ c ≠ 44 ∧ c ≠ 10) → ∀ c ∈ par b s, c ≠ 47 ∧ c ≠ 59 ∧ c ≠ 44 ∧ c ≠ 10 := by
  intro b s h c hc
  unfold par at hc
  split at hc
  ·simp at hc
   rcases hc with rfl | hc | rfl
   ·decide
   ·exact h c hc
   ·decide
  ·exact h c hc
 intro t
 induction t with
 | var v =>
  intro hw c hc
  simp [body] at hc
  have hv : v = 0 ∨ v = 1 ∨ v = 2 ∨ v = 3 ∨ v = 4 ∨ v = 5 := by simp [wf] at hw; omega
  subst hc
  rcases hv with rfl | rfl | rfl | rfl | rfl | rfl <;> decide
 | fls => intro _ c hc; simp [body] at hc; subst hc; decide
 | and a b iha ihb =>
  intro hw c hc
  simp only [body, List.mem_append, List.mem_cons] at hc
  rcases hc with hc | rfl | hc
  ·exact hp _ _ (iha hw.1) c hc
  ·decide
  ·exact hp _ _ (ihb hw.2) c hc
 | or a b iha ihb =>
  intro hw c hc
  simp only [body, List.mem_append, List.mem_cons] at hc
  rcases hc with hc | rfl | hc
  ·exact hp _ _ (iha hw.1) c hc
  ·decide
  ·exact hp _ _ (ihb hw.2) c hc
 | imp a b iha ihb =>
  intro hw c hc
  simp only [body] at hc
  split at hc
  ·split at hc
   ·simp at hc; subst hc; decide
   ·simp only [List.mem_cons] at hc
    rcases hc with rfl | hc
    ·decide
    ·exact hp _ _ (iha hw.1) c hc
  ·simp only [List.mem_append, List.mem_cons] at hc
   rcases hc with hc | rfl | hc
   ·exact hp _ _ (iha hw.1) c hc
   ·decide
   ·exact ihb hw.2 c hc
 | box a iha =>
  intro hw c hc
  simp only [body, List.mem_cons] at hc
  rcases hc with rfl | rfl | hc
  ·decide
  ·decide
  ·exact hp _ _ (iha hw) c hc
 | dia a iha =>
  intro hw c hc
  simp only [body, List.mem_cons] at hc
  rcases hc with rfl | rfl | hc
  ·decide
  ·decide
  ·exact hp _ _ (iha hw) c hc
end Go.Proofs.YtfmmajgkjkmghaaGreat
namespace Go.Proofs.YtfmmajgkjkmghaaGreat
open Go.RowKit
open scoped Classical in
theorem containsS_any (ss : List ByteArray) (x : ByteArray) (v : Value) (w : World) (hv : Strs w v ss) :
  Calls Tryz.prog 217 #[v, .string x] w fun e w' => e = .returned (.bool (decide (x ∈ ss))) ∧ w = w' := by
 obtain ⟨p, cap, rfl, h1, h2, hat, h3⟩ := hv.at
 have hd : decide (x ∈ ss) = Lib.containsS (ss.take ss.length) x := by
  rw [List.take_length, Bool.eq_iff_iff, Lib.containsS_iff]
  exact decide_eq_true_iff
 by_cases h0 : ss.length = 0
 ·obtain rfl : ss = [] := List.eq_nil_of_length_eq_zero h0
  refine (Tryz.slices_Contains_string_empty p cap x w).mono ?_
  rintro e w' ⟨rfl, rfl⟩
  exact ⟨by simp, rfl⟩
 ·obtain ⟨b, off, rfl, _⟩ := hat 0 (by simp [strCells]; omega)
  have hc : ∀ j, j < ss.length → w.cell? ⟨b, off + j, none⟩ = some (.string (ss.getD j ByteArray.empty)) := by
   intro j hj
   obtain ⟨b', off', hp, hc⟩ := hat j (by simpa [strCells] using hj)
   cases hp
   rw [hc]
   simp [strCells, List.getD_eq_getElem?_getD, hj]
  refine (Tryz.slices_Contains_string b off ss.length cap ss x w (Nat.le_refl _) (by omega) hc).mono ?_
  rintro e w' ⟨rfl, rfl⟩
  exact ⟨by rw [hd], rfl⟩
theorem txt_mem {ss : List ByteArray} {G : List Fm} {x : ByteArray} {t : Fm} (h : Txts ss G) (hx : bts x = t.body) (hw : t.wf) (hG : ∀ a ∈ G, a.wf) : x ∈ ss ↔ t ∈ G := by
 constructor
 ·intro hm
  have h1 : bts x ∈ ss.map bts := List.mem_map.2 ⟨x, hm, rfl⟩
  rw [h, List.mem_map] at h1
  obtain ⟨a, ha, e⟩ := h1
  rw [hx] at e
  rwa [← body_inj (hG a ha) hw e]
 ·intro hm
  have h1 : t.body ∈ G.map Fm.body := List.mem_map.2 ⟨t, hm, rfl⟩
  rw [← h, List.mem_map] at h1
  obtain ⟨y, hy, e⟩ := h1
  rwa [← bts_inj (e.trans hx.symm)]
open scoped Classical in
theorem containsF_any (ss : List ByteArray) (G : List Fm) (h : Txts ss G) (hG : ∀ a ∈ G, a.wf) (x : ByteArray) (t : Fm) (hx : bts x = t.body) (hw : t.wf) (v : Value) (w : World) (hv : Strs w v ss) :
  Calls Tryz.prog 217 #[v, .string x] w fun e w' => e = .returned (.bool (decide (t ∈ G))) ∧ w = w' := by
 refine (containsS_any ss x v w hv).mono ?_
 rintro e w' ⟨rfl, rfl⟩
 exact ⟨ret_bool (by rw [Bool.eq_iff_iff, decide_eq_true_iff, decide_eq_true_iff]; exact txt_mem h hx hw hG), rfl⟩
end Go.Proofs.YtfmmajgkjkmghaaGreat
namespace Go.Proofs.YtfmmajgkjkmghaaGreat
open Go.RowKit
def RetSt (w : World) (r : List ByteArray) (e : Ending) (w' : World) : Prop := ∃ v, e = .returned v ∧ OwnS w' w.heap.size v r ∧ Keeps w w'
def StrL (w : World) (v : Value) (xs : List (List ByteArray)) : Prop := SlC 1 (fun w f x => Strs w (f 0) x) w v xs
theorem StrL.keeps {w w' : World} {v : Value} {xs : List (List ByteArray)} (h : StrL w v xs) (k : Keeps w w') : StrL w' v xs :=
 SlC.keeps (R := fun w f x => Strs w (f 0) x) (fun _ _ _ _ k h => Strs.keeps h k) h k
theorem StrL.get {w : World} {p : Option Addr} {n cap : Nat} {xs : List (List ByteArray)} (h : StrL w (.slice p n cap) xs) (i : Nat) (hi : i < xs.length) :
  ∃ b off u, p = some ⟨b, off, none⟩ ∧ w.cell? ⟨b, off + i, none⟩ = some u ∧ Strs w u xs[i] := by
 obtain ⟨p', cap', hv, h1, h2, h3, h4⟩ := h
 cases hv
 obtain ⟨b, off, f, hp, hc, hr⟩ := h4 i hi
 exact ⟨b, off, f 0, hp, by simpa using hc 0 (by omega), hr⟩
theorem StrL.lit2 {w : World} {u u' : Value} {x x' : List ByteArray} (h : Strs w u x) (h' : Strs w u' x') : StrL (w.alloc (.cells #[u, u'] 120)) (.slice (some ⟨w.heap.size, 0, none⟩) 2 2) [x, x'] :=
 SlC.lit (R := fun w f x => Strs w (f 0) x) (fun _ _ _ _ k h => Strs.keeps h k) w _ [u, u'] [x, x'] rfl (by simp) (fun i h1 h2 => by
  simp at h1
  have hi : i = 0 ∨ i = 1 := by omega
  rcases hi with rfl | rfl
  ·exact h
  ·exact h')
set_option maxRecDepth 20000 in
set_option maxHeartbeats 400000 in
theorem growS_any (n : Nat) (w : World) (hn : n ≤ 2147483648) :
  Calls Tryz.prog 225 #[.slice none 0 0, .int .i64 n] w (RetSt w []) := by
 obtain ⟨i0, hi, hz0, hz1, hz2⟩ := info_parts infoS
 by_cases h0 : 0 < n
 ·have hrun := Lib.run_append_nil_zeros (P := Tryz.prog) w 120 3 120 9 i0 _ .i64 .i64 Tryz.underlying120 Tryz.underlying3 hi hz0 n h0 (by rw [hz1]; decide) (by omega) (by rw [hz2]; omega)
  have hge := grownCap_ge w n 0 9
  have hle := grownCap_le_maxLen w n 0 9 (by unfold maxLen; omega)
  unfold maxLen at hle
  have hown : OwnS (w.drew.alloc (.cells (Builtin.zeroCells (Value.string ⟨#[]⟩).cells n ++ Builtin.zeroCells (Value.string ⟨#[]⟩).cells (grownCap w n 0 9 - n)) 9)) w.heap.size (.slice (some ⟨w.heap.size, 0, none⟩) 0 (grownCap w n 0 9)) [] := by
   refine World.ownsRow_made w.drew _ _ (Nat.le_refl _) (by unfold maxLen; omega) ?_
   rw [Array.size_append, zeroCells_size, zeroCells_size]
   simp [Value.cells]
   omega
  have hk := ((Keeps.refl w).drew).alloc (.cells (Builtin.zeroCells (Value.string ⟨#[]⟩).cells n ++ Builtin.zeroCells (Value.string ⟨#[]⟩).cells (grownCap w n 0 9 - n)) 9)
  generalize w.drew.alloc (.cells (Builtin.zeroCells (Value.string ⟨#[]⟩).cells n ++ Builtin.zeroCells (Value.string ⟨#[]⟩).cells (grownCap w n 0 9 - n)) 9) = w1 at hrun hown hk
  generalize grownCap w n 0 9 = c1 at *
  have HR := hid hrun; clear hrun
  clear hz0 hz1 hz2 hi
  go_enter Tryz.func225, Tryz.ntmps225
  go_wp2_with (at_builtin; refine Lib.wpList_append_run _ rfl _ _ _ _ rfl _ _ rfl rfl _ _ HR.out ?_)
  go_ret
  exact ⟨_, rfl, hown, hk⟩
 ·obtain rfl : n = 0 := by omega
  go_enter Tryz.func225, Tryz.ntmps225
  go_wp2
  go_ret
  exact ⟨_, rfl, OwnS.nil _ _, Keeps.refl _⟩
set_option maxHeartbeats 1000000 in
theorem concatS_any (l : List (List ByteArray)) (v : Value) (w : World) (hv : StrL w v l) (hl : (fl l l.length).length ≤ 2147483648) :
  Calls Tryz.prog 209 #[v] w (RetSt w (fl l l.length)) := by
 have hv0 := hv
 obtain ⟨p, cap, rfl, hle, hmx, hlen, _⟩ := hv
 unfold maxLen at hmx
 go_enter Tryz.func209, Tryz.ntmps209
 go_wp2
 go_loop [3, 11] (fun s i' => ∃ k : Nat, k ≤ l.length ∧ i' = .int .i64 k ∧ s = .int .i64 (fl l k).length) (fun _ i => l.length - (intOf i).toNat)
 case atStart => exact ⟨0, by omega, rfl, rfl⟩
 case round =>
  obtain ⟨k, hk, rfl, rfl⟩ := hrel
  have hf := fl_le l k
  by_cases hlt : k < l.length
  ·obtain ⟨b, off, u, rfl, h1, hu0⟩ := hv0.get k hlt
   obtain ⟨pu, capu, rfl, g1, g2, g3, g4⟩ := hu0.at
   have hft := fl_succ l k hlt
   have hf2 := fl_le l (k + 1)
   have hlen2 : (fl l (k + 1)).length = (fl l k).length + l[k].length := by rw [hft]; simp
   have hsum : (fl l k).length + l[k].length ≤ 2147483648 := by omega
   have HL := hid hlen2; clear hlen2 hft hf2
   clear hv0
   go_wp2
   go_round
   case rel => exact ⟨k + 1, by omega, by go_num, by rw [HL.out]; go_num⟩
   case measure => simp [intOf]; omega
  ·obtain rfl : k = l.length := by omega
   clear hf hk hlt
   go_wp2_with (go_at_call 225; refine (growS_any _ _ hl).mono ?_; rintro e w1 ⟨v1, rfl, hv1, k1⟩)
   go_loopw [6, 27] (fun s i' wr => ∃ k : Nat, k ≤ l.length ∧ i' = .int .i64 k ∧ OwnS wr w.heap.size s (fl l k) ∧ Keeps w wr) (fun _ i _ => l.length - (intOf i).toNat)
   case atStart => exact ⟨0, by omega, rfl, hv1, k1⟩
   case round =>
    obtain ⟨k, hk, rfl, hown, kw⟩ := hrel
    by_cases hlt : k < l.length
    ·obtain ⟨b, off, u, rfl, h1, hu⟩ := (hv0.keeps kw).get k hlt
     have hft := fl_succ l k hlt
     have hf2 := fl_le l (k + 1)
     have hsum : (fl l k).length + l[k].length ≤ 2147483648 := by
      have : (fl l (k + 1)).length = (fl l k).length + l[k].length := by rw [hft]; simp
      omega
     have HF := hid hft; clear hft hf2
     clear hv0
     have hsz := kw.size
     go_wp2_with (at_builtin; refine appS rfl _ _ rfl w.heap.size _ _ rfl hown _ _ rfl hu hsz hsum ?_; intro v2 w2 hv2 hg2 hr2; have k2 : Keeps w w2 := kw.grown hg2 hr2)
     go_roundw
     case rel => exact ⟨k + 1, by omega, by go_num, by rw [HF.out]; exact hv2, k2⟩
     case measure => simp [intOf]; omega
    ·obtain rfl : k = l.length := by omega
     go_wp2
     go_ret
     exact ⟨_, rfl, hown, kw⟩
end Go.Proofs.YtfmmajgkjkmghaaGreat
namespace Go.Proofs.YtfmmajgkjkmghaaGreat
open Go.RowKit Go.Sort
def mkS (b : List UInt8) : ByteArray := ⟨b.toArray⟩
theorem bts_mkS (b : List UInt8) : bts (mkS b) = b := by simp [bts, mkS]
theorem enc_bts (s : ByteArray) : encStr (bts s) = .string s := by simp [encStr, bts]
theorem enc_mkS (b : List UInt8) : Value.string (mkS b) = encStr b := by simp [encStr, mkS]
theorem cells_enc (ss : List ByteArray) : strCells ss = (ss.map bts).map encStr := by
 simp [strCells, Function.comp_def, enc_bts]
def sortB (bs : List (List UInt8)) : List (List UInt8) := Lib.compact (bs.mergeSort fun x y => decide (x ≤ y))
def putL (ss tt : List ByteArray) : List ByteArray := (sortB ((ss ++ tt).map bts)).map mkS
theorem putL_cells (ss tt : List ByteArray) : strCells (putL ss tt) = (sortB ((ss ++ tt).map bts)).map encStr := by
 simp [putL, strCells, Function.comp_def, enc_mkS]
theorem sorted_own {w w1 : World} {g cap n nn q : Nat} {os : Array Obj} {bs : List (List UInt8)} (hown : w1.ownsRow w.heap.size 9 1 (.slice (some ⟨g, 0, none⟩) n cap) n (bs.map encStr)) (hbel : Keeps w w1) (hbg : w.heap.size ≤ g) (hlen : bs.length = n) :
  let w2 := putRow encStr (Sort.ahead (grow (putRow encStr (Sort.ahead w1 nn) g 0 (bs.mergeSort fun x y => decide (x ≤ y)).toArray) os) q) g 0 (sortB bs ++ List.replicate (n - (sortB bs).length) []).toArray
  w2.ownsRow w.heap.size 9 1 (.slice (some ⟨g, 0, none⟩) (sortB bs).length cap) (sortB bs).length ((sortB bs).map encStr) ∧ Keeps w w2 := by
 have hl2 : (bs.mergeSort fun x y => decide (x ≤ y)).length = bs.length := List.length_mergeSort bs
 have hle : (sortB bs).length ≤ _ := Lib.compact_length_le (bs.mergeSort fun x y => decide (x ≤ y))
 subst hlen
 rcases hown.2 with ⟨h0, _⟩ | ⟨g', cap', cur, hv, hbase, hb, h1, h2, h3, h4⟩
 ·cases h0
 cases hv
 have hs := ownsRow_sorted (n := nn) (os := os) (ts := bs.mergeSort fun x y => decide (x ≤ y)) hl2 hbase hb h1 h2 h3
 have hc := Lib.ownsRow_putRow (q := q) (k := (sortB bs).length) (ys := sortB bs ++ List.replicate (bs.length - (sortB bs).length) []) hs (by simp; omega) (by omega)
 rw [List.take_left] at hc
 exact ⟨hc, Lib.below_putRow (Below.grown hbel (grownBy_sorted _) hbel.size (fun j hj => by cases hj; exact hbase)) hbg⟩
theorem sorted_holds {w1 : World} {B g cap n nn : Nat} {os : Array Obj} {bs : List (List UInt8)} (hown : w1.ownsRow B 9 1 (.slice (some ⟨g, 0, none⟩) n cap) n (bs.map encStr)) (hlen : bs.length = n) :
  Holds encStr (grow (putRow encStr (Sort.ahead w1 nn) g 0 (bs.mergeSort fun x y => decide (x ≤ y)).toArray) os) g 0 (bs.mergeSort fun x y => decide (x ≤ y)).toArray := by
 have hl2 : (bs.mergeSort fun x y => decide (x ≤ y)).length = bs.length := List.length_mergeSort bs
 subst hlen
 rcases hown.2 with ⟨h0, _⟩ | ⟨g', cap', cur, hv, hbase, hb, h1, h2, h3, h4⟩
 ·cases h0
 cases hv
 have hs := ownsRow_sorted (n := nn) (os := os) (ts := bs.mergeSort fun x y => decide (x ≤ y)) hl2 hbase hb h1 h2 h3
 obtain ⟨g2, c2, e, _, _, _, _, _, hH⟩ := Lib.holds_of_ownsRow hs (by simp)
 cases e
 exact hH
end Go.Proofs.YtfmmajgkjkmghaaGreat
namespace Go.Proofs.YtfmmajgkjkmghaaGreat
open Go.RowKit Go.Sort
set_option maxRecDepth 100000 in
set_option maxHeartbeats 1000000 in
theorem put_any (ss tt : List ByteArray) (v u : Value) (w : World) (hv : Strs w v ss) (hu : Strs w u tt) (hl : ss.length + tt.length ≤ 1000000000) :
  Calls Tryz.prog 189 #[v, u] w fun e w' => ∃ v', e = .returned v' ∧ OwnS w' w.heap.size v' (putL ss tt) ∧ Keeps w w' := by
 obtain ⟨p1, n1, c1, rfl⟩ : ∃ p n c, v = .slice p n c := by obtain ⟨p, c, e, _⟩ := hv.at; exact ⟨p, _, c, e⟩
 obtain ⟨p2, n2, c2, rfl⟩ : ∃ p n c, u = .slice p n c := by obtain ⟨p, c, e, _⟩ := hu.at; exact ⟨p, _, c, e⟩
 have kl := (Keeps.refl w).alloc (.cells #[.slice p1 n1 c1, .slice p2 n2 c2] 120)
 have hC := concatS_any [ss, tt] _ _ (StrL.lit2 hv hu) (by simp [fl]; omega)
 rw [show fl [ss, tt] [ss, tt].length = ss ++ tt from by simp [fl]] at hC
 have hbs : ((ss ++ tt).map bts).length ≤ 1000000000 := by simp; omega
 have HC := hid hC; clear hC
 go_enter Tryz.func189, Tryz.ntmps189
 go_wp2_with fail
 refine HC.out.mono ?_; rintro e w1 ⟨v1, rfl, hv1, k1⟩
 replace hv1 := hv1.mono kl.size
 have kw := kl.trans k1
 by_cases hn : v1 = .slice none 0 0
 ·subst hn
  have h0 : ss ++ tt = [] := by
   obtain ⟨p, c, e, _⟩ := At.of_own hv1
   injection e with _ e2 _
   exact List.eq_nil_of_length_eq_zero e2.symm
  have hp : putL ss tt = [] := by simp [putL, h0, sortB, Lib.compact, Lib.compactUpTo]
  have HP := hid hp; clear hp h0
  go_wp2_with fail
  refine (Tryz.slices_Sort_string_none none 0 w1).mono ?_; rintro e w' ⟨rfl, rfl⟩
  go_wp2_with fail
  refine (Tryz.slices_Compact_string_empty none 0 _).mono ?_; rintro e w' ⟨rfl, rfl⟩
  go_wp2_with fail
  go_ret
  exact ⟨_, rfl, by rw [HP.out]; exact OwnS.nil _ _, kw⟩
 ·have hown : w1.ownsRow w.heap.size 9 1 v1 (ss ++ tt).length (((ss ++ tt).map bts).map encStr) := by rw [← cells_enc]; exact hv1
  obtain ⟨g, cap, rfl, hbg, hgl, hncap, hcm, hlen, hH⟩ := Lib.holds_of_ownsRow hown hn
  have hcells := putL_cells ss tt
  have hlp : (putL ss tt).length = (sortB ((ss ++ tt).map bts)).length := by simp [putL]
  have HCE := hid hcells; clear hcells
  have HLP := hid hlp; clear hlp
  generalize hb : (ss ++ tt).map bts = bs at *
  generalize hnn : (ss ++ tt).length = n at *
  have hsort := Tryz.slices_Sort_string g 0 cap bs w1 hH hgl (by omega)
  rw [hlen] at hsort
  have HS := hid hsort; clear hsort
  have HO := hid hown; clear hown
  clear hH hv1 hb hnn hn
  have hncap2 : n ≤ cap := hncap
  go_wp2_with fail
  refine HS.out.mono ?_; rintro e w2 ⟨rfl, nn, os, rfl⟩
  have hH2 := sorted_holds (nn := nn) (os := os) HO.out hlen
  have hlm : (bs.mergeSort fun x y => decide (x ≤ y)).length = n := by rw [List.length_mergeSort]; exact hlen
  have hcomp := Tryz.slices_Compact_string g 0 cap (bs.mergeSort fun x y => decide (x ≤ y)) _ hH2 (by omega) (by omega)
  rw [hlm] at hcomp
  have HK := hid hcomp; clear hcomp hH2
  have HE := hid (fun q => sorted_own (w := w) (nn := nn) (q := q) (os := os) HO.out kw hbg hlen)
  generalize hw2 : grow (putRow encStr (Sort.ahead w1 nn) g 0 (bs.mergeSort fun x y => decide (x ≤ y)).toArray) os = w2 at *
  go_wp2_with fail
  refine HK.out.mono ?_; rintro e w3 ⟨rfl, q, rfl⟩
  obtain ⟨ho, hk⟩ := HE.out q
  go_wp2_with fail
  go_ret
  refine ⟨_, rfl, ?_, hk⟩
  unfold OwnS
  rw [HCE.out, HLP.out]
  exact ho
end Go.Proofs.YtfmmajgkjkmghaaGreat
namespace Go.Proofs.YtfmmajgkjkmghaaGreat
open Go.RowKit
theorem range_getV (zs : List (List UInt8)) : (List.range zs.length).map (zs.toArray[·]!) = zs := by
 apply List.ext_getElem
 ·simp
 ·intro i h1 h2
  simp at h1
  simp [h1]
theorem compact_sub (zs : List (List UInt8)) : (Lib.compact zs).Sublist zs := by
 have h : ((List.range zs.length).filter (Lib.keeps zs.toArray)).Sublist (List.range zs.length) := List.filter_sublist
 have h2 := h.map (zs.toArray[·]!)
 rw [range_getV] at h2
 exact h2
theorem mem_compact (zs : List (List UInt8)) (j : Nat) (hj : j < zs.length) : zs.toArray[j]! ∈ Lib.compact zs := by
 induction j with
 | zero => exact List.mem_map.2 ⟨0, List.mem_filter.2 ⟨List.mem_range.2 hj, by simp [Lib.keeps]⟩, rfl⟩
 | succ j ih =>
  cases hk : Lib.keeps zs.toArray (j + 1)
  ·have : zs.toArray[j + 1]! = zs.toArray[j]! := by simpa [Lib.keeps] using hk
   rw [this]
   exact ih (by omega)
  ·exact List.mem_map.2 ⟨j + 1, List.mem_filter.2 ⟨List.mem_range.2 hj, hk⟩, rfl⟩
theorem compact_iff (zs : List (List UInt8)) (x : List UInt8) : x ∈ Lib.compact zs ↔ x ∈ zs := by
 constructor
 ·exact fun h => (compact_sub zs).subset h
 ·intro h
  obtain ⟨j, hj, rfl⟩ := List.getElem_of_mem h
  have := mem_compact zs j hj
  rwa [getElem!_pos _ _ (by simpa using hj), List.getElem_toArray] at this
theorem sortB_iff (zs : List (List UInt8)) (x : List UInt8) : x ∈ sortB zs ↔ x ∈ zs := by
 rw [sortB, compact_iff]
 exact (List.mergeSort_perm zs _).mem_iff
theorem perm_pre {α β : Type} (f : α → β) {l m : List β} (h : l.Perm m) : ∀ K : List α, m = K.map f → ∃ K' : List α, K'.Perm K ∧ l = K'.map f := by
 induction h with
 | nil => intro K hK; exact ⟨[], by rw [List.map_eq_nil_iff.1 hK.symm], rfl⟩
 | cons x _ ih =>
  intro K hK
  cases K with
  | nil => cases hK
  | cons a K =>
   injection hK with h1 h2
   obtain ⟨K', hp, e⟩ := ih K h2
   exact ⟨a :: K', hp.cons a, by rw [List.map_cons, e, h1]⟩
 | swap x y l =>
  intro K hK
  match K, hK with
  | a :: b :: K, hK =>
   injection hK with h1 h2
   injection h2 with h2 h3
   exact ⟨b :: a :: K, List.Perm.swap a b K, by simp [h1, h2, h3]⟩
 | trans _ _ ih1 ih2 =>
  intro K hK
  obtain ⟨K1, hp1, e1⟩ := ih2 K hK
  obtain ⟨K2, hp2, e2⟩ := ih1 K1 e1
  exact ⟨K2, hp2.trans hp1, e2⟩
theorem put_txts {ss tt : List ByteArray} {G H : List Fm} (h : Txts ss G) (k : Txts tt H) (hG : ∀ a ∈ G, a.wf) (hH : ∀ a ∈ H, a.wf) :
  ∃ R, Txts (putL ss tt) R ∧ (∀ a, a ∈ R ↔ a ∈ G ∨ a ∈ H) ∧ wts R ≤ wts G + wts H ∧ R.length ≤ G.length + H.length := by
 have hb : (ss ++ tt).map bts = (G ++ H).map Fm.body := h.append k
 obtain ⟨K, hp, e⟩ := perm_pre Fm.body (List.mergeSort_perm ((ss ++ tt).map bts) fun x y => decide (x ≤ y)) (G ++ H) hb
 have hs := compact_sub (((ss ++ tt).map bts).mergeSort fun x y => decide (x ≤ y))
 rw [e] at hs
 obtain ⟨R, hR, e2⟩ := List.sublist_map_iff.1 hs
 have hR0 : (putL ss tt).map bts = R.map Fm.body := by
  rw [← e2, ← e]
  simp [putL, Function.comp_def, bts_mkS, sortB]
 refine ⟨R, hR0, fun a => ?_, ?_, ?_⟩
 ·constructor
  ·intro ha
   have := hp.mem_iff.1 (hR.subset ha)
   exact List.mem_append.1 this
  ·intro ha
   have h1 : a.body ∈ (G ++ H).map Fm.body := List.mem_map.2 ⟨a, List.mem_append.2 ha, rfl⟩
   rw [← hb, ← sortB_iff, sortB, e, e2] at h1
   obtain ⟨c, hc, e3⟩ := List.mem_map.1 h1
   have hcw : c.wf := (List.mem_append.1 (hp.mem_iff.1 (hR.subset hc))).elim (hG c) (hH c)
   have haw : a.wf := ha.elim (hG a) (hH a)
   rwa [← body_inj hcw haw e3]
 ·have := wts_sub hR
  rw [wts_perm hp, wts_append] at this
  exact this
 ·have := hR.length_le
  rw [hp.length_eq, List.length_append] at this
  exact this
end Go.Proofs.YtfmmajgkjkmghaaGreat
namespace Go.Proofs.YtfmmajgkjkmghaaGreat
open Go.RowKit
set_option maxHeartbeats 400000 in
theorem indexFuncS (pr : ByteArray → Bool) (f : FuncId) (cp : Array Value) (a : List ByteArray) (v : Value) (w : World) (hv : Strs w v a) (hcf : Enters f)
  (hf : ∀ x w1, x ∈ a → Keeps w w1 → Calls Tryz.prog f (#[.string x] ++ cp) w1 fun e w2 => e = .returned (.bool (pr x)) ∧ Keeps w1 w2) :
  Calls Tryz.prog 256 #[v, .func (.func f) #[] cp] w fun e w' => e = .returned (.int .i64 (idxOf pr a 0)) ∧ Keeps w w' := by
 have hv0 := hv
 obtain ⟨p, cap, rfl, hle, hmx, _, hlen⟩ := hv.at
 unfold maxLen at hmx
 have HF := hid hf; clear hf
 have hcf' : ∀ args w, (callFunc f args).run Tryz.prog w = .ok (.enter f args) w := hcf
 clear hcf
 go_enter Tryz.func256, Tryz.ntmps256
 go_wp2
 go_loopw [4, 8] (fun r i' wr => ∃ k : Nat, k ≤ a.length ∧ idxOf pr a 0 = idxOf pr (a.drop k) k ∧ Keeps w wr ∧ i' = .int .i64 k ∧ r = .int .i64 0) (fun _ i _ => a.length - (intOf i).toNat)
 case atStart => exact ⟨0, by omega, by simp, Keeps.refl w, rfl, rfl⟩
 case round =>
  obtain ⟨k, hk, hs, kw, rfl, rfl⟩ := hrel
  have Hs := hid hs; clear hs
  by_cases hlt : k < a.length
  ·obtain ⟨b, off, rfl, h1⟩ := (hv0.keeps kw).get k hlt
   have hd := hid (idxOf_drop pr a k hlt)
   clear hv0
   cases hp : pr a[k]
   all_goals
    have Hp := hid hp; clear hp
    go_wp2_with ((with_reducible refine (HF.out a[k] wr (List.getElem_mem hlt) kw).mono ?_); rintro e w2 ⟨rfl, k2⟩; rw [Hp.out])
   ·go_roundw
    case rel => exact ⟨k + 1, by omega, by rw [Hs.out, hd.out, Hp.out]; rfl, kw.trans k2, by go_num, rfl⟩
    case measure => simp [intOf]; omega
   ·go_ret
    exact ⟨ret_int (by rw [Hs.out, hd.out, Hp.out]; rfl), kw.trans k2⟩
  ·go_wp2
   go_ret
   exact ⟨ret_int (by rw [Hs.out, idxOf_end _ _ _ (by omega)]), kw⟩
end Go.Proofs.YtfmmajgkjkmghaaGreat
