import Derived.Test.YtkkcfifnkcnceaaGreatHVA
import Derived.Sort.Walk0
import Derived.Test.YtkkcfifnkcnceaaGreatHBase
import Derived.Test.YtkkcfifnkcnceaaGreatHW5
import Derived.Test.YtkkcfifnkcnceaaGreatHV5
import Derived.BigQuiet
import Derived.Test.YtkkcfifnkcnceaaGreatHRK
/- Plain mathematics: strictly ascending lists of texts; sorting, one more text in its place. -/
namespace Go.Proofs.YtkkcfifnkcnceaaGreat
def Asc (l : List (List UInt8)) : Prop := l.Pairwise (· < ·)
theorem txt_irrefl (a : List UInt8) : ¬ a < a := List.lt_irrefl a
theorem txt_trans {a b c : List UInt8} (h : a < b) (k : b < c) : a < c := List.lt_trans h k
theorem txt_tri {a b : List UInt8} (h : ¬ a < b) (k : a ≠ b) : b < a := by
 rcases Std.lt_trichotomy (α := List UInt8) a b with h1 | h1 | h1
 ·exact absurd h1 h
 ·exact absurd h1 k
 ·exact h1
theorem txt_le {a b : List UInt8} : a ≤ b ↔ ¬ b < a := Iff.rfl
theorem Asc.ext : ∀ {l m : List (List UInt8)}, Asc l → Asc m → (∀ x, x ∈ l ↔ x ∈ m) → l = m
 | [], [], _, _, _ => rfl
 | [], y :: m, _, _, h => absurd ((h y).2 (List.mem_cons_self ..)) (by simp)
 | x :: l, [], _, _, h => absurd ((h x).1 (List.mem_cons_self ..)) (by simp)
 | x :: l, y :: m, h1, h2, h => by
  have a1 := List.pairwise_cons.1 h1
  have a2 := List.pairwise_cons.1 h2
  have hx := (h x).1 (List.mem_cons_self ..)
  have hy := (h y).2 (List.mem_cons_self ..)
  have hxy : x = y := by
   rcases List.mem_cons.1 hx with e | hx'
   ·exact e
   ·rcases List.mem_cons.1 hy with e | hy'
    ·exact e.symm
    ·exact absurd (txt_trans (a2.1 x hx') (a1.1 y hy')) (txt_irrefl _)
  subst hxy
  rw [Asc.ext (l := l) (m := m) a1.2 a2.2 (fun z => by
   have hz := h z
   constructor
   ·intro hzl
    have hne : z ≠ x := fun e => by subst e; exact txt_irrefl _ (a1.1 z hzl)
    have := hz.1 (List.mem_cons_of_mem _ hzl)
    rcases List.mem_cons.1 this with e | e
    ·exact absurd e hne
    ·exact e
   ·intro hzm
    have hne : z ≠ x := fun e => by subst e; exact txt_irrefl _ (a2.1 z hzm)
    have := hz.2 (List.mem_cons_of_mem _ hzm)
    rcases List.mem_cons.1 this with e | e
    ·exact absurd e hne
    ·exact e)]
def insB : List (List UInt8) → List UInt8 → List (List UInt8)
 | [], x => [x]
 | y :: l, x => if y < x then y :: insB l x else if y = x then y :: l else x :: y :: l
theorem insB_mem : ∀ (l : List (List UInt8)) (x z : List UInt8), z ∈ insB l x ↔ z ∈ l ∨ z = x
 | [], x, z => by simp [insB]
 | y :: l, x, z => by
  unfold insB
  split
  ·rw [List.mem_cons, insB_mem l x z, List.mem_cons, or_assoc]
  ·split
   ·rename_i e
    subst e
    constructor
    ·exact .inl
    ·rintro (h | h)
     ·exact h
     ·subst h; exact List.mem_cons_self ..
   ·rw [List.mem_cons, or_comm]
theorem insB_asc : ∀ {l : List (List UInt8)} (x : List UInt8), Asc l → Asc (insB l x)
 | [], x, _ => by simp [insB, Asc]
 | y :: l, x, h => by
  have a := List.pairwise_cons.1 h
  unfold insB
  split
  ·rename_i hlt
   refine List.pairwise_cons.2 ⟨fun z hz => ?_, insB_asc x a.2⟩
   rcases (insB_mem l x z).1 hz with h1 | h1
   ·exact a.1 z h1
   ·subst h1; exact hlt
  ·rename_i hlt
   split
   ·exact h
   ·rename_i hne
    have hxy := txt_tri hlt hne
    refine List.pairwise_cons.2 ⟨fun z hz => ?_, h⟩
    rcases List.mem_cons.1 hz with e | e
    ·subst e; exact hxy
    ·exact txt_trans hxy (a.1 z e)
theorem insB_at : ∀ (l : List (List UInt8)) (x : List UInt8) (k : Nat), k ≤ l.length → (∀ j (h : j < l.length), j < k → l[j] < x) → (∀ h : k < l.length, ¬ l[k] < x) →
  insB l x = if l[k]? = some x then l else l.take k ++ [x] ++ l.drop k
 | [], x, k, hk, _, _ => by
  obtain rfl : k = 0 := by simpa using hk
  simp [insB]
 | y :: l, x, 0, _, _, h => by
  have h0 := h (by simp)
  simp only [List.getElem_cons_zero] at h0
  unfold insB
  rw [if_neg h0]
  simp only [List.getElem?_cons_zero, Option.some.injEq, List.take_zero, List.nil_append, List.drop_zero]
  split <;> rfl
 | y :: l, x, k + 1, hk, h1, h2 => by
  have h0 := h1 0 (by simp) (by omega)
  simp only [List.getElem_cons_zero] at h0
  unfold insB
  rw [if_pos h0, insB_at l x k (by simpa using hk) (fun j hj hjk => by
   have := h1 (j + 1) (by simpa using hj) (by omega)
   simpa using this) (fun hk2 => by
   have := h2 (by simpa using hk2)
   simpa using this)]
  simp only [List.getElem?_cons_succ, List.take_succ_cons, List.drop_succ_cons]
  split <;> simp
theorem sorted_le (bs : List (List UInt8)) : (bs.mergeSort fun x y => decide (x ≤ y)).Pairwise (· ≤ ·) := by
 have h := List.pairwise_mergeSort (le := fun x y : List UInt8 => decide (x ≤ y)) (fun a b c h1 h2 => by
  simp only [decide_eq_true_eq] at *
  exact Std.le_trans h1 h2) (fun a b => by
  simp only [Bool.or_eq_true, decide_eq_true_eq]
  exact Std.le_total) bs
 exact h.imp (fun h => by simpa using h)
theorem compact_asc {zs : List (List UInt8)} (h : zs.Pairwise (· ≤ ·)) : Asc (Lib.compact zs) := by
 unfold Lib.compact Lib.compactUpTo Asc
 rw [List.pairwise_map, List.pairwise_filter, List.pairwise_iff_getElem]
 intro i j hi hj hij
 simp only [List.length_range] at hi hj
 simp only [List.getElem_range]
 intro _ hk
 have hle : ∀ p q, p ≤ q → q < zs.length → zs.toArray[p]! ≤ zs.toArray[q]! := fun p q hpq hq => by
  rcases Nat.eq_or_lt_of_le hpq with e | e
  ·subst e; exact Std.le_refl _
  ·have := List.pairwise_iff_getElem.1 h p q (by omega) hq e
   simpa [hq, show p < zs.length by omega] using this
 have h1 := hle i (j - 1) (by omega) (by omega)
 have h3 := hle (j - 1) j (by omega) hj
 have hne : zs.toArray[j]! ≠ zs.toArray[j - 1]! := by
  unfold Lib.keeps at hk
  rcases of_decide_eq_true hk with e | e
  ·omega
  ·exact e
 have h4 := txt_tri (txt_le.1 h3) hne
 by_cases e : zs.toArray[i]! = zs.toArray[j - 1]!
 ·rw [e]; exact h4
 ·exact txt_trans (txt_tri (txt_le.1 h1) (Ne.symm e)) h4
theorem sortB_asc (bs : List (List UInt8)) : Asc (sortB bs) := compact_asc (sorted_le bs)
end Go.Proofs.YtkkcfifnkcnceaaGreat
namespace Go.Proofs.YtkkcfifnkcnceaaGreat
def subs : Fm → List Fm
 | .var v => [.var v]
 | .fls => [.fls]
 | .and a b => .and a b :: (subs a ++ subs b)
 | .or a b => .or a b :: (subs a ++ subs b)
 | .imp a b => .imp a b :: (subs a ++ subs b)
 | .box a => .box a :: subs a
 | .dia a => .dia a :: subs a
theorem subs_len (t : Fm) : (subs t).length = t.enc.length := by
 induction t <;> simp [subs, Fm.enc, *]
theorem subs_self (t : Fm) : t ∈ subs t := by cases t <;> simp [subs]
theorem subs_wf {t : Fm} (h : t.wf) : ∀ x ∈ subs t, x.wf := by
 induction t with
 | var v => intro x hx; simp [subs] at hx; subst hx; exact h
 | fls => intro x hx; simp [subs] at hx; subst hx; exact h
 | and a b ha hb => intro x hx; simp [subs] at hx; rcases hx with rfl | hx | hx; exact h; exact ha h.1 x hx; exact hb h.2 x hx
 | or a b ha hb => intro x hx; simp [subs] at hx; rcases hx with rfl | hx | hx; exact h; exact ha h.1 x hx; exact hb h.2 x hx
 | imp a b ha hb => intro x hx; simp [subs] at hx; rcases hx with rfl | hx | hx; exact h; exact ha h.1 x hx; exact hb h.2 x hx
 | box a ha => intro x hx; simp [subs] at hx; rcases hx with rfl | hx; exact h; exact ha h x hx
 | dia a ha => intro x hx; simp [subs] at hx; rcases hx with rfl | hx; exact h; exact ha h x hx
theorem subs_le {t : Fm} : ∀ x ∈ subs t, x.enc.length ≤ t.enc.length := by
 induction t with
 | var v => intro x hx; simp [subs] at hx; subst hx; exact Nat.le_refl _
 | fls => intro x hx; simp [subs] at hx; subst hx; exact Nat.le_refl _
 | and a b ha hb => intro x hx; simp [subs] at hx; simp only [Fm.enc, List.length_cons, List.length_append]; rcases hx with rfl | hx | hx; simp only [Fm.enc, List.length_cons, List.length_append]; omega; have := ha x hx; omega; have := hb x hx; omega
 | or a b ha hb => intro x hx; simp [subs] at hx; simp only [Fm.enc, List.length_cons, List.length_append]; rcases hx with rfl | hx | hx; simp only [Fm.enc, List.length_cons, List.length_append]; omega; have := ha x hx; omega; have := hb x hx; omega
 | imp a b ha hb => intro x hx; simp [subs] at hx; simp only [Fm.enc, List.length_cons, List.length_append]; rcases hx with rfl | hx | hx; simp only [Fm.enc, List.length_cons, List.length_append]; omega; have := ha x hx; omega; have := hb x hx; omega
 | box a ha => intro x hx; simp [subs] at hx; simp only [Fm.enc, List.length_cons]; rcases hx with rfl | hx; simp only [Fm.enc, List.length_cons]; omega; have := ha x hx; omega
 | dia a ha => intro x hx; simp [subs] at hx; simp only [Fm.enc, List.length_cons]; rcases hx with rfl | hx; simp only [Fm.enc, List.length_cons]; omega; have := ha x hx; omega
theorem subs_at (t : Fm) : ∀ (i : Nat) (h : i < (subs t).length), ∃ l r : List Nd, t.enc = l ++ ((subs t)[i].enc ++ r) ∧ l.length = i := by
 have two : ∀ (n : Nd) (c a b : Fm), c.enc = n :: (a.enc ++ b.enc) → subs c = c :: (subs a ++ subs b) →
   (∀ (i : Nat) (h : i < (subs a).length), ∃ l r : List Nd, a.enc = l ++ ((subs a)[i].enc ++ r) ∧ l.length = i) →
   (∀ (i : Nat) (h : i < (subs b).length), ∃ l r : List Nd, b.enc = l ++ ((subs b)[i].enc ++ r) ∧ l.length = i) →
   ∀ (i : Nat) (h : i < (subs c).length), ∃ l r : List Nd, c.enc = l ++ ((subs c)[i].enc ++ r) ∧ l.length = i := by
  intro n c a b hc hs ha hb i h
  cases i with
  | zero => exact ⟨[], [], by simp [hs], rfl⟩
  | succ i =>
   have hg : (subs c)[i + 1] = (subs a ++ subs b)[i]'(by rw [hs] at h; simpa using h) := by simp [hs]
   rw [hg]
   by_cases hi : i < (subs a).length
   ·obtain ⟨l, r, h1, h2⟩ := ha i hi
    refine ⟨n :: l, r ++ b.enc, ?_, by simp [h2]⟩
    rw [hc, List.getElem_append_left hi]
    conv => lhs; rw [h1]
    simp
   ·have hib : i - (subs a).length < (subs b).length := by rw [hs] at h; simp at h; omega
    obtain ⟨l, r, h1, h2⟩ := hb (i - (subs a).length) hib
    refine ⟨n :: (a.enc ++ l), r, ?_, by simp [h2, ← subs_len a]; omega⟩
    rw [hc, List.getElem_append_right (by omega)]
    conv => lhs; rw [h1]
    simp
 have one : ∀ (n : Nd) (c a : Fm), c.enc = n :: a.enc → subs c = c :: subs a →
   (∀ (i : Nat) (h : i < (subs a).length), ∃ l r : List Nd, a.enc = l ++ ((subs a)[i].enc ++ r) ∧ l.length = i) →
   ∀ (i : Nat) (h : i < (subs c).length), ∃ l r : List Nd, c.enc = l ++ ((subs c)[i].enc ++ r) ∧ l.length = i := by
  intro n c a hc hs ha i h
  cases i with
  | zero => exact ⟨[], [], by simp [hs], rfl⟩
  | succ i =>
   have hg : (subs c)[i + 1] = (subs a)[i]'(by rw [hs] at h; simpa using h) := by simp [hs]
   rw [hg]
   obtain ⟨l, r, h1, h2⟩ := ha i (by rw [hs] at h; simpa using h)
   refine ⟨n :: l, r, ?_, by simp [h2]⟩
   rw [hc]
   conv => lhs; rw [h1]
   simp
 induction t with
 | var v => intro i h; obtain rfl : i = 0 := by simpa [subs] using h
            exact ⟨[], [], by simp [subs], rfl⟩
 | fls => intro i h; obtain rfl : i = 0 := by simpa [subs] using h
          exact ⟨[], [], by simp [subs], rfl⟩
 | and a b ha hb => exact two _ _ a b rfl rfl ha hb
 | or a b ha hb => exact two _ _ a b rfl rfl ha hb
 | imp a b ha hb => exact two _ _ a b rfl rfl ha hb
 | box a ha => exact one _ _ a rfl rfl ha
 | dia a ha => exact one _ _ a rfl rfl ha
def isMo : Fm → Bool
 | .box _ => true
 | .dia _ => true
 | _ => false
def isBx : Fm → Bool
 | .box _ => true
 | _ => false
def below : Fm → Fm
 | .box a => a
 | .dia a => a
 | t => t
end Go.Proofs.YtkkcfifnkcnceaaGreat
namespace Go.Proofs.YtkkcfifnkcnceaaGreat
open Go.RowKit
theorem bts_append (s t : ByteArray) : bts (s ++ t) = bts s ++ bts t := by simp [bts]
theorem isNeg_imp (a b : Fm) : (Fm.imp a b).isNeg = b.isFls := by cases b <;> rfl
theorem lev_imp (a b : Fm) : (Fm.imp a b).lev = if b.isFls then 3 else 0 := rfl
theorem levelOf_any (t : Fm) (v : Value) (w : World) (hv : Nds w v t.enc) :
  Calls Tryz.prog 177 #[v] w fun e w' => e = .returned (.int .i64 t.lev) ∧ w = w' := by
 have hv0 := hv
 obtain ⟨b, off, n, cap, rfl, h0, h1, h2, h3, hc, _⟩ := hv.root
 cases t with
 | imp x y =>
  replace hc : w.cell? ⟨b, off, none⟩ = some (.int .i64 4) := hc
  have hn := isNegation_any (.imp x y) _ _ hv0
  rw [isNeg_imp] at hn
  rw [lev_imp]
  cases hf : y.isFls
  ·rw [hf] at hn
   have HN := hid hn; clear hn
   go_enter Tryz.func177, Tryz.ntmps177
   go_wp2_with (go_at_call 178; refine HN.out.mono ?_; rintro e w' ⟨rfl, rfl⟩)
   go_ret
   exact ⟨rfl, rfl⟩
  ·rw [hf] at hn
   have HN := hid hn; clear hn
   go_enter Tryz.func177, Tryz.ntmps177
   go_wp2_with (go_at_call 178; refine HN.out.mono ?_; rintro e w' ⟨rfl, rfl⟩)
   go_ret
   exact ⟨rfl, rfl⟩
 | var _ => 
  replace hc : w.cell? ⟨b, off, none⟩ = some (.int .i64 0) := hc
  go_enter Tryz.func177, Tryz.ntmps177
  go_wp2
  go_ret
  exact ⟨rfl, rfl⟩
 | fls =>
  replace hc : w.cell? ⟨b, off, none⟩ = some (.int .i64 1) := hc
  go_enter Tryz.func177, Tryz.ntmps177
  go_wp2
  go_ret
  exact ⟨rfl, rfl⟩
 | and _ _ =>
  replace hc : w.cell? ⟨b, off, none⟩ = some (.int .i64 2) := hc
  go_enter Tryz.func177, Tryz.ntmps177
  go_wp2
  go_ret
  exact ⟨rfl, rfl⟩
 | or _ _ =>
  replace hc : w.cell? ⟨b, off, none⟩ = some (.int .i64 3) := hc
  go_enter Tryz.func177, Tryz.ntmps177
  go_wp2
  go_ret
  exact ⟨rfl, rfl⟩
 | box _ =>
  replace hc : w.cell? ⟨b, off, none⟩ = some (.int .i64 5) := hc
  go_enter Tryz.func177, Tryz.ntmps177
  go_wp2
  go_ret
  exact ⟨rfl, rfl⟩
 | dia _ =>
  replace hc : w.cell? ⟨b, off, none⟩ = some (.int .i64 6) := hc
  go_enter Tryz.func177, Tryz.ntmps177
  go_wp2
  go_ret
  exact ⟨rfl, rfl⟩
end Go.Proofs.YtkkcfifnkcnceaaGreat
namespace Go.Proofs.YtkkcfifnkcnceaaGreat
open Go.RowKit
theorem bts_len (s : ByteArray) : (bts s).length = s.size := rfl
theorem txt_size {t : Fm} {l : Nat} {s : ByteArray} (h : bts s = t.txt l) (hl : t.enc.length ≤ 100000000) : s.size ≤ 600000000 := by
 have h1 := par_len (decide (t.lev < l)) t.body
 have h2 := body_len t
 rw [← bts_len, h]
 unfold Fm.txt
 omega
def TxtOk (t : Fm) : Prop := t.enc.length ≤ 100000000 → ∀ (l : Nat) (k : Int), k = (l : Int) → ∀ (v : Value) (w : World), Nds w v t.enc →
 Calls Tryz.prog 137 #[v, .int .i64 k] w fun e w' => ∃ s, e = .returned (.string s) ∧ bts s = t.txt l ∧ Keeps w w'
def BodyOk (t : Fm) : Prop := t.enc.length ≤ 100000000 → ∀ (k : Int), ¬ ((t.lev : Int) < k) → ∀ (v : Value) (w : World), Nds w v t.enc →
 Calls Tryz.prog 137 #[v, .int .i64 k] w fun e w' => ∃ s, e = .returned (.string s) ∧ bts s = t.body ∧ Keeps w w'
theorem TxtOk.of {t : Fm} (h : BodyOk t) : TxtOk t := by
 intro hL l k hk v w hv
 by_cases hl : (t.lev : Int) < k
 ·have hb := hid (h hL 0 (by omega) v w hv)
  have hr : t.txt l = 40 :: (t.body ++ [41]) := by simp only [Fm.txt, Fm.par]; rw [decide_eq_true (by omega)]; rfl
  rw [hr]
  clear hr hk
  go_enter Tryz.func137, Tryz.ntmps137
  go_wp2_with fail
  refine (levelOf_any t _ _ hv).mono ?_; rintro e w' ⟨rfl, rfl⟩
  go_wp2_with fail
  refine hb.out.mono ?_; rintro e w1 ⟨s, rfl, hs, k1⟩
  have z1 := txt_size (l := 0) (by rw [Fm.txt0]; exact hs) hL
  go_wp2_with fail
  go_ret
  exact ⟨_, rfl, by simp only [bts_append, hs]; rfl, k1⟩
 ·have hr : t.txt l = t.body := by simp only [Fm.txt, Fm.par]; rw [decide_eq_false (by omega)]; rfl
  rw [hr]
  exact h hL k hl v w hv
theorem bodyAnd (x y : Fm) (hx : TxtOk x) (hy : TxtOk y) : BodyOk (.and x y) := by
 intro hL k hk v w hv
 simp only [Fm.enc, List.length_cons, List.length_append] at hL
 have hv0 := hv
 obtain ⟨b, off, n, cap, rfl, h0, h1, h2, h3, hc, _⟩ := hv.root
 replace hc : w.cell? ⟨b, off, none⟩ = some (.int .i64 2) := hc
 have HX := hid (hx (by omega)); clear hx
 have HY := hid (hy (by omega)); clear hy
 go_enter Tryz.func137, Tryz.ntmps137
 go_wp2_with fail
 refine (levelOf_any _ _ _ hv).mono ?_; rintro e w' ⟨rfl, rfl⟩
 go_wp2_with fail
 refine (first_any _ _ x y.enc _ _ hv0 rfl).mono ?_; rintro e w' ⟨v1, rfl, hv1, rfl⟩
 go_wp2_with fail
 refine (HX.out 2 _ rfl _ _ hv1).mono ?_; rintro e w1 ⟨s1, rfl, hs1, k1⟩
 have z1 := txt_size hs1 (by omega)
 go_wp2_with fail
 refine (second_any _ _ x y _ _ (hv0.keeps k1) rfl).mono ?_; rintro e w' ⟨v2, rfl, hv2, rfl⟩
 go_wp2_with fail
 refine (HY.out 3 _ rfl _ _ hv2).mono ?_; rintro e w2 ⟨s2, rfl, hs2, k2⟩
 have z2 := txt_size hs2 (by omega)
 go_wp2_with fail
 go_ret
 exact ⟨_, rfl, by simp only [bts_append, hs1, hs2, Fm.body, Fm.txt, List.append_assoc]; rfl, k1.trans k2⟩
theorem bodyOr (x y : Fm) (hx : TxtOk x) (hy : TxtOk y) : BodyOk (.or x y) := by
 intro hL k hk v w hv
 simp only [Fm.enc, List.length_cons, List.length_append] at hL
 have hv0 := hv
 obtain ⟨b, off, n, cap, rfl, h0, h1, h2, h3, hc, _⟩ := hv.root
 replace hc : w.cell? ⟨b, off, none⟩ = some (.int .i64 3) := hc
 have HX := hid (hx (by omega)); clear hx
 have HY := hid (hy (by omega)); clear hy
 go_enter Tryz.func137, Tryz.ntmps137
 go_wp2_with fail
 refine (levelOf_any _ _ _ hv).mono ?_; rintro e w' ⟨rfl, rfl⟩
 go_wp2_with fail
 refine (first_any _ _ x y.enc _ _ hv0 rfl).mono ?_; rintro e w' ⟨v1, rfl, hv1, rfl⟩
 go_wp2_with fail
 refine (HX.out 1 _ rfl _ _ hv1).mono ?_; rintro e w1 ⟨s1, rfl, hs1, k1⟩
 have z1 := txt_size hs1 (by omega)
 go_wp2_with fail
 refine (second_any _ _ x y _ _ (hv0.keeps k1) rfl).mono ?_; rintro e w' ⟨v2, rfl, hv2, rfl⟩
 go_wp2_with fail
 refine (HY.out 2 _ rfl _ _ hv2).mono ?_; rintro e w2 ⟨s2, rfl, hs2, k2⟩
 have z2 := txt_size hs2 (by omega)
 go_wp2_with fail
 go_ret
 exact ⟨_, rfl, by simp only [bts_append, hs1, hs2, Fm.body, Fm.txt, List.append_assoc]; rfl, k1.trans k2⟩
theorem bodyBox (x : Fm) (hx : TxtOk x) : BodyOk (.box x) := by
 intro hL k hk v w hv
 simp only [Fm.enc, List.length_cons] at hL
 have hv0 := hv
 obtain ⟨b, off, n, cap, rfl, h0, h1, h2, h3, hc, hsy⟩ := hv.root
 replace hc : w.cell? ⟨b, off, none⟩ = some (.int .i64 5) := hc
 have HX := hid (hx (by omega)); clear hx
 go_enter Tryz.func137, Tryz.ntmps137
 go_wp2_with fail
 refine (levelOf_any _ _ _ hv).mono ?_; rintro e w' ⟨rfl, rfl⟩
 go_wp2_with fail
 refine (first_any _ ⟨5, 0⟩ x [] _ _ hv0 (by simp [Fm.enc])).mono ?_; rintro e w' ⟨v1, rfl, hv1, rfl⟩
 go_wp2_with fail
 refine (HX.out 3 _ rfl _ _ hv1).mono ?_; rintro e w1 ⟨s1, rfl, hs1, k1⟩
 have z1 := txt_size hs1 (by omega)
 go_wp2_with fail
 go_ret
 exact ⟨_, rfl, by simp only [bts_append, hs1, Fm.body, Fm.txt]; rfl, k1⟩
theorem bodyDia (x : Fm) (hx : TxtOk x) : BodyOk (.dia x) := by
 intro hL k hk v w hv
 simp only [Fm.enc, List.length_cons] at hL
 have hv0 := hv
 obtain ⟨b, off, n, cap, rfl, h0, h1, h2, h3, hc, hsy⟩ := hv.root
 replace hc : w.cell? ⟨b, off, none⟩ = some (.int .i64 6) := hc
 have HX := hid (hx (by omega)); clear hx
 go_enter Tryz.func137, Tryz.ntmps137
 go_wp2_with fail
 refine (levelOf_any _ _ _ hv).mono ?_; rintro e w' ⟨rfl, rfl⟩
 go_wp2_with fail
 refine (first_any _ ⟨6, 0⟩ x [] _ _ hv0 (by simp [Fm.enc])).mono ?_; rintro e w' ⟨v1, rfl, hv1, rfl⟩
 go_wp2_with fail
 refine (HX.out 3 _ rfl _ _ hv1).mono ?_; rintro e w1 ⟨s1, rfl, hs1, k1⟩
 have z1 := txt_size hs1 (by omega)
 go_wp2_with fail
 go_ret
 exact ⟨_, rfl, by simp only [bts_append, hs1, Fm.body, Fm.txt]; rfl, k1⟩
theorem bodyFls : BodyOk .fls := by
 intro hL k hk v w hv
 simp only [Fm.enc, List.length_cons] at hL
 have hv0 := hv
 obtain ⟨b, off, n, cap, rfl, h0, h1, h2, h3, hc, hsy⟩ := hv.root
 replace hc : w.cell? ⟨b, off, none⟩ = some (.int .i64 1) := hc
 go_enter Tryz.func137, Tryz.ntmps137
 go_wp2_with fail
 refine (levelOf_any _ _ _ hv).mono ?_; rintro e w' ⟨rfl, rfl⟩
 go_wp2_with fail
 go_ret
 exact ⟨_, rfl, rfl, Keeps.refl _⟩
theorem bodyImp (x y : Fm) (hf : y.isFls = false) (hx : TxtOk x) (hy : TxtOk y) : BodyOk (.imp x y) := by
 intro hL k hk v w hv
 simp only [Fm.enc, List.length_cons, List.length_append] at hL
 have hv0 := hv
 obtain ⟨b, off, n, cap, rfl, h0, h1, h2, h3, hc, hsy⟩ := hv.root
 replace hc : w.cell? ⟨b, off, none⟩ = some (.int .i64 4) := hc
 have HX := hid (hx (by omega)); clear hx
 have HY := hid (hy (by omega)); clear hy
 have hB : (Fm.imp x y).body = x.txt 1 ++ 62 :: y.body := by simp [Fm.body, Fm.txt, hf]
 have hn := isNegation_any (.imp x y) _ _ hv0
 rw [isNeg_imp, hf] at hn
 have HN := hid hn; clear hn
 have HB := hid hB; clear hB hf
 go_enter Tryz.func137, Tryz.ntmps137
 go_wp2_with fail
 refine (levelOf_any _ _ _ hv).mono ?_; rintro e w' ⟨rfl, rfl⟩
 go_wp2_with fail
 refine HN.out.mono ?_; rintro e w' ⟨rfl, rfl⟩
 go_wp2_with fail
 refine (first_any _ _ x y.enc _ _ hv0 rfl).mono ?_; rintro e w' ⟨v1, rfl, hv1, rfl⟩
 go_wp2_with fail
 refine (HX.out 1 _ rfl _ _ hv1).mono ?_; rintro e w1 ⟨s1, rfl, hs1, k1⟩
 have z1 := txt_size hs1 (by omega)
 go_wp2_with fail
 refine (second_any _ _ x y _ _ (hv0.keeps k1) rfl).mono ?_; rintro e w' ⟨v2, rfl, hv2, rfl⟩
 go_wp2_with fail
 refine (HY.out 0 _ rfl _ _ hv2).mono ?_; rintro e w2 ⟨s2, rfl, hs2, k2⟩
 have z2 := txt_size hs2 (by omega)
 go_wp2_with fail
 go_ret
 exact ⟨_, rfl, by rw [HB.out]; simp only [bts_append, hs1, hs2, Fm.txt0, List.append_assoc]; rfl, k1.trans k2⟩
theorem bodyTop (x y : Fm) (hf : y.isFls = true) (hx1 : x.isFls = true) : BodyOk (.imp x y) := by
 intro hL k hk v w hv
 simp only [Fm.enc, List.length_cons, List.length_append] at hL
 have hv0 := hv
 obtain ⟨b, off, n, cap, rfl, h0, h1, h2, h3, hc, hsy⟩ := hv.root
 replace hc : w.cell? ⟨b, off, none⟩ = some (.int .i64 4) := hc
 have hB : (Fm.imp x y).body = [84] := by simp [Fm.body, hf, hx1]
 have hn := isNegation_any (.imp x y) _ _ hv0
 rw [isNeg_imp, hf] at hn
 have HN := hid hn; clear hn
 have HB := hid hB; clear hB hf
 have HX1 := hid hx1; clear hx1
 go_enter Tryz.func137, Tryz.ntmps137
 go_wp2_with fail
 refine (levelOf_any _ _ _ hv).mono ?_; rintro e w' ⟨rfl, rfl⟩
 go_wp2_with fail
 refine HN.out.mono ?_; rintro e w' ⟨rfl, rfl⟩
 go_wp2_with fail
 refine (first_any _ _ x y.enc _ _ hv0 rfl).mono ?_; rintro e w' ⟨v1, rfl, hv1, rfl⟩
 go_wp2_with fail
 refine (isFalsum_any x _ _ hv1).mono ?_; rintro e w' ⟨rfl, rfl⟩; rw [HX1.out]
 go_wp2_with fail
 go_ret
 exact ⟨_, rfl, by rw [HB.out]; rfl, Keeps.refl _⟩
theorem bodyNeg (x y : Fm) (hf : y.isFls = true) (hx1 : x.isFls = false) (hx : TxtOk x) : BodyOk (.imp x y) := by
 intro hL k hk v w hv
 simp only [Fm.enc, List.length_cons, List.length_append] at hL
 have hv0 := hv
 obtain ⟨b, off, n, cap, rfl, h0, h1, h2, h3, hc, hsy⟩ := hv.root
 replace hc : w.cell? ⟨b, off, none⟩ = some (.int .i64 4) := hc
 have HX := hid (hx (by omega)); clear hx
 have hB : (Fm.imp x y).body = 126 :: x.txt 3 := by simp [Fm.body, Fm.txt, hf, hx1]
 have hn := isNegation_any (.imp x y) _ _ hv0
 rw [isNeg_imp, hf] at hn
 have HN := hid hn; clear hn
 have HB := hid hB; clear hB hf
 have HX1 := hid hx1; clear hx1
 go_enter Tryz.func137, Tryz.ntmps137
 go_wp2_with fail
 refine (levelOf_any _ _ _ hv).mono ?_; rintro e w' ⟨rfl, rfl⟩
 go_wp2_with fail
 refine HN.out.mono ?_; rintro e w' ⟨rfl, rfl⟩
 go_wp2_with fail
 refine (first_any _ _ x y.enc _ _ hv0 rfl).mono ?_; rintro e w' ⟨v1, rfl, hv1, rfl⟩
 go_wp2_with fail
 refine (isFalsum_any x _ _ hv1).mono ?_; rintro e w' ⟨rfl, rfl⟩; rw [HX1.out]
 go_wp2_with fail
 refine (first_any _ _ x y.enc _ _ hv0 rfl).mono ?_; rintro e w' ⟨v2, rfl, hv2, rfl⟩
 go_wp2_with fail
 refine (HX.out 3 _ rfl _ _ hv2).mono ?_; rintro e w1 ⟨s1, rfl, hs1, k1⟩
 have z1 := txt_size hs1 (by omega)
 go_wp2_with fail
 go_ret
 exact ⟨_, rfl, by rw [HB.out]; simp only [bts_append, hs1]; rfl, k1⟩
theorem bodyVar (i : Nat) (hi : i < 6) : BodyOk (.var i) := by
 intro hL k hk v w hv
 simp only [Fm.enc, List.length_cons] at hL
 have hv0 := hv
 obtain ⟨b, off, n, cap, rfl, h0, h1, h2, h3, hc, hsy⟩ := hv.root
 replace hc : w.cell? ⟨b, off, none⟩ = some (.int .i64 0) := hc
 replace hsy : w.cell? ⟨b, off + 1, none⟩ = some (.int .i64 (i : Int)) := hsy
 have hcase : i = 0 ∨ i = 1 ∨ i = 2 ∨ i = 3 ∨ i = 4 ∨ i = 5 := by omega
 rcases hcase with rfl | rfl | rfl | rfl | rfl | rfl
 ·replace hsy : w.cell? ⟨b, off + 1, none⟩ = some (.int .i64 0) := hsy
  go_enter Tryz.func137, Tryz.ntmps137
  go_wp2_with fail
  refine (levelOf_any _ _ _ hv).mono ?_; rintro e w' ⟨rfl, rfl⟩
  go_wp2_with fail
  go_quiet (fail)
  go_wp2_with fail
  go_ret
  refine ⟨_, rfl, ?_, ?_⟩
  ·decide
  ·exact Keeps.drewN (Keeps.refl _) _
 ·replace hsy : w.cell? ⟨b, off + 1, none⟩ = some (.int .i64 1) := hsy
  go_enter Tryz.func137, Tryz.ntmps137
  go_wp2_with fail
  refine (levelOf_any _ _ _ hv).mono ?_; rintro e w' ⟨rfl, rfl⟩
  go_wp2_with fail
  go_quiet (fail)
  go_wp2_with fail
  go_ret
  refine ⟨_, rfl, ?_, ?_⟩
  ·decide
  ·exact Keeps.drewN (Keeps.refl _) _
 ·replace hsy : w.cell? ⟨b, off + 1, none⟩ = some (.int .i64 2) := hsy
  go_enter Tryz.func137, Tryz.ntmps137
  go_wp2_with fail
  refine (levelOf_any _ _ _ hv).mono ?_; rintro e w' ⟨rfl, rfl⟩
  go_wp2_with fail
  go_quiet (fail)
  go_wp2_with fail
  go_ret
  refine ⟨_, rfl, ?_, ?_⟩
  ·decide
  ·exact Keeps.drewN (Keeps.refl _) _
 ·replace hsy : w.cell? ⟨b, off + 1, none⟩ = some (.int .i64 3) := hsy
  go_enter Tryz.func137, Tryz.ntmps137
  go_wp2_with fail
  refine (levelOf_any _ _ _ hv).mono ?_; rintro e w' ⟨rfl, rfl⟩
  go_wp2_with fail
  go_quiet (fail)
  go_wp2_with fail
  go_ret
  refine ⟨_, rfl, ?_, ?_⟩
  ·decide
  ·exact Keeps.drewN (Keeps.refl _) _
 ·replace hsy : w.cell? ⟨b, off + 1, none⟩ = some (.int .i64 4) := hsy
  go_enter Tryz.func137, Tryz.ntmps137
  go_wp2_with fail
  refine (levelOf_any _ _ _ hv).mono ?_; rintro e w' ⟨rfl, rfl⟩
  go_wp2_with fail
  go_quiet (fail)
  go_wp2_with fail
  go_ret
  refine ⟨_, rfl, ?_, ?_⟩
  ·decide
  ·exact Keeps.drewN (Keeps.refl _) _
 ·replace hsy : w.cell? ⟨b, off + 1, none⟩ = some (.int .i64 5) := hsy
  go_enter Tryz.func137, Tryz.ntmps137
  go_wp2_with fail
  refine (levelOf_any _ _ _ hv).mono ?_; rintro e w' ⟨rfl, rfl⟩
  go_wp2_with fail
  go_quiet (fail)
  go_wp2_with fail
  go_ret
  refine ⟨_, rfl, ?_, ?_⟩
  ·decide
  ·exact Keeps.drewN (Keeps.refl _) _
theorem txtOk_any (t : Fm) (hw : t.wf) : TxtOk t := by
 induction t with
 | var i => exact .of (bodyVar i hw)
 | fls => exact .of bodyFls
 | and x y hx hy => exact .of (bodyAnd x y (hx hw.1) (hy hw.2))
 | or x y hx hy => exact .of (bodyOr x y (hx hw.1) (hy hw.2))
 | box x hx => exact .of (bodyBox x (hx hw))
 | dia x hx => exact .of (bodyDia x (hx hw))
 | imp x y hx hy =>
  cases hf : y.isFls
  ·exact .of (bodyImp x y hf (hx hw.1) (hy hw.2))
  ·cases hx1 : x.isFls
   ·exact .of (bodyNeg x y hf hx1 (hx hw.1))
   ·exact .of (bodyTop x y hf hx1)
theorem text_any (t : Fm) (hw : t.wf) (hl : t.enc.length ≤ 100000000) (v : Value) (w : World) (hv : Nds w v t.enc) :
  Calls Tryz.prog 92 #[v] w fun e w' => ∃ s, e = .returned (.string s) ∧ bts s = t.body ∧ Keeps w w' := by
 have H := hid (txtOk_any t hw hl 0 0 rfl v w hv)
 go_enter Tryz.func92, Tryz.ntmps92
 go_wp2_with fail
 refine H.out.mono ?_; rintro e w' ⟨s, rfl, hs, k⟩
 go_wp2_with fail
 go_ret
 exact ⟨s, rfl, by rw [hs, Fm.txt0], k⟩
end Go.Proofs.YtkkcfifnkcnceaaGreat
namespace Go.Proofs.YtkkcfifnkcnceaaGreat
open Go.RowKit
def RetI (w : World) (a : List Int) (e : Ending) (w' : World) : Prop := ∃ v, e = .returned v ∧ OwnI w' w.heap.size v a ∧ Keeps w w'
end Go.Proofs.YtkkcfifnkcnceaaGreat
