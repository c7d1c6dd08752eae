import Derived.Test.YtfmmajgkjkmghaaGreatEK8
import Derived.Test.YtfmmajgkjkmghaaGreatEK1
import Derived.Test.YtfmmajgkjkmghaaGreatEM3
import Derived.Test.YtfmmajgkjkmghaaGreatEP3
import Derived.Test.YtfmmajgkjkmghaaGreatEJB
/- The law of the outer box translation. -/
namespace Go.Proofs.YtfmmajgkjkmghaaGreat
open Go.RowKit
end Go.Proofs.YtfmmajgkjkmghaaGreat
namespace Go.Proofs.YtfmmajgkjkmghaaGreat
open Go.RowKit
end Go.Proofs.YtfmmajgkjkmghaaGreat
namespace Go.Proofs.YtfmmajgkjkmghaaGreat
open Go.RowKit
theorem NdsL.shapeL {w : World} {v : Value} {xs : List (List Nd)} (h : NdsL w v xs) : ∃ p n c, v = .slice p n c := by
 obtain ⟨p, c, e, _⟩ := h
 exact ⟨p, _, c, e⟩
end Go.Proofs.YtfmmajgkjkmghaaGreat
namespace Go.Proofs.YtfmmajgkjkmghaaGreat
open Fm
theorem enc_split : ∀ (a b : Fm) (r s : List Nd), a.enc ++ r = b.enc ++ s → a = b ∧ r = s := by
 intro a
 induction a with
 | var v =>
  intro b r s h; cases b <;> simp [enc] at h
  obtain ⟨h1, h2⟩ := h
  have h3 := Int.ofNat.inj h1
  exact ⟨by rw [h3], h2⟩
 | fls => intro b r s h; cases b <;> simp [enc] at h <;> simp_all
 | and x y ihx ihy =>
  intro b r s h; cases b <;> simp [enc] at h
  obtain ⟨h1, h⟩ := ihx _ _ _ h
  obtain ⟨h2, h⟩ := ihy _ _ _ h
  exact ⟨by rw [h1, h2], h⟩
 | or x y ihx ihy =>
  intro b r s h; cases b <;> simp [enc] at h
  obtain ⟨h1, h⟩ := ihx _ _ _ h
  obtain ⟨h2, h⟩ := ihy _ _ _ h
  exact ⟨by rw [h1, h2], h⟩
 | imp x y ihx ihy =>
  intro b r s h; cases b <;> simp [enc] at h
  obtain ⟨h1, h⟩ := ihx _ _ _ h
  obtain ⟨h2, h⟩ := ihy _ _ _ h
  exact ⟨by rw [h1, h2], h⟩
 | box x ihx =>
  intro b r s h; cases b <;> simp [enc] at h
  obtain ⟨h1, h⟩ := ihx _ _ _ h
  exact ⟨by rw [h1], h⟩
 | dia x ihx =>
  intro b r s h; cases b <;> simp [enc] at h
  obtain ⟨h1, h⟩ := ihx _ _ _ h
  exact ⟨by rw [h1], h⟩
theorem enc_inj {a b : Fm} (h : a.enc = b.enc) : a = b := (enc_split a b [] [] (by simpa using h)).1
def wt : Fm → Nat
 | .var _ => 2
 | .fls => 2
 | .and a b => wt a * (1 + wt b)
 | .or a b => 1 + wt a + wt b
 | .imp a b => 1 + wt a * wt b
 | .box a => 2 + wt a
 | .dia a => 2 + wt a
def wts : List Fm → Nat
 | [] => 0
 | a :: G => wt a + wts G
theorem mul2 {a b : Nat} (ha : 2 ≤ a) (hb : 2 ≤ b) : a + b ≤ a * b := by
 obtain ⟨x, rfl⟩ : ∃ x, a = x + 2 := ⟨a - 2, by omega⟩
 obtain ⟨y, rfl⟩ : ∃ y, b = y + 2 := ⟨b - 2, by omega⟩
 have : (x + 2) * (y + 2) = x * y + 2 * x + 2 * y + 4 := by simp [Nat.add_mul, Nat.mul_add]; omega
 omega
theorem mul_two_le {a b : Nat} (hb : 2 ≤ b) : 2 * a ≤ a * b := by rw [Nat.mul_comm 2 a]; exact Nat.mul_le_mul_left a hb
theorem wt_ge : ∀ a : Fm, 2 ≤ wt a := by
 intro a
 induction a with
 | var v => simp [wt]
 | fls => simp [wt]
 | and a b iha ihb => simp only [wt]; have := mul_two_le (a := wt a) (b := 1 + wt b) (by omega); omega
 | or a b iha ihb => simp only [wt]; omega
 | imp a b iha ihb => simp only [wt]; have := mul2 iha ihb; omega
 | box a iha => simp only [wt]; omega
 | dia a iha => simp only [wt]; omega
theorem len_le_wt : ∀ a : Fm, a.enc.length ≤ wt a := by
 intro a
 induction a with
 | var v => simp [wt, enc]
 | fls => simp [wt, enc]
 | and a b iha ihb => simp only [wt, enc, List.length_cons, List.length_append, Nat.mul_add, Nat.mul_one]; have := mul2 (wt_ge a) (wt_ge b); have := wt_ge a; omega
 | or a b iha ihb => simp only [wt, enc, List.length_cons, List.length_append]; omega
 | imp a b iha ihb => simp only [wt, enc, List.length_cons, List.length_append]; have := mul2 (wt_ge a) (wt_ge b); omega
 | box a iha => simp only [wt, enc, List.length_cons]; omega
 | dia a iha => simp only [wt, enc, List.length_cons]; omega
theorem pow_ge2 {n : Nat} (h : 1 ≤ n) : 2 ≤ 2 ^ n := by
 obtain ⟨m, rfl⟩ : ∃ m, n = m + 1 := ⟨n - 1, by omega⟩
 have := Nat.one_le_two_pow (n := m)
 rw [Nat.pow_succ]; omega
theorem wt_le_pow : ∀ a : Fm, wt a ≤ 2 ^ a.enc.length := by
 intro a
 have hp := fun t : Fm => pow_ge2 (enc_pos t)
 induction a with
 | var v => simp [wt, enc]
 | fls => simp [wt, enc]
 | and a b iha ihb =>
  simp only [wt, enc, List.length_cons, List.length_append, Nat.mul_add, Nat.mul_one, Nat.pow_succ, Nat.pow_add]
  have h1 := Nat.mul_le_mul iha ihb
  have h2 : 2 ^ a.enc.length * 1 ≤ 2 ^ a.enc.length * 2 ^ b.enc.length := Nat.mul_le_mul_left _ (by have := hp b; omega)
  omega
 | or a b iha ihb =>
  simp only [wt, enc, List.length_cons, List.length_append, Nat.pow_succ, Nat.pow_add]
  have h1 := mul2 (hp a) (hp b)
  have := hp a
  omega
 | imp a b iha ihb =>
  simp only [wt, enc, List.length_cons, List.length_append, Nat.pow_succ, Nat.pow_add]
  have h1 := Nat.mul_le_mul iha ihb
  have := mul2 (hp a) (hp b)
  have := hp a
  omega
 | box a iha => simp only [wt, enc, List.length_cons, Nat.pow_succ]; have := hp a; omega
 | dia a iha => simp only [wt, enc, List.length_cons, Nat.pow_succ]; have := hp a; omega
theorem wts_append (G H : List Fm) : wts (G ++ H) = wts G + wts H := by
 induction G with
 | nil => simp [wts]
 | cons a G ih => simp [wts, ih]; omega
theorem wts_perm {G H : List Fm} (h : G.Perm H) : wts G = wts H := by
 induction h with
 | nil => rfl
 | cons a _ ih => simp [wts, ih]
 | swap a b l => simp [wts]; omega
 | trans _ _ ih1 ih2 => omega
theorem wts_sub {G H : List Fm} (h : G.Sublist H) : wts G ≤ wts H := by
 induction h with
 | slnil => exact Nat.le_refl _
 | cons a _ ih => simp only [wts]; omega
 | cons_cons a _ ih => simp only [wts]; omega
theorem len_le_wts (G : List Fm) : 2 * G.length ≤ wts G := by
 induction G with
 | nil => simp [wts]
 | cons a G ih => have := wt_ge a; simp only [wts, List.length_cons]; omega
theorem wts_mem {a : Fm} {G : List Fm} (h : a ∈ G) : wt a ≤ wts G := by
 induction G with
 | nil => simp at h
 | cons b G ih =>
  rcases List.mem_cons.1 h with rfl | h
  ·simp only [wts]; omega
  ·have := ih h; simp only [wts]; omega
theorem wt_and (x y : Fm) : wt x + wt y < wt (and x y) := by
 simp only [wt, Nat.mul_add, Nat.mul_one]; have := mul2 (wt_ge x) (wt_ge y); have := wt_ge x; have := wt_ge y; omega
theorem wt_or (x y : Fm) : wt x + wt y < wt (or x y) := by simp only [wt]; omega
theorem wt_imp (x y : Fm) : wt x + wt y < wt (imp x y) := by
 simp only [wt]; have := mul2 (wt_ge x) (wt_ge y); omega
theorem wt_andimp (x y b : Fm) : wt (imp x (imp y b)) < wt (imp (and x y) b) := by
 simp only [wt, Nat.mul_add, Nat.mul_one, Nat.add_mul]
 have h1 := mul_two_le (a := wt x) (wt_ge b)
 have h2 := wt_ge x
 rw [Nat.mul_assoc]
 omega
theorem wt_orimp (x y b : Fm) : wt (imp x b) + wt (imp y b) < wt (imp (or x y) b) := by
 simp only [wt, Nat.add_mul, Nat.one_mul]
 have h2 := wt_ge b
 omega
theorem wt_impimp (x y b : Fm) : wt (imp y b) + (wt x + wt y) < wt (imp (imp x y) b) ∧ wt (imp y b) + wt (imp x y) < wt (imp (imp x y) b) + 1 := by
 simp only [wt, Nat.add_mul, Nat.one_mul]
 have hx := wt_ge x; have hy := wt_ge y; have hb := wt_ge b
 have h1 : 2 * (wt y * wt b) ≤ wt x * (wt y * wt b) := Nat.mul_le_mul_right _ hx
 have h2 : 2 * (wt x * wt y) ≤ wt x * wt y * wt b := mul_two_le hb
 have h3 := mul2 hx hy
 have h4 : wt x * (wt y * wt b) = wt x * wt y * wt b := (Nat.mul_assoc _ _ _).symm
 generalize wt x * wt y * wt b = t at *
 generalize wt x * (wt y * wt b) = t' at *
 generalize wt y * wt b = u at *
 generalize wt x * wt y = z at *
 omega
section
variable {G H K L : List Fm} {c x y b : Fm}
theorem sq_same (h : ∀ a, a ∈ G ↔ a ∈ H) : Sq G c ↔ Sq H c :=
 sq_congr fun _M _w => ⟨fun k a ha => k a ((h a).2 ha), fun k a ha => k a ((h a).1 ha)⟩
theorem sq_repl (hG : ∀ a, a ∈ G ↔ a = x ∨ a ∈ H) (hK : ∀ a, a ∈ K ↔ a ∈ L ∨ a ∈ H) (h : ∀ (M : KM) (w : M.W), (∀ a ∈ H, M.forces w a) → (M.forces w x ↔ ∀ y ∈ L, M.forces w y)) : Sq G c ↔ Sq K c := by
 rw [sq_left (ys := L) hG h]
 exact sq_same fun a => by rw [List.mem_append, hK]
theorem sq_drop (hG : ∀ a, a ∈ G ↔ a = x ∨ a ∈ H) (h : ∀ (M : KM) (w : M.W), (∀ a ∈ H, M.forces w a) → M.forces w x) : Sq G c ↔ Sq H c :=
 sq_repl (L := []) hG (by simp) fun M w hw => ⟨fun _ _ hy => (by cases hy), fun _ => h M w hw⟩
theorem sq_drop_imp (hG : ∀ a, a ∈ G ↔ a = imp x y ∨ a ∈ H) (h : x = fls ∨ y ∈ H) : Sq G c ↔ Sq H c :=
 sq_drop hG fun M w hw u hu hx => by
  rcases h with rfl | h
  ·exact hx.elim
  ·exact M.up _ _ _ hu (hw _ h)
theorem sq_andL (hG : ∀ a, a ∈ G ↔ a = and x y ∨ a ∈ H) (hK : ∀ a, a ∈ K ↔ (a = x ∨ a = y) ∨ a ∈ H) : Sq G c ↔ Sq K c :=
 sq_repl (L := [x, y]) hG (by simpa using hK) fun M w _ => by simp [KM.forces]
theorem sq_orL {K' : List Fm} (hG : ∀ a, a ∈ G ↔ a = or x y ∨ a ∈ H) (hK : ∀ a, a ∈ K ↔ a = x ∨ a ∈ H) (hK' : ∀ a, a ∈ K' ↔ a = y ∨ a ∈ H) : Sq G c ↔ Sq K c ∧ Sq K' c := by
 rw [sq_or_left hG]
 exact and_congr (sq_same fun a => by rw [List.mem_cons, hK]) (sq_same fun a => by rw [List.mem_cons, hK'])
theorem sq_andimpL (hG : ∀ a, a ∈ G ↔ a = imp (and x y) b ∨ a ∈ H) (hK : ∀ a, a ∈ K ↔ a = imp x (imp y b) ∨ a ∈ H) : Sq G c ↔ Sq K c :=
 sq_repl (L := [imp x (imp y b)]) hG (by simpa using hK) fun M w _ => by
  simp only [List.mem_singleton, forall_eq]
  constructor
  ·intro h u hu hx v hv hy
   exact h v (M.trans _ _ _ hu hv) ⟨M.up _ _ _ hv hx, hy⟩
  ·intro h u hu hxy
   exact h u hu hxy.1 u (M.refl u) hxy.2
theorem sq_orimpL (hG : ∀ a, a ∈ G ↔ a = imp (or x y) b ∨ a ∈ H) (hK : ∀ a, a ∈ K ↔ (a = imp x b ∨ a = imp y b) ∨ a ∈ H) : Sq G c ↔ Sq K c :=
 sq_repl (L := [imp x b, imp y b]) hG (by simpa using hK) fun M w _ => by
  simp only [List.mem_cons, List.not_mem_nil, or_false, forall_eq_or_imp, forall_eq]
  constructor
  ·intro h
   exact ⟨fun u hu hx => h u hu (.inl hx), fun u hu hy => h u hu (.inr hy)⟩
  ·rintro ⟨h1, h2⟩ u hu hxy
   exact hxy.elim (h1 u hu) (h2 u hu)
theorem sq_impL (hG : ∀ a, a ∈ G ↔ a = imp x b ∨ a ∈ H) (hx : x ∈ H) (hK : ∀ a, a ∈ K ↔ a = b ∨ a ∈ H) : Sq G c ↔ Sq K c :=
 sq_repl (L := [b]) hG (by simpa using hK) fun M w hw => by
  simp only [List.mem_singleton, forall_eq]
  exact ⟨fun h => h w (M.refl w) (hw x hx), fun h u hu _ => M.up _ _ _ hu h⟩
theorem sq_impR (hK : ∀ a, a ∈ K ↔ a = x ∨ a ∈ G) : Sq G (imp x y) ↔ Sq K y := by
 rw [sq_imp]
 exact sq_same fun a => by rw [List.mem_cons, hK]
theorem sq_orR (h : Sq G x ∨ Sq G y) : Sq G (or x y) := fun M w hw => h.imp (fun k => k M w hw) (fun k => k M w hw)
theorem way_iff (hG : ∀ a, a ∈ G ↔ a = imp (imp x y) b ∨ a ∈ H) (hK : ∀ a, a ∈ K ↔ (a = imp y b ∨ a = x) ∨ a ∈ H) (hL : ∀ a, a ∈ L ↔ a = b ∨ a ∈ H) : Way G c x y b ↔ Sq K y ∧ Sq L c := by
 unfold Way
 have h1 : Sq (x :: imp y b :: G) y ↔ Sq (x :: imp y b :: H) y := by
  refine sq_drop (x := imp (imp x y) b) (fun a => ?_) (fun M w hw => ?_)
  ·simp only [List.mem_cons, hG]
   constructor
   ·rintro (h | h | h | h)
    ·exact .inr (.inl h)
    ·exact .inr (.inr (.inl h))
    ·exact .inl h
    ·exact .inr (.inr (.inr h))
   ·rintro (h | h | h | h)
    ·exact .inr (.inr (.inl h))
    ·exact .inl h
    ·exact .inr (.inl h)
    ·exact .inr (.inr (.inr h))
  ·exact forces_impimp M w (hw _ (by simp)) (hw _ (by simp))
 have h2 : Sq (b :: G) c ↔ Sq (b :: H) c := by
  refine sq_drop (x := imp (imp x y) b) (fun a => ?_) (fun M w hw u hu _ => ?_)
  ·simp only [List.mem_cons, hG]
   constructor
   ·rintro (h | h | h)
    ·exact .inr (.inl h)
    ·exact .inl h
    ·exact .inr (.inr h)
   ·rintro (h | h | h)
    ·exact .inr (.inl h)
    ·exact .inl h
    ·exact .inr (.inr h)
  ·exact M.up _ _ _ hu (hw b (by simp))
 rw [h1, h2]
 refine and_congr (sq_same fun a => ?_) (sq_same fun a => ?_)
 ·simp only [List.mem_cons, hK]
  constructor
  ·rintro (h | h | h)
   ·exact .inl (.inr h)
   ·exact .inl (.inl h)
   ·exact .inr h
  ·rintro ((h | h) | h)
   ·exact .inr (.inl h)
   ·exact .inl h
   ·exact .inr (.inr h)
 ·simp only [List.mem_cons, hL]
theorem way_iff' (hG : ∀ a, a ∈ G ↔ a = imp (imp x y) b ∨ a ∈ H) (hK : ∀ a, a ∈ K ↔ a = imp y b ∨ a ∈ H) (hL : ∀ a, a ∈ L ↔ a = b ∨ a ∈ H) : Way G c x y b ↔ Sq K (imp x y) ∧ Sq L c := by
 rw [way_iff (K := x :: K) hG (fun a => ?_) hL, sq_imp]
 rw [List.mem_cons, hK]
 constructor
 ·rintro (h | h | h)
  ·exact .inl (.inr h)
  ·exact .inl (.inl h)
  ·exact .inr h
 ·rintro ((h | h) | h)
  ·exact .inr (.inl h)
  ·exact .inl h
  ·exact .inr (.inr h)
end
end Go.Proofs.YtfmmajgkjkmghaaGreat
