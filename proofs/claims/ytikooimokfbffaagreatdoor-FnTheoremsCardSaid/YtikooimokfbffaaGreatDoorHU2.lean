import Derived.Test.YtikooimokfbffaaGreatDoorHM3
import Derived.Test.YtikooimokfbffaaGreatDoorHP2
import Derived.Test.YtikooimokfbffaaGreatDoorHJC
import Derived.Test.YtikooimokfbffaaGreatDoorHOI
/- Lists of node lists whose rows were there before: the call's own header, rows that are shared. -/
namespace Go.Proofs.YtikooimokfbffaaGreatDoor
open Go.RowKit
def RowsS (w : World) (vs : List Value) (xs : List (List Nd)) : Prop := vs.length = xs.length ∧ ∀ i (h1 : i < vs.length) (h2 : i < xs.length), Nds w vs[i] xs[i]
theorem RowsS.keeps {w w' : World} {vs : List Value} {xs : List (List Nd)} (h : RowsS w vs xs) (k : Keeps w w') : RowsS w' vs xs := ⟨h.1, fun i h1 h2 => (h.2 i h1 h2).keeps k⟩
theorem RowsS.nil (w : World) : RowsS w [] [] := ⟨rfl, fun i h => by simp at h⟩
theorem RowsS.one {w : World} {u : Value} {x : List Nd} (h : Nds w u x) : RowsS w [u] [x] := ⟨rfl, fun i h1 h2 => by
 obtain rfl : i = 0 := by simp at h1; omega
 exact h⟩
theorem RowsS.append {w : World} {vs us : List Value} {xs ys : List (List Nd)} (h : RowsS w vs xs) (k : RowsS w us ys) : RowsS w (vs ++ us) (xs ++ ys) :=
 ⟨by simp [h.1, k.1], fun i h1 h2 => by
  have hl := h.1
  by_cases hi : i < vs.length
  ·rw [List.getElem_append_left hi, List.getElem_append_left (by omega)]; exact h.2 i hi (by omega)
  ·rw [List.getElem_append_right (by omega), List.getElem_append_right (by omega)]
   simp at h1 h2
   have := k.2 (i - vs.length) (by omega) (by omega)
   simpa [hl] using this⟩
theorem RowsS.one' {w : World} {vs : List Value} {xs : List (List Nd)} (h : RowsS w vs xs) : ∀ u ∈ vs, u.oneCell' = true := by
 intro u hu
 obtain ⟨i, hi, rfl⟩ := List.getElem_of_mem hu
 obtain ⟨p, n, c, e⟩ := (h.2 i hi (by have := h.1; omega)).shape
 rw [e]; rfl
theorem NdsL.shapeL {w : World} {v : Value} {xs : List (List Nd)} (h : NdsL w v xs) : ∃ p n c, v = .slice p n c := by
 obtain ⟨p, c, e, _⟩ := h
 exact ⟨p, _, c, e⟩
theorem NdsL.vals {w : World} {p : Option Addr} {n cap : Nat} {xs : List (List Nd)} (h : NdsL w (.slice p n cap) xs) : ∃ vs, At w p vs ∧ RowsS w vs xs := by
 classical
 obtain ⟨p', cap', e, _, _, _, hel⟩ := h
 cases e
 have hex : ∀ i, i < xs.length → ∃ u, (∃ b off, p = some ⟨b, off, none⟩ ∧ w.cell? ⟨b, off + i, none⟩ = some u) ∧ ∀ h : i < xs.length, Nds w u xs[i] := fun i hi => by
  obtain ⟨b, off, f, hp, hc, hr⟩ := hel i hi
  exact ⟨f 0, ⟨b, off, hp, by simpa using hc 0 (by omega)⟩, fun _ => hr⟩
 refine ⟨(List.range xs.length).map fun i => if h : i < xs.length then Classical.choose (hex i h) else undef, fun j hj => ?_, by simp, fun i h1 h2 => ?_⟩
 ·have hj' : j < xs.length := by simpa using hj
  obtain ⟨b, off, hp, hc⟩ := (Classical.choose_spec (hex j hj')).1
  refine ⟨b, off, hp, ?_⟩
  simp only [List.getElem_map, List.getElem_range, dif_pos hj']
  exact hc
 ·simp only [List.getElem_map, List.getElem_range, dif_pos h2]
  exact (Classical.choose_spec (hex i h2)).2 h2
theorem ndsL_of {w : World} {p : Option Addr} {cap : Nat} {vs : List Value} {xs : List (List Nd)} (hat : At w p vs) (hr : RowsS w vs xs) (h1 : xs.length ≤ cap) (h2 : cap ≤ maxLen) (h3 : xs.length ≤ 2147483648) : NdsL w (.slice p xs.length cap) xs := by
 refine ⟨p, cap, rfl, h1, h2, h3, fun i hi => ?_⟩
 have hl := hr.1
 obtain ⟨b, off, hp, hc⟩ := hat i (by omega)
 refine ⟨b, off, fun _ => vs[i], hp, fun c hc' => ?_, hr.2 i (by omega) hi⟩
 obtain rfl : c = 0 := by omega
 simpa using hc
def ShL (w0 w : World) (v : Value) (xs : List (List Nd)) : Prop := ∃ vs, w.ownsRow w0.heap.size 26 1 v xs.length vs ∧ RowsS w0 vs xs
theorem ShL.keeps {w0 w w' : World} {v : Value} {xs : List (List Nd)} (h : ShL w0 w v xs) (k : Keeps w w') : ShL w0 w' v xs := by
 obtain ⟨vs, ho, hr⟩ := h
 exact ⟨vs, own_keeps ho k, hr⟩
theorem ShL.ndsL {w0 w : World} {v : Value} {xs : List (List Nd)} (h : ShL w0 w v xs) (k : Keeps w0 w) (hl : xs.length ≤ 2147483648) : NdsL w v xs := by
 obtain ⟨vs, ho, hr⟩ := h
 obtain ⟨p, cap, rfl, h1, h2, hat⟩ := At.of_own ho
 exact ndsL_of hat (hr.keeps k) h1 h2 hl
theorem ShL.empty {w0 : World} (w : World) (h : w0.heap.size ≤ w.heap.size) : ShL w0 (w.alloc (.cells #[] 26)) (.slice (some ⟨w.heap.size, 0, none⟩) 0 0) [] :=
 ⟨[], World.ownsRow_made w #[] 0 h (by simp [maxLen]) (by simp), RowsS.nil _⟩
theorem appShK {w : World} {o : Oper} {a : Act} {K : Act → World → Prop} {Q : Exit → Act → World → Prop} (s x : Operand)
  (ho : o.op = .call { callee := .builtin .append, args := #[s, x], argTypes := #[52, 52] }) (w0 : World) (v : Value) (xs : List (List Nd)) (hs : a.eval s = v)
  (hown : ShL w0 w v xs) (p : Option Addr) (m c : Nat) (us : List Value) (ys : List (List Nd)) (hx : a.eval x = .slice p m c) (hm : m = ys.length) (hat : At w p us) (hus : RowsS w0 us ys) (hbase : w0.heap.size ≤ w.heap.size) (hlen : xs.length + ys.length ≤ 2147483648)
  (h : ∀ v' w', ShL w0 w' v' (xs ++ ys) → w.grownBy w' v.ownBlock → (∀ k, v.ownBlock = some k → w0.heap.size ≤ k) → K (a.put o.dst v') w') : o.wp Tryz.prog a w K Q := by
 subst hm
 obtain ⟨i0, hi, hz0, hz1, hz2⟩ := info_parts infoL
 obtain ⟨vs, hrow, hr⟩ := hown
 refine wp_append_at s x _ ho _ i0 _ 1 24 Tryz.underlying52 hi hz0 hz1 hz2 rfl (by decide) w0.heap.size v _ _ hs hrow p ys.length c us hx (by simp [hus.1]) hat hus.one' (by unfold maxLen; omega) (by omega) hbase ?_
 intro v' w' h1 h2 h3
 exact h v' w' ⟨vs ++ us, by simpa using h1, hr.append hus⟩ h2 h3
theorem appSh {w : World} {ops : Array Oper} {rest : List Oper} {o : Oper} {a : Act} {Q : Exit → Act → World → Prop} (hgd : o.guard = none) (s x : Operand)
  (ho : o.op = .call { callee := .builtin .append, args := #[s, x], argTypes := #[52, 52] }) (w0 : World) (v : Value) (xs : List (List Nd)) (hs : a.eval s = v)
  (hown : ShL w0 w v xs) (p : Option Addr) (m c : Nat) (us : List Value) (ys : List (List Nd)) (hx : a.eval x = .slice p m c) (hm : m = ys.length) (hat : At w p us) (hus : RowsS w0 us ys) (hbase : w0.heap.size ≤ w.heap.size) (hlen : xs.length + ys.length ≤ 2147483648)
  (h : ∀ v' w', ShL w0 w' v' (xs ++ ys) → w.grownBy w' v.ownBlock → (∀ k, v.ownBlock = some k → w0.heap.size ≤ k) → wpList Tryz.prog ops Q rest (a.put o.dst v') w') : wpList Tryz.prog ops Q (o :: rest) a w :=
 wpList_plain hgd fun _ hK => appShK s x ho w0 v xs hs hown p m c us ys hx hm hat hus hbase hlen fun v' w' h1 h2 h3 => hK _ _ (h v' w' h1 h2 h3)
theorem stepSh {w : World} {ops : Array Oper} {o : Oper} {a : Act} {K : Act → World → Prop} {Q : Exit → Act → World → Prop} {E : Prop} (hgd : o.guard = none) (s x : Operand)
  (ho : o.op = .call { callee := .builtin .append, args := #[s, x], argTypes := #[52, 52] }) (w0 : World) (v : Value) (xs : List (List Nd)) (hs : a.eval s = v)
  (hown : ShL w0 w v xs) (p : Option Addr) (m c : Nat) (us : List Value) (ys : List (List Nd)) (hx : a.eval x = .slice p m c) (hm : m = ys.length) (hat : At w p us) (hus : RowsS w0 us ys) (hbase : w0.heap.size ≤ w.heap.size) (hlen : xs.length + ys.length ≤ 2147483648)
  (h : ∀ v' w', ShL w0 w' v' (xs ++ ys) → w.grownBy w' v.ownBlock → (∀ k, v.ownBlock = some k → w0.heap.size ≤ k) → K (a.put o.dst v') w') : if Region.wanted o (yielded ops a.tmps) = true then Oper.wp Tryz.prog o a w K Q else E := by
 rw [if_pos (by simp [Region.wanted, hgd])]
 exact appShK s x ho w0 v xs hs hown p m c us ys hx hm hat hus hbase hlen h
theorem At.take {w : World} {p : Option Addr} {vs : List Value} (h : At w p vs) (i : Nat) : At w p (vs.take i) := fun j hj => by
 have hj' : j < vs.length := by simp at hj; omega
 obtain ⟨b, off, hp, hc⟩ := h j hj'
 exact ⟨b, off, hp, by simpa using hc⟩
theorem RowsS.take {w : World} {vs : List Value} {xs : List (List Nd)} (h : RowsS w vs xs) (i : Nat) : RowsS w (vs.take i) (xs.take i) :=
 ⟨by simp [h.1], fun j h1 h2 => by
  simp at h1 h2
  simpa using h.2 j (by omega) (by omega)⟩
theorem RowsS.drop {w : World} {vs : List Value} {xs : List (List Nd)} (h : RowsS w vs xs) (i : Nat) : RowsS w (vs.drop i) (xs.drop i) :=
 ⟨by simp [h.1], fun j h1 h2 => by
  simp at h1 h2
  simpa using h.2 (i + j) (by omega) (by omega)⟩
end Go.Proofs.YtikooimokfbffaaGreatDoor
namespace Go.Proofs.YtikooimokfbffaaGreatDoor
open Fm
theorem enc_split : ∀ (a b : Fm) (r s : List Nd), a.enc ++ r = b.enc ++ s → a = b ∧ r = s := by
 intro a
 induction a with
 | var v =>
  intro b r s h; cases b <;> simp [enc] at h
  obtain ⟨h1, h2⟩ := h
  have h3 := Int.ofNat.inj h1
  exact ⟨by rw [h3], h2⟩
 | fls => intro b r s h; cases b <;> simp [enc] at h <;> simp_all
 | and x y ihx ihy =>
  intro b r s h; cases b <;> simp [enc] at h
  obtain ⟨h1, h⟩ := ihx _ _ _ h
  obtain ⟨h2, h⟩ := ihy _ _ _ h
  exact ⟨by rw [h1, h2], h⟩
 | or x y ihx ihy =>
  intro b r s h; cases b <;> simp [enc] at h
  obtain ⟨h1, h⟩ := ihx _ _ _ h
  obtain ⟨h2, h⟩ := ihy _ _ _ h
  exact ⟨by rw [h1, h2], h⟩
 | imp x y ihx ihy =>
  intro b r s h; cases b <;> simp [enc] at h
  obtain ⟨h1, h⟩ := ihx _ _ _ h
  obtain ⟨h2, h⟩ := ihy _ _ _ h
  exact ⟨by rw [h1, h2], h⟩
 | box x ihx =>
  intro b r s h; cases b <;> simp [enc] at h
  obtain ⟨h1, h⟩ := ihx _ _ _ h
  exact ⟨by rw [h1], h⟩
 | dia x ihx =>
  intro b r s h; cases b <;> simp [enc] at h
  obtain ⟨h1, h⟩ := ihx _ _ _ h
  exact ⟨by rw [h1], h⟩
theorem enc_inj {a b : Fm} (h : a.enc = b.enc) : a = b := (enc_split a b [] [] (by simpa using h)).1
theorem enc_mem {a : Fm} {G : List Fm} : a.enc ∈ G.map enc ↔ a ∈ G := by
 constructor
 ·intro h
  obtain ⟨b, hb, e⟩ := List.mem_map.1 h
  exact enc_inj e ▸ hb
 ·intro h; exact List.mem_map.2 ⟨a, h, rfl⟩
def wt : Fm → Nat
 | .var _ => 2
 | .fls => 2
 | .and a b => wt a * (1 + wt b)
 | .or a b => 1 + wt a + wt b
 | .imp a b => 1 + wt a * wt b
 | .box a => 2 + wt a
 | .dia a => 2 + wt a
def wts : List Fm → Nat
 | [] => 0
 | a :: G => wt a + wts G
theorem mul2 {a b : Nat} (ha : 2 ≤ a) (hb : 2 ≤ b) : a + b ≤ a * b := by
 obtain ⟨x, rfl⟩ : ∃ x, a = x + 2 := ⟨a - 2, by omega⟩
 obtain ⟨y, rfl⟩ : ∃ y, b = y + 2 := ⟨b - 2, by omega⟩
 have : (x + 2) * (y + 2) = x * y + 2 * x + 2 * y + 4 := by simp [Nat.add_mul, Nat.mul_add]; omega
 omega
theorem mul_two_le {a b : Nat} (hb : 2 ≤ b) : 2 * a ≤ a * b := by rw [Nat.mul_comm 2 a]; exact Nat.mul_le_mul_left a hb
theorem wt_ge : ∀ a : Fm, 2 ≤ wt a := by
 intro a
 induction a with
 | var v => simp [wt]
 | fls => simp [wt]
 | and a b iha ihb => simp only [wt]; have := mul_two_le (a := wt a) (b := 1 + wt b) (by omega); omega
 | or a b iha ihb => simp only [wt]; omega
 | imp a b iha ihb => simp only [wt]; have := mul2 iha ihb; omega
 | box a iha => simp only [wt]; omega
 | dia a iha => simp only [wt]; omega
theorem len_le_wt : ∀ a : Fm, a.enc.length ≤ wt a := by
 intro a
 induction a with
 | var v => simp [wt, enc]
 | fls => simp [wt, enc]
 | and a b iha ihb => simp only [wt, enc, List.length_cons, List.length_append, Nat.mul_add, Nat.mul_one]; have := mul2 (wt_ge a) (wt_ge b); have := wt_ge a; omega
 | or a b iha ihb => simp only [wt, enc, List.length_cons, List.length_append]; omega
 | imp a b iha ihb => simp only [wt, enc, List.length_cons, List.length_append]; have := mul2 (wt_ge a) (wt_ge b); omega
 | box a iha => simp only [wt, enc, List.length_cons]; omega
 | dia a iha => simp only [wt, enc, List.length_cons]; omega
theorem pow_ge2 {n : Nat} (h : 1 ≤ n) : 2 ≤ 2 ^ n := by
 obtain ⟨m, rfl⟩ : ∃ m, n = m + 1 := ⟨n - 1, by omega⟩
 have := Nat.one_le_two_pow (n := m)
 rw [Nat.pow_succ]; omega
theorem wt_le_pow : ∀ a : Fm, wt a ≤ 2 ^ a.enc.length := by
 intro a
 have hp := fun t : Fm => pow_ge2 (enc_pos t)
 induction a with
 | var v => simp [wt, enc]
 | fls => simp [wt, enc]
 | and a b iha ihb =>
  simp only [wt, enc, List.length_cons, List.length_append, Nat.mul_add, Nat.mul_one, Nat.pow_succ, Nat.pow_add]
  have h1 := Nat.mul_le_mul iha ihb
  have h2 : 2 ^ a.enc.length * 1 ≤ 2 ^ a.enc.length * 2 ^ b.enc.length := Nat.mul_le_mul_left _ (by have := hp b; omega)
  omega
 | or a b iha ihb =>
  simp only [wt, enc, List.length_cons, List.length_append, Nat.pow_succ, Nat.pow_add]
  have h1 := mul2 (hp a) (hp b)
  have := hp a
  omega
 | imp a b iha ihb =>
  simp only [wt, enc, List.length_cons, List.length_append, Nat.pow_succ, Nat.pow_add]
  have h1 := Nat.mul_le_mul iha ihb
  have := mul2 (hp a) (hp b)
  have := hp a
  omega
 | box a iha => simp only [wt, enc, List.length_cons, Nat.pow_succ]; have := hp a; omega
 | dia a iha => simp only [wt, enc, List.length_cons, Nat.pow_succ]; have := hp a; omega
theorem wts_append (G H : List Fm) : wts (G ++ H) = wts G + wts H := by
 induction G with
 | nil => simp [wts]
 | cons a G ih => simp [wts, ih]; omega
theorem wts_perm {G H : List Fm} (h : G.Perm H) : wts G = wts H := by
 induction h with
 | nil => rfl
 | cons a _ ih => simp [wts, ih]
 | swap a b l => simp [wts]; omega
 | trans _ _ ih1 ih2 => omega
theorem wts_sub {G H : List Fm} (h : G.Sublist H) : wts G ≤ wts H := by
 induction h with
 | slnil => exact Nat.le_refl _
 | cons a _ ih => simp only [wts]; omega
 | cons_cons a _ ih => simp only [wts]; omega
theorem len_le_wts (G : List Fm) : 2 * G.length ≤ wts G := by
 induction G with
 | nil => simp [wts]
 | cons a G ih => have := wt_ge a; simp only [wts, List.length_cons]; omega
theorem wts_mem {a : Fm} {G : List Fm} (h : a ∈ G) : wt a ≤ wts G := by
 induction G with
 | nil => simp at h
 | cons b G ih =>
  rcases List.mem_cons.1 h with rfl | h
  ·simp only [wts]; omega
  ·have := ih h; simp only [wts]; omega
theorem wt_and (x y : Fm) : wt x + wt y < wt (and x y) := by
 simp only [wt, Nat.mul_add, Nat.mul_one]; have := mul2 (wt_ge x) (wt_ge y); have := wt_ge x; have := wt_ge y; omega
theorem wt_or (x y : Fm) : wt x + wt y < wt (or x y) := by simp only [wt]; omega
theorem wt_imp (x y : Fm) : wt x + wt y < wt (imp x y) := by
 simp only [wt]; have := mul2 (wt_ge x) (wt_ge y); omega
theorem wt_andimp (x y b : Fm) : wt (imp x (imp y b)) < wt (imp (and x y) b) := by
 simp only [wt, Nat.mul_add, Nat.mul_one, Nat.add_mul]
 have h1 := mul_two_le (a := wt x) (wt_ge b)
 have h2 := wt_ge x
 rw [Nat.mul_assoc]
 omega
theorem wt_orimp (x y b : Fm) : wt (imp x b) + wt (imp y b) < wt (imp (or x y) b) := by
 simp only [wt, Nat.add_mul, Nat.one_mul]
 have h2 := wt_ge b
 omega
theorem wt_impimp (x y b : Fm) : wt (imp y b) + (wt x + wt y) < wt (imp (imp x y) b) ∧ wt (imp y b) + wt (imp x y) < wt (imp (imp x y) b) + 1 := by
 simp only [wt, Nat.add_mul, Nat.one_mul]
 have hx := wt_ge x; have hy := wt_ge y; have hb := wt_ge b
 have h1 : 2 * (wt y * wt b) ≤ wt x * (wt y * wt b) := Nat.mul_le_mul_right _ hx
 have h2 : 2 * (wt x * wt y) ≤ wt x * wt y * wt b := mul_two_le hb
 have h3 := mul2 hx hy
 have h4 : wt x * (wt y * wt b) = wt x * wt y * wt b := (Nat.mul_assoc _ _ _).symm
 generalize wt x * wt y * wt b = t at *
 generalize wt x * (wt y * wt b) = t' at *
 generalize wt y * wt b = u at *
 generalize wt x * wt y = z at *
 omega
section
variable {G H K L : List Fm} {c x y b : Fm}
theorem sq_same (h : ∀ a, a ∈ G ↔ a ∈ H) : Sq G c ↔ Sq H c :=
 sq_congr fun _M _w => ⟨fun k a ha => k a ((h a).2 ha), fun k a ha => k a ((h a).1 ha)⟩
theorem sq_repl (hG : ∀ a, a ∈ G ↔ a = x ∨ a ∈ H) (hK : ∀ a, a ∈ K ↔ a ∈ L ∨ a ∈ H) (h : ∀ (M : KM) (w : M.W), (∀ a ∈ H, M.forces w a) → (M.forces w x ↔ ∀ y ∈ L, M.forces w y)) : Sq G c ↔ Sq K c := by
 rw [sq_left (ys := L) hG h]
 exact sq_same fun a => by rw [List.mem_append, hK]
theorem sq_drop (hG : ∀ a, a ∈ G ↔ a = x ∨ a ∈ H) (h : ∀ (M : KM) (w : M.W), (∀ a ∈ H, M.forces w a) → M.forces w x) : Sq G c ↔ Sq H c :=
 sq_repl (L := []) hG (by simp) fun M w hw => ⟨fun _ _ hy => (by cases hy), fun _ => h M w hw⟩
theorem sq_drop_or1 (hG : ∀ a, a ∈ G ↔ a = or x y ∨ a ∈ H) (h : x ∈ H ∨ y ∈ H) : Sq G c ↔ Sq H c :=
 sq_drop hG fun _ _ hw => h.imp (hw _) (hw _)
theorem sq_drop_imp (hG : ∀ a, a ∈ G ↔ a = imp x y ∨ a ∈ H) (h : x = fls ∨ y ∈ H) : Sq G c ↔ Sq H c :=
 sq_drop hG fun M w hw u hu hx => by
  rcases h with rfl | h
  ·exact hx.elim
  ·exact M.up _ _ _ hu (hw _ h)
theorem sq_andL (hG : ∀ a, a ∈ G ↔ a = and x y ∨ a ∈ H) (hK : ∀ a, a ∈ K ↔ (a = x ∨ a = y) ∨ a ∈ H) : Sq G c ↔ Sq K c :=
 sq_repl (L := [x, y]) hG (by simpa using hK) fun M w _ => by simp [KM.forces]
theorem sq_orL {K' : List Fm} (hG : ∀ a, a ∈ G ↔ a = or x y ∨ a ∈ H) (hK : ∀ a, a ∈ K ↔ a = x ∨ a ∈ H) (hK' : ∀ a, a ∈ K' ↔ a = y ∨ a ∈ H) : Sq G c ↔ Sq K c ∧ Sq K' c := by
 rw [sq_or_left hG]
 exact and_congr (sq_same fun a => by rw [List.mem_cons, hK]) (sq_same fun a => by rw [List.mem_cons, hK'])
theorem sq_andimpL (hG : ∀ a, a ∈ G ↔ a = imp (and x y) b ∨ a ∈ H) (hK : ∀ a, a ∈ K ↔ a = imp x (imp y b) ∨ a ∈ H) : Sq G c ↔ Sq K c :=
 sq_repl (L := [imp x (imp y b)]) hG (by simpa using hK) fun M w _ => by
  simp only [List.mem_singleton, forall_eq]
  constructor
  ·intro h u hu hx v hv hy
   exact h v (M.trans _ _ _ hu hv) ⟨M.up _ _ _ hv hx, hy⟩
  ·intro h u hu hxy
   exact h u hu hxy.1 u (M.refl u) hxy.2
theorem sq_orimpL (hG : ∀ a, a ∈ G ↔ a = imp (or x y) b ∨ a ∈ H) (hK : ∀ a, a ∈ K ↔ (a = imp x b ∨ a = imp y b) ∨ a ∈ H) : Sq G c ↔ Sq K c :=
 sq_repl (L := [imp x b, imp y b]) hG (by simpa using hK) fun M w _ => by
  simp only [List.mem_cons, List.not_mem_nil, or_false, forall_eq_or_imp, forall_eq]
  constructor
  ·intro h
   exact ⟨fun u hu hx => h u hu (.inl hx), fun u hu hy => h u hu (.inr hy)⟩
  ·rintro ⟨h1, h2⟩ u hu hxy
   exact hxy.elim (h1 u hu) (h2 u hu)
theorem sq_impL (hG : ∀ a, a ∈ G ↔ a = imp x b ∨ a ∈ H) (hx : x ∈ H) (hK : ∀ a, a ∈ K ↔ a = b ∨ a ∈ H) : Sq G c ↔ Sq K c :=
 sq_repl (L := [b]) hG (by simpa using hK) fun M w hw => by
  simp only [List.mem_singleton, forall_eq]
  exact ⟨fun h => h w (M.refl w) (hw x hx), fun h u hu _ => M.up _ _ _ hu h⟩
theorem sq_impR (hK : ∀ a, a ∈ K ↔ a = x ∨ a ∈ G) : Sq G (imp x y) ↔ Sq K y := by
 rw [sq_imp]
 exact sq_same fun a => by rw [List.mem_cons, hK]
theorem sq_orR (h : Sq G x ∨ Sq G y) : Sq G (or x y) := fun M w hw => h.imp (fun k => k M w hw) (fun k => k M w hw)
theorem way_iff (hG : ∀ a, a ∈ G ↔ a = imp (imp x y) b ∨ a ∈ H) (hK : ∀ a, a ∈ K ↔ (a = imp y b ∨ a = x) ∨ a ∈ H) (hL : ∀ a, a ∈ L ↔ a = b ∨ a ∈ H) : Way G c x y b ↔ Sq K y ∧ Sq L c := by
 unfold Way
 have h1 : Sq (x :: imp y b :: G) y ↔ Sq (x :: imp y b :: H) y := by
  refine sq_drop (x := imp (imp x y) b) (fun a => ?_) (fun M w hw => ?_)
  ·simp only [List.mem_cons, hG]
   constructor
   ·rintro (h | h | h | h)
    ·exact .inr (.inl h)
    ·exact .inr (.inr (.inl h))
    ·exact .inl h
    ·exact .inr (.inr (.inr h))
   ·rintro (h | h | h | h)
    ·exact .inr (.inr (.inl h))
    ·exact .inl h
    ·exact .inr (.inl h)
    ·exact .inr (.inr (.inr h))
  ·exact forces_impimp M w (hw _ (by simp)) (hw _ (by simp))
 have h2 : Sq (b :: G) c ↔ Sq (b :: H) c := by
  refine sq_drop (x := imp (imp x y) b) (fun a => ?_) (fun M w hw u hu _ => ?_)
  ·simp only [List.mem_cons, hG]
   constructor
   ·rintro (h | h | h)
    ·exact .inr (.inl h)
    ·exact .inl h
    ·exact .inr (.inr h)
   ·rintro (h | h | h)
    ·exact .inr (.inl h)
    ·exact .inl h
    ·exact .inr (.inr h)
  ·exact M.up _ _ _ hu (hw b (by simp))
 rw [h1, h2]
 refine and_congr (sq_same fun a => ?_) (sq_same fun a => ?_)
 ·simp only [List.mem_cons, hK]
  constructor
  ·rintro (h | h | h)
   ·exact .inl (.inr h)
   ·exact .inl (.inl h)
   ·exact .inr h
  ·rintro ((h | h) | h)
   ·exact .inr (.inl h)
   ·exact .inl h
   ·exact .inr (.inr h)
 ·simp only [List.mem_cons, hL]
theorem way_iff' (hG : ∀ a, a ∈ G ↔ a = imp (imp x y) b ∨ a ∈ H) (hK : ∀ a, a ∈ K ↔ a = imp y b ∨ a ∈ H) (hL : ∀ a, a ∈ L ↔ a = b ∨ a ∈ H) : Way G c x y b ↔ Sq K (imp x y) ∧ Sq L c := by
 rw [way_iff (K := x :: K) hG (fun a => ?_) hL, sq_imp]
 rw [List.mem_cons, hK]
 constructor
 ·rintro (h | h | h)
  ·exact .inl (.inr h)
  ·exact .inl (.inl h)
  ·exact .inr h
 ·rintro ((h | h) | h)
  ·exact .inr (.inl h)
  ·exact .inl h
  ·exact .inr (.inr h)
end
end Go.Proofs.YtikooimokfbffaaGreatDoor
namespace Go.Proofs.YtikooimokfbffaaGreatDoor
open Go.RowKit
def FsL (w : World) (v : Value) (G : List Fm) : Prop := NdsL w v (G.map Fm.enc)
def withL {α : Type} [DecidableEq α] (xs : List α) : List α → List α
 | [] => xs
 | y :: ys => if y ∈ xs then withL xs ys else withL (xs ++ [y]) ys
theorem withL_snoc {α : Type} [DecidableEq α] (ys : List α) : ∀ (xs : List α) (y : α), withL xs (ys ++ [y]) = if y ∈ withL xs ys then withL xs ys else withL xs ys ++ [y] := by
 induction ys with
 | nil => intro xs y; by_cases h : y ∈ xs <;> simp [withL, h]
 | cons z ys ih => intro xs y; simp only [List.cons_append, withL]; split <;> exact ih _ _
theorem mem_withL {α : Type} [DecidableEq α] (ys : List α) : ∀ (xs : List α) (z : α), z ∈ withL xs ys ↔ z ∈ ys ∨ z ∈ xs := by
 induction ys with
 | nil => intro xs z; simp [withL]
 | cons y ys ih =>
  intro xs z
  simp only [withL]
  split
  ·rename_i h
   rw [ih, List.mem_cons]
   constructor
   ·rintro (h1 | h1)
    ·exact .inl (.inr h1)
    ·exact .inr h1
   ·rintro ((rfl | h1) | h1)
    ·exact .inr h
    ·exact .inl h1
    ·exact .inr h1
  ·rw [ih, List.mem_cons, List.mem_append, List.mem_singleton]
   constructor
   ·rintro (h1 | h1 | h1)
    ·exact .inl (.inr h1)
    ·exact .inr h1
    ·exact .inl (.inl h1)
   ·rintro ((h1 | h1) | h1)
    ·exact .inr (.inr h1)
    ·exact .inl h1
    ·exact .inr (.inl h1)
theorem withL_len {α : Type} [DecidableEq α] (ys : List α) : ∀ (xs : List α), (withL xs ys).length ≤ xs.length + ys.length := by
 induction ys with
 | nil => intro xs; simp [withL]
 | cons y ys ih =>
  intro xs; simp only [withL]; split
  ·have := ih xs; simp only [List.length_cons]; omega
  ·have := ih (xs ++ [y]); simp only [List.length_append, List.length_cons, List.length_nil] at *; omega
theorem wts_withL (ys : List Fm) : ∀ xs : List Fm, wts (withL xs ys) ≤ wts xs + wts ys := by
 induction ys with
 | nil => intro xs; simp [withL, wts]
 | cons y ys ih =>
  intro xs; simp only [withL]; split
  ·have := ih xs; simp only [wts]; omega
  ·have := ih (xs ++ [y]); rw [wts_append] at this; simp only [wts] at *; omega
theorem withL_enc (ys : List Fm) : ∀ xs : List Fm, withL (xs.map Fm.enc) (ys.map Fm.enc) = (withL xs ys).map Fm.enc := by
 induction ys with
 | nil => intro xs; rfl
 | cons y ys ih =>
  intro xs
  simp only [List.map_cons, withL, enc_mem]
  split
  ·exact ih xs
  ·have := ih (xs ++ [y]); rw [List.map_append] at this; exact this
set_option maxRecDepth 20000 in
set_option maxHeartbeats 1000000 in
theorem l02Equal_any (a b : List Nd) (va vb : Value) (w : World) (hva : Nds w va a) (hvb : Nds w vb b) :
  Calls Tryz.prog 151 #[va, vb] w fun e w' => e = .returned (.bool (decide (a = b))) ∧ Keeps w w' := by
 have hva0 := hva
 have hvb0 := hvb
 obtain ⟨pa, ca, rfl, hlea, hmxa, _, hlena⟩ := hva
 obtain ⟨pb, cb, rfl, hleb, hmxb, _, hlenb⟩ := hvb
 unfold maxLen at hmxa hmxb
 by_cases hl : a.length = b.length
 ·have hl' : ((a.length : Int) != (b.length : Int)) = false := by simp [hl]
  have HL := hid hl; clear hl
  go_enter Tryz.func151, Tryz.ntmps151
  go_wp2
  go_loopw [4, 5] (fun r i' wr => ∃ k : Nat, k ≤ a.length ∧ a.take k = b.take k ∧ Keeps w wr ∧ i' = .int .i64 k ∧ r = .bool false) (fun _ i _ => a.length - (intOf i).toNat)
  case atStart => exact ⟨0, by omega, rfl, Keeps.refl w, rfl, rfl⟩
  case round =>
   obtain ⟨k, hk, htk, kw, rfl, rfl⟩ := hrel
   have HT := hid htk; clear htk
   clear hl'
   by_cases hlt : k < a.length
   ·have hltb : k < b.length := by have := HL.out; omega
    obtain ⟨_, _, e1, _, _, hata, _⟩ := hva0.keeps kw.drew
    obtain ⟨_, _, e2, _, _, hatb, _⟩ := hvb0.keeps kw.drew
    cases e1; cases e2
    obtain ⟨b1, o1, rfl, h1, h2⟩ := hata.nd k hlt
    obtain ⟨b2, o2, rfl, h3, h4⟩ := hatb.nd k hltb
    clear hata hatb hva0 hvb0
    have hlt' : (k : Int) < a.length := by omega
    have hltb' : (k : Int) < b.length := by omega
    by_cases he : a[k] = b[k]
    ·have hk2 : a[k].k = b[k].k := by rw [he]
     have hs2 : a[k].s = b[k].s := by rw [he]
     rw [hk2] at h1
     rw [hs2] at h2
     have HE := hid he; clear he hk2 hs2
     go_wp2_with fail
     go_region
     go_wp2
     go_roundw
     case rel => exact ⟨k + 1, by omega, by rw [List.take_succ_eq_append_getElem hlt, List.take_succ_eq_append_getElem hltb, HT.out, HE.out], kw.drew, by go_num, rfl⟩
     case measure => simp [intOf]; omega
    ·have hne : decide (a = b) = false := by rw [decide_eq_false_iff_not]; rintro rfl; exact he rfl
     have HN := hid hne; clear hne
     have hks : ¬ (a[k].k = b[k].k ∧ a[k].s = b[k].s) := fun ⟨g1, g2⟩ => he (by cases hx : a[k]; cases hy : b[k]; simp [hx, hy] at g1 g2; simp [g1, g2])
     clear he
     generalize a[k].k = x1 at *
     generalize a[k].s = x2 at *
     generalize b[k].k = y1 at *
     generalize b[k].s = y2 at *
     by_cases hx : x1 = y1
     ·have hx2 : ¬ x2 = y2 := fun e => hks ⟨hx, e⟩
      subst hx
      clear hks
      go_wp2_with fail
      go_region
      go_wp2
      go_ret
      exact ⟨ret_bool HN.out.symm, kw.drew⟩
     ·clear hks
      go_wp2_with fail
      go_region
      go_wp2
      go_ret
      exact ⟨ret_bool HN.out.symm, kw.drew⟩
   ·go_wp2
    go_ret
    refine ⟨ret_bool ?_, kw⟩
    symm; rw [decide_eq_true_eq]
    have h1 := HL.out; have h2 := HT.out
    rw [List.take_of_length_le (by omega), List.take_of_length_le (by omega)] at h2
    exact h2
 ·have hl' : ((a.length : Int) != (b.length : Int)) = true := by simp; omega
  have HL := hid hl; clear hl
  go_enter Tryz.func151, Tryz.ntmps151
  go_wp2
  go_ret
  refine ⟨ret_bool ?_, Keeps.refl _⟩
  symm; rw [decide_eq_false_iff_not]
  rintro rfl; exact HL.out rfl
set_option maxRecDepth 20000 in
set_option maxHeartbeats 1000000 in
theorem l23Has_any (xs : List (List Nd)) (x : List Nd) (v u : Value) (w : World) (hv : NdsL w v xs) (hu : Nds w u x) :
  Calls Tryz.prog 74 #[v, u] w fun e w' => e = .returned (.bool (decide (x ∈ xs))) ∧ Keeps w w' := by
 have hv0 := hv
 obtain ⟨p, cap, rfl, hle, hmx, hlm, _⟩ := hv
 obtain ⟨pu, nu, cu, rfl⟩ := hu.shape
 unfold maxLen at hmx
 go_enter Tryz.func74, Tryz.ntmps74
 go_wp2
 go_loopw [4, 5] (fun r i' wr => ∃ k : Nat, k ≤ xs.length ∧ i' = .int .i64 k ∧ r = .bool false ∧ (∀ j (h : j < xs.length), j < k → xs[j] ≠ x) ∧ Keeps w wr) (fun _ i _ => xs.length - (intOf i).toNat)
 case atStart => exact ⟨0, by omega, rfl, rfl, fun j h hj => by omega, Keeps.refl w⟩
 case round =>
  obtain ⟨k, hk, rfl, rfl, hs, kw⟩ := hrel
  have Hs := hid hs; clear hs
  by_cases hlt : k < xs.length
  ·obtain ⟨b, off, u1, rfl, hc, hu1⟩ := (hv0.keeps kw).get k hlt
   have hlt' : (k : Int) < xs.length := by omega
   have HE := hid (l02Equal_any xs[k] x u1 _ wr hu1 (hu.keeps kw))
   obtain ⟨p1, n1, q1, rfl⟩ := hu1.shape
   clear hu1 hv0
   by_cases he : xs[k] = x
   ·rw [decide_eq_true he] at HE
    have Hm := hid (show x ∈ xs from he ▸ List.getElem_mem hlt)
    clear he
    go_wp2_with fail
    refine HE.out.mono ?_; rintro e w2 ⟨rfl, k2⟩
    go_wp2_with fail
    go_ret
    exact ⟨ret_bool (decide_eq_true Hm.out).symm, kw.trans k2⟩
   ·rw [decide_eq_false he] at HE
    have He := hid he; clear he
    go_wp2_with fail
    refine HE.out.mono ?_; rintro e w2 ⟨rfl, k2⟩
    go_wp2_with fail
    go_roundw
    case rel => exact ⟨k + 1, by omega, by go_num, rfl, fun j h hj => by
     by_cases e : j = k
     ·subst e; exact He.out
     ·exact Hs.out j h (by omega), kw.trans k2⟩
    case measure => simp [intOf]; omega
  ·go_wp2
   go_ret
   refine ⟨ret_bool ?_, kw⟩
   symm; rw [decide_eq_false_iff_not]
   intro hm
   obtain ⟨j, hj, e⟩ := List.getElem_of_mem hm
   exact Hs.out j hj (by omega) e
set_option maxRecDepth 20000 in
set_option maxHeartbeats 2000000 in
theorem l23With_any (xs ys : List (List Nd)) (v u : Value) (w : World) (hv : NdsL w v xs) (hu : NdsL w u ys) (hl : xs.length + ys.length ≤ 2000000000) :
  Calls Tryz.prog 76 #[v, u] w fun e w' => ∃ v', e = .returned v' ∧ NdsL w' v' (withL xs ys) ∧ Keeps w w' := by
 have hu0 := hu
 obtain ⟨p, n, cap, rfl⟩ := NdsL.shapeL hv
 have hn : n = xs.length := by obtain ⟨_, _, e, _⟩ := hv; cases e; rfl
 obtain ⟨us, hat, hus⟩ := hv.vals
 obtain ⟨pu, cu, rfl, hleu, hmxu, hlmu, _⟩ := hu
 have HN := hid hn; clear hn hv
 unfold maxLen at hmxu
 have k0 := (Keeps.refl w).alloc (.cells #[] 26)
 have hE := ShL.empty (w0 := w) w (Nat.le_refl _)
 go_enter Tryz.func76, Tryz.ntmps76
 go_wp2_with (at_builtin; refine appSh rfl _ _ rfl w _ [] rfl hE p n cap us xs rfl HN.out (hat.keeps k0) hus (by simp) (by simp; omega) ?_; intro v1 w1 hv1 hg1 hr1; have kw1 := k0.grown hg1 hr1)
 simp only [List.nil_append] at hv1
 clear hE
 go_loopw [5, 6] (fun o i' wr => ∃ k : Nat, k ≤ ys.length ∧ i' = .int .i64 k ∧ ShL w wr o (withL xs (ys.take k)) ∧ Keeps w wr) (fun _ i _ => ys.length - (intOf i).toNat)
 case atStart => exact ⟨0, by omega, rfl, hv1, kw1⟩
 case round =>
  obtain ⟨k, hk, rfl, hown, kw⟩ := hrel
  clear hv1 hg1 hr1 kw1 k0
  have hsz := kw.size
  by_cases hlt : k < ys.length
  ·obtain ⟨b, off, u1, rfl, hc0, hu1⟩ := hu0.get k hlt
   have hc := kw.cell hc0
   have hlt' : (k : Int) < ys.length := by omega
   have hwl := withL_len (ys.take k) xs
   have hsn := withL_snoc (ys.take k) xs ys[k]
   rw [← List.take_succ_eq_append_getElem hlt] at hsn
   have htl : (ys.take k).length ≤ ys.length := by simp; omega
   have HSN := hid hsn; clear hsn hc0 hu0
   have hnd := hown.ndsL kw (by omega)
   have HH := hid (l23Has_any (withL xs (ys.take k)) ys[k] _ u1 wr hnd (hu1.keeps kw))
   obtain ⟨p2, n2, q2, e2⟩ := NdsL.shapeL hnd
   obtain ⟨p1, n1, q1, rfl⟩ := hu1.shape
   subst e2
   clear hnd
   generalize hW : withL xs (ys.take k) = L at *
   clear hW
   by_cases hm : ys[k] ∈ L
   ·rw [decide_eq_true hm] at HH
    have HM := hid hm; clear hm
    go_wp2_with fail
    refine HH.out.mono ?_; rintro e w2 ⟨rfl, k2⟩
    go_wp2_with fail
    go_roundw
    case rel => exact ⟨k + 1, by omega, by go_num, by rw [HSN.out, if_pos HM.out]; exact hown.keeps k2, kw.trans k2⟩
    case measure => simp [intOf]; omega
   ·rw [decide_eq_false hm] at HH
    have HM := hid hm; clear hm
    go_wp2_with fail
    refine HH.out.mono ?_; rintro e w2 ⟨rfl, k2⟩
    have hc2 := k2.cell hc
    have k3 := k2.alloc (.cells #[.slice p1 n1 q1] 26)
    have hat1 := At.lit1 w2 (.slice p1 n1 q1) 26
    go_wp2_with (at_builtin; refine appSh rfl _ _ rfl w _ L rfl (hown.keeps k3) _ _ _ [.slice p1 n1 q1] [ys[k]] rfl rfl hat1 (RowsS.one hu1) (by have := k2.size; simp; omega) (by simp; omega) ?_; intro v4 w4 hv4 hg4 hr4; have k4 := (kw.trans k3).grown hg4 hr4)
    go_roundw
    case rel => exact ⟨k + 1, by omega, by go_num, by rw [HSN.out, if_neg HM.out]; exact hv4, k4⟩
    case measure => simp [intOf]; omega
  ·have e : ys.take k = ys := List.take_of_length_le (by omega)
   rw [e] at hown
   clear e
   have hwl := withL_len ys xs
   go_wp2
   go_ret
   exact ⟨_, rfl, hown.ndsL kw (by omega), kw⟩
end Go.Proofs.YtikooimokfbffaaGreatDoor
namespace Go.Proofs.YtikooimokfbffaaGreatDoor
open Go.RowKit
def useF (H : List Fm) : Fm → Bool
 | .or x y => decide (x ∈ H) || decide (y ∈ H)
 | .imp x y => x.isFls || decide (y ∈ H)
 | _ => false
theorem has_enc (G : List Fm) (a : Fm) : decide (a.enc ∈ G.map Fm.enc) = decide (a ∈ G) := decide_eq_decide.2 enc_mem
theorem has_fm (G : List Fm) (a : Fm) (v u : Value) (w : World) (hv : FsL w v G) (hu : Nds w u a.enc) :
  Calls Tryz.prog 74 #[v, u] w fun e w' => e = .returned (.bool (decide (a ∈ G))) ∧ Keeps w w' := by
 have h := l23Has_any _ _ v u w hv hu
 rw [has_enc] at h
 exact h
theorem with_fm (G Y : List Fm) (v u : Value) (w : World) (hv : FsL w v G) (hu : FsL w u Y) (hl : G.length + Y.length ≤ 2000000000) :
  Calls Tryz.prog 76 #[v, u] w fun e w' => ∃ v', e = .returned v' ∧ FsL w' v' (withL G Y) ∧ Keeps w w' := by
 have h := l23With_any _ _ v u w hv hu (by simpa using hl)
 rw [withL_enc] at h
 exact h
theorem FsL.keeps {w w' : World} {v : Value} {G : List Fm} (h : FsL w v G) (k : Keeps w w') : FsL w' v G := NdsL.keeps h k
set_option maxRecDepth 20000 in
set_option maxHeartbeats 1000000 in
theorem l23Useless_any (H : List Fm) (a : Fm) (hp : a.plain = true) (v u : Value) (w : World) (hv : FsL w v H) (hu : Nds w u a.enc) :
  Calls Tryz.prog 75 #[v, u] w fun e w' => e = .returned (.bool (useF H a)) ∧ Keeps w w' := by
 have hu0 := hu
 obtain ⟨pv, nv, cv, rfl⟩ := NdsL.shapeL hv
 cases a with
 | or x y =>
  obtain ⟨b, off, n, cap, rfl, h0, h1, h2, h3, hc, _⟩ := hu.head
  clear hu
  have HX := hid (fun w1 u1 (hv1 : FsL w1 (.slice pv nv cv) H) (hu1 : Nds w1 u1 x.enc) => has_fm H x _ u1 w1 hv1 hu1)
  have HY := hid (fun w1 u1 (hv1 : FsL w1 (.slice pv nv cv) H) (hu1 : Nds w1 u1 y.enc) => has_fm H y _ u1 w1 hv1 hu1)
  cases hx : decide (x ∈ H)
  ·have Hx := hid hx; clear hx
   go_enter Tryz.func75, Tryz.ntmps75
   go_wp2_with fail
   refine (l02Left_any _ _ x y.enc _ _ hu0 rfl).mono ?_; rintro e w' ⟨v1, rfl, hv1, rfl⟩
   go_wp2_with fail
   refine (HX.out w v1 hv hv1).mono ?_; rintro e w2 ⟨rfl, k2⟩; rw [Hx.out]
   go_wp2_with fail
   refine (l02Right_any _ _ x y _ _ (hu0.keeps k2) rfl).mono ?_; rintro e w' ⟨v2, rfl, hv2, rfl⟩
   go_wp2_with fail
   refine (HY.out w2 v2 (hv.keeps k2) hv2).mono ?_; rintro e w3 ⟨rfl, k3⟩
   go_wp2_with fail
   go_ret
   exact ⟨ret_bool (by simp only [useF, Hx.out, Bool.false_or]), k2.trans k3⟩
  ·have Hx := hid hx; clear hx
   go_enter Tryz.func75, Tryz.ntmps75
   go_wp2_with fail
   refine (l02Left_any _ _ x y.enc _ _ hu0 rfl).mono ?_; rintro e w' ⟨v1, rfl, hv1, rfl⟩
   go_wp2_with fail
   refine (HX.out w v1 hv hv1).mono ?_; rintro e w2 ⟨rfl, k2⟩; rw [Hx.out]
   go_wp2_with fail
   go_ret
   exact ⟨ret_bool (by simp only [useF, Hx.out, Bool.true_or]), k2⟩
 | imp x y =>
  obtain ⟨b, off, n, cap, rfl, h0, h1, h2, h3, hc, _⟩ := hu.head
  clear hu
  have HY := hid (fun w1 u1 (hv1 : FsL w1 (.slice pv nv cv) H) (hu1 : Nds w1 u1 y.enc) => has_fm H y _ u1 w1 hv1 hu1)
  have hk := Fm.kind_isFls x
  cases hx : x.isFls
  ·rw [hx] at hk
   have Hx := hid hx; clear hx
   go_enter Tryz.func75, Tryz.ntmps75
   go_wp2_with fail
   refine (l02Left_any _ _ x y.enc _ _ hu0 rfl).mono ?_; rintro e w' ⟨v1, rfl, hv1, rfl⟩
   obtain ⟨b1, off1, n1, cap1, rfl, g0, g1, g2, g3, gc, _⟩ := hv1.root
   go_wp2_with fail
   refine (l02Right_any _ _ x y _ _ hu0 rfl).mono ?_; rintro e w' ⟨v2, rfl, hv2, rfl⟩
   go_wp2_with fail
   refine (HY.out w v2 hv hv2).mono ?_; rintro e w3 ⟨rfl, k3⟩
   go_wp2_with fail
   go_ret
   exact ⟨ret_bool (by simp only [useF, Hx.out, Bool.false_or]), k3⟩
  ·rw [hx] at hk
   have Hx := hid hx; clear hx
   go_enter Tryz.func75, Tryz.ntmps75
   go_wp2_with fail
   refine (l02Left_any _ _ x y.enc _ _ hu0 rfl).mono ?_; rintro e w' ⟨v1, rfl, hv1, rfl⟩
   obtain ⟨b1, off1, n1, cap1, rfl, g0, g1, g2, g3, gc, _⟩ := hv1.root
   go_wp2_with fail
   go_ret
   exact ⟨ret_bool (by simp only [useF, Hx.out, Bool.true_or]), Keeps.refl _⟩
 | box x => cases hp
 | dia x => cases hp
 | _ =>
  obtain ⟨b, off, n, cap, rfl, h0, h1, h2, h3, hc, _⟩ := hu.head
  go_enter Tryz.func75, Tryz.ntmps75
  go_wp2_with fail
  go_ret
  exact ⟨rfl, Keeps.refl _⟩
open Classical in
noncomputable def sqB (G : List Fm) (c : Fm) : Bool := decide (Sq G c)
theorem sqB_iff {G : List Fm} {c : Fm} : sqB G c = true ↔ Sq G c := by unfold sqB; exact @decide_eq_true_iff _ (Classical.propDecidable _)
theorem sqB_true {G : List Fm} {c : Fm} (h : Sq G c) : sqB G c = true := sqB_iff.2 h
theorem sqB_false {G : List Fm} {c : Fm} (h : ¬ Sq G c) : sqB G c = false := by
 cases hb : sqB G c with
 | false => rfl
 | true => exact absurd (sqB_iff.1 hb) h
theorem sqB_congr {G H : List Fm} {c d : Fm} (h : Sq G c ↔ Sq H d) : sqB G c = sqB H d := by
 by_cases hs : Sq G c
 ·rw [sqB_true hs, sqB_true (h.1 hs)]
 ·rw [sqB_false hs, sqB_false (fun k => hs (h.2 k))]
def rest (G : List Fm) (k : Nat) : List Fm := G.take k ++ G.drop (k + 1)
theorem mem_rest {G : List Fm} {k : Nat} (h : k < G.length) (a : Fm) : a ∈ G ↔ a = G[k] ∨ a ∈ rest G k := by
 have e : G = G.take k ++ (G[k] :: G.drop (k + 1)) := by rw [← List.drop_eq_getElem_cons h, List.take_append_drop]
 constructor
 ·intro ha
  rw [e] at ha
  unfold rest
  rcases List.mem_append.1 ha with ha | ha
  ·exact .inr (List.mem_append.2 (.inl ha))
  ·rcases List.mem_cons.1 ha with ha | ha
   ·exact .inl ha
   ·exact .inr (List.mem_append.2 (.inr ha))
 ·rintro (ha | ha)
  ·rw [ha]; exact List.getElem_mem h
  ·unfold rest at ha
   rcases List.mem_append.1 ha with ha | ha
   ·exact List.mem_of_mem_take ha
   ·exact List.mem_of_mem_drop ha
theorem wts_rest {G : List Fm} {k : Nat} (h : k < G.length) : wts G = wt G[k] + wts (rest G k) := by
 have e : G = G.take k ++ (G[k] :: G.drop (k + 1)) := by rw [← List.drop_eq_getElem_cons h, List.take_append_drop]
 have h2 : wts G = wts (G.take k ++ (G[k] :: G.drop (k + 1))) := by rw [← e]
 rw [h2, rest, wts_append, wts_append]
 simp only [wts]; omega
def stuck (H : List Fm) (a : Fm) : Prop := (∃ p, a = .var p) ∨ (∃ p b, a = .imp (.var p) b ∧ Fm.var p ∉ H) ∨ (∃ x y b, a = .imp (.imp x y) b)
theorem final_of {G : List Fm} (hf : Fm.fls ∉ G) (h : ∀ k (hk : k < G.length), stuck (rest G k) G[k]) : Final G := by
 refine ⟨hf, fun a ha => ?_⟩
 obtain ⟨k, hk, rfl⟩ := List.getElem_of_mem ha
 rcases h k hk with ⟨p, e⟩ | ⟨p, b, e, hn⟩ | ⟨x, y, b, e⟩
 ·exact .inl ⟨p, e⟩
 ·refine .inr (.inl ⟨p, b, e, fun hp => ?_⟩)
  rcases (mem_rest hk _).1 hp with h1 | h1
  ·rw [e] at h1; cases h1
  ·exact hn h1
 ·exact .inr (.inr (.inr ⟨x, y, b, e⟩))
end Go.Proofs.YtikooimokfbffaaGreatDoor
