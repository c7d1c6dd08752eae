import Derived.Test.YtfmmajgkjkmghaaGreatDoorHJC
import Derived.Test.YtfmmajgkjkmghaaGreatDoorHON
import Derived.Test.YtfmmajgkjkmghaaGreatDoorHP4
import Derived.Test.YtfmmajgkjkmghaaGreatDoorHP3
import Derived.Test.YtfmmajgkjkmghaaGreatDoorHL1
import Derived.Test.YtfmmajgkjkmghaaGreatDoorHSR
import Derived.Test.YtfmmajgkjkmghaaGreatDoorHAL
/- Validity goes to what an order is mapped on (plain). -/
namespace Go.Proofs.YtfmmajgkjkmghaaGreatDoor
open Go.RowKit
theorem vld_pm (b q : List Nat) (hb : Pos b) (hq : Pos q) (R : Nat → Nat → Prop) (hf : ∀ x y y', R x y → R x y' → y = y') (hR : ∀ x y, R x y → x < b.length ∧ y < q.length) (hon : ∀ y, y < q.length → ∃ x, R x y)
  (zig : ∀ x y x', R x y → (b.getD x 0).testBit x' = true → ∃ y', (q.getD y 0).testBit y' = true ∧ R x' y')
  (zag : ∀ x y y', R x y → (q.getD y 0).testBit y' = true → ∃ x', (b.getD x 0).testBit x' = true ∧ R x' y')
  (t : Fm) (hw : t.wf) (h : vldR b t = true) : vldR q t = true := by
 rw [vld_km b hb t hw] at h
 rw [vld_km q hq t hw]
 intro A hA y hy
 obtain ⟨x, hx⟩ := hon y hy
 have hA' : ∀ x x' p, x < b.length → (b.getD x 0).testBit x' = true → (∃ y, R x y ∧ A y p) → ∃ y, R x' y ∧ A y p := by
  rintro x x' p _ hxx ⟨y, hr, ha⟩
  obtain ⟨y', h1, h2⟩ := zig x y x' hr hxx
  exact ⟨y', h2, hA y y' p (hR x y hr).2 h1 ha⟩
 have hB : BiS (varL t) (kmA b hb (fun x p => ∃ y, R x y ∧ A y p) hA') (kmA q hq A hA) (fun u v => R u.1 v.1) := by
  refine ⟨?_, ?_, ?_⟩
  ·intro u v r p _
   constructor
   ·rintro ⟨y', h1, h2⟩
    have e := hf _ _ _ r h1
    show A v.1 p
    rw [e]; exact h2
   ·intro ha
    exact ⟨v.1, r, ha⟩
  ·intro u v u' r hu
   obtain ⟨y', h1, h2⟩ := zig _ _ _ r hu
   exact ⟨⟨y', (hR _ _ h2).2⟩, h1, h2⟩
  ·intro u v v' r hv
   obtain ⟨x', h1, h2⟩ := zag _ _ _ r hv
   exact ⟨⟨x', (hR _ _ h2).1⟩, h1, h2⟩
 exact (hB.forces t (inV_varL hw) ⟨x, (hR x y hx).1⟩ ⟨y, hy⟩ hx).1 (h _ hA' x (hR x y hx).1)
end Go.Proofs.YtfmmajgkjkmghaaGreatDoor
namespace Go.Proofs.YtfmmajgkjkmghaaGreatDoor
open Go.RowKit
theorem vld_ren (b o : List Nat) (hb : Pos b) (hq : Pos (renP b o)) (ho : ∀ i, i < o.length → o.getD i 0 < b.length) (hnd : ∀ i j, i < o.length → j < o.length → o.getD i 0 = o.getD j 0 → i = j)
  (hup : ∀ i x, i < o.length → (b.getD (o.getD i 0) 0).testBit x = true → ∃ j, j < o.length ∧ o.getD j 0 = x)
  (t : Fm) (hw : t.wf) (h : vldR b t = true) : vldR (renP b o) t = true := by
 refine vld_pm b (renP b o) hb hq (fun x y => y < o.length ∧ x = o.getD y 0) ?_ ?_ ?_ ?_ ?_ t hw h
 ·rintro x y y' ⟨h1, e1⟩ ⟨h2, e2⟩
  exact hnd y y' h1 h2 (e1.symm.trans e2)
 ·rintro x y ⟨h1, rfl⟩
  exact ⟨ho y h1, by rw [renP_len]; exact h1⟩
 ·intro y hy
  rw [renP_len] at hy
  exact ⟨_, hy, rfl⟩
 ·rintro x y x' ⟨h1, rfl⟩ hx
  obtain ⟨j, hj, rfl⟩ := hup y x' h1 hx
  exact ⟨j, by rw [renP_bit b o h1, decide_eq_true hj, hx]; rfl, hj, rfl⟩
 ·rintro x y y' ⟨h1, rfl⟩ hy
  rw [renP_bit b o h1, Bool.and_eq_true, decide_eq_true_eq] at hy
  exact ⟨o.getD y' 0, hy.2, hy.1, rfl⟩
end Go.Proofs.YtfmmajgkjkmghaaGreatDoor
namespace Go.Proofs.YtfmmajgkjkmghaaGreatDoor
theorem list_two {l : List Nat} (h : l.length ≤ 1) {x y : Nat} (hx : x ∈ l) (hy : y ∈ l) : x = y := by
 match l, h with
 | [], _ => cases hx
 | [a], _ => rw [List.mem_singleton.1 hx, List.mem_singleton.1 hy]
theorem list_three {l : List Nat} (h : l.length ≤ 2) {x y z : Nat} (hx : x ∈ l) (hy : y ∈ l) (hz : z ∈ l) (hxy : x ≠ y) (hxz : x ≠ z) : y = z := by
 match l, h with
 | [], _ => cases hx
 | [a], _ => rw [List.mem_singleton.1 hy, List.mem_singleton.1 hz]
 | [a, b], _ =>
  simp only [List.mem_cons, List.not_mem_nil, or_false] at hx hy hz
  rcases hx with rfl | rfl <;> rcases hy with rfl | rfl <;> rcases hz with rfl | rfl <;> first | rfl | exact absurd rfl hxy | exact absurd rfl hxz
theorem mem_memB {m x : Nat} (h : m.testBit x = true) (h8 : x < 8) : x ∈ memB m := by
 unfold memB lowB
 exact List.mem_filter.2 ⟨List.mem_range.2 h8, h⟩
theorem Pos.lt8 {b : List Nat} (hp : Pos b) {x y : Nat} (h : (b.getD x 0).testBit y = true) : y < b.length ∧ y < 8 := by
 have := bit_lt hp.2.1 h
 have := hp.1
 omega
theorem dep_two {b : List Nat} (hp : Pos b) (h : depB b ≤ 2) {x y z : Nat} (hx : x < b.length) (hxy : (b.getD x 0).testBit y = true) (hne : y ≠ x) (hyz : (b.getD y 0).testBit z = true) : z = y := by
 obtain ⟨hb, hbm, hr, ht, ha⟩ := hp
 have hy := bit_lt hbm hxy
 have hz := bit_lt hbm hyz
 by_cases e : z = y
 ·exact e
 ·have h1 := dptB_above hb hbm hr ht ha hx hxy hne
  have h2 := dptB_above hb hbm hr ht ha hy hyz e
  have h3 := dptB_pos hb hbm hr ht ha hz
  have h4 := le_maxTo (c := dptL b) hx
  rw [dptL_get hx] at h4
  unfold depB at h
  omega
theorem dep_flat {b : List Nat} (hp : Pos b) (h : depB b ≤ 1) {x y : Nat} (hx : x < b.length) (hxy : (b.getD x 0).testBit y = true) : y = x := by
 by_cases e : y = x
 ·exact e
 ·obtain ⟨hb, hbm, hr, ht, ha⟩ := hp
  have hy := bit_lt hbm hxy
  have h1 := dptB_above hb hbm hr ht ha hx hxy e
  have h3 := dptB_pos hb hbm hr ht ha hy
  have h4 := le_maxTo (c := dptL b) hx
  rw [dptL_get hx] at h4
  unfold depB at h
  omega
theorem wid_lin {b : List Nat} (hp : Pos b) (h : widB b ≤ 1) {x y z : Nat} (hx : x < b.length) (hy : (b.getD x 0).testBit y = true) (hz : (b.getD x 0).testBit z = true) : (b.getD y 0).testBit z = true ∨ (b.getD z 0).testBit y = true := by
 by_cases h1 : (b.getD y 0).testBit z = true
 ·exact .inl h1
 ·by_cases h2 : (b.getD z 0).testBit y = true
  ·exact .inr h2
  ·exfalso
   have hy8 := hp.lt8 hy
   have hz8 := hp.lt8 hz
   have hyy := refl_of hp.2.2.1 hy8.1
   have hzz := refl_of hp.2.2.1 hz8.1
   have hne : y ≠ z := fun e => h1 (e ▸ hyy)
   have hs : (2 ^ y ||| 2 ^ z) < 256 := by
    have e1 : 2 ^ y < 2 ^ 8 := Nat.pow_lt_pow_right (by omega) hy8.2
    have e2 : 2 ^ z < 2 ^ 8 := Nat.pow_lt_pow_right (by omega) hz8.2
    exact Nat.or_lt_two_pow e1 e2
   have hbit : ∀ i, (2 ^ y ||| 2 ^ z).testBit i = (decide (y = i) || decide (z = i)) := fun i => by rw [Nat.testBit_or, Nat.testBit_two_pow, Nat.testBit_two_pow]
   have hw : okW b (2 ^ y ||| 2 ^ z) = true := by
    unfold okW
    rw [Bool.and_eq_true]
    constructor
    ·unfold antiC
     rw [List.all_eq_true]
     intro i hi
     rw [beq_iff_eq]
     apply Nat.eq_of_testBit_eq
     intro k
     have hi2 := (memB_mem hi).2
     rw [hbit, Bool.or_eq_true, decide_eq_true_eq, decide_eq_true_eq] at hi2
     rw [Nat.testBit_and, hbit, Nat.testBit_two_pow]
     rcases hi2 with rfl | rfl
     ·by_cases ek : y = k
      ·subst ek; simp only [hyy, decide_true, Bool.true_or, Bool.and_true]
      ·by_cases ek2 : z = k
       ·subst ek2; rw [Bool.eq_false_iff.2 h1]; simp [ek]
       ·simp [ek, ek2]
     ·by_cases ek : z = k
      ·subst ek; simp only [hzz, decide_true, Bool.or_true, Bool.and_true]
      ·by_cases ek2 : y = k
       ·subst ek2; rw [Bool.eq_false_iff.2 h2]; simp [ek]
       ·simp [ek, ek2]
    ·rw [List.any_eq_true]
     refine ⟨x, by simpa using hx, (inB_iff _ _).2 fun i hi => ?_⟩
     rw [hbit, Bool.or_eq_true, decide_eq_true_eq, decide_eq_true_eq] at hi
     rcases hi with rfl | rfl
     ·exact hy
     ·exact hz
   have h3 := widT_ge hs hw
   have h4 : cntB (2 ^ y ||| 2 ^ z) ≤ 1 := by unfold widB at h; omega
   exact hne (list_two h4 (mem_memB (by rw [hbit]; simp) hy8.2) (mem_memB (by rw [hbit]; simp) hz8.2))
theorem sml_two {b : List Nat} (hp : Pos b) (h : b.all ofSmL = true) {x y z : Nat} (hx : x < b.length) (hy : (b.getD x 0).testBit y = true) (hz : (b.getD x 0).testBit z = true) (hne : y ≠ x) (hne2 : z ≠ x) : y = z := by
 have h1 := List.all_eq_true.1 h (b.getD x 0) (by rw [List.getD_eq_getElem?_getD, List.getElem?_eq_getElem hx]; exact List.getElem_mem hx)
 unfold ofSmL at h1
 rw [decide_eq_true_eq] at h1
 have hxx := refl_of hp.2.2.1 hx
 exact list_three h1 (mem_memB hxx (hp.lt8 hxx).2) (mem_memB hy (hp.lt8 hy).2) (mem_memB hz (hp.lt8 hz).2) (Ne.symm hne) (Ne.symm hne2)
theorem mxB_bit (b : List Nat) (i : Nat) : (mxB b).testBit i = true ↔ i < b.length ∧ b.getD i 0 = 2 ^ i := by
 unfold mxB
 rw [mxT_bit, Bool.and_eq_true, decide_eq_true_eq, beq_iff_eq]
theorem kc_max {b : List Nat} (hp : Pos b) (h : b.all (ofKC b) = true) {x : Nat} (hx : x < b.length) : ∃ m, (b.getD x 0).testBit m = true ∧ b.getD m 0 = 2 ^ m ∧ ∀ m', (b.getD x 0).testBit m' = true → b.getD m' 0 = 2 ^ m' → m' = m := by
 have h1 := List.all_eq_true.1 h (b.getD x 0) (by rw [List.getD_eq_getElem?_getD, List.getElem?_eq_getElem hx]; exact List.getElem_mem hx)
 unfold ofKC at h1
 rw [beq_iff_eq] at h1
 unfold cntB at h1
 obtain ⟨m, hm⟩ : ∃ m, m ∈ memB (b.getD x 0 &&& mxB b) := List.exists_mem_of_length_pos (by omega)
 have hm2 := (memB_mem hm).2
 rw [Nat.testBit_and, Bool.and_eq_true, mxB_bit] at hm2
 refine ⟨m, hm2.1, hm2.2.2, fun m' h2 h3 => ?_⟩
 have h8 := hp.lt8 h2
 exact list_two (by omega) (mem_memB (by rw [Nat.testBit_and, h2, (mxB_bit b m').2 ⟨h8.1, h3⟩]; rfl) h8.2) hm
theorem kc_top {b : List Nat} (hp : Pos b) (h : b.all (ofKC b) = true) {x : Nat} (hx : x < b.length) : ∃ m, (b.getD x 0).testBit m = true ∧ ∀ u, (b.getD x 0).testBit u = true → (b.getD u 0).testBit m = true := by
 obtain ⟨m, h1, _, h3⟩ := kc_max hp h hx
 refine ⟨m, h1, fun u hu => ?_⟩
 have hul := (hp.lt8 hu).1
 obtain ⟨m', g1, g2, _⟩ := kc_max hp h hul
 have := h3 m' (trans_of hp.2.1 hp.2.2.2.1 hx hu g1) g2
 rwa [this] at g1
end Go.Proofs.YtfmmajgkjkmghaaGreatDoor
namespace Go.Proofs.YtfmmajgkjkmghaaGreatDoor
open Go.RowKit
theorem foldM_tb (c : List Nat) (y : Nat) : ∀ l : List Nat, (foldM c l).testBit y = true ↔ ∃ x ∈ l, c.getD x 0 = y := by
 have key : ∀ (l : List Nat) (acc : Nat), (l.foldl (fun acc i => acc ||| 2 ^ c.getD i 0) acc).testBit y = true ↔ acc.testBit y = true ∨ ∃ x ∈ l, c.getD x 0 = y := by
  intro l
  induction l with
  | nil => intro acc; simp
  | cons a l ih =>
   intro acc
   rw [List.foldl_cons, ih, Nat.testBit_or, Bool.or_eq_true]
   have h2 : (2 ^ c.getD a 0).testBit y = true ↔ c.getD a 0 = y := by
    rw [Nat.testBit_two_pow, decide_eq_true_eq]
   rw [h2]
   constructor
   ·rintro ((h | h) | ⟨x, hx, h⟩)
    ·exact .inl h
    ·exact .inr ⟨a, by simp, h⟩
    ·exact .inr ⟨x, by simp [hx], h⟩
   ·rintro (h | ⟨x, hx, h⟩)
    ·exact .inl (.inl h)
    ·rcases List.mem_cons.1 hx with rfl | hx
     ·exact .inl (.inr h)
     ·exact .inr ⟨x, hx, h⟩
 intro l
 have := key l 0
 unfold foldM
 rw [this]
 simp
theorem ArC.hit {c : List Nat} (h : ArC c) : ∀ k, k ≤ c.length → ∀ y, y < grC c k → ∃ i, i < k ∧ c.getD i 0 = y
 | 0, _, y, hy => by rw [grC_zero] at hy; omega
 | k + 1, hk, y, hy => by
  have ih := ArC.hit h k (by omega) y
  rw [grC_succ (by omega) (h k (by omega))] at hy
  by_cases e : c.getD k 0 = grC c k
  ·rw [if_pos e] at hy
   by_cases hl : y < grC c k
   ·obtain ⟨i, hi, he⟩ := ih hl
    exact ⟨i, by omega, he⟩
   ·exact ⟨k, by omega, by omega⟩
  ·rw [if_neg e] at hy
   obtain ⟨i, hi, he⟩ := ih hy
   exact ⟨i, by omega, he⟩
theorem ArC.hits {c : List Nat} (h : ArC c) {y : Nat} (hy : y < cntC c) : ∃ i, i < c.length ∧ c.getD i 0 = y := by
 refine h.hit c.length (Nat.le_refl _) y ?_
 unfold grC
 rwa [List.take_length]
theorem cgB_row {b c : List Nat} (h : cgB b c = true) {x : Nat} (hx : x < b.length) : mapM c (b.getD x 0) = (qtL b c).getD (c.getD x 0) 0 := by
 unfold cgB morB at h
 rw [List.all_eq_true] at h
 simpa using h x (List.mem_range.2 hx)
theorem vld_img (b c : List Nat) (hb : Pos b) (hq : Pos (qtL b c)) (hc : ArC c) (hl : c.length = b.length) (hg : cgB b c = true)
  (t : Fm) (hw : t.wf) (h : vldR b t = true) : vldR (qtL b c) t = true := by
 have hlq : (qtL b c).length = cntC c := qtK_len b c _
 have hlt : ∀ x x', (b.getD x 0).testBit x' = true → x' < b.length := fun x x' hx => by
  refine Nat.lt_of_not_le fun hle => ?_
  rw [Nat.testBit_lt_two_pow (Nat.lt_of_lt_of_le (hb.2.1 x) (Nat.pow_le_pow_right (by omega) hle))] at hx
  exact Bool.noConfusion hx
 have hrow : ∀ x y, x < b.length → (((qtL b c).getD (c.getD x 0) 0).testBit y = true ↔ ∃ x', (b.getD x 0).testBit x' = true ∧ c.getD x' 0 = y) := fun x y hx => by
  rw [← cgB_row hg hx]
  unfold mapM
  rw [foldM_tb]
  constructor
  ·rintro ⟨x', h1, h2⟩
   exact ⟨x', (memB_mem h1).2, h2⟩
  ·rintro ⟨x', h1, h2⟩
   exact ⟨x', mem_memB h1 (by have := hlt _ _ h1; have := hb.1; omega), h2⟩
 refine vld_pm b (qtL b c) hb hq (fun x y => x < b.length ∧ c.getD x 0 = y) ?_ ?_ ?_ ?_ ?_ t hw h
 ·rintro x y y' ⟨_, e1⟩ ⟨_, e2⟩
  exact e1.symm.trans e2
 ·rintro x y ⟨h1, rfl⟩
  exact ⟨h1, by rw [hlq]; exact cntC_gt (by omega)⟩
 ·intro y hy
  rw [hlq] at hy
  obtain ⟨i, hi, he⟩ := hc.hits hy
  exact ⟨i, by omega, he⟩
 ·rintro x y x' ⟨h1, rfl⟩ hx
  exact ⟨c.getD x' 0, (hrow x _ h1).2 ⟨x', hx, rfl⟩, hlt _ _ hx, rfl⟩
 ·rintro x y y' ⟨h1, rfl⟩ hy
  obtain ⟨x', h2, h3⟩ := (hrow x y' h1).1 hy
  exact ⟨x', h2, hlt _ _ h2, h3⟩
end Go.Proofs.YtfmmajgkjkmghaaGreatDoor
namespace Go.Proofs.YtfmmajgkjkmghaaGreatDoor
open Go.RowKit
theorem isFls_eq {b : Fm} (h : b.isFls = true) : b = .fls := by cases b <;> simp [Fm.isFls] at h <;> rfl
theorem lev3_cases {P : Fm → List UInt8 → Prop} (t : Fm) (hw : t.wf) (hl : t.lev = 3)
  (hv : ∀ v, v < 6 → P (.var v) [UInt8.ofNat (112 + v)]) (hf : P .fls [70]) (ht : P (.imp .fls .fls) [84])
  (hn : ∀ a, a.wf → a.enc.length < (Fm.imp a .fls).enc.length → P (.imp a .fls) (126 :: a.txt 3))
  (hb : ∀ a, a.wf → a.enc.length < (Fm.box a).enc.length → P (.box a) (91 :: 93 :: a.txt 3))
  (hd : ∀ a, a.wf → a.enc.length < (Fm.dia a).enc.length → P (.dia a) (60 :: 62 :: a.txt 3))
  : (∀ x : Fm, x.wf → x.enc.length < t.enc.length → True) → P t t.body := by
 intro _
 cases t with
 | var v => exact hv v hw
 | fls => exact hf
 | and a b => simp [Fm.lev] at hl
 | or a b => simp [Fm.lev] at hl
 | imp a b =>
  have hbf : b.isFls = true := by
   simp only [Fm.lev] at hl; split at hl
   ·assumption
   ·omega
  obtain rfl := isFls_eq hbf
  by_cases ha : a.isFls = true
  ·obtain rfl := isFls_eq ha
   exact ht
  ·have := hn a hw.1 (by simp only [Fm.enc, List.length_cons, List.length_append]; omega)
   have hb2 : (Fm.imp a .fls).body = 126 :: a.txt 3 := by
    show (if Fm.fls.isFls = true then (if a.isFls = true then [84] else _) else _) = _
    rw [if_pos (show Fm.fls.isFls = true from rfl), if_neg ha]
    rfl
   rw [hb2]
   exact this
 | box a => exact hb a hw (by simp only [Fm.enc, List.length_cons]; omega)
 | dia a => exact hd a hw (by simp only [Fm.enc, List.length_cons]; omega)
theorem implReads (t : Fm) (hw : t.wf) : Reads 123 0 t t.body := by
 have := (reads_all (fun l t X => Reads (match l with | 0 => 123 | 1 => 157 | 2 => 181 | _ => 190) l t X)
  (fun t hw hl hs => by
   have hs' : ∀ x : Fm, x.wf → x.enc.length < t.enc.length → Reads 190 3 x (x.txt 3) := hs
   clear hs
   refine lev3_cases (P := fun u X => (∀ x : Fm, x.wf → x.enc.length < u.enc.length → Reads 190 3 x (x.txt 3)) → Reads 190 3 u X) t hw hl
    (fun v hv _ => iVar v hv) (fun _ => iFls) (fun _ => iTru) (fun a h1 h2 h => iNot a (h a h1 h2)) (fun a h1 h2 h => iBox a (h a h1 h2)) (fun a h1 h2 h => iDia a (h a h1 h2)) (fun _ _ _ => trivial) hs')
  (fun t h => iPar t h) (fun x0 xs h hs => iAnd x0 xs h hs) (fun x0 xs h hs => iOr x0 xs h hs) (fun t X h => iImply0 t X h) (fun a b h1 h2 => iImply1 a b h1 h2) t.enc.length t (Nat.le_refl _) hw).1
 rw [Fm.txt0] at this
 exact this
theorem RdAt.new (w : World) (s : ByteArray) (T : TypeId) (hs : s.size ≤ 2147483648) : RdAt (w.alloc (.cells #[.string s, .int .i64 0, .bool false] T)) w.heap.size s 0 false :=
 ⟨by simp, by simp, by simp, by simp, by simp, Nat.zero_le _, hs⟩
set_option maxRecDepth 20000 in
set_option maxHeartbeats 1000000 in
theorem ParseFormula_any (t : Fm) (hw : t.wf) (s : ByteArray) (w : World) (hb : bts s = t.body) (hs : s.size ≤ 200) (hl : t.enc.length ≤ 40) :
  Calls Tryz.prog 62 #[.string s] w fun e w' => ∃ v, e = .returned (.tuple #[v, .int .i64 0, .int .i64 0]) ∧ OwnN w' w.heap.size v t.enc ∧ Keeps w w' := by
 have h0 := RdAt.new w s 119 (by omega)
 have hlen : t.body.length = s.size := by rw [← hb]; show s.data.toList.length = s.data.size; simp
 have HR := hid (implReads t hw _ _ s 0 [] h0 (by simpa using hb) ⟨fun _ => by simp, fun _ => by simp, fun _ => by simp⟩ (by omega))
 have hlt : decide ((s.size : Int) < s.size) = false := by simp
 have hs' : decide ((s.size : Int) > 200) = false := by simp; omega
 have k0 := (Keeps.refl w).alloc (.cells #[.string s, .int .i64 0, .bool false] 119)
 have HL := hid hlen; clear hlen
 clear hb h0
 go_enter Tryz.func62, Tryz.ntmps62
 go_wp2_with fail
 refine HR.out.mono ?_; rintro e w1 ⟨v1, rfl, hv1, h1, g1⟩
 rw [Nat.zero_add, HL.out] at h1
 have kw := k0.grown g1 (fun k hk => by cases hk; exact Nat.le_refl _)
 obtain ⟨c0, c1, c2, f1, f2, le, sz⟩ := h1
 obtain ⟨p1, n1, q1, rfl⟩ : ∃ p n c, v1 = .slice p n c := by obtain ⟨p, c, e, _⟩ := At.of_own hv1; exact ⟨p, _, c, e⟩
 have hn1 : n1 = t.enc.length := by obtain ⟨p, c, e, _⟩ := At.of_own hv1; cases e; rfl
 have hl1 : decide ((n1 : Int) > 40) = false := by simp; omega
 have HN1 := hid hn1; clear hn1
 go_wp2_with fail
 refine bodyPost_ret (v := .tuple #[.slice p1 n1 q1, .int .i64 0, .int .i64 0]) (by simp [results, Tryz.results62, go_sem]) rfl ?_
 exact ⟨_, rfl, hv1.mono (by simp), kw⟩
theorem parsed_any (t : Fm) (hw : t.wf) (s : ByteArray) (w : World) (hb : bts s = t.body) (hs : s.size ≤ 200) (hl : t.enc.length ≤ 40) :
  Calls Tryz.prog 19 #[.string s] w (RetN w t.enc) := by
 have HR := hid (ParseFormula_any t hw s w hb hs hl)
 clear hb hs hl
 go_enter Tryz.func19, Tryz.ntmps19
 go_wp2_with fail
 refine HR.out.mono ?_; rintro e w1 ⟨v1, rfl, hv1, k1⟩
 go_wp2_with fail
 go_ret
 exact ⟨_, rfl, hv1, k1⟩
end Go.Proofs.YtfmmajgkjkmghaaGreatDoor
namespace Go.Proofs.YtfmmajgkjkmghaaGreatDoor
namespace Ax
def p : Fm := .var 0
def q : Fm := .var 1
def r : Fm := .var 2
def s : Fm := .var 3
end Ax
end Go.Proofs.YtfmmajgkjkmghaaGreatDoor
namespace Go.Proofs.YtfmmajgkjkmghaaGreatDoor
open Go.RowKit
def texts9 : List ByteArray := [⟨#[112, 124, 40, 112, 62, 113, 124, 126, 113, 41]⟩, ⟨#[112, 124, 40, 112, 62, 113, 124, 40, 113, 62, 114, 124, 126, 114, 41, 41]⟩,
 ⟨#[40, 112, 62, 113, 124, 114, 41, 124, 40, 113, 62, 112, 124, 114, 41, 124, 40, 114, 62, 112, 124, 113, 41]⟩,
 ⟨#[40, 112, 62, 113, 124, 114, 124, 115, 41, 124, 40, 113, 62, 112, 124, 114, 124, 115, 41, 124, 40, 114, 62, 112, 124, 113, 124, 115, 41, 124, 40, 115, 62, 112, 124, 113, 124, 114, 41]⟩,
 ⟨#[112, 124, 126, 112]⟩, ⟨#[84]⟩, ⟨#[126, 112, 124, 126, 126, 112]⟩, ⟨#[40, 112, 62, 113, 41, 124, 40, 113, 62, 112, 41]⟩, ⟨#[112, 124, 40, 112, 62, 113, 41, 124, 126, 113]⟩]
open Ax in
def forms9 : List Fm := [.or p (.imp p (.or q (.imp q .fls))), .or p (.imp p (.or q (.imp q (.or r (.imp r .fls))))),
 .or (.or (.imp p (.or q r)) (.imp q (.or p r))) (.imp r (.or p q)),
 .or (.or (.or (.imp p (.or (.or q r) s)) (.imp q (.or (.or p r) s))) (.imp r (.or (.or p q) s))) (.imp s (.or (.or p q) r)),
 .or p (.imp p .fls), .imp .fls .fls, .or (.imp p .fls) (.imp (.imp p .fls) .fls), .or (.imp p q) (.imp q p), .or (.or p (.imp p q)) (.imp q .fls)]
theorem forms9_ok : ∀ k, k < 9 → bts (texts9.getD k ⟨#[]⟩) = (forms9.getD k .fls).body ∧ (texts9.getD k ⟨#[]⟩).size ≤ 200 ∧ (forms9.getD k .fls).enc.length ≤ 40 := by
 decide +kernel
theorem forms9_wf : ∀ k, k < 9 → (forms9.getD k .fls).wf := by
 intro k h
 match k, h with
 | 0, _ => simp [forms9, Fm.wf, Ax.p, Ax.q, Ax.r, Ax.s]
 | 1, _ => simp [forms9, Fm.wf, Ax.p, Ax.q, Ax.r, Ax.s]
 | 2, _ => simp [forms9, Fm.wf, Ax.p, Ax.q, Ax.r, Ax.s]
 | 3, _ => simp [forms9, Fm.wf, Ax.p, Ax.q, Ax.r, Ax.s]
 | 4, _ => simp [forms9, Fm.wf, Ax.p, Ax.q, Ax.r, Ax.s]
 | 5, _ => simp [forms9, Fm.wf, Ax.p, Ax.q, Ax.r, Ax.s]
 | 6, _ => simp [forms9, Fm.wf, Ax.p, Ax.q, Ax.r, Ax.s]
 | 7, _ => simp [forms9, Fm.wf, Ax.p, Ax.q, Ax.r, Ax.s]
 | 8, _ => simp [forms9, Fm.wf, Ax.p, Ax.q, Ax.r, Ax.s]
def axL (i : Int) : List Nd := if 0 ≤ i ∧ i < 9 then (forms9.getD i.toNat .fls).enc else []
def axE (i : Int) : Int := if 0 ≤ i ∧ i < 9 then 0 else 4
theorem axL_at (k : Nat) (hk : k < 9) : axL (k : Int) = (forms9.getD k .fls).enc := by
 unfold axL; rw [if_pos ⟨by omega, by omega⟩]; rfl
theorem axE_at (k : Nat) (hk : k < 9) : axE (k : Int) = 0 := by
 unfold axE; rw [if_pos ⟨by omega, by omega⟩]
set_option maxRecDepth 20000 in
set_option maxHeartbeats 1000000 in
theorem implIntermediateAxiom_any (name : ByteArray) (w : World) (hN : LaidS 1 names9 w) (hA : LaidS 0 texts9 w) :
  Calls Tryz.prog 8 #[.string name] w fun e w' => ∃ u, e = .returned (.tuple #[u, .int .i64 (axE (findS names9 name))]) ∧ OwnN w' w.heap.size u (axL (findS names9 name)) ∧ Keeps w w' := by
 have HK := hid (intermediateAt_any name w hN)
 clear hN
 rcases find9 name with h | ⟨k, hk, h⟩
 ·rw [h] at HK ⊢
  clear h hA
  go_enter Tryz.func8, Tryz.ntmps8
  go_wp2_with fail
  refine HK.out.mono ?_; rintro e w' ⟨rfl, rfl⟩
  go_wp2_with fail
  go_ret2
  exact ⟨_, rfl, OwnN.nil _ _, Keeps.refl _⟩
 ·obtain ⟨hb, hs, hl⟩ := forms9_ok k hk
  have HR := hid (fun w => parsed_any (forms9.getD k .fls) (forms9_wf k hk) (texts9.getD k ⟨#[]⟩) w hb hs hl)
  have hc := hA k hk
  have hg : texts9[k]'hk = texts9.getD k ⟨#[]⟩ := by rw [List.getD_eq_getElem?_getD, List.getElem?_eq_getElem (show k < texts9.length from hk)]; rfl
  rw [hg] at hc
  clear hg hb hs hl hA
  rw [h] at HK
  rw [h, axL_at k hk, axE_at k hk]
  clear h
  generalize texts9.getD k ⟨#[]⟩ = T at *
  generalize (forms9.getD k .fls).enc = L at *
  have hk' : (k : Int) < 9 := by omega
  have hk0 : decide ((k : Int) < 0) = false := by simp
  go_enter Tryz.func8, Tryz.ntmps8
  go_wp2_with fail
  refine HK.out.mono ?_; rintro e w' ⟨rfl, rfl⟩
  go_wp2_with fail
  refine (HR.out _).mono ?_; rintro e w2 ⟨v2, rfl, hv2, k2⟩
  go_wp2_with fail
  go_ret2
  exact ⟨_, rfl, hv2, k2⟩
end Go.Proofs.YtfmmajgkjkmghaaGreatDoor
