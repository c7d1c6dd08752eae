/- The reference's search as a whole, and the two statements that ask it once. -/
import Derived.Test.YtpbbfoliabgkpaaGreatGUA
import Derived.Test.YtpbbfoliabgkpaaGreatGUI
import Derived.Test.YtpbbfoliabgkpaaGreatGUO
import Derived.Test.YtpbbfoliabgkpaaGreatGUL
import Derived.Test.YtpbbfoliabgkpaaGreatGW4
import Derived.Test.YtpbbfoliabgkpaaGreatGU3
import Derived.Test.YtpbbfoliabgkpaaGreatGK1
import Derived.Test.YtpbbfoliabgkpaaGreatGVE
import Derived.Test.YtpbbfoliabgkpaaGreatGU2
import Derived.Test.YtpbbfoliabgkpaaGreatGM3
import Derived.Test.YtpbbfoliabgkpaaGreatGV7
import Derived.Test.YtpbbfoliabgkpaaGreatGV4
namespace Go.Proofs.YtpbbfoliabgkpaaGreat
open Go.RowKit
theorem search_step (n : Nat) (hn : n ≤ 1000000000) (ih : Srch n) : Srch (n + 1) := by
  intro G c hw hG hc v u w hv hu
  by_cases h12 : c ∈ G ∨ Fm.fls ∈ G
  · exact search_quick G c h12 v u w hv hu
  have h1 : ¬ c ∈ G := fun h => h12 (.inl h)
  have h2 : ¬ Fm.fls ∈ G := fun h => h12 (.inr h)
  by_cases hs : AllStk G
  · obtain ⟨d, hd⟩ : ∃ d, d = c := ⟨c, rfl⟩
    cases d with
    | and x y => exact search_and n hn ih G c hw hG hc h1 h2 hs x y hd v u w hv hu
    | imp x y => exact search_imp n hn ih G c hw hG hc h1 h2 hs x y hd v u w hv hu
    | or x y => exact search_or n hn ih G c hw hG hc h1 h2 hs x y hd v u w hv hu
    | var i => exact search_leaf n hn ih G c hw hG hc h1 h2 hs (.inl ⟨i, hd.symm, by rw [hd]; exact h1⟩) (by rintro ⟨x, y, h⟩; rw [← hd] at h; cases h) 0 (by rw [← hd]; rfl) rfl rfl rfl v u w hv hu
    | fls => exact search_leaf n hn ih G c hw hG hc h1 h2 hs (.inr (.inl hd.symm)) (by rintro ⟨x, y, h⟩; rw [← hd] at h; cases h) 1 (by rw [← hd]; rfl) rfl rfl rfl v u w hv hu
    | box x => subst hd; cases hc
    | dia x => subst hd; cases hc
  · exact search_loose n hn ih G c hw hG hc h1 h2 hs v u w hv hu
theorem srch_all : ∀ n, n ≤ 1000000001 → Srch n
  | 0, _ => fun G c h => by have := wt_ge c; omega
  | n + 1, h => search_step n (by omega) (srch_all n (by omega))
theorem l23Search_any (G : List Fm) (c : Fm) (hw : wts G + wt c ≤ 1000000000) (hG : ∀ a ∈ G, a.plain = true) (hc : c.plain = true) (v u : Value) (w : World) (hv : FsL w v G) (hu : Nds w u c.enc) :
    Calls Tryz.prog 184 #[v, u] w fun e w' => e = .returned (.bool (sqB G c)) ∧ Keeps w w' :=
  srch_all _ (by omega) G c hw hG hc v u w hv hu
theorem FsL.nilN {w : World} {N : Nat} (h : N = w.heap.size) : FsL (w.alloc (.cells #[] 24)) (.slice (some ⟨N, 0, none⟩) 0 0) [] := by
  subst h
  exact NdsL.lit (w := w) [] [] rfl (by simp) (by intro i hi; simp at hi)
theorem Nds.lenIs {w : World} {p : Option Addr} {n cap : Nat} {a : List Nd} (h : Nds w (.slice p n cap) a) : n = a.length := by
  obtain ⟨_, _, e, _⟩ := h
  cases e
  rfl
/-- what the search of a small sequent answers -/
noncomputable def smallB (n : Nat) (G : List Fm) (c : Fm) : Bool := if 20 < n then false else sqB G c
def smallE (n : Nat) : Int := if 20 < n then 3 else 0
theorem not_plain {t : Fm} (h : t.plain = true) : t.not.plain = true := by simp [Fm.not, Fm.plain, h]
theorem pow_small {n : Nat} (h : n ≤ 29) : 2 ^ n ≤ 1000000000 := Nat.le_trans (Nat.pow_le_pow_right (by omega) h) (by decide)
theorem not_len (t : Fm) : t.not.enc.length = t.enc.length + 2 := by simp [Fm.not, Fm.enc]
end Go.Proofs.YtpbbfoliabgkpaaGreat
/- GlivenkoTheorem and IsClassicalKind: both sides answer alike. -/
namespace Go.Proofs.YtpbbfoliabgkpaaGreat
open Go.RowKit
/-- both sides answer b and c -/
def BothOne (S I : FuncId) (a : List Nd) (b : Bool) (c : Int) : Prop :=
  (∀ (v : Value) (w : World), Nds w v a → Calls Tryz.prog S #[v] w (fun e w' => e = .returned (.tuple #[.bool b, .int .i64 c]) ∧ Keeps w w')) ∧
  (∀ (v : Value) (w : World), Nds w v a → Calls Tryz.prog I #[v] w (fun e w' => e = .returned (.tuple #[.bool b, .int .i64 c]) ∧ Keeps w w'))
theorem pow20 {n : Nat} (h : n ≤ 20) : 2 ^ n ≤ 1048576 := Nat.le_trans (Nat.pow_le_pow_right (by omega) h) (by decide)
theorem OkF.not {t : Fm} (h : OkF t) : OkF t.not := OkF.mkImp h okF_fls
end Go.Proofs.YtpbbfoliabgkpaaGreat
/- The reference's text of a plain formula at a level. (printed by mkwrite.py) -/
namespace Go.Proofs.YtpbbfoliabgkpaaGreat
open Go.RowKit
/-- the reference writes a formula as Fm.txt says -/
def WrOk (t : Fm) : Prop := t.enc.length ≤ 100000000 → ∀ (l : Nat) (k : Int), k = (l : Int) → ∀ (v : Value) (w : World), Nds w v t.enc →
  Calls Tryz.prog 187 #[v, .int .i64 k] w fun e w' => ∃ s, e = .returned (.string s) ∧ bts s = t.txt l ∧ Keeps w w'
theorem txt_yes {t : Fm} {l : Nat} (h : t.lev < l) : t.txt l = 40 :: (t.body ++ [41]) := by simp only [Fm.txt, Fm.par]; rw [decide_eq_true h]; rfl
theorem txt_no {t : Fm} {l : Nat} (h : ¬ t.lev < l) : t.txt l = t.body := by simp only [Fm.txt, Fm.par]; rw [decide_eq_false h]; rfl
set_option maxRecDepth 20000 in
set_option maxHeartbeats 1000000 in
theorem wrAnd (x y : Fm) (hx : WrOk x) (hy : WrOk y) : WrOk (Fm.and x y) := by
  intro hL l k hk v w hv
  simp only [Fm.enc, List.length_cons, List.length_append] at hL
  have hv0 := hv
  obtain ⟨b, off, n, cap, rfl, h0, h1, h2, h3, hc, hsy⟩ := hv.root
  replace hc : w.cell? ⟨b, off, none⟩ = some (.int .i64 2) := hc
  have HX := hid (hx (by omega)); clear hx
  have HY := hid (hy (by omega)); clear hy
  by_cases hlv : (2 : Nat) < l
  · rw [txt_yes (t := Fm.and x y) (show (2) < l from hlv)]
    have hkl : ((2 : Int) < k) := by omega
    clear hlv hk
    go_enter Tryz.func187, Tryz.ntmps187
    go_wp2_with fail
    refine (l02Left_any _ _ x y.enc _ _ hv0 rfl).mono ?_; rintro e w' ⟨v1, rfl, hv1, rfl⟩
    go_wp2_with fail
    refine (HX.out 2 _ rfl _ _ hv1).mono ?_; rintro e w1 ⟨s1, rfl, hs1, k1⟩
    have z1 := txt_size hs1 (by omega)
    go_wp2_with fail
    refine (l02Right_any _ _ x y _ _ (hv0.keeps k1) rfl).mono ?_; rintro e w' ⟨v2, rfl, hv2, rfl⟩
    go_wp2_with fail
    refine (HY.out 3 _ rfl _ _ hv2).mono ?_; rintro e w2 ⟨s2, rfl, hs2, k2⟩
    have z2 := txt_size hs2 (by omega)
    go_wp2_with fail
    go_ret
    exact ⟨_, rfl, by simp only [bts_append, hs1, hs2, Fm.body, Fm.txt, List.append_assoc]; rfl, k1.trans k2⟩
  · rw [txt_no (t := Fm.and x y) (show ¬ (2) < l from hlv)]
    have hkl : ¬ ((2 : Int) < k) := by omega
    clear hlv hk
    go_enter Tryz.func187, Tryz.ntmps187
    go_wp2_with fail
    refine (l02Left_any _ _ x y.enc _ _ hv0 rfl).mono ?_; rintro e w' ⟨v1, rfl, hv1, rfl⟩
    go_wp2_with fail
    refine (HX.out 2 _ rfl _ _ hv1).mono ?_; rintro e w1 ⟨s1, rfl, hs1, k1⟩
    have z1 := txt_size hs1 (by omega)
    go_wp2_with fail
    refine (l02Right_any _ _ x y _ _ (hv0.keeps k1) rfl).mono ?_; rintro e w' ⟨v2, rfl, hv2, rfl⟩
    go_wp2_with fail
    refine (HY.out 3 _ rfl _ _ hv2).mono ?_; rintro e w2 ⟨s2, rfl, hs2, k2⟩
    have z2 := txt_size hs2 (by omega)
    go_wp2_with fail
    go_ret
    exact ⟨_, rfl, by simp only [bts_append, hs1, hs2, Fm.body, Fm.txt, List.append_assoc]; rfl, k1.trans k2⟩
set_option maxRecDepth 20000 in
set_option maxHeartbeats 1000000 in
theorem wrOr (x y : Fm) (hx : WrOk x) (hy : WrOk y) : WrOk (Fm.or x y) := by
  intro hL l k hk v w hv
  simp only [Fm.enc, List.length_cons, List.length_append] at hL
  have hv0 := hv
  obtain ⟨b, off, n, cap, rfl, h0, h1, h2, h3, hc, hsy⟩ := hv.root
  replace hc : w.cell? ⟨b, off, none⟩ = some (.int .i64 3) := hc
  have HX := hid (hx (by omega)); clear hx
  have HY := hid (hy (by omega)); clear hy
  by_cases hlv : (1 : Nat) < l
  · rw [txt_yes (t := Fm.or x y) (show (1) < l from hlv)]
    have hkl : ((1 : Int) < k) := by omega
    clear hlv hk
    go_enter Tryz.func187, Tryz.ntmps187
    go_wp2_with fail
    refine (l02Left_any _ _ x y.enc _ _ hv0 rfl).mono ?_; rintro e w' ⟨v1, rfl, hv1, rfl⟩
    go_wp2_with fail
    refine (HX.out 1 _ rfl _ _ hv1).mono ?_; rintro e w1 ⟨s1, rfl, hs1, k1⟩
    have z1 := txt_size hs1 (by omega)
    go_wp2_with fail
    refine (l02Right_any _ _ x y _ _ (hv0.keeps k1) rfl).mono ?_; rintro e w' ⟨v2, rfl, hv2, rfl⟩
    go_wp2_with fail
    refine (HY.out 2 _ rfl _ _ hv2).mono ?_; rintro e w2 ⟨s2, rfl, hs2, k2⟩
    have z2 := txt_size hs2 (by omega)
    go_wp2_with fail
    go_ret
    exact ⟨_, rfl, by simp only [bts_append, hs1, hs2, Fm.body, Fm.txt, List.append_assoc]; rfl, k1.trans k2⟩
  · rw [txt_no (t := Fm.or x y) (show ¬ (1) < l from hlv)]
    have hkl : ¬ ((1 : Int) < k) := by omega
    clear hlv hk
    go_enter Tryz.func187, Tryz.ntmps187
    go_wp2_with fail
    refine (l02Left_any _ _ x y.enc _ _ hv0 rfl).mono ?_; rintro e w' ⟨v1, rfl, hv1, rfl⟩
    go_wp2_with fail
    refine (HX.out 1 _ rfl _ _ hv1).mono ?_; rintro e w1 ⟨s1, rfl, hs1, k1⟩
    have z1 := txt_size hs1 (by omega)
    go_wp2_with fail
    refine (l02Right_any _ _ x y _ _ (hv0.keeps k1) rfl).mono ?_; rintro e w' ⟨v2, rfl, hv2, rfl⟩
    go_wp2_with fail
    refine (HY.out 2 _ rfl _ _ hv2).mono ?_; rintro e w2 ⟨s2, rfl, hs2, k2⟩
    have z2 := txt_size hs2 (by omega)
    go_wp2_with fail
    go_ret
    exact ⟨_, rfl, by simp only [bts_append, hs1, hs2, Fm.body, Fm.txt, List.append_assoc]; rfl, k1.trans k2⟩
set_option maxRecDepth 20000 in
set_option maxHeartbeats 1000000 in
theorem wrFls : WrOk (Fm.fls) := by
  intro hL l k hk v w hv
  simp only [Fm.enc, List.length_cons] at hL
  have hv0 := hv
  obtain ⟨b, off, n, cap, rfl, h0, h1, h2, h3, hc, hsy⟩ := hv.root
  replace hc : w.cell? ⟨b, off, none⟩ = some (.int .i64 1) := hc
  by_cases hlv : (3 : Nat) < l
  · rw [txt_yes (t := Fm.fls) (show (3) < l from hlv)]
    have hkl : ((3 : Int) < k) := by omega
    clear hlv hk
    go_enter Tryz.func187, Tryz.ntmps187
    go_wp2_with fail
    go_ret
    exact ⟨_, rfl, rfl, Keeps.refl _⟩
  · rw [txt_no (t := Fm.fls) (show ¬ (3) < l from hlv)]
    have hkl : ¬ ((3 : Int) < k) := by omega
    clear hlv hk
    go_enter Tryz.func187, Tryz.ntmps187
    go_wp2_with fail
    go_ret
    exact ⟨_, rfl, rfl, Keeps.refl _⟩
set_option maxRecDepth 20000 in
set_option maxHeartbeats 1000000 in
theorem wrImp (x y : Fm) (hf : y.isFls = false) (hx : WrOk x) (hy : WrOk y) : WrOk (Fm.imp x y) := by
  intro hL l k hk v w hv
  simp only [Fm.enc, List.length_cons, List.length_append] at hL
  have hv0 := hv
  obtain ⟨b, off, n, cap, rfl, h0, h1, h2, h3, hc, hsy⟩ := hv.root
  replace hc : w.cell? ⟨b, off, none⟩ = some (.int .i64 4) := hc
  have HX := hid (hx (by omega)); clear hx
  have HY := hid (hy (by omega)); clear hy
  have hB : (Fm.imp x y).body = x.txt 1 ++ 62 :: y.body := by simp [Fm.body, Fm.txt, hf]
  have hE : decide ((Fm.imp x y).enc = (Fm.imp Fm.fls Fm.fls).enc) = false := decide_eq_false (fun h => by cases enc_inj h; cases hf)
  have hlv0 : (Fm.imp x y).lev = 0 := by simp [Fm.lev, hf]
  have hkd : (y.kind == 1) = false := by cases y <;> first | rfl | (cases hf)
  have HEQ := hid hE; clear hE
  have HB := hid hB; clear hB
  by_cases hlv : (0 : Nat) < l
  · rw [txt_yes (t := Fm.imp x y) (by rw [hlv0]; exact hlv)]
    have hkl : ((0 : Int) < k) := by omega
    clear hlv hk
    go_enter Tryz.func187, Tryz.ntmps187
    go_wp2_with fail
    refine (l02True_any w).mono ?_; rintro e wt ⟨vt, rfl, hvt, kt⟩
    go_wp2_with fail
    refine (l02Equal_any _ _ _ _ wt (hv0.keeps kt) (hvt.nds (by simp [Fm.enc]))).mono ?_; rintro e we ⟨rfl, ke⟩
    rw [HEQ.out]
    have k0 := kt.trans ke
    go_wp2_with fail
    refine (l02Right_any _ _ x y _ _ (hv0.keeps k0) rfl).mono ?_; rintro e w' ⟨vy, rfl, hvy, rfl⟩
    obtain ⟨by', oy, ny, cy, rfl, g0, g1, g2, g3, gk, _⟩ := hvy.root
    go_wp2_with fail
    refine (l02Left_any _ _ x y.enc _ _ (hv0.keeps k0) rfl).mono ?_; rintro e w' ⟨v1, rfl, hv1, rfl⟩
    go_wp2_with fail
    refine (HX.out 1 _ rfl _ _ hv1).mono ?_; rintro e w1 ⟨s1, rfl, hs1, k1⟩
    have z1 := txt_size hs1 (by omega)
    go_wp2_with fail
    refine (l02Right_any _ _ x y _ _ ((hv0.keeps k0).keeps k1) rfl).mono ?_; rintro e w' ⟨v2, rfl, hv2, rfl⟩
    go_wp2_with fail
    refine (HY.out 0 _ rfl _ _ hv2).mono ?_; rintro e w2 ⟨s2, rfl, hs2, k2⟩
    have z2 := txt_size hs2 (by omega)
    go_wp2_with fail
    go_ret
    exact ⟨_, rfl, by rw [HB.out]; simp only [bts_append, hs1, hs2, Fm.txt0, List.append_assoc]; rfl, k0.trans (k1.trans k2)⟩
  · rw [txt_no (t := Fm.imp x y) (by rw [hlv0]; exact hlv)]
    have hkl : ¬ ((0 : Int) < k) := by omega
    clear hlv hk
    go_enter Tryz.func187, Tryz.ntmps187
    go_wp2_with fail
    refine (l02True_any w).mono ?_; rintro e wt ⟨vt, rfl, hvt, kt⟩
    go_wp2_with fail
    refine (l02Equal_any _ _ _ _ wt (hv0.keeps kt) (hvt.nds (by simp [Fm.enc]))).mono ?_; rintro e we ⟨rfl, ke⟩
    rw [HEQ.out]
    have k0 := kt.trans ke
    go_wp2_with fail
    refine (l02Right_any _ _ x y _ _ (hv0.keeps k0) rfl).mono ?_; rintro e w' ⟨vy, rfl, hvy, rfl⟩
    obtain ⟨by', oy, ny, cy, rfl, g0, g1, g2, g3, gk, _⟩ := hvy.root
    go_wp2_with fail
    refine (l02Left_any _ _ x y.enc _ _ (hv0.keeps k0) rfl).mono ?_; rintro e w' ⟨v1, rfl, hv1, rfl⟩
    go_wp2_with fail
    refine (HX.out 1 _ rfl _ _ hv1).mono ?_; rintro e w1 ⟨s1, rfl, hs1, k1⟩
    have z1 := txt_size hs1 (by omega)
    go_wp2_with fail
    refine (l02Right_any _ _ x y _ _ ((hv0.keeps k0).keeps k1) rfl).mono ?_; rintro e w' ⟨v2, rfl, hv2, rfl⟩
    go_wp2_with fail
    refine (HY.out 0 _ rfl _ _ hv2).mono ?_; rintro e w2 ⟨s2, rfl, hs2, k2⟩
    have z2 := txt_size hs2 (by omega)
    go_wp2_with fail
    go_ret
    exact ⟨_, rfl, by rw [HB.out]; simp only [bts_append, hs1, hs2, Fm.txt0, List.append_assoc]; rfl, k0.trans (k1.trans k2)⟩
set_option maxRecDepth 20000 in
set_option maxHeartbeats 1000000 in
theorem wrNeg (x : Fm) (hx1 : x.isFls = false) (hx : WrOk x) : WrOk (Fm.imp x Fm.fls) := by
  intro hL l k hk v w hv
  simp only [Fm.enc, List.length_cons, List.length_append] at hL
  have hv0 := hv
  obtain ⟨b, off, n, cap, rfl, h0, h1, h2, h3, hc, hsy⟩ := hv.root
  replace hc : w.cell? ⟨b, off, none⟩ = some (.int .i64 4) := hc
  have HX := hid (hx (by omega)); clear hx
  have hB : (Fm.imp x Fm.fls).body = 126 :: x.txt 3 := by have hf : Fm.fls.isFls = true := rfl; simp [Fm.body, Fm.txt, hf, hx1]
  have hE : decide ((Fm.imp x Fm.fls).enc = (Fm.imp Fm.fls Fm.fls).enc) = false := decide_eq_false (fun h => by cases enc_inj h; cases hx1)
  have hlv0 : (Fm.imp x Fm.fls).lev = 3 := rfl
  have HEQ := hid hE; clear hE
  have HB := hid hB; clear hB hx1
  by_cases hlv : (3 : Nat) < l
  · rw [txt_yes (t := Fm.imp x Fm.fls) (by rw [hlv0]; exact hlv)]
    have hkl : ((3 : Int) < k) := by omega
    clear hlv hk
    go_enter Tryz.func187, Tryz.ntmps187
    go_wp2_with fail
    refine (l02True_any w).mono ?_; rintro e wt ⟨vt, rfl, hvt, kt⟩
    go_wp2_with fail
    refine (l02Equal_any _ _ _ _ wt (hv0.keeps kt) (hvt.nds (by simp [Fm.enc]))).mono ?_; rintro e we ⟨rfl, ke⟩
    rw [HEQ.out]
    have k0 := kt.trans ke
    go_wp2_with fail
    refine (l02Right_any _ _ x Fm.fls _ _ (hv0.keeps k0) rfl).mono ?_; rintro e w' ⟨vy, rfl, hvy, rfl⟩
    obtain ⟨by', oy, ny, cy, rfl, g0, g1, g2, g3, gk, _⟩ := hvy.root
    replace gk : we.cell? ⟨by', oy, none⟩ = some (.int .i64 1) := gk
    go_wp2_with fail
    refine (l02Left_any _ _ x Fm.fls.enc _ _ (hv0.keeps k0) rfl).mono ?_; rintro e w' ⟨v1, rfl, hv1, rfl⟩
    go_wp2_with fail
    refine (HX.out 3 _ rfl _ _ hv1).mono ?_; rintro e w1 ⟨s1, rfl, hs1, k1⟩
    have z1 := txt_size hs1 (by omega)
    go_wp2_with fail
    go_ret
    exact ⟨_, rfl, by rw [HB.out]; simp only [bts_append, hs1]; rfl, k0.trans k1⟩
  · rw [txt_no (t := Fm.imp x Fm.fls) (by rw [hlv0]; exact hlv)]
    have hkl : ¬ ((3 : Int) < k) := by omega
    clear hlv hk
    go_enter Tryz.func187, Tryz.ntmps187
    go_wp2_with fail
    refine (l02True_any w).mono ?_; rintro e wt ⟨vt, rfl, hvt, kt⟩
    go_wp2_with fail
    refine (l02Equal_any _ _ _ _ wt (hv0.keeps kt) (hvt.nds (by simp [Fm.enc]))).mono ?_; rintro e we ⟨rfl, ke⟩
    rw [HEQ.out]
    have k0 := kt.trans ke
    go_wp2_with fail
    refine (l02Right_any _ _ x Fm.fls _ _ (hv0.keeps k0) rfl).mono ?_; rintro e w' ⟨vy, rfl, hvy, rfl⟩
    obtain ⟨by', oy, ny, cy, rfl, g0, g1, g2, g3, gk, _⟩ := hvy.root
    replace gk : we.cell? ⟨by', oy, none⟩ = some (.int .i64 1) := gk
    go_wp2_with fail
    refine (l02Left_any _ _ x Fm.fls.enc _ _ (hv0.keeps k0) rfl).mono ?_; rintro e w' ⟨v1, rfl, hv1, rfl⟩
    go_wp2_with fail
    refine (HX.out 3 _ rfl _ _ hv1).mono ?_; rintro e w1 ⟨s1, rfl, hs1, k1⟩
    have z1 := txt_size hs1 (by omega)
    go_wp2_with fail
    go_ret
    exact ⟨_, rfl, by rw [HB.out]; simp only [bts_append, hs1]; rfl, k0.trans k1⟩
set_option maxRecDepth 20000 in
set_option maxHeartbeats 1000000 in
theorem wrTop : WrOk (Fm.imp Fm.fls Fm.fls) := by
  intro hL l k hk v w hv
  simp only [Fm.enc, List.length_cons, List.length_append] at hL
  have hv0 := hv
  obtain ⟨b, off, n, cap, rfl, h0, h1, h2, h3, hc, hsy⟩ := hv.root
  replace hc : w.cell? ⟨b, off, none⟩ = some (.int .i64 4) := hc
  by_cases hlv : (3 : Nat) < l
  · rw [txt_yes (t := Fm.imp Fm.fls Fm.fls) (show (3) < l from hlv)]
    have hkl : ((3 : Int) < k) := by omega
    clear hlv hk
    go_enter Tryz.func187, Tryz.ntmps187
    go_wp2_with fail
    refine (l02True_any w).mono ?_; rintro e wt ⟨vt, rfl, hvt, kt⟩
    go_wp2_with fail
    refine (l02Equal_any _ _ _ _ wt (hv0.keeps kt) (hvt.nds (by simp [Fm.enc]))).mono ?_; rintro e we ⟨rfl, ke⟩
    rw [show decide ((Fm.imp Fm.fls Fm.fls).enc = (Fm.imp Fm.fls Fm.fls).enc) = true from decide_eq_true rfl]
    have k0 := kt.trans ke
    go_wp2_with fail
    go_ret
    exact ⟨_, rfl, rfl, k0⟩
  · rw [txt_no (t := Fm.imp Fm.fls Fm.fls) (show ¬ (3) < l from hlv)]
    have hkl : ¬ ((3 : Int) < k) := by omega
    clear hlv hk
    go_enter Tryz.func187, Tryz.ntmps187
    go_wp2_with fail
    refine (l02True_any w).mono ?_; rintro e wt ⟨vt, rfl, hvt, kt⟩
    go_wp2_with fail
    refine (l02Equal_any _ _ _ _ wt (hv0.keeps kt) (hvt.nds (by simp [Fm.enc]))).mono ?_; rintro e we ⟨rfl, ke⟩
    rw [show decide ((Fm.imp Fm.fls Fm.fls).enc = (Fm.imp Fm.fls Fm.fls).enc) = true from decide_eq_true rfl]
    have k0 := kt.trans ke
    go_wp2_with fail
    go_ret
    exact ⟨_, rfl, rfl, k0⟩
set_option maxRecDepth 20000 in
set_option maxHeartbeats 1000000 in
theorem wrVar (i : Nat) (hi : i < 6) : WrOk (.var i) := by
  intro hL l k hk v w hv
  simp only [Fm.enc, List.length_cons] at hL
  have hv0 := hv
  obtain ⟨b, off, n, cap, rfl, h0, h1, h2, h3, hc, hsy⟩ := hv.root
  replace hc : w.cell? ⟨b, off, none⟩ = some (.int .i64 0) := hc
  replace hsy : w.cell? ⟨b, off + 1, none⟩ = some (.int .i64 (i : Int)) := hsy
  have hcase : i = 0 ∨ i = 1 ∨ i = 2 ∨ i = 3 ∨ i = 4 ∨ i = 5 := by omega
  by_cases hlv : (3 : Nat) < l
  · rw [txt_yes (t := Fm.var i) (show (3) < l from hlv)]
    have hkl : ((3 : Int) < k) := by omega
    clear hlv hk
    rcases hcase with rfl | rfl | rfl | rfl | rfl | rfl
    · replace hsy : w.cell? ⟨b, off + 1, none⟩ = some (.int .i64 0) := hsy
      go_enter Tryz.func187, Tryz.ntmps187
      go_wp2_with fail
      go_quiet (fail)
      go_wp2_with fail
      go_ret
      refine ⟨_, rfl, ?_, ?_⟩
      · decide
      · exact Keeps.drewN (Keeps.refl _) _
    · replace hsy : w.cell? ⟨b, off + 1, none⟩ = some (.int .i64 1) := hsy
      go_enter Tryz.func187, Tryz.ntmps187
      go_wp2_with fail
      go_quiet (fail)
      go_wp2_with fail
      go_ret
      refine ⟨_, rfl, ?_, ?_⟩
      · decide
      · exact Keeps.drewN (Keeps.refl _) _
    · replace hsy : w.cell? ⟨b, off + 1, none⟩ = some (.int .i64 2) := hsy
      go_enter Tryz.func187, Tryz.ntmps187
      go_wp2_with fail
      go_quiet (fail)
      go_wp2_with fail
      go_ret
      refine ⟨_, rfl, ?_, ?_⟩
      · decide
      · exact Keeps.drewN (Keeps.refl _) _
    · replace hsy : w.cell? ⟨b, off + 1, none⟩ = some (.int .i64 3) := hsy
      go_enter Tryz.func187, Tryz.ntmps187
      go_wp2_with fail
      go_quiet (fail)
      go_wp2_with fail
      go_ret
      refine ⟨_, rfl, ?_, ?_⟩
      · decide
      · exact Keeps.drewN (Keeps.refl _) _
    · replace hsy : w.cell? ⟨b, off + 1, none⟩ = some (.int .i64 4) := hsy
      go_enter Tryz.func187, Tryz.ntmps187
      go_wp2_with fail
      go_quiet (fail)
      go_wp2_with fail
      go_ret
      refine ⟨_, rfl, ?_, ?_⟩
      · decide
      · exact Keeps.drewN (Keeps.refl _) _
    · replace hsy : w.cell? ⟨b, off + 1, none⟩ = some (.int .i64 5) := hsy
      go_enter Tryz.func187, Tryz.ntmps187
      go_wp2_with fail
      go_quiet (fail)
      go_wp2_with fail
      go_ret
      refine ⟨_, rfl, ?_, ?_⟩
      · decide
      · exact Keeps.drewN (Keeps.refl _) _
  · rw [txt_no (t := Fm.var i) (show ¬ (3) < l from hlv)]
    have hkl : ¬ ((3 : Int) < k) := by omega
    clear hlv hk
    rcases hcase with rfl | rfl | rfl | rfl | rfl | rfl
    · replace hsy : w.cell? ⟨b, off + 1, none⟩ = some (.int .i64 0) := hsy
      go_enter Tryz.func187, Tryz.ntmps187
      go_wp2_with fail
      go_quiet (fail)
      go_wp2_with fail
      go_ret
      refine ⟨_, rfl, ?_, ?_⟩
      · decide
      · exact Keeps.drewN (Keeps.refl _) _
    · replace hsy : w.cell? ⟨b, off + 1, none⟩ = some (.int .i64 1) := hsy
      go_enter Tryz.func187, Tryz.ntmps187
      go_wp2_with fail
      go_quiet (fail)
      go_wp2_with fail
      go_ret
      refine ⟨_, rfl, ?_, ?_⟩
      · decide
      · exact Keeps.drewN (Keeps.refl _) _
    · replace hsy : w.cell? ⟨b, off + 1, none⟩ = some (.int .i64 2) := hsy
      go_enter Tryz.func187, Tryz.ntmps187
      go_wp2_with fail
      go_quiet (fail)
      go_wp2_with fail
      go_ret
      refine ⟨_, rfl, ?_, ?_⟩
      · decide
      · exact Keeps.drewN (Keeps.refl _) _
    · replace hsy : w.cell? ⟨b, off + 1, none⟩ = some (.int .i64 3) := hsy
      go_enter Tryz.func187, Tryz.ntmps187
      go_wp2_with fail
      go_quiet (fail)
      go_wp2_with fail
      go_ret
      refine ⟨_, rfl, ?_, ?_⟩
      · decide
      · exact Keeps.drewN (Keeps.refl _) _
    · replace hsy : w.cell? ⟨b, off + 1, none⟩ = some (.int .i64 4) := hsy
      go_enter Tryz.func187, Tryz.ntmps187
      go_wp2_with fail
      go_quiet (fail)
      go_wp2_with fail
      go_ret
      refine ⟨_, rfl, ?_, ?_⟩
      · decide
      · exact Keeps.drewN (Keeps.refl _) _
    · replace hsy : w.cell? ⟨b, off + 1, none⟩ = some (.int .i64 5) := hsy
      go_enter Tryz.func187, Tryz.ntmps187
      go_wp2_with fail
      go_quiet (fail)
      go_wp2_with fail
      go_ret
      refine ⟨_, rfl, ?_, ?_⟩
      · decide
      · exact Keeps.drewN (Keeps.refl _) _
theorem wrOk_any (t : Fm) (hw : t.wf) (hp : t.plain = true) : WrOk t := by
  induction t with
  | var i => exact wrVar i hw
  | fls => exact wrFls
  | and x y hx hy => simp [Fm.plain] at hp; exact wrAnd x y (hx hw.1 hp.1) (hy hw.2 hp.2)
  | or x y hx hy => simp [Fm.plain] at hp; exact wrOr x y (hx hw.1 hp.1) (hy hw.2 hp.2)
  | box x hx => simp [Fm.plain] at hp
  | dia x hx => simp [Fm.plain] at hp
  | imp x y hx hy =>
    simp [Fm.plain] at hp
    cases hf : y.isFls
    · exact wrImp x y hf (hx hw.1 hp.1) (hy hw.2 hp.2)
    · cases y <;> simp [Fm.isFls] at hf
      cases hx1 : x.isFls
      · exact wrNeg x hx1 (hx hw.1 hp.1)
      · cases x <;> simp [Fm.isFls] at hx1
        exact wrTop
theorem l02Text_any (t : Fm) (hw : t.wf) (hp : t.plain = true) (hl : t.enc.length ≤ 100000000) (v : Value) (w : World) (hv : Nds w v t.enc) :
    Calls Tryz.prog 94 #[v] w fun e w' => ∃ s, e = .returned (.string s) ∧ bts s = t.body ∧ Keeps w w' := by
  have H := hid (wrOk_any t hw hp hl 0 0 rfl v w hv)
  go_enter Tryz.func94, Tryz.ntmps94
  go_wp2_with fail
  refine H.out.mono ?_; rintro e w1 ⟨s, rfl, hs, k1⟩
  go_wp2_with fail
  go_ret
  exact ⟨_, rfl, by rw [hs, Fm.txt0], k1⟩
end Go.Proofs.YtpbbfoliabgkpaaGreat
/- The reference: the formula of a text, the formulas of texts, l23Ok. -/
namespace Go.Proofs.YtpbbfoliabgkpaaGreat
open Go.RowKit
theorem small_size {t : Fm} {s : ByteArray} (hb : bts s = t.body) (hl : t.enc.length ≤ 40) : s.size ≤ 200 := by
  have := body_len t
  rw [← bts_len, hb]; omega
set_option maxRecDepth 20000 in
theorem specParse_any (t : Fm) (hw : t.wf) (s : ByteArray) (w : World) (hb : bts s = t.body) (hl : t.enc.length ≤ 40) :
    Calls Tryz.prog 128 #[.string s] w fun e w' => ∃ v, e = .returned (.tuple #[v, .int .i64 0, .int .i64 0]) ∧ OwnN w' w.heap.size v t.enc ∧ Keeps w w' := by
  have hs := small_size hb hl
  have HR := hid (l02Read_any t hw s w hb (by omega) (by omega))
  have hs' : ¬ ((s.size : Int) > 200) := by omega
  clear hb
  go_enter Tryz.func128, Tryz.ntmps128
  go_wp2_with fail
  refine HR.out.mono ?_; rintro e w1 ⟨v1, rfl, hv1, k1⟩
  obtain ⟨p1, n1, q1, rfl⟩ : ∃ p n c, v1 = .slice p n c := by obtain ⟨p, c, e, _⟩ := At.of_own hv1; exact ⟨p, _, c, e⟩
  have hn1 : n1 = t.enc.length := by obtain ⟨p, c, e, _⟩ := At.of_own hv1; cases e; rfl
  have hl1 : ¬ ((n1 : Int) > 40) := by omega
  have HN1 := hid hn1; clear hn1
  go_wp2_with fail
  refine bodyPost_ret (v := .tuple #[.slice p1 n1 q1, .int .i64 0, .int .i64 0]) (by simp [results, Tryz.results128, go_sem]) rfl ?_
  exact ⟨_, rfl, hv1, k1⟩
set_option maxRecDepth 20000 in
theorem l02Good_any (t : Fm) (hok : OkF t) (s : ByteArray) (w : World) (hb : bts s = t.body) (hl : t.enc.length ≤ 40) :
    Calls Tryz.prog 245 #[.string s] w fun e w' => ∃ v, e = .returned (.tuple #[v, .bool true]) ∧ OwnN w' w.heap.size v t.enc ∧ Keeps w w' := by
  have HR := hid (specParse_any t hok.1 s w hb hl)
  have HT := hid (fun v w2 (hv : Nds w2 v t.enc) => l02Text_any t hok.1 hok.2 (by omega) v w2 hv)
  have HB := hid hb; clear hb
  go_enter Tryz.func245, Tryz.ntmps245
  go_wp2_with fail
  refine HR.out.mono ?_; rintro e w1 ⟨v1, rfl, hv1, k1⟩
  have hn1 : Nds w1 v1 t.enc := hv1.nds (by omega)
  go_wp2_with fail
  refine (HT.out v1 w1 hn1).mono ?_; rintro e w2 ⟨s2, rfl, hs2, k2⟩
  have he : (s2.toList == s.toList) = true := by rw [beq_bts, decide_eq_true_iff, hs2, HB.out]
  go_wp2_with fail
  go_ret2
  exact ⟨_, rfl, hv1.keeps k2, k1.trans k2⟩
set_option maxRecDepth 20000 in
theorem l22Formula_any (t : Fm) (hok : OkF t) (s : ByteArray) (w : World) (hb : bts s = t.body) (hl : t.enc.length ≤ 40) :
    Calls Tryz.prog 183 #[.string s] w fun e w' => ∃ v, e = .returned (.tuple #[v, .bool true]) ∧ OwnN w' w.heap.size v t.enc ∧ Keeps w w' := by
  have HR := hid (l02Good_any t hok s w hb hl)
  have hp := hid ((plainL_enc t).trans hok.2)
  clear hb
  go_enter Tryz.func183, Tryz.ntmps183
  go_wp2_with fail
  refine HR.out.mono ?_; rintro e w1 ⟨v1, rfl, hv1, k1⟩
  have hn1 : Nds w1 v1 t.enc := hv1.nds (by omega)
  go_wp2_with fail
  refine (l02Plain_any _ _ _ hn1).mono ?_; rintro e w' ⟨rfl, rfl⟩; rw [hp.out]
  go_wp2_with fail
  go_ret2
  exact ⟨_, rfl, hv1, k1⟩
theorem tot_enc (G : List Fm) (h : ∀ a ∈ G, a.enc.length ≤ 40) : tot (G.map Fm.enc) ≤ 40 * G.length := by
  induction G with
  | nil => simp [tot]
  | cons a G ih =>
    have h1 := h a (by simp)
    have h2 := ih (fun b hb => h b (by simp [hb]))
    simp only [List.map_cons, tot, List.length_cons]
    omega
set_option maxRecDepth 20000 in
set_option maxHeartbeats 1000000 in
theorem l22Formulas_any (G : List Fm) (hG : OkL G) (hlen : ∀ a ∈ G, a.enc.length ≤ 40) (hn : G.length ≤ 1000) (v : Value) (w : World) (hv : Left w v G) :
    Calls Tryz.prog 185 #[v] w fun e w' => ∃ v', e = .returned v' ∧ FsL w' v' G ∧ Keeps w w' := by
  obtain ⟨ss, hss, htx⟩ := hv
  obtain ⟨p, cap, rfl, hle, hmx, _, hsl⟩ := hss.at
  unfold maxLen at hmx
  have hln := htx.length
  have hm1 : ss.length ≤ 1000 := by omega
  have HLN := hid hln; clear hln
  have HSS := hid hss; clear hss
  have k0 := (Keeps.refl w).alloc (.cells #[] 24)
  have hE := hid (OwnL.empty w)
  go_enter Tryz.func185, Tryz.ntmps185
  go_wp2
  go_loopw [3, 4] (fun r i' wr => ∃ k : Nat, k ≤ ss.length ∧ i' = .int .i64 k ∧ OwnL wr w.heap.size r ((G.take k).map Fm.enc) ∧ Keeps w wr) (fun _ i _ => ss.length - (intOf i).toNat)
  case atStart => exact ⟨0, by omega, rfl, by simpa using hE.out, k0⟩
  case round =>
    obtain ⟨k, hk, rfl, hown, kw⟩ := hrel
    by_cases hlt : k < ss.length
    · have hlt' : (k : Int) < ss.length := by omega
      have hkG : k < G.length := by have := HLN.out; omega
      obtain ⟨b, off, rfl, hc⟩ := (HSS.out.keeps kw).get k hlt
      have hx := htx.get k hlt hkG
      have HF := hid (l22Formula_any G[k] (hG _ (List.getElem_mem hkG)) ss[k] wr hx (hlen _ (List.getElem_mem hkG)))
      have hsucc := hid (show (G.take (k + 1)).map Fm.enc = (G.take k).map Fm.enc ++ [G[k].enc] by rw [List.take_succ_eq_append_getElem hkG, List.map_append]; rfl)
      generalize ss[k] = x at *
      have hsz := kw.size
      have hlk : ((G.take k).map Fm.enc).length ≤ 1000 := by simp; omega
      clear hx
      go_wp2_with fail
      refine HF.out.mono ?_; rintro e w2 ⟨v2, rfl, hv2, k2⟩
      obtain ⟨p2, n2, q2, rfl⟩ : ∃ p n c, v2 = .slice p n c := by obtain ⟨p, c, e, _⟩ := At.of_own hv2; exact ⟨p, _, c, e⟩
      have kl := (Keeps.refl w2).alloc (.cells #[.slice p2 n2 q2] 24)
      have hat := At.lit1 w2 (.slice p2 n2 q2) 24
      have hsz2 := k2.size
      go_wp2_with (at_builtin; refine appL rfl _ _ rfl w.heap.size _ ((G.take k).map Fm.enc) rfl wr hown (k2.trans kl) _ _ (hv2.keeps kl) hsz _ _ rfl hat (by omega) ?_; intro v4 w4 hv4 hg4 hr4; have k4 := ((kw.trans k2).trans kl).grown hg4 hr4)
      go_roundw
      case rel => exact ⟨k + 1, by omega, by go_num, by rw [hsucc.out]; exact hv4, k4⟩
      case measure => simp [intOf]; omega
    · obtain rfl : k = ss.length := by omega
      have hlt' : ¬ ((ss.length : Int) < ss.length) := by omega
      have hT := tot_enc G hlen
      have hGk : G.take ss.length = G := by rw [HLN.out]; exact List.take_length
      rw [hGk] at hown
      have hfs : FsL wr _ G := hown.ndsL (by simp; omega) (by omega)
      have HFS := hid hfs
      clear hfs hown hGk
      go_wp2
      go_ret
      exact ⟨_, rfl, HFS.out, kw⟩
end Go.Proofs.YtpbbfoliabgkpaaGreat
