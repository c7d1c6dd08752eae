/- What types see, program side. -/
import Derived.Test.YtkkcfifnkcnceaaGreatHMW
import Derived.Deep.RegionHeld3
namespace Go.Proofs.YtkkcfifnkcnceaaGreat
open Go.RowKit
def lgS : Nat → ByteArray
 | 0 => ⟨#[75]⟩
 | 1 => ⟨#[68]⟩
 | 2 => ⟨#[84]⟩
 | 3 => ⟨#[75, 52]⟩
 | 4 => ⟨#[83, 52]⟩
 | 5 => ⟨#[71, 76]⟩
 | 6 => ⟨#[83, 53]⟩
 | _ => ⟨#[75, 66]⟩
def nPas (L : Nat) (f t : Nat) (n : Nee) : Bool := !n.dem f || (if L = 3 ∨ L = 5 then n.mee t && n.dem t else if L = 4 then n.dem t else n.mee t)
def nPasB (L : Nat) (ns : List Nee) (f t : Nat) : Bool := ns.all (nPas L f t)
def nSee (L : Nat) (ns : List Nee) (f t : Nat) : Bool :=
 if L = 6 then ns.all fun n => n.dem f == n.dem t
 else if L = 7 then nPasB L ns f t && nPasB L ns t f
 else if L = 5 then nPasB L ns f t && ns.any fun n => n.dem t && !n.dem f
 else nPasB L ns f t
def nAlw (L : Nat) (ns : List Nee) (m : Nat) : Bool := !(decide (L = 2 ∨ L = 4 ∨ L = 6)) || ns.all fun n => !n.dem m || n.mee m
structure TyN (w : World) (r L N : Nat) (ns : List Nee) : Prop where
 c0 : w.cell? ⟨r, 0, none⟩ = some (.string (lgS L))
 c2 : ∃ v, w.cell? ⟨r, 2, none⟩ = some v ∧ NeeL w v ns
 hL : L < 8
 hi : ∀ n ∈ ns, n.ix ≤ 8
 hl : ∀ n ∈ ns, n.inn.length = N
 hN : N ≤ 256
theorem TyN.keeps {w w' : World} {r L N : Nat} {ns : List Nee} (h : TyN w r L N ns) (k : Keeps w w') : TyN w' r L N ns := by
 obtain ⟨v, h1, h2⟩ := h.c2
 exact ⟨k.cell h.c0, ⟨v, k.cell h1, h2.keeps k⟩, h.hL, h.hi, h.hl, h.hN⟩
theorem any_not {α : Type} (l : List α) (p : α → Bool) : (l.any fun x => !p x) = !l.all p := by
 induction l with
 | nil => rfl
 | cons a l ih => rw [List.any_cons, List.all_cons, ih, Bool.not_and]
theorem box1 (w : World) (a : Value) (ty : TypeId) : (w.alloc (.cells #[a] ty)).cell? ⟨w.heap.size, 0, none⟩ = some a := by simp
theorem size1 (w : World) (o : Obj) : (w.alloc o).heap.size = w.heap.size + 1 := by simp
theorem two (w : World) (a b : Value) (ta tb : TypeId) : Keeps w ((w.alloc (.cells #[a] ta)).alloc (.cells #[b] tb)) ∧ ((w.alloc (.cells #[a] ta)).alloc (.cells #[b] tb)).cell? ⟨w.heap.size, 0, none⟩ = some a ∧
  ((w.alloc (.cells #[a] ta)).alloc (.cells #[b] tb)).cell? ⟨w.heap.size + 1, 0, none⟩ = some b := by
 have h2 := box1 (w.alloc (.cells #[a] ta)) b tb
 rw [size1] at h2
 exact ⟨((Keeps.refl w).alloc _).alloc _, ((Keeps.refl _).alloc _).cell (box1 w a ta), h2⟩
theorem three (w : World) (a b c : Value) (ta tb tc : TypeId) : Keeps w (((w.alloc (.cells #[a] ta)).alloc (.cells #[b] tb)).alloc (.cells #[c] tc)) ∧ (((w.alloc (.cells #[a] ta)).alloc (.cells #[b] tb)).alloc (.cells #[c] tc)).cell? ⟨w.heap.size, 0, none⟩ = some a ∧
  (((w.alloc (.cells #[a] ta)).alloc (.cells #[b] tb)).alloc (.cells #[c] tc)).cell? ⟨w.heap.size + 1, 0, none⟩ = some b ∧ (((w.alloc (.cells #[a] ta)).alloc (.cells #[b] tb)).alloc (.cells #[c] tc)).cell? ⟨w.heap.size + 2, 0, none⟩ = some c := by
 obtain ⟨k, h1, h2⟩ := two w a b ta tb
 have h3 := box1 ((w.alloc (.cells #[a] ta)).alloc (.cells #[b] tb)) c tc
 rw [size1, size1] at h3
 exact ⟨k.alloc _, ((Keeps.refl _).alloc _).cell h1, ((Keeps.refl _).alloc _).cell h2, h3⟩
set_option maxHeartbeats 1000000 in
theorem isReflexive_any (L : Nat) (hL : L < 8) (w : World) : Calls Tryz.prog 116 #[.string (lgS L)] w fun e w' => e = .returned (.bool (decide (L = 2 ∨ L = 4 ∨ L = 6))) ∧ w = w' := by
 have h8 : L = 0 ∨ L = 1 ∨ L = 2 ∨ L = 3 ∨ L = 4 ∨ L = 5 ∨ L = 6 ∨ L = 7 := by omega
 clear hL
 rcases h8 with rfl | rfl | rfl | rfl | rfl | rfl | rfl | rfl
 all_goals
  simp only [lgS]
  go_enter Tryz.func116, Tryz.ntmps116
  go_wp2
  go_ret
  exact ⟨ret_bool (by decide), rfl⟩
set_option maxHeartbeats 1000000 in
theorem isAllowed1_any (n : Nee) (hi : n.ix ≤ 8) (m : Nat) (hm : m < n.inn.length) (hN : n.inn.length ≤ 256) (q : Option Addr) (c g : Nat) (w : World) (hq : Bools w (.slice q n.inn.length c) n.inn) (c1 : w.cell? ⟨g, 0, none⟩ = some (.int .i64 m)) :
  Calls Tryz.prog 167 #[.agg #[.int .i64 n.ix, .int .i64 n.kd, .slice q n.inn.length c], .pointer (some ⟨g, 0, none⟩)] w fun e w' => e = .returned (.bool (!(!n.dem m || n.mee m))) ∧ Keeps w w' := by
 have kA := (Keeps.refl w).alloc (.cells #[.int .i64 n.ix, .int .i64 n.kd, .slice q n.inn.length c] 150)
 obtain ⟨d0, d1, d2⟩ := box3 w (.int .i64 n.ix) (.int .i64 n.kd) (.slice q n.inn.length c) 150
 have c1A := kA.cell c1
 have HD := hid (fun wz => demands_any n hi m (by omega) q n.inn.length c wz)
 have HM := hid (fun wz (kz : Keeps w wz) => meets_any n m hm hN (.slice q n.inn.length c) wz (hq.keeps kz))
 clear hq c1
 generalize n.inn.length = l at *
 generalize n.kd = k at *
 generalize n.ix = i at *
 generalize n.dem m = y at *
 generalize n.mee m = z at *
 go_enter Tryz.func167, Tryz.ntmps167
 go_wp2_with fail
 refine (HD.out _).mono ?_; rintro e w2 ⟨rfl, k2⟩
 have e0 := k2.cell d0
 have e1 := k2.cell d1
 have e2 := k2.cell d2
 have e3 := k2.cell c1A
 cases y
 ·go_wp2_with fail
  go_ret
  exact ⟨rfl, kA.trans k2⟩
 ·go_wp2_with fail
  refine (HM.out _ (kA.trans k2)).mono ?_; rintro e w3 ⟨rfl, k3⟩
  go_wp2_with fail
  go_ret
  exact ⟨ret_bool (by cases z <;> rfl), (kA.trans k2).trans k3⟩
theorem enters_isAllowed1 : Enters 167 := fun _ _ => by kernel_rfl
set_option maxHeartbeats 1000000 in
theorem isAllowed_any (r L N : Nat) (ns : List Nee) (m : Nat) (hm : m < N) (w : World) (h : TyN w r L N ns) :
  Calls Tryz.prog 129 #[.pointer (some ⟨r, 0, none⟩), .int .i64 m] w fun e w' => e = .returned (.bool (nAlw L ns m)) ∧ Keeps w w' := by
 have kA := (Keeps.refl w).alloc (.cells #[.int .i64 m] 2)
 have cm : (w.alloc (.cells #[.int .i64 m] 2)).cell? ⟨w.heap.size, 0, none⟩ = some (.int .i64 m) := by simp
 have hA := h.keeps kA
 have d0 := hA.c0
 have HR := hid (fun wz => isReflexive_any L h.hL wz)
 obtain ⟨v, d2, hne⟩ := hA.c2
 have HC := hid (containsFuncNe (fun n => !(!n.dem m || n.mee m)) 167 #[.pointer (some ⟨w.heap.size, 0, none⟩)] ns v _ hne enters_isAllowed1
  (fun n q c w1 hn k1 hb => isAllowed1_any n (h.hi n hn) m (by rw [h.hl n hn]; exact hm) (by rw [h.hl n hn]; exact h.hN) q c _ w1 hb (k1.cell cm)))
 rw [any_not] at HC
 have hD : nAlw L ns m = (!(decide (L = 2 ∨ L = 4 ∨ L = 6)) || ns.all fun n => !n.dem m || n.mee m) := rfl
 obtain ⟨p, c, rfl, -⟩ := hne
 clear h hA
 generalize lgS L = s at *
 generalize nAlw L ns m = y at *
 subst hD
 generalize decide (L = 2 ∨ L = 4 ∨ L = 6) = z at *
 go_enter Tryz.func129, Tryz.ntmps129
 go_wp2_with fail
 refine (HR.out _).mono ?_; rintro e w' ⟨rfl, rfl⟩
 clear HR
 cases z
 ·go_wp2_with fail
  go_ret
  exact ⟨rfl, kA⟩
 ·go_wp2_with fail
  refine HC.out.mono ?_; rintro e w2 ⟨rfl, k2⟩
  go_wp2_with fail
  go_ret
  exact ⟨ret_bool (by simp), kA.trans k2⟩
set_option maxRecDepth 20000 in
set_option maxHeartbeats 4000000 in
theorem passes1_any (L : Nat) (hL : L < 8) (n : Nee) (hi : n.ix ≤ 8) (f t : Nat) (hf : f < 256) (ht : t < n.inn.length) (hN : n.inn.length ≤ 256) (q : Option Addr) (c gf gy gt r : Nat) (w : World)
  (hq : Bools w (.slice q n.inn.length c) n.inn) (c1 : w.cell? ⟨gf, 0, none⟩ = some (.int .i64 f)) (c2 : w.cell? ⟨gy, 0, none⟩ = some (.pointer (some ⟨r, 0, none⟩))) (c3 : w.cell? ⟨gt, 0, none⟩ = some (.int .i64 t)) (c0 : w.cell? ⟨r, 0, none⟩ = some (.string (lgS L))) :
  Calls Tryz.prog 229 #[.agg #[.int .i64 n.ix, .int .i64 n.kd, .slice q n.inn.length c], .pointer (some ⟨gf, 0, none⟩), .pointer (some ⟨gy, 0, none⟩), .pointer (some ⟨gt, 0, none⟩)] w
   fun e w' => e = .returned (.bool (!nPas L f t n)) ∧ Keeps w w' := by
 have kA := (Keeps.refl w).alloc (.cells #[.int .i64 n.ix, .int .i64 n.kd, .slice q n.inn.length c] 150)
 obtain ⟨d0, d1, d2⟩ := box3 w (.int .i64 n.ix) (.int .i64 n.kd) (.slice q n.inn.length c) 150
 have HDF := hid (fun wz => demands_any n hi f (by omega) q n.inn.length c wz)
 have HDT := hid (fun wz => demands_any n hi t (by omega) q n.inn.length c wz)
 have HM := hid (fun wz (kz : Keeps w wz) => meets_any n t ht hN (.slice q n.inn.length c) wz (hq.keeps kz))
 replace c0 := kA.cell c0
 replace c1 := kA.cell c1
 replace c2 := kA.cell c2
 replace c3 := kA.cell c3
 have hP : nPas L f t n = (!n.dem f || (if L = 3 ∨ L = 5 then n.mee t && n.dem t else if L = 4 then n.dem t else n.mee t)) := rfl
 have HP := hid hP
 clear hq hP hi ht hN
 generalize nPas L f t n = P at *
 generalize n.inn.length = l at *
 generalize n.kd = k at *
 generalize n.ix = i at *
 generalize n.dem f = x at *
 generalize n.dem t = y at *
 generalize n.mee t = z at *
 go_enter Tryz.func229, Tryz.ntmps229
 go_wp2_with fail
 refine (HDF.out _).mono ?_; rintro e w2 ⟨rfl, k2⟩
 replace d0 := k2.cell d0
 replace d1 := k2.cell d1
 replace d2 := k2.cell d2
 replace c0 := k2.cell c0
 replace c2 := k2.cell c2
 replace c3 := k2.cell c3
 clear c1
 have kk := kA.trans k2
 cases x
 ·go_wp2_with fail
  go_ret
  exact ⟨ret_bool (by rw [HP.out]; rfl), kk⟩
 ·have h8 : (L = 3 ∨ L = 5) ∨ L = 4 ∨ (L = 0 ∨ L = 1 ∨ L = 2 ∨ L = 6 ∨ L = 7) := by omega
  clear hL
  rcases h8 with (rfl | rfl) | rfl | (rfl | rfl | rfl | rfl | rfl)
  iterate 2
   ·simp only [lgS] at c0
    go_wp2_with fail
    refine (HM.out _ kk).mono ?_; rintro e w3 ⟨rfl, k3⟩
    replace d0 := k3.cell d0
    replace d1 := k3.cell d1
    replace d2 := k3.cell d2
    replace c3 := k3.cell c3
    cases z
    ·go_wp2_with fail
     go_ret
     exact ⟨ret_bool (by rw [HP.out]; rfl), kk.trans k3⟩
    ·go_wp2_with fail
     refine (HDT.out _).mono ?_; rintro e w4 ⟨rfl, k4⟩
     go_wp2_with fail
     go_ret
     exact ⟨ret_bool (by rw [HP.out]; cases y <;> rfl), (kk.trans k3).trans k4⟩
  ·simp only [lgS] at c0
   go_wp2_with fail
   refine (HDT.out _).mono ?_; rintro e w4 ⟨rfl, k4⟩
   go_wp2_with fail
   go_ret
   exact ⟨ret_bool (by rw [HP.out]; cases y <;> rfl), kk.trans k4⟩
  all_goals
   simp only [lgS] at c0
   go_wp2_with fail
   refine (HM.out _ kk).mono ?_; rintro e w3 ⟨rfl, k3⟩
   go_wp2_with fail
   go_ret
   exact ⟨ret_bool (by rw [HP.out]; cases z <;> rfl), kk.trans k3⟩
theorem enters_passes1 : Enters 229 := fun _ _ => by kernel_rfl
set_option maxHeartbeats 1000000 in
theorem passes_any (r L N : Nat) (ns : List Nee) (f t : Nat) (hf : f < N) (ht : t < N) (w : World) (h : TyN w r L N ns) :
  Calls Tryz.prog 222 #[.pointer (some ⟨r, 0, none⟩), .int .i64 f, .int .i64 t] w fun e w' => e = .returned (.bool (nPasB L ns f t)) ∧ Keeps w w' := by
 have hN := h.hN
 obtain ⟨kA, cy, cf, ct⟩ := three w (.pointer (some ⟨r, 0, none⟩)) (.int .i64 f) (.int .i64 t) 107 2 2
 have hA := h.keeps kA
 have d0 := hA.c0
 obtain ⟨v, d2, hne⟩ := hA.c2
 have HC := hid (containsFuncNe (fun n => !nPas L f t n) 229 #[.pointer (some ⟨w.heap.size + 1, 0, none⟩), .pointer (some ⟨w.heap.size, 0, none⟩), .pointer (some ⟨w.heap.size + 2, 0, none⟩)] ns v _ hne enters_passes1
  (fun n q c w1 hn k1 hb => passes1_any L h.hL n (h.hi n hn) f t (by omega) (by rw [h.hl n hn]; exact ht) (by rw [h.hl n hn]; exact h.hN) q c _ _ _ r w1 hb (k1.cell cf) (k1.cell cy) (k1.cell ct) (k1.cell d0)))
 rw [any_not] at HC
 have hD : nPasB L ns f t = ns.all (nPas L f t) := rfl
 rw [← hD] at HC
 obtain ⟨p, c, rfl, -⟩ := hne
 clear h hA hD
 generalize lgS L = s at *
 generalize nPasB L ns f t = y at *
 go_enter Tryz.func222, Tryz.ntmps222
 go_wp2_with fail
 refine HC.out.mono ?_; rintro e w2 ⟨rfl, k2⟩
 go_wp2_with fail
 go_ret
 exact ⟨ret_bool (by simp), kA.trans k2⟩
end Go.Proofs.YtkkcfifnkcnceaaGreat
namespace Go.Proofs.YtkkcfifnkcnceaaGreat
open Go.RowKit
structure SpR (w : World) (r L N : Nat) (E : List Fm) (M : Nat → Nat) (ss : List ByteArray) : Prop where
 c0 : w.cell? ⟨r, 0, none⟩ = some (.string (lgS L))
 c1 : ∃ v, w.cell? ⟨r, 1, none⟩ = some v ∧ Strs w v ss
 c2 : ∃ v, w.cell? ⟨r, 2, none⟩ = some v ∧ Ints w v (E.map fun t => (t.kind : Int))
 c4 : ∃ v, w.cell? ⟨r, 4, none⟩ = some v ∧ Ints w v ((List.range N).map fun m => ((M m : Nat) : Int))
 hs : ss.length = E.length
 h8 : E.length ≤ 8
 hL : L < 8
 hN : N ≤ 256
 hel : ∀ t ∈ E, isEl t = true
 hM : ∀ m, m < N → M m < 256
 hb : ∀ m, m < N → ∀ i, i < E.length → isMo (E.getD i .fls) = true → (M m).testBit i = innB E i m
theorem SpR.keeps {w w' : World} {r L N : Nat} {E : List Fm} {M : Nat → Nat} {ss : List ByteArray} (h : SpR w r L N E M ss) (k : Keeps w w') : SpR w' r L N E M ss := by
 obtain ⟨v1, a1, b1⟩ := h.c1
 obtain ⟨v2, a2, b2⟩ := h.c2
 obtain ⟨v4, a4, b4⟩ := h.c4
 exact ⟨k.cell h.c0, ⟨v1, k.cell a1, b1.keeps k⟩, ⟨v2, k.cell a2, b2.keeps k⟩, ⟨v4, k.cell a4, b4.keeps k⟩, h.hs, h.h8, h.hL, h.hN, h.hel, h.hM, h.hb⟩
theorem SpR.kind {w : World} {r L N : Nat} {E : List Fm} {M : Nat → Nat} {ss : List ByteArray} (h : SpR w r L N E M ss) (i : Nat) (hi : i < E.length) :
  ∃ b o n c, w.cell? ⟨r, 2, none⟩ = some (.slice (some ⟨b, o, none⟩) n c) ∧ n = E.length ∧ n ≤ c ∧ c ≤ maxLen ∧ w.cell? ⟨b, o + i, none⟩ = some (.int .i64 (E.getD i .fls).kind) ∧
   ((isMo (E.getD i .fls) = false ∧ (E.getD i .fls).kind = 0) ∨ (isMo (E.getD i .fls) = true ∧ bxB E i = true ∧ (E.getD i .fls).kind = 5) ∨ (isMo (E.getD i .fls) = true ∧ bxB E i = false ∧ (E.getD i .fls).kind = 6)) := by
 obtain ⟨v, a, p, c, rfl, h1, h2, hat, _⟩ := h.c2
 obtain ⟨b, o, rfl, hc⟩ := hat.int i (by simpa using hi)
 have hg : E.getD i .fls = E[i] := by rw [List.getD_eq_getElem?_getD, List.getElem?_eq_getElem hi]; rfl
 have hel := h.hel E[i] (List.getElem_mem hi)
 unfold bxB
 rw [hg]
 refine ⟨b, o, _, c, a, by simp, h1, h2, by simpa using hc, ?_⟩
 cases hE : E[i] <;> rw [hE] at hel <;> simp [isEl] at hel <;> simp [isMo, isBx, Fm.kind]
theorem SpR.mask {w : World} {r L N : Nat} {E : List Fm} {M : Nat → Nat} {ss : List ByteArray} (h : SpR w r L N E M ss) (m : Nat) (hm : m < N) :
  ∃ b o n c, w.cell? ⟨r, 4, none⟩ = some (.slice (some ⟨b, o, none⟩) n c) ∧ n = N ∧ n ≤ c ∧ c ≤ maxLen ∧ w.cell? ⟨b, o + m, none⟩ = some (.int .i64 (M m : Nat)) := by
 obtain ⟨v, a, p, c, rfl, h1, h2, hat, _⟩ := h.c4
 obtain ⟨b, o, rfl, hc⟩ := hat.int m (by simpa using hm)
 exact ⟨b, o, _, c, a, by simp, h1, h2, by simpa using hc⟩
set_option maxRecDepth 20000 in
set_option maxHeartbeats 4000000 in
theorem l12Asks_any (r L N : Nat) (E : List Fm) (M : Nat → Nat) (ss : List ByteArray) (m i : Nat) (hm : m < 256) (hi : i < E.length) (w : World) (h : SpR w r L N E M ss) :
  Calls Tryz.prog 157 #[.pointer (some ⟨r, 0, none⟩), .int .i64 m, .int .i64 i] w fun e w' => e = .returned (.bool (isMo (E.getD i .fls) && !demB E i m)) ∧ w = w' := by
 obtain ⟨b, o, n, c, c2, hn, hnc, hc, hk, hcase⟩ := h.kind i hi
 have h8 := h.h8
 have hin : (i : Int) < n := by omega
 unfold maxLen at hc
 have HB := hid (fun wz => l01BitB_any m i wz hm (by omega))
 have HD : Hid (demB E i m = (m.testBit i == bxB E i)) := hid rfl
 rw [HD.out]
 clear h hn
 generalize m.testBit i = y at *
 generalize bxB E i = x at *
 generalize isMo (E.getD i .fls) = z at *
 generalize (E.getD i .fls).kind = kd at *
 rcases hcase with ⟨rfl, rfl⟩ | ⟨rfl, rfl, rfl⟩ | ⟨rfl, rfl, rfl⟩
 ·go_enter Tryz.func157, Tryz.ntmps157
  go_wp2_with fail
  go_ret
  exact ⟨rfl, rfl⟩
 ·go_enter Tryz.func157, Tryz.ntmps157
  go_wp2_with fail
  refine (HB.out _).mono ?_; rintro e w2 ⟨rfl, rfl⟩
  cases y
  ·go_wp2_with fail
   go_ret
   exact ⟨rfl, rfl⟩
  ·go_wp2_with fail
   go_ret
   exact ⟨rfl, rfl⟩
 ·go_enter Tryz.func157, Tryz.ntmps157
  go_wp2_with fail
  refine (HB.out _).mono ?_; rintro e w2 ⟨rfl, rfl⟩
  go_wp2_with fail
  go_ret
  exact ⟨ret_bool (by cases y <;> rfl), rfl⟩
end Go.Proofs.YtkkcfifnkcnceaaGreat
namespace Go.Proofs.YtkkcfifnkcnceaaGreat
open Go.RowKit
def nWit (L : Nat) (ns : List Nee) (f t : Nat) (n : Nee) : Bool := nSee L ns f t && !n.mee t && (!decide (L = 5) || n.dem t)
theorem isGL (L : Nat) (hL : L < 8) : ((lgS L).toList == [71, 76]) = decide (L = 5) := by
 have h8 : L = 0 ∨ L = 1 ∨ L = 2 ∨ L = 3 ∨ L = 4 ∨ L = 5 ∨ L = 6 ∨ L = 7 := by omega
 rcases h8 with rfl | rfl | rfl | rfl | rfl | rfl | rfl | rfl <;> simp [go_sem, lgS]
theorem isD (L : Nat) (hL : L < 8) : ((lgS L).toList == [68]) = decide (L = 1) := by
 have h8 : L = 0 ∨ L = 1 ∨ L = 2 ∨ L = 3 ∨ L = 4 ∨ L = 5 ∨ L = 6 ∨ L = 7 := by omega
 rcases h8 with rfl | rfl | rfl | rfl | rfl | rfl | rfl | rfl <;> simp [go_sem, lgS]
theorem held5 {w w' : World} {g gf gt : Nat} {a b c d e : Value} (k : Keeps w w') (h : w.cell? ⟨g, 0, none⟩ = some a ∧ w.cell? ⟨g, 1, none⟩ = some b ∧ w.cell? ⟨g, 2, none⟩ = some c ∧ w.cell? ⟨gf, 0, none⟩ = some d ∧ w.cell? ⟨gt, 0, none⟩ = some e) :
  w'.cell? ⟨g, 0, none⟩ = some a ∧ w'.cell? ⟨g, 1, none⟩ = some b ∧ w'.cell? ⟨g, 2, none⟩ = some c ∧ w'.cell? ⟨gf, 0, none⟩ = some d ∧ w'.cell? ⟨gt, 0, none⟩ = some e := ⟨k.cell h.1, k.cell h.2.1, k.cell h.2.2.1, k.cell h.2.2.2.1, k.cell h.2.2.2.2⟩
set_option maxHeartbeats 1000000 in
theorem sees1_any (n : Nee) (hi : n.ix ≤ 8) (f t : Nat) (hf : f < 256) (ht : t < 256) (q : Option Addr) (l c gf gt : Nat) (w : World) (c1 : w.cell? ⟨gf, 0, none⟩ = some (.int .i64 f)) (c2 : w.cell? ⟨gt, 0, none⟩ = some (.int .i64 t)) :
  Calls Tryz.prog 221 #[.agg #[.int .i64 n.ix, .int .i64 n.kd, .slice q l c], .pointer (some ⟨gf, 0, none⟩), .pointer (some ⟨gt, 0, none⟩)] w fun e w' => e = .returned (.bool (!(n.dem f == n.dem t))) ∧ Keeps w w' := by
 have kA := (Keeps.refl w).alloc (.cells #[.int .i64 n.ix, .int .i64 n.kd, .slice q l c] 150)
 obtain ⟨d0, d1, d2⟩ := box3 w (.int .i64 n.ix) (.int .i64 n.kd) (.slice q l c) 150
 have HH := hid (⟨d0, d1, d2, kA.cell c1, kA.cell c2⟩ : (w.alloc (.cells #[.int .i64 n.ix, .int .i64 n.kd, .slice q l c] 150)).cell? ⟨w.heap.size, 0, none⟩ = some (.int .i64 n.ix) ∧ (w.alloc (.cells #[.int .i64 n.ix, .int .i64 n.kd, .slice q l c] 150)).cell? ⟨w.heap.size, 1, none⟩ = some (.int .i64 n.kd) ∧ (w.alloc (.cells #[.int .i64 n.ix, .int .i64 n.kd, .slice q l c] 150)).cell? ⟨w.heap.size, 2, none⟩ = some (.slice q l c) ∧ (w.alloc (.cells #[.int .i64 n.ix, .int .i64 n.kd, .slice q l c] 150)).cell? ⟨gf, 0, none⟩ = some (.int .i64 f) ∧ (w.alloc (.cells #[.int .i64 n.ix, .int .i64 n.kd, .slice q l c] 150)).cell? ⟨gt, 0, none⟩ = some (.int .i64 t))
 have HDF := hid (fun wz => demands_any n hi f hf q l c wz)
 have HDT := hid (fun wz => demands_any n hi t ht q l c wz)
 clear c1 c2 d0 d1 d2
 generalize n.kd = k at *
 generalize n.ix = i at *
 generalize n.dem f = x at *
 generalize n.dem t = y at *
 go_enter Tryz.func221, Tryz.ntmps221
 go_wp2_with fail
 go_region_held3 (fun w' => w'.cell? ⟨w.heap.size, 0, none⟩ = some (.int .i64 i) ∧ w'.cell? ⟨w.heap.size, 1, none⟩ = some (.int .i64 k) ∧ w'.cell? ⟨w.heap.size, 2, none⟩ = some (.slice q l c) ∧ w'.cell? ⟨gf, 0, none⟩ = some (.int .i64 f) ∧ w'.cell? ⟨gt, 0, none⟩ = some (.int .i64 t)) (first | exact HH.out | exact F2 | exact F4) (first
  | (go_at_call 168; first
    | ((with_reducible refine (HDF.out _).mono ?_); rintro e w2 ⟨rfl, k2⟩; have F2 := held5 ((Keeps.refl _).drew.trans k2) HH.out)
    | ((with_reducible refine (HDT.out _).mono ?_); rintro e w4 ⟨rfl, k4⟩; have F4 := held5 k4 F2)))
 go_wp2_with fail
 go_ret
 exact ⟨ret_bool (by cases x <;> cases y <;> rfl), (kA.drew.trans k2).trans k4⟩
set_option maxHeartbeats 1000000 in
theorem sees2_any (n : Nee) (hi : n.ix ≤ 8) (f t : Nat) (hf : f < 256) (ht : t < 256) (q : Option Addr) (l c gf gt : Nat) (w : World) (c1 : w.cell? ⟨gt, 0, none⟩ = some (.int .i64 t)) (c2 : w.cell? ⟨gf, 0, none⟩ = some (.int .i64 f)) :
  Calls Tryz.prog 223 #[.agg #[.int .i64 n.ix, .int .i64 n.kd, .slice q l c], .pointer (some ⟨gt, 0, none⟩), .pointer (some ⟨gf, 0, none⟩)] w fun e w' => e = .returned (.bool (n.dem t && !n.dem f)) ∧ Keeps w w' := by
 have kA := (Keeps.refl w).alloc (.cells #[.int .i64 n.ix, .int .i64 n.kd, .slice q l c] 150)
 obtain ⟨d0, d1, d2⟩ := box3 w (.int .i64 n.ix) (.int .i64 n.kd) (.slice q l c) 150
 replace c1 := kA.cell c1
 replace c2 := kA.cell c2
 have HDF := hid (fun wz => demands_any n hi f hf q l c wz)
 have HDT := hid (fun wz => demands_any n hi t ht q l c wz)
 generalize n.kd = k at *
 generalize n.ix = i at *
 generalize n.dem f = x at *
 generalize n.dem t = y at *
 go_enter Tryz.func223, Tryz.ntmps223
 go_wp2_with fail
 refine (HDT.out _).mono ?_; rintro e w2 ⟨rfl, k2⟩
 have e0 := k2.cell d0
 have e1 := k2.cell d1
 have e2 := k2.cell d2
 have e3 := k2.cell c2
 cases y
 ·go_wp2_with fail
  go_ret
  exact ⟨rfl, kA.trans k2⟩
 ·go_wp2_with fail
  refine (HDF.out _).mono ?_; rintro e w3 ⟨rfl, k3⟩
  go_wp2_with fail
  go_ret
  exact ⟨ret_bool (by cases x <;> rfl), (kA.trans k2).trans k3⟩
theorem enters_sees1 : Enters 221 := fun _ _ => by kernel_rfl
theorem enters_sees2 : Enters 223 := fun _ _ => by kernel_rfl
set_option maxRecDepth 20000 in
set_option maxHeartbeats 4000000 in
theorem sees_any (r L N : Nat) (ns : List Nee) (f t : Nat) (hf : f < N) (ht : t < N) (w : World) (h : TyN w r L N ns) :
  Calls Tryz.prog 214 #[.pointer (some ⟨r, 0, none⟩), .int .i64 f, .int .i64 t] w fun e w' => e = .returned (.bool (nSee L ns f t)) ∧ Keeps w w' := by
 have hN := h.hN
 obtain ⟨kA, cf, ct⟩ := two w (.int .i64 f) (.int .i64 t) 2 2
 have hA := h.keeps kA
 have d0 := hA.c0
 have hL := h.hL
 obtain ⟨v, d2, hne⟩ := hA.c2
 have H1 := hid (containsFuncNe (fun n => !(n.dem f == n.dem t)) 221 #[.pointer (some ⟨w.heap.size, 0, none⟩), .pointer (some ⟨w.heap.size + 1, 0, none⟩)] ns v _ hne enters_sees1
  (fun n q c w1 hn k1 hb => sees1_any n (h.hi n hn) f t (by omega) (by omega) q _ c _ _ w1 (k1.cell cf) (k1.cell ct)))
 rw [any_not] at H1
 have H2 := hid (fun wz (kz : Keeps ((w.alloc (.cells #[.int .i64 f] 2)).alloc (.cells #[.int .i64 t] 2)) wz) => containsFuncNe (fun n => n.dem t && !n.dem f) 223 #[.pointer (some ⟨w.heap.size + 1, 0, none⟩), .pointer (some ⟨w.heap.size, 0, none⟩)] ns v wz (hne.keeps kz) enters_sees2
  (fun n q c w1 hn k1 hb => sees2_any n (h.hi n hn) f t (by omega) (by omega) q _ c _ _ w1 ((kz.trans k1).cell ct) ((kz.trans k1).cell cf)))
 have HP := hid (fun wz (kz : Keeps w wz) => passes_any r L N ns f t hf ht wz (h.keeps kz))
 have HQ := hid (fun wz (kz : Keeps w wz) => passes_any r L N ns t f ht hf wz (h.keeps kz))
 have HS : Hid (nSee L ns f t = if L = 6 then ns.all fun n => n.dem f == n.dem t
 else if L = 7 then nPasB L ns f t && nPasB L ns t f
 else if L = 5 then nPasB L ns f t && ns.any fun n => n.dem t && !n.dem f
 else nPasB L ns f t) := hid rfl
 obtain ⟨p, c, rfl, -⟩ := hne
 clear h hA hf ht hN
 generalize nSee L ns f t = P at *
 generalize nPasB L ns f t = x at *
 generalize nPasB L ns t f = y at *
 generalize (ns.all fun n => n.dem f == n.dem t) = z at *
 generalize (ns.any fun n => n.dem t && !n.dem f) = u at *
 have h8 : L = 6 ∨ L = 7 ∨ L = 5 ∨ (L = 0 ∨ L = 1 ∨ L = 2 ∨ L = 3 ∨ L = 4) := by omega
 clear hL
 rcases h8 with rfl | rfl | rfl | (rfl | rfl | rfl | rfl | rfl)
 ·simp only [lgS] at d0
  go_enter Tryz.func214, Tryz.ntmps214
  go_wp2_with fail
  refine H1.out.mono ?_; rintro e w2 ⟨rfl, k2⟩
  go_wp2_with fail
  go_ret
  exact ⟨ret_bool (by rw [HS.out]; simp), kA.trans k2⟩
 ·simp only [lgS] at d0
  go_enter Tryz.func214, Tryz.ntmps214
  go_wp2_with fail
  refine (HP.out _ kA).mono ?_; rintro e w2 ⟨rfl, k2⟩
  have ef := k2.cell cf
  have et := k2.cell ct
  cases x
  ·go_wp2_with fail
   go_ret
   exact ⟨ret_bool (by rw [HS.out]; rfl), kA.trans k2⟩
  ·go_wp2_with fail
   refine (HQ.out _ (kA.trans k2)).mono ?_; rintro e w3 ⟨rfl, k3⟩
   go_wp2_with fail
   go_ret
   exact ⟨ret_bool (by rw [HS.out]; cases y <;> rfl), (kA.trans k2).trans k3⟩
 ·simp only [lgS] at d0
  go_enter Tryz.func214, Tryz.ntmps214
  go_wp2_with fail
  refine (HP.out _ kA).mono ?_; rintro e w2 ⟨rfl, k2⟩
  have ed := k2.cell d2
  cases x
  ·go_wp2_with fail
   go_ret
   exact ⟨ret_bool (by rw [HS.out]; rfl), kA.trans k2⟩
  ·go_wp2_with fail
   refine (H2.out _ k2).mono ?_; rintro e w3 ⟨rfl, k3⟩
   go_wp2_with fail
   go_ret
   exact ⟨ret_bool (by rw [HS.out]; cases u <;> rfl), (kA.trans k2).trans k3⟩
 all_goals
  simp only [lgS] at d0
  go_enter Tryz.func214, Tryz.ntmps214
  go_wp2_with fail
  refine (HP.out _ kA).mono ?_; rintro e w2 ⟨rfl, k2⟩
  go_wp2_with fail
  go_ret
  exact ⟨ret_bool (by rw [HS.out]; rfl), kA.trans k2⟩
set_option maxRecDepth 20000 in
set_option maxHeartbeats 4000000 in
theorem isWitness_any (r L N : Nat) (ns : List Nee) (n : Nee) (hn : n ∈ ns) (q : Option Addr) (c : Nat) (f t : Nat) (hf : f < N) (ht : t < N) (w : World) (h : TyN w r L N ns) (hq : Bools w (.slice q n.inn.length c) n.inn) :
  Calls Tryz.prog 215 #[.pointer (some ⟨r, 0, none⟩), .agg #[.int .i64 n.ix, .int .i64 n.kd, .slice q n.inn.length c], .int .i64 f, .int .i64 t] w fun e w' => e = .returned (.bool (nWit L ns f t n)) ∧ Keeps w w' := by
 have hN := h.hN
 have hl := h.hl n hn
 have kA := (Keeps.refl w).alloc (.cells #[.int .i64 n.ix, .int .i64 n.kd, .slice q n.inn.length c] 150)
 obtain ⟨d0, d1, d2⟩ := box3 w (.int .i64 n.ix) (.int .i64 n.kd) (.slice q n.inn.length c) 150
 have HS := hid (sees_any r L N ns f t hf ht _ (h.keeps kA))
 have HD := hid (fun wz => demands_any n (h.hi n hn) t (by omega) q n.inn.length c wz)
 have HM := hid (fun wz (kz : Keeps w wz) => meets_any n t (by omega) (by omega) (.slice q n.inn.length c) wz (hq.keeps kz))
 have cL := kA.cell h.c0
 have hG := isGL L h.hL
 have HW : Hid (nWit L ns f t n = (nSee L ns f t && !n.mee t && (!decide (L = 5) || n.dem t))) := hid rfl
 clear h hq hl hN hf ht hn
 generalize nWit L ns f t n = P at *
 generalize nSee L ns f t = x at *
 generalize n.inn.length = l at *
 generalize n.kd = k at *
 generalize n.ix = i at *
 generalize n.dem t = y at *
 generalize n.mee t = z at *
 generalize lgS L = s at *
 generalize decide (L = 5) = u at *
 go_enter Tryz.func215, Tryz.ntmps215
 go_wp2_with fail
 refine HS.out.mono ?_; rintro e w2 ⟨rfl, k2⟩
 replace d0 := k2.cell d0
 replace d1 := k2.cell d1
 replace d2 := k2.cell d2
 replace cL := k2.cell cL
 cases x
 ·go_wp2_with fail
  go_ret
  exact ⟨ret_bool (by rw [HW.out]; rfl), kA.trans k2⟩
 ·go_wp2_with fail
  refine (HM.out _ (kA.trans k2)).mono ?_; rintro e w3 ⟨rfl, k3⟩
  replace d0 := k3.cell d0
  replace d1 := k3.cell d1
  replace d2 := k3.cell d2
  replace cL := k3.cell cL
  cases z
  ·cases u
   ·go_wp2_with fail
    go_ret
    exact ⟨ret_bool (by rw [HW.out]; rfl), (kA.trans k2).trans k3⟩
   ·go_wp2_with fail
    refine (HD.out _).mono ?_; rintro e w4 ⟨rfl, k4⟩
    go_wp2_with fail
    go_ret
    exact ⟨ret_bool (by rw [HW.out]; cases y <;> rfl), ((kA.trans k2).trans k3).trans k4⟩
  ·go_wp2_with fail
   go_ret
   exact ⟨ret_bool (by rw [HW.out]; rfl), (kA.trans k2).trans k3⟩
end Go.Proofs.YtkkcfifnkcnceaaGreat
namespace Go.Proofs.YtkkcfifnkcnceaaGreat
open Go.RowKit
def oneQ (L : Nat) (E : List Fm) (f t i : Nat) : Bool := !isMo (E.getD i .fls) || (if L = 6 then demB E i f == demB E i t else pasQ L E f t i)
def frQ (E : List Fm) (f t i : Nat) : Bool := isMo (E.getD i .fls) && (demB E i t && !demB E i f)
def oneB (L : Nat) (E : List Fm) (f t : Nat) : Bool := (List.range E.length).all (oneQ L E f t) && (decide (L ≠ 5) || (List.range E.length).any (frQ E f t))
theorem mods_all (E : List Fm) (p : Nat → Bool) : (List.range E.length).all (fun i => !isMo (E.getD i .fls) || p i) = (mods E).all p := by
 unfold mods
 rw [Bool.eq_iff_iff, List.all_eq_true, List.all_eq_true]
 constructor
 ·intro h i hi
  obtain ⟨h1, h2⟩ := List.mem_filter.1 hi
  have := h i h1
  rw [h2] at this
  simpa using this
 ·intro h i hi
  by_cases hm : isMo (E.getD i .fls) = true
  ·rw [h i (List.mem_filter.2 ⟨hi, hm⟩)]; simp
  ·rw [Bool.not_eq_true] at hm
   rw [hm]; rfl
theorem mods_any (E : List Fm) (p : Nat → Bool) : (List.range E.length).any (fun i => isMo (E.getD i .fls) && p i) = (mods E).any p := by
 unfold mods
 rw [Bool.eq_iff_iff, List.any_eq_true, List.any_eq_true]
 constructor
 ·rintro ⟨i, hi, h⟩
  rw [Bool.and_eq_true] at h
  exact ⟨i, List.mem_filter.2 ⟨hi, h.1⟩, h.2⟩
 ·rintro ⟨i, hi, h⟩
  obtain ⟨h1, h2⟩ := List.mem_filter.1 hi
  exact ⟨i, h1, by rw [h2, h]; rfl⟩
theorem oneB_see (L : Nat) (E : List Fm) (f t : Nat) : (oneB L E f t && (decide (L ≠ 7) || oneB L E t f)) = seeB L E f t := by
 have h1 : ∀ f t, L ≠ 6 → (List.range E.length).all (oneQ L E f t) = pasB L E f t := fun f t h6 => by
  rw [show oneQ L E f t = fun i => !isMo (E.getD i .fls) || pasQ L E f t i from funext fun i => by unfold oneQ; rw [if_neg h6]]
  exact mods_all E _
 have h2 : L = 6 → (List.range E.length).all (oneQ L E f t) = (mods E).all fun i => demB E i f == demB E i t := fun h6 => by
  rw [show oneQ L E f t = fun i => !isMo (E.getD i .fls) || (demB E i f == demB E i t) from funext fun i => by unfold oneQ; rw [if_pos h6]]
  exact mods_all E _
 have h3 : (List.range E.length).any (frQ E f t) = (mods E).any fun i => demB E i t && !demB E i f := mods_any E _
 unfold seeB oneB
 by_cases h6 : L = 6
 ·rw [if_pos h6, h2 h6]; subst h6; simp
 ·rw [if_neg h6, h1 f t h6, h1 t f h6, h3]
  by_cases h7 : L = 7
  ·rw [if_pos h7]; subst h7; simp
  ·rw [if_neg h7]
   by_cases h5 : L = 5
   ·rw [if_pos h5]; subst h5; simp
   ·rw [if_neg h5]; simp [h5, h7]
theorem isKB (L : Nat) (hL : L < 8) : ((lgS L).toList == [75, 66]) = decide (L = 7) := by
 have h8 : L = 0 ∨ L = 1 ∨ L = 2 ∨ L = 3 ∨ L = 4 ∨ L = 5 ∨ L = 6 ∨ L = 7 := by omega
 rcases h8 with rfl | rfl | rfl | rfl | rfl | rfl | rfl | rfl <;> simp [go_sem, lgS]
def OneR (r N L : Nat) (E : List Fm) (w : World) : Prop := ∀ f t wz, f < N → t < N → Keeps w wz → Calls Tryz.prog 197 #[.pointer (some ⟨r, 0, none⟩), .int .i64 f, .int .i64 t] wz fun e w' => e = .returned (.bool (oneB L E f t)) ∧ Keeps wz w'
set_option maxHeartbeats 1000000 in
theorem l12Sees_of (r L N : Nat) (E : List Fm) (M : Nat → Nat) (ss : List ByteArray) (f t : Nat) (hf : f < N) (ht : t < N) (w : World) (h : SpR w r L N E M ss) (hO : OneR r N L E w) :
  Calls Tryz.prog 159 #[.pointer (some ⟨r, 0, none⟩), .int .i64 f, .int .i64 t] w fun e w' => e = .returned (.bool (seeB L E f t)) ∧ Keeps w w' := by
 have H1 := hid (hO f t w hf ht (Keeps.refl w))
 have H2 := hid (fun wz kz => hO t f wz ht hf kz)
 have c0 := h.c0
 have hK := isKB L h.hL
 have HS : Hid (seeB L E f t = (oneB L E f t && (!decide (L = 7) || oneB L E t f))) := hid (by rw [← oneB_see, decide_not])
 clear h hO hf ht
 generalize seeB L E f t = P at *
 generalize oneB L E f t = x at *
 generalize oneB L E t f = y at *
 generalize decide (L = 7) = u at *
 generalize lgS L = s at *
 go_enter Tryz.func159, Tryz.ntmps159
 go_wp2_with fail
 refine H1.out.mono ?_; rintro e w2 ⟨rfl, k2⟩
 have e0 := k2.cell c0
 cases x
 ·go_wp2_with fail
  go_ret
  exact ⟨ret_bool (by rw [HS.out]; rfl), k2⟩
 ·cases u
  ·go_wp2_with fail
   go_ret
   exact ⟨ret_bool (by rw [HS.out]; rfl), k2⟩
  ·go_wp2_with fail
   refine (H2.out _ k2).mono ?_; rintro e w3 ⟨rfl, k3⟩
   go_wp2_with fail
   go_ret
   exact ⟨ret_bool (by rw [HS.out]; cases y <;> rfl), k2.trans k3⟩
end Go.Proofs.YtkkcfifnkcnceaaGreat
namespace Go.Proofs.YtkkcfifnkcnceaaGreat
open Go.RowKit
theorem any_snoc (p : Nat → Bool) (i : Nat) : (List.range (i + 1)).any p = ((List.range i).any p || p i) := by
 rw [List.range_succ, List.any_append]
 simp
theorem one_no {L : Nat} {E : List Fm} {f t i : Nat} (hi : i < E.length) (h : oneQ L E f t i = false) : oneB L E f t = false := by
 unfold oneB
 have : (List.range E.length).all (oneQ L E f t) = false := by
  rw [Bool.eq_false_iff]
  intro ha
  rw [List.all_eq_true] at ha
  rw [ha i (List.mem_range.2 hi)] at h
  cases h
 rw [this]; rfl
theorem one_yes {L : Nat} {E : List Fm} {f t : Nat} (h : ∀ j, j < E.length → oneQ L E f t j = true) : oneB L E f t = (decide (L ≠ 5) || (List.range E.length).any (frQ E f t)) := by
 unfold oneB
 rw [List.all_eq_true.2 (fun j hj => h j (List.mem_range.1 hj))]
 rfl
end Go.Proofs.YtkkcfifnkcnceaaGreat
