import Derived.Test.YtikooimokfbffaaGreatDoorHOO
import Derived.Deep.RegionHeld3
import Derived.Test.YtikooimokfbffaaGreatDoorHOD
import Derived.Test.YtikooimokfbffaaGreatDoorHHS
import Derived.Test.YtikooimokfbffaaGreatDoorHW4
/- Whether a logic is below another one in the table: both sides. -/
namespace Go.Proofs.YtikooimokfbffaaGreatDoor
open Go.RowKit
theorem small_Pos {p : List Nat} (h : p ∈ smallR) : Pos p := by
 obtain ⟨_, h2, h3, h4⟩ := small_pos h
 exact Pos.of (by omega) h3 h4
end Go.Proofs.YtikooimokfbffaaGreatDoor
namespace Go.Proofs.YtikooimokfbffaaGreatDoor
open Go.RowKit
def rfQ (k : Nat) (t : Fm) (b : List Nat) : Bool := ofK b k && !vldR b t
theorem find_at {α : Type} {q : α → Bool} {A L B : List α} {i : Nat} (hi : i < L.length) (hA : A.find? q = none) (hL : ∀ j (h : j < L.length), j < i → q L[j] = false) (hq : q L[i] = true) : (A ++ (L ++ B)).find? q = some L[i] := by
 have hs : L = L.take i ++ L[i] :: L.drop (i + 1) := by rw [← List.drop_eq_getElem_cons hi, List.take_append_drop]
 have hT : (L.take i).find? q = none := by
  rw [List.find?_eq_none]
  intro x hx
  obtain ⟨j, hj, rfl⟩ := List.getElem_of_mem hx
  rw [List.length_take] at hj
  rw [List.getElem_take]
  have := hL j (by omega) (by omega)
  rw [this]; simp
 rw [List.find?_append, hA, Option.none_or]
 have e : L ++ B = L.take i ++ (L[i] :: (L.drop (i + 1) ++ B)) := by
  rw [← List.cons_append, ← List.append_assoc, ← hs]
 rw [e, List.find?_append, hT, Option.none_or, List.find?_cons_of_pos hq]
theorem find_end {α : Type} {q : α → Bool} {L : List α} (h : ∀ j (h : j < L.length), q L[j] = false) : L.find? q = none := by
 rw [List.find?_eq_none]
 intro x hx
 obtain ⟨j, hj, rfl⟩ := List.getElem_of_mem hx
 rw [h j hj]; simp
def RetPC (w : World) (b : List Nat) (c : Int) (e : Ending) (w' : World) : Prop := ∃ v, e = .returned (.tuple #[.agg #[.int .i64 b.length, v], .int .i64 c]) ∧ OwnI w' w.heap.size v (zs b) ∧ Keeps w w'
def RetF (w : World) (R : Option (List Nat)) (e : Ending) (w' : World) : Prop :=
 match R with
 | some b => RetPC w b 0 e w'
 | none => RetPC w [] 4 e w'
theorem results_refI (tmps : Array Value) (W : World) (r : Nat) (h4 : tmps.getD 4 undef = .pointer (some ⟨r, 0, none⟩)) {v : Value} {n c : Int} (h5 : tmps.getD 5 undef = .int .i64 c)
  (ha : W.cell? ⟨r, 0, none⟩ = some (.int .i64 n)) (hb : W.cell? ⟨r, 1, none⟩ = some v) (hv : ∃ p m q, v = .slice p m q) :
  (results Tryz.f19 tmps).run Tryz.prog W = .ok (.tuple #[.agg #[.int .i64 n, v], .int .i64 c]) W := by
 have hr : Tryz.f19.results = #[.cell 4 34, .tmp 5] := rfl
 obtain ⟨p, m, q, rfl⟩ := hv
 unfold results
 rw [hr]
 rw [Array.getD_eq_getD_getElem?] at h4 h5
 simp [go_sem, loadVar, h4, h5, ha, hb]
structure PB (w W : World) (r : Nat) : Prop where
 kp : Keeps w W
 c0 : W.cell? ⟨r, 0, none⟩ = some (.int .i64 0)
 c1 : W.cell? ⟨r, 1, none⟩ = some (.slice none 0 0)
 f0 : W.frozen? ⟨r, 0, none⟩ = false
 f1 : W.frozen? ⟨r, 1, none⟩ = false
theorem PB.keeps {w W W' : World} {r : Nat} (h : PB w W r) (k : Keeps W W') : PB w W' r :=
 ⟨h.kp.trans k, k.cell h.c0, k.cell h.c1, by rw [k.both.2 r 0 (World.block_lt_of_cell? _ _ h.c0)]; exact h.f0, by rw [k.both.2 r 1 (World.block_lt_of_cell? _ _ h.c1)]; exact h.f1⟩
theorem PB.made (w : World) : PB w (w.alloc (.cells #[.int .i64 0, .slice none 0 0] 34)) w.heap.size := ⟨(Keeps.refl w).alloc _, by simp, by simp, by simp, by simp⟩
theorem PB.fill {w W : World} {r : Nat} (h : PB w W r) (hr : w.heap.size ≤ r) (a b : Value) :
  ((W.setCell ⟨r, 0, none⟩ a).setCell ⟨r, 1, none⟩ b).cell? ⟨r, 0, none⟩ = some a ∧ ((W.setCell ⟨r, 0, none⟩ a).setCell ⟨r, 1, none⟩ b).cell? ⟨r, 1, none⟩ = some b ∧ Keeps w ((W.setCell ⟨r, 0, none⟩ a).setCell ⟨r, 1, none⟩ b) ∧
   Touch W ((W.setCell ⟨r, 0, none⟩ a).setCell ⟨r, 1, none⟩ b) (fun k => k = r) := by
 have t1 : Touch W (W.setCell ⟨r, 0, none⟩ a) (fun k => k = r) := (Touch.grown (grown_set r 0 a)).mono (fun k e => by simpa using e)
 have t2 : Touch (W.setCell ⟨r, 0, none⟩ a) ((W.setCell ⟨r, 0, none⟩ a).setCell ⟨r, 1, none⟩ b) (fun k => k = r) := (Touch.grown (grown_set r 1 b)).mono (fun k e => by simpa using e)
 have c0 := h.c0
 have c1 := h.c1
 have a1 := World.cell?_setCell_same _ _ a c0
 have b1 : (W.setCell ⟨r, 0, none⟩ a).cell? ⟨r, 1, none⟩ = some (.slice none 0 0) := (World.cell?_setCell_other (w := W) (a := ⟨r, 0, none⟩) (b := ⟨r, 1, none⟩) (v := a) (by simp)).trans c1
 exact ⟨(World.cell?_setCell_other (w := W.setCell ⟨r, 0, none⟩ a) (a := ⟨r, 1, none⟩) (b := ⟨r, 0, none⟩) (v := b) (by simp)).trans a1, World.cell?_setCell_same _ _ b b1, (h.kp.setCell hr _).setCell (by simpa using hr) _, t1.trans t2⟩
theorem smallR_Pos {b : List Nat} (h : b ∈ smallR) : Pos b ∧ b.length ≤ 4 := ⟨small_Pos h, (small_pos h).2.1⟩
set_option maxRecDepth 20000 in
set_option maxHeartbeats 4000000 in
theorem refI_4 (s : ByteArray) (k : Nat) (hk : k < 9) (hsn : s = nameK k) (t : Fm) (hw : t.wf) (v : Value) (w : World) (hv : Nds w v t.enc) (ha : isFm t.enc = true) (hln : t.enc.length ≤ 40) (hs : findS names9 s = (k : Int)) (hpl : t.plain = true) (hL : LaidS 1 names9 w) :
  Calls Tryz.prog 19 #[.string s, v] w (if 3 < (varL t).length then RetPC w [] 3 else RetF w (smallR.find? (rfQ k t))) := by
 have HF := hid (fun wz (k : Keeps w wz) => isFormula_any t.enc v wz (hv.keeps k))
 have HS := hid (fun wz (kz : Keeps w wz) => intermediateAt_any s wz (hL.keeps kz))
 have HPL := hid (fun wz (k : Keeps w wz) => isPlain_any t.enc v wz (hv.keeps k))
 have HVI := hid (fun w2 (k : Keeps w w2) => variablesIn_any [t.enc] _ _ (NdsL.lit1 (hv.keeps k)) (fun x hx => by rw [List.mem_singleton.1 hx]; exact List.all_eq_true.2 (okNd_enc hw)))
 rw [vmL_oneZ] at HVI
 have hvl := zs_length (varL t)
 rw [ha] at HF
 rw [hs] at HS
 rw [plainL_encP, hpl] at HPL
 have hp := PB.made w
 have HP := hid hp
 have kA := hp.kp
 have hvl6 : (varL t).length ≤ 6 := by
  have := List.length_filter_le (fun j => (vm t.enc).testBit j) (List.range 6)
  unfold varL lowB
  simpa using this
 have HSM := hid (fun wz => smallPosets_any wz)
 have HPO := hid (fun p (h : p ∈ smallR) => smallR_Pos h)
 generalize smallR = L at *
 have HO := hid (fun p (hp : Pos p) vz wz (hz : Ints wz vz (zs p)) => isOf_any p hp k hk vz wz hz)
 rw [← hsn] at HO
 clear hsn
 have HIV := hid (fun p (hp : Pos p) vz wz (kz : Keeps w wz) (hz : Ints wz vz (zs p)) => isValid_any p hp.1 hp.2.1 (bnd_mem hp.2.1) t hw hpl (by omega) vz v wz hz (hv.keeps kz))
 obtain ⟨p, cap, rfl, _⟩ := hv
 have hlz : ¬ ((k : Nat) : Int) < 0 := by omega
 clear ha hp hL hs hw
 by_cases h3 : 3 < (varL t).length
 ·rw [if_pos h3]
  have h3' : (3 : Int) < ((varL t).length : Int) := by omega
  generalize varL t = V at *
  generalize t.enc.length = nn at *
  go_enter Tryz.func19, Tryz.ntmps19
  go_wp2_with fail
  refine (HF.out _ kA).mono ?_; rintro e w2 ⟨rfl, k2⟩
  have h2 := HP.out.keeps k2
  have kw2 := h2.kp
  go_wp2_with fail
  refine (HS.out _ kw2).mono ?_; rintro e w' ⟨rfl, rfl⟩
  go_wp2_with fail
  refine (HPL.out _ kw2).mono ?_; rintro e w3 ⟨rfl, k3⟩
  replace h2 := h2.keeps k3
  have kw3 := h2.kp
  go_wp2_with fail
  refine (HVI.out _ kw3).mono ?_; rintro e w4 ⟨v4, rfl, hv4, k4⟩
  have kx := ((Keeps.refl w3).alloc (.cells #[.slice p nn cap] 26)).trans k4
  replace h2 := h2.keeps kx
  obtain ⟨p4, c4, rfl, -, -, -⟩ := At.of_own hv4
  rw [hvl] at *
  obtain ⟨-, d0, d1, e0, e1⟩ := id h2
  obtain ⟨x0, x1, x2, -⟩ := h2.fill (Nat.le_refl _) (.int .i64 0) (.slice none 0 0)
  have HX := hid (And.intro x0 (And.intro x1 x2))
  clear x0 x1 x2 h2 hv4
  go_wp2_with fail
  refine bodyPost_ret (results_refI _ _ w.heap.size rfl rfl HX.out.1 HX.out.2.1 ⟨_, _, _, rfl⟩) rfl ?_
  exact ⟨_, rfl, OwnI.nil _ _, HX.out.2.2⟩
 ·rw [if_neg h3]
  have h3' : ¬ (3 : Int) < ((varL t).length : Int) := by omega
  have HFE : Hid ((∀ j (hj : j < L.length), rfQ k t L[j] = false) → L.find? (rfQ k t) = none) := hid (fun h => find_end (q := rfQ k t) h)
  have HFA := hid (fun i (hi : i < L.length) (h : ∀ j (hj : j < L.length), j < i → rfQ k t L[j] = false) (hq : rfQ k t L[i] = true) => by
   have := find_at (q := rfQ k t) (A := []) (L := L) (B := []) hi rfl h hq
   rw [List.nil_append, List.append_nil] at this; exact this)
  have HQ : Hid (∀ b, rfQ k t b = (ofK b k && !vldR b t)) := hid fun _ => rfl
  generalize L.find? (rfQ k t) = R at *
  obtain ⟨Q, hQ⟩ : ∃ Q : List Nat → Bool, Q = rfQ k t := ⟨_, rfl⟩
  obtain ⟨P1, hP1⟩ : ∃ P : List Nat → Bool, P = fun p => ofK p k := ⟨_, rfl⟩
  obtain ⟨P2, hP2⟩ : ∃ P : List Nat → Bool, P = fun p => vldR p t := ⟨_, rfl⟩
  have f1 : ∀ p, ofK p k = P1 p := fun p => by rw [hP1]
  have f2 : ∀ p, vldR p t = P2 p := fun p => by rw [hP2]
  simp only [f1, f2, ← hQ] at *
  clear hQ hP1 hP2 f1 f2
  generalize varL t = V at *
  generalize t.enc.length = nn at *
  go_enter Tryz.func19, Tryz.ntmps19
  go_wp2_with fail
  refine (HF.out _ kA).mono ?_; rintro e w2 ⟨rfl, k2⟩
  have h2 := HP.out.keeps k2
  have kw2 := h2.kp
  go_wp2_with fail
  refine (HS.out _ kw2).mono ?_; rintro e w' ⟨rfl, rfl⟩
  go_wp2_with fail
  refine (HPL.out _ kw2).mono ?_; rintro e w3 ⟨rfl, k3⟩
  replace h2 := h2.keeps k3
  have kw3 := h2.kp
  go_wp2_with fail
  refine (HVI.out _ kw3).mono ?_; rintro e w4 ⟨v4, rfl, hv4, k4⟩
  have kx := ((Keeps.refl w3).alloc (.cells #[.slice p nn cap] 26)).trans k4
  replace h2 := h2.keeps kx
  have hww : w.heap.size < w4.heap.size := by have := World.block_lt_of_cell? _ _ h2.c0; simpa using this
  obtain ⟨p4, c4, rfl, -, -, -⟩ := At.of_own hv4
  rw [hvl] at *
  clear hv4
  go_wp2_with fail
  refine (HSM.out _).mono ?_; rintro e w5 ⟨v5, rfl, hv5, k5⟩
  replace h2 := h2.keeps k5
  obtain ⟨p5, q5, rfl, hle5, hmx5⟩ := hv5.shape
  unfold maxLen at hmx5
  have HV5 := hid hv5; clear hv5
  have HP5 := hid h2
  have hws := h2.kp.size
  clear h2 k5 kx k4 k3 k2 kw2 kw3
  go_wp2_with fail
  go_loopw [32] (fun s32 wx => ∃ i : Nat, i ≤ L.length ∧ s32 = .int .i64 i ∧ Hid (∀ j (h : j < L.length), j < i → Q L[j] = false) ∧ Keeps w5 wx) (fun s32 _ => L.length - (intOf s32).toNat)
  case atStart => exact ⟨0, by omega, rfl, hid (fun j _ h => by omega), Keeps.refl w5⟩
  case round =>
   obtain ⟨i, hi, rfl, HJ, kx⟩ := hrel
   have hpb := HP5.out.keeps kx
   by_cases hil : i < L.length
   ·have hil' : (i : Int) < L.length := by omega
    have hg := (HV5.out.keeps kx).get i hil
    obtain ⟨b1, o1, u, rfl, c0, c1, hou⟩ := hg
    have hpx := HPO.out L[i] (List.getElem_mem hil)
    have hin := hou.ints (by rw [zs_length]; have := hpx.1.1; omega)
    have kb := (Keeps.refl wr).alloc (.cells #[.int .i64 (L[i].length : Int), u] 34)
    obtain ⟨y0, y1⟩ := BoxF.made wr L[i].length u 34
    have H1 := hid (HO.out L[i] hpx.1 u _ (hin.keeps kb))
    have H2 := hid (fun wz (kz : Keeps wr wz) => HIV.out L[i] hpx.1 u wz (hpb.kp.trans kz) (hin.keeps kz))
    have HQi := hid (HQ.out L[i])
    have HFi := hid (fun (h : Q L[i] = true) => HFA.out i hil HJ.out h)
    have HNX := hid (fun (h : Q L[i] = false) j (hj : j < L.length) (hji : j < i + 1) => show Q L[j] = false by
     by_cases e : j = i
     ·subst e; exact h
     ·exact HJ.out j hj (by omega))
    have HOU := hid hou; clear hou
    have HPB := hid (hpb.keeps kb)
    obtain ⟨q1, c1', rfl, _⟩ := hin
    rw [zs_length] at *
    have KX := hid kx; clear kx
    have KB := hid kb; clear kb
    clear hpx hpb
    generalize hx : L[i] = x at *
    clear hx
    generalize P1 x = r1 at *
    generalize P2 x = r2 at *
    generalize hqx : Q x = qx at *
    have HQX := hid hqx; clear hqx
    generalize hlx : x.length = lx at *
    have HLX := hid hlx; clear hlx
    cases r1
    ·have hqt : Hid (qx = false) := hid (by rw [HQi.out]; rfl)
     go_wp2_with fail
     refine H1.out.mono ?_; rintro e w6 ⟨rfl, k6⟩
     go_wp2_with fail
     go_roundw
     case rel => exact ⟨i + 1, by omega, by go_num, hid (HNX.out hqt.out), KX.out.trans (KB.out.trans k6)⟩
     case measure => simp [intOf] <;> omega
    ·cases r2
     ·have hqt : Hid (qx = true) := hid (by rw [HQi.out]; rfl)
      have HRR := hid (HFi.out hqt.out)
      go_wp2_with fail
      refine H1.out.mono ?_; rintro e w6 ⟨rfl, k6⟩
      replace y0 := k6.cell y0
      replace y1 := k6.cell y1
      go_wp2_with fail
      refine (H2.out _ (KB.out.trans k6)).mono ?_; rintro e w7 ⟨rfl, k7⟩
      replace y0 := k7.cell y0
      replace y1 := k7.cell y1
      have h7 := HPB.out.keeps (k6.trans k7)
      obtain ⟨-, d0, d1, e0, e1⟩ := id h7
      obtain ⟨x0, x1, x2, x3⟩ := h7.fill (Nat.le_refl _) (.int .i64 (lx : Int)) (.slice q1 lx c1')
      have HX := hid (And.intro x0 (And.intro x1 (And.intro x2 x3)))
      have HOW := hid (HOU.out.keeps (KB.out.trans (k6.trans k7)))
      clear x0 x1 x2 x3 h7
      go_wp2_with fail
      refine bodyPost_ret (results_refI _ _ w.heap.size rfl rfl HX.out.1 HX.out.2.1 ⟨_, _, _, rfl⟩) rfl ?_
      rw [HRR.out]
      exact ⟨_, by rw [HLX.out], (HOW.out.touch HX.out.2.2.2 (fun j hj e => by have := (HOW.out.len j hj).1; omega)).mono (Nat.le_of_lt hww), HX.out.2.2.1⟩
     ·have hqt : Hid (qx = false) := hid (by rw [HQi.out]; rfl)
      go_wp2_with fail
      refine H1.out.mono ?_; rintro e w6 ⟨rfl, k6⟩
      replace y0 := k6.cell y0
      replace y1 := k6.cell y1
      go_wp2_with fail
      refine (H2.out _ (KB.out.trans k6)).mono ?_; rintro e w7 ⟨rfl, k7⟩
      go_wp2_with fail
      go_roundw
      case rel => exact ⟨i + 1, by omega, by go_num, hid (HNX.out hqt.out), KX.out.trans (KB.out.trans (k6.trans k7))⟩
      case measure => simp [intOf] <;> omega
   ·have e : i = L.length := by omega
    have hil' : ¬ (i : Int) < L.length := by omega
    have HRR : Hid (R = none) := hid (HFE.out (fun j hj => HJ.out j hj (by omega)))
    obtain ⟨-, d0, d1, e0, e1⟩ := id hpb
    obtain ⟨x0, x1, x2, -⟩ := hpb.fill (Nat.le_refl _) (.int .i64 0) (.slice none 0 0)
    have HX := hid (And.intro x0 (And.intro x1 x2))
    clear x0 x1 x2 hpb
    go_wp2_with fail
    refine bodyPost_ret (results_refI _ _ w.heap.size rfl rfl HX.out.1 HX.out.2.1 ⟨_, _, _, rfl⟩) rfl ?_
    rw [HRR.out]
    exact ⟨_, rfl, OwnI.nil _ _, HX.out.2.2⟩
end Go.Proofs.YtikooimokfbffaaGreatDoor
