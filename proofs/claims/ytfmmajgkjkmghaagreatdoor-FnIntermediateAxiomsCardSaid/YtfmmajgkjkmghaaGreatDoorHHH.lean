import Derived.Test.YtfmmajgkjkmghaaGreatDoorHVS
import Derived.Test.YtfmmajgkjkmghaaGreatDoorHQU
import Derived.Lib.OwnBridge
import Derived.Sort.OwnSorted
import Derived.Lib.SliceRun
import Derived.Test.YtfmmajgkjkmghaaGreatDoorHHF
/- The program's forced: the formula is walked from behind over a stack. -/
namespace Go.Proofs.YtfmmajgkjkmghaaGreatDoor
open Go.RowKit
theorem plainL_encP (t : Fm) : plainL t.enc = t.plain := by
 unfold plainL
 induction t with
 | var v => simp [Fm.enc, Fm.plain]
 | fls => simp [Fm.enc, Fm.plain]
 | and a b iha ihb => simp only [Fm.enc, Fm.plain, List.all_cons, List.all_append, iha, ihb]; simp
 | or a b iha ihb => simp only [Fm.enc, Fm.plain, List.all_cons, List.all_append, iha, ihb]; simp
 | imp a b iha ihb => simp only [Fm.enc, Fm.plain, List.all_cons, List.all_append, iha, ihb]; simp
 | box a iha => simp [Fm.enc, Fm.plain]
 | dia a iha => simp [Fm.enc, Fm.plain]
theorem sufF_len (t : Fm) : ∀ d i, i + d = t.enc.length → (sufF t i).length ≤ d
 | 0, i, h => by
  have : i = t.enc.length := by omega
  rw [this, sufF_end]; simp
 | d + 1, i, h => by
  have h1 := sufF_len t d (i + 1) (by omega)
  rcases sufF_step t i (by omega) with ⟨_, v, _, e⟩ | ⟨_, e⟩ | ⟨_, x, y, R, e1, e⟩ | ⟨_, x, y, R, e1, e⟩ | ⟨_, x, y, R, e1, e⟩ | ⟨_, x, R, e1, e⟩ | ⟨_, x, R, e1, e⟩ <;> (rw [e]; try rw [e1] at h1) <;> simp at h1 ⊢ <;> omega
def stkF (b vs : List Nat) (t : Fm) (i : Nat) : List Nat := ((sufF t i).map (frcP b vs)).reverse
theorem stkF_len (b vs : List Nat) (t : Fm) (i : Nat) (h : i ≤ t.enc.length) : (stkF b vs t i).length ≤ t.enc.length - i := by
 have := sufF_len t (t.enc.length - i) i (by omega)
 simp [stkF]; omega
theorem stkF_end (b vs : List Nat) (t : Fm) : stkF b vs t t.enc.length = [] := by simp [stkF, sufF_end]
theorem stkF_zero (b vs : List Nat) (t : Fm) : stkF b vs t 0 = [frcP b vs t] := by simp [stkF, sufF_zero]
def NodeS (b vs : List Nat) (n : Nd) (S T : List Nat) : Prop :=
 (n.k = 0 ∧ ∃ v : Nat, v < 6 ∧ n.s = v ∧ T = S ++ [vs.getD v 0]) ∨ (n.k = 1 ∧ T = S ++ [0]) ∨
 (n.k = 2 ∧ ∃ x y R, S = (R ++ [y]) ++ [x] ∧ T = R ++ [x &&& y] ∧ x < 2 ^ b.length ∧ y < 2 ^ b.length) ∨
 (n.k = 3 ∧ ∃ x y R, S = (R ++ [y]) ++ [x] ∧ T = R ++ [x ||| y] ∧ x < 2 ^ b.length ∧ y < 2 ^ b.length) ∨
 (n.k = 4 ∧ ∃ x y R, S = (R ++ [y]) ++ [x] ∧ T = R ++ [impB b x y] ∧ x < 2 ^ b.length ∧ y < 2 ^ b.length)
theorem stkF_step {b vs : List Nat} (hvs : Bnd b.length vs) {t : Fm} (hw : t.wf) (hp : t.plain = true) (i : Nat) (hi : i < t.enc.length) : NodeS b vs (t.enc.getD i ⟨0, 0⟩) (stkF b vs t (i + 1)) (stkF b vs t i) := by
 have hx : t.enc.getD i ⟨0, 0⟩ = t.enc[i] := by simp [List.getD_eq_getElem?_getD, hi]
 have hm : t.enc[i] ∈ t.enc := List.getElem_mem hi
 have hok := okNd_enc hw _ hm
 have hpl : plainL t.enc = true := by rw [plainL_encP]; exact hp
 have hb : t.enc[i].k ≠ 5 ∧ t.enc[i].k ≠ 6 := by
  unfold plainL at hpl
  have := List.all_eq_true.1 hpl _ hm
  simpa using this
 rw [← hx] at hok hb
 have hsf := sufF_step t i hi
 clear hx hm hpl
 generalize t.enc.getD i ⟨0, 0⟩ = n at *
 have hl := frcP_lt hvs
 unfold stkF
 rcases hsf with ⟨h, v, e, e2⟩ | ⟨h, e2⟩ | ⟨h, x, y, S, e1, e2⟩ | ⟨h, x, y, S, e1, e2⟩ | ⟨h, x, y, S, e1, e2⟩ | ⟨h, x, S, e1, e2⟩ | ⟨h, x, S, e1, e2⟩
 ·refine .inl ⟨h, v, ?_, e, ?_⟩
  ·unfold okNd at hok
   rw [if_pos h] at hok
   have := of_decide_eq_true hok
   omega
  ·rw [e2]; simp [frcP]
 ·exact .inr (.inl ⟨h, by rw [e2]; simp [frcP]⟩)
 ·exact .inr (.inr (.inl ⟨h, frcP b vs x, frcP b vs y, (S.map (frcP b vs)).reverse, by rw [e1]; simp, by rw [e2]; simp [frcP], hl x, hl y⟩))
 ·exact .inr (.inr (.inr (.inl ⟨h, frcP b vs x, frcP b vs y, (S.map (frcP b vs)).reverse, by rw [e1]; simp, by rw [e2]; simp [frcP], hl x, hl y⟩)))
 ·exact .inr (.inr (.inr (.inr ⟨h, frcP b vs x, frcP b vs y, (S.map (frcP b vs)).reverse, by rw [e1]; simp, by rw [e2]; simp [frcP], hl x, hl y⟩)))
 ·exact absurd h hb.1
 ·exact absurd h hb.2
theorem Ints.zs_cellE {w : World} {v : Value} {l : List Nat} (h : Ints w v (zs l)) (i : Nat) (hi : i < l.length) : ∃ p cap b o, v = .slice p l.length cap ∧ p = some ⟨b, o, none⟩ ∧ w.cell? ⟨b, o + i, none⟩ = some (.int .i64 ((l.getD i 0 : Nat) : Int)) := by
 obtain ⟨p, cap, e, _⟩ := id h
 rw [e] at h
 obtain ⟨b, o, h1, h2⟩ := h.zs_cell i hi
 exact ⟨p, cap, b, o, by rw [e, zs_length], h1, h2⟩
set_option maxRecDepth 20000 in
set_option maxHeartbeats 4000000 in
theorem forced_any (b vs : List Nat) (hb : b.length ≤ 8) (hbm : Bnd b.length b) (hvs : Bnd b.length vs) (h6 : vs.length = 6) (t : Fm) (hw : t.wf) (hp : t.plain = true) (hN : t.enc.length ≤ 1000000) (pv vv v : Value) (w : World)
  (hpv : Ints w pv (zs b)) (hvv : Ints w vv (zs vs)) (hv : Nds w v t.enc) :
  Calls Tryz.prog 132 #[.agg #[.int .i64 b.length, pv], vv, v] w fun e w' => e = .returned (.int .i64 (frcP b vs t)) ∧ Keeps w w' := by
 have HIM := hid (fun x y wz (kz : Keeps w wz) (hx : x < 2 ^ b.length) (hy : y < 2 ^ b.length) => imply_any b x y pv wz (hpv.keeps kz) hb hbm hx hy)
 have HST := hid (fun i hi => stkF_step (b := b) hvs hw hp i hi)
 have HSL := hid (stkF_len b vs t)
 have HSE := hid (stkF_end b vs t)
 have HS0 := hid (stkF_zero b vs t)
 have hpos := Fm.enc_pos t
 have h256 := two8 hb
 have HV := hid (fun i (hi : i < 6) wz (kz : Keeps w wz) => (hvv.keeps kz).zs_cellE i (show i < vs.length by omega))
 obtain ⟨pn, cn, rfl, hnl, hnm, hna, hn2⟩ := hv
 have HND := hid (fun i (hi : i < t.enc.length) wz (kz : Keeps w wz) => (hna.keeps kz).nd i hi)
 have hG : Hid (∀ i (hi : i < t.enc.length), t.enc.getD i ⟨0, 0⟩ = t.enc[i]) := hid (fun i hi => by simp [List.getD_eq_getElem?_getD, hi])
 obtain ⟨pq, cq, rfl, _⟩ := hpv
 obtain ⟨pp, cap2, rfl, _, hmx2, _, _⟩ := hvv
 have HVC : Hid (∀ i, i < 6 → ∀ wz, Keeps w wz → ∃ b1 o1, pp = some ⟨b1, o1, none⟩ ∧ wz.cell? ⟨b1, o1 + i, none⟩ = some (.int .i64 ((vs.getD i 0 : Nat) : Int))) := hid fun i hi wz kz => by
  obtain ⟨p', c', b1, o1, e, e2, e3⟩ := HV.out i hi wz kz
  have e4 : pp = p' := by injection e
  rw [e4]
  exact ⟨b1, o1, e2, e3⟩
 clear HV
 unfold maxLen at hnm hmx2
 rw [zs_length b] at *
 rw [zs_length vs] at *
 simp only [h6] at *
 clear hbm hvs hw hp hna h6
 obtain ⟨Nf, hNf⟩ : ∃ Nf : Nat → Nd, ∀ i, Nf i = t.enc.getD i ⟨0, 0⟩ := ⟨_, fun _ => rfl⟩
 have HND2 : Hid (∀ i, i < t.enc.length → ∀ wz, Keeps w wz → ∃ b0 off, pn = some ⟨b0, off, none⟩ ∧ wz.cell? ⟨b0, off + i * 2, none⟩ = some (.int .i64 (Nf i).k) ∧ wz.cell? ⟨b0, off + i * 2 + 1, none⟩ = some (.int .i64 (Nf i).s)) := hid fun i hi wz kz => by
  rw [hNf, hG.out i hi]; exact HND.out i hi wz kz
 clear HND hG
 simp only [← hNf] at HST
 clear hNf
 unfold NodeS at HST
 obtain ⟨SK, hSK⟩ : ∃ SK : Nat → List Nat, ∀ i, SK i = stkF b vs t i := ⟨_, fun _ => rfl⟩
 obtain ⟨VV, hVV⟩ : ∃ VV : Nat → Nat, ∀ i, VV i = vs.getD i 0 := ⟨_, fun _ => rfl⟩
 obtain ⟨IM, hIM⟩ : ∃ IM : Nat → Nat → Nat, ∀ x y, IM x y = impB b x y := ⟨_, fun _ _ => rfl⟩
 simp only [← hSK, ← hVV, ← hIM] at *
 clear hSK hVV hIM
 generalize frcP b vs t = r at *
 generalize t.enc.length = N at *
 generalize 2 ^ b.length = M at *
 generalize b.length = n at *
 clear hb
 have hcf1 : ∀ args w, (callFunc 169 args).run Tryz.prog w = .ok (.enter 169 args) w := enters_forced1
 have HF0 : Hid (FSt w ((w.alloc (.cells #[.int .i64 n, .slice pq n cq] 26)).alloc (.cells #[.slice none 0 0] 24)) w.heap.size (w.heap.size + 1) n (.slice pq n cq) (SK N) (.slice none 0 0)) := hid (by
  rw [HSE.out]
  exact ⟨((Keeps.refl w).alloc _).alloc _, by simp, by simp, by simp, by simp, OwnI.nil _ _⟩)
 go_enter Tryz.func132, Tryz.ntmps132
 go_wp2_with fail
 obtain ⟨bp, hbp⟩ : ∃ bp, bp = w.heap.size := ⟨_, rfl⟩
 have hb0 : w.heap.size ≤ bp := Nat.le_of_eq hbp.symm
 have HF1 := HF0.out
 rw [← hbp] at HF1 ⊢
 have HF2 := hid HF1
 clear HF1 HF0 hbp
 go_loopw [9] (fun s9 wr => ∃ j : Nat, j ≤ N ∧ s9 = .int .i64 ((j : Int) - 1) ∧ ∃ vS, FSt w wr bp (bp + 1) n (.slice pq n cq) (SK j) vS) (fun s9 _ => (intOf s9 + 1).toNat)
 case atStart => exact ⟨N, by omega, by go_num, _, HF2.out⟩
 case round =>
  obtain ⟨j, hj, rfl, vS, hst⟩ := hrel
  cases j with
  | zero =>
   rw [HS0.out] at hst
   obtain ⟨g, cap, rfl, hbg, hg, hlc, hmx⟩ := hst.own.shape (by simp [zs])
   have hcell := (hst.own.zcell (l := [r]) 0 (by simp)).1
   have hcs := hst.cs
   have hkp := hst.kp
   have hz1 : (zs [r]).length = 1 := by simp [zs]
   rw [hz1] at hcs hlc
   simp only [List.getD_cons_zero] at hcell
   clear hz1 hg hbg
   have hm1 : ((0 : Nat) : Int) - 1 = -1 := rfl
   clear hst
   go_wp2_with fail
   go_ret
   exact ⟨rfl, hkp⟩
  | succ i =>
   have hi1 : ((i + 1 : Nat) : Int) - 1 = (i : Int) := by omega
   rw [hi1]
   have hkp := hst.kp
   obtain ⟨b0, off, rfl, n0, n1⟩ := HND2.out i (by omega) wr hkp
   have hlt : (i : Int) < N := by omega
   have hge : (0 : Int) ≤ i := by omega
   have hsl := HSL.out (i + 1) hj
   have hsl0 := HSL.out i (by omega)
   have hSt := HST.out i (by omega)
   generalize (Nf i).k = kk at *
   generalize (Nf i).s = ss at *
   generalize SK (i + 1) = S1 at *
   have HMEAS : Hid (((i : Int)).toNat < ((i : Int) + 1).toNat) := hid (by omega)
   rcases hSt with ⟨rfl, p, hp6, rfl, hT⟩ | ⟨rfl, hT⟩ | ⟨rfl, x, y, R, hS, hT, hx, hy⟩ | ⟨rfl, x, y, R, hS, hT, hx, hy⟩ | ⟨rfl, x, y, R, hS, hT, hx, hy⟩
   ·-- variable
    obtain ⟨b1, o1, e1, hc⟩ := HVC.out p hp6 wr hkp
    subst e1
    have hp6' : (p : Int) < 6 := by omega
    have hown := hst.own
    have hcs := hst.cs
    have hlt2 : bp + 1 < wr.heap.size := World.block_lt_of_cell? _ _ hcs
    have hzl := zs_length S1
    have kA := (Keeps.refl wr).alloc (.cells #[.int .i64 ((VV p : Nat))] 2)
    have HPU := hid (fun w1 v1 (hg : (wr.alloc (.cells #[.int .i64 ((VV p : Nat))] 2)).grownBy w1 vS.ownBlock) (hr : ∀ k, vS.ownBlock = some k → bp + 1 + 1 ≤ k) (hv : OwnI w1 (bp + 1 + 1) v1 (zs (S1 ++ [VV p]))) => (hst.keeps kA).push (st2 := S1 ++ [VV p]) hb0 (by omega) hg hr hv)
    have hcs2 : ∀ w1, (wr.alloc (.cells #[.int .i64 ((VV p : Nat))] 2)).grownBy w1 vS.ownBlock → (∀ k, vS.ownBlock = some k → bp + 1 + 1 ≤ k) → w1.cell? ⟨bp + 1, 0, none⟩ = some vS ∧ w1.frozen? ⟨bp + 1, 0, none⟩ = false := fun w1 hg hr => by
     have h := cell_row (kA.cell hcs) hg (fun r e => by have := hr r e; omega)
     exact ⟨h.1, by rw [h.2]; exact (hst.keeps kA).fs⟩
    have HCS2 := hid hcs2; clear hcs2
    have hlenst : S1.length ≤ 1000000 := by omega
    obtain ⟨p2, c2, rfl, -, -, -⟩ := At.of_own hown
    rw [hzl] at hown hcs HPU HCS2
    have HZ2 : Hid (∀ z : Int, (zs S1 ++ [z]).length = S1.length + 1) := hid (fun z => by rw [List.length_append, hzl]; rfl)
    have HST2 := hid hst
    clear hst hsl0
    generalize VV p = x at *
    go_wp2_with (at_builtin; refine appI rfl _ _ rfl (bp + 1 + 1) _ (zs S1) rfl (hown.keeps kA) _ [((x : Nat) : Int)] rfl (Ints.lit1 wr _) (by simp; omega) (by rw [hzl]; simp; omega) ?_; intro v1 w1 hv1 hg1 hr1; obtain ⟨g1, g2⟩ := HCS2.out w1 hg1 hr1; have HP1 := hid (HPU.out w1 v1 hg1 hr1 (by rw [zs_snoc]; exact hv1)); obtain ⟨p3, c3, rfl, -, -, -⟩ := At.of_own hv1)
    go_roundw
    case rel => exact ⟨i, by omega, by go_num, _, by rw [hT]; have h := HP1.out; rw [HZ2.out] at h; exact h⟩
    case measure => simp [intOf] <;> omega
   ·-- falsum
    have hown := hst.own
    have hcs := hst.cs
    have hlt2 : bp + 1 < wr.heap.size := World.block_lt_of_cell? _ _ hcs
    have hzl := zs_length S1
    have kA := (Keeps.refl wr).alloc (.cells #[.int .i64 (0)] 2)
    have HPU := hid (fun w1 v1 (hg : (wr.alloc (.cells #[.int .i64 (0)] 2)).grownBy w1 vS.ownBlock) (hr : ∀ k, vS.ownBlock = some k → bp + 1 + 1 ≤ k) (hv : OwnI w1 (bp + 1 + 1) v1 (zs (S1 ++ [0]))) => (hst.keeps kA).push (st2 := S1 ++ [0]) hb0 (by omega) hg hr hv)
    have hcs2 : ∀ w1, (wr.alloc (.cells #[.int .i64 (0)] 2)).grownBy w1 vS.ownBlock → (∀ k, vS.ownBlock = some k → bp + 1 + 1 ≤ k) → w1.cell? ⟨bp + 1, 0, none⟩ = some vS ∧ w1.frozen? ⟨bp + 1, 0, none⟩ = false := fun w1 hg hr => by
     have h := cell_row (kA.cell hcs) hg (fun r e => by have := hr r e; omega)
     exact ⟨h.1, by rw [h.2]; exact (hst.keeps kA).fs⟩
    have HCS2 := hid hcs2; clear hcs2
    have hlenst : S1.length ≤ 1000000 := by omega
    obtain ⟨p2, c2, rfl, -, -, -⟩ := At.of_own hown
    rw [hzl] at hown hcs HPU HCS2
    have HZ2 : Hid (∀ z : Int, (zs S1 ++ [z]).length = S1.length + 1) := hid (fun z => by rw [List.length_append, hzl]; rfl)
    have HST2 := hid hst
    clear hst hsl0
    go_wp2_with (at_builtin; refine appI rfl _ _ rfl (bp + 1 + 1) _ (zs S1) rfl (hown.keeps kA) _ [(0 : Int)] rfl (Ints.lit1 wr _) (by simp; omega) (by rw [hzl]; simp; omega) ?_; intro v1 w1 hv1 hg1 hr1; obtain ⟨g1, g2⟩ := HCS2.out w1 hg1 hr1; have HP1 := hid (HPU.out w1 v1 hg1 hr1 (by rw [zs_snoc]; exact hv1)); obtain ⟨p3, c3, rfl, -, -, -⟩ := At.of_own hv1)
    go_roundw
    case rel => exact ⟨i, by omega, by go_num, _, by rw [hT]; have h := HP1.out; rw [HZ2.out] at h; exact h⟩
    case measure => simp [intOf] <;> omega
   ·-- and
    subst hS
    have hlS : R.length ≤ 1000000 := by simp at hsl; omega
    have HC1 := hid (forced_1_any w wr bp (bp + 1) n (.slice pq n cq) (R ++ [y]) x vS hst hb0 (by omega) (by simp at hsl ⊢; omega))
    have HC2 := hid (fun wz vz (hz : FSt w wz bp (bp + 1) n (.slice pq n cq) (R ++ [y]) vz) => forced_1_any w wz bp (bp + 1) n (.slice pq n cq) R y vz hz hb0 (by omega) hlS)
    have hval := andN x y (by omega) (by omega)
    have HVAL := hid hval; clear hval
    clear hst
    go_wp2_with fail
    refine HC1.out.mono ?_; rintro e w2 ⟨rfl, v2, h2⟩
    go_wp2_with fail
    refine (HC2.out _ _ h2).mono ?_; rintro e w3 ⟨rfl, v3, h3⟩
    have hown := h3.own
    have hcs := h3.cs
    have hlt2 : bp + 1 < w3.heap.size := World.block_lt_of_cell? _ _ hcs
    have hzl := zs_length R
    have kA := (Keeps.refl w3).alloc (.cells #[.int .i64 (bits .and .i64 (x : Int) (y : Int))] 2)
    have HPU := hid (fun w1 v1 (hg : (w3.alloc (.cells #[.int .i64 (bits .and .i64 (x : Int) (y : Int))] 2)).grownBy w1 v3.ownBlock) (hr : ∀ k, v3.ownBlock = some k → bp + 1 + 1 ≤ k) (hv : OwnI w1 (bp + 1 + 1) v1 (zs (R ++ [x &&& y]))) => (h3.keeps kA).push (st2 := R ++ [x &&& y]) hb0 (by omega) hg hr hv)
    have hcs2 : ∀ w1, (w3.alloc (.cells #[.int .i64 (bits .and .i64 (x : Int) (y : Int))] 2)).grownBy w1 v3.ownBlock → (∀ k, v3.ownBlock = some k → bp + 1 + 1 ≤ k) → w1.cell? ⟨bp + 1, 0, none⟩ = some v3 ∧ w1.frozen? ⟨bp + 1, 0, none⟩ = false := fun w1 hg hr => by
     have h := cell_row (kA.cell hcs) hg (fun r e => by have := hr r e; omega)
     exact ⟨h.1, by rw [h.2]; exact (h3.keeps kA).fs⟩
    have HCS2 := hid hcs2; clear hcs2
    have hlenst : R.length ≤ 1000000 := by exact hlS
    obtain ⟨p2, c2, rfl, -, -, -⟩ := At.of_own hown
    rw [hzl] at hown hcs HPU HCS2
    have HZ2 : Hid (∀ z : Int, (zs R ++ [z]).length = R.length + 1) := hid (fun z => by rw [List.length_append, hzl]; rfl)
    clear hsl hsl0 hlS
    go_wp2_with (at_builtin; refine appI rfl _ _ rfl (bp + 1 + 1) _ (zs R) rfl (hown.keeps kA) _ [bits .and .i64 (x : Int) (y : Int)] rfl (Ints.lit1 w3 _) (by simp; omega) (by rw [hzl]; simp; omega) ?_; intro v1 w1 hv1 hg1 hr1; obtain ⟨g1, g2⟩ := HCS2.out w1 hg1 hr1; have HP1 := hid (HPU.out w1 v1 hg1 hr1 (by rw [zs_snoc, ← HVAL.out]; exact hv1)); obtain ⟨p3, c3, rfl, -, -, -⟩ := At.of_own hv1)
    go_roundw
    case rel => exact ⟨i, by omega, by go_num, _, by rw [hT]; have h := HP1.out; rw [HZ2.out] at h; exact h⟩
    case measure => simp [intOf] <;> omega
   ·-- or
    subst hS
    have hlS : R.length ≤ 1000000 := by simp at hsl; omega
    have HC1 := hid (forced_1_any w wr bp (bp + 1) n (.slice pq n cq) (R ++ [y]) x vS hst hb0 (by omega) (by simp at hsl ⊢; omega))
    have HC2 := hid (fun wz vz (hz : FSt w wz bp (bp + 1) n (.slice pq n cq) (R ++ [y]) vz) => forced_1_any w wz bp (bp + 1) n (.slice pq n cq) R y vz hz hb0 (by omega) hlS)
    have hval := orN x y (by omega) (by omega)
    have HVAL := hid hval; clear hval
    clear hst
    go_wp2_with fail
    refine HC1.out.mono ?_; rintro e w2 ⟨rfl, v2, h2⟩
    go_wp2_with fail
    refine (HC2.out _ _ h2).mono ?_; rintro e w3 ⟨rfl, v3, h3⟩
    have hown := h3.own
    have hcs := h3.cs
    have hlt2 : bp + 1 < w3.heap.size := World.block_lt_of_cell? _ _ hcs
    have hzl := zs_length R
    have kA := (Keeps.refl w3).alloc (.cells #[.int .i64 (bits .or .i64 (x : Int) (y : Int))] 2)
    have HPU := hid (fun w1 v1 (hg : (w3.alloc (.cells #[.int .i64 (bits .or .i64 (x : Int) (y : Int))] 2)).grownBy w1 v3.ownBlock) (hr : ∀ k, v3.ownBlock = some k → bp + 1 + 1 ≤ k) (hv : OwnI w1 (bp + 1 + 1) v1 (zs (R ++ [x ||| y]))) => (h3.keeps kA).push (st2 := R ++ [x ||| y]) hb0 (by omega) hg hr hv)
    have hcs2 : ∀ w1, (w3.alloc (.cells #[.int .i64 (bits .or .i64 (x : Int) (y : Int))] 2)).grownBy w1 v3.ownBlock → (∀ k, v3.ownBlock = some k → bp + 1 + 1 ≤ k) → w1.cell? ⟨bp + 1, 0, none⟩ = some v3 ∧ w1.frozen? ⟨bp + 1, 0, none⟩ = false := fun w1 hg hr => by
     have h := cell_row (kA.cell hcs) hg (fun r e => by have := hr r e; omega)
     exact ⟨h.1, by rw [h.2]; exact (h3.keeps kA).fs⟩
    have HCS2 := hid hcs2; clear hcs2
    have hlenst : R.length ≤ 1000000 := by exact hlS
    obtain ⟨p2, c2, rfl, -, -, -⟩ := At.of_own hown
    rw [hzl] at hown hcs HPU HCS2
    have HZ2 : Hid (∀ z : Int, (zs R ++ [z]).length = R.length + 1) := hid (fun z => by rw [List.length_append, hzl]; rfl)
    clear hsl hsl0 hlS
    go_wp2_with (at_builtin; refine appI rfl _ _ rfl (bp + 1 + 1) _ (zs R) rfl (hown.keeps kA) _ [bits .or .i64 (x : Int) (y : Int)] rfl (Ints.lit1 w3 _) (by simp; omega) (by rw [hzl]; simp; omega) ?_; intro v1 w1 hv1 hg1 hr1; obtain ⟨g1, g2⟩ := HCS2.out w1 hg1 hr1; have HP1 := hid (HPU.out w1 v1 hg1 hr1 (by rw [zs_snoc, ← HVAL.out]; exact hv1)); obtain ⟨p3, c3, rfl, -, -, -⟩ := At.of_own hv1)
    go_roundw
    case rel => exact ⟨i, by omega, by go_num, _, by rw [hT]; have h := HP1.out; rw [HZ2.out] at h; exact h⟩
    case measure => simp [intOf] <;> omega
   ·-- imp
    subst hS
    have hlS : R.length ≤ 1000000 := by simp at hsl; omega
    have HC1 := hid (forced_1_any w wr bp (bp + 1) n (.slice pq n cq) (R ++ [y]) x vS hst hb0 (by omega) (by simp at hsl ⊢; omega))
    have HC2 := hid (fun wz vz (hz : FSt w wz bp (bp + 1) n (.slice pq n cq) (R ++ [y]) vz) => forced_1_any w wz bp (bp + 1) n (.slice pq n cq) R y vz hz hb0 (by omega) hlS)
    have HI2 := hid (fun wz (kz : Keeps w wz) => HIM.out x y wz kz hx hy)
    clear hst
    go_wp2_with fail
    refine HC1.out.mono ?_; rintro e w2 ⟨rfl, v2, h2⟩
    have HD2 := hid (h2.keeps (Keeps.refl w2).drew)
    have e0 := h2.c0
    have e1 := h2.c1
    have f0 := HD2.out.c0
    have f1 := HD2.out.c1
    go_wp2_with fail
    go_region_held3 (fun w' => w'.cell? ⟨bp, 0, none⟩ = some (.int .i64 n) ∧ w'.cell? ⟨bp, 1, none⟩ = some (.slice pq n cq)) (first | exact ⟨e0, e1⟩ | exact ⟨f0, f1⟩ | exact ⟨q0, q1⟩ | exact ⟨u0, u1⟩) (first
     | (go_at_call 169; refine (HC2.out _ _ HD2.out).mono ?_; rintro e w3 ⟨rfl, v3, h3⟩; have q0 := h3.c0; have q1 := h3.c1; have qk := h3.kp)
     | (go_at_call 170; refine (HI2.out _ qk).mono ?_; rintro e w4 ⟨rfl, k4⟩; have u0 := k4.cell q0; have u1 := k4.cell q1; have h4 := h3.keeps k4))
    have hown := h4.own
    have hcs := h4.cs
    have hlt2 : bp + 1 < w4.heap.size := World.block_lt_of_cell? _ _ hcs
    have hzl := zs_length R
    have kA := (Keeps.refl w4).alloc (.cells #[.int .i64 (((IM x y : Nat) : Int))] 2)
    have HPU := hid (fun w1 v1 (hg : (w4.alloc (.cells #[.int .i64 (((IM x y : Nat) : Int))] 2)).grownBy w1 v3.ownBlock) (hr : ∀ k, v3.ownBlock = some k → bp + 1 + 1 ≤ k) (hv : OwnI w1 (bp + 1 + 1) v1 (zs (R ++ [IM x y]))) => (h4.keeps kA).push (st2 := R ++ [IM x y]) hb0 (by omega) hg hr hv)
    have hcs2 : ∀ w1, (w4.alloc (.cells #[.int .i64 (((IM x y : Nat) : Int))] 2)).grownBy w1 v3.ownBlock → (∀ k, v3.ownBlock = some k → bp + 1 + 1 ≤ k) → w1.cell? ⟨bp + 1, 0, none⟩ = some v3 ∧ w1.frozen? ⟨bp + 1, 0, none⟩ = false := fun w1 hg hr => by
     have h := cell_row (kA.cell hcs) hg (fun r e => by have := hr r e; omega)
     exact ⟨h.1, by rw [h.2]; exact (h4.keeps kA).fs⟩
    have HCS2 := hid hcs2; clear hcs2
    have hlenst : R.length ≤ 1000000 := by exact hlS
    obtain ⟨p2, c2, rfl, -, -, -⟩ := At.of_own hown
    rw [hzl] at hown hcs HPU HCS2
    have HZ2 : Hid (∀ z : Int, (zs R ++ [z]).length = R.length + 1) := hid (fun z => by rw [List.length_append, hzl]; rfl)
    clear hsl hsl0 hlS
    generalize IM x y = z at *
    go_wp2_with (at_builtin; refine appI rfl _ _ rfl (bp + 1 + 1) _ (zs R) rfl (hown.keeps kA) _ [((z : Nat) : Int)] rfl (Ints.lit1 w4 _) (by simp; omega) (by rw [hzl]; simp; omega) ?_; intro v1 w1 hv1 hg1 hr1; obtain ⟨g1, g2⟩ := HCS2.out w1 hg1 hr1; have HP1 := hid (HPU.out w1 v1 hg1 hr1 (by rw [zs_snoc]; exact hv1)); obtain ⟨p3, c3, rfl, -, -, -⟩ := At.of_own hv1)
    go_roundw
    case rel => exact ⟨i, by omega, by go_num, _, by rw [hT]; have h := HP1.out; rw [HZ2.out] at h; exact h⟩
    case measure => simp [intOf] <;> omega
end Go.Proofs.YtfmmajgkjkmghaaGreatDoor
namespace Go.Proofs.YtfmmajgkjkmghaaGreatDoor
open Go.RowKit
theorem room_of_none' {F : Fence} (hd : F.depth = none) (k : Nat) : F.room k := fun d h => by rw [hd] at h; cases h
theorem YieldAt.wideDepth {m : Nat} (m' : Nat) {P : Program} {l : Nat} {args : Array Value} {W : World} {R : Ending → World → Prop} (h : YieldAt Fence.wide m P l args W R) : YieldAt Fence.wide m' P l args W R := by
 obtain ⟨fn, tmps, assign, body, hy, hR⟩ := h
 exact ⟨fn, tmps, assign, body, hy, ⟨hR.1, fun c cs _ => hR.2 c cs (room_of_none' rfl _)⟩⟩
theorem vldK_true {P : List Nat → Bool} {U V : List Nat} {k : Nat} {vals : List Nat} (hk : k < V.length) (h : ∀ j, j < U.length → vldL P U (V.drop (k + 1)) (vals.set (V.getD k 0) (U.getD j 0)) = true) : vldL P U (V.drop k) vals = true := by
 rw [List.drop_eq_getElem_cons hk, vldL, List.all_eq_true]
 intro u hu
 obtain ⟨j, hj, rfl⟩ := List.getElem_of_mem hu
 have := h j hj
 rwa [getD_get hk, getD_get hj] at this
theorem vldK_false {P : List Nat → Bool} {U V : List Nat} {k : Nat} {vals : List Nat} (hk : k < V.length) {j : Nat} (hj : j < U.length) (h : vldL P U (V.drop (k + 1)) (vals.set (V.getD k 0) (U.getD j 0)) = false) : vldL P U (V.drop k) vals = false := by
 rw [List.drop_eq_getElem_cons hk, vldL, Bool.eq_false_iff]
 intro e
 have := List.all_eq_true.1 e U[j] (List.getElem_mem hj)
 rw [getD_get hk, getD_get hj] at h
 rw [h] at this; cases this
theorem offK {V : List Nat} {k : Nat} (hk : k < V.length) {a c d : List Nat} {u : Nat} (h : Off6 (V.drop k) a c) (g : Off6 (V.drop (k + 1)) (c.set (V.getD k 0) u) d) : Off6 (V.drop k) a d := by
 rw [List.drop_eq_getElem_cons hk] at h ⊢
 rw [getD_get hk] at g
 exact (h.trans (off_set (V.drop (k + 1)) c V[k] u)).trans (g.mono (fun x hx => List.mem_cons_of_mem _ hx))
theorem offSet {V : List Nat} {k : Nat} (hk : k < V.length) {a c : List Nat} (u : Nat) (h : Off6 (V.drop k) a c) : Off6 (V.drop (k + 1)) (a.set (V.getD k 0) u) (c.set (V.getD k 0) u) := by
 rw [List.drop_eq_getElem_cons hk] at h
 rw [getD_get hk]
 exact h.set u
structure VSt (VU : World → Prop) (W : World) (B l bv bu yb bs bf g : Nat) (vals : List Nat) : Prop where
 vu : VU W
 cy : W.cell? ⟨yb, 0, none⟩ = some (.func (.yield l) #[] #[])
 cs : W.cell? ⟨bs, 0, none⟩ = some (.slice (some ⟨g, 0, none⟩) 6 6)
 cf : W.cell? ⟨bf, 0, none⟩ = some (.func (.func 168) #[] #[.pointer (some ⟨bv, 0, none⟩), .pointer (some ⟨yb, 0, none⟩), .pointer (some ⟨bs, 0, none⟩), .pointer (some ⟨bu, 0, none⟩), .pointer (some ⟨bf, 0, none⟩)])
 own : OwnI W B (.slice (some ⟨g, 0, none⟩) 6 6) (zs vals)
 len : vals.length = 6
theorem VSt.touch {VU : World → Prop} {W W' : World} {B l bv bu yb bs bf g : Nat} {vals : List Nat} (h : VSt VU W B l bv bu yb bs bf g vals) {S : Nat → Prop} (k : Touch W W' S) (hv : VU W') (h1 : ¬ S yb) (h2 : ¬ S bs) (h3 : ¬ S bf) (h4 : ¬ S g) : VSt VU W' B l bv bu yb bs bf g vals :=
 ⟨hv, by rw [(k.cell (World.block_lt_of_cell? _ _ h.cy) h1).1]; exact h.cy, by rw [(k.cell (World.block_lt_of_cell? _ _ h.cs) h2).1]; exact h.cs, by rw [(k.cell (World.block_lt_of_cell? _ _ h.cf) h3).1]; exact h.cf,
  h.own.touch k (fun i hi => by have : g = i := by simpa [Value.ownBlock] using hi
                                subst this; exact h4), h.len⟩
theorem VSt.store {VU : World → Prop} {W : World} {B l bv bu yb bs bf g : Nat} {vals : List Nat} (h : VSt VU W B l bv bu yb bs bf g vals) (v u : Nat) (hv : v < 6) (h1 : g ≠ yb) (h2 : g ≠ bs) (h3 : g ≠ bf) (hvu : VU (W.setCell ⟨g, v, none⟩ (.int .i64 u))) :
  VSt VU (W.setCell ⟨g, v, none⟩ (.int .i64 u)) B l bv bu yb bs bf g (vals.set v u) ∧ Touch W (W.setCell ⟨g, v, none⟩ (.int .i64 u)) (fun k => k = g) := by
 have hl : v < (zs vals).length := by rw [zs_length, h.len]; exact hv
 have hst := h.own.store v hl (u : Int)
 have ht : Touch W (W.setCell ⟨g, v, none⟩ (.int .i64 u)) (fun k => k = g) := (Touch.grown hst.2).mono (fun k e => by simpa using e)
 refine ⟨⟨hvu, ?_, ?_, ?_, ?_, by simp [h.len]⟩, ht⟩
 ·rw [(ht.cell (World.block_lt_of_cell? _ _ h.cy) (fun e => h1 e.symm)).1]; exact h.cy
 ·rw [(ht.cell (World.block_lt_of_cell? _ _ h.cs) (fun e => h2 e.symm)).1]; exact h.cs
 ·rw [(ht.cell (World.block_lt_of_cell? _ _ h.cf) (fun e => h3 e.symm)).1]; exact h.cf
 ·rw [zs_set]; exact hst.1
theorem enters_val11 : Enters 168 := fun _ _ => by kernel_rfl
set_option maxRecDepth 20000 in
set_option maxHeartbeats 4000000 in
theorem fill11_any (VU J Jx : World → Prop) (S : Nat → Prop) (B l bv bu yb bs bf g M : Nat) (vV vU : Value) (V U : List Nat) (Pt : List Nat → Bool)
  (hVUf : ∀ A, VU A → A.cell? ⟨bv, 0, none⟩ = some vV ∧ A.cell? ⟨bu, 0, none⟩ = some vU ∧ Ints A vV (zs V) ∧ Ints A vU (zs U))
  (hVU : ∀ A C, VU A → Touch A C (fun k => S k ∨ k = l ∨ B ≤ k) → VU C) (hJ : ∀ A C, J A → Touch A C (fun k => B ≤ k) → J C)
  (hY : ∀ vs vv W, J W → Ints W vv (zs vs) → vs.length = 6 → Bnd M vs → YieldAt Fence.wide 5 Tryz.prog l #[vv] W fun e W' => e = .returned (.bool (Pt vs)) ∧ JRes J Jx (Pt vs) W' ∧ Touch W W' (fun k => S k ∨ k = l))
  (hS : ∀ k, S k → k < B) (hl : l < B) (h1 : B ≤ yb) (h2 : B ≤ bs) (h3 : B ≤ bf) (n1 : g ≠ yb) (n2 : g ≠ bs) (n3 : g ≠ bf) (hV : ∀ x ∈ V, x < 6) (hU : ∀ x ∈ U, x < 2 ^ M) :
  ∀ d k vals W, k + d = V.length → VSt VU W B l bv bu yb bs bf g vals → Bnd M vals → J W →
   Calls Tryz.prog 168 #[.int .i64 k, .pointer (some ⟨bv, 0, none⟩), .pointer (some ⟨yb, 0, none⟩), .pointer (some ⟨bs, 0, none⟩), .pointer (some ⟨bu, 0, none⟩), .pointer (some ⟨bf, 0, none⟩)] W
    fun e W' => e = .returned (.bool (vldL Pt U (V.drop k) vals)) ∧ JRes J Jx (vldL Pt U (V.drop k) vals) W' ∧ ∃ vals', Off6 (V.drop k) vals vals' ∧ Bnd M vals' ∧ VSt VU W' B l bv bu yb bs bf g vals' := by
 intro d
 induction d with
 | zero =>
  intro k vals W hk h hb hj
  obtain rfl : k = V.length := by omega
  have hgB := h.own.len g rfl
  have hvl : vldL Pt U (V.drop V.length) vals = Pt vals := by rw [List.drop_length]; rfl
  rw [hvl]
  obtain ⟨fn, tmps, assign, body, hy, hR⟩ := hY vals _ W hj (h.own.ints (by rw [zs_length, h.len]; omega)) h.len hb
  have HVS := hid (fun W' (k : Touch W W' (fun k => S k ∨ k = l)) => h.touch k (hVU _ _ h.vu (k.mono (fun i e => e.elim .inl (fun e => .inr (.inl e))))) (fun e => by rcases e with e | e; (have := hS _ e; omega); omega) (fun e => by rcases e with e | e; (have := hS _ e; omega); omega) (fun e => by rcases e with e | e; (have := hS _ e; omega); omega) (fun e => by rcases e with e | e; (have := hS _ e; omega); omega))
  obtain ⟨c1, c2, r1, r2⟩ := hVUf _ h.vu
  have c3 := h.cy
  have c4 := h.cs
  have HO : Hid (∃ vals', Off6 (V.drop V.length) vals vals' ∧ True) := hid ⟨vals, Off6.refl _ _, trivial⟩
  have HB := hid hb
  obtain ⟨pV, qV, rfl, _⟩ := r1
  rw [zs_length V] at *
  clear hVUf hVU hJ hY hS hV hU h hb hj r2
  generalize V.length = nV at *
  have heq : (((nV : Nat) : Int) == ((nV : Nat) : Int)) = true := by simp
  go_enter Tryz.func168, Tryz.ntmps168
  go_upto_region 2 with (fail)
  refine (wpIn_wide (n := 6)).1 ?_
  gi_wp2
  refine hR.mono ?_; rintro e W' ⟨rfl, hj', ht⟩
  gi_wp2
  go_wp2_with fail
  go_ret
  exact ⟨rfl, hj', vals, Off6.refl _ _, HB.out, HVS.out W' ht⟩
 | succ d ih =>
  intro k vals W hk h hb hj
  have hkl : k < V.length := by omega
  have hgB := h.own.len g rfl
  have IH := hid (fun vals2 W2 (h2 : VSt VU W2 B l bv bu yb bs bf g vals2) (hb2 : Bnd M vals2) (hj2 : J W2) => ih (k + 1) vals2 W2 (by omega) h2 hb2 hj2)
  clear ih
  have hvk : V.getD k 0 < 6 := by rw [getD_get hkl]; exact hV _ (List.getElem_mem hkl)
  have HT := hid (fun (hh : ∀ j, j < U.length → vldL Pt U (V.drop (k + 1)) (vals.set (V.getD k 0) (U.getD j 0)) = true) => vldK_true hkl hh)
  have HF := hid (fun j (hj : j < U.length) (hh : vldL Pt U (V.drop (k + 1)) (vals.set (V.getD k 0) (U.getD j 0)) = false) => vldK_false hkl hj hh)
  have HOK := hid (fun (c d : List Nat) (u : Nat) (a1 : Off6 (V.drop k) vals c) (a2 : Off6 (V.drop (k + 1)) (c.set (V.getD k 0) u) d) => offK hkl a1 a2)
  have HOV := hid (fun (c : List Nat) (u : Nat) (a1 : Off6 (V.drop k) vals c) => vldL_off (P := Pt) (U := U) (offSet hkl u a1))
  have HUB : Hid (∀ j, j < U.length → U.getD j 0 < 2 ^ M) := hid fun j hj => by rw [getD_get hj]; exact hU _ (List.getElem_mem hj)
  have HBS : Hid (∀ (c : List Nat) (u : Nat), Bnd M c → u < 2 ^ M → c.length = 6 → Bnd M (c.set (V.getD k 0) u)) := hid fun c u hc hu hl6 i => by
   have hy := hvk
   generalize V.getD k 0 = y at hy ⊢
   by_cases e : y = i
   ·subst e
    have : (c.set y u).getD y 0 = u := by
     rw [List.getD_eq_getElem?_getD, List.getElem?_set]; simp [hl6, hy]
    rw [this]; exact hu
   ·have : (c.set y u).getD i 0 = c.getD i 0 := by
     rw [List.getD_eq_getElem?_getD, List.getElem?_set_ne e, ← List.getD_eq_getElem?_getD]
    rw [this]; exact hc i
  have HVU := hid hVU
  have HJ := hid hJ
  have HVF : Hid (∀ A, VU A → A.cell? ⟨bv, 0, none⟩ = some vV ∧ A.cell? ⟨bu, 0, none⟩ = some vU) := hid fun A ha => ⟨(hVUf A ha).1, (hVUf A ha).2.1⟩
  have HRV : Hid (∀ A, VU A → ∃ b o, vV = .slice (some ⟨b, o, none⟩) V.length (match vV with | .slice _ _ c => c | _ => 0) ∧ A.cell? ⟨b, o + k, none⟩ = some (.int .i64 ((V.getD k 0 : Nat) : Int))) := hid fun A ha => by
   obtain ⟨p, c, b, o, e, e2, h3⟩ := (hVUf A ha).2.2.1.zs_cellE k hkl
   subst e2; subst e
   exact ⟨b, o, rfl, h3⟩
  have HRU : Hid (∀ A i, VU A → i < U.length → ∃ b o, vU = .slice (some ⟨b, o, none⟩) U.length (match vU with | .slice _ _ c => c | _ => 0) ∧ A.cell? ⟨b, o + i, none⟩ = some (.int .i64 ((U.getD i 0 : Nat) : Int))) := hid fun A i ha hi => by
   obtain ⟨p, c, b, o, e, e2, h3⟩ := (hVUf A ha).2.2.2.zs_cellE i hi
   subst e2; subst e
   exact ⟨b, o, rfl, h3⟩
  obtain ⟨c1, c2, r1, r2⟩ := hVUf _ h.vu
  obtain ⟨pV, qV, rfl, _⟩ := r1
  obtain ⟨pU, qU, rfl, _, hmu, _, _⟩ := r2
  unfold maxLen at hmu
  simp only [] at HRV HRU
  rw [zs_length V] at *
  rw [zs_length U] at *
  have HVAL0 := hid (Off6.refl (V.drop k) vals)
  have hh0 := hid h
  have hj0 := hid hj
  have hb0 := hid hb
  have hne : (((k : Nat) : Int) == ((V.length : Nat) : Int)) = false := by simp; omega
  clear hVUf hVU hJ hY hV hU h hj hb
  obtain ⟨VK, hVK⟩ : ∃ VK : List Nat → Bool, ∀ x, VK x = vldL Pt U (V.drop k) x := ⟨_, fun _ => rfl⟩
  obtain ⟨VN, hVN⟩ : ∃ VN : List Nat → Bool, ∀ x, VN x = vldL Pt U (V.drop (k + 1)) x := ⟨_, fun _ => rfl⟩
  obtain ⟨OK, hOKd⟩ : ∃ OK : List Nat → Prop, ∀ x, OK x = Off6 (V.drop k) vals x := ⟨_, fun _ => rfl⟩
  obtain ⟨ON, hOND⟩ : ∃ ON : List Nat → List Nat → Prop, ∀ x y, ON x y = Off6 (V.drop (k + 1)) x y := ⟨_, fun _ _ => rfl⟩
  obtain ⟨UU, hUU⟩ : ∃ UU : Nat → Nat, ∀ x, UU x = U.getD x 0 := ⟨_, fun _ => rfl⟩
  simp only [← hVK, ← hVN, ← hOKd, ← hOND, ← hUU] at *
  clear hVK hVN hOKd hOND hUU
  generalize V.getD k 0 = x at *
  generalize hLU : U.length = LU at *
  generalize hLV : V.length = LV at *
  have hcf1 : ∀ args w, (callFunc 168 args).run Tryz.prog w = .ok (.enter 168 args) w := enters_val11
  go_enter Tryz.func168, Tryz.ntmps168
  go_wp2_with fail
  clear c1
  go_loopw [19] (fun s19 wr => ∃ i : Nat, i ≤ LU ∧ s19 = .int .i64 i ∧ J wr ∧ Hid (∀ j, j < i → VN (vals.set x (UU j)) = true) ∧ ∃ v2, Hid (OK v2) ∧ Hid (Bnd M v2) ∧ Hid (VSt VU wr B l bv bu yb bs bf g v2)) (fun s19 _ => LU - (intOf s19).toNat)
  case atStart => exact ⟨0, by omega, rfl, hj0.out, hid (fun j h => by omega), vals, HVAL0, hb0, hh0⟩
  case round =>
   obtain ⟨i, hi, rfl, hj, HI, v2, HO2, HB2, HS2⟩ := hrel
   clear hj0 HVAL0 hb0 hh0 c2
   by_cases hlt : i < LU
   ·have hlt' : (i : Int) < LU := by omega
    obtain ⟨c1, c2⟩ := HVF.out wr HS2.out.vu
    obtain ⟨b1, o1, e1, x1⟩ := HRV.out wr HS2.out.vu
    obtain ⟨b2, o2, e2, x2⟩ := HRU.out wr i HS2.out.vu hlt
    have hub := HUB.out i hlt
    generalize hu : UU i = u at *
    have HUI := hid hu; clear hu
    have c4 := HS2.out.cs
    have hd := Touch.of_keeps (Keeps.refl wr).drew (fun _ => False)
    have HSd := HS2.out.touch hd (HVU.out _ _ HS2.out.vu (hd.mono (fun k e => e.elim))) id id id id
    have hjd := HJ.out _ _ hj (hd.mono (fun k e => e.elim))
    have hx6 : (x : Int) < 6 := by omega
    have hlen2 := HS2.out.len
    have hco := HSd.own.cell x (by rw [zs_length, hlen2]; exact hvk)
    obtain ⟨old, ci⟩ : ∃ old, wr.drew.cell? ⟨g, x, none⟩ = some old := ⟨_, hco.1⟩
    have fi := hco.2
    have hstt := (HSd.own.store x (by rw [zs_length, hlen2]; exact hvk) (u : Int)).2
    have htt : Touch wr.drew (wr.drew.setCell ⟨g, x, none⟩ (.int .i64 u)) (fun k => k = g) := (Touch.grown hstt).mono (fun k e => by simpa using e)
    have HS3 := (HSd.store x u hvk n1 n2 n3 (HVU.out _ _ HSd.vu (htt.mono (fun k e => .inr (.inr (by omega)))))).1
    have hj3 := HJ.out _ _ hjd (htt.mono (fun k e => by omega))
    have c5 := HS3.cf
    have HCALL := hid (IH.out _ _ HS3 (HBS.out v2 u HB2.out hub hlen2) hj3)
    have hov := HOV.out v2 u HO2.out
    have hvv : VN (vals.set x u) = VN (v2.set x u) := hov
    rw [← hvv] at HCALL
    have HNX := hid (fun (v3 : List Nat) (a2 : ON (v2.set x u) v3) => HOK.out v2 v3 u HO2.out a2)
    have hkk : ((k + 1 : Nat) : Int) = (k : Int) + 1 := by push_cast; rfl
    rw [hkk] at HCALL
    have HVV : Hid (VN (vals.set x u) = VN (vals.set x (UU i))) := hid (by rw [HUI.out])
    cases e1
    cases e2
    clear hov hvv HS3 HSd hco hstt htt hj hjd hj3 hd hub hlen2
    obtain ⟨w3, hw3⟩ : ∃ w3, w3 = (wr.setCell ⟨g, x, none⟩ (.int .i64 u)).drew := ⟨_, rfl⟩
    have hsw : wr.drew.setCell ⟨g, x, none⟩ (.int .i64 u) = (wr.setCell ⟨g, x, none⟩ (.int .i64 u)).drew := rfl
    rw [hsw, ← hw3] at c5 HCALL
    clear hsw
    have HW3 := hid hw3; clear hw3
    generalize hres : VN (vals.set x u) = res at *
    have HRES := hid hres; clear hres
    go_wp2_with fail
    go_still_tail 7, (by kernel_rfl)
    change wpList _ _ _ _ _ wr.drew
    go_upto_region 7 with (fail)
    rw [← HW3.out]
    cases res
    ·have HR2 := hid (HF.out i hlt (by rw [← HVV.out]))
     go_wp2_with fail
     refine HCALL.out.mono ?_; rintro e w4 ⟨rfl, hj4, v3, ho3, hb3, hs3⟩
     go_wp2_with fail
     go_ret
     exact ⟨ret_bool (by rw [HR2.out]), by rw [HR2.out]; exact hj4, v3, HNX.out v3 ho3, hb3, hs3⟩
    ·go_wp2_with fail
     refine HCALL.out.mono ?_; rintro e w4 ⟨rfl, hj4, v3, ho3, hb3, hs3⟩
     go_wp2_with fail
     go_roundw
     case rel => exact ⟨i + 1, by omega, by go_num, hj4, hid (fun j hj => by
      rcases Nat.lt_or_ge j i with h | h
      ·exact HI.out j h
      ·obtain rfl : j = i := by omega
       rw [← HVV.out]), v3, hid (HNX.out v3 ho3), hid hb3, hid hs3⟩
     case measure => simp [intOf] <;> omega
   ·have e : i = LU := by omega
    subst e
    have hlt' : ¬ (i : Int) < (i : Int) := by omega
    have HR2 := hid (HT.out HI.out)
    go_wp2_with fail
    go_ret
    exact ⟨ret_bool (by rw [HR2.out]), by rw [HR2.out]; exact hj, v2, HO2.out, HB2.out, HS2.out⟩
end Go.Proofs.YtfmmajgkjkmghaaGreatDoor
namespace Go.Proofs.YtfmmajgkjkmghaaGreatDoor
open Go.RowKit
theorem enters_val1 : Enters 167 := fun _ _ => by kernel_rfl
set_option maxRecDepth 20000 in
set_option maxHeartbeats 4000000 in
theorem valuations_1_any (VU J Jx : World → Prop) (S : Nat → Prop) (l bv bu M : Nat) (vV vU : Value) (V U : List Nat) (Pt : List Nat → Bool) (W : World)
  (hVUf : ∀ A, VU A → A.cell? ⟨bv, 0, none⟩ = some vV ∧ A.cell? ⟨bu, 0, none⟩ = some vU ∧ Ints A vV (zs V) ∧ Ints A vU (zs U))
  (hVU : ∀ A C, VU A → Touch A C (fun k => S k ∨ k = l ∨ W.heap.size ≤ k) → VU C) (hJ : ∀ A C, J A → Touch A C (fun k => W.heap.size ≤ k) → J C)
  (hY : ∀ vs vv W, J W → Ints W vv (zs vs) → vs.length = 6 → Bnd M vs → YieldAt Fence.wide 5 Tryz.prog l #[vv] W fun e W' => e = .returned (.bool (Pt vs)) ∧ JRes J Jx (Pt vs) W' ∧ Touch W W' (fun k => S k ∨ k = l))
  (hS : ∀ k, S k → k < W.heap.size) (hl : l < W.heap.size) (hV : ∀ x ∈ V, x < 6) (hU : ∀ x ∈ U, x < 2 ^ M) (h0 : VU W) (hj : J W) :
  Calls Tryz.prog 167 #[.func (.yield l) #[] #[], .pointer (some ⟨bv, 0, none⟩), .pointer (some ⟨bu, 0, none⟩)] W
   fun e W' => (∃ v, e = .returned v) ∧ JRes J Jx (vldL Pt U V (List.replicate 6 0)) W' := by
 have hcf1 : ∀ args w, (callFunc 168 args).run Tryz.prog w = .ok (.enter 168 args) w := enters_val11
 obtain ⟨wm, hmk, hown, km⟩ := run_makeI (W.alloc (.cells #[.func (.yield l) #[] #[]] 78)) 6 (by omega)
 rw [show ((6 : Nat) : Int) = 6 from rfl] at hmk
 have hsz : (W.alloc (.cells #[.func (.yield l) #[] #[]] 78)).heap.size = W.heap.size + 1 := by simp
 have cy : (W.alloc (.cells #[.func (.yield l) #[] #[]] 78)).cell? ⟨W.heap.size, 0, none⟩ = some (.func (.yield l) #[] #[]) := by simp
 rw [hsz] at hmk hown
 have k1 := (Keeps.refl W).alloc (.cells #[.func (.yield l) #[] #[]] 78)
 have hst : ∀ (a : Addr) (f : Fn) (b c : Array Value) (m : Mode) (w' : World), (store a (.func f b c) m).run Tryz.prog w' = stored Tryz.prog w' a (.func f b c) m := fun a f b c m w' => run_store _ w' a _ m rfl
 have KM := hid (k1.trans km)
 have CY := hid (km.cell cy)
 have HOWN := hid hown
 have hgl := (hown.len _ rfl).2
 clear cy hown km k1 hsz
 have hcg : ∀ A : World, ((A.alloc (.cells #[.slice (some ⟨W.heap.size + 1, 0, none⟩) 6 6] 24)).alloc (.cells #[.nilFunc] 150)).cell? ⟨A.heap.size + 1, 0, none⟩ = some .nilFunc := fun A => by simp
 go_enter Tryz.func167, Tryz.ntmps167
 go_wp2_with fail
 have kA := ((Keeps.refl wm).alloc (.cells #[.slice (some ⟨W.heap.size + 1, 0, none⟩) 6 6] 24)).alloc (.cells #[.func (.func 168) #[] #[.pointer (some ⟨bv, 0, none⟩), .pointer (some ⟨W.heap.size, 0, none⟩), .pointer (some ⟨wm.heap.size, 0, none⟩), .pointer (some ⟨bu, 0, none⟩), .pointer (some ⟨wm.heap.size + 1, 0, none⟩)]] 150)
 have kB := KM.out.trans kA
 have hVS : VSt VU ((wm.alloc (.cells #[.slice (some ⟨W.heap.size + 1, 0, none⟩) 6 6] 24)).alloc (.cells #[.func (.func 168) #[] #[.pointer (some ⟨bv, 0, none⟩), .pointer (some ⟨W.heap.size, 0, none⟩), .pointer (some ⟨wm.heap.size, 0, none⟩), .pointer (some ⟨bu, 0, none⟩), .pointer (some ⟨wm.heap.size + 1, 0, none⟩)]] 150))
   W.heap.size l bv bu W.heap.size wm.heap.size (wm.heap.size + 1) (W.heap.size + 1) (List.replicate 6 0) :=
  ⟨hVU _ _ h0 (Touch.of_keeps kB _), kA.cell CY.out, by simp, by simp, by rw [zs_rep]; exact (HOWN.out.keeps kA).mono (by omega), by simp⟩
 have hg := fill11_any VU J Jx S W.heap.size l bv bu W.heap.size wm.heap.size (wm.heap.size + 1) (W.heap.size + 1) M vV vU V U Pt hVUf hVU hJ hY hS hl (by omega) (by omega) (by omega) (by omega) (by omega) (by omega) hV hU V.length 0 _ _ (by omega) hVS
  (fun i => by
   have : (List.replicate 6 0).getD i 0 = 0 := by rw [List.getD_eq_getElem?_getD, List.getElem?_replicate]; split <;> rfl
   rw [this]; exact Nat.two_pow_pos _) (hJ _ _ hj (Touch.of_keeps kB _))
 rw [show ((0 : Nat) : Int) = 0 from rfl, List.drop_zero] at hg
 refine Calls.mono hg ?_
 rintro e w5 ⟨rfl, h5, _⟩
 go_wp2_with fail
 go_end0
 exact ⟨⟨_, rfl⟩, h5⟩
set_option maxRecDepth 20000 in
theorem valuations_any (b : List Nat) (pv vV : Value) (w : World) (hpv : Ints w pv (zs b)) (hb : b.length ≤ 8) (hbm : ∀ x ∈ b, x < 2 ^ b.length) (hvV : ∃ p n c, vV = .slice p n c) :
  Calls Tryz.prog 131 #[.agg #[.int .i64 b.length, pv], vV] w fun e w' => ∃ bv bu vU, e = .returned (.func (.func 167) #[] #[.pointer (some ⟨bv, 0, none⟩), .pointer (some ⟨bu, 0, none⟩)]) ∧
   w.heap.size ≤ bv ∧ w.heap.size ≤ bu ∧ w'.cell? ⟨bv, 0, none⟩ = some vV ∧ w'.cell? ⟨bu, 0, none⟩ = some vU ∧ OwnI w' w.heap.size vU (zs (upL b)) ∧ Keeps w w' := by
 obtain ⟨pn, nn, cn, rfl⟩ := hvV
 have kA := ((Keeps.refl w).alloc (.cells #[.int .i64 b.length, pv] 26)).alloc (.cells #[.slice pn nn cn] 24)
 have cv : ((w.alloc (.cells #[.int .i64 b.length, pv] 26)).alloc (.cells #[.slice pn nn cn] 24)).cell? ⟨w.heap.size + 1, 0, none⟩ = some (.slice pn nn cn) := by simp
 have HU := hid (fun wz (kz : Keeps w wz) => upsets_any b pv wz (hpv.keeps kz) hb hbm)
 have hUL := zs_length (upL b)
 have hul : (upL b).length ≤ 256 := Nat.le_trans (upK_len b _) (two8 hb)
 obtain ⟨pq, cq, rfl, _⟩ := hpv
 rw [zs_length b] at *
 clear hbm
 generalize upL b = U at *
 generalize b.length = n at *
 go_enter Tryz.func131, Tryz.ntmps131
 go_wp2_with fail
 refine (HU.out _ kA).mono ?_; rintro e w2 ⟨vu, rfl, hvu, k2⟩
 have KA := hid (kA.trans k2)
 have CV := hid (k2.cell cv)
 have HVU := hid (hvu.mono kA.size)
 have hsz := k2.size
 obtain ⟨pu, qu, rfl, -, -, -⟩ := At.of_own hvu
 rw [hUL] at *
 clear hvu k2 cv kA
 go_wp2_with fail
 go_ret
 have k3 := (Keeps.refl w2).alloc (.cells #[.slice pu U.length qu] 24)
 exact ⟨w.heap.size + 1, w2.heap.size, _, rfl, by omega, by have := KA.out.size; omega, k3.cell CV.out, by simp, HVU.out.keeps k3, KA.out.trans k3⟩
end Go.Proofs.YtfmmajgkjkmghaaGreatDoor
