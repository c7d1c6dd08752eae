import Derived.Test.YtfmmajgkjkmghaaGreatEVS
import Derived.Test.YtfmmajgkjkmghaaGreatEOM
import Derived.Lib.OwnBridge
import Derived.Sort.OwnSorted
import Derived.Lib.SliceRun
import Derived.Test.YtfmmajgkjkmghaaGreatEOZ
/- The program's forced: the formula is walked from behind over a stack. -/
namespace Go.Proofs.YtfmmajgkjkmghaaGreat
open Go.RowKit
theorem plainL_encP (t : Fm) : plainL t.enc = t.plain := by
 unfold plainL
 induction t with
 | var v => simp [Fm.enc, Fm.plain]
 | fls => simp [Fm.enc, Fm.plain]
 | and a b iha ihb => simp only [Fm.enc, Fm.plain, List.all_cons, List.all_append, iha, ihb]; simp
 | or a b iha ihb => simp only [Fm.enc, Fm.plain, List.all_cons, List.all_append, iha, ihb]; simp
 | imp a b iha ihb => simp only [Fm.enc, Fm.plain, List.all_cons, List.all_append, iha, ihb]; simp
 | box a iha => simp [Fm.enc, Fm.plain]
 | dia a iha => simp [Fm.enc, Fm.plain]
theorem sufF_len (t : Fm) : ∀ d i, i + d = t.enc.length → (sufF t i).length ≤ d
 | 0, i, h => by
  have : i = t.enc.length := by omega
  rw [this, sufF_end]; simp
 | d + 1, i, h => by
  have h1 := sufF_len t d (i + 1) (by omega)
  rcases sufF_step t i (by omega) with ⟨_, v, _, e⟩ | ⟨_, e⟩ | ⟨_, x, y, R, e1, e⟩ | ⟨_, x, y, R, e1, e⟩ | ⟨_, x, y, R, e1, e⟩ | ⟨_, x, R, e1, e⟩ | ⟨_, x, R, e1, e⟩ <;> (rw [e]; try rw [e1] at h1) <;> simp at h1 ⊢ <;> omega
def stkF (b vs : List Nat) (t : Fm) (i : Nat) : List Nat := ((sufF t i).map (frcP b vs)).reverse
theorem stkF_len (b vs : List Nat) (t : Fm) (i : Nat) (h : i ≤ t.enc.length) : (stkF b vs t i).length ≤ t.enc.length - i := by
 have := sufF_len t (t.enc.length - i) i (by omega)
 simp [stkF]; omega
theorem stkF_end (b vs : List Nat) (t : Fm) : stkF b vs t t.enc.length = [] := by simp [stkF, sufF_end]
theorem stkF_zero (b vs : List Nat) (t : Fm) : stkF b vs t 0 = [frcP b vs t] := by simp [stkF, sufF_zero]
def NodeS (b vs : List Nat) (n : Nd) (S T : List Nat) : Prop :=
 (n.k = 0 ∧ ∃ v : Nat, v < 6 ∧ n.s = v ∧ T = S ++ [vs.getD v 0]) ∨ (n.k = 1 ∧ T = S ++ [0]) ∨
 (n.k = 2 ∧ ∃ x y R, S = (R ++ [y]) ++ [x] ∧ T = R ++ [x &&& y] ∧ x < 2 ^ b.length ∧ y < 2 ^ b.length) ∨
 (n.k = 3 ∧ ∃ x y R, S = (R ++ [y]) ++ [x] ∧ T = R ++ [x ||| y] ∧ x < 2 ^ b.length ∧ y < 2 ^ b.length) ∨
 (n.k = 4 ∧ ∃ x y R, S = (R ++ [y]) ++ [x] ∧ T = R ++ [impB b x y] ∧ x < 2 ^ b.length ∧ y < 2 ^ b.length)
theorem stkF_step {b vs : List Nat} (hvs : Bnd b.length vs) {t : Fm} (hw : t.wf) (hp : t.plain = true) (i : Nat) (hi : i < t.enc.length) : NodeS b vs (t.enc.getD i ⟨0, 0⟩) (stkF b vs t (i + 1)) (stkF b vs t i) := by
 have hx : t.enc.getD i ⟨0, 0⟩ = t.enc[i] := by simp [List.getD_eq_getElem?_getD, hi]
 have hm : t.enc[i] ∈ t.enc := List.getElem_mem hi
 have hok := okNd_enc hw _ hm
 have hpl : plainL t.enc = true := by rw [plainL_encP]; exact hp
 have hb : t.enc[i].k ≠ 5 ∧ t.enc[i].k ≠ 6 := by
  unfold plainL at hpl
  have := List.all_eq_true.1 hpl _ hm
  simpa using this
 rw [← hx] at hok hb
 have hsf := sufF_step t i hi
 clear hx hm hpl
 generalize t.enc.getD i ⟨0, 0⟩ = n at *
 have hl := frcP_lt hvs
 unfold stkF
 rcases hsf with ⟨h, v, e, e2⟩ | ⟨h, e2⟩ | ⟨h, x, y, S, e1, e2⟩ | ⟨h, x, y, S, e1, e2⟩ | ⟨h, x, y, S, e1, e2⟩ | ⟨h, x, S, e1, e2⟩ | ⟨h, x, S, e1, e2⟩
 ·refine .inl ⟨h, v, ?_, e, ?_⟩
  ·unfold okNd at hok
   rw [if_pos h] at hok
   have := of_decide_eq_true hok
   omega
  ·rw [e2]; simp [frcP]
 ·exact .inr (.inl ⟨h, by rw [e2]; simp [frcP]⟩)
 ·exact .inr (.inr (.inl ⟨h, frcP b vs x, frcP b vs y, (S.map (frcP b vs)).reverse, by rw [e1]; simp, by rw [e2]; simp [frcP], hl x, hl y⟩))
 ·exact .inr (.inr (.inr (.inl ⟨h, frcP b vs x, frcP b vs y, (S.map (frcP b vs)).reverse, by rw [e1]; simp, by rw [e2]; simp [frcP], hl x, hl y⟩)))
 ·exact .inr (.inr (.inr (.inr ⟨h, frcP b vs x, frcP b vs y, (S.map (frcP b vs)).reverse, by rw [e1]; simp, by rw [e2]; simp [frcP], hl x, hl y⟩)))
 ·exact absurd h hb.1
 ·exact absurd h hb.2
theorem Ints.zs_cellE {w : World} {v : Value} {l : List Nat} (h : Ints w v (zs l)) (i : Nat) (hi : i < l.length) : ∃ p cap b o, v = .slice p l.length cap ∧ p = some ⟨b, o, none⟩ ∧ w.cell? ⟨b, o + i, none⟩ = some (.int .i64 ((l.getD i 0 : Nat) : Int)) := by
 obtain ⟨p, cap, e, _⟩ := id h
 rw [e] at h
 obtain ⟨b, o, h1, h2⟩ := h.zs_cell i hi
 exact ⟨p, cap, b, o, by rw [e, zs_length], h1, h2⟩
set_option maxRecDepth 20000 in
set_option maxHeartbeats 4000000 in
theorem forced_any (b vs : List Nat) (hb : b.length ≤ 8) (hbm : Bnd b.length b) (hvs : Bnd b.length vs) (h6 : vs.length = 6) (t : Fm) (hw : t.wf) (hp : t.plain = true) (hN : t.enc.length ≤ 1000000) (pv vv v : Value) (w : World)
  (hpv : Ints w pv (zs b)) (hvv : Ints w vv (zs vs)) (hv : Nds w v t.enc) :
  Calls Tryz.prog 45 #[.agg #[.int .i64 b.length, pv], vv, v] w fun e w' => e = .returned (.int .i64 (frcP b vs t)) ∧ Keeps w w' := by
 have HIM := hid (fun x y wz (kz : Keeps w wz) (hx : x < 2 ^ b.length) (hy : y < 2 ^ b.length) => imply_any b x y pv wz (hpv.keeps kz) hb hbm hx hy)
 have HST := hid (fun i hi => stkF_step (b := b) hvs hw hp i hi)
 have HSL := hid (stkF_len b vs t)
 have HSE := hid (stkF_end b vs t)
 have HS0 := hid (stkF_zero b vs t)
 have hpos := Fm.enc_pos t
 have h256 := two8 hb
 have HV := hid (fun i (hi : i < 6) wz (kz : Keeps w wz) => (hvv.keeps kz).zs_cellE i (show i < vs.length by omega))
 obtain ⟨pn, cn, rfl, hnl, hnm, hna, hn2⟩ := hv
 have HND := hid (fun i (hi : i < t.enc.length) wz (kz : Keeps w wz) => (hna.keeps kz).nd i hi)
 have hG : Hid (∀ i (hi : i < t.enc.length), t.enc.getD i ⟨0, 0⟩ = t.enc[i]) := hid (fun i hi => by simp [List.getD_eq_getElem?_getD, hi])
 obtain ⟨pq, cq, rfl, _⟩ := hpv
 obtain ⟨pp, cap2, rfl, _, hmx2, _, _⟩ := hvv
 have HVC : Hid (∀ i, i < 6 → ∀ wz, Keeps w wz → ∃ b1 o1, pp = some ⟨b1, o1, none⟩ ∧ wz.cell? ⟨b1, o1 + i, none⟩ = some (.int .i64 ((vs.getD i 0 : Nat) : Int))) := hid fun i hi wz kz => by
  obtain ⟨p', c', b1, o1, e, e2, e3⟩ := HV.out i hi wz kz
  have e4 : pp = p' := by injection e
  rw [e4]
  exact ⟨b1, o1, e2, e3⟩
 clear HV
 unfold maxLen at hnm hmx2
 rw [zs_length b] at *
 rw [zs_length vs] at *
 simp only [h6] at *
 clear hbm hvs hw hp hna h6
 obtain ⟨Nf, hNf⟩ : ∃ Nf : Nat → Nd, ∀ i, Nf i = t.enc.getD i ⟨0, 0⟩ := ⟨_, fun _ => rfl⟩
 have HND2 : Hid (∀ i, i < t.enc.length → ∀ wz, Keeps w wz → ∃ b0 off, pn = some ⟨b0, off, none⟩ ∧ wz.cell? ⟨b0, off + i * 2, none⟩ = some (.int .i64 (Nf i).k) ∧ wz.cell? ⟨b0, off + i * 2 + 1, none⟩ = some (.int .i64 (Nf i).s)) := hid fun i hi wz kz => by
  rw [hNf, hG.out i hi]; exact HND.out i hi wz kz
 clear HND hG
 simp only [← hNf] at HST
 clear hNf
 unfold NodeS at HST
 obtain ⟨SK, hSK⟩ : ∃ SK : Nat → List Nat, ∀ i, SK i = stkF b vs t i := ⟨_, fun _ => rfl⟩
 obtain ⟨VV, hVV⟩ : ∃ VV : Nat → Nat, ∀ i, VV i = vs.getD i 0 := ⟨_, fun _ => rfl⟩
 obtain ⟨IM, hIM⟩ : ∃ IM : Nat → Nat → Nat, ∀ x y, IM x y = impB b x y := ⟨_, fun _ _ => rfl⟩
 simp only [← hSK, ← hVV, ← hIM] at *
 clear hSK hVV hIM
 generalize frcP b vs t = r at *
 generalize t.enc.length = N at *
 generalize 2 ^ b.length = M at *
 generalize b.length = n at *
 clear hb
 have hcf1 : ∀ args w, (callFunc 101 args).run Tryz.prog w = .ok (.enter 101 args) w := enters_forced1
 have HF0 : Hid (FSt w ((w.alloc (.cells #[.int .i64 n, .slice pq n cq] 31)).alloc (.cells #[.slice none 0 0] 29)) w.heap.size (w.heap.size + 1) n (.slice pq n cq) (SK N) (.slice none 0 0)) := hid (by
  rw [HSE.out]
  exact ⟨((Keeps.refl w).alloc _).alloc _, by simp, by simp, by simp, by simp, OwnI.nil _ _⟩)
 go_enter Tryz.func45, Tryz.ntmps45
 go_wp2_with fail
 obtain ⟨bp, hbp⟩ : ∃ bp, bp = w.heap.size := ⟨_, rfl⟩
 have hb0 : w.heap.size ≤ bp := Nat.le_of_eq hbp.symm
 have HF1 := HF0.out
 rw [← hbp] at HF1 ⊢
 have HF2 := hid HF1
 clear HF1 HF0 hbp
 go_loopw [9] (fun s9 wr => ∃ j : Nat, j ≤ N ∧ s9 = .int .i64 ((j : Int) - 1) ∧ ∃ vS, FSt w wr bp (bp + 1) n (.slice pq n cq) (SK j) vS) (fun s9 _ => (intOf s9 + 1).toNat)
 case atStart => exact ⟨N, by omega, by go_num, _, HF2.out⟩
 case round =>
  obtain ⟨j, hj, rfl, vS, hst⟩ := hrel
  cases j with
  | zero =>
   rw [HS0.out] at hst
   obtain ⟨g, cap, rfl, hbg, hg, hlc, hmx⟩ := hst.own.shape (by simp [zs])
   have hcell := (hst.own.zcell (l := [r]) 0 (by simp)).1
   have hcs := hst.cs
   have hkp := hst.kp
   have hz1 : (zs [r]).length = 1 := by simp [zs]
   rw [hz1] at hcs hlc
   simp only [List.getD_cons_zero] at hcell
   clear hz1 hg hbg
   have hm1 : ((0 : Nat) : Int) - 1 = -1 := rfl
   clear hst
   go_wp2_with fail
   go_ret
   exact ⟨rfl, hkp⟩
  | succ i =>
   have hi1 : ((i + 1 : Nat) : Int) - 1 = (i : Int) := by omega
   rw [hi1]
   have hkp := hst.kp
   obtain ⟨b0, off, rfl, n0, n1⟩ := HND2.out i (by omega) wr hkp
   have hlt : (i : Int) < N := by omega
   have hge : (0 : Int) ≤ i := by omega
   have hsl := HSL.out (i + 1) hj
   have hsl0 := HSL.out i (by omega)
   have hSt := HST.out i (by omega)
   generalize (Nf i).k = kk at *
   generalize (Nf i).s = ss at *
   generalize SK (i + 1) = S1 at *
   have HMEAS : Hid (((i : Int)).toNat < ((i : Int) + 1).toNat) := hid (by omega)
   rcases hSt with ⟨rfl, p, hp6, rfl, hT⟩ | ⟨rfl, hT⟩ | ⟨rfl, x, y, R, hS, hT, hx, hy⟩ | ⟨rfl, x, y, R, hS, hT, hx, hy⟩ | ⟨rfl, x, y, R, hS, hT, hx, hy⟩
   ·-- variable
    obtain ⟨b1, o1, e1, hc⟩ := HVC.out p hp6 wr hkp
    subst e1
    have hp6' : (p : Int) < 6 := by omega
    have hown := hst.own
    have hcs := hst.cs
    have hlt2 : bp + 1 < wr.heap.size := World.block_lt_of_cell? _ _ hcs
    have hzl := zs_length S1
    have kA := (Keeps.refl wr).alloc (.cells #[.int .i64 ((VV p : Nat))] 2)
    have HPU := hid (fun w1 v1 (hg : (wr.alloc (.cells #[.int .i64 ((VV p : Nat))] 2)).grownBy w1 vS.ownBlock) (hr : ∀ k, vS.ownBlock = some k → bp + 1 + 1 ≤ k) (hv : OwnI w1 (bp + 1 + 1) v1 (zs (S1 ++ [VV p]))) => (hst.keeps kA).push (st2 := S1 ++ [VV p]) hb0 (by omega) hg hr hv)
    have hcs2 : ∀ w1, (wr.alloc (.cells #[.int .i64 ((VV p : Nat))] 2)).grownBy w1 vS.ownBlock → (∀ k, vS.ownBlock = some k → bp + 1 + 1 ≤ k) → w1.cell? ⟨bp + 1, 0, none⟩ = some vS ∧ w1.frozen? ⟨bp + 1, 0, none⟩ = false := fun w1 hg hr => by
     have h := cell_row (kA.cell hcs) hg (fun r e => by have := hr r e; omega)
     exact ⟨h.1, by rw [h.2]; exact (hst.keeps kA).fs⟩
    have HCS2 := hid hcs2; clear hcs2
    have hlenst : S1.length ≤ 1000000 := by omega
    obtain ⟨p2, c2, rfl, -, -, -⟩ := At.of_own hown
    rw [hzl] at hown hcs HPU HCS2
    have HZ2 : Hid (∀ z : Int, (zs S1 ++ [z]).length = S1.length + 1) := hid (fun z => by rw [List.length_append, hzl]; rfl)
    have HST2 := hid hst
    clear hst hsl0
    generalize VV p = x at *
    go_wp2_with (at_builtin; refine appI rfl _ _ rfl (bp + 1 + 1) _ (zs S1) rfl (hown.keeps kA) _ [((x : Nat) : Int)] rfl (Ints.lit1 wr _) (by simp; omega) (by rw [hzl]; simp; omega) ?_; intro v1 w1 hv1 hg1 hr1; obtain ⟨g1, g2⟩ := HCS2.out w1 hg1 hr1; have HP1 := hid (HPU.out w1 v1 hg1 hr1 (by rw [zs_snoc]; exact hv1)); obtain ⟨p3, c3, rfl, -, -, -⟩ := At.of_own hv1)
    go_roundw
    case rel => exact ⟨i, by omega, by go_num, _, by rw [hT]; have h := HP1.out; rw [HZ2.out] at h; exact h⟩
    case measure => simp [intOf] <;> omega
   ·-- falsum
    have hown := hst.own
    have hcs := hst.cs
    have hlt2 : bp + 1 < wr.heap.size := World.block_lt_of_cell? _ _ hcs
    have hzl := zs_length S1
    have kA := (Keeps.refl wr).alloc (.cells #[.int .i64 (0)] 2)
    have HPU := hid (fun w1 v1 (hg : (wr.alloc (.cells #[.int .i64 (0)] 2)).grownBy w1 vS.ownBlock) (hr : ∀ k, vS.ownBlock = some k → bp + 1 + 1 ≤ k) (hv : OwnI w1 (bp + 1 + 1) v1 (zs (S1 ++ [0]))) => (hst.keeps kA).push (st2 := S1 ++ [0]) hb0 (by omega) hg hr hv)
    have hcs2 : ∀ w1, (wr.alloc (.cells #[.int .i64 (0)] 2)).grownBy w1 vS.ownBlock → (∀ k, vS.ownBlock = some k → bp + 1 + 1 ≤ k) → w1.cell? ⟨bp + 1, 0, none⟩ = some vS ∧ w1.frozen? ⟨bp + 1, 0, none⟩ = false := fun w1 hg hr => by
     have h := cell_row (kA.cell hcs) hg (fun r e => by have := hr r e; omega)
     exact ⟨h.1, by rw [h.2]; exact (hst.keeps kA).fs⟩
    have HCS2 := hid hcs2; clear hcs2
    have hlenst : S1.length ≤ 1000000 := by omega
    obtain ⟨p2, c2, rfl, -, -, -⟩ := At.of_own hown
    rw [hzl] at hown hcs HPU HCS2
    have HZ2 : Hid (∀ z : Int, (zs S1 ++ [z]).length = S1.length + 1) := hid (fun z => by rw [List.length_append, hzl]; rfl)
    have HST2 := hid hst
    clear hst hsl0
    go_wp2_with (at_builtin; refine appI rfl _ _ rfl (bp + 1 + 1) _ (zs S1) rfl (hown.keeps kA) _ [(0 : Int)] rfl (Ints.lit1 wr _) (by simp; omega) (by rw [hzl]; simp; omega) ?_; intro v1 w1 hv1 hg1 hr1; obtain ⟨g1, g2⟩ := HCS2.out w1 hg1 hr1; have HP1 := hid (HPU.out w1 v1 hg1 hr1 (by rw [zs_snoc]; exact hv1)); obtain ⟨p3, c3, rfl, -, -, -⟩ := At.of_own hv1)
    go_roundw
    case rel => exact ⟨i, by omega, by go_num, _, by rw [hT]; have h := HP1.out; rw [HZ2.out] at h; exact h⟩
    case measure => simp [intOf] <;> omega
   ·-- and
    subst hS
    have hlS : R.length ≤ 1000000 := by simp at hsl; omega
    have HC1 := hid (forced_1_any w wr bp (bp + 1) n (.slice pq n cq) (R ++ [y]) x vS hst hb0 (by omega) (by simp at hsl ⊢; omega))
    have HC2 := hid (fun wz vz (hz : FSt w wz bp (bp + 1) n (.slice pq n cq) (R ++ [y]) vz) => forced_1_any w wz bp (bp + 1) n (.slice pq n cq) R y vz hz hb0 (by omega) hlS)
    have hval := andN x y (by omega) (by omega)
    have HVAL := hid hval; clear hval
    clear hst
    go_wp2_with fail
    refine HC1.out.mono ?_; rintro e w2 ⟨rfl, v2, h2⟩
    go_wp2_with fail
    refine (HC2.out _ _ h2).mono ?_; rintro e w3 ⟨rfl, v3, h3⟩
    have hown := h3.own
    have hcs := h3.cs
    have hlt2 : bp + 1 < w3.heap.size := World.block_lt_of_cell? _ _ hcs
    have hzl := zs_length R
    have kA := (Keeps.refl w3).alloc (.cells #[.int .i64 (bits .and .i64 (x : Int) (y : Int))] 2)
    have HPU := hid (fun w1 v1 (hg : (w3.alloc (.cells #[.int .i64 (bits .and .i64 (x : Int) (y : Int))] 2)).grownBy w1 v3.ownBlock) (hr : ∀ k, v3.ownBlock = some k → bp + 1 + 1 ≤ k) (hv : OwnI w1 (bp + 1 + 1) v1 (zs (R ++ [x &&& y]))) => (h3.keeps kA).push (st2 := R ++ [x &&& y]) hb0 (by omega) hg hr hv)
    have hcs2 : ∀ w1, (w3.alloc (.cells #[.int .i64 (bits .and .i64 (x : Int) (y : Int))] 2)).grownBy w1 v3.ownBlock → (∀ k, v3.ownBlock = some k → bp + 1 + 1 ≤ k) → w1.cell? ⟨bp + 1, 0, none⟩ = some v3 ∧ w1.frozen? ⟨bp + 1, 0, none⟩ = false := fun w1 hg hr => by
     have h := cell_row (kA.cell hcs) hg (fun r e => by have := hr r e; omega)
     exact ⟨h.1, by rw [h.2]; exact (h3.keeps kA).fs⟩
    have HCS2 := hid hcs2; clear hcs2
    have hlenst : R.length ≤ 1000000 := by exact hlS
    obtain ⟨p2, c2, rfl, -, -, -⟩ := At.of_own hown
    rw [hzl] at hown hcs HPU HCS2
    have HZ2 : Hid (∀ z : Int, (zs R ++ [z]).length = R.length + 1) := hid (fun z => by rw [List.length_append, hzl]; rfl)
    clear hsl hsl0 hlS
    go_wp2_with (at_builtin; refine appI rfl _ _ rfl (bp + 1 + 1) _ (zs R) rfl (hown.keeps kA) _ [bits .and .i64 (x : Int) (y : Int)] rfl (Ints.lit1 w3 _) (by simp; omega) (by rw [hzl]; simp; omega) ?_; intro v1 w1 hv1 hg1 hr1; obtain ⟨g1, g2⟩ := HCS2.out w1 hg1 hr1; have HP1 := hid (HPU.out w1 v1 hg1 hr1 (by rw [zs_snoc, ← HVAL.out]; exact hv1)); obtain ⟨p3, c3, rfl, -, -, -⟩ := At.of_own hv1)
    go_roundw
    case rel => exact ⟨i, by omega, by go_num, _, by rw [hT]; have h := HP1.out; rw [HZ2.out] at h; exact h⟩
    case measure => simp [intOf] <;> omega
   ·-- or
    subst hS
    have hlS : R.length ≤ 1000000 := by simp at hsl; omega
    have HC1 := hid (forced_1_any w wr bp (bp + 1) n (.slice pq n cq) (R ++ [y]) x vS hst hb0 (by omega) (by simp at hsl ⊢; omega))
    have HC2 := hid (fun wz vz (hz : FSt w wz bp (bp + 1) n (.slice pq n cq) (R ++ [y]) vz) => forced_1_any w wz bp (bp + 1) n (.slice pq n cq) R y vz hz hb0 (by omega) hlS)
    have hval := orN x y (by omega) (by omega)
    have HVAL := hid hval; clear hval
    clear hst
    go_wp2_with fail
    refine HC1.out.mono ?_; rintro e w2 ⟨rfl, v2, h2⟩
    go_wp2_with fail
    refine (HC2.out _ _ h2).mono ?_; rintro e w3 ⟨rfl, v3, h3⟩
    have hown := h3.own
    have hcs := h3.cs
    have hlt2 : bp + 1 < w3.heap.size := World.block_lt_of_cell? _ _ hcs
    have hzl := zs_length R
    have kA := (Keeps.refl w3).alloc (.cells #[.int .i64 (bits .or .i64 (x : Int) (y : Int))] 2)
    have HPU := hid (fun w1 v1 (hg : (w3.alloc (.cells #[.int .i64 (bits .or .i64 (x : Int) (y : Int))] 2)).grownBy w1 v3.ownBlock) (hr : ∀ k, v3.ownBlock = some k → bp + 1 + 1 ≤ k) (hv : OwnI w1 (bp + 1 + 1) v1 (zs (R ++ [x ||| y]))) => (h3.keeps kA).push (st2 := R ++ [x ||| y]) hb0 (by omega) hg hr hv)
    have hcs2 : ∀ w1, (w3.alloc (.cells #[.int .i64 (bits .or .i64 (x : Int) (y : Int))] 2)).grownBy w1 v3.ownBlock → (∀ k, v3.ownBlock = some k → bp + 1 + 1 ≤ k) → w1.cell? ⟨bp + 1, 0, none⟩ = some v3 ∧ w1.frozen? ⟨bp + 1, 0, none⟩ = false := fun w1 hg hr => by
     have h := cell_row (kA.cell hcs) hg (fun r e => by have := hr r e; omega)
     exact ⟨h.1, by rw [h.2]; exact (h3.keeps kA).fs⟩
    have HCS2 := hid hcs2; clear hcs2
    have hlenst : R.length ≤ 1000000 := by exact hlS
    obtain ⟨p2, c2, rfl, -, -, -⟩ := At.of_own hown
    rw [hzl] at hown hcs HPU HCS2
    have HZ2 : Hid (∀ z : Int, (zs R ++ [z]).length = R.length + 1) := hid (fun z => by rw [List.length_append, hzl]; rfl)
    clear hsl hsl0 hlS
    go_wp2_with (at_builtin; refine appI rfl _ _ rfl (bp + 1 + 1) _ (zs R) rfl (hown.keeps kA) _ [bits .or .i64 (x : Int) (y : Int)] rfl (Ints.lit1 w3 _) (by simp; omega) (by rw [hzl]; simp; omega) ?_; intro v1 w1 hv1 hg1 hr1; obtain ⟨g1, g2⟩ := HCS2.out w1 hg1 hr1; have HP1 := hid (HPU.out w1 v1 hg1 hr1 (by rw [zs_snoc, ← HVAL.out]; exact hv1)); obtain ⟨p3, c3, rfl, -, -, -⟩ := At.of_own hv1)
    go_roundw
    case rel => exact ⟨i, by omega, by go_num, _, by rw [hT]; have h := HP1.out; rw [HZ2.out] at h; exact h⟩
    case measure => simp [intOf] <;> omega
   ·-- imp
    subst hS
    have hlS : R.length ≤ 1000000 := by simp at hsl; omega
    have HC1 := hid (forced_1_any w wr bp (bp + 1) n (.slice pq n cq) (R ++ [y]) x vS hst hb0 (by omega) (by simp at hsl ⊢; omega))
    have HC2 := hid (fun wz vz (hz : FSt w wz bp (bp + 1) n (.slice pq n cq) (R ++ [y]) vz) => forced_1_any w wz bp (bp + 1) n (.slice pq n cq) R y vz hz hb0 (by omega) hlS)
    have HI2 := hid (fun wz (kz : Keeps w wz) => HIM.out x y wz kz hx hy)
    clear hst
    go_wp2_with fail
    refine HC1.out.mono ?_; rintro e w2 ⟨rfl, v2, h2⟩
    have HD2 := hid (h2.keeps (Keeps.refl w2).drew)
    have e0 := h2.c0
    have e1 := h2.c1
    have f0 := HD2.out.c0
    have f1 := HD2.out.c1
    go_wp2_with fail
    go_region_held3 (fun w' => w'.cell? ⟨bp, 0, none⟩ = some (.int .i64 n) ∧ w'.cell? ⟨bp, 1, none⟩ = some (.slice pq n cq)) (first | exact ⟨e0, e1⟩ | exact ⟨f0, f1⟩ | exact ⟨q0, q1⟩ | exact ⟨u0, u1⟩) (first
     | (go_at_call 101; refine (HC2.out _ _ HD2.out).mono ?_; rintro e w3 ⟨rfl, v3, h3⟩; have q0 := h3.c0; have q1 := h3.c1; have qk := h3.kp)
     | (go_at_call 102; refine (HI2.out _ qk).mono ?_; rintro e w4 ⟨rfl, k4⟩; have u0 := k4.cell q0; have u1 := k4.cell q1; have h4 := h3.keeps k4))
    have hown := h4.own
    have hcs := h4.cs
    have hlt2 : bp + 1 < w4.heap.size := World.block_lt_of_cell? _ _ hcs
    have hzl := zs_length R
    have kA := (Keeps.refl w4).alloc (.cells #[.int .i64 (((IM x y : Nat) : Int))] 2)
    have HPU := hid (fun w1 v1 (hg : (w4.alloc (.cells #[.int .i64 (((IM x y : Nat) : Int))] 2)).grownBy w1 v3.ownBlock) (hr : ∀ k, v3.ownBlock = some k → bp + 1 + 1 ≤ k) (hv : OwnI w1 (bp + 1 + 1) v1 (zs (R ++ [IM x y]))) => (h4.keeps kA).push (st2 := R ++ [IM x y]) hb0 (by omega) hg hr hv)
    have hcs2 : ∀ w1, (w4.alloc (.cells #[.int .i64 (((IM x y : Nat) : Int))] 2)).grownBy w1 v3.ownBlock → (∀ k, v3.ownBlock = some k → bp + 1 + 1 ≤ k) → w1.cell? ⟨bp + 1, 0, none⟩ = some v3 ∧ w1.frozen? ⟨bp + 1, 0, none⟩ = false := fun w1 hg hr => by
     have h := cell_row (kA.cell hcs) hg (fun r e => by have := hr r e; omega)
     exact ⟨h.1, by rw [h.2]; exact (h4.keeps kA).fs⟩
    have HCS2 := hid hcs2; clear hcs2
    have hlenst : R.length ≤ 1000000 := by exact hlS
    obtain ⟨p2, c2, rfl, -, -, -⟩ := At.of_own hown
    rw [hzl] at hown hcs HPU HCS2
    have HZ2 : Hid (∀ z : Int, (zs R ++ [z]).length = R.length + 1) := hid (fun z => by rw [List.length_append, hzl]; rfl)
    clear hsl hsl0 hlS
    generalize IM x y = z at *
    go_wp2_with (at_builtin; refine appI rfl _ _ rfl (bp + 1 + 1) _ (zs R) rfl (hown.keeps kA) _ [((z : Nat) : Int)] rfl (Ints.lit1 w4 _) (by simp; omega) (by rw [hzl]; simp; omega) ?_; intro v1 w1 hv1 hg1 hr1; obtain ⟨g1, g2⟩ := HCS2.out w1 hg1 hr1; have HP1 := hid (HPU.out w1 v1 hg1 hr1 (by rw [zs_snoc]; exact hv1)); obtain ⟨p3, c3, rfl, -, -, -⟩ := At.of_own hv1)
    go_roundw
    case rel => exact ⟨i, by omega, by go_num, _, by rw [hT]; have h := HP1.out; rw [HZ2.out] at h; exact h⟩
    case measure => simp [intOf] <;> omega
end Go.Proofs.YtfmmajgkjkmghaaGreat
namespace Go.Proofs.YtfmmajgkjkmghaaGreat
open Go.RowKit
end Go.Proofs.YtfmmajgkjkmghaaGreat
namespace Go.Proofs.YtfmmajgkjkmghaaGreat
open Go.RowKit
end Go.Proofs.YtfmmajgkjkmghaaGreat
