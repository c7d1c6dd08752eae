import Derived.Test.YtfmmajgkjkmghaaGreatHHD
import Derived.Test.YtfmmajgkjkmghaaGreatHQN
import Derived.Test.YtfmmajgkjkmghaaGreatHPD
import Derived.Test.YtfmmajgkjkmghaaGreatHTU
/- The program's truth set: the formula is walked from behind over a stack. -/
namespace Go.Proofs.YtfmmajgkjkmghaaGreat
open Go.RowKit
def stkT (b vs : List Nat) (t : Fm) (i : Nat) : List Nat := ((sufF t i).map (trB b vs)).reverse
theorem stkT_len (b vs : List Nat) (t : Fm) (i : Nat) (h : i ≤ t.enc.length) : (stkT b vs t i).length ≤ t.enc.length - i := by
 have := sufF_len t (t.enc.length - i) i (by omega)
 simp [stkT]; omega
theorem stkT_end (b vs : List Nat) (t : Fm) : stkT b vs t t.enc.length = [] := by simp [stkT, sufF_end]
theorem stkT_zero (b vs : List Nat) (t : Fm) : stkT b vs t 0 = [trB b vs t] := by simp [stkT, sufF_zero]
def offM (n m : Nat) : Nat := (2 ^ n - 1) ^^^ ((2 ^ n - 1) &&& m)
theorem offM_lt (n m : Nat) : offM n m < 2 ^ n := off_lt n m
def NodeT (b vs : List Nat) (n : Nd) (S T : List Nat) : Prop :=
 (n.k = 0 ∧ ∃ v : Nat, v < 6 ∧ n.s = v ∧ T = S ++ [vs.getD v 0]) ∨ (n.k = 1 ∧ T = S ++ [0]) ∨
 (n.k = 2 ∧ ∃ x y R, S = (R ++ [y]) ++ [x] ∧ T = R ++ [x &&& y] ∧ x < 2 ^ b.length ∧ y < 2 ^ b.length) ∨
 (n.k = 3 ∧ ∃ x y R, S = (R ++ [y]) ++ [x] ∧ T = R ++ [x ||| y] ∧ x < 2 ^ b.length ∧ y < 2 ^ b.length) ∨
 (n.k = 4 ∧ ∃ x y R, S = (R ++ [y]) ++ [x] ∧ T = R ++ [offM b.length x ||| y] ∧ x < 2 ^ b.length ∧ y < 2 ^ b.length) ∨
 (n.k = 5 ∧ ∃ x R, S = R ++ [x] ∧ T = R ++ [boxB b x b.length] ∧ x < 2 ^ b.length) ∨
 (n.k = 6 ∧ ∃ x R, S = R ++ [x] ∧ T = R ++ [offM b.length (boxB b (offM b.length x) b.length)] ∧ x < 2 ^ b.length)
theorem stkT_step {b vs : List Nat} (hvs : Bnd b.length vs) {t : Fm} (hw : t.wf) (i : Nat) (hi : i < t.enc.length) : NodeT b vs (t.enc.getD i ⟨0, 0⟩) (stkT b vs t (i + 1)) (stkT b vs t i) := by
 have hx : t.enc.getD i ⟨0, 0⟩ = t.enc[i] := by simp [List.getD_eq_getElem?_getD, hi]
 have hm : t.enc[i] ∈ t.enc := List.getElem_mem hi
 have hok := okNd_enc hw _ hm
 rw [← hx] at hok
 have hsf := sufF_step t i hi
 clear hx hm
 generalize t.enc.getD i ⟨0, 0⟩ = n at *
 have hl := trB_lt hvs
 unfold stkT
 rcases hsf with ⟨h, v, e, e2⟩ | ⟨h, e2⟩ | ⟨h, x, y, S, e1, e2⟩ | ⟨h, x, y, S, e1, e2⟩ | ⟨h, x, y, S, e1, e2⟩ | ⟨h, x, S, e1, e2⟩ | ⟨h, x, S, e1, e2⟩
 ·refine .inl ⟨h, v, ?_, e, ?_⟩
  ·unfold okNd at hok
   rw [if_pos h] at hok
   have := of_decide_eq_true hok
   omega
  ·rw [e2]; simp [trB]
 ·exact .inr (.inl ⟨h, by rw [e2]; simp [trB]⟩)
 ·exact .inr (.inr (.inl ⟨h, trB b vs x, trB b vs y, (S.map (trB b vs)).reverse, by rw [e1]; simp, by rw [e2]; simp [trB], hl x, hl y⟩))
 ·exact .inr (.inr (.inr (.inl ⟨h, trB b vs x, trB b vs y, (S.map (trB b vs)).reverse, by rw [e1]; simp, by rw [e2]; simp [trB], hl x, hl y⟩)))
 ·exact .inr (.inr (.inr (.inr (.inl ⟨h, trB b vs x, trB b vs y, (S.map (trB b vs)).reverse, by rw [e1]; simp, by rw [e2]; simp [trB, offM], hl x, hl y⟩))))
 ·exact .inr (.inr (.inr (.inr (.inr (.inl ⟨h, trB b vs x, (S.map (trB b vs)).reverse, by rw [e1]; simp, by rw [e2]; simp [trB], hl x⟩)))))
 ·exact .inr (.inr (.inr (.inr (.inr (.inr ⟨h, trB b vs x, (S.map (trB b vs)).reverse, by rw [e1]; simp, by rw [e2]; simp [trB, offM], hl x⟩)))))
theorem frameAll_any (b : List Nat) (v : Value) (w : World) (hv : Ints w v (zs b)) (hb : b.length ≤ 8) :
  Calls Tryz.prog 175 #[.agg #[.int .i64 b.length, v]] w fun e w' => e = .returned (.int .i64 ((2 ^ b.length - 1 : Nat) : Int)) ∧ Keeps w w' := by
 have kA := (Keeps.refl w).alloc (.cells #[.int .i64 b.length, v] 35)
 obtain ⟨c0, c1⟩ := BoxF.made w b.length v 35
 have hpos : 0 < 2 ^ b.length := Nat.two_pow_pos _
 have e2 : ((2 ^ b.length - 1 : Nat) : Int) = (2 : Int) ^ b.length - 1 := by
  rw [Int.ofNat_sub (by omega)]; push_cast; rfl
 obtain ⟨e3, e4⟩ := pow63 b.length (by omega)
 rw [e2]
 obtain ⟨p, cap, rfl, _⟩ := hv
 rw [zs_length] at *
 generalize hn : b.length = n at *
 have HN := hid hn; clear hn e2 hpos
 go_enter Tryz.func175, Tryz.ntmps175
 go_wp2_with fail
 go_ret
 exact ⟨rfl, kA⟩
theorem enters_truthSet1 : Enters 176 := fun _ _ => by kernel_rfl
set_option maxRecDepth 20000 in
set_option maxHeartbeats 1000000 in
theorem truthSet_1_any (w0 w : World) (bp s n : Nat) (pv : Value) (st : List Nat) (x : Nat) (vS : Value) (h : FSt w0 w bp s n pv (st ++ [x]) vS) (h0 : w0.heap.size ≤ bp) (hs : bp < s) (hl : st.length ≤ 1000000) :
  Calls Tryz.prog 176 #[.pointer (some ⟨s, 0, none⟩)] w fun e w' => e = .returned (.int .i64 x) ∧ ∃ v', FSt w0 w' bp s n pv st v' := by
 have hsl := zs_length (st ++ [x])
 have hlen : (st ++ [x]).length = st.length + 1 := by simp
 obtain ⟨g, cap, rfl, hb, hg, hlc, hmx⟩ := h.own.shape (by rw [hsl, hlen]; omega)
 have hown := h.own
 rw [hsl, hlen] at hown hlc
 obtain hcell := hown.zcell (l := st ++ [x]) st.length (by rw [hlen]; omega)
 have hx : (st ++ [x]).getD st.length 0 = x := by simp [List.getD_eq_getElem?_getD]
 rw [hx] at hcell
 have hcut : OwnI w (s + 1) (.slice (some ⟨g, 0, none⟩) st.length cap) (zs st) := by
  have h1 : OwnI w (s + 1) (.slice (some ⟨g, 0, none⟩) (zs (st ++ [x])).length cap) (zs (st ++ [x])) := by rw [hsl, hlen]; exact hown
  have h2 := h1.cutI st.length (by rw [hsl, hlen]; omega)
  rw [zs_take, List.take_left' rfl] at h2
  exact h2
 have hres := h.push (st2 := st) h0 hs (grown_refl w none) (fun k e => by cases e) hcut
 have HRES := hid hres
 have hcs := h.cs
 have hfs := h.fs
 rw [hsl, hlen] at hcs
 have hm1 : ((st.length + 1 : Nat) : Int) - 1 = st.length := by omega
 clear h hown hcut hres hsl hlen hx
 generalize st.length = m at *
 unfold maxLen at hmx
 go_enter Tryz.func176, Tryz.ntmps176
 go_wp2_with fail
 go_ret
 exact ⟨rfl, _, HRES.out⟩
set_option maxRecDepth 20000 in
set_option maxHeartbeats 8000000 in
theorem truthSet_any (b vs : List Nat) (hb : b.length ≤ 8) (hbm : Bnd b.length b) (hvs : Bnd b.length vs) (h6 : vs.length = 6) (t : Fm) (hw : t.wf) (hN : t.enc.length ≤ 1000000) (pv vv v : Value) (w : World)
  (hpv : Ints w pv (zs b)) (hvv : Ints w vv (zs vs)) (hv : Nds w v t.enc) :
  Calls Tryz.prog 103 #[.agg #[.int .i64 b.length, pv], vv, v] w fun e w' => e = .returned (.int .i64 (trB b vs t)) ∧ Keeps w w' := by
 have h256 := two8 hb
 have HBX := hid (fun x wz (kz : Keeps w wz) (hx : x < 2 ^ b.length) => box_any b x pv wz (hpv.keeps kz) hb hbm (by omega))
 have HOFF := hid (fun x => offM_lt b.length x)
 have HAL := hid (fun wz (kz : Keeps w wz) => frameAll_any b pv wz (hpv.keeps kz) hb)
 have HST := hid (fun i hi => stkT_step (b := b) hvs hw i hi)
 have HSL := hid (stkT_len b vs t)
 have HSE := hid (stkT_end b vs t)
 have HS0 := hid (stkT_zero b vs t)
 have hpos := Fm.enc_pos t
 have HV := hid (fun i (hi : i < 6) wz (kz : Keeps w wz) => (hvv.keeps kz).zs_cellE i (show i < vs.length by omega))
 have HAN : Hid (∀ x : Nat, x < 2 ^ b.length → bits .andNot .i64 ((2 ^ b.length - 1 : Nat) : Int) (x : Int) = ((offM b.length x : Nat) : Int)) := hid fun x hx => andNotN (2 ^ b.length - 1) x (by omega) (by omega)
 obtain ⟨pn, cn, rfl, hnl, hnm, hna, hn2⟩ := hv
 have HND := hid (fun i (hi : i < t.enc.length) wz (kz : Keeps w wz) => (hna.keeps kz).nd i hi)
 have hG : Hid (∀ i (hi : i < t.enc.length), t.enc.getD i ⟨0, 0⟩ = t.enc[i]) := hid (fun i hi => by simp [List.getD_eq_getElem?_getD, hi])
 have kB := (Keeps.refl w).alloc (.cells #[.int .i64 b.length, pv] 35)
 obtain ⟨z0, z1⟩ := BoxF.made w b.length pv 35
 have hBs : (w.alloc (.cells #[.int .i64 b.length, pv] 35)).heap.size = w.heap.size + 1 := by simp
 obtain ⟨pq, cq, rfl, _⟩ := hpv
 obtain ⟨pp, cap2, rfl, _, hmx2, _, _⟩ := hvv
 have HVC : Hid (∀ i, i < 6 → ∀ wz, Keeps w wz → ∃ b1 o1, pp = some ⟨b1, o1, none⟩ ∧ wz.cell? ⟨b1, o1 + i, none⟩ = some (.int .i64 ((vs.getD i 0 : Nat) : Int))) := hid fun i hi wz kz => by
  obtain ⟨p', c', b1, o1, e, e2, e3⟩ := HV.out i hi wz kz
  have e4 : pp = p' := by injection e
  rw [e4]
  exact ⟨b1, o1, e2, e3⟩
 clear HV
 unfold maxLen at hnm hmx2
 rw [zs_length b] at *
 rw [zs_length vs] at *
 simp only [h6] at *
 clear hbm hvs hw hna h6
 obtain ⟨Nf, hNf⟩ : ∃ Nf : Nat → Nd, ∀ i, Nf i = t.enc.getD i ⟨0, 0⟩ := ⟨_, fun _ => rfl⟩
 have HND2 : Hid (∀ i, i < t.enc.length → ∀ wz, Keeps w wz → ∃ b0 off, pn = some ⟨b0, off, none⟩ ∧ wz.cell? ⟨b0, off + i * 2, none⟩ = some (.int .i64 (Nf i).k) ∧ wz.cell? ⟨b0, off + i * 2 + 1, none⟩ = some (.int .i64 (Nf i).s)) := hid fun i hi wz kz => by
  rw [hNf, hG.out i hi]; exact HND.out i hi wz kz
 clear HND hG
 simp only [← hNf] at HST
 clear hNf
 unfold NodeT at HST
 obtain ⟨SK, hSK⟩ : ∃ SK : Nat → List Nat, ∀ i, SK i = stkT b vs t i := ⟨_, fun _ => rfl⟩
 obtain ⟨VV, hVV⟩ : ∃ VV : Nat → Nat, ∀ i, VV i = vs.getD i 0 := ⟨_, fun _ => rfl⟩
 obtain ⟨BX, hBX⟩ : ∃ BX : Nat → Nat, ∀ x, BX x = boxB b x b.length := ⟨_, fun _ => rfl⟩
 obtain ⟨OF, hOF⟩ : ∃ OF : Nat → Nat, ∀ x, OF x = offM b.length x := ⟨_, fun _ => rfl⟩
 have HBL : Hid (∀ x, BX x < 2 ^ b.length) := hid fun x => by rw [hBX]; exact boxB_lt b x _
 simp only [← hSK, ← hVV, ← hBX, ← hOF] at *
 clear hSK hVV hBX hOF
 have hpos2 := Nat.two_pow_pos b.length
 generalize trB b vs t = r at *
 generalize t.enc.length = N at *
 generalize 2 ^ b.length - 1 = MM at *
 generalize 2 ^ b.length = M at *
 generalize b.length = n at *
 clear hb
 have hcf1 : ∀ args w, (callFunc 176 args).run Tryz.prog w = .ok (.enter 176 args) w := enters_truthSet1
 go_enter Tryz.func103, Tryz.ntmps103
 go_wp2_with fail
 refine (HAL.out _ kB).mono ?_; rintro e w2 ⟨rfl, k2⟩
 replace z0 := k2.cell z0
 replace z1 := k2.cell z1
 have K2 := kB.trans k2
 have hz2 := k2.size
 have HF0 : Hid (FSt w (w2.alloc (.cells #[.slice none 0 0] 29)) w.heap.size w2.heap.size n (.slice pq n cq) (SK N) (.slice none 0 0)) := hid (by
  rw [HSE.out]
  have kC := (Keeps.refl w2).alloc (.cells #[.slice none 0 0] 29)
  exact ⟨K2.trans kC, kC.cell z0, kC.cell z1, by simp, by simp, OwnI.nil _ _⟩)
 obtain ⟨bp, hbp⟩ : ∃ bp, bp = w.heap.size := ⟨_, rfl⟩
 obtain ⟨sp, hsp⟩ : ∃ sp, sp = w2.heap.size := ⟨_, rfl⟩
 have hb0 : w.heap.size ≤ bp := Nat.le_of_eq hbp.symm
 have hbs : bp < sp := by omega
 have HF1 := HF0.out
 rw [← hbp, ← hsp] at HF1
 have HF2 := hid HF1
 clear HF1 HF0 z0 z1 k2 K2 kB hz2 hBs HAL HSE
 go_wp2_with fail
 rw [← hbp, ← hsp]
 clear hbp hsp
 go_loopw [10] (fun s10 wr => ∃ j : Nat, j ≤ N ∧ s10 = .int .i64 ((j : Int) - 1) ∧ ∃ vS, FSt w wr bp sp n (.slice pq n cq) (SK j) vS) (fun s10 _ => (intOf s10 + 1).toNat)
 case atStart => exact ⟨N, by omega, by go_num, _, HF2.out⟩
 case round =>
  obtain ⟨j, hj, rfl, vS, hst⟩ := hrel
  clear HF2
  cases j with
  | zero =>
   rw [HS0.out] at hst
   obtain ⟨g, cap, rfl, hbg, hg, hlc, hmx⟩ := hst.own.shape (by simp [zs])
   have hcell := (hst.own.zcell (l := [r]) 0 (by simp)).1
   have hcs := hst.cs
   have hkp := hst.kp
   have hz1 : (zs [r]).length = 1 := by simp [zs]
   rw [hz1] at hcs hlc
   simp only [List.getD_cons_zero] at hcell
   clear hz1 hg hbg
   have hm1 : ((0 : Nat) : Int) - 1 = -1 := rfl
   clear hst
   go_wp2_with fail
   go_ret
   exact ⟨rfl, hkp⟩
  | succ i =>
   have hi1 : ((i + 1 : Nat) : Int) - 1 = (i : Int) := by omega
   rw [hi1]
   have hkp := hst.kp
   obtain ⟨b0, off, rfl, n0, n1⟩ := HND2.out i (by omega) wr hkp
   have hlt : (i : Int) < N := by omega
   have hge : (0 : Int) ≤ i := by omega
   have hsl := HSL.out (i + 1) hj
   have hsl0 := HSL.out i (by omega)
   have hSt := HST.out i (by omega)
   generalize (Nf i).k = kk at *
   generalize (Nf i).s = ss at *
   generalize SK (i + 1) = S1 at *
   rcases hSt with ⟨rfl, p, hp6, rfl, hT⟩ | ⟨rfl, hT⟩ | ⟨rfl, x, y, R, hS, hT, hx, hy⟩ | ⟨rfl, x, y, R, hS, hT, hx, hy⟩ | ⟨rfl, x, y, R, hS, hT, hx, hy⟩ | ⟨rfl, x, R, hS, hT, hx⟩ | ⟨rfl, x, R, hS, hT, hx⟩
   ·-- variable
    obtain ⟨b1, o1, e1, hc⟩ := HVC.out p hp6 wr hkp
    subst e1
    have hp6' : (p : Int) < 6 := by omega
    have hlenst : S1.length ≤ 1000000 := by omega
    have hown := hst.own
    have hcs := hst.cs
    have hlt2 : sp < wr.heap.size := World.block_lt_of_cell? _ _ hcs
    have hzl := zs_length S1
    have kA := (Keeps.refl wr).alloc (.cells #[.int .i64 (((VV p : Nat) : Int))] 2)
    have HPU := hid (fun w1 v1 (hg : (wr.alloc (.cells #[.int .i64 (((VV p : Nat) : Int))] 2)).grownBy w1 vS.ownBlock) (hr : ∀ k, vS.ownBlock = some k → sp + 1 ≤ k) (hv : OwnI w1 (sp + 1) v1 (zs (S1 ++ [VV p]))) => (hst.keeps kA).push (st2 := S1 ++ [VV p]) hb0 hbs hg hr hv)
    have hcs2 : ∀ w1, (wr.alloc (.cells #[.int .i64 (((VV p : Nat) : Int))] 2)).grownBy w1 vS.ownBlock → (∀ k, vS.ownBlock = some k → sp + 1 ≤ k) → w1.cell? ⟨sp, 0, none⟩ = some vS ∧ w1.frozen? ⟨sp, 0, none⟩ = false := fun w1 hg hr => by
     have h := cell_row (kA.cell hcs) hg (fun r e => by have := hr r e; omega)
     exact ⟨h.1, by rw [h.2]; exact (hst.keeps kA).fs⟩
    have HCS2 := hid hcs2; clear hcs2
    obtain ⟨p2, c2, rfl, -, -, -⟩ := At.of_own hown
    rw [hzl] at hown hcs HPU HCS2
    have HZ2 : Hid (∀ z : Int, (zs S1 ++ [z]).length = S1.length + 1) := hid (fun z => by rw [List.length_append, hzl]; rfl)
    clear hst hsl0
    generalize VV p = x at *
    go_wp2_with (at_builtin; refine appI rfl _ _ rfl (sp + 1) _ (zs S1) rfl (hown.keeps kA) _ [((x : Nat) : Int)] rfl (Ints.lit1 wr _) (by simp; omega) (by rw [hzl]; simp; omega) ?_; intro v1 w1 hv1 hg1 hr1; obtain ⟨g1, g2⟩ := HCS2.out w1 hg1 hr1; have HP1 := hid (HPU.out w1 v1 hg1 hr1 (by rw [zs_snoc]; exact hv1)); obtain ⟨p3, c3, rfl, -, -, -⟩ := At.of_own hv1)
    go_roundw
    case rel => exact ⟨i, by omega, by go_num, _, by rw [hT]; have h := HP1.out; rw [HZ2.out] at h; exact h⟩
    case measure => simp [intOf] <;> omega
   ·-- falsum
    have hlenst : S1.length ≤ 1000000 := by omega
    have hown := hst.own
    have hcs := hst.cs
    have hlt2 : sp < wr.heap.size := World.block_lt_of_cell? _ _ hcs
    have hzl := zs_length S1
    have kA := (Keeps.refl wr).alloc (.cells #[.int .i64 (0)] 2)
    have HPU := hid (fun w1 v1 (hg : (wr.alloc (.cells #[.int .i64 (0)] 2)).grownBy w1 vS.ownBlock) (hr : ∀ k, vS.ownBlock = some k → sp + 1 ≤ k) (hv : OwnI w1 (sp + 1) v1 (zs (S1 ++ [0]))) => (hst.keeps kA).push (st2 := S1 ++ [0]) hb0 hbs hg hr hv)
    have hcs2 : ∀ w1, (wr.alloc (.cells #[.int .i64 (0)] 2)).grownBy w1 vS.ownBlock → (∀ k, vS.ownBlock = some k → sp + 1 ≤ k) → w1.cell? ⟨sp, 0, none⟩ = some vS ∧ w1.frozen? ⟨sp, 0, none⟩ = false := fun w1 hg hr => by
     have h := cell_row (kA.cell hcs) hg (fun r e => by have := hr r e; omega)
     exact ⟨h.1, by rw [h.2]; exact (hst.keeps kA).fs⟩
    have HCS2 := hid hcs2; clear hcs2
    obtain ⟨p2, c2, rfl, -, -, -⟩ := At.of_own hown
    rw [hzl] at hown hcs HPU HCS2
    have HZ2 : Hid (∀ z : Int, (zs S1 ++ [z]).length = S1.length + 1) := hid (fun z => by rw [List.length_append, hzl]; rfl)
    clear hst hsl0
    go_wp2_with (at_builtin; refine appI rfl _ _ rfl (sp + 1) _ (zs S1) rfl (hown.keeps kA) _ [(0 : Int)] rfl (Ints.lit1 wr _) (by simp; omega) (by rw [hzl]; simp; omega) ?_; intro v1 w1 hv1 hg1 hr1; obtain ⟨g1, g2⟩ := HCS2.out w1 hg1 hr1; have HP1 := hid (HPU.out w1 v1 hg1 hr1 (by rw [zs_snoc]; exact hv1)); obtain ⟨p3, c3, rfl, -, -, -⟩ := At.of_own hv1)
    go_roundw
    case rel => exact ⟨i, by omega, by go_num, _, by rw [hT]; have h := HP1.out; rw [HZ2.out] at h; exact h⟩
    case measure => simp [intOf] <;> omega
   ·-- and
    subst hS
    have hlS : R.length ≤ 1000000 := by simp at hsl; omega
    have HC1 := hid (truthSet_1_any w wr bp sp n (.slice pq n cq) (R ++ [y]) x vS hst hb0 hbs (by simp at hsl ⊢; omega))
    have HC2 := hid (fun wz vz (hz : FSt w wz bp sp n (.slice pq n cq) (R ++ [y]) vz) => truthSet_1_any w wz bp sp n (.slice pq n cq) R y vz hz hb0 hbs hlS)
    have HVAL := hid (andN x y (by omega) (by omega))
    clear hst
    go_wp2_with fail
    refine HC1.out.mono ?_; rintro e w2 ⟨rfl, v2, h2⟩
    go_wp2_with fail
    refine (HC2.out _ _ h2).mono ?_; rintro e w3 ⟨rfl, v3, h3⟩
    clear hsl hsl0
    have hown := h3.own
    have hcs := h3.cs
    have hlt2 : sp < w3.heap.size := World.block_lt_of_cell? _ _ hcs
    have hzl := zs_length R
    have kA := (Keeps.refl w3).alloc (.cells #[.int .i64 (bits .and .i64 (x : Int) (y : Int))] 2)
    have HPU := hid (fun w1 v1 (hg : (w3.alloc (.cells #[.int .i64 (bits .and .i64 (x : Int) (y : Int))] 2)).grownBy w1 v3.ownBlock) (hr : ∀ k, v3.ownBlock = some k → sp + 1 ≤ k) (hv : OwnI w1 (sp + 1) v1 (zs (R ++ [x &&& y]))) => (h3.keeps kA).push (st2 := R ++ [x &&& y]) hb0 hbs hg hr hv)
    have hcs2 : ∀ w1, (w3.alloc (.cells #[.int .i64 (bits .and .i64 (x : Int) (y : Int))] 2)).grownBy w1 v3.ownBlock → (∀ k, v3.ownBlock = some k → sp + 1 ≤ k) → w1.cell? ⟨sp, 0, none⟩ = some v3 ∧ w1.frozen? ⟨sp, 0, none⟩ = false := fun w1 hg hr => by
     have h := cell_row (kA.cell hcs) hg (fun r e => by have := hr r e; omega)
     exact ⟨h.1, by rw [h.2]; exact (h3.keeps kA).fs⟩
    have HCS2 := hid hcs2; clear hcs2
    obtain ⟨p2, c2, rfl, -, -, -⟩ := At.of_own hown
    rw [hzl] at hown hcs HPU HCS2
    have HZ2 : Hid (∀ z : Int, (zs R ++ [z]).length = R.length + 1) := hid (fun z => by rw [List.length_append, hzl]; rfl)
    go_wp2_with (at_builtin; refine appI rfl _ _ rfl (sp + 1) _ (zs R) rfl (hown.keeps kA) _ [bits .and .i64 (x : Int) (y : Int)] rfl (Ints.lit1 w3 _) (by simp; omega) (by rw [hzl]; simp; omega) ?_; intro v1 w1 hv1 hg1 hr1; obtain ⟨g1, g2⟩ := HCS2.out w1 hg1 hr1; have HP1 := hid (HPU.out w1 v1 hg1 hr1 (by rw [zs_snoc, ← HVAL.out]; exact hv1)); obtain ⟨p3, c3, rfl, -, -, -⟩ := At.of_own hv1)
    go_roundw
    case rel => exact ⟨i, by omega, by go_num, _, by rw [hT]; have h := HP1.out; rw [HZ2.out] at h; exact h⟩
    case measure => simp [intOf] <;> omega
   ·-- or
    subst hS
    have hlS : R.length ≤ 1000000 := by simp at hsl; omega
    have HC1 := hid (truthSet_1_any w wr bp sp n (.slice pq n cq) (R ++ [y]) x vS hst hb0 hbs (by simp at hsl ⊢; omega))
    have HC2 := hid (fun wz vz (hz : FSt w wz bp sp n (.slice pq n cq) (R ++ [y]) vz) => truthSet_1_any w wz bp sp n (.slice pq n cq) R y vz hz hb0 hbs hlS)
    have HVAL := hid (orN x y (by omega) (by omega))
    clear hst
    go_wp2_with fail
    refine HC1.out.mono ?_; rintro e w2 ⟨rfl, v2, h2⟩
    go_wp2_with fail
    refine (HC2.out _ _ h2).mono ?_; rintro e w3 ⟨rfl, v3, h3⟩
    clear hsl hsl0
    have hown := h3.own
    have hcs := h3.cs
    have hlt2 : sp < w3.heap.size := World.block_lt_of_cell? _ _ hcs
    have hzl := zs_length R
    have kA := (Keeps.refl w3).alloc (.cells #[.int .i64 (bits .or .i64 (x : Int) (y : Int))] 2)
    have HPU := hid (fun w1 v1 (hg : (w3.alloc (.cells #[.int .i64 (bits .or .i64 (x : Int) (y : Int))] 2)).grownBy w1 v3.ownBlock) (hr : ∀ k, v3.ownBlock = some k → sp + 1 ≤ k) (hv : OwnI w1 (sp + 1) v1 (zs (R ++ [x ||| y]))) => (h3.keeps kA).push (st2 := R ++ [x ||| y]) hb0 hbs hg hr hv)
    have hcs2 : ∀ w1, (w3.alloc (.cells #[.int .i64 (bits .or .i64 (x : Int) (y : Int))] 2)).grownBy w1 v3.ownBlock → (∀ k, v3.ownBlock = some k → sp + 1 ≤ k) → w1.cell? ⟨sp, 0, none⟩ = some v3 ∧ w1.frozen? ⟨sp, 0, none⟩ = false := fun w1 hg hr => by
     have h := cell_row (kA.cell hcs) hg (fun r e => by have := hr r e; omega)
     exact ⟨h.1, by rw [h.2]; exact (h3.keeps kA).fs⟩
    have HCS2 := hid hcs2; clear hcs2
    obtain ⟨p2, c2, rfl, -, -, -⟩ := At.of_own hown
    rw [hzl] at hown hcs HPU HCS2
    have HZ2 : Hid (∀ z : Int, (zs R ++ [z]).length = R.length + 1) := hid (fun z => by rw [List.length_append, hzl]; rfl)
    go_wp2_with (at_builtin; refine appI rfl _ _ rfl (sp + 1) _ (zs R) rfl (hown.keeps kA) _ [bits .or .i64 (x : Int) (y : Int)] rfl (Ints.lit1 w3 _) (by simp; omega) (by rw [hzl]; simp; omega) ?_; intro v1 w1 hv1 hg1 hr1; obtain ⟨g1, g2⟩ := HCS2.out w1 hg1 hr1; have HP1 := hid (HPU.out w1 v1 hg1 hr1 (by rw [zs_snoc, ← HVAL.out]; exact hv1)); obtain ⟨p3, c3, rfl, -, -, -⟩ := At.of_own hv1)
    go_roundw
    case rel => exact ⟨i, by omega, by go_num, _, by rw [hT]; have h := HP1.out; rw [HZ2.out] at h; exact h⟩
    case measure => simp [intOf] <;> omega
   ·-- imp
    subst hS
    have hlS : R.length ≤ 1000000 := by simp at hsl; omega
    have HC1 := hid (truthSet_1_any w wr bp sp n (.slice pq n cq) (R ++ [y]) x vS hst hb0 hbs (by simp at hsl ⊢; omega))
    have HC2 := hid (fun wz vz (hz : FSt w wz bp sp n (.slice pq n cq) (R ++ [y]) vz) => truthSet_1_any w wz bp sp n (.slice pq n cq) R y vz hz hb0 hbs hlS)
    have hofx := HOFF.out x
    have HVAL : Hid (bits .or .i64 (bits .andNot .i64 (MM : Int) (x : Int)) (y : Int) = ((OF x ||| y : Nat) : Int)) := hid (by rw [HAN.out x hx]; exact orN _ _ (by omega) (by omega))
    clear hst
    go_wp2_with fail
    refine HC1.out.mono ?_; rintro e w2 ⟨rfl, v2, h2⟩
    go_wp2_with fail
    refine (HC2.out _ _ h2).mono ?_; rintro e w3 ⟨rfl, v3, h3⟩
    clear hsl hsl0
    have hown := h3.own
    have hcs := h3.cs
    have hlt2 : sp < w3.heap.size := World.block_lt_of_cell? _ _ hcs
    have hzl := zs_length R
    have kA := (Keeps.refl w3).alloc (.cells #[.int .i64 (bits .or .i64 (bits .andNot .i64 (MM : Int) (x : Int)) (y : Int))] 2)
    have HPU := hid (fun w1 v1 (hg : (w3.alloc (.cells #[.int .i64 (bits .or .i64 (bits .andNot .i64 (MM : Int) (x : Int)) (y : Int))] 2)).grownBy w1 v3.ownBlock) (hr : ∀ k, v3.ownBlock = some k → sp + 1 ≤ k) (hv : OwnI w1 (sp + 1) v1 (zs (R ++ [OF x ||| y]))) => (h3.keeps kA).push (st2 := R ++ [OF x ||| y]) hb0 hbs hg hr hv)
    have hcs2 : ∀ w1, (w3.alloc (.cells #[.int .i64 (bits .or .i64 (bits .andNot .i64 (MM : Int) (x : Int)) (y : Int))] 2)).grownBy w1 v3.ownBlock → (∀ k, v3.ownBlock = some k → sp + 1 ≤ k) → w1.cell? ⟨sp, 0, none⟩ = some v3 ∧ w1.frozen? ⟨sp, 0, none⟩ = false := fun w1 hg hr => by
     have h := cell_row (kA.cell hcs) hg (fun r e => by have := hr r e; omega)
     exact ⟨h.1, by rw [h.2]; exact (h3.keeps kA).fs⟩
    have HCS2 := hid hcs2; clear hcs2
    obtain ⟨p2, c2, rfl, -, -, -⟩ := At.of_own hown
    rw [hzl] at hown hcs HPU HCS2
    have HZ2 : Hid (∀ z : Int, (zs R ++ [z]).length = R.length + 1) := hid (fun z => by rw [List.length_append, hzl]; rfl)
    go_wp2_with (at_builtin; refine appI rfl _ _ rfl (sp + 1) _ (zs R) rfl (hown.keeps kA) _ [bits .or .i64 (bits .andNot .i64 (MM : Int) (x : Int)) (y : Int)] rfl (Ints.lit1 w3 _) (by simp; omega) (by rw [hzl]; simp; omega) ?_; intro v1 w1 hv1 hg1 hr1; obtain ⟨g1, g2⟩ := HCS2.out w1 hg1 hr1; have HP1 := hid (HPU.out w1 v1 hg1 hr1 (by rw [zs_snoc, ← HVAL.out]; exact hv1)); obtain ⟨p3, c3, rfl, -, -, -⟩ := At.of_own hv1)
    go_roundw
    case rel => exact ⟨i, by omega, by go_num, _, by rw [hT]; have h := HP1.out; rw [HZ2.out] at h; exact h⟩
    case measure => simp [intOf] <;> omega
   ·-- box
    subst hS
    have hlS : R.length ≤ 1000000 := by simp at hsl; omega
    have HBO := hid (fun wz (kz : Keeps w wz) => HBX.out x wz kz hx)
    have HD := hid (hst.keeps (Keeps.refl wr).drew)
    have HC1 := hid (truthSet_1_any w wr.drew bp sp n (.slice pq n cq) R x vS HD.out hb0 hbs hlS)
    have e0 := hst.c0
    have e1 := hst.c1
    have f0 := HD.out.c0
    have f1 := HD.out.c1
    clear hst hsl hsl0
    go_wp2_with fail
    go_region_held3 (fun w' => w'.cell? ⟨bp, 0, none⟩ = some (.int .i64 n) ∧ w'.cell? ⟨bp, 1, none⟩ = some (.slice pq n cq)) (first | exact ⟨e0, e1⟩ | exact ⟨f0, f1⟩ | exact ⟨q0, q1⟩) (first
     | (go_at_call 176; refine HC1.out.mono ?_; rintro e w3 ⟨rfl, v3, h3⟩; have q0 := h3.c0; have q1 := h3.c1; have qk := h3.kp)
     | (go_at_call 58; refine (HBO.out _ qk).mono ?_; rintro e w4 ⟨rfl, rfl⟩))
    have hown := h3.own
    have hcs := h3.cs
    have hlt2 : sp < w3.heap.size := World.block_lt_of_cell? _ _ hcs
    have hzl := zs_length R
    have kA := (Keeps.refl w3).alloc (.cells #[.int .i64 (((BX x : Nat) : Int))] 2)
    have HPU := hid (fun w1 v1 (hg : (w3.alloc (.cells #[.int .i64 (((BX x : Nat) : Int))] 2)).grownBy w1 v3.ownBlock) (hr : ∀ k, v3.ownBlock = some k → sp + 1 ≤ k) (hv : OwnI w1 (sp + 1) v1 (zs (R ++ [BX x]))) => (h3.keeps kA).push (st2 := R ++ [BX x]) hb0 hbs hg hr hv)
    have hcs2 : ∀ w1, (w3.alloc (.cells #[.int .i64 (((BX x : Nat) : Int))] 2)).grownBy w1 v3.ownBlock → (∀ k, v3.ownBlock = some k → sp + 1 ≤ k) → w1.cell? ⟨sp, 0, none⟩ = some v3 ∧ w1.frozen? ⟨sp, 0, none⟩ = false := fun w1 hg hr => by
     have h := cell_row (kA.cell hcs) hg (fun r e => by have := hr r e; omega)
     exact ⟨h.1, by rw [h.2]; exact (h3.keeps kA).fs⟩
    have HCS2 := hid hcs2; clear hcs2
    obtain ⟨p2, c2, rfl, -, -, -⟩ := At.of_own hown
    rw [hzl] at hown hcs HPU HCS2
    have HZ2 : Hid (∀ z : Int, (zs R ++ [z]).length = R.length + 1) := hid (fun z => by rw [List.length_append, hzl]; rfl)
    generalize BX x = z at *
    go_wp2_with (at_builtin; refine appI rfl _ _ rfl (sp + 1) _ (zs R) rfl (hown.keeps kA) _ [((z : Nat) : Int)] rfl (Ints.lit1 w3 _) (by simp; omega) (by rw [hzl]; simp; omega) ?_; intro v1 w1 hv1 hg1 hr1; obtain ⟨g1, g2⟩ := HCS2.out w1 hg1 hr1; have HP1 := hid (HPU.out w1 v1 hg1 hr1 (by rw [zs_snoc]; exact hv1)); obtain ⟨p3, c3, rfl, -, -, -⟩ := At.of_own hv1)
    go_roundw
    case rel => exact ⟨i, by omega, by go_num, _, by rw [hT]; have h := HP1.out; rw [HZ2.out] at h; exact h⟩
    case measure => simp [intOf] <;> omega
   ·-- dia
    subst hS
    have hlS : R.length ≤ 1000000 := by simp at hsl; omega
    have HBO := hid (fun wz (kz : Keeps w wz) => by have h := HBX.out (OF x) wz kz (HOFF.out x); rw [← HAN.out x hx] at h; exact h)
    have HVAL := hid (HAN.out (BX (OF x)) (HBL.out _))
    have HD := hid (hst.keeps (Keeps.refl wr).drew)
    have HC1 := hid (truthSet_1_any w wr.drew bp sp n (.slice pq n cq) R x vS HD.out hb0 hbs hlS)
    have e0 := hst.c0
    have e1 := hst.c1
    have f0 := HD.out.c0
    have f1 := HD.out.c1
    clear hst hsl hsl0
    go_wp2_with fail
    go_region_held3 (fun w' => w'.cell? ⟨bp, 0, none⟩ = some (.int .i64 n) ∧ w'.cell? ⟨bp, 1, none⟩ = some (.slice pq n cq)) (first | exact ⟨e0, e1⟩ | exact ⟨f0, f1⟩ | exact ⟨q0, q1⟩) (first
     | (go_at_call 176; refine HC1.out.mono ?_; rintro e w3 ⟨rfl, v3, h3⟩; have q0 := h3.c0; have q1 := h3.c1; have qk := h3.kp)
     | (go_at_call 58; refine (HBO.out _ qk).mono ?_; rintro e w4 ⟨rfl, rfl⟩))
    have hown := h3.own
    have hcs := h3.cs
    have hlt2 : sp < w3.heap.size := World.block_lt_of_cell? _ _ hcs
    have hzl := zs_length R
    have kA := (Keeps.refl w3).alloc (.cells #[.int .i64 (bits .andNot .i64 (MM : Int) ((BX (OF x) : Nat) : Int))] 2)
    have HPU := hid (fun w1 v1 (hg : (w3.alloc (.cells #[.int .i64 (bits .andNot .i64 (MM : Int) ((BX (OF x) : Nat) : Int))] 2)).grownBy w1 v3.ownBlock) (hr : ∀ k, v3.ownBlock = some k → sp + 1 ≤ k) (hv : OwnI w1 (sp + 1) v1 (zs (R ++ [OF (BX (OF x))]))) => (h3.keeps kA).push (st2 := R ++ [OF (BX (OF x))]) hb0 hbs hg hr hv)
    have hcs2 : ∀ w1, (w3.alloc (.cells #[.int .i64 (bits .andNot .i64 (MM : Int) ((BX (OF x) : Nat) : Int))] 2)).grownBy w1 v3.ownBlock → (∀ k, v3.ownBlock = some k → sp + 1 ≤ k) → w1.cell? ⟨sp, 0, none⟩ = some v3 ∧ w1.frozen? ⟨sp, 0, none⟩ = false := fun w1 hg hr => by
     have h := cell_row (kA.cell hcs) hg (fun r e => by have := hr r e; omega)
     exact ⟨h.1, by rw [h.2]; exact (h3.keeps kA).fs⟩
    have HCS2 := hid hcs2; clear hcs2
    obtain ⟨p2, c2, rfl, -, -, -⟩ := At.of_own hown
    rw [hzl] at hown hcs HPU HCS2
    have HZ2 : Hid (∀ z : Int, (zs R ++ [z]).length = R.length + 1) := hid (fun z => by rw [List.length_append, hzl]; rfl)
    generalize BX (OF x) = z at *
    go_wp2_with (at_builtin; refine appI rfl _ _ rfl (sp + 1) _ (zs R) rfl (hown.keeps kA) _ [bits .andNot .i64 (MM : Int) ((z : Nat) : Int)] rfl (Ints.lit1 w3 _) (by simp; omega) (by rw [hzl]; simp; omega) ?_; intro v1 w1 hv1 hg1 hr1; obtain ⟨g1, g2⟩ := HCS2.out w1 hg1 hr1; have HP1 := hid (HPU.out w1 v1 hg1 hr1 (by rw [zs_snoc, ← HVAL.out]; exact hv1)); obtain ⟨p3, c3, rfl, -, -, -⟩ := At.of_own hv1)
    go_roundw
    case rel => exact ⟨i, by omega, by go_num, _, by rw [hT]; have h := HP1.out; rw [HZ2.out] at h; exact h⟩
    case measure => simp [intOf] <;> omega
end Go.Proofs.YtfmmajgkjkmghaaGreat
namespace Go.Proofs.YtfmmajgkjkmghaaGreat
open Go.RowKit
set_option maxRecDepth 20000 in
set_option maxHeartbeats 1000000 in
theorem modelCode_ok (n : Int) (a vs : List Int) (hm : isMod n a vs = true) (x : List Nd) (hf : isFm x = true) (va vu vx : Value) (w : World) (ha : Ints w va a) (hu : Ints w vu vs) (hx : Nds w vx x) :
  Calls Tryz.prog 46 #[.agg #[.int .i64 n, va, vu], vx] w fun e w' => e = .returned (.int .i64 0) ∧ Keeps w w' := by
 have kA := (Keeps.refl w).alloc (.cells #[.int .i64 n, va, vu] 37)
 have HM := hid (isModel_any n a vs va vu _ (ha.keeps kA) (hu.keeps kA))
 rw [hm] at HM
 have HF := hid (fun wz (kz : Keeps w wz) => isFormula_any x vx wz (hx.keeps kz))
 rw [hf] at HF
 obtain ⟨p1, c1, rfl, _⟩ := ha
 obtain ⟨p2, c2, rfl, _⟩ := hu
 obtain ⟨p3, n3, c3, rfl⟩ := hx.shape
 clear hm hf hx
 go_enter Tryz.func46, Tryz.ntmps46
 go_wp2_with fail
 refine HM.out.mono ?_; rintro e w2 ⟨rfl, k2⟩
 have K2 := kA.trans k2
 go_wp2_with fail
 refine (HF.out _ K2).mono ?_; rintro e w3 ⟨rfl, k3⟩
 go_wp2_with fail
 go_ret
 exact ⟨rfl, K2.trans k3⟩
set_option maxRecDepth 20000 in
set_option maxHeartbeats 1000000 in
theorem truthIn_any (b vs : List Nat) (hb : b.length ≤ 8) (hbm : Bnd b.length b) (hvs : Bnd b.length vs) (h6 : vs.length = 6) (t : Fm) (hw : t.wf) (hN : t.enc.length ≤ 1000000) (pv vv v : Value) (w : World)
  (hpv : Ints w pv (zs b)) (hvv : Ints w vv (zs vs)) (hv : Nds w v t.enc) :
  Calls Tryz.prog 47 #[.agg #[.int .i64 b.length, pv, vv], v] w fun e w' => e = .returned (.int .i64 (trB b vs t)) ∧ Keeps w w' := by
 have kA := (Keeps.refl w).alloc (.cells #[.int .i64 b.length, pv, vv] 37)
 obtain ⟨c0, c1, c2⟩ := BoxM.made w b.length pv vv 37
 have HT := hid (fun wz (kz : Keeps w wz) => truthSet_any b vs hb hbm hvs h6 t hw hN pv vv v wz (hpv.keeps kz) (hvv.keeps kz) (hv.keeps kz))
 obtain ⟨p1, q1, rfl, _⟩ := hpv
 obtain ⟨p2, q2, rfl, _⟩ := hvv
 obtain ⟨p3, n3, q3, rfl⟩ := hv.shape
 rw [zs_length b] at *
 rw [zs_length vs] at *
 clear hbm hvs hw hN hv hb h6
 generalize trB b vs t = r at *
 generalize b.length = n at *
 generalize vs.length = m at *
 go_enter Tryz.func47, Tryz.ntmps47
 go_wp2_with fail
 refine (HT.out _ kA).mono ?_; rintro e w2 ⟨rfl, k2⟩
 go_wp2_with fail
 go_ret
 exact ⟨rfl, kA.trans k2⟩
set_option maxRecDepth 20000 in
set_option maxHeartbeats 1000000 in
theorem truthSet_ok (b vs : List Nat) (hm : isMod b.length (zs b) (zs vs) = true) (hb : b.length ≤ 8) (hbm : Bnd b.length b) (hvs : Bnd b.length vs) (h6 : vs.length = 6) (t : Fm) (hw : t.wf) (hf : isFm t.enc = true) (hN : t.enc.length ≤ 1000000) (pv vv v : Value) (w : World)
  (hpv : Ints w pv (zs b)) (hvv : Ints w vv (zs vs)) (hv : Nds w v t.enc) :
  Calls Tryz.prog 13 #[.agg #[.int .i64 b.length, pv, vv], v] w fun e w' => e = .returned (.tuple #[.int .i64 (trB b vs t), .int .i64 0]) ∧ Keeps w w' := by
 have kA := (Keeps.refl w).alloc (.cells #[.int .i64 b.length, pv, vv] 37)
 obtain ⟨c0, c1, c2⟩ := BoxM.made w b.length pv vv 37
 have HM := hid (modelCode_ok b.length (zs b) (zs vs) hm t.enc hf pv vv v _ (hpv.keeps kA) (hvv.keeps kA) (hv.keeps kA))
 have HT := hid (fun wz (kz : Keeps w wz) => truthIn_any b vs hb hbm hvs h6 t hw hN pv vv v wz (hpv.keeps kz) (hvv.keeps kz) (hv.keeps kz))
 obtain ⟨p1, q1, rfl, _⟩ := hpv
 obtain ⟨p2, q2, rfl, _⟩ := hvv
 obtain ⟨p3, n3, q3, rfl⟩ := hv.shape
 rw [zs_length b] at *
 rw [zs_length vs] at *
 clear hbm hvs hw hN hv hm hf hb h6
 generalize trB b vs t = r at *
 generalize b.length = n at *
 generalize vs.length = m at *
 go_enter Tryz.func13, Tryz.ntmps13
 go_wp2_with fail
 refine HM.out.mono ?_; rintro e w2 ⟨rfl, k2⟩
 replace c0 := k2.cell c0
 replace c1 := k2.cell c1
 replace c2 := k2.cell c2
 have K2 := kA.trans k2
 go_wp2_with fail
 refine (HT.out _ K2).mono ?_; rintro e w3 ⟨rfl, k3⟩
 go_wp2_with fail
 go_ret2
 exact ⟨rfl, K2.trans k3⟩
end Go.Proofs.YtfmmajgkjkmghaaGreat
namespace Go.Proofs.YtfmmajgkjkmghaaGreat
open Go.RowKit
def isUpI (b : List Nat) (x : Int) : Bool := isM b.length x && decide (((img b x.toNat : Nat) : Int) = x)
def isVal (n : Int) (a vs : List Int) : Bool := isPos n a && (decide (vs.length = 6) && vs.all (isUpI (a.map Int.toNat)))
set_option maxRecDepth 20000 in
theorem isUpsetI_any (b : List Nat) (x : Int) (v : Value) (w : World) (hv : Ints w v (zs b)) (hb : b.length ≤ 8) (hbm : Bnd b.length b) :
  Calls Tryz.prog 98 #[.agg #[.int .i64 b.length, v], .int .i64 x] w fun e w' => e = .returned (.bool (isUpI b x)) ∧ Keeps w w' := by
 have kA := (Keeps.refl w).alloc (.cells #[.int .i64 b.length, v] 31)
 have HM := hid (fun w2 => isMask_any b.length x w2 hb)
 have HU : Hid (isUpI b x = (isM b.length x && decide (((img b x.toNat : Nat) : Int) = x))) := hid rfl
 cases h1 : isM b.length x
 ·rw [h1] at HM HU
  clear h1
  obtain ⟨p, cap, rfl, _⟩ := hv
  go_enter Tryz.func98, Tryz.ntmps98
  go_wp2_with fail
  refine (HM.out _).mono ?_; rintro e w2 ⟨rfl, rfl⟩
  go_wp2_with fail
  go_ret
  exact ⟨by rw [HU.out]; rfl, kA⟩
 ·rw [h1] at HM HU
  obtain ⟨k, rfl, hk⟩ := (isM_iff b.length x).1 h1
  clear h1
  have HI := hid (image_any b k v _ (hv.keeps kA) hb (bnd_mem hbm) hk)
  have h256 := two8 hb
  have hlt := img_lt (bnd_mem hbm) k
  simp only [Int.toNat_natCast, Bool.true_and] at HU
  obtain ⟨p, cap, rfl, _⟩ := hv
  clear hbm
  by_cases e : ((img b k : Nat) : Int) = k
  ·have he : (((img b k : Nat) : Int) == k) = true := by simp [e]
   rw [decide_eq_true e] at HU
   clear e
   generalize img b k = m at *
   go_enter Tryz.func98, Tryz.ntmps98
   go_wp2_with fail
   refine (HM.out _).mono ?_; rintro e w2 ⟨rfl, rfl⟩
   go_wp2_with fail
   refine HI.out.mono ?_; rintro e w2 ⟨rfl, k2⟩
   go_wp2_with fail
   go_ret
   exact ⟨by rw [HU.out]; first | rfl | rw [he], kA.trans k2⟩
  ·have he : (((img b k : Nat) : Int) == k) = false := by simp; omega
   rw [decide_eq_false e] at HU
   clear e
   generalize img b k = m at *
   go_enter Tryz.func98, Tryz.ntmps98
   go_wp2_with fail
   refine (HM.out _).mono ?_; rintro e w2 ⟨rfl, rfl⟩
   go_wp2_with fail
   refine HI.out.mono ?_; rintro e w2 ⟨rfl, k2⟩
   go_wp2_with fail
   go_ret
   exact ⟨by rw [HU.out]; first | rfl | rw [he], kA.trans k2⟩
set_option maxRecDepth 20000 in
theorem isValuation_1_any (b : List Nat) (x : Int) (v : Value) (B : Nat) (w : World) (hc : BoxF w B b.length v) (hv : Ints w v (zs b)) (hb : b.length ≤ 8) (hbm : Bnd b.length b) :
  Calls Tryz.prog 97 #[.int .i64 x, .pointer (some ⟨B, 0, none⟩)] w fun e w' => e = .returned (.bool (!isUpI b x)) ∧ Keeps w w' := by
 have HU := hid (isUpsetI_any b x v w hv hb hbm)
 obtain ⟨c0, c1⟩ := hc
 obtain ⟨p, cap, rfl, _⟩ := hv
 generalize isUpI b x = r at *
 go_enter Tryz.func97, Tryz.ntmps97
 go_wp2_with fail
 refine HU.out.mono ?_; rintro e w2 ⟨rfl, k2⟩
 go_wp2_with fail
 go_ret
 exact ⟨rfl, k2⟩
theorem enters_isValuation_1 : Enters 97 := fun _ _ => by kernel_rfl
set_option maxRecDepth 20000 in
set_option maxHeartbeats 1000000 in
theorem isValuation_any (n : Int) (a vs : List Int) (v u : Value) (w : World) (hv : Ints w v a) (hu : Ints w u vs) :
  Calls Tryz.prog 41 #[.agg #[.int .i64 n, v], u] w fun e w' => e = .returned (.bool (isVal n a vs)) ∧ Keeps w w' := by
 have kA := (Keeps.refl w).alloc (.cells #[.int .i64 n, v] 31)
 have hbx := BoxF.made w n v 31
 have HP := hid (isPoset_any n a v _ (hv.keeps kA))
 have HV : Hid (isVal n a vs = (isPos n a && (decide (vs.length = 6) && vs.all (isUpI (a.map Int.toNat))))) := hid rfl
 cases h1 : isPos n a
 ·rw [h1] at HP HV
  simp only [Bool.false_and] at HV
  clear h1 hbx
  obtain ⟨p, cap, rfl, _⟩ := hv
  obtain ⟨q, cap2, rfl, _⟩ := hu
  go_enter Tryz.func41, Tryz.ntmps41
  go_wp2_with fail
  refine HP.out.mono ?_; rintro e w2 ⟨rfl, k2⟩
  go_wp2_with fail
  go_ret
  exact ⟨by rw [HV.out]; rfl, kA.trans k2⟩
 ·rw [h1] at HP HV
  obtain ⟨b, rfl, rfl, h8, hbm, _⟩ := (isPos_iff n a).1 h1
  rw [zs_toNat] at HV
  clear h1
  by_cases h6 : vs.length = 6
  ·rw [decide_eq_true h6] at HV
   have HC := hid (fun w1 (k : Keeps (w.alloc (.cells #[.int .i64 b.length, v] 31)) w1) => containsFuncI (fun x => !isUpI b x) 97 #[.pointer (some ⟨w.heap.size, 0, none⟩)] vs u w1 (hu.keeps (kA.trans k)) enters_isValuation_1 (fun x w2 _ k2 => isValuation_1_any b x v w.heap.size w2 (hbx.keeps (k.trans k2)) (hv.keeps (kA.trans (k.trans k2))) h8 hbm))
   have he : (!(vs.any fun x => !isUpI b x)) = vs.all (isUpI b) := by rw [List.all_eq_not_any_not]
   have HE := hid he; clear he
   obtain ⟨c0, c1⟩ := hbx
   obtain ⟨p, cap, rfl, _⟩ := hv
   obtain ⟨q, cap2, rfl, _⟩ := hu
   rw [h6] at *
   rw [zs_length] at *
   generalize (vs.any fun x => !isUpI b x) = r at *
   clear hbm h6
   go_enter Tryz.func41, Tryz.ntmps41
   go_wp2_with fail
   refine HP.out.mono ?_; rintro e w2 ⟨rfl, k2⟩
   go_wp2_with fail
   refine (HC.out _ k2).mono ?_; rintro e w3 ⟨rfl, k3⟩
   go_wp2_with fail
   go_ret
   exact ⟨by rw [HV.out, ← HE.out]; rfl, kA.trans (k2.trans k3)⟩
  ·rw [decide_eq_false h6] at HV
   simp only [Bool.false_and, Bool.and_false] at HV
   have hd : ((vs.length : Int) == 6) = false := by simp; omega
   obtain ⟨p, cap, rfl, _⟩ := hv
   obtain ⟨q, cap2, rfl, _⟩ := hu
   clear h6 hbx
   go_enter Tryz.func41, Tryz.ntmps41
   go_wp2_with fail
   refine HP.out.mono ?_; rintro e w2 ⟨rfl, k2⟩
   go_wp2_with fail
   go_ret
   exact ⟨by rw [HV.out]; rfl, kA.trans k2⟩
end Go.Proofs.YtfmmajgkjkmghaaGreat
