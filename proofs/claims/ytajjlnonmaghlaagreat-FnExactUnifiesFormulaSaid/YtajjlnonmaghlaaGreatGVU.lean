/- The decider: what tries asks of a formula of the left side. -/
import Derived.Test.YtajjlnonmaghlaaGreatGVR
namespace Go.Proofs.YtajjlnonmaghlaaGreat
open Go.RowKit
set_option maxRecDepth 20000 in
set_option maxHeartbeats 2000000 in
theorem tries_2_way (n : Nat) (ih : ProvesOk n) (G : List Fm) (c x y b : Fm) (hG : OkL G) (hc : OkF c) (hm : Fm.imp (Fm.imp x y) b ∈ G) (hn : wts G + wt c ≤ n) (hl : wts G + wt c ≤ 50000000) (p : Option Addr) (k q : Nat) (s tx : ByteArray) (d m b1 b2 : Nat) (w : World)
    (hv : Left w (.slice p k q) G) (htx : bts tx = (Fm.imp (Fm.imp x y) b).body) (hs : bts s = c.body) (hd : Dec w d m) (hb : S3 w b1 b2 d (.slice p k q) s) :
    Calls Tryz.prog 188 #[.string tx, .pointer (some ⟨b1, 0, none⟩), .pointer (some ⟨b2, 0, none⟩)] w (Says w d m (triesF G c (Fm.imp (Fm.imp x y) b))) := by
  have hOk := hG _ hm
  obtain ⟨hoxy, hob⟩ := OkF.imp hOk
  obtain ⟨hox, hoy⟩ := OkF.imp hoxy
  have hoyb := OkF.mkImp hoy hob
  have hwm := wts_mem hm
  have hlen := len_le_wt (Fm.imp (Fm.imp x y) b)
  have hii := (wt_impimp x y b).2
  have hib := wt_imp (Fm.imp x y) b
  have hwc := wt_ge c
  have hlxy : (Fm.imp x y).enc.length ≤ 50000000 := by simp only [Fm.enc, List.length_cons, List.length_append] at hlen ⊢; omega
  have hlb : b.enc.length ≤ 50000000 := by simp only [Fm.enc, List.length_cons, List.length_append] at hlen ⊢; omega
  have hlyb : (Fm.imp y b).enc.length ≤ 50000000 := by simp only [Fm.enc, List.length_cons, List.length_append] at hlen ⊢; omega
  have hlyb2 : y.enc.length + b.enc.length ≤ 1000000000 := by simp only [Fm.enc, List.length_cons, List.length_append] at hlyb; omega
  have hsz : tx.size ≤ 2147483648 := by
    have := body_len (Fm.imp (Fm.imp x y) b)
    rw [← bts_len, htx]; omega
  have hway := triesF_way (c := c) hm (K := Fm.imp y b :: G.filter (fun a => !decide (a = Fm.imp (Fm.imp x y) b))) (L := b :: G.filter (fun a => !decide (a = Fm.imp (Fm.imp x y) b))) (fun a => by simp) (fun a => by simp)
  rw [hway]
  have HI := hid (fun (T : List Fm) (u : Value) (w2 : World) (kw : Turns m w w2) (hu : Left w2 u T) (hT : OkL T) (hl2 : wts T ≤ 50000000) => instead_any G T _ tx htx hm p k q s u w2 (hv.turns kw) hu hG hT (by omega))
  have HT := hid (treeOf_any _ hOk.1 tx w htx hsz (by omega))
  have HP1 := hid (fun (R : List Fm) (hR : ∀ a, a ∈ R ↔ a ∈ [Fm.imp y b] ∨ a ∈ G.filter (fun a => !decide (a = Fm.imp (Fm.imp x y) b))) (hw : wts R + wt (Fm.imp (Fm.imp x y) b) ≤ wts G + wts [Fm.imp y b]) => by
    have h1 : wts R + wt (Fm.imp x y) < wts G + wt c := by simp only [wts] at hw; omega
    have h2 := ih R (Fm.imp x y) (okL_instead hG (okL_one hoyb) hR) hoxy (by omega) (by omega)
    rw [sqB_congr (sq_same (fun a => (hR a).trans (by simp) : ∀ a, a ∈ R ↔ a ∈ Fm.imp y b :: G.filter (fun a => !decide (a = Fm.imp (Fm.imp x y) b))))] at h2
    exact h2)
  have HP2 := hid (fun (R : List Fm) (hR : ∀ a, a ∈ R ↔ a ∈ [b] ∨ a ∈ G.filter (fun a => !decide (a = Fm.imp (Fm.imp x y) b))) (hw : wts R + wt (Fm.imp (Fm.imp x y) b) ≤ wts G + wts [b]) => by
    have h1 : wts R + wt c < wts G + wt c := by simp only [wts] at hw; omega
    have h2 := ih R c (okL_instead hG (okL_one hob) hR) hc (by omega) (by omega)
    rw [sqB_congr (sq_same (fun a => (hR a).trans (by simp) : ∀ a, a ∈ R ↔ a ∈ b :: G.filter (fun a => !decide (a = Fm.imp (Fm.imp x y) b))))] at h2
    exact h2)
  have hT1 : wts [Fm.imp y b] ≤ 50000000 := by simp only [wts]; omega
  have hT2 : wts [b] ≤ 50000000 := by simp only [wts]; omega
  have hw1 : (Fm.imp y b).wf := hoyb.1
  have hw2 : (Fm.imp x y).wf := hoxy.1
  have hw3 : b.wf := hob.1
  have hlenT : (Fm.imp (Fm.imp x y) b).enc.length ≤ 2147483648 := by omega
  have HD := hid hd
  have HS := hid hs
  clear hway hv htx hsz hd hs hlen hii hib hwc hwm hm hn hl
  generalize sqB (Fm.imp y b :: G.filter (fun a => !decide (a = Fm.imp (Fm.imp x y) b))) (Fm.imp x y) = r1 at *
  generalize sqB (b :: G.filter (fun a => !decide (a = Fm.imp (Fm.imp x y) b))) c = r2 at *
  go_enter Tryz.func188, Tryz.ntmps188
  go_wp2_with fail
  refine HT.out.mono ?_; rintro e w1 ⟨vt, rfl, hvt, k1⟩
  have hnt : Nds w1 vt (Fm.imp (Fm.imp x y) b).enc := hvt.nds hlenT
  obtain ⟨bt, ot, nt, ct, rfl, h0, h1, h2, h3, hk, _⟩ := hnt.root
  replace hk : w1.cell? ⟨bt, ot, none⟩ = some (.int .i64 4) := hk
  have HNT := hid hnt; clear hnt hvt
  go_wp2_with fail
  refine (first_any _ _ (Fm.imp x y) b.enc _ _ HNT.out rfl).mono ?_; rintro e w' ⟨v1, rfl, hv1, rfl⟩
  obtain ⟨bx, ox, nx, cx, rfl, g0, g1, g2, g3, gk, _⟩ := hv1.root
  replace gk : w1.cell? ⟨bx, ox, none⟩ = some (.int .i64 4) := gk
  have HV1 := hid hv1; clear hv1
  go_wp2_with fail
  refine (first_any _ _ (Fm.imp x y) b.enc _ _ HNT.out rfl).mono ?_; rintro e w' ⟨v1', rfl, hv1', rfl⟩
  obtain ⟨px, nx', cx', rfl⟩ := hv1'.shape
  have HV1' := hid hv1'; clear hv1'
  go_wp2_with fail
  refine (second_any _ _ (Fm.imp x y) b _ _ HNT.out rfl).mono ?_; rintro e w' ⟨v2, rfl, hv2, rfl⟩
  obtain ⟨py, ny, cy, rfl⟩ := hv2.shape
  have HV2 := hid hv2; clear hv2
  have hb1 := hb.keeps k1
  have tw := Turns.ofKeeps (m := m) k1
  have HSe := hid (second_any _ _ x y _ _ (HV1'.out.keeps ((Keeps.refl w1).drew)) rfl)
  have HL := hid (fun v (h1 : Nds w1.drew v y.enc) => (NdsL.lit2 (Nds.undrew h1) HV2.out).keeps (Keeps.refl _).drew)
  have hg1 := hid (fun o => S3.drew (S3.alloc hb1 o))
  go_wp2_with fail
  have k0 := Keeps.refl w1
  cases r1 with
  | true =>
    go_region_held3 (fun w' => w'.cell? ⟨b1, 0, none⟩ = some (.pointer (some ⟨d, 0, none⟩)) ∧ w'.cell? ⟨b2, 0, none⟩ = some (.slice p k q) ∧ w'.cell? ⟨b2, 1, none⟩ = some (.string s)) (first | exact hb1 | exact hg1.out _ | exact hb2 | exact hb3 | exact hb3.alloc _ | exact hb4 | exact hb5 | exact hb6 | exact hb7 | exact hb8 | exact hb8.alloc _ | exact hb9 | exact hb10) (first
      | (go_at_call 128; refine HSe.out.mono ?_; rintro e w' ⟨v3, rfl, hv3, rfl⟩; obtain ⟨p3, n3, c3, rfl⟩ := hv3.shape)
      | (go_at_call 189; refine (arrow_two y.enc b.enc _ _ (HL.out _ hv3) hlyb2).mono ?_; rintro e w2 ⟨v4, rfl, hv4, k2⟩; have hn4 : Nds w2 v4 (Fm.imp y b).enc := hv4.nds (Nat.le_trans hlyb (by omega)); have hb2 := (hg1.out _).keeps k2; have kk2 := (k0.alloc _).drew.trans k2; have tw2 := tw.keep kk2)
      | (go_at_call 37; first
          | ((with_reducible refine (text_any (Fm.imp y b) hw1 (Nat.le_trans hlyb (by omega)) _ _ hn4).mono ?_); rintro e w3 ⟨sb, rfl, hsb, k3⟩; have hb3 := hb2.keeps k3; have tw3 := tw2.keep k3)
          | ((with_reducible refine (text_any (Fm.imp x y) hw2 (Nat.le_trans hlxy (by omega)) _ w4 (HV1'.out.keeps (((kk2.trans k3).alloc _).trans k4))).mono ?_); rintro e w5 ⟨s5, rfl, hs5, k5⟩; have hb5 := hb4.keeps k5; have tw5 := tw4.keep k5)
          | ((with_reducible refine (text_any b hw3 (Nat.le_trans hlb (by omega)) _ w7 ((HV2.out.keeps ((((kk2.trans k3).alloc _).trans k4).trans k5 |>.trans k6)).turns t7)).mono ?_); rintro e w8 ⟨s8, rfl, hs8, k8⟩; have hb8 := hb7.keeps k8; have tw8 := tw7.keep k8))
      | (go_at_call 184; first
          | ((with_reducible refine (HI.out [Fm.imp y b] _ _ (tw3.alloc _) (Left.lit1 w3 hsb) (okL_one hoyb) hT1).mono ?_); rintro e w4 ⟨p4, n4, c4, R, rfl, hR, hmem, hwR, k4⟩; have hb4 := (hb3.alloc _).keeps k4; have tw4 := (tw3.alloc _).keep k4)
          | ((with_reducible refine (HI.out [b] _ _ (tw8.alloc _) (Left.lit1 w8 hs8) (okL_one hob) hT2).mono ?_); rintro e w9 ⟨p9, n9, c9, R2, rfl, hR2, hmem2, hwR2, k9⟩; have hb9 := (hb8.alloc _).keeps k9; have tw9 := (tw8.alloc _).keep k9))
      | (go_at_call 168; refine (proving_any p4 n4 c4 s s5 w5).mono ?_; rintro e w6 ⟨rfl, k6⟩; have hb6 := hb5.keeps k6; have tw6 := tw5.keep k6)
      | (go_at_call 125; first
          | ((with_reducible refine (HP1.out R hmem hwR p4 n4 c4 s5 d m w6 ((hR.keeps k5).keeps k6) hs5 (HD.out.keeps (k1.trans ((((kk2.trans k3).alloc _).trans k4).trans k5 |>.trans k6)))).mono ?_); rintro e w7 ⟨rfl, t7, hd7⟩; have hb7 := hb6.turns t7; have tw7 := tw6.trans t7)
          | ((with_reducible refine (HP2.out R2 hmem2 hwR2 p9 n9 c9 s d m w9 hR2 HS.out (hd7.keeps ((k8.alloc _).trans k9))).mono ?_); rintro e w10 ⟨rfl, t10, hd10⟩; have hb10 := hb9.turns t10; have tw10 := tw9.trans t10)))
    all_goals
      go_wp2
      go_ret
      exact ⟨by simp, tw10, hd10⟩
  | false =>
    refine wp_region_noPanic ?_
    refine wp_region_held_drew (S := (fun w' => w'.cell? ⟨b1, 0, none⟩ = some (.pointer (some ⟨d, 0, none⟩)) ∧ w'.cell? ⟨b2, 0, none⟩ = some (.slice p k q) ∧ w'.cell? ⟨b2, 1, none⟩ = some (.string s))) (by kernel_rfl) hb1 (fun hHeld => ?_)
    refine wpAnyH_take (i := 0) (oi := ⟨some 27, _, _, _, _, none⟩) (v := ?v0) rfl (by kernel_rfl) (by kernel_rfl) (by kernel_rfl) (fun _ _ _ h => h) (Or.inl ⟨by rfl, ?h0⟩) (by assumption) ?r0
    case h0 => (intro w hSw; (try dsimp only at hSw); go_simp; try with_reducible rfl)
    try simp only [Act.put, List.setIfInBounds_toArray, List.set_cons_zero, List.set_cons_succ]
    refine wpAnyH_take (i := 1) (oi := ⟨some 28, _, _, _, _, none⟩) (v := ?v1) rfl (by kernel_rfl) (by kernel_rfl) (by kernel_rfl) (fun _ _ _ h => h) (Or.inl ⟨by rfl, ?h1⟩) (by assumption) ?r1
    case h1 => (intro w hSw; (try dsimp only at hSw); go_simp; try with_reducible rfl)
    try simp only [Act.put, List.setIfInBounds_toArray, List.set_cons_zero, List.set_cons_succ]
    refine wpAnyH_take (i := 2) (oi := ⟨some 29, _, _, _, _, none⟩) (v := ?v2) rfl (by kernel_rfl) (by kernel_rfl) (by kernel_rfl) (fun _ _ _ h => h) (Or.inl ⟨by rfl, ?h2⟩) (by assumption) ?r2
    case h2 => (intro w hSw; (try dsimp only at hSw); go_simp; try with_reducible rfl)
    try simp only [Act.put, List.setIfInBounds_toArray, List.set_cons_zero, List.set_cons_succ]
    refine wpAnyH_take (i := 3) (oi := ⟨some 30, _, _, _, _, none⟩) (v := ?v3) rfl (by kernel_rfl) (by kernel_rfl) (by kernel_rfl) (fun _ _ _ h => h) (Or.inl ⟨by rfl, ?h3⟩) (by assumption) ?r3
    case h3 => (intro w hSw; (try dsimp only at hSw); go_simp; try with_reducible rfl)
    try simp only [Act.put, List.setIfInBounds_toArray, List.set_cons_zero, List.set_cons_succ]
    refine wpAnyH_take (i := 5) (oi := ⟨some 32, _, _, _, _, none⟩) (v := ?v5) rfl (by kernel_rfl) (by kernel_rfl) (by kernel_rfl) (fun _ _ _ h => h) (Or.inl ⟨by rfl, ?h5⟩) (by assumption) ?r5
    case h5 => (intro w hSw; (try dsimp only at hSw); go_simp; try with_reducible rfl)
    try simp only [Act.put, List.setIfInBounds_toArray, List.set_cons_zero, List.set_cons_succ]
    refine wpAnyH_take (i := 11) (oi := ⟨some 38, _, _, _, _, none⟩) (v := ?v11) rfl (by kernel_rfl) (by kernel_rfl) (by kernel_rfl) (fun _ _ _ h => h) (Or.inl ⟨by rfl, ?h11⟩) (by assumption) ?r11
    case h11 => (intro w hSw; (try dsimp only at hSw); go_simp; try with_reducible rfl)
    try simp only [Act.put, List.setIfInBounds_toArray, List.set_cons_zero, List.set_cons_succ]
    refine wpAnyH_ready (rs := [4]) (by kernel_rfl) (by simp) ?_
    refine AllReadyH.cons (o := ⟨some 31, _, _, _, _, none⟩) rfl (fun K hK => ?_) AllReadyH.nil
    go_simp
    go_at_call 128; refine HSe.out.mono ?_; rintro e w' ⟨v3, rfl, hv3, rfl⟩; obtain ⟨p3, n3, c3, rfl⟩ := hv3.shape
    refine hK.out _ _ (hb1) (fun hHeld => ?_)
    clear hK K
    try simp only [Act.put, List.setIfInBounds_toArray, List.set_cons_zero, List.set_cons_succ]
    refine wpAnyH_ready (rs := [6]) (by kernel_rfl) (by simp) ?_
    refine AllReadyH.cons (o := ⟨some 33, _, _, _, _, none⟩) rfl (fun K hK => ?_) AllReadyH.nil
    go_simp
    refine hK.out _ _ (hg1.out _) (fun hHeld => ?_)
    clear hK K
    try simp only [Act.put, List.setIfInBounds_toArray, List.set_cons_zero, List.set_cons_succ]
    refine wpAnyH_ready (rs := [7]) (by kernel_rfl) (by simp) ?_
    refine AllReadyH.cons (o := ⟨some 34, _, _, _, _, none⟩) rfl (fun K hK => ?_) AllReadyH.nil
    go_simp
    go_at_call 189; refine (arrow_two y.enc b.enc _ _ (HL.out _ hv3) hlyb2).mono ?_; rintro e w2 ⟨v4, rfl, hv4, k2⟩; have hn4 : Nds w2 v4 (Fm.imp y b).enc := hv4.nds (Nat.le_trans hlyb (by omega)); have hb2 := (hg1.out _).keeps k2; have kk2 := (k0.alloc _).drew.trans k2; have tw2 := tw.keep kk2
    refine hK.out _ _ (hb2) (fun hHeld => ?_)
    clear hK K
    try simp only [Act.put, List.setIfInBounds_toArray, List.set_cons_zero, List.set_cons_succ]
    refine wpAnyH_ready (rs := [8]) (by kernel_rfl) (by simp) ?_
    refine AllReadyH.cons (o := ⟨some 35, _, _, _, _, none⟩) rfl (fun K hK => ?_) AllReadyH.nil
    go_simp
    go_at_call 37; refine (text_any (Fm.imp y b) hw1 (Nat.le_trans hlyb (by omega)) _ _ hn4).mono ?_; rintro e w3 ⟨sb, rfl, hsb, k3⟩; have hb3 := hb2.keeps k3; have tw3 := tw2.keep k3
    refine hK.out _ _ (hb3) (fun hHeld => ?_)
    clear hK K
    try simp only [Act.put, List.setIfInBounds_toArray, List.set_cons_zero, List.set_cons_succ]
    refine wpAnyH_ready (rs := [9]) (by kernel_rfl) (by simp) ?_
    refine AllReadyH.cons (o := ⟨some 36, _, _, _, _, none⟩) rfl (fun K hK => ?_) AllReadyH.nil
    go_simp
    refine hK.out _ _ (hb3.alloc _) (fun hHeld => ?_)
    clear hK K
    try simp only [Act.put, List.setIfInBounds_toArray, List.set_cons_zero, List.set_cons_succ]
    refine wpAnyH_ready (rs := [10]) (by kernel_rfl) (by simp) ?_
    refine AllReadyH.cons (o := ⟨some 37, _, _, _, _, none⟩) rfl (fun K hK => ?_) AllReadyH.nil
    go_simp
    go_at_call 184; refine (HI.out [Fm.imp y b] _ _ (tw3.alloc _) (Left.lit1 w3 hsb) (okL_one hoyb) hT1).mono ?_; rintro e w4 ⟨p4, n4, c4, R, rfl, hR, hmem, hwR, k4⟩; have hb4 := (hb3.alloc _).keeps k4; have tw4 := (tw3.alloc _).keep k4
    refine hK.out _ _ (hb4) (fun hHeld => ?_)
    clear hK K
    try simp only [Act.put, List.setIfInBounds_toArray, List.set_cons_zero, List.set_cons_succ]
    refine wpAnyH_ready (rs := [12]) (by kernel_rfl) (by simp) ?_
    refine AllReadyH.cons (o := ⟨some 39, _, _, _, _, none⟩) rfl (fun K hK => ?_) AllReadyH.nil
    go_simp
    go_at_call 37; refine (text_any (Fm.imp x y) hw2 (Nat.le_trans hlxy (by omega)) _ w4 (HV1'.out.keeps (((kk2.trans k3).alloc _).trans k4))).mono ?_; rintro e w5 ⟨s5, rfl, hs5, k5⟩; have hb5 := hb4.keeps k5; have tw5 := tw4.keep k5
    refine hK.out _ _ (hb5) (fun hHeld => ?_)
    clear hK K
    try simp only [Act.put, List.setIfInBounds_toArray, List.set_cons_zero, List.set_cons_succ]
    refine wpAnyH_ready (rs := [13]) (by kernel_rfl) (by simp) ?_
    refine AllReadyH.cons (o := ⟨some 40, _, _, _, _, none⟩) rfl (fun K hK => ?_) AllReadyH.nil
    go_simp
    go_at_call 168; refine (proving_any p4 n4 c4 s s5 w5).mono ?_; rintro e w6 ⟨rfl, k6⟩; have hb6 := hb5.keeps k6; have tw6 := tw5.keep k6
    refine hK.out _ _ (hb6) (fun hHeld => ?_)
    clear hK K
    try simp only [Act.put, List.setIfInBounds_toArray, List.set_cons_zero, List.set_cons_succ]
    refine wpAnyH_ready (rs := [14]) (by kernel_rfl) (by simp) ?_
    refine AllReadyH.cons (o := ⟨some 41, _, _, _, _, none⟩) rfl (fun K hK => ?_) AllReadyH.nil
    go_simp
    go_at_call 125; refine (HP1.out R hmem hwR p4 n4 c4 s5 d m w6 ((hR.keeps k5).keeps k6) hs5 (HD.out.keeps (k1.trans ((((kk2.trans k3).alloc _).trans k4).trans k5 |>.trans k6)))).mono ?_; rintro e w7 ⟨rfl, t7, hd7⟩; have hb7 := hb6.turns t7; have tw7 := tw6.trans t7
    refine hK.out _ _ (hb7) (fun hHeld => ?_)
    clear hK K
    try simp only [Act.put, List.setIfInBounds_toArray, List.set_cons_zero, List.set_cons_succ]
    refine wpAnyH_take (i := 15) (oi := ⟨some 42, _, _, _, _, none⟩) (v := ?v15) rfl (by kernel_rfl) (by kernel_rfl) (by kernel_rfl) (fun _ _ _ h => h) (Or.inl ⟨by rfl, ?h15⟩) (by assumption) ?r15
    case h15 => (intro w hSw; (try dsimp only at hSw); go_simp; try with_reducible rfl)
    try simp only [Act.put, List.setIfInBounds_toArray, List.set_cons_zero, List.set_cons_succ]
    refine wpAnyH_take (i := 16) (oi := ⟨some 43, _, _, _, _, some (15, true)⟩) (v := undef) rfl (by kernel_rfl) (by kernel_rfl) (by kernel_rfl) (fun _ _ _ h => h) (Or.inr ⟨by rfl, rfl⟩) (by assumption) ?_
    try simp only [Act.put, List.setIfInBounds_toArray, List.set_cons_zero, List.set_cons_succ]
    refine wpAnyH_take (i := 17) (oi := ⟨some 44, _, _, _, _, some (15, true)⟩) (v := undef) rfl (by kernel_rfl) (by kernel_rfl) (by kernel_rfl) (fun _ _ _ h => h) (Or.inr ⟨by rfl, rfl⟩) (by assumption) ?_
    try simp only [Act.put, List.setIfInBounds_toArray, List.set_cons_zero, List.set_cons_succ]
    refine wpAnyH_take (i := 18) (oi := ⟨some 45, _, _, _, _, some (15, true)⟩) (v := undef) rfl (by kernel_rfl) (by kernel_rfl) (by kernel_rfl) (fun _ _ _ h => h) (Or.inr ⟨by rfl, rfl⟩) (by assumption) ?_
    try simp only [Act.put, List.setIfInBounds_toArray, List.set_cons_zero, List.set_cons_succ]
    refine wpAnyH_take (i := 19) (oi := ⟨some 46, _, _, _, _, some (15, true)⟩) (v := undef) rfl (by kernel_rfl) (by kernel_rfl) (by kernel_rfl) (fun _ _ _ h => h) (Or.inr ⟨by rfl, rfl⟩) (by assumption) ?_
    try simp only [Act.put, List.setIfInBounds_toArray, List.set_cons_zero, List.set_cons_succ]
    refine wpAnyH_ready (rs := [20]) (by kernel_rfl) (by simp) ?_
    refine AllReadyH.cons (o := ⟨some 47, _, _, _, _, some (15, true)⟩) rfl (fun K hK => ?_) AllReadyH.nil
    rw [if_neg (Bool.eq_false_iff.1 (by kernel_rfl))]
    refine hK.out _ _ (by assumption) (fun hHeld => ?_)
    clear hK K
    try simp only [Act.put, List.setIfInBounds_toArray, List.set_cons_zero, List.set_cons_succ]
    refine wpAnyH_ready (rs := [21]) (by kernel_rfl) (by simp) ?_
    refine AllReadyH.cons (o := ⟨some 48, _, _, _, _, some (15, true)⟩) rfl (fun K hK => ?_) AllReadyH.nil
    rw [if_neg (Bool.eq_false_iff.1 (by kernel_rfl))]
    refine hK.out _ _ (by assumption) (fun hHeld => ?_)
    clear hK K
    try simp only [Act.put, List.setIfInBounds_toArray, List.set_cons_zero, List.set_cons_succ]
    refine wpAnyH_ready (rs := [22]) (by kernel_rfl) (by simp) ?_
    refine AllReadyH.cons (o := ⟨some 49, _, _, _, _, some (15, true)⟩) rfl (fun K hK => ?_) AllReadyH.nil
    rw [if_neg (Bool.eq_false_iff.1 (by kernel_rfl))]
    refine hK.out _ _ (by assumption) (fun hHeld => ?_)
    clear hK K
    try simp only [Act.put, List.setIfInBounds_toArray, List.set_cons_zero, List.set_cons_succ]
    refine wpAnyH_ready (rs := [23]) (by kernel_rfl) (by simp) ?_
    refine AllReadyH.cons (o := ⟨some 50, _, _, _, _, some (15, true)⟩) rfl (fun K hK => ?_) AllReadyH.nil
    rw [if_neg (Bool.eq_false_iff.1 (by kernel_rfl))]
    refine hK.out _ _ (by assumption) (fun hHeld => ?_)
    clear hK K
    try simp only [Act.put, List.setIfInBounds_toArray, List.set_cons_zero, List.set_cons_succ]
    refine wpAnyH_take (i := 24) (oi := ⟨some 51, _, _, _, _, none⟩) (v := ?v24) rfl (by kernel_rfl) (by kernel_rfl) (by kernel_rfl) (fun _ _ _ h => h) (Or.inl ⟨by rfl, ?h24⟩) (by assumption) ?r24
    case h24 => (intro w hSw; (try dsimp only at hSw); go_simp; try with_reducible rfl)
    try simp only [Act.put, List.setIfInBounds_toArray, List.set_cons_zero, List.set_cons_succ]
    refine wpAnyH_take (i := 25) (oi := ⟨some 4, _, _, _, _, none⟩) (v := ?v25) rfl (by kernel_rfl) (by kernel_rfl) (by kernel_rfl) (fun _ _ _ h => h) (Or.inl ⟨by rfl, ?h25⟩) (by assumption) ?r25
    case h25 => (intro w hSw; (try dsimp only at hSw); go_simp; try with_reducible rfl)
    try simp only [Act.put, List.setIfInBounds_toArray, List.set_cons_zero, List.set_cons_succ]
    refine wpAnyH_done (by kernel_rfl) ?_ _
    refine NoPanic.normal ?_
    go_wp2
    go_ret
    exact ⟨by simp, tw7, hd7⟩
end Go.Proofs.YtajjlnonmaghlaaGreat
/- The decider: what tries asks of any formula of the left side. -/
namespace Go.Proofs.YtajjlnonmaghlaaGreat
open Go.RowKit
set_option maxRecDepth 20000 in
set_option maxHeartbeats 1000000 in
theorem tries_2_any (n : Nat) (ih : ProvesOk n) (G : List Fm) (c t : Fm) (hG : OkL G) (hc : OkF c) (hm : t ∈ G) (hn : wts G + wt c ≤ n) (hl : wts G + wt c ≤ 50000000) (p : Option Addr) (k q : Nat) (s tx : ByteArray) (d m b1 b2 : Nat) (w : World)
    (hv : Left w (.slice p k q) G) (htx : bts tx = t.body) (hs : bts s = c.body) (hd : Dec w d m) (hb : S3 w b1 b2 d (.slice p k q) s) :
    Calls Tryz.prog 188 #[.string tx, .pointer (some ⟨b1, 0, none⟩), .pointer (some ⟨b2, 0, none⟩)] w (Says w d m (triesF G c t)) := by
  have hOk := hG _ hm
  have hwm := wts_mem hm
  have hlen := len_le_wt t
  have hsz : tx.size ≤ 2147483648 := by
    have := body_len t
    rw [← bts_len, htx]; omega
  have hlenT : t.enc.length ≤ 2147483648 := by omega
  have HT := hid (treeOf_any _ hOk.1 tx w htx hsz (by omega))
  have HD := hid hd
  cases t with
  | var i =>
    rw [triesF_no (fun _ _ _ h => by cases h)]
    clear hv htx hs hd hb
    go_enter Tryz.func188, Tryz.ntmps188
    go_wp2_with fail
    refine HT.out.mono ?_; rintro e w1 ⟨vt, rfl, hvt, k1⟩
    have hnt : Nds w1 vt (Fm.var i).enc := hvt.nds hlenT
    obtain ⟨bt, ot, nt, ct, rfl, h0, h1, h2, h3, hk, _⟩ := hnt.root
    replace hk : w1.cell? ⟨bt, ot, none⟩ = some (.int .i64 0) := hk
    go_wp2_with fail
    go_ret
    exact ⟨rfl, Turns.ofKeeps k1, HD.out.keeps k1⟩
  | fls =>
    rw [triesF_no (fun _ _ _ h => by cases h)]
    clear hv htx hs hd hb
    go_enter Tryz.func188, Tryz.ntmps188
    go_wp2_with fail
    refine HT.out.mono ?_; rintro e w1 ⟨vt, rfl, hvt, k1⟩
    have hnt : Nds w1 vt (Fm.fls).enc := hvt.nds hlenT
    obtain ⟨bt, ot, nt, ct, rfl, h0, h1, h2, h3, hk, _⟩ := hnt.root
    replace hk : w1.cell? ⟨bt, ot, none⟩ = some (.int .i64 1) := hk
    go_wp2_with fail
    go_ret
    exact ⟨rfl, Turns.ofKeeps k1, HD.out.keeps k1⟩
  | and a1 a2 =>
    rw [triesF_no (fun _ _ _ h => by cases h)]
    clear hv htx hs hd hb
    go_enter Tryz.func188, Tryz.ntmps188
    go_wp2_with fail
    refine HT.out.mono ?_; rintro e w1 ⟨vt, rfl, hvt, k1⟩
    have hnt : Nds w1 vt (Fm.and a1 a2).enc := hvt.nds hlenT
    obtain ⟨bt, ot, nt, ct, rfl, h0, h1, h2, h3, hk, _⟩ := hnt.root
    replace hk : w1.cell? ⟨bt, ot, none⟩ = some (.int .i64 2) := hk
    go_wp2_with fail
    go_ret
    exact ⟨rfl, Turns.ofKeeps k1, HD.out.keeps k1⟩
  | or a1 a2 =>
    rw [triesF_no (fun _ _ _ h => by cases h)]
    clear hv htx hs hd hb
    go_enter Tryz.func188, Tryz.ntmps188
    go_wp2_with fail
    refine HT.out.mono ?_; rintro e w1 ⟨vt, rfl, hvt, k1⟩
    have hnt : Nds w1 vt (Fm.or a1 a2).enc := hvt.nds hlenT
    obtain ⟨bt, ot, nt, ct, rfl, h0, h1, h2, h3, hk, _⟩ := hnt.root
    replace hk : w1.cell? ⟨bt, ot, none⟩ = some (.int .i64 3) := hk
    go_wp2_with fail
    go_ret
    exact ⟨rfl, Turns.ofKeeps k1, HD.out.keeps k1⟩
  | box a1 => exact absurd hOk.2 (by simp [Fm.plain])
  | dia a1 => exact absurd hOk.2 (by simp [Fm.plain])
  | imp a b =>
    obtain ⟨hoa, hob⟩ := OkF.imp hOk
    cases a with
    | var i =>
      rw [triesF_no (fun _ _ _ h => by cases h)]
      clear hv htx hs hd hb
      go_enter Tryz.func188, Tryz.ntmps188
      go_wp2_with fail
      refine HT.out.mono ?_; rintro e w1 ⟨vt, rfl, hvt, k1⟩
      have hnt : Nds w1 vt (Fm.imp (Fm.var i) b).enc := hvt.nds hlenT
      obtain ⟨bt, ot, nt, ct, rfl, h0, h1, h2, h3, hk, _⟩ := hnt.root
      replace hk : w1.cell? ⟨bt, ot, none⟩ = some (.int .i64 4) := hk
      have HNT := hid hnt; clear hnt hvt
      go_wp2_with fail
      refine (first_any _ _ (Fm.var i) b.enc _ _ HNT.out rfl).mono ?_; rintro e w' ⟨v1, rfl, hv1, rfl⟩
      obtain ⟨bx, ox, nx, cx, rfl, g0, g1, g2, g3, gk, _⟩ := hv1.root
      replace gk : w1.cell? ⟨bx, ox, none⟩ = some (.int .i64 0) := gk
      go_wp2_with fail
      go_ret
      exact ⟨rfl, Turns.ofKeeps k1, HD.out.keeps k1⟩
    | fls =>
      rw [triesF_no (fun _ _ _ h => by cases h)]
      clear hv htx hs hd hb
      go_enter Tryz.func188, Tryz.ntmps188
      go_wp2_with fail
      refine HT.out.mono ?_; rintro e w1 ⟨vt, rfl, hvt, k1⟩
      have hnt : Nds w1 vt (Fm.imp (Fm.fls) b).enc := hvt.nds hlenT
      obtain ⟨bt, ot, nt, ct, rfl, h0, h1, h2, h3, hk, _⟩ := hnt.root
      replace hk : w1.cell? ⟨bt, ot, none⟩ = some (.int .i64 4) := hk
      have HNT := hid hnt; clear hnt hvt
      go_wp2_with fail
      refine (first_any _ _ (Fm.fls) b.enc _ _ HNT.out rfl).mono ?_; rintro e w' ⟨v1, rfl, hv1, rfl⟩
      obtain ⟨bx, ox, nx, cx, rfl, g0, g1, g2, g3, gk, _⟩ := hv1.root
      replace gk : w1.cell? ⟨bx, ox, none⟩ = some (.int .i64 1) := gk
      go_wp2_with fail
      go_ret
      exact ⟨rfl, Turns.ofKeeps k1, HD.out.keeps k1⟩
    | and a1 a2 =>
      rw [triesF_no (fun _ _ _ h => by cases h)]
      clear hv htx hs hd hb
      go_enter Tryz.func188, Tryz.ntmps188
      go_wp2_with fail
      refine HT.out.mono ?_; rintro e w1 ⟨vt, rfl, hvt, k1⟩
      have hnt : Nds w1 vt (Fm.imp (Fm.and a1 a2) b).enc := hvt.nds hlenT
      obtain ⟨bt, ot, nt, ct, rfl, h0, h1, h2, h3, hk, _⟩ := hnt.root
      replace hk : w1.cell? ⟨bt, ot, none⟩ = some (.int .i64 4) := hk
      have HNT := hid hnt; clear hnt hvt
      go_wp2_with fail
      refine (first_any _ _ (Fm.and a1 a2) b.enc _ _ HNT.out rfl).mono ?_; rintro e w' ⟨v1, rfl, hv1, rfl⟩
      obtain ⟨bx, ox, nx, cx, rfl, g0, g1, g2, g3, gk, _⟩ := hv1.root
      replace gk : w1.cell? ⟨bx, ox, none⟩ = some (.int .i64 2) := gk
      go_wp2_with fail
      go_ret
      exact ⟨rfl, Turns.ofKeeps k1, HD.out.keeps k1⟩
    | or a1 a2 =>
      rw [triesF_no (fun _ _ _ h => by cases h)]
      clear hv htx hs hd hb
      go_enter Tryz.func188, Tryz.ntmps188
      go_wp2_with fail
      refine HT.out.mono ?_; rintro e w1 ⟨vt, rfl, hvt, k1⟩
      have hnt : Nds w1 vt (Fm.imp (Fm.or a1 a2) b).enc := hvt.nds hlenT
      obtain ⟨bt, ot, nt, ct, rfl, h0, h1, h2, h3, hk, _⟩ := hnt.root
      replace hk : w1.cell? ⟨bt, ot, none⟩ = some (.int .i64 4) := hk
      have HNT := hid hnt; clear hnt hvt
      go_wp2_with fail
      refine (first_any _ _ (Fm.or a1 a2) b.enc _ _ HNT.out rfl).mono ?_; rintro e w' ⟨v1, rfl, hv1, rfl⟩
      obtain ⟨bx, ox, nx, cx, rfl, g0, g1, g2, g3, gk, _⟩ := hv1.root
      replace gk : w1.cell? ⟨bx, ox, none⟩ = some (.int .i64 3) := gk
      go_wp2_with fail
      go_ret
      exact ⟨rfl, Turns.ofKeeps k1, HD.out.keeps k1⟩
    | box a1 => exact absurd hoa.2 (by simp [Fm.plain])
    | dia a1 => exact absurd hoa.2 (by simp [Fm.plain])
    | imp x y => exact tries_2_way n ih G c x y b hG hc hm hn hl p k q s tx d m b1 b2 w hv htx hs hd hb
theorem tries_law {G : List Fm} {c : Fm} (hF : Final G) (hc : (∃ p, c = Fm.var p ∧ Fm.var p ∉ G) ∨ c = Fm.fls ∨ (∃ d e, c = Fm.or d e)) : Sq G c ↔ (∃ d e, c = Fm.or d e ∧ (Sq G d ∨ Sq G e)) ∨ (∃ x y b, Fm.imp (Fm.imp x y) b ∈ G ∧ Way G c x y b) := by
  constructor
  · exact final_complete hF hc
  · rintro (⟨d, e, rfl, h⟩ | ⟨x, y, b, hm, h⟩)
    · exact sq_orR h
    · exact way_sound hm h
open Classical in
theorem any_tries {G : List Fm} {c : Fm} : (G.any (triesF G c) = true) ↔ ∃ x y b, Fm.imp (Fm.imp x y) b ∈ G ∧ Way G c x y b := by
  rw [List.any_eq_true]
  constructor
  · rintro ⟨t, ht, h⟩
    obtain ⟨x, y, b, rfl, hw⟩ := of_decide_eq_true h
    exact ⟨x, y, b, ht, hw⟩
  · rintro ⟨x, y, b, hm, hw⟩
    exact ⟨_, hm, decide_eq_true ⟨x, y, b, rfl, hw⟩⟩
theorem tries_no {G : List Fm} {c : Fm} (hF : Final G) (hc : (∃ p, c = Fm.var p ∧ Fm.var p ∉ G) ∨ c = Fm.fls ∨ (∃ d e, c = Fm.or d e)) (h : ∀ d e, c = Fm.or d e → sqB G d = false ∧ sqB G e = false) : G.any (triesF G c) = sqB G c := by
  rw [Bool.eq_iff_iff, any_tries, sqB_iff, tries_law hF hc]
  constructor
  · exact fun h => .inr h
  · rintro (⟨d, e, rfl, h1⟩ | h1)
    · obtain ⟨h2, h3⟩ := h d e rfl
      rcases h1 with h1 | h1
      · rw [sqB_true h1] at h2; cases h2
      · rw [sqB_true h1] at h3; cases h3
    · exact h1
end Go.Proofs.YtajjlnonmaghlaaGreat
