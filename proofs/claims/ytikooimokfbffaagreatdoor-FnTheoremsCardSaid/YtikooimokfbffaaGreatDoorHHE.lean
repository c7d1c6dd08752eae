import Derived.Test.YtikooimokfbffaaGreatDoorHL1
import Derived.Test.YtikooimokfbffaaGreatDoorHQA
import Derived.Test.YtikooimokfbffaaGreatDoorHW4
/- Worlds in which some blocks are written; lists of owned node lists that lie apart. -/
namespace Go.Proofs.YtikooimokfbffaaGreatDoor
open Go.RowKit
def Apart (vs : List Value) : Prop := ∀ i j (hi : i < vs.length) (hj : j < vs.length), i ≠ j → ∀ k, vs[i].ownBlock = some k → vs[j].ownBlock ≠ some k
def Off (v : Value) (vs : List Value) : Prop := ∀ i (hi : i < vs.length) k, v.ownBlock = some k → vs[i].ownBlock ≠ some k
def blk (vs : List Value) (k : Nat) : Prop := ∃ i, ∃ h : i < vs.length, vs[i].ownBlock = some k
def RowsN (w : World) (B : Nat) (vs : List Value) (xs : List (List Nd)) : Prop := vs.length = xs.length ∧ ∀ i (h1 : i < vs.length) (h2 : i < xs.length), OwnN w B vs[i] xs[i]
theorem OwnN.touch {w w' : World} {S : Nat → Prop} {B : Nat} {v : Value} {x : List Nd} (h : OwnN w B v x) (k : Touch w w' S) (hS : ∀ i, v.ownBlock = some i → ¬ S i) : OwnN w' B v x := own_touch h k hS
theorem RowsN.nil (w : World) (B : Nat) : RowsN w B [] [] := ⟨rfl, fun i h => by simp at h⟩
theorem RowsN.snoc {w : World} {B : Nat} {v : Value} {vs : List Value} {x : List Nd} {xs : List (List Nd)} (h : OwnN w B v x) (hs : RowsN w B vs xs) : RowsN w B (vs ++ [v]) (xs ++ [x]) :=
 ⟨by simp [hs.1], fun i h1 h2 => by
  have hl := hs.1
  by_cases hi : i < vs.length
  ·rw [List.getElem_append_left hi, List.getElem_append_left (by omega)]; exact hs.2 i hi (by omega)
  ·simp at h1
   obtain rfl : i = vs.length := by omega
   rw [List.getElem_append_right (Nat.le_refl _), List.getElem_append_right (by omega)]
   simpa [hl] using h⟩
theorem RowsN.keeps {w w' : World} {B : Nat} {vs : List Value} {xs : List (List Nd)} (h : RowsN w B vs xs) (k : Keeps w w') : RowsN w' B vs xs := ⟨h.1, fun i h1 h2 => (h.2 i h1 h2).keeps k⟩
theorem RowsN.touch {w w' : World} {S : Nat → Prop} {B : Nat} {vs : List Value} {xs : List (List Nd)} (h : RowsN w B vs xs) (k : Touch w w' S) (hS : ∀ i, blk vs i → ¬ S i) : RowsN w' B vs xs :=
 ⟨h.1, fun i h1 h2 => (h.2 i h1 h2).touch k (fun j e => hS j ⟨i, h1, e⟩)⟩
theorem RowsN.lt {w : World} {B : Nat} {vs : List Value} {xs : List (List Nd)} (h : RowsN w B vs xs) {k : Nat} (hk : blk vs k) : B ≤ k ∧ k < w.heap.size := by
 obtain ⟨i, hi, e⟩ := hk
 exact (h.2 i hi (by have := h.1; omega)).len k e
theorem Apart.nil : Apart [] := fun i j hi => by simp at hi
theorem Off.nil (v : Value) : Off v [] := fun i hi => by simp at hi
theorem Off.not_blk {v : Value} {vs : List Value} (h : Off v vs) {k : Nat} (hk : v.ownBlock = some k) : ¬ blk vs k := fun ⟨i, hi, e⟩ => h i hi k hk e
theorem Apart.snoc {v : Value} {vs : List Value} (h : ∀ k, v.ownBlock = some k → ¬ blk vs k) (hs : Apart vs) : Apart (vs ++ [v]) := fun i j hi hj hne k hk => by
 simp at hi hj
 by_cases h1 : i < vs.length
 ·rw [List.getElem_append_left h1] at hk
  by_cases h2 : j < vs.length
  ·rw [List.getElem_append_left h2]; exact hs i j h1 h2 hne k hk
  ·obtain rfl : j = vs.length := by omega
   rw [List.getElem_append_right (Nat.le_refl _)]
   intro e; exact h k (by simpa using e) ⟨i, h1, hk⟩
 ·obtain rfl : i = vs.length := by omega
  rw [List.getElem_append_right (Nat.le_refl _)] at hk
  have h2 : j < vs.length := by omega
  rw [List.getElem_append_left h2]
  intro e; exact h k (by simpa using hk) ⟨j, h2, e⟩
def tot : List (List Nd) → Nat
 | [] => 0
 | x :: xs => x.length + tot xs
theorem tot_append (xs ys : List (List Nd)) : tot (xs ++ ys) = tot xs + tot ys := by
 induction xs with
 | nil => simp [tot]
 | cons x xs ih => simp [tot, ih]; omega
theorem tot_take (xs : List (List Nd)) (i : Nat) (h : i < xs.length) : tot (xs.take (i + 1)) = tot (xs.take i) + xs[i].length := by
 rw [List.take_succ_eq_append_getElem h, tot_append]; simp [tot]
theorem tot_le (xs : List (List Nd)) (i : Nat) : tot (xs.take i) ≤ tot xs := by
 have := tot_append (xs.take i) (xs.drop i)
 rw [List.take_append_drop] at this; omega
theorem tot_mem (xs : List (List Nd)) (i : Nat) (h : i < xs.length) : tot (xs.take i) + xs[i].length ≤ tot xs := by
 rw [← tot_take xs i h]; exact tot_le xs _
def OwnL (w : World) (B : Nat) (v : Value) (xs : List (List Nd)) : Prop := ∃ vs, w.ownsRow B 26 1 v xs.length vs ∧ RowsN w B vs xs ∧ Apart vs ∧ Off v vs
theorem rows_ndsL {w : World} {B : Nat} {p : Option Addr} {cap : Nat} {vs : List Value} {xs : List (List Nd)} (hat : At w p vs) (hr : RowsN w B vs xs) (h1 : xs.length ≤ cap) (h2 : cap ≤ maxLen) (h3 : xs.length ≤ 2147483648) (h4 : tot xs ≤ 2147483648) : NdsL w (.slice p xs.length cap) xs := by
 refine ⟨p, cap, rfl, h1, h2, h3, fun i hi => ?_⟩
 have hl := hr.1
 obtain ⟨b, off, hp, hc⟩ := hat i (by omega)
 refine ⟨b, off, fun _ => vs[i], hp, fun c hc' => ?_, (hr.2 i (by omega) hi).nds (by have := tot_mem xs i hi; omega)⟩
 obtain rfl : c = 0 := by omega
 simpa using hc
theorem OwnL.ndsL {w : World} {B : Nat} {v : Value} {xs : List (List Nd)} (h : OwnL w B v xs) (h3 : xs.length ≤ 2147483648) (h4 : tot xs ≤ 2147483648) : NdsL w v xs := by
 obtain ⟨vs, ho, hr, _, _⟩ := h
 obtain ⟨p, cap, rfl, h1, h2, hat⟩ := At.of_own ho
 exact rows_ndsL hat hr h1 h2 h3 h4
end Go.Proofs.YtikooimokfbffaaGreatDoor
namespace Go.Proofs.YtikooimokfbffaaGreatDoor
open Go.RowKit
set_option maxRecDepth 20000 in
set_option maxHeartbeats 1000000 in
theorem l02Variables_any (a : List Nd) (v : Value) (w : World) (hv : Nds w v a) (ha : a.all okNd = true) : Calls Tryz.prog 23 #[v] w (RetI w (mem (vm a))) := by
 have hv0 := hv
 obtain ⟨p, cap, rfl, hle, hmx, hata, hlen⟩ := hv
 unfold maxLen at hmx
 have HA := hid ha; clear ha
 go_enter Tryz.func23, Tryz.ntmps23
 go_wp2
 go_loop [3, 4] (fun c i' => ∃ k : Nat, k ≤ a.length ∧ i' = .int .i64 k ∧ c = .int .i64 (vm (a.take k))) (fun _ i => a.length - (intOf i).toNat)
 case atStart => exact ⟨0, by omega, rfl, by simp [vm]⟩
 case round =>
  obtain ⟨k, hk, rfl, rfl⟩ := hrel
  by_cases hlt : k < a.length
  ·obtain ⟨b1, o1, rfl, h1, h2⟩ := hata.nd k hlt
   clear hata hv0
   have hlt' : (k : Int) < a.length := by omega
   have hvl := vm_lt HA.out k hk
   have hst := vm_take a k hlt
   by_cases h0 : a[k].k = 0
   ·obtain ⟨s, hs, e⟩ := ok_sym HA.out k hlt h0
    rw [if_pos h0, e] at hst
    have hor := or_table ⟨_, hvl⟩ ⟨s, hs⟩
    rw [h0] at h1
    rw [e] at h2
    have HO := hid hor; clear hor
    have HS := hid hst; clear hst
    have H1 := hid (l01One_any (s : Int) w (by omega) (by omega))
    clear e h0
    generalize vm (List.take k a) = m at *
    go_wp2_with fail
    refine H1.out.mono ?_; rintro e w' ⟨rfl, rfl⟩
    simp only [Int.toNat_natCast]
    go_wp2_with fail
    go_round
    case rel => exact ⟨k + 1, by omega, by go_num, by rw [HS.out]; have h := HO.out; simp only [Int.toNat_natCast] at *; rw [h]⟩
    case measure => simp [intOf]; omega
   ·have hb : (a[k].k == 0) = false := by simp [h0]
    rw [if_neg h0] at hst
    have HS := hid hst; clear hst
    clear h0
    go_wp2
    go_round
    case rel => exact ⟨k + 1, by omega, by go_num, by rw [HS.out]⟩
    case measure => simp [intOf]; omega
  ·have hm64 := vm_lt HA.out k hk
   rw [List.take_of_length_le (by omega)] at *
   have HL := hid (l01List_any (vm a) w hm64)
   generalize vm a = m at *
   clear hata hv0
   go_wp2_with fail
   refine HL.out.mono ?_; rintro e w2 ⟨v2, rfl, hv2, k2⟩
   go_wp2_with fail
   go_ret
   exact ⟨_, rfl, hv2, k2⟩
end Go.Proofs.YtikooimokfbffaaGreatDoor
namespace Go.Proofs.YtikooimokfbffaaGreatDoor
open Go.RowKit
def varL (t : Fm) : List Nat := lowB (vm t.enc) 6
theorem varL_mem (t : Fm) : mem (vm t.enc) = zs (varL t) := rfl
theorem varL_lt {t : Fm} {x : Nat} (h : x ∈ varL t) : x < 6 := by
 unfold varL lowB at h
 simpa using (List.mem_filter.1 h).1
theorem varL_nodup (t : Fm) : (varL t).Nodup := by
 unfold varL lowB
 exact List.nodup_range.filter _
def okV (b : List Nat) (t : Fm) (N : Nat) : Bool := frcP b (numL (upL b) (varL t) N) t == 2 ^ b.length - 1
def vldR (b : List Nat) (t : Fm) : Bool := (List.range ((upL b).length ^ (varL t).length)).all (okV b t)
theorem vldR_true {b : List Nat} {t : Fm} (h : ∀ j, j < (upL b).length ^ (varL t).length → okV b t j = true) : vldR b t = true := by
 unfold vldR
 rw [List.all_eq_true]
 intro x hx
 exact h x (by simpa using hx)
theorem vldR_false {b : List Nat} {t : Fm} {j : Nat} (hj : j < (upL b).length ^ (varL t).length) (h : okV b t j = false) : vldR b t = false := by
 unfold vldR
 rw [Bool.eq_false_iff]
 intro e
 have := List.all_eq_true.1 e j (by simpa using hj)
 rw [h] at this; cases this
theorem numL_bnd {U V : List Nat} {M : Nat} (hM : 0 < M) (hU : ∀ x ∈ U, x < M) (N : Nat) : ∀ i, (numL U V N).getD i 0 < M := by
 induction V with
 | nil =>
  intro i
  have : (List.replicate 6 0).getD i 0 = 0 := by rw [List.getD_eq_getElem?_getD, List.getElem?_replicate]; split <;> rfl
  rw [numL, this]; exact hM
 | cons v V ih =>
  intro i
  rw [numL]
  by_cases e : v = i
  ·subst e
   by_cases h6 : v < 6
   ·have : ((numL U V N).set v (U.getD (N / U.length ^ V.length % U.length) 0)).getD v 0 = U.getD (N / U.length ^ V.length % U.length) 0 := by
     simp [List.getD_eq_getElem?_getD, numL_len, h6]
    rw [this]
    by_cases h : N / U.length ^ V.length % U.length < U.length
    ·rw [getD_get h]; exact hU _ (List.getElem_mem h)
    ·rw [List.getD_eq_getElem?_getD, List.getElem?_eq_none (by omega)]; exact hM
   ·have : ((numL U V N).set v (U.getD (N / U.length ^ V.length % U.length) 0)).getD v 0 = 0 := by
     rw [List.getD_eq_getElem?_getD, List.getElem?_eq_none (by rw [List.length_set, numL_len]; omega)]; rfl
    rw [this]; exact hM
  ·have : ((numL U V N).set v (U.getD (N / U.length ^ V.length % U.length) 0)).getD i 0 = (numL U V N).getD i 0 := by
    simp [List.getD_eq_getElem?_getD, e]
   rw [this]; exact ih i
theorem numL_Bnd (b : List Nat) (V : List Nat) (N : Nat) : Bnd b.length (numL (upL b) V N) := numL_bnd (Nat.two_pow_pos _) (fun _ h => upK_lt h) N
set_option maxRecDepth 20000 in
set_option maxHeartbeats 2000000 in
theorem l17First_any (b : List Nat) (hb : b.length ≤ 8) (hbm : Bnd b.length b) (hbm2 : ∀ x ∈ b, x < 2 ^ b.length) (t : Fm) (hw : t.wf) (hp : t.plain = true) (hcap : (upL b).length ^ (varL t).length ≤ 4096) (pv v : Value) (w : World)
  (hpv : Ints w pv (zs b)) (hv : Nds w v t.enc) :
  Calls Tryz.prog 83 #[.agg #[.int .i64 b.length, pv], v] w fun e w' => (∃ p n c x, e = .returned (.tuple #[.slice p n c, .int .i64 x, .bool (!vldR b t)])) ∧ Keeps w w' := by
 have kA := (Keeps.refl w).alloc (.cells #[.int .i64 b.length, pv] 34)
 obtain ⟨c0, c1⟩ := BoxF.made w b.length pv 34
 have HU := hid (fun wz (kz : Keeps w wz) => l16Upsets_any b pv wz (hpv.keeps kz) hb hbm2)
 have HV := hid (fun wz (kz : Keeps w wz) => l02Variables_any t.enc v wz (hv.keeps kz) (List.all_eq_true.2 (okNd_enc hw)))
 have hul : (upL b).length ≤ 256 := Nat.le_trans (upK_len b _) (two8 hb)
 have hvl : (varL t).length ≤ 6 := by
  have := List.length_filter_le (fun j => (vm t.enc).testBit j) (List.range 6)
  unfold varL lowB
  simpa using this
 have HPW := hid (fun wz => l17Power_any (upL b).length (varL t).length wz hul (by omega))
 rw [(powL_eq (upL_pos b)).1 hcap] at HPW
 have HVAL := hid (fun N vu vv wz (hN : N ≤ 1048576) (hu : Ints wz vu (zs (upL b))) (hq : Ints wz vv (zs (varL t))) => l17Values_any (upL b) (varL t) N vu vv wz hu hq (upL_pos b) hN (fun x hx => varL_lt hx))
 have HFR := hid (fun N vv wz (kz : Keeps w wz) (hq : Ints wz vv (zs (numL (upL b) (varL t) N))) => l17Force_any b (numL (upL b) (varL t) N) hb hbm (numL_Bnd b _ N) (numL_len _ _ _) t hw hp pv vv v wz (hpv.keeps kz) hq (hv.keeps kz))
 have HAL := hid (fun wz => l01Full_any (b.length : Int) wz (by omega) (by omega))
 have hpos : 0 < 2 ^ b.length := Nat.two_pow_pos _
 have e2 : (2 : Int) ^ b.length - 1 = ((2 ^ b.length - 1 : Nat) : Int) := by
  rw [Int.ofNat_sub (by omega)]; push_cast; rfl
 simp only [Int.toNat_natCast, e2] at HAL
 have HT := hid (fun (h : ∀ j, j < (upL b).length ^ (varL t).length → okV b t j = true) => vldR_true h)
 have HFA := hid (fun j (hj : j < (upL b).length ^ (varL t).length) (h : okV b t j = false) => vldR_false hj h)
 have HOK : Hid (∀ j, okV b t j = (((frcP b (numL (upL b) (varL t) j) t : Nat) : Int) == ((2 ^ b.length - 1 : Nat) : Int))) := hid (fun j => by
  unfold okV; rw [Bool.eq_iff_iff]; simp only [beq_iff_eq]; omega)
 have hnl : ∀ N, (zs (numL (upL b) (varL t) N)).length = 6 := fun N => by rw [zs_length, numL_len]
 have hUL := zs_length (upL b)
 have hVL := zs_length (varL t)
 rw [varL_mem] at HV
 obtain ⟨pq, cq, rfl, _⟩ := hpv
 obtain ⟨pn, cn, rfl, _⟩ := hv
 rw [zs_length b] at *
 clear hbm hbm2 hw hp e2 hpos
 have HNL := hid hnl; clear hnl
 obtain ⟨OK, hOK⟩ : ∃ OK : Nat → Bool, ∀ j, OK j = okV b t j := ⟨_, fun _ => rfl⟩
 obtain ⟨NL, hNL⟩ : ∃ NL : Nat → List Nat, ∀ j, NL j = numL (upL b) (varL t) j := ⟨_, fun _ => rfl⟩
 obtain ⟨FR, hFR⟩ : ∃ FR : Nat → Nat, ∀ j, FR j = frcP b (numL (upL b) (varL t) j) t := ⟨_, fun _ => rfl⟩
 simp only [← hFR] at *
 simp only [← hNL] at *
 simp only [← hOK] at *
 clear hOK hNL hFR
 generalize vldR b t = res at *
 generalize (upL b).length ^ (varL t).length = tot at *
 generalize upL b = U at *
 generalize varL t = V at *
 generalize 2 ^ b.length - 1 = M at *
 generalize b.length = n at *
 generalize t.enc.length = nn at *
 go_enter Tryz.func83, Tryz.ntmps83
 go_wp2_with fail
 refine (HU.out _ kA).mono ?_; rintro e w2 ⟨vu, rfl, hvu, k2⟩
 go_wp2_with fail
 refine (HV.out _ (kA.trans k2)).mono ?_; rintro e w3 ⟨vv, rfl, hvv, k3⟩
 have hui := (hvu.ints (by rw [hUL]; omega)).keeps k3
 have hvi := hvv.ints (by rw [hVL]; omega)
 have k23 := k2.trans k3
 have c0' := k23.cell c0
 have c1' := k23.cell c1
 have HUI := hid hui
 have HVI := hid hvi
 obtain ⟨pu, qu, rfl, _⟩ := hui
 obtain ⟨pw, qw, rfl, _⟩ := hvi
 rw [hUL] at HUI ⊢
 rw [hVL] at HVI ⊢
 have KW3 := hid (kA.trans k23)
 clear hvu hvv c0 c1 k2 k3 k23
 go_wp2_with fail
 refine (HPW.out _).mono ?_; rintro e w' ⟨rfl, rfl⟩
 go_wp2_with fail
 go_loopw [10] (fun s10 wr => ∃ k : Nat, k ≤ tot ∧ s10 = .int .i64 k ∧ Hid (∀ j, j < k → OK j = true) ∧ Keeps w3 wr) (fun s10 _ => tot - (intOf s10).toNat)
 case atStart => exact ⟨0, by omega, rfl, hid (fun j h => by omega), Keeps.refl w3⟩
 case round =>
  obtain ⟨k, hk, rfl, HI, kw⟩ := hrel
  have KW := hid kw
  by_cases hlt : k < tot
  ·have hlt' : (k : Int) < tot := by omega
   have HV1 := hid (HVAL.out k _ _ wr (by omega) (HUI.out.keeps kw) (HVI.out.keeps kw))
   have d0 := kw.cell c0'
   have d1 := kw.cell c1'
   clear kw
   go_wp2_with fail
   refine HV1.out.mono ?_; rintro e w4 ⟨v4, rfl, hv4, k4⟩
   have hv4i := hv4.ints (by rw [HNL.out]; omega)
   replace d0 := k4.cell d0
   replace d1 := k4.cell d1
   have KW4 := hid (KW.out.trans k4)
   have HF1 := hid (HFR.out k v4 w4 (KW3.out.trans KW4.out) hv4i)
   obtain ⟨p4, c4, rfl, -⟩ := hv4i
   rw [HNL.out] at HF1 ⊢
   clear hv4 k4
   have hok := HOK.out k
   generalize FR k = fr at *
   cases hc : (((fr : Nat) : Int) == (M : Int))
   ·have hne : (((fr : Nat) : Int) != (M : Int)) = true := by simp [bne, hc]
    rw [hc] at hok
    have HOKK := hid hok; clear hok hc
    go_wp2_with fail
    refine HF1.out.mono ?_; rintro e w5 ⟨rfl, k5⟩
    replace d0 := k5.cell d0
    replace d1 := k5.cell d1
    have KW5 := hid (KW4.out.trans k5)
    go_wp2_with fail
    refine (HAL.out _).mono ?_; rintro e w' ⟨rfl, rfl⟩
    go_wp2_with fail
    go_ret3
    exact ⟨⟨_, _, _, _, by rw [HFA.out k hlt HOKK.out]; rfl⟩, KW3.out.trans KW5.out⟩
   ·have hne : (((fr : Nat) : Int) != (M : Int)) = false := by simp [bne, hc]
    rw [hc] at hok
    have HOKK := hid hok; clear hok hc
    go_wp2_with fail
    refine HF1.out.mono ?_; rintro e w5 ⟨rfl, k5⟩
    replace d0 := k5.cell d0
    replace d1 := k5.cell d1
    have KW5 := hid (KW4.out.trans k5)
    go_wp2_with fail
    refine (HAL.out _).mono ?_; rintro e w' ⟨rfl, rfl⟩
    go_wp2_with fail
    go_roundw
    case rel => exact ⟨k + 1, by omega, by go_num, hid (fun j hj => by
     rcases Nat.lt_or_ge j k with h | h
     ·exact HI.out j h
     ·obtain rfl : j = k := by omega
      exact HOKK.out), KW5.out⟩
    case measure => simp [intOf] <;> omega
  ·have e : tot = k := by omega
   subst e
   have hlt' : ¬ (tot : Int) < tot := by omega
   go_wp2_with fail
   go_ret3
   exact ⟨⟨_, _, _, _, by rw [HT.out HI.out]; rfl⟩, KW3.out.trans KW.out⟩
set_option maxRecDepth 20000 in
theorem l17Valid_any (b : List Nat) (hb : b.length ≤ 8) (hbm : Bnd b.length b) (hbm2 : ∀ x ∈ b, x < 2 ^ b.length) (t : Fm) (hw : t.wf) (hp : t.plain = true) (hcap : (upL b).length ^ (varL t).length ≤ 4096) (pv v : Value) (w : World)
  (hpv : Ints w pv (zs b)) (hv : Nds w v t.enc) :
  Calls Tryz.prog 31 #[.agg #[.int .i64 b.length, pv], v] w fun e w' => e = .returned (.bool (vldR b t)) ∧ Keeps w w' := by
 have kA := (Keeps.refl w).alloc (.cells #[.int .i64 b.length, pv] 34)
 obtain ⟨c0, c1⟩ := BoxF.made w b.length pv 34
 have HF := hid (fun wz (kz : Keeps w wz) => l17First_any b hb hbm hbm2 t hw hp hcap pv v wz (hpv.keeps kz) (hv.keeps kz))
 obtain ⟨pq, cq, rfl, _⟩ := hpv
 obtain ⟨pn, cn, rfl, _⟩ := hv
 rw [zs_length b] at *
 clear hbm hbm2 hw hp hcap
 generalize vldR b t = res at *
 generalize b.length = n at *
 generalize t.enc.length = nn at *
 go_enter Tryz.func31, Tryz.ntmps31
 go_wp2_with fail
 refine (HF.out _ kA).mono ?_; rintro e w2 ⟨⟨p, m, c, x, rfl⟩, k2⟩
 go_wp2_with fail
 go_ret
 exact ⟨ret_bool (by simp), kA.trans k2⟩
end Go.Proofs.YtikooimokfbffaaGreatDoor
