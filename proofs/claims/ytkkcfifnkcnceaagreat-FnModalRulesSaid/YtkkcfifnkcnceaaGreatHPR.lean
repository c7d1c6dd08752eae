/- ElementaryParts: both sides. -/
import Derived.Test.YtkkcfifnkcnceaaGreatHMY
import Derived.Test.YtkkcfifnkcnceaaGreatHNV
import Derived.Test.YtkkcfifnkcnceaaGreatHHL
namespace Go.Proofs.YtkkcfifnkcnceaaGreat
open Go.RowKit
theorem elT_len {G : List Fm} (h : Fine G) : (elT G).length ≤ 40 * G.length := by
 unfold elT
 exact Nat.le_trans (List.length_filter_le _ _) (subT_len h)
theorem epG {ss tt : List ByteArray} (h : isQ ss tt = true) : Fine (fmL (ss ++ tt)) ∧ (fmL (ss ++ tt)).length ≤ 32 := by
 obtain ⟨h1, h2, h3, h4⟩ := isQ_iff h
 exact ⟨by rw [fmL_append]; exact (fmL_fine h3).append (fmL_fine h4), by rw [fmL_len, List.length_append]; omega⟩
set_option maxRecDepth 100000 in
set_option maxHeartbeats 4000000 in
theorem l12Elementary_any (ss tt : List ByteArray) (v u : Value) (w : World) (hv : Strs w v ss) (hu : Strs w u tt) (hs : Side ss) (ht : Side tt) (h16 : ss.length ≤ 16) (h16' : tt.length ≤ 16) :
  Calls Tryz.prog 72 #[.agg #[v, u]] w (RetSt w (elT (fmL (ss ++ tt)))) := by
 have hG : Fine (fmL (ss ++ tt)) := by rw [fmL_append]; exact (fmL_fine hs).append (fmL_fine ht)
 have hGl : (fmL (ss ++ tt)).length ≤ 32 := by rw [fmL_len, List.length_append]; omega
 have kA := ((Keeps.refl w).alloc (.cells #[v, u] 26)).alloc (.cells #[] 9)
 obtain ⟨c0, c1⟩ := BoxQ.made w v u 26
 have hsz : (w.alloc (.cells #[v, u] 26)).heap.size = w.heap.size + 1 := by simp
 have hE0 := OwnS.empty (w.alloc (.cells #[v, u] 26))
 rw [hsz] at hE0
 have HE0 := hid hE0
 have HPA := hid (l11Parts_any ss tt v u _ (hv.keeps kA) (hu.keeps kA) hs ht h16 h16')
 have hTL := subT_len hG
 have HTX : Hid (∀ i (h : i < (subT (fmL (ss ++ tt))).length), IsTx (subT (fmL (ss ++ tt)))[i] (txF (subT (fmL (ss ++ tt)))[i])) := hid (fun i h => by
  obtain ⟨t, _, h2⟩ := subT_tx hG (List.getElem_mem h)
  exact txF_tx ⟨t, h2⟩)
 obtain ⟨p, c, rfl, _⟩ := hv.shape
 obtain ⟨q, c2, rfl, _⟩ := hu.shape
 clear hv hu hs ht hG hE0
 generalize fmL (ss ++ tt) = G at *
 have HZ := hid (elTo_zero G)
 have HEN := hid (elTo_end G)
 have HLN := hid (elTo_len G)
 have HY := hid (fun i (h : i < (subT G).length) => elTo_yes h)
 have HNO := hid (fun i (h : i < (subT G).length) => elTo_no h)
 replace c0 := ((Keeps.refl _).alloc (.cells #[] 9)).cell c0
 replace c1 := ((Keeps.refl _).alloc (.cells #[] 9)).cell c1
 go_enter Tryz.func72, Tryz.ntmps72
 go_wp2_with fail
 refine HPA.out.mono ?_; rintro e w2 ⟨b2, n2, c3, rfl, hv2, k2⟩
 have kk := kA.trans k2
 have HV2 := hid (hv2.strs (by omega))
 obtain ⟨hn, hn2, hn3⟩ : n2 = (subT G).length ∧ c3 ≤ maxLen ∧ n2 ≤ c3 := by obtain ⟨p', c', e, h1, h2, _⟩ := At.of_own hv2; cases e; exact ⟨rfl, h2, h1⟩
 subst hn
 unfold maxLen at hn2
 have HE2 := hid (HE0.out.keeps k2)
 clear hv2 HE0
 go_wp2
 go_loopw [3, 5] (fun o i' wr => ∃ i : Nat, i ≤ (subT G).length ∧ i' = .int .i64 i ∧ ((o = .slice (some ⟨w.heap.size + 1, 0, none⟩) 0 0 ∧ elTo G i = []) ∨ OwnS wr w2.heap.size o (elTo G i)) ∧ Keeps w2 wr) (fun _ i' _ => (subT G).length - (intOf i').toNat)
 case atStart => exact ⟨0, by omega, rfl, .inl ⟨by simp, HZ.out⟩, Keeps.refl _⟩
 case round =>
  obtain ⟨i, hi, rfl, hown, kw⟩ := hrel
  by_cases hlt : i < (subT G).length
  ·have hlt' : (i : Int) < (subT G).length := by omega
   obtain ⟨b1, o1, e1, h1⟩ := (HV2.out.keeps kw).get i hlt
   have hb : b2 = ⟨b1, o1, none⟩ := Option.some.inj e1
   subst hb
   have htx := HTX.out i hlt
   have HP := hid (l02GoodA (subT G)[i] wr (by have := htx.small; omega))
   unfold GoodR at HP
   have h40 := htx.2.2
   have hix := isTx_iff.2 ⟨_, htx⟩
   have HTX1 := hid htx
   have hy := HY.out i hlt
   have hno := HNO.out i hlt
   have HYS := hid hy; clear hy
   have HNS := hid hno; clear hno
   have hll := HLN.out i
   have hsz2 := kw.size
   clear htx
   generalize (subT G)[i] = x at *
   generalize txF x = t at *
   go_wp2_with fail
   refine HP.out.mono ?_; rintro e w5 ⟨v5, rfl, k5, hg5⟩
   have hv5 := hg5 t HTX1.out
   rw [hix]
   have hnd := hv5.nds (by omega)
   obtain ⟨b5, o5, n5, c5, rfl, hn0, hn1, hn2', hn3', hc, _⟩ := hnd.root
   unfold maxLen at hn2'
   have hx5 := k5.cell h1
   have kw5 := kw.trans k5
   clear hnd hv5 hg5
   rcases el_kind t with ⟨he, hk⟩ | ⟨he, hk⟩
   ·rcases hk with hk | hk | hk
    ·rw [hk] at hc
     rcases hown with ⟨rfl, hL0⟩ | hoi
     ·go_wp2_with (at_builtin; refine appSF rfl _ _ rfl _ rfl _ [x] rfl (Strs.lit1 w5 _) (by simp) (by simp) ?_; intro v7 w7 hv7 kq)
      go_roundw
      case rel => exact ⟨i + 1, by omega, by go_num, .inr (by rw [HYS.out he, hL0]; exact hv7.mono (by have := kw5.size; simp; omega)), (kw5.alloc _).trans kq⟩
      case measure => simp [intOf]; omega
     ·have ho5 := hoi.keeps k5
      have hs5 := kw5.size
      clear hoi
      go_wp2_with (at_builtin; refine appS rfl _ _ rfl w2.heap.size _ (elTo G i) rfl (ho5.keeps ((Keeps.refl w5).alloc _)) _ [x] rfl (Strs.lit1 w5 _) (by simp; omega) (by simp; omega) ?_; intro v7 w7 hv7 hg7 hr7; have k7 := (kw5.alloc (.cells #[.string x] 9)).grown hg7 (fun q hq => hr7 q hq))
      go_roundw
      case rel => exact ⟨i + 1, by omega, by go_num, .inr (by rw [HYS.out he]; exact hv7), k7⟩
      case measure => simp [intOf]; omega
    ·rw [hk] at hc
     rcases hown with ⟨rfl, hL0⟩ | hoi
     ·go_wp2_with (at_builtin; refine appSF rfl _ _ rfl _ rfl _ [x] rfl (Strs.lit1 w5 _) (by simp) (by simp) ?_; intro v7 w7 hv7 kq)
      go_roundw
      case rel => exact ⟨i + 1, by omega, by go_num, .inr (by rw [HYS.out he, hL0]; exact hv7.mono (by have := kw5.size; simp; omega)), (kw5.alloc _).trans kq⟩
      case measure => simp [intOf]; omega
     ·have ho5 := hoi.keeps k5
      have hs5 := kw5.size
      clear hoi
      go_wp2_with (at_builtin; refine appS rfl _ _ rfl w2.heap.size _ (elTo G i) rfl (ho5.keeps ((Keeps.refl w5).alloc _)) _ [x] rfl (Strs.lit1 w5 _) (by simp; omega) (by simp; omega) ?_; intro v7 w7 hv7 hg7 hr7; have k7 := (kw5.alloc (.cells #[.string x] 9)).grown hg7 (fun q hq => hr7 q hq))
      go_roundw
      case rel => exact ⟨i + 1, by omega, by go_num, .inr (by rw [HYS.out he]; exact hv7), k7⟩
      case measure => simp [intOf]; omega
    ·rw [hk] at hc
     rcases hown with ⟨rfl, hL0⟩ | hoi
     ·go_wp2_with (at_builtin; refine appSF rfl _ _ rfl _ rfl _ [x] rfl (Strs.lit1 w5 _) (by simp) (by simp) ?_; intro v7 w7 hv7 kq)
      go_roundw
      case rel => exact ⟨i + 1, by omega, by go_num, .inr (by rw [HYS.out he, hL0]; exact hv7.mono (by have := kw5.size; simp; omega)), (kw5.alloc _).trans kq⟩
      case measure => simp [intOf]; omega
     ·have ho5 := hoi.keeps k5
      have hs5 := kw5.size
      clear hoi
      go_wp2_with (at_builtin; refine appS rfl _ _ rfl w2.heap.size _ (elTo G i) rfl (ho5.keeps ((Keeps.refl w5).alloc _)) _ [x] rfl (Strs.lit1 w5 _) (by simp; omega) (by simp; omega) ?_; intro v7 w7 hv7 hg7 hr7; have k7 := (kw5.alloc (.cells #[.string x] 9)).grown hg7 (fun q hq => hr7 q hq))
      go_roundw
      case rel => exact ⟨i + 1, by omega, by go_num, .inr (by rw [HYS.out he]; exact hv7), k7⟩
      case measure => simp [intOf]; omega
   ·rcases hk with hk | hk | hk | hk
    ·rw [hk] at hc
     go_wp2_with fail
     go_roundw
     case rel => exact ⟨i + 1, by omega, by go_num, by rw [HNS.out he]; exact hown.imp id (fun h => h.keeps k5), kw5⟩
     case measure => simp [intOf]; omega
    ·rw [hk] at hc
     go_wp2_with fail
     go_roundw
     case rel => exact ⟨i + 1, by omega, by go_num, by rw [HNS.out he]; exact hown.imp id (fun h => h.keeps k5), kw5⟩
     case measure => simp [intOf]; omega
    ·rw [hk] at hc
     go_wp2_with fail
     go_roundw
     case rel => exact ⟨i + 1, by omega, by go_num, by rw [HNS.out he]; exact hown.imp id (fun h => h.keeps k5), kw5⟩
     case measure => simp [intOf]; omega
    ·rw [hk] at hc
     go_wp2_with fail
     go_roundw
     case rel => exact ⟨i + 1, by omega, by go_num, by rw [HNS.out he]; exact hown.imp id (fun h => h.keeps k5), kw5⟩
     case measure => simp [intOf]; omega
  ·obtain rfl : i = (subT G).length := by omega
   have hlt' : ¬ (((subT G).length : Int) < (subT G).length) := by omega
   rw [HEN.out] at hown
   have hfin : ∀ o, ((o = .slice (some ⟨w.heap.size + 1, 0, none⟩) 0 0 ∧ elT G = []) ∨ OwnS wr w2.heap.size o (elT G)) → OwnS wr w.heap.size o (elT G) := by
    intro o ho
    rcases ho with ⟨rfl, h0⟩ | h
    ·rw [h0]; exact (HE2.out.keeps kw).mono (by omega)
    ·exact h.mono kk.size
   have hfo := hfin _ hown
   clear hown hfin
   go_wp2
   go_ret
   exact ⟨_, rfl, hfo, kk.trans kw⟩
end Go.Proofs.YtkkcfifnkcnceaaGreat
namespace Go.Proofs.YtkkcfifnkcnceaaGreat
open Go.RowKit
noncomputable def seE (ss tt : List ByteArray) : List Fm := elF (fmL (ss ++ tt))
noncomputable def seN (ss tt : List ByteArray) : Nat := 2 ^ (seE ss tt).length
noncomputable def lgN (s : ByteArray) : Nat := @dite _ (isLg s = true) (Classical.propDecidable _) (fun h => Classical.choose (isLg_of h)) (fun _ => 0)
theorem lgN_spec {s : ByteArray} (h : isLg s = true) : lgN s < 8 ∧ s = lgS (lgN s) := by
 unfold lgN
 rw [dif_pos h]
 exact Classical.choose_spec (isLg_of h)
noncomputable def srC (s : ByteArray) (ss tt : List ByteArray) : Int := if isLg s = true then (if isQ ss tt = true then (if (elT (fmL (ss ++ tt))).length ≤ 8 then 0 else 3) else 1) else 2
structure SrOk (s : ByteArray) (ss tt : List ByteArray) : Prop where
 lg : lgN s < 8
 eq : s = lgS (lgN s)
 hs : Side ss
 ht : Side tt
 h1 : ss.length ≤ 16
 h2 : tt.length ≤ 16
 h8 : (seE ss tt).length ≤ 8
 hN : seN ss tt ≤ 256
theorem srC_ok {s : ByteArray} {ss tt : List ByteArray} (h : srC s ss tt = 0) : SrOk s ss tt := by
 unfold srC at h
 split at h
 ·rename_i hl
  split at h
  ·rename_i hq
   split at h
   ·rename_i h8
    obtain ⟨a, b, c, d⟩ := isQ_iff hq
    have h8' : (seE ss tt).length ≤ 8 := by unfold seE; rw [elF_len]; exact h8
    exact ⟨(lgN_spec hl).1, (lgN_spec hl).2, c, d, a, b, h8', two8 h8'⟩
   ·cases h
  ·cases h
 ·cases h
theorem liveL_get (L : Nat) (E : List Fm) (N t : Nat) (h : t < N) : (liveL L E N).getD t false = liveB L E N t := by
 unfold liveL
 rw [List.getD_eq_getElem?_getD, List.getElem?_map, List.getElem?_range h]
 rfl
theorem refL_get (E A B : List Fm) (N t : Nat) (h : t < N) : (refL E A B N).getD t false = refB E A B t := by
 unfold refL
 rw [List.getD_eq_getElem?_getD, List.getElem?_map, List.getElem?_range h]
 rfl
theorem liveL_len (L : Nat) (E : List Fm) (N : Nat) : (liveL L E N).length = N := by simp [liveL]
theorem refL_len (E A B : List Fm) (N : Nat) : (refL E A B N).length = N := by simp [refL]
theorem refuting_fst (r L : Nat) (E A B : List Fm) (N : Nat) (ss : List ByteArray) (hN : N ≤ 256) (w : World) (h : NwR w r L E N (refL E A B N) ss) :
  Calls Tryz.prog 80 #[.pointer (some ⟨r, 0, none⟩)] w fun e w' => e = .returned (.int .i64 (fstI L E N A B)) ∧ w = w' := by
 obtain ⟨v5, c5, b5⟩ := h.ty.c5
 obtain ⟨v4, c4, b4⟩ := h.c4
 refine (refuting_any r N hN (liveL L E N) (refL E A B N) (liveL_len L E N) (refL_len E A B N) v4 v5 w h.ty.c3 c4 c5 b4 b5).mono ?_
 rintro e w' ⟨rfl, rfl⟩
 refine ⟨ret_int ?_, rfl⟩
 exact idx_same _ _ N (fun t ht => by rw [liveL_get L E N t ht, refL_get E A B N t ht])
set_option maxRecDepth 100000 in
theorem isModalTheorem_any (s : ByteArray) (ss tt : List ByteArray) (v u : Value) (w : World) (hv : Strs w v ss) (hu : Strs w u tt) (hk : SrOk s ss tt) :
  Calls Tryz.prog 37 #[.string s, .agg #[v, u]] w fun e w' => e = .returned (.bool (thmB (lgN s) (seE ss tt) (seN ss tt) (fmL ss) (fmL tt))) ∧ Keeps w w' := by
 have kA := (Keeps.refl w).alloc (.cells #[v, u] 26)
 obtain ⟨c0, c1⟩ := BoxQ.made w v u 26
 have HNT := hid (newTypes_any (lgN s) hk.lg ss tt v u _ (hv.keeps kA) (hu.keeps kA) hk.hs hk.ht hk.h1 hk.h2 hk.h8)
 rw [← hk.eq] at HNT
 have HRF := hid (fun r wz h => refuting_fst r (lgN s) (seE ss tt) (fmL ss) (fmL tt) (seN ss tt) (elT (fmL (ss ++ tt))) hk.hN wz h)
 have HD : Hid (thmB (lgN s) (seE ss tt) (seN ss tt) (fmL ss) (fmL tt) = decide (fstI (lgN s) (seE ss tt) (seN ss tt) (fmL ss) (fmL tt) < 0)) := hid rfl
 rw [HD.out]
 obtain ⟨p, c, rfl, _⟩ := hv.shape
 obtain ⟨q, c2, rfl, _⟩ := hu.shape
 clear hv hu hk
 generalize fstI (lgN s) (seE ss tt) (seN ss tt) (fmL ss) (fmL tt) = j at *
 go_enter Tryz.func37, Tryz.ntmps37
 go_wp2_with fail
 refine HNT.out.mono ?_; rintro e w2 ⟨r, rfl, k2, hr⟩
 have HR2 := hid (HRF.out r w2 hr)
 clear hr
 go_wp2_with fail
 refine HR2.out.mono ?_; rintro e w3 ⟨rfl, rfl⟩
 go_wp2_with fail
 go_ret
 exact ⟨ret_bool rfl, kA.trans k2⟩
set_option maxHeartbeats 1000000 in
theorem indexFuncQ (b : Bool) (f : FuncId) (v u : Value) (g : Nat) (w : World) (hv : ∃ p n c, v = .slice p n c) (hu : ∃ p n c, u = .slice p n c) (c0 : w.cell? ⟨g, 0, none⟩ = some v) (c1 : w.cell? ⟨g, 1, none⟩ = some u) (hcf : Enters f)
  (hf : ∀ w1, Keeps w w1 → Calls Tryz.prog f #[.agg #[v, u]] w1 fun e w2 => e = .returned (.bool b) ∧ Keeps w1 w2) :
  Calls Tryz.prog 69 #[.slice (some ⟨g, 0, none⟩) 1 1, .func (.func f) #[] #[]] w fun e w' => e = .returned (.int .i64 (if b then 0 else -1)) ∧ Keeps w w' := by
 have HF := hid hf; clear hf
 have hcf' : ∀ args w, (callFunc f args).run Tryz.prog w = .ok (.enter f args) w := hcf
 clear hcf
 obtain ⟨p, n, c, rfl⟩ := hv
 obtain ⟨q, m, d, rfl⟩ := hu
 cases b
 ·go_enter Tryz.func69, Tryz.ntmps69
  go_wp2
  go_loopw [4, 8] (fun r i' wr => ∃ k : Nat, k ≤ 1 ∧ Keeps w wr ∧ i' = .int .i64 k ∧ r = .int .i64 0) (fun _ i _ => 1 - (intOf i).toNat)
  case atStart => exact ⟨0, by omega, Keeps.refl w, rfl, rfl⟩
  case round =>
   obtain ⟨k, hk, kw, rfl, rfl⟩ := hrel
   by_cases hlt : k = 0
   ·subst hlt
    have e0 := kw.cell c0
    have e1 := kw.cell c1
    have HF1 := hid (HF.out wr kw)
    go_wp2_with ((with_reducible refine HF1.out.mono ?_); rintro e w2 ⟨rfl, k2⟩)
    go_roundw
    case rel => exact ⟨1, by omega, kw.trans k2, by go_num, rfl⟩
    case measure => simp [intOf]
   ·obtain rfl : k = 1 := by omega
    go_wp2
    go_ret
    exact ⟨rfl, kw⟩
 ·go_enter Tryz.func69, Tryz.ntmps69
  go_wp2
  go_loopw [4, 8] (fun r i' wr => Keeps w wr ∧ i' = .int .i64 0 ∧ r = .int .i64 0) (fun _ i _ => 1 - (intOf i).toNat)
  case atStart => exact ⟨Keeps.refl w, rfl, rfl⟩
  case round =>
   obtain ⟨kw, rfl, rfl⟩ := hrel
   have e0 := kw.cell c0
   have e1 := kw.cell c1
   have HF1 := hid (HF.out wr kw)
   go_wp2_with ((with_reducible refine HF1.out.mono ?_); rintro e w2 ⟨rfl, k2⟩)
   go_ret
   exact ⟨rfl, kw.trans k2⟩
theorem containsFuncQ (b : Bool) (f : FuncId) (v u : Value) (g : Nat) (w : World) (hv : ∃ p n c, v = .slice p n c) (hu : ∃ p n c, u = .slice p n c) (c0 : w.cell? ⟨g, 0, none⟩ = some v) (c1 : w.cell? ⟨g, 1, none⟩ = some u) (hcf : Enters f)
  (hf : ∀ w1, Keeps w w1 → Calls Tryz.prog f #[.agg #[v, u]] w1 fun e w2 => e = .returned (.bool b) ∧ Keeps w1 w2) :
  Calls Tryz.prog 28 #[.slice (some ⟨g, 0, none⟩) 1 1, .func (.func f) #[] #[]] w fun e w' => e = .returned (.bool b) ∧ Keeps w w' := by
 have H := hid (indexFuncQ b f v u g w hv hu c0 c1 hcf hf)
 clear hv hu hf hcf c0 c1
 cases b
 ·go_enter Tryz.func28, Tryz.ntmps28
  go_wp2_with (go_at_call 69; refine H.out.mono ?_; rintro e w2 ⟨rfl, k2⟩)
  go_ret
  exact ⟨rfl, k2⟩
 ·go_enter Tryz.func28, Tryz.ntmps28
  go_wp2_with (go_at_call 69; refine H.out.mono ?_; rintro e w2 ⟨rfl, k2⟩)
  go_ret
  exact ⟨rfl, k2⟩
theorem searchable1_any (ss tt : List ByteArray) (v u : Value) (w : World) (hv : Strs w v ss) (hu : Strs w u tt) (hs : Mid ss) (ht : Mid tt) :
  Calls Tryz.prog 76 #[.agg #[v, u]] w fun e w' => e = .returned (.bool (!isQ ss tt)) ∧ Keeps w w' := by
 have kA := (Keeps.refl w).alloc (.cells #[v, u] 26)
 obtain ⟨c0, c1⟩ := BoxQ.made w v u 26
 have HI := hid (isModalSequent_any ss tt v u _ (hv.keeps kA) (hu.keeps kA) hs ht)
 obtain ⟨p, c, rfl, _⟩ := hv.shape
 obtain ⟨q, c2, rfl, _⟩ := hu.shape
 clear hv hu hs ht
 generalize isQ ss tt = b at *
 go_enter Tryz.func76, Tryz.ntmps76
 go_wp2_with fail
 refine HI.out.mono ?_; rintro e w2 ⟨rfl, k2⟩
 go_wp2_with fail
 go_ret
 exact ⟨rfl, kA.trans k2⟩
theorem searchable2_any (ss tt : List ByteArray) (v u : Value) (w : World) (hv : Strs w v ss) (hu : Strs w u tt) (hs : Side ss) (ht : Side tt) (h1 : ss.length ≤ 16) (h2 : tt.length ≤ 16) :
  Calls Tryz.prog 77 #[.agg #[v, u]] w fun e w' => e = .returned (.bool (!decide ((elT (fmL (ss ++ tt))).length ≤ 8))) ∧ Keeps w w' := by
 have kA := (Keeps.refl w).alloc (.cells #[v, u] 26)
 obtain ⟨c0, c1⟩ := BoxQ.made w v u 26
 have HE := hid (elementaryParts_any ss tt v u _ (hv.keeps kA) (hu.keeps kA) hs ht h1 h2)
 have hl : (elT (fmL (ss ++ tt))).length ≤ 2147483648 := by
  have := elT_len (by rw [fmL_append]; exact (fmL_fine hs).append (fmL_fine ht) : Fine (fmL (ss ++ tt)))
  rw [fmL_len, List.length_append] at this
  omega
 have HFN : Hid (∀ x ∈ (elF (fmL (ss ++ tt))).map Fm.enc, x.length ≤ 2147483648) := hid (fun x hx => by
  obtain ⟨y, hy, rfl⟩ := List.mem_map.1 hx
  have := (elF_fine (by rw [fmL_append]; exact (fmL_fine hs).append (fmL_fine ht) : Fine (fmL (ss ++ tt))) y hy).2
  omega)
 obtain ⟨p, c, rfl, _⟩ := hv.shape
 obtain ⟨q, c2, rfl, _⟩ := hu.shape
 clear hv hu hs ht
 generalize elT (fmL (ss ++ tt)) = sE at *
 generalize elF (fmL (ss ++ tt)) = E at *
 go_enter Tryz.func77, Tryz.ntmps77
 go_wp2_with fail
 refine HE.out.mono ?_; rintro e w2 ⟨pv, rfl, hpv, k2⟩
 obtain ⟨pp, pcap, rfl, hple, hpmx, -⟩ := (hpv.elL hl HFN.out)
 clear hpv
 go_wp2_with fail
 go_ret
 exact ⟨ret_bool (by rw [← decide_not]; congr 1; simp; omega), kA.trans k2⟩
theorem enters_searchable1 : Enters 76 := fun _ _ => by kernel_rfl
theorem enters_searchable2 : Enters 77 := fun _ _ => by kernel_rfl
set_option maxHeartbeats 1000000 in
theorem searchableCode_any (s : ByteArray) (ss tt : List ByteArray) (v u : Value) (g : Nat) (w : World) (hv : Strs w v ss) (hu : Strs w u tt) (hs : Mid ss) (ht : Mid tt) (c0 : w.cell? ⟨g, 0, none⟩ = some v) (c1 : w.cell? ⟨g, 1, none⟩ = some u) :
  Calls Tryz.prog 36 #[.string s, .slice (some ⟨g, 0, none⟩) 1 1] w fun e w' => e = .returned (.int .i64 (srC s ss tt)) ∧ Keeps w w' := by
 have HI := hid (isSearchLogic_any s w)
 obtain ⟨p, c, rfl, _⟩ := hv.shape
 obtain ⟨q, c2, rfl, _⟩ := hu.shape
 have HC1 := hid (fun wz (kz : Keeps w wz) => containsFuncQ (!isQ ss tt) _ _ _ g wz ⟨_, _, _, rfl⟩ ⟨_, _, _, rfl⟩ (kz.cell c0) (kz.cell c1) enters_searchable1 (fun w1 k1 => searchable1_any ss tt _ _ w1 (hv.keeps (kz.trans k1)) (hu.keeps (kz.trans k1)) hs ht))
 have HC2 := hid (fun (hq : isQ ss tt = true) wz (kz : Keeps w wz) => containsFuncQ (!decide ((elT (fmL (ss ++ tt))).length ≤ 8)) _ _ _ g wz ⟨_, _, _, rfl⟩ ⟨_, _, _, rfl⟩ (kz.cell c0) (kz.cell c1) enters_searchable2 (fun w1 k1 => searchable2_any ss tt _ _ w1 (hv.keeps (kz.trans k1)) (hu.keeps (kz.trans k1)) (isQ_iff hq).2.2.1 (isQ_iff hq).2.2.2 (isQ_iff hq).1 (isQ_iff hq).2.1))
 have HR : Hid (srC s ss tt = if isLg s = true then (if isQ ss tt = true then (if (elT (fmL (ss ++ tt))).length ≤ 8 then 0 else 3) else 1) else 2) := hid rfl
 clear hv hu hs ht c0 c1
 generalize srC s ss tt = r at *
 generalize isLg s = bl at *
 generalize isQ ss tt = bq at *
 generalize (elT (fmL (ss ++ tt))).length = n at *
 cases bl
 ·rw [if_neg (by simp)] at HR
  rw [HR.out]
  clear HC1 HC2 HR
  go_enter Tryz.func36, Tryz.ntmps36
  go_wp2_with fail
  refine HI.out.mono ?_; rintro e w2 ⟨rfl, k2⟩
  go_wp2_with fail
  go_ret
  exact ⟨rfl, k2⟩
 ·rw [if_pos rfl] at HR
  cases bq
  ·rw [if_neg (by simp)] at HR
   rw [HR.out]
   clear HC2 HR
   go_enter Tryz.func36, Tryz.ntmps36
   go_wp2_with fail
   refine HI.out.mono ?_; rintro e w2 ⟨rfl, k2⟩
   go_wp2_with fail
   refine (HC1.out _ k2).mono ?_; rintro e w3 ⟨rfl, k3⟩
   go_wp2_with fail
   go_ret
   exact ⟨rfl, k2.trans k3⟩
  ·rw [if_pos rfl] at HR
   by_cases h8 : n ≤ 8
   ·rw [if_pos h8] at HR
    rw [decide_eq_true h8] at HC2
    rw [HR.out]
    clear HR
    go_enter Tryz.func36, Tryz.ntmps36
    go_wp2_with fail
    refine HI.out.mono ?_; rintro e w2 ⟨rfl, k2⟩
    go_wp2_with fail
    refine (HC1.out _ k2).mono ?_; rintro e w3 ⟨rfl, k3⟩
    go_wp2_with fail
    refine (HC2.out (by trivial) _ (k2.trans k3)).mono ?_; rintro e w4 ⟨rfl, k4⟩
    go_wp2_with fail
    go_ret
    exact ⟨rfl, (k2.trans k3).trans k4⟩
   ·rw [if_neg h8] at HR
    rw [decide_eq_false h8] at HC2
    rw [HR.out]
    clear HR
    go_enter Tryz.func36, Tryz.ntmps36
    go_wp2_with fail
    refine HI.out.mono ?_; rintro e w2 ⟨rfl, k2⟩
    go_wp2_with fail
    refine (HC1.out _ k2).mono ?_; rintro e w3 ⟨rfl, k3⟩
    go_wp2_with fail
    refine (HC2.out (by trivial) _ (k2.trans k3)).mono ?_; rintro e w4 ⟨rfl, k4⟩
    go_wp2_with fail
    go_ret
    exact ⟨rfl, (k2.trans k3).trans k4⟩
end Go.Proofs.YtkkcfifnkcnceaaGreat
namespace Go.Proofs.YtkkcfifnkcnceaaGreat
open Go.RowKit
theorem asc_lt {T : List ByteArray} (h : Asc (T.map bts)) {i j : Nat} (hj : j < T.length) (hij : i < j) : bts (T[i]'(by omega)) < bts T[j] := by
 unfold Asc at h
 rw [List.pairwise_iff_getElem] at h
 have := h i j (by simp; omega) (by simp; omega) hij
 simpa using this
theorem sideB_of {ss : List ByteArray} (h : Side ss) : sideB ss = true := by
 refine side_true fun i hi => ?_
 have hg : ∀ i (hi : i < ss.length), ss.getD i ⟨#[]⟩ = ss[i] := fun i hi => by rw [List.getD_eq_getElem?_getD, List.getElem?_eq_getElem hi]; rfl
 unfold okAt
 rw [Bool.and_eq_true, hg i hi]
 refine ⟨isTx_iff.2 (h.1 _ (List.getElem_mem hi)), ?_⟩
 by_cases h0 : i = 0
 ·subst h0; rfl
 ·rw [Bool.or_eq_true, decide_eq_true_eq, hg (i - 1) (by omega)]
  exact .inr (asc_lt h.2 hi (by omega))
theorem isQ_of {ss tt : List ByteArray} (h1 : ss.length ≤ 16) (h2 : tt.length ≤ 16) (hs : Side ss) (ht : Side tt) : isQ ss tt = true := by
 unfold isQ
 rw [sideB_of hs, sideB_of ht, decide_eq_true h1, decide_eq_true h2]; rfl
theorem elT_asc (G : List Fm) : Asc ((elT G).map bts) := by
 have h := subT_asc G
 unfold elT
 unfold Asc at h ⊢
 rw [List.pairwise_map] at h ⊢
 exact List.Pairwise.filter _ h
theorem elF_nodup {G : List Fm} (hG : Fine G) {i j : Nat} (hi : i < (elF G).length) (hj : j < (elF G).length) (h : (elF G)[i] = (elF G)[j]) : i = j := by
 have hl := elF_len G
 have e1 := elF_get hi
 have e2 := elF_get hj
 have b1 := (elT_tx hG (List.getElem_mem (show i < (elT G).length by omega))).2.1
 have b2 := (elT_tx hG (List.getElem_mem (show j < (elT G).length by omega))).2.1
 rw [← e1] at b1
 rw [← e2] at b2
 have e : bts ((elT G)[i]'(by omega)) = bts ((elT G)[j]'(by omega)) := by rw [b1, b2, h]
 rcases Nat.lt_trichotomy i j with h1 | h1 | h1
 ·have := asc_lt (elT_asc G) (show j < (elT G).length by omega) h1
  rw [e] at this
  exact absurd this (txt_irrefl _)
 ·exact h1
 ·have := asc_lt (elT_asc G) (show i < (elT G).length by omega) h1
  rw [e] at this
  exact absurd this (txt_irrefl _)
theorem valB_el {G : List Fm} (hG : Fine G) (k : Nat) {i : Nat} (hi : i < (elF G).length) : valB (elF G) k (elF G)[i] = k.testBit i := by
 have hel := elF_isEl hG (List.getElem_mem hi)
 have hx : (elF G).idxOf (elF G)[i] = i := by
  obtain ⟨hj, he⟩ := idx_at (elF G) (elF G)[i] (List.getElem_mem hi)
  exact elF_nodup hG hj hi he
 have : valB (elF G) k (elF G)[i] = k.testBit ((elF G).idxOf (elF G)[i]) := by
  generalize (elF G)[i] = t at *
  cases t <;> first | rfl | (simp [isEl] at hel)
 rw [this, hx]
end Go.Proofs.YtkkcfifnkcnceaaGreat
