/- Texts of all parts: the reference's side. -/
import Derived.Test.YtkkcfifnkcnceaaGreatHMJ
import Derived.Test.YtkkcfifnkcnceaaGreatHBase
namespace Go.Proofs.YtkkcfifnkcnceaaGreat
open Go.RowKit
def RetP (w : World) (B N : Nat) (P : List UInt8 → Prop) (e : Ending) (w' : World) : Prop :=
 ∃ b n c r, e = .returned (.slice (some b) n c) ∧ OwnS w' B (.slice (some b) n c) r ∧ Asc (r.map bts) ∧ (∀ z, z ∈ r.map bts ↔ P z) ∧ r.length ≤ N ∧ Keeps w w'
theorem insS_asc {ss : List ByteArray} (s : ByteArray) (h : Asc (ss.map bts)) : Asc ((insS ss s).map bts) := by rw [insS_bts]; exact insB_asc _ h
theorem insS_mem {ss : List ByteArray} {s : ByteArray} {z : List UInt8} : z ∈ (insS ss s).map bts ↔ z ∈ ss.map bts ∨ z = bts s := by rw [insS_bts]; exact insB_mem _ _ _
def InU (ss tt : List ByteArray) (z : List UInt8) : Prop := z ∈ ss.map bts ∨ z ∈ tt.map bts
def InSub (t : Fm) (z : List UInt8) : Prop := ∃ x ∈ subs t, z = x.body
set_option maxRecDepth 20000 in
theorem l11Copy_any (ss : List ByteArray) (v : Value) (w : World) (hv : Strs w v ss) (hl : ss.length ≤ 1000000) :
  Calls Tryz.prog 54 #[v] w (RetO w w.heap.size ss) := by
 have HV := hid (fun wz (kz : Keeps w wz) => hv.keeps kz)
 obtain ⟨p, c, rfl, _⟩ := hv.shape
 clear hv
 go_enter Tryz.func54, Tryz.ntmps54
 go_wp2_with (at_builtin; refine appSN rfl _ _ rfl w.heap.size _ [] rfl (OwnS.empty w) _ ss rfl (HV.out _ ((Keeps.refl w).alloc _)) (by simp) (by simp; omega) ?_; intro v2 w2 hv2 hg2 hr2 hn2; have k2 : Keeps w w2 := ((Keeps.refl w).alloc _).grown hg2 (fun q hq => hr2 q hq))
 go_ret
 obtain ⟨g, q, rfl⟩ := hv2.blk (fun e => by cases hn2 e)
 exact ⟨_, _, _, rfl, by simpa using hv2, k2⟩
set_option maxRecDepth 20000 in
set_option maxHeartbeats 1000000 in
theorem l11Union_any (ss tt : List ByteArray) (v u : Value) (w : World) (hv : Strs w v ss) (hu : Strs w u tt) (ha : Asc (ss.map bts)) (hl : ss.length + tt.length ≤ 1000000) :
  Calls Tryz.prog 21 #[v, u] w (RetP w w.heap.size (ss.length + tt.length) (InU ss tt)) := by
 have HC := hid (l11Copy_any ss v w hv (by omega))
 have HU := hid hu
 obtain ⟨p, c, rfl, _⟩ := hv.shape
 obtain ⟨q, c2, rfl, hle, hmx, _⟩ := hu.shape
 unfold maxLen at hmx
 have HA := hid ha
 clear hv hu ha
 go_enter Tryz.func21, Tryz.ntmps21
 go_wp2_with fail
 refine HC.out.mono ?_; rintro e w2 ⟨b, n, c3, rfl, hv2, k2⟩
 have HV2 := hid hv2; clear hv2
 go_wp2
 go_loopw [5, 6] (fun o i' wr => ∃ (i : Nat) (b' : Addr) (n' c' : Nat) (r : List ByteArray), i ≤ tt.length ∧ i' = .int .i64 i ∧ o = .slice (some b') n' c' ∧ OwnS wr w.heap.size (.slice (some b') n' c') r ∧ Asc (r.map bts) ∧ (∀ z, z ∈ r.map bts ↔ z ∈ ss.map bts ∨ z ∈ (tt.take i).map bts) ∧ r.length ≤ ss.length + i ∧ Keeps w wr) (fun _ i' _ => tt.length - (intOf i').toNat)
 case atStart => exact ⟨0, b, n, c3, ss, by omega, rfl, rfl, HV2.out, HA.out, fun z => by simp, by omega, k2⟩
 case round =>
  obtain ⟨i, b', n', c', r, hi, rfl, rfl, hown, hasc, hmem, hlen, kw⟩ := hrel
  clear HV2
  have HO := hid hown; clear hown
  have HS := hid hasc; clear hasc
  have HM := hid hmem; clear hmem
  by_cases hlt : i < tt.length
  ·have hlt' : (i : Int) < tt.length := by omega
   obtain ⟨b1, o1, rfl, h1⟩ := (HU.out.keeps kw).get i hlt
   obtain ⟨g, cg, eg⟩ := HO.out.blk (by simp)
   obtain ⟨e1, e2, e3⟩ : b' = ⟨g, 0, none⟩ ∧ n' = r.length ∧ c' = cg := by injection eg with h1 h2 h3; exact ⟨Option.some.inj h1, h2, h3⟩
   subst e1
   have HI := hid (l02InsertS_any r g 0 n' c' tt[i] w.heap.size wr HO.out (by omega) kw.size)
   have hN : ∀ z, z ∈ (insS r tt[i]).map bts ↔ z ∈ ss.map bts ∨ z ∈ (tt.take (i + 1)).map bts := fun z => by
    rw [insS_mem, HM.out z, List.take_succ_eq_append_getElem hlt, List.map_append, List.mem_append, or_assoc]
    simp
   have HN := hid hN; clear hN
   have HAN := hid (insS_asc tt[i] HS.out)
   have hln := (insS_len r tt[i]).1
   clear eg e2 e3
   generalize insS r tt[i] = r2 at *
   generalize tt[i] = x at *
   go_wp2_with fail
   refine HI.out.mono ?_; rintro e w3 ⟨b4, n4, c4, rfl, hv4, k4⟩
   go_wp2_with fail
   go_roundw
   case rel => exact ⟨i + 1, b4, n4, c4, r2, by omega, by go_num, rfl, hv4, HAN.out, HN.out, by omega, kw.trans k4⟩
   case measure => simp [intOf]; omega
  ·obtain rfl : i = tt.length := by omega
   have hlt' : ¬ ((tt.length : Int) < tt.length) := by omega
   have hN : ∀ z, z ∈ r.map bts ↔ z ∈ ss.map bts ∨ z ∈ tt.map bts := fun z => by
    have := HM.out z
    rwa [List.take_length] at this
   go_wp2
   go_ret
   exact ⟨_, _, _, r, rfl, HO.out, HS.out, hN, by omega, kw⟩
set_option maxRecDepth 100000 in
set_option maxHeartbeats 2000000 in
theorem l02Sub_any (t : Fm) (ht : t.wf) (h40 : t.enc.length ≤ 40) (v : Value) (w : World) (hv : Nds w v t.enc) :
  Calls Tryz.prog 85 #[v] w (RetP w w.heap.size t.enc.length (InSub t)) := by
 have hv0 := hv
 obtain ⟨p, cap, rfl, hle, hmx, hat, hlen⟩ := hv
 have hpos := Fm.enc_pos t
 obtain ⟨b0, o0, rfl⟩ := hat.ptrN hpos
 have hmx0 := hid hmx
 unfold maxLen at hmx
 have HPT : Hid (∀ i (hi : i < (subs t).length), skipInt 1 t.enc i = i + ((subs t)[i]).enc.length ∧ i + ((subs t)[i]).enc.length ≤ t.enc.length ∧ 0 < ((subs t)[i]).enc.length ∧ ∀ wz, Keeps w wz → ∀ o n c, o = o0 + i * 2 → n = ((subs t)[i]).enc.length → n ≤ c → c ≤ maxLen → Nds wz (.slice (some ⟨b0, o, none⟩) n c) ((subs t)[i]).enc) := hid (fun i hi => by
  obtain ⟨l, r, h1, h2⟩ := subs_at t i hi
  subst h2
  refine ⟨?_, ?_, Fm.enc_pos _, fun wz kz o n c ho hn hc hm => ?_⟩
  ·conv => lhs; rw [h1]
   exact skipInt_enc l _ r
  ·have := congrArg List.length h1
   simp only [List.length_append] at this
   omega
  ·have hz := hat.keeps kz
   rw [h1] at hz
   exact Nds.sub (l := l) (m := ((subs t)[l.length]).enc) (r := r) hz (by
    have := congrArg List.length h1
    simp only [List.length_append] at this
    omega) (by omega) hn hc hm)
 have HTX : Hid (∀ i (hi : i < (subs t).length) u wz, Nds wz u ((subs t)[i]).enc → Calls Tryz.prog 105 #[u] wz fun e w' => ∃ s, e = .returned (.string s) ∧ bts s = ((subs t)[i]).body ∧ Keeps wz w') := hid (fun i hi u wz hu => by
  have hm := List.getElem_mem hi
  exact l02TextA _ (subs_wf ht _ hm) (by have := subs_le _ hm; omega) u wz hu)
 have HSL := hid (subs_len t)
 have HV := hid hv0
 clear hat hv0
 generalize hn : t.enc.length = n at *
 have HNN := hid hn; clear hn
 have kE := (Keeps.refl w).alloc (.cells #[] 9)
 have hE := hid (OwnS.empty w)
 go_enter Tryz.func85, Tryz.ntmps85
 go_wp2
 go_loopw [3, 4] (fun o i' wr => ∃ (i : Nat) (b' : Addr) (n' c' : Nat) (r : List ByteArray), i ≤ n ∧ i' = .int .i64 i ∧ o = .slice (some b') n' c' ∧ OwnS wr w.heap.size (.slice (some b') n' c') r ∧ Asc (r.map bts) ∧ (∀ z, z ∈ r.map bts ↔ ∃ x ∈ (subs t).take i, z = x.body) ∧ r.length ≤ i ∧ Keeps w wr) (fun _ i' _ => n - (intOf i').toNat)
 case atStart => exact ⟨0, _, _, _, [], by omega, rfl, rfl, hE.out, by simp [Asc], fun z => by simp, by simp, kE⟩
 case round =>
  obtain ⟨i, b', n', c', r, hi, rfl, rfl, hown, hasc, hmem, hrl, kw⟩ := hrel
  clear hE
  have HO := hid hown; clear hown
  have HS := hid hasc; clear hasc
  have HM := hid hmem; clear hmem
  by_cases hlt : i < n
  ·have hlt' : (i : Int) < n := by omega
   have his : i < (subs t).length := by rw [HSL.out]; exact hlt
   obtain ⟨hsk, hend, hp2, hnds⟩ := HPT.out i his
   have HTXi := hid (HTX.out i his)
   have HND := hid hnds; clear hnds
   have HSK := hid hsk; clear hsk
   have hN : ∀ s, bts s = ((subs t)[i]).body → ∀ z, z ∈ (insS r s).map bts ↔ ∃ x ∈ (subs t).take (i + 1), z = x.body := fun s hs z => by
    rw [insS_mem, HM.out z, List.take_succ_eq_append_getElem his, hs]
    constructor
    ·rintro (⟨x, h1, h2⟩ | h)
     ·exact ⟨x, List.mem_append_left _ h1, h2⟩
     ·exact ⟨_, List.mem_append_right _ (List.mem_singleton.2 rfl), h⟩
    ·rintro ⟨x, h1, h2⟩
     rcases List.mem_append.1 h1 with h | h
     ·exact .inl ⟨x, h, h2⟩
     ·exact .inr (by rw [List.mem_singleton.1 h] at h2; exact h2)
   have HN := hid hN; clear hN
   obtain ⟨g, cg, eg⟩ := HO.out.blk (by simp)
   obtain ⟨e1, e2, e3⟩ : b' = ⟨g, 0, none⟩ ∧ n' = r.length ∧ c' = cg := by injection eg with h1 h2 h3; exact ⟨Option.some.inj h1, h2, h3⟩
   subst e1
   have HI := hid (fun s wz (kz : Keeps wr wz) => l02InsertS_any r g 0 n' c' s w.heap.size wz (HO.out.keeps kz) (by omega) (by have := kw.size; have := kz.size; omega))
   clear eg e2 e3
   generalize (subs t)[i] = y at *
   generalize hyl : y.enc.length = yl at *
   have HYL := hid hyl; clear hyl
   go_wp2_with fail
   refine (l02Part_any _ _ _ _ (HV.out.keeps kw) (by omega) (by have := HNN.out; omega)).mono ?_; rintro e w' ⟨rfl, rfl⟩
   rw [show ((i : Nat) : Int).toNat = i from Int.toNat_natCast i, HSK.out]
   go_wp2_with fail
   refine (HTXi.out _ _ (HND.out _ kw _ _ _ (by first | rfl | omega) (by omega) (by omega) (by have := hmx0.out; omega))).mono ?_; rintro e w3 ⟨s, rfl, hs, k3⟩
   have HIs := hid (HI.out s w3 k3)
   have HNs := hid (HN.out s hs)
   have HAN := hid (insS_asc s HS.out)
   have hln := (insS_len r s).1
   clear HN
   generalize insS r s = r2 at *
   go_wp2_with fail
   refine HIs.out.mono ?_; rintro e w4 ⟨b4, n4, c4, rfl, hv4, k4⟩
   go_wp2_with fail
   go_roundw
   case rel => exact ⟨i + 1, b4, n4, c4, r2, by omega, by go_num, rfl, hv4, HAN.out, HNs.out, by omega, (kw.trans k3).trans k4⟩
   case measure => simp [intOf]; omega
  ·obtain rfl : i = n := by omega
   have hlt' : ¬ ((i : Int) < i) := by omega
   have hN : ∀ z, z ∈ r.map bts ↔ ∃ x ∈ subs t, z = x.body := fun z => by
    have := HM.out z
    rwa [← HSL.out, List.take_length] at this
   go_wp2
   go_ret
   exact ⟨_, _, _, r, rfl, HO.out, HS.out, hN, by omega, kw⟩
theorem subG_fmL_mem {ss : List ByteArray} {z : List UInt8} : (∃ x ∈ subG (fmL ss), z = x.body) ↔ ∃ s ∈ ss, InSub (txF s) z := by
 unfold subG fmL InSub
 constructor
 ·rintro ⟨x, hx, hz⟩
  obtain ⟨a, ha, hx⟩ := List.mem_flatMap.1 hx
  obtain ⟨s, hs, rfl⟩ := List.mem_map.1 ha
  exact ⟨s, hs, x, hx, hz⟩
 ·rintro ⟨s, hs, x, hx, hz⟩
  exact ⟨x, List.mem_flatMap.2 ⟨txF s, List.mem_map_of_mem hs, hx⟩, hz⟩
theorem mem_of_map_bts {r : List ByteArray} {s : ByteArray} : bts s ∈ r.map bts ↔ s ∈ r := by
 rw [List.mem_map]
 exact ⟨fun ⟨x, h1, h2⟩ => by rw [← bts_inj h2]; exact h1, fun h => ⟨s, h, rfl⟩⟩
set_option maxRecDepth 100000 in
set_option maxHeartbeats 2000000 in
theorem l11Parts_any (ss tt : List ByteArray) (v u : Value) (w : World) (hv : Strs w v ss) (hu : Strs w u tt) (hs : Side ss) (ht : Side tt) (h16 : ss.length ≤ 16) (h16' : tt.length ≤ 16) :
  Calls Tryz.prog 40 #[.agg #[v, u]] w fun e w' => ∃ b n c, e = .returned (.slice (some b) n c) ∧ OwnS w' w.heap.size (.slice (some b) n c) (subT (fmL (ss ++ tt))) ∧ Keeps w w' := by
 have kA := ((Keeps.refl w).alloc (.cells #[v, u] 26)).alloc (.cells #[] 9)
 obtain ⟨c0, c1⟩ := BoxQ.made w v u 26
 have HUN := hid (l11Union_any ss tt v u _ (hv.keeps kA) (hu.keeps kA) hs.2 (by omega))
 have hE0 := OwnS.empty (w.alloc (.cells #[v, u] 26))
 have hE := hid ((hE0.strs (by simp)))
 have hsz : (w.alloc (.cells #[v, u] 26)).heap.size = w.heap.size + 1 := by simp
 rw [hsz] at hE
 have HOE : Hid (OwnS ((w.alloc (.cells #[v, u] 26)).alloc (.cells #[] 9)) w.heap.size (.slice (some ⟨w.heap.size + 1, 0, none⟩) 0 0) []) := hid (by rw [hsz] at hE0; exact hE0.mono (by omega))
 have HTX : Hid (∀ s, s ∈ ss ++ tt → IsTx s (txF s)) := hid (fun s h => (List.mem_append.1 h).elim (fun h => txF_tx (hs.1 s h)) (fun h => txF_tx (ht.1 s h)))
 have HUQ := hid (fun r => subT_uniq (G := fmL (ss ++ tt)) (r := r))
 have HFN := hid (fmL_fine hs |>.append (fmL_fine ht))
 obtain ⟨p, c, rfl, _⟩ := hv.shape
 obtain ⟨q, c2, rfl, _⟩ := hu.shape
 clear hv hu hs ht hE0
 go_enter Tryz.func40, Tryz.ntmps40
 go_wp2_with fail
 refine HUN.out.mono ?_; rintro e w2 ⟨b, n, c3, r, rfl, hv2, hasc, hmem, hrl0, k2⟩
 have kk := kA.trans k2
 have hn : n = r.length ∧ n ≤ maxLen ∧ n ≤ c3 := by obtain ⟨p', c', e, h1, h2, _⟩ := At.of_own hv2; cases e; exact ⟨rfl, by omega, h1⟩
 have hrl : r.length ≤ 32 := by omega
 obtain ⟨hn, hn2, hn3⟩ := hn
 subst hn
 have HV2 := hid (hv2.strs (by omega))
 have HRM : Hid (∀ s, s ∈ r ↔ s ∈ ss ++ tt) := hid (fun s => by
  rw [← mem_of_map_bts, hmem (bts s), List.mem_append]
  exact ⟨fun h => h.elim (fun h => .inl (mem_of_map_bts.1 h)) (fun h => .inr (mem_of_map_bts.1 h)), fun h => h.elim (fun h => .inl (mem_of_map_bts.2 h)) (fun h => .inr (mem_of_map_bts.2 h))⟩)
 have HGD := hid (fun i (h : i < r.length) wz => l02GoodA r[i] wz (by
  have := (HTX.out _ ((HRM.out _).1 (List.getElem_mem h))).small; omega))
 have HSB := hid (fun i (h : i < r.length) u' wz (hz : Nds wz u' (txF r[i]).enc) => l02Sub_any (txF r[i]) (HTX.out _ ((HRM.out _).1 (List.getElem_mem h))).1 (HTX.out _ ((HRM.out _).1 (List.getElem_mem h))).2.2 u' wz hz)
 have HTI : Hid (∀ i (h : i < r.length), IsTx r[i] (txF r[i])) := hid (fun i h => HTX.out _ ((HRM.out _).1 (List.getElem_mem h)))
 have hE2 := hE.out.keeps k2
 have HE2 := hid hE2
 have HOE2 := hid (HOE.out.keeps k2)
 clear hv2 hasc hmem hE2 hE HOE
 unfold maxLen at hn2
 go_wp2
 go_loopw [3, 5] (fun o i' wr => ∃ (i : Nat) (b' : Addr) (n' c' : Nat) (q : List ByteArray), i ≤ r.length ∧ i' = .int .i64 i ∧ o = .slice (some b') n' c' ∧ OwnS wr w.heap.size (.slice (some b') n' c') q ∧ Asc (q.map bts) ∧ (∀ z, z ∈ q.map bts ↔ ∃ s ∈ r.take i, InSub (txF s) z) ∧ q.length ≤ 40 * i ∧ Keeps w2 wr) (fun _ i' _ => r.length - (intOf i').toNat)
 case atStart => exact ⟨0, _, 0, 0, [], by omega, rfl, by simp, HOE2.out, by simp [Asc], fun z => by simp, by simp, Keeps.refl _⟩
 case round =>
  obtain ⟨i, b', n', c', q0, hi, rfl, rfl, hown, hasc, hmem, hql, kw⟩ := hrel
  clear HE2 HOE2
  have HO := hid hown; clear hown
  have HS := hid hasc; clear hasc
  have HM := hid hmem; clear hmem
  have kkw := kk.trans kw
  by_cases hlt : i < r.length
  ·have hlt' : (i : Int) < r.length := by omega
   obtain ⟨b1, o1, e1, h1⟩ := (HV2.out.keeps kw).get i hlt
   have hb : b = ⟨b1, o1, none⟩ := Option.some.inj e1
   subst hb
   have HGi := hid (HGD.out i hlt wr)
   have HSi := hid (HSB.out i hlt)
   have hti := HTI.out i hlt
   have h40 := hti.2.2
   have HTX1 := hid hti
   have hix := isTx_iff.2 ⟨_, hti⟩
   clear hti
   have hN : ∀ r4 r5 : List ByteArray, (∀ z, z ∈ r4.map bts ↔ InSub (txF r[i]) z) → (∀ z, z ∈ r5.map bts ↔ InU q0 r4 z) → ∀ z, z ∈ r5.map bts ↔ ∃ s ∈ r.take (i + 1), InSub (txF s) z := fun r4 r5 h4 h5 z => by
    rw [h5 z, List.take_succ_eq_append_getElem hlt]
    show z ∈ q0.map bts ∨ z ∈ r4.map bts ↔ _
    rw [HM.out z, h4 z]
    constructor
    ·rintro (⟨s, h1, h2⟩ | h)
     ·exact ⟨s, List.mem_append_left _ h1, h2⟩
     ·exact ⟨_, List.mem_append_right _ (List.mem_singleton.2 rfl), h⟩
    ·rintro ⟨s, h1, h2⟩
     rcases List.mem_append.1 h1 with h | h
     ·exact .inl ⟨s, h, h2⟩
     ·exact .inr (by rw [List.mem_singleton.1 h] at h2; exact h2)
   have HN := hid hN; clear hN
   unfold GoodR at HGi
   generalize txF r[i] = t at *
   generalize r[i] = x at *
   go_wp2_with fail
   refine HGi.out.mono ?_; rintro e w3 ⟨vg, rfl, k3, hg⟩
   have hnd := (hg t HTX1.out).nds (by omega)
   rw [hix]
   have HS3 := hid (HSi.out _ _ hnd)
   obtain ⟨p3, n3, c4, rfl⟩ := hnd.shape
   clear hg hnd
   go_wp2_with fail
   refine HS3.out.mono ?_; rintro e w4 ⟨b4, n4, c4', r4, rfl, hv4, _, hm4, hl4, k4⟩
   have hq0 := (HO.out.keeps (k3.trans k4)).strs (by omega)
   have HU4 := hid (l11Union_any q0 r4 _ _ w4 hq0 (hv4.strs (by omega)) HS.out (by omega))
   have HM4 := hid hm4
   clear hq0 hv4 hm4
   go_wp2_with fail
   refine HU4.out.mono ?_; rintro e w5 ⟨b5, n5, c5, r5, rfl, hv5, ha5, hm5, hl5, k5⟩
   have kk5 := ((kw.trans k3).trans k4).trans k5
   have hsz5 := (kk.trans ((kw.trans k3).trans k4)).size
   go_wp2_with fail
   go_roundw
   case rel => exact ⟨i + 1, b5, n5, c5, r5, by omega, by go_num, rfl, hv5.mono hsz5, ha5, HN.out r4 r5 HM4.out hm5, by omega, kk5⟩
   case measure => simp [intOf]; omega
  ·obtain rfl : i = r.length := by omega
   have hlt' : ¬ ((r.length : Int) < r.length) := by omega
   have hq : q0 = subT (fmL (ss ++ tt)) := HUQ.out q0 HS.out (fun z => by
    rw [HM.out z, List.take_length, subG_fmL_mem]
    exact ⟨fun ⟨s, h1, h2⟩ => ⟨s, (HRM.out s).1 h1, h2⟩, fun ⟨s, h1, h2⟩ => ⟨s, (HRM.out s).2 h1, h2⟩⟩)
   have HQ := hid hq; clear hq
   go_wp2
   go_ret
   exact ⟨_, _, _, rfl, by rw [← HQ.out]; exact HO.out, kkw⟩
end Go.Proofs.YtkkcfifnkcnceaaGreat
namespace Go.Proofs.YtkkcfifnkcnceaaGreat
open Go.RowKit
theorem elT_take (G : List Fm) (i : Nat) (h : i < (subT G).length) : ((subT G).take (i + 1)).filter (fun s => isEl (txF s)) = ((subT G).take i).filter (fun s => isEl (txF s)) ++ (if isEl (txF (subT G)[i]) then [(subT G)[i]] else []) := by
 rw [List.take_succ_eq_append_getElem h, List.filter_append]
 by_cases hb : isEl (txF (subT G)[i]) = true
 ·rw [if_pos hb]; simp [hb]
 ·rw [if_neg hb]; simp [hb]
noncomputable def elTo (G : List Fm) (i : Nat) : List ByteArray := ((subT G).take i).filter (fun s => isEl (txF s))
theorem elTo_zero (G : List Fm) : elTo G 0 = [] := by simp [elTo]
theorem elTo_end (G : List Fm) : elTo G (subT G).length = elT G := by unfold elTo elT; rw [List.take_length]
theorem elTo_len (G : List Fm) (i : Nat) : (elTo G i).length ≤ i := by
 unfold elTo
 exact Nat.le_trans (List.length_filter_le _ _) (by rw [List.length_take]; exact Nat.min_le_left _ _)
theorem elTo_yes {G : List Fm} {i : Nat} (h : i < (subT G).length) (he : isEl (txF (subT G)[i]) = true) : elTo G (i + 1) = elTo G i ++ [(subT G)[i]] := by
 unfold elTo; rw [elT_take G i h, if_pos he]
theorem elTo_no {G : List Fm} {i : Nat} (h : i < (subT G).length) (he : isEl (txF (subT G)[i]) = false) : elTo G (i + 1) = elTo G i := by
 unfold elTo; rw [elT_take G i h, he]; simp
theorem compact_len (zs : List (List UInt8)) : (Lib.compact zs).length ≤ zs.length := (compact_sub zs).length_le
theorem subT_len {G : List Fm} (h : Fine G) : (subT G).length ≤ 40 * G.length := by
 unfold subT sortB
 rw [List.length_map]
 refine Nat.le_trans (compact_len _) ?_
 rw [List.length_mergeSort, List.length_map]
 exact subG_len h
theorem el_kind (t : Fm) : (isEl t = true ∧ (t.kind = 0 ∨ t.kind = 5 ∨ t.kind = 6)) ∨ (isEl t = false ∧ (t.kind = 1 ∨ t.kind = 2 ∨ t.kind = 3 ∨ t.kind = 4)) := by
 cases t <;> simp [isEl, Fm.kind]
def elCells : List ByteArray → List Value → List Value
 | s :: ss, u :: us => .string s :: u :: elCells ss us
 | _, _ => []
theorem elCells_len : ∀ (ss : List ByteArray) (us : List Value), ss.length = us.length → (elCells ss us).length = ss.length * 2
 | [], [], _ => rfl
 | s :: ss, u :: us, h => by
  have := elCells_len ss us (by simpa using h)
  simp only [elCells, List.length_cons, this]; omega
 | [], _ :: _, h => by simp at h
 | _ :: _, [], h => by simp at h
theorem elCells_snoc : ∀ (ss : List ByteArray) (us : List Value) (s : ByteArray) (u : Value), ss.length = us.length → elCells (ss ++ [s]) (us ++ [u]) = elCells ss us ++ [.string s, u]
 | [], [], _, _, _ => rfl
 | x :: ss, y :: us, s, u, h => by
  have := elCells_snoc ss us s u (by simpa using h)
  simp only [List.cons_append, elCells, this]
 | [], _ :: _, _, _, h => by simp at h
 | _ :: _, [], _, _, h => by simp at h
theorem elCells_get : ∀ (ss : List ByteArray) (us : List Value) (i : Nat) (h1 : i < ss.length) (h2 : i < us.length), (elCells ss us)[i * 2]? = some (.string ss[i]) ∧ (elCells ss us)[i * 2 + 1]? = some us[i]
 | s :: ss, u :: us, 0, _, _ => by simp [elCells]
 | s :: ss, u :: us, i + 1, h1, h2 => by
  have := elCells_get ss us i (by simpa using h1) (by simpa using h2)
  simpa [elCells, Nat.add_mul] using this
theorem tyneE : (145 : TypeId) ≠ 131 := by decide
theorem infoE : (Tryz.prog.info? 145).map (fun i => (i.zero, i.size, i.bytes)) = some (some (.agg #[.string ⟨#[]⟩, .slice none 0 0]), 2, 40) := by kernel_rfl
def OwnE (w : World) (B : Nat) (v : Value) (ss : List ByteArray) (xs : List (List Nd)) : Prop :=
 ∃ us, w.ownsRow B 145 2 v ss.length (elCells ss us) ∧ RowsN w B us xs ∧ ss.length = xs.length
theorem OwnE.nil (w : World) (B : Nat) : OwnE w B (.slice none 0 0) [] [] := ⟨[], World.ownsRow_nil w B _ 2, RowsN.nil _ _, rfl⟩
theorem OwnE.keeps {w w' : World} {B : Nat} {v : Value} {ss : List ByteArray} {xs : List (List Nd)} (h : OwnE w B v ss xs) (k : Keeps w w') : OwnE w' B v ss xs := by
 obtain ⟨us, h1, h2, h3⟩ := h
 exact ⟨us, own_keeps h1 k, h2.keeps k, h3⟩
theorem OwnE.mono {w : World} {B B' : Nat} {v : Value} {ss : List ByteArray} {xs : List (List Nd)} (h : OwnE w B v ss xs) (k : B' ≤ B) : OwnE w B' v ss xs := by
 obtain ⟨us, h1, h2, h3⟩ := h
 exact ⟨us, own_mono h1 k, h2.mono k, h3⟩
def ElL (w : World) (v : Value) (ss : List ByteArray) (xs : List (List Nd)) : Prop :=
 ∃ p cap, v = .slice p ss.length cap ∧ ss.length ≤ cap ∧ cap ≤ maxLen ∧ ss.length = xs.length ∧ ss.length ≤ 2147483648 ∧
  ∀ i (h1 : i < ss.length) (h2 : i < xs.length), ∃ b off u, p = some ⟨b, off, none⟩ ∧ w.cell? ⟨b, off + i * 2, none⟩ = some (.string ss[i]) ∧ w.cell? ⟨b, off + i * 2 + 1, none⟩ = some u ∧ Nds w u xs[i]
theorem ElL.keeps {w w' : World} {v : Value} {ss : List ByteArray} {xs : List (List Nd)} (h : ElL w v ss xs) (k : Keeps w w') : ElL w' v ss xs := by
 obtain ⟨p, cap, h1, h2, h3, h4, h5, h6⟩ := h
 refine ⟨p, cap, h1, h2, h3, h4, h5, fun i a b => ?_⟩
 obtain ⟨bb, off, u, e1, e2, e3, e4⟩ := h6 i a b
 exact ⟨bb, off, u, e1, k.cell e2, k.cell e3, e4.keeps k⟩
theorem OwnE.elL {w : World} {B : Nat} {v : Value} {ss : List ByteArray} {xs : List (List Nd)} (h : OwnE w B v ss xs) (hl : ss.length ≤ 2147483648) (hx : ∀ x ∈ xs, x.length ≤ 2147483648) : ElL w v ss xs := by
 obtain ⟨us, h1, h2, h3⟩ := h
 have hul : us.length = ss.length := by rw [h2.1, h3]
 obtain ⟨p, cap, e, hn, hm, hat⟩ := At.of_own h1
 refine ⟨p, cap, e, hn, hm, h3, hl, fun i a b => ?_⟩
 obtain ⟨g1, g2⟩ := elCells_get ss us i a (by omega)
 have l2 := elCells_len ss us hul.symm
 obtain ⟨bb, off, hp, hc⟩ := hat (i * 2) (by omega)
 obtain ⟨bb', off', hp', hc'⟩ := hat (i * 2 + 1) (by omega)
 rw [hp] at hp'
 cases hp'
 rw [List.getElem?_eq_getElem (by omega)] at g1 g2
 rw [Option.some.inj g1] at hc
 rw [Option.some.inj g2] at hc'
 exact ⟨bb, off, us[i]'(by omega), hp, hc, by rw [Nat.add_assoc]; exact hc', (h2.2 i (by omega) b).nds (hx _ (List.getElem_mem b))⟩
theorem appEK {w : World} {o : Oper} {a : Act} {K : Act → World → Prop} {Q : Exit → Act → World → Prop} (s x : Operand)
  (ho : o.op = .call { callee := .builtin .append, args := #[s, x], argTypes := #[105, 105] }) (base : Nat) (v : Value) (ss : List ByteArray) (xs : List (List Nd)) (hs : a.eval s = v)
  (w0 : World) (hown : OwnE w0 base v ss xs) (k : Keeps w0 w) (t : ByteArray) (u : Value) (y : List Nd) (hu : OwnN w w0.heap.size u y) (hbase : base ≤ w0.heap.size)
  (p : Option Addr) (c : Nat) (hx : a.eval x = .slice p 1 c) (hat : At w p [.string t, u]) (hlen : ss.length ≤ 1000000)
  (h : ∀ v' w', OwnE w' base v' (ss ++ [t]) (xs ++ [y]) → w.grownBy w' v.ownBlock → (∀ k, v.ownBlock = some k → base ≤ k) → K (a.put o.dst v') w') : o.wp Tryz.prog a w K Q := by
 obtain ⟨i0, hi, hz0, hz1, hz2⟩ := info_parts infoE
 obtain ⟨us, hrow, hr, hxl⟩ := hown
 have hone : ∀ z ∈ [Value.string t, u], z.oneCell' = true := by
  intro z hz
  simp at hz
  rcases hz with rfl | rfl
  ·rfl
  ·obtain ⟨p, c, e, _⟩ := At.of_own hu
   rw [e]; rfl
 have hrow' := own_keeps hrow k
 refine wp_append_at s x _ ho _ i0 _ 2 40 Tryz.underlying105 hi hz0 hz1 hz2 rfl (by decide) base v _ _ hs hrow' p 1 c [.string t, u] hx (by simp) hat hone (by unfold maxLen; omega) (by omega) (by have := k.size; omega) ?_
 intro v' w' h1 h2 h3
 refine h v' w' ⟨us ++ [u], ?_, ?_, by simp [hxl]⟩ h2 h3
 ·rw [elCells_snoc _ _ _ _ (by rw [hr.1, hxl]), List.length_append]
  exact h1
 ·have hrw := hr.keeps k
  have hoff : ∀ i, v.ownBlock = some i → ¬ blk us i := fun i hv ⟨j, hj, e⟩ => type_ne hrow' (hrw.2 j hj (by have := hrw.1; omega)) tyneE hv e
  refine RowsN.snoc ?_ (hrw.touch (Touch.grown h2) (fun i hb e => hoff i e.symm hb))
  exact (hu.touch (Touch.grown h2) (fun i hi e => type_ne hrow' hu tyneE e.symm hi)).mono hbase
theorem appE {w : World} {ops : Array Oper} {rest : List Oper} {o : Oper} {a : Act} {Q : Exit → Act → World → Prop} (hgd : o.guard = none) (s x : Operand)
  (ho : o.op = .call { callee := .builtin .append, args := #[s, x], argTypes := #[105, 105] }) (base : Nat) (v : Value) (ss : List ByteArray) (xs : List (List Nd)) (hs : a.eval s = v)
  (w0 : World) (hown : OwnE w0 base v ss xs) (k : Keeps w0 w) (t : ByteArray) (u : Value) (y : List Nd) (hu : OwnN w w0.heap.size u y) (hbase : base ≤ w0.heap.size)
  (p : Option Addr) (c : Nat) (hx : a.eval x = .slice p 1 c) (hat : At w p [.string t, u]) (hlen : ss.length ≤ 1000000)
  (h : ∀ v' w', OwnE w' base v' (ss ++ [t]) (xs ++ [y]) → w.grownBy w' v.ownBlock → (∀ k, v.ownBlock = some k → base ≤ k) → wpList Tryz.prog ops Q rest (a.put o.dst v') w') : wpList Tryz.prog ops Q (o :: rest) a w :=
 wpList_plain hgd fun _ hK => appEK s x ho base v ss xs hs w0 hown k t u y hu hbase p c hx hat hlen fun v' w' h1 h2 h3 => hK _ _ (h v' w' h1 h2 h3)
theorem At.lit2 (w : World) (t : ByteArray) (u : Value) (E : TypeId) : At (w.alloc (.cells #[.string t, u] E)) (some ⟨w.heap.size, 0, none⟩) [.string t, u] := by
 intro j hj
 match j, hj with
 | 0, _ => exact ⟨_, _, rfl, by simp⟩
 | 1, _ => exact ⟨_, _, rfl, by simp⟩
set_option maxRecDepth 100000 in
set_option maxHeartbeats 4000000 in
theorem elementaryParts_any (ss tt : List ByteArray) (v u : Value) (w : World) (hv : Strs w v ss) (hu : Strs w u tt) (hs : Side ss) (ht : Side tt) (h16 : ss.length ≤ 16) (h16' : tt.length ≤ 16) :
  Calls Tryz.prog 78 #[.agg #[v, u]] w fun e w' => ∃ r, e = .returned r ∧ OwnE w' w.heap.size r (elT (fmL (ss ++ tt))) ((elF (fmL (ss ++ tt))).map Fm.enc) ∧ Keeps w w' := by
 have kA := (Keeps.refl w).alloc (.cells #[v, u] 26)
 obtain ⟨c0, c1⟩ := BoxQ.made w v u 26
 have HF := hid (formulas_any ss tt v u _ (hv.keeps kA) (hu.keeps kA) (by omega))
 have hst : ∀ s ∈ ss ++ tt, ∃ t, IsTx s t := fun s h => (List.mem_append.1 h).elim (hs.1 s) (ht.1 s)
 have HFO := hid (fun v' wz (hz : Strs wz v' (ss ++ tt)) => formulasOf_any (ss ++ tt) hst v' wz hz)
 have hG : Fine (fmL (ss ++ tt)) := by rw [fmL_append]; exact (fmL_fine hs).append (fmL_fine ht)
 have hGl : (fmL (ss ++ tt)).length ≤ 32 := by rw [fmL_len, List.length_append]; omega
 have htot := encs_tot hG
 have HSU := hid (fun v' wz (hz : NdsL wz v' ((fmL (ss ++ tt)).map Fm.enc)) => subformulas_any (fmL (ss ++ tt)) hG (by omega) v' wz hz)
 have hTL := subT_len hG
 have HTX : Hid (∀ i (h : i < (subT (fmL (ss ++ tt))).length), IsTx (subT (fmL (ss ++ tt)))[i] (txF (subT (fmL (ss ++ tt)))[i])) := hid (fun i h => by
  obtain ⟨t, _, h2⟩ := subT_tx hG (List.getElem_mem h)
  exact txF_tx ⟨t, h2⟩)
 have HEF : Hid ((elF (fmL (ss ++ tt))).map Fm.enc = (elT (fmL (ss ++ tt))).map (fun s => (txF s).enc)) := hid (by unfold elF; rw [List.map_map]; rfl)
 rw [HEF.out]
 have hl2 : (ss ++ tt).length ≤ 32 := by rw [List.length_append]; omega
 obtain ⟨p, c, rfl, _⟩ := hv.shape
 obtain ⟨q, c2, rfl, _⟩ := hu.shape
 clear hv hu hs ht hst hG HEF
 generalize fmL (ss ++ tt) = G at *
 generalize ss ++ tt = st at *
 have HZ := hid (elTo_zero G)
 have HEN := hid (elTo_end G)
 have HLN := hid (elTo_len G)
 have HY := hid (fun i (h : i < (subT G).length) => elTo_yes h)
 have HNO := hid (fun i (h : i < (subT G).length) => elTo_no h)
 go_enter Tryz.func78, Tryz.ntmps78
 go_wp2_with fail
 refine HF.out.mono ?_; rintro e w2 ⟨v2, rfl, hv2, k2⟩
 have HFO2 := hid (HFO.out v2 w2 (hv2.strs (by omega)))
 go_wp2_with fail
 refine HFO2.out.mono ?_; rintro e w3 ⟨v3, rfl, hv3, k3⟩
 have HSU3 := hid (HSU.out v3 w3 (hv3.ndsL (by rw [List.length_map]; omega) (by omega)))
 go_wp2_with fail
 refine HSU3.out.mono ?_; rintro e w4 ⟨v4, rfl, hv4, k4⟩
 have kk := ((kA.trans k2).trans k3).trans k4
 have HV4 := hid (hv4.strs (by omega))
 obtain ⟨p4, c4, e4, hle4, hmx4, _⟩ := (hv4.strs (by omega)).shape
 subst e4
 unfold maxLen at hmx4
 clear hv2 hv3 hv4
 go_wp2
 go_loopw [3, 12] (fun o i' wr => ∃ i : Nat, i ≤ (subT G).length ∧ i' = .int .i64 i ∧ OwnE wr w4.heap.size o (elTo G i) ((elTo G i).map (fun s => (txF s).enc)) ∧ Keeps w4 wr) (fun _ i' _ => (subT G).length - (intOf i').toNat)
 case atStart => exact ⟨0, by omega, rfl, by rw [HZ.out]; exact OwnE.nil _ _, Keeps.refl _⟩
 case round =>
  obtain ⟨i, hi, rfl, hown, kw⟩ := hrel
  by_cases hlt : i < (subT G).length
  ·have hlt' : (i : Int) < (subT G).length := by omega
   obtain ⟨b1, o1, rfl, h1⟩ := (HV4.out.keeps kw).get i hlt
   have htx := HTX.out i hlt
   have HP := hid (parsedT _ _ wr htx)
   have h40 := htx.2.2
   have hy := HY.out i hlt
   have hno := HNO.out i hlt
   have HYS := hid hy; clear hy
   have HNS := hid hno; clear hno
   have hll := HLN.out i
   have hsz := kw.size
   clear htx
   generalize (subT G)[i] = x at *
   generalize hT : txF x = t at *
   have HT := hid hT; clear hT
   go_wp2_with fail
   refine HP.out.mono ?_; rintro e w5 ⟨v5, rfl, hv5, k5⟩
   have hnd := hv5.nds (by omega)
   obtain ⟨b5, o5, n5, c5, rfl, hn0, hn1, hn2, hn3, hc, _⟩ := hnd.root
   have hv6 := hv5.keeps ((Keeps.refl w5).alloc (.cells #[.string x, .slice (some ⟨b5, o5, none⟩) n5 c5] 145))
   have k6 := k5.alloc (.cells #[.string x, .slice (some ⟨b5, o5, none⟩) n5 c5] 145)
   have hat := At.lit2 w5 x (.slice (some ⟨b5, o5, none⟩) n5 c5) 145
   unfold maxLen at hn2
   clear hnd hv5
   rcases el_kind t with ⟨he, hk⟩ | ⟨he, hk⟩
   ·rcases hk with hk | hk | hk
    ·rw [hk] at hc
     go_wp2_with (at_builtin; refine appE rfl _ _ rfl w4.heap.size _ (elTo G i) ((elTo G i).map (fun s => (txF s).enc)) rfl wr hown k6 x _ t.enc hv6 hsz _ _ rfl hat (by omega) ?_; intro v7 w7 hv7 hg7 hr7; have k7 := (kw.trans k6).grown hg7 hr7)
     go_roundw
     case rel => exact ⟨i + 1, by omega, by go_num, by rw [HYS.out he, List.map_append]; simpa only [List.map_cons, List.map_nil, HT.out] using hv7, k7⟩
     case measure => simp [intOf]; omega
    ·rw [hk] at hc
     go_wp2_with fail
     refine (isModal_any _ _).mono ?_; rintro e w' ⟨rfl, rfl⟩
     rw [show modalB 5 = true from rfl]
     go_wp2_with (at_builtin; refine appE rfl _ _ rfl w4.heap.size _ (elTo G i) ((elTo G i).map (fun s => (txF s).enc)) rfl wr hown k6 x _ t.enc hv6 hsz _ _ rfl hat (by omega) ?_; intro v7 w7 hv7 hg7 hr7; have k7 := (kw.trans k6).grown hg7 hr7)
     go_roundw
     case rel => exact ⟨i + 1, by omega, by go_num, by rw [HYS.out he, List.map_append]; simpa only [List.map_cons, List.map_nil, HT.out] using hv7, k7⟩
     case measure => simp [intOf]; omega
    ·rw [hk] at hc
     go_wp2_with fail
     refine (isModal_any _ _).mono ?_; rintro e w' ⟨rfl, rfl⟩
     rw [show modalB 6 = true from rfl]
     go_wp2_with (at_builtin; refine appE rfl _ _ rfl w4.heap.size _ (elTo G i) ((elTo G i).map (fun s => (txF s).enc)) rfl wr hown k6 x _ t.enc hv6 hsz _ _ rfl hat (by omega) ?_; intro v7 w7 hv7 hg7 hr7; have k7 := (kw.trans k6).grown hg7 hr7)
     go_roundw
     case rel => exact ⟨i + 1, by omega, by go_num, by rw [HYS.out he, List.map_append]; simpa only [List.map_cons, List.map_nil, HT.out] using hv7, k7⟩
     case measure => simp [intOf]; omega
   ·rcases hk with hk | hk | hk | hk
    ·rw [hk] at hc
     go_wp2_with fail
     refine (isModal_any _ _).mono ?_; rintro e w' ⟨rfl, rfl⟩
     rw [show modalB 1 = false from rfl]
     go_wp2_with fail
     go_roundw
     case rel => exact ⟨i + 1, by omega, by go_num, by rw [HNS.out he]; exact hown.keeps k5, kw.trans k5⟩
     case measure => simp [intOf]; omega
    ·rw [hk] at hc
     go_wp2_with fail
     refine (isModal_any _ _).mono ?_; rintro e w' ⟨rfl, rfl⟩
     rw [show modalB 2 = false from rfl]
     go_wp2_with fail
     go_roundw
     case rel => exact ⟨i + 1, by omega, by go_num, by rw [HNS.out he]; exact hown.keeps k5, kw.trans k5⟩
     case measure => simp [intOf]; omega
    ·rw [hk] at hc
     go_wp2_with fail
     refine (isModal_any _ _).mono ?_; rintro e w' ⟨rfl, rfl⟩
     rw [show modalB 3 = false from rfl]
     go_wp2_with fail
     go_roundw
     case rel => exact ⟨i + 1, by omega, by go_num, by rw [HNS.out he]; exact hown.keeps k5, kw.trans k5⟩
     case measure => simp [intOf]; omega
    ·rw [hk] at hc
     go_wp2_with fail
     refine (isModal_any _ _).mono ?_; rintro e w' ⟨rfl, rfl⟩
     rw [show modalB 4 = false from rfl]
     go_wp2_with fail
     go_roundw
     case rel => exact ⟨i + 1, by omega, by go_num, by rw [HNS.out he]; exact hown.keeps k5, kw.trans k5⟩
     case measure => simp [intOf]; omega
  ·obtain rfl : i = (subT G).length := by omega
   have hlt' : ¬ (((subT G).length : Int) < (subT G).length) := by omega
   rw [HEN.out] at hown
   go_wp2
   go_ret
   exact ⟨_, rfl, hown.mono kk.size, kk.trans kw⟩
end Go.Proofs.YtkkcfifnkcnceaaGreat
namespace Go.Proofs.YtkkcfifnkcnceaaGreat
open Go.RowKit
def boolCells (a : List Bool) : List Value := a.map (Value.bool)
def Bools (w : World) (v : Value) (a : List Bool) : Prop := ∃ p cap, v = .slice p a.length cap ∧ a.length ≤ cap ∧ cap ≤ maxLen ∧ At w p (boolCells a) ∧ a.length ≤ 2147483648
theorem Bools.keeps {w w' : World} {v : Value} {a : List Bool} (h : Bools w v a) (k : Keeps w w') : Bools w' v a := by
 obtain ⟨p, cap, hv, h1, h2, h3, h4⟩ := h
 exact ⟨p, cap, hv, h1, h2, h3.keeps k, h4⟩
theorem At.bool {w : World} {p : Option Addr} {a : List Bool} (h : At w p (boolCells a)) (i : Nat) (hi : i < a.length) :
  ∃ b off, p = some ⟨b, off, none⟩ ∧ w.cell? ⟨b, off + i, none⟩ = some (.bool a[i]) := by
 obtain ⟨b, off, hp, hc⟩ := h i (by simpa [boolCells] using hi)
 exact ⟨b, off, hp, by simpa [boolCells] using hc⟩
def OwnB (w : World) (B : Nat) (v : Value) (a : List Bool) : Prop := w.ownsRow B 4 1 v a.length (boolCells a)
theorem OwnB.bools {w : World} {B : Nat} {v : Value} {a : List Bool} (h : OwnB w B v a) (hl : a.length ≤ 2147483648) : Bools w v a := by
 obtain ⟨p, cap, h1, h2, h3, h4⟩ := At.of_own h
 exact ⟨p, cap, h1, h2, h3, h4, hl⟩
theorem OwnB.keeps {w w' : World} {B : Nat} {v : Value} {a : List Bool} (h : OwnB w B v a) (k : Keeps w w') : OwnB w' B v a := own_keeps h k
theorem OwnB.mono {w : World} {B B' : Nat} {v : Value} {a : List Bool} (h : OwnB w B v a) (k : B' ≤ B) : OwnB w B' v a := own_mono h k
theorem boolCells_one (a : List Bool) : ∀ u ∈ boolCells a, u.oneCell' = true := by
 intro u hu; unfold boolCells at hu; obtain ⟨x, _, rfl⟩ := List.mem_map.1 hu; rfl
theorem infoB : (Tryz.prog.info? 4).map (fun i => (i.zero, i.size, i.bytes)) = some (some (.bool false), 1, 1) := by kernel_rfl
theorem appBK {w : World} {o : Oper} {a : Act} {K : Act → World → Prop} {Q : Exit → Act → World → Prop} (s x : Operand)
  (ho : o.op = .call { callee := .builtin .append, args := #[s, x], argTypes := #[100, 100] }) (base : Nat) (v : Value) (xs : List Bool) (hs : a.eval s = v) (hown : OwnB w base v xs)
  (u : Value) (ys : List Bool) (hx : a.eval x = u) (hu : Bools w u ys) (hbase : base ≤ w.heap.size) (hlen : xs.length + ys.length ≤ 2147483648)
  (h : ∀ v' w', OwnB w' base v' (xs ++ ys) → w.grownBy w' v.ownBlock → (∀ k, v.ownBlock = some k → base ≤ k) → K (a.put o.dst v') w') : o.wp Tryz.prog a w K Q := by
 obtain ⟨i0, hi, hz0, hz1, hz2⟩ := info_parts infoB
 obtain ⟨p, cap, rfl, _, _, hat, _⟩ := hu
 refine wp_append_at s x _ ho _ i0 _ 1 1 Tryz.underlying100 hi hz0 hz1 hz2 rfl (by decide) base v _ _ hs hown p _ cap _ hx (by simp [boolCells]) hat (boolCells_one _) (by unfold maxLen; omega) (by omega) hbase ?_
 intro v' w' h1 h2 h3
 refine h v' w' ?_ h2 h3
 unfold OwnB
 rw [List.length_append, show boolCells (xs ++ ys) = boolCells xs ++ boolCells ys by simp [boolCells]]
 exact h1
theorem appB {w : World} {ops : Array Oper} {rest : List Oper} {o : Oper} {a : Act} {Q : Exit → Act → World → Prop} (hgd : o.guard = none) (s x : Operand)
  (ho : o.op = .call { callee := .builtin .append, args := #[s, x], argTypes := #[100, 100] }) (base : Nat) (v : Value) (xs : List Bool) (hs : a.eval s = v) (hown : OwnB w base v xs)
  (u : Value) (ys : List Bool) (hx : a.eval x = u) (hu : Bools w u ys) (hbase : base ≤ w.heap.size) (hlen : xs.length + ys.length ≤ 2147483648)
  (h : ∀ v' w', OwnB w' base v' (xs ++ ys) → w.grownBy w' v.ownBlock → (∀ k, v.ownBlock = some k → base ≤ k) → wpList Tryz.prog ops Q rest (a.put o.dst v') w') : wpList Tryz.prog ops Q (o :: rest) a w :=
 wpList_plain hgd fun _ hK => appBK s x ho base v xs hs hown u ys hx hu hbase hlen fun v' w' h1 h2 h3 => hK _ _ (h v' w' h1 h2 h3)
theorem stepB {w : World} {ops : Array Oper} {o : Oper} {a : Act} {K : Act → World → Prop} {Q : Exit → Act → World → Prop} {E : Prop} (hgd : o.guard = none) (s x : Operand)
  (ho : o.op = .call { callee := .builtin .append, args := #[s, x], argTypes := #[100, 100] }) (base : Nat) (v : Value) (xs : List Bool) (hs : a.eval s = v) (hown : OwnB w base v xs)
  (u : Value) (ys : List Bool) (hx : a.eval x = u) (hu : Bools w u ys) (hbase : base ≤ w.heap.size) (hlen : xs.length + ys.length ≤ 2147483648)
  (h : ∀ v' w', OwnB w' base v' (xs ++ ys) → w.grownBy w' v.ownBlock → (∀ k, v.ownBlock = some k → base ≤ k) → K (a.put o.dst v') w') : if Region.wanted o (yielded ops a.tmps) = true then Oper.wp Tryz.prog o a w K Q else E := by
 rw [if_pos (by simp [Region.wanted, hgd])]
 exact appBK s x ho base v xs hs hown u ys hx hu hbase hlen h
theorem Bools.lit1 (w : World) (x : Bool) : Bools (w.alloc (.cells #[.bool x] 4)) (.slice (some ⟨w.heap.size, 0, none⟩) 1 1) [x] := by
 refine ⟨_, 1, rfl, by simp, by simp [maxLen], ?_, by simp⟩
 intro j hj
 simp [boolCells] at hj
 subst hj
 exact ⟨_, _, rfl, by simp [boolCells]⟩
theorem OwnB.empty (w : World) : OwnB (w.alloc (.cells #[] 4)) w.heap.size (.slice (some ⟨w.heap.size, 0, none⟩) 0 0) [] :=
 World.ownsRow_made w #[] 0 (Nat.le_refl _) (by simp [maxLen]) (by simp)
theorem OwnB.nil (w : World) (B : Nat) : OwnB w B (.slice none 0 0) [] := World.ownsRow_nil w B _ 1
theorem OwnB.len {w : World} {B : Nat} {v : Value} {a : List Bool} (h : OwnB w B v a) : ∀ k, v.ownBlock = some k → B ≤ k ∧ k < w.heap.size := World.ownsRow.lt h
theorem OwnB.shape {w : World} {B : Nat} {v : Value} {a : List Bool} (h : OwnB w B v a) (hp : 0 < a.length) : ∃ g cap, v = .slice (some ⟨g, 0, none⟩) a.length cap ∧ B ≤ g ∧ g < w.heap.size ∧ a.length ≤ cap ∧ cap ≤ maxLen := by
 rcases h.2 with ⟨_, h0⟩ | ⟨g, cap, cur, rfl, hb, hg, hn, hm, _⟩
 ·omega
 ·exact ⟨g, cap, rfl, hb, (Array.getElem?_eq_some_iff.1 hg).1, hn, hm⟩
theorem OwnB.cell {w : World} {B : Nat} {g n cap : Nat} {a : List Bool} (h : OwnB w B (.slice (some ⟨g, 0, none⟩) n cap) a) (i : Nat) (hi : i < a.length) :
  w.cell? ⟨g, i, none⟩ = some (.bool a[i]) ∧ w.frozen? ⟨g, i, none⟩ = false := by
 obtain ⟨g', cap', hv, _⟩ := h.shape (by omega)
 cases hv
 have h' : w.ownsRow B 4 1 (.slice (some ⟨g, 0, none⟩) a.length cap) a.length (boolCells a) := h
 refine ⟨?_, h'.frozenAt i⟩
 rw [h'.cellAt i (by omega)]
 simp [boolCells, hi]
theorem OwnB.store {w : World} {B : Nat} {g n cap : Nat} {a : List Bool} (h : OwnB w B (.slice (some ⟨g, 0, none⟩) n cap) a) (i : Nat) (hi : i < a.length) (x : Bool) :
  OwnB (w.setCell ⟨g, i, none⟩ (.bool x)) B (.slice (some ⟨g, 0, none⟩) n cap) (a.set i x) ∧ w.grownBy (w.setCell ⟨g, i, none⟩ (.bool x)) (some g) := by
 obtain ⟨g', cap', hv, _⟩ := h.shape (by omega)
 cases hv
 have h' : w.ownsRow B 4 1 (.slice (some ⟨g, 0, none⟩) a.length cap) a.length (boolCells a) := h
 have := h'.stored i (.bool x)
 refine ⟨?_, this.2⟩
 unfold OwnB
 rw [List.length_set, show boolCells (a.set i x) = (boolCells a).set i (.bool x) by simp [boolCells, List.map_set]]
 exact this.1
end Go.Proofs.YtkkcfifnkcnceaaGreat
