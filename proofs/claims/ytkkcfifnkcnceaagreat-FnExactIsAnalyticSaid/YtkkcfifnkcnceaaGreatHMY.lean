import Derived.Test.YtkkcfifnkcnceaaGreatHMJ
import Derived.Test.YtkkcfifnkcnceaaGreatHBase
/- Texts of all parts: the reference's side. -/
namespace Go.Proofs.YtkkcfifnkcnceaaGreat
open Go.RowKit
def RetP (w : World) (B N : Nat) (P : List UInt8 → Prop) (e : Ending) (w' : World) : Prop :=
 ∃ b n c r, e = .returned (.slice (some b) n c) ∧ OwnS w' B (.slice (some b) n c) r ∧ Asc (r.map bts) ∧ (∀ z, z ∈ r.map bts ↔ P z) ∧ r.length ≤ N ∧ Keeps w w'
theorem insS_asc {ss : List ByteArray} (s : ByteArray) (h : Asc (ss.map bts)) : Asc ((insS ss s).map bts) := by rw [insS_bts]; exact insB_asc _ h
theorem insS_mem {ss : List ByteArray} {s : ByteArray} {z : List UInt8} : z ∈ (insS ss s).map bts ↔ z ∈ ss.map bts ∨ z = bts s := by rw [insS_bts]; exact insB_mem _ _ _
def InU (ss tt : List ByteArray) (z : List UInt8) : Prop := z ∈ ss.map bts ∨ z ∈ tt.map bts
def InSub (t : Fm) (z : List UInt8) : Prop := ∃ x ∈ subs t, z = x.body
set_option maxRecDepth 20000 in
theorem l11Copy_any (ss : List ByteArray) (v : Value) (w : World) (hv : Strs w v ss) (hl : ss.length ≤ 1000000) :
  Calls Tryz.prog 54 #[v] w (RetO w w.heap.size ss) := by
 have HV := hid (fun wz (kz : Keeps w wz) => hv.keeps kz)
 obtain ⟨p, c, rfl, _⟩ := hv.shape
 clear hv
 go_enter Tryz.func54, Tryz.ntmps54
 go_wp2_with (at_builtin; refine appSN rfl _ _ rfl w.heap.size _ [] rfl (OwnS.empty w) _ ss rfl (HV.out _ ((Keeps.refl w).alloc _)) (by simp) (by simp; omega) ?_; intro v2 w2 hv2 hg2 hr2 hn2; have k2 : Keeps w w2 := ((Keeps.refl w).alloc _).grown hg2 (fun q hq => hr2 q hq))
 go_ret
 obtain ⟨g, q, rfl⟩ := hv2.blk (fun e => by cases hn2 e)
 exact ⟨_, _, _, rfl, by simpa using hv2, k2⟩
set_option maxRecDepth 20000 in
set_option maxHeartbeats 1000000 in
theorem l11Union_any (ss tt : List ByteArray) (v u : Value) (w : World) (hv : Strs w v ss) (hu : Strs w u tt) (ha : Asc (ss.map bts)) (hl : ss.length + tt.length ≤ 1000000) :
  Calls Tryz.prog 21 #[v, u] w (RetP w w.heap.size (ss.length + tt.length) (InU ss tt)) := by
 have HC := hid (l11Copy_any ss v w hv (by omega))
 have HU := hid hu
 obtain ⟨p, c, rfl, _⟩ := hv.shape
 obtain ⟨q, c2, rfl, hle, hmx, _⟩ := hu.shape
 unfold maxLen at hmx
 have HA := hid ha
 clear hv hu ha
 go_enter Tryz.func21, Tryz.ntmps21
 go_wp2_with fail
 refine HC.out.mono ?_; rintro e w2 ⟨b, n, c3, rfl, hv2, k2⟩
 have HV2 := hid hv2; clear hv2
 go_wp2
 go_loopw [5, 6] (fun o i' wr => ∃ (i : Nat) (b' : Addr) (n' c' : Nat) (r : List ByteArray), i ≤ tt.length ∧ i' = .int .i64 i ∧ o = .slice (some b') n' c' ∧ OwnS wr w.heap.size (.slice (some b') n' c') r ∧ Asc (r.map bts) ∧ (∀ z, z ∈ r.map bts ↔ z ∈ ss.map bts ∨ z ∈ (tt.take i).map bts) ∧ r.length ≤ ss.length + i ∧ Keeps w wr) (fun _ i' _ => tt.length - (intOf i').toNat)
 case atStart => exact ⟨0, b, n, c3, ss, by omega, rfl, rfl, HV2.out, HA.out, fun z => by simp, by omega, k2⟩
 case round =>
  obtain ⟨i, b', n', c', r, hi, rfl, rfl, hown, hasc, hmem, hlen, kw⟩ := hrel
  clear HV2
  have HO := hid hown; clear hown
  have HS := hid hasc; clear hasc
  have HM := hid hmem; clear hmem
  by_cases hlt : i < tt.length
  ·have hlt' : (i : Int) < tt.length := by omega
   obtain ⟨b1, o1, rfl, h1⟩ := (HU.out.keeps kw).get i hlt
   obtain ⟨g, cg, eg⟩ := HO.out.blk (by simp)
   obtain ⟨e1, e2, e3⟩ : b' = ⟨g, 0, none⟩ ∧ n' = r.length ∧ c' = cg := by injection eg with h1 h2 h3; exact ⟨Option.some.inj h1, h2, h3⟩
   subst e1
   have HI := hid (l02InsertS_any r g 0 n' c' tt[i] w.heap.size wr HO.out (by omega) kw.size)
   have hN : ∀ z, z ∈ (insS r tt[i]).map bts ↔ z ∈ ss.map bts ∨ z ∈ (tt.take (i + 1)).map bts := fun z => by
    rw [insS_mem, HM.out z, List.take_succ_eq_append_getElem hlt, List.map_append, List.mem_append, or_assoc]
    simp
   have HN := hid hN; clear hN
   have HAN := hid (insS_asc tt[i] HS.out)
   have hln := (insS_len r tt[i]).1
   clear eg e2 e3
   generalize insS r tt[i] = r2 at *
   generalize tt[i] = x at *
   go_wp2_with fail
   refine HI.out.mono ?_; rintro e w3 ⟨b4, n4, c4, rfl, hv4, k4⟩
   go_wp2_with fail
   go_roundw
   case rel => exact ⟨i + 1, b4, n4, c4, r2, by omega, by go_num, rfl, hv4, HAN.out, HN.out, by omega, kw.trans k4⟩
   case measure => simp [intOf]; omega
  ·obtain rfl : i = tt.length := by omega
   have hlt' : ¬ ((tt.length : Int) < tt.length) := by omega
   have hN : ∀ z, z ∈ r.map bts ↔ z ∈ ss.map bts ∨ z ∈ tt.map bts := fun z => by
    have := HM.out z
    rwa [List.take_length] at this
   go_wp2
   go_ret
   exact ⟨_, _, _, r, rfl, HO.out, HS.out, hN, by omega, kw⟩
set_option maxRecDepth 100000 in
set_option maxHeartbeats 2000000 in
theorem l02Sub_any (t : Fm) (ht : t.wf) (h40 : t.enc.length ≤ 40) (v : Value) (w : World) (hv : Nds w v t.enc) :
  Calls Tryz.prog 85 #[v] w (RetP w w.heap.size t.enc.length (InSub t)) := by
 have hv0 := hv
 obtain ⟨p, cap, rfl, hle, hmx, hat, hlen⟩ := hv
 have hpos := Fm.enc_pos t
 obtain ⟨b0, o0, rfl⟩ := hat.ptrN hpos
 have hmx0 := hid hmx
 unfold maxLen at hmx
 have HPT : Hid (∀ i (hi : i < (subs t).length), skipInt 1 t.enc i = i + ((subs t)[i]).enc.length ∧ i + ((subs t)[i]).enc.length ≤ t.enc.length ∧ 0 < ((subs t)[i]).enc.length ∧ ∀ wz, Keeps w wz → ∀ o n c, o = o0 + i * 2 → n = ((subs t)[i]).enc.length → n ≤ c → c ≤ maxLen → Nds wz (.slice (some ⟨b0, o, none⟩) n c) ((subs t)[i]).enc) := hid (fun i hi => by
  obtain ⟨l, r, h1, h2⟩ := subs_at t i hi
  subst h2
  refine ⟨?_, ?_, Fm.enc_pos _, fun wz kz o n c ho hn hc hm => ?_⟩
  ·conv => lhs; rw [h1]
   exact skipInt_enc l _ r
  ·have := congrArg List.length h1
   simp only [List.length_append] at this
   omega
  ·have hz := hat.keeps kz
   rw [h1] at hz
   exact Nds.sub (l := l) (m := ((subs t)[l.length]).enc) (r := r) hz (by
    have := congrArg List.length h1
    simp only [List.length_append] at this
    omega) (by omega) hn hc hm)
 have HTX : Hid (∀ i (hi : i < (subs t).length) u wz, Nds wz u ((subs t)[i]).enc → Calls Tryz.prog 105 #[u] wz fun e w' => ∃ s, e = .returned (.string s) ∧ bts s = ((subs t)[i]).body ∧ Keeps wz w') := hid (fun i hi u wz hu => by
  have hm := List.getElem_mem hi
  exact l02TextA _ (subs_wf ht _ hm) (by have := subs_le _ hm; omega) u wz hu)
 have HSL := hid (subs_len t)
 have HV := hid hv0
 clear hat hv0
 generalize hn : t.enc.length = n at *
 have HNN := hid hn; clear hn
 have kE := (Keeps.refl w).alloc (.cells #[] 9)
 have hE := hid (OwnS.empty w)
 go_enter Tryz.func85, Tryz.ntmps85
 go_wp2
 go_loopw [3, 4] (fun o i' wr => ∃ (i : Nat) (b' : Addr) (n' c' : Nat) (r : List ByteArray), i ≤ n ∧ i' = .int .i64 i ∧ o = .slice (some b') n' c' ∧ OwnS wr w.heap.size (.slice (some b') n' c') r ∧ Asc (r.map bts) ∧ (∀ z, z ∈ r.map bts ↔ ∃ x ∈ (subs t).take i, z = x.body) ∧ r.length ≤ i ∧ Keeps w wr) (fun _ i' _ => n - (intOf i').toNat)
 case atStart => exact ⟨0, _, _, _, [], by omega, rfl, rfl, hE.out, by simp [Asc], fun z => by simp, by simp, kE⟩
 case round =>
  obtain ⟨i, b', n', c', r, hi, rfl, rfl, hown, hasc, hmem, hrl, kw⟩ := hrel
  clear hE
  have HO := hid hown; clear hown
  have HS := hid hasc; clear hasc
  have HM := hid hmem; clear hmem
  by_cases hlt : i < n
  ·have hlt' : (i : Int) < n := by omega
   have his : i < (subs t).length := by rw [HSL.out]; exact hlt
   obtain ⟨hsk, hend, hp2, hnds⟩ := HPT.out i his
   have HTXi := hid (HTX.out i his)
   have HND := hid hnds; clear hnds
   have HSK := hid hsk; clear hsk
   have hN : ∀ s, bts s = ((subs t)[i]).body → ∀ z, z ∈ (insS r s).map bts ↔ ∃ x ∈ (subs t).take (i + 1), z = x.body := fun s hs z => by
    rw [insS_mem, HM.out z, List.take_succ_eq_append_getElem his, hs]
    constructor
    ·rintro (⟨x, h1, h2⟩ | h)
     ·exact ⟨x, List.mem_append_left _ h1, h2⟩
     ·exact ⟨_, List.mem_append_right _ (List.mem_singleton.2 rfl), h⟩
    ·rintro ⟨x, h1, h2⟩
     rcases List.mem_append.1 h1 with h | h
     ·exact .inl ⟨x, h, h2⟩
     ·exact .inr (by rw [List.mem_singleton.1 h] at h2; exact h2)
   have HN := hid hN; clear hN
   obtain ⟨g, cg, eg⟩ := HO.out.blk (by simp)
   obtain ⟨e1, e2, e3⟩ : b' = ⟨g, 0, none⟩ ∧ n' = r.length ∧ c' = cg := by injection eg with h1 h2 h3; exact ⟨Option.some.inj h1, h2, h3⟩
   subst e1
   have HI := hid (fun s wz (kz : Keeps wr wz) => l02InsertS_any r g 0 n' c' s w.heap.size wz (HO.out.keeps kz) (by omega) (by have := kw.size; have := kz.size; omega))
   clear eg e2 e3
   generalize (subs t)[i] = y at *
   generalize hyl : y.enc.length = yl at *
   have HYL := hid hyl; clear hyl
   go_wp2_with fail
   refine (l02Part_any _ _ _ _ (HV.out.keeps kw) (by omega) (by have := HNN.out; omega)).mono ?_; rintro e w' ⟨rfl, rfl⟩
   rw [show ((i : Nat) : Int).toNat = i from Int.toNat_natCast i, HSK.out]
   go_wp2_with fail
   refine (HTXi.out _ _ (HND.out _ kw _ _ _ (by first | rfl | omega) (by omega) (by omega) (by have := hmx0.out; omega))).mono ?_; rintro e w3 ⟨s, rfl, hs, k3⟩
   have HIs := hid (HI.out s w3 k3)
   have HNs := hid (HN.out s hs)
   have HAN := hid (insS_asc s HS.out)
   have hln := (insS_len r s).1
   clear HN
   generalize insS r s = r2 at *
   go_wp2_with fail
   refine HIs.out.mono ?_; rintro e w4 ⟨b4, n4, c4, rfl, hv4, k4⟩
   go_wp2_with fail
   go_roundw
   case rel => exact ⟨i + 1, b4, n4, c4, r2, by omega, by go_num, rfl, hv4, HAN.out, HNs.out, by omega, (kw.trans k3).trans k4⟩
   case measure => simp [intOf]; omega
  ·obtain rfl : i = n := by omega
   have hlt' : ¬ ((i : Int) < i) := by omega
   have hN : ∀ z, z ∈ r.map bts ↔ ∃ x ∈ subs t, z = x.body := fun z => by
    have := HM.out z
    rwa [← HSL.out, List.take_length] at this
   go_wp2
   go_ret
   exact ⟨_, _, _, r, rfl, HO.out, HS.out, hN, by omega, kw⟩
theorem subG_fmL_mem {ss : List ByteArray} {z : List UInt8} : (∃ x ∈ subG (fmL ss), z = x.body) ↔ ∃ s ∈ ss, InSub (txF s) z := by
 unfold subG fmL InSub
 constructor
 ·rintro ⟨x, hx, hz⟩
  obtain ⟨a, ha, hx⟩ := List.mem_flatMap.1 hx
  obtain ⟨s, hs, rfl⟩ := List.mem_map.1 ha
  exact ⟨s, hs, x, hx, hz⟩
 ·rintro ⟨s, hs, x, hx, hz⟩
  exact ⟨x, List.mem_flatMap.2 ⟨txF s, List.mem_map_of_mem hs, hx⟩, hz⟩
theorem mem_of_map_bts {r : List ByteArray} {s : ByteArray} : bts s ∈ r.map bts ↔ s ∈ r := by
 rw [List.mem_map]
 exact ⟨fun ⟨x, h1, h2⟩ => by rw [← bts_inj h2]; exact h1, fun h => ⟨s, h, rfl⟩⟩
set_option maxRecDepth 100000 in
set_option maxHeartbeats 2000000 in
theorem l11Parts_any (ss tt : List ByteArray) (v u : Value) (w : World) (hv : Strs w v ss) (hu : Strs w u tt) (hs : Side ss) (ht : Side tt) (h16 : ss.length ≤ 16) (h16' : tt.length ≤ 16) :
  Calls Tryz.prog 40 #[.agg #[v, u]] w fun e w' => ∃ b n c, e = .returned (.slice (some b) n c) ∧ OwnS w' w.heap.size (.slice (some b) n c) (subT (fmL (ss ++ tt))) ∧ Keeps w w' := by
 have kA := ((Keeps.refl w).alloc (.cells #[v, u] 26)).alloc (.cells #[] 9)
 obtain ⟨c0, c1⟩ := BoxQ.made w v u 26
 have HUN := hid (l11Union_any ss tt v u _ (hv.keeps kA) (hu.keeps kA) hs.2 (by omega))
 have hE0 := OwnS.empty (w.alloc (.cells #[v, u] 26))
 have hE := hid ((hE0.strs (by simp)))
 have hsz : (w.alloc (.cells #[v, u] 26)).heap.size = w.heap.size + 1 := by simp
 rw [hsz] at hE
 have HOE : Hid (OwnS ((w.alloc (.cells #[v, u] 26)).alloc (.cells #[] 9)) w.heap.size (.slice (some ⟨w.heap.size + 1, 0, none⟩) 0 0) []) := hid (by rw [hsz] at hE0; exact hE0.mono (by omega))
 have HTX : Hid (∀ s, s ∈ ss ++ tt → IsTx s (txF s)) := hid (fun s h => (List.mem_append.1 h).elim (fun h => txF_tx (hs.1 s h)) (fun h => txF_tx (ht.1 s h)))
 have HUQ := hid (fun r => subT_uniq (G := fmL (ss ++ tt)) (r := r))
 have HFN := hid (fmL_fine hs |>.append (fmL_fine ht))
 obtain ⟨p, c, rfl, _⟩ := hv.shape
 obtain ⟨q, c2, rfl, _⟩ := hu.shape
 clear hv hu hs ht hE0
 go_enter Tryz.func40, Tryz.ntmps40
 go_wp2_with fail
 refine HUN.out.mono ?_; rintro e w2 ⟨b, n, c3, r, rfl, hv2, hasc, hmem, hrl0, k2⟩
 have kk := kA.trans k2
 have hn : n = r.length ∧ n ≤ maxLen ∧ n ≤ c3 := by obtain ⟨p', c', e, h1, h2, _⟩ := At.of_own hv2; cases e; exact ⟨rfl, by omega, h1⟩
 have hrl : r.length ≤ 32 := by omega
 obtain ⟨hn, hn2, hn3⟩ := hn
 subst hn
 have HV2 := hid (hv2.strs (by omega))
 have HRM : Hid (∀ s, s ∈ r ↔ s ∈ ss ++ tt) := hid (fun s => by
  rw [← mem_of_map_bts, hmem (bts s), List.mem_append]
  exact ⟨fun h => h.elim (fun h => .inl (mem_of_map_bts.1 h)) (fun h => .inr (mem_of_map_bts.1 h)), fun h => h.elim (fun h => .inl (mem_of_map_bts.2 h)) (fun h => .inr (mem_of_map_bts.2 h))⟩)
 have HGD := hid (fun i (h : i < r.length) wz => l02GoodA r[i] wz (by
  have := (HTX.out _ ((HRM.out _).1 (List.getElem_mem h))).small; omega))
 have HSB := hid (fun i (h : i < r.length) u' wz (hz : Nds wz u' (txF r[i]).enc) => l02Sub_any (txF r[i]) (HTX.out _ ((HRM.out _).1 (List.getElem_mem h))).1 (HTX.out _ ((HRM.out _).1 (List.getElem_mem h))).2.2 u' wz hz)
 have HTI : Hid (∀ i (h : i < r.length), IsTx r[i] (txF r[i])) := hid (fun i h => HTX.out _ ((HRM.out _).1 (List.getElem_mem h)))
 have hE2 := hE.out.keeps k2
 have HE2 := hid hE2
 have HOE2 := hid (HOE.out.keeps k2)
 clear hv2 hasc hmem hE2 hE HOE
 unfold maxLen at hn2
 go_wp2
 go_loopw [3, 5] (fun o i' wr => ∃ (i : Nat) (b' : Addr) (n' c' : Nat) (q : List ByteArray), i ≤ r.length ∧ i' = .int .i64 i ∧ o = .slice (some b') n' c' ∧ OwnS wr w.heap.size (.slice (some b') n' c') q ∧ Asc (q.map bts) ∧ (∀ z, z ∈ q.map bts ↔ ∃ s ∈ r.take i, InSub (txF s) z) ∧ q.length ≤ 40 * i ∧ Keeps w2 wr) (fun _ i' _ => r.length - (intOf i').toNat)
 case atStart => exact ⟨0, _, 0, 0, [], by omega, rfl, by simp, HOE2.out, by simp [Asc], fun z => by simp, by simp, Keeps.refl _⟩
 case round =>
  obtain ⟨i, b', n', c', q0, hi, rfl, rfl, hown, hasc, hmem, hql, kw⟩ := hrel
  clear HE2 HOE2
  have HO := hid hown; clear hown
  have HS := hid hasc; clear hasc
  have HM := hid hmem; clear hmem
  have kkw := kk.trans kw
  by_cases hlt : i < r.length
  ·have hlt' : (i : Int) < r.length := by omega
   obtain ⟨b1, o1, e1, h1⟩ := (HV2.out.keeps kw).get i hlt
   have hb : b = ⟨b1, o1, none⟩ := Option.some.inj e1
   subst hb
   have HGi := hid (HGD.out i hlt wr)
   have HSi := hid (HSB.out i hlt)
   have hti := HTI.out i hlt
   have h40 := hti.2.2
   have HTX1 := hid hti
   have hix := isTx_iff.2 ⟨_, hti⟩
   clear hti
   have hN : ∀ r4 r5 : List ByteArray, (∀ z, z ∈ r4.map bts ↔ InSub (txF r[i]) z) → (∀ z, z ∈ r5.map bts ↔ InU q0 r4 z) → ∀ z, z ∈ r5.map bts ↔ ∃ s ∈ r.take (i + 1), InSub (txF s) z := fun r4 r5 h4 h5 z => by
    rw [h5 z, List.take_succ_eq_append_getElem hlt]
    show z ∈ q0.map bts ∨ z ∈ r4.map bts ↔ _
    rw [HM.out z, h4 z]
    constructor
    ·rintro (⟨s, h1, h2⟩ | h)
     ·exact ⟨s, List.mem_append_left _ h1, h2⟩
     ·exact ⟨_, List.mem_append_right _ (List.mem_singleton.2 rfl), h⟩
    ·rintro ⟨s, h1, h2⟩
     rcases List.mem_append.1 h1 with h | h
     ·exact .inl ⟨s, h, h2⟩
     ·exact .inr (by rw [List.mem_singleton.1 h] at h2; exact h2)
   have HN := hid hN; clear hN
   unfold GoodR at HGi
   generalize txF r[i] = t at *
   generalize r[i] = x at *
   go_wp2_with fail
   refine HGi.out.mono ?_; rintro e w3 ⟨vg, rfl, k3, hg⟩
   have hnd := (hg t HTX1.out).nds (by omega)
   rw [hix]
   have HS3 := hid (HSi.out _ _ hnd)
   obtain ⟨p3, n3, c4, rfl⟩ := hnd.shape
   clear hg hnd
   go_wp2_with fail
   refine HS3.out.mono ?_; rintro e w4 ⟨b4, n4, c4', r4, rfl, hv4, _, hm4, hl4, k4⟩
   have hq0 := (HO.out.keeps (k3.trans k4)).strs (by omega)
   have HU4 := hid (l11Union_any q0 r4 _ _ w4 hq0 (hv4.strs (by omega)) HS.out (by omega))
   have HM4 := hid hm4
   clear hq0 hv4 hm4
   go_wp2_with fail
   refine HU4.out.mono ?_; rintro e w5 ⟨b5, n5, c5, r5, rfl, hv5, ha5, hm5, hl5, k5⟩
   have kk5 := ((kw.trans k3).trans k4).trans k5
   have hsz5 := (kk.trans ((kw.trans k3).trans k4)).size
   go_wp2_with fail
   go_roundw
   case rel => exact ⟨i + 1, b5, n5, c5, r5, by omega, by go_num, rfl, hv5.mono hsz5, ha5, HN.out r4 r5 HM4.out hm5, by omega, kk5⟩
   case measure => simp [intOf]; omega
  ·obtain rfl : i = r.length := by omega
   have hlt' : ¬ ((r.length : Int) < r.length) := by omega
   have hq : q0 = subT (fmL (ss ++ tt)) := HUQ.out q0 HS.out (fun z => by
    rw [HM.out z, List.take_length, subG_fmL_mem]
    exact ⟨fun ⟨s, h1, h2⟩ => ⟨s, (HRM.out s).1 h1, h2⟩, fun ⟨s, h1, h2⟩ => ⟨s, (HRM.out s).2 h1, h2⟩⟩)
   have HQ := hid hq; clear hq
   go_wp2
   go_ret
   exact ⟨_, _, _, rfl, by rw [← HQ.out]; exact HO.out, kkw⟩
end Go.Proofs.YtkkcfifnkcnceaaGreat
namespace Go.Proofs.YtkkcfifnkcnceaaGreat
open Go.RowKit
theorem compact_len (zs : List (List UInt8)) : (Lib.compact zs).length ≤ zs.length := (compact_sub zs).length_le
theorem subT_len {G : List Fm} (h : Fine G) : (subT G).length ≤ 40 * G.length := by
 unfold subT sortB
 rw [List.length_map]
 refine Nat.le_trans (compact_len _) ?_
 rw [List.length_mergeSort, List.length_map]
 exact subG_len h
end Go.Proofs.YtkkcfifnkcnceaaGreat
namespace Go.Proofs.YtkkcfifnkcnceaaGreat
open Go.RowKit
end Go.Proofs.YtkkcfifnkcnceaaGreat
