/- The draw of a rule's arguments: DrawRulePremises. -/
import Derived.Test.YtkkcfifnkcnceaaGreatHDR
import Derived.Test.YtkkcfifnkcnceaaGreatHFR
import Derived.Test.YtkkcfifnkcnceaaGreatHRB
import Derived.Test.YtkkcfifnkcnceaaGreatHPY
import Derived.Deep.RegionHeld3
namespace Go.Proofs.YtkkcfifnkcnceaaGreat
open Go.RowKit
set_option maxRecDepth 20000 in
set_option maxHeartbeats 1000000 in
theorem l11UnionN_any (ss tt : List ByteArray) (v u : Value) (w : World) (hv : Strs w v ss) (hu : Strs w u tt) (hl : ss.length + tt.length ≤ 1000000) :
  Calls Tryz.prog 21 #[v, u] w (RetO w w.heap.size (uniS ss tt)) := by
 have HC := hid (l11Copy_any ss v w hv (by omega))
 have HU := hid hu
 obtain ⟨p, c, rfl, _⟩ := hv.shape
 obtain ⟨q, c2, rfl, hle, hmx, _⟩ := hu.shape
 unfold maxLen at hmx
 clear hv hu
 go_enter Tryz.func21, Tryz.ntmps21
 go_wp2_with fail
 refine HC.out.mono ?_; rintro e w2 ⟨b, n, c3, rfl, hv2, k2⟩
 have HV2 := hid hv2; clear hv2
 have HT : Hid (uniS ss (tt.take tt.length) = uniS ss tt) := hid (by rw [List.take_length])
 go_wp2
 go_loopw [5, 6] (fun o i' wr => ∃ (i : Nat) (b' : Addr) (n' c' : Nat), i ≤ tt.length ∧ i' = .int .i64 i ∧ o = .slice (some b') n' c' ∧ OwnS wr w.heap.size (.slice (some b') n' c') (uniS ss (tt.take i)) ∧ (uniS ss (tt.take i)).length ≤ ss.length + i ∧ Keeps w wr) (fun _ i' _ => tt.length - (intOf i').toNat)
 case atStart => exact ⟨0, b, n, c3, by omega, rfl, rfl, by simpa [uniS] using HV2.out, by simp [uniS], k2⟩
 case round =>
  obtain ⟨i, b', n', c', hi, rfl, rfl, hown, hlen, kw⟩ := hrel
  clear HV2
  have HO := hid hown; clear hown
  by_cases hlt : i < tt.length
  ·have hlt' : (i : Int) < tt.length := by omega
   obtain ⟨b1, o1, rfl, h1⟩ := (HU.out.keeps kw).get i hlt
   have HN : Hid (uniS ss (tt.take (i + 1)) = insS (uniS ss (tt.take i)) tt[i]) := hid (by
    unfold uniS
    rw [List.take_succ_eq_append_getElem hlt, List.foldl_append]
    rfl)
   generalize uniS ss (tt.take i) = r at *
   obtain ⟨g, cg, eg⟩ := HO.out.blk (by simp)
   obtain ⟨e1, e2, e3⟩ : b' = ⟨g, 0, none⟩ ∧ n' = r.length ∧ c' = cg := by injection eg with h1 h2 h3; exact ⟨Option.some.inj h1, h2, h3⟩
   subst e1
   have HI := hid (l02InsertS_any r g 0 n' c' tt[i] w.heap.size wr HO.out (by omega) kw.size)
   have hln := (insS_len r tt[i]).1
   clear eg e2 e3
   generalize insS r tt[i] = r2 at *
   generalize tt[i] = x at *
   go_wp2_with fail
   refine HI.out.mono ?_; rintro e w3 ⟨b4, n4, c4, rfl, hv4, k4⟩
   go_wp2_with fail
   go_roundw
   case rel => exact ⟨i + 1, b4, n4, c4, by omega, by go_num, rfl, by rw [HN.out]; exact hv4, by rw [HN.out]; omega, kw.trans k4⟩
   case measure => simp [intOf]; omega
  ·obtain rfl : i = tt.length := by omega
   have hlt' : ¬ ((tt.length : Int) < tt.length) := by omega
   have h := HO.out
   rw [HT.out] at h
   go_wp2
   go_ret
   exact ⟨_, _, _, rfl, h, kw⟩
structure RuS (w : World) (B c : Nat) (x y : Value) (wz : World) : Prop where
 hB : w.heap.size + 1 ≤ B
 hc : w.heap.size + 1 ≤ c
 hcB : c ≠ B
 xb : x.ownBlock ≠ some B
 yb : y.ownBlock ≠ some B
 src : Src wz B
 kp : Keeps w wz
 res : BoxG wz w.heap.size 26 [.slice none 0 0, .slice none 0 0]
 box : BoxG wz c 26 [x, y]
 sx : SideD 4 wz w.heap.size x
 sy : SideD 4 wz w.heap.size y
theorem SideD.drM {m : Nat} {w w' : World} {B b : Nat} {v : Value} (h : SideD m w b v) (k : Dr B w w') (hB : v.ownBlock ≠ some B) : SideD m w' b v := by
 obtain ⟨x, n, c, ss, e, h1, h2⟩ := h
 subst e
 exact ⟨x, n, c, ss, rfl, own_touch h1 k.1 (fun i hi e => hB (by rw [hi, show i = B from e])), h2⟩
theorem SideD.offM {m : Nat} {w : World} {B b : Nat} {v : Value} (h : SideD m w b v) (hB : B < b) : v.ownBlock ≠ some B := by
 obtain ⟨x, n, c, ss, rfl, h1, _⟩ := h
 intro e
 have := (h1.len B e).1
 omega
theorem BoxG.drM {w w' : World} {r B : Nat} {T : TypeId} {cs : List Value} (h : BoxG w r T cs) (k : Dr B w w') (hB : r ≠ B) : BoxG w' r T cs := own_touch h k.1 (fun i hi e => by
 have : r = i := by simpa [Value.ownBlock] using hi
 omega)
theorem RuS.dr {w wz w' : World} {B c : Nat} {x y : Value} (h : RuS w B c x y wz) (d : Dr B wz w') : RuS w B c x y w' :=
 ⟨h.hB, h.hc, h.hcB, h.xb, h.yb, d.2, Dr.keepsOf h.kp (by have := h.hB; omega) d, h.res.drM d (by have := h.hB; omega), h.box.drM d h.hcB, h.sx.drM d h.xb, h.sy.drM d h.yb⟩
theorem RuS.keeps {w wz w' : World} {B c : Nat} {x y : Value} (h : RuS w B c x y wz) (k : Keeps wz w') : RuS w B c x y w' :=
 ⟨h.hB, h.hc, h.hcB, h.xb, h.yb, h.src.keeps k, h.kp.trans k, h.res.keeps k, h.box.keeps k, h.sx.keeps k, h.sy.keeps k⟩
theorem RuS.cells {w wz : World} {B c : Nat} {x y : Value} (h : RuS w B c x y wz) : wz.cell? ⟨c, 0, none⟩ = some x ∧ wz.cell? ⟨c, 1, none⟩ = some y := ⟨h.box.cell 0 (by simp), h.box.cell 1 (by simp)⟩
def RuD (w : World) (e : Ending) (w' : World) : Prop := ∃ (s : ByteArray) (r : Nat) (x y : Value) (m : ByteArray), e = .returned (.tuple #[.string s, .int .i64 r, .agg #[x, y], .string m]) ∧ s.size ≤ 4 ∧ SideD 4 w' w.heap.size x ∧ SideD 4 w' w.heap.size y ∧ m.size ≤ 200 ∧ Keeps w w'
theorem RuS.fin {w wz : World} {B c : Nat} {x y : Value} (h : RuS w B c x y wz) (s m : ByteArray) (r : Nat) (hs : s.size ≤ 4) (hm : m.size ≤ 200) :
  (wz.cell? ⟨w.heap.size, 0, none⟩ = some (.slice none 0 0) ∧ wz.cell? ⟨w.heap.size, 1, none⟩ = some (.slice none 0 0) ∧ wz.frozen? ⟨w.heap.size, 0, none⟩ = false ∧ wz.frozen? ⟨w.heap.size, 1, none⟩ = false ∧ wz.cell? ⟨c, 0, none⟩ = some x ∧ wz.cell? ⟨c, 1, none⟩ = some y) ∧
  (RuD w (.returned (.tuple #[.string s, .int .i64 r, .agg #[x, y], .string m])) ((wz.setCell ⟨w.heap.size, 0, none⟩ x).setCell ⟨w.heap.size, 1, none⟩ y)) ∧
  ((wz.setCell ⟨w.heap.size, 0, none⟩ x).setCell ⟨w.heap.size, 1, none⟩ y).cell? ⟨w.heap.size, 0, none⟩ = some x ∧ ((wz.setCell ⟨w.heap.size, 0, none⟩ x).setCell ⟨w.heap.size, 1, none⟩ y).cell? ⟨w.heap.size, 1, none⟩ = some y ∧ (wz.setCell ⟨w.heap.size, 0, none⟩ x).cell? ⟨w.heap.size, 0, none⟩ = some x := by
 have hb1 := h.res.set 0 x
 have hb2 := hb1.set 1 y
 obtain ⟨t0, t1⟩ := h.cells
 exact ⟨⟨h.res.cell 0 (by simp), h.res.cell 1 (by simp), h.res.froz 0, h.res.froz 1, t0, t1⟩, ⟨s, r, x, y, m, rfl, hs, (h.sx.boxed h.res (by decide)).boxed hb1 (by decide), (h.sy.boxed h.res (by decide)).boxed hb1 (by decide), hm, (h.kp.setCell (p := ⟨w.heap.size, 0, none⟩) (Nat.le_refl _) x).setCell (p := ⟨w.heap.size, 1, none⟩) (Nat.le_refl _) y⟩, hb2.cell 0 (by simp), hb2.cell 1 (by simp), hb1.cell 0 (by simp)⟩
theorem sideD_read {m : Nat} {w : World} {b : Nat} {v : Value} (h : SideD m w b v) (hm : m ≤ 1000) : ∃ ss, StrsP w v ss ∧ (∀ s ∈ ss, s.size ≤ 200) ∧ ss.length ≤ m := by
 obtain ⟨g, n, c, ss, rfl, h1, h2, h3⟩ := h
 exact ⟨ss, h1.strsP (by omega), h3, h2⟩
set_option maxRecDepth 100000 in
set_option maxHeartbeats 8000000 in
theorem drawRule_any (v : Value) (n : Nat) (w : World) (hv : Bts w v n) (hn : n ≤ 4096) : Calls Tryz.prog 6 #[v] w (RuD w) := by
 have kA := (Keeps.refl w).alloc (.cells #[.slice none 0 0, .slice none 0 0] 26)
 have hb := BoxG.made w 26 [.slice none 0 0, .slice none 0 0] (by simp) (by simp)
 have hsz : (w.alloc (.cells #[.slice none 0 0, .slice none 0 0] 26)).heap.size = w.heap.size + 1 := by simp
 have HF := hid (l01From_any v n _ ((hv.low kA).up (by simp)) hn)
 obtain ⟨p, cap, rfl, _⟩ := hv
 go_enter Tryz.func6, Tryz.ntmps6
 go_wp2_with fail
 refine HF.out.mono ?_; rintro e w1 ⟨B, rfl, hB, hs, k1⟩
 rw [hsz] at hB
 have K1 := kA.trans k1
 have hb1 := hb.keeps k1
 clear hb HF kA k1 hsz
 have HLG := hid (l11Logic_any B w1 hs)
 go_wp2_with fail
 refine HLG.out.mono ?_; rintro e w2 ⟨s, rfl, hs4, d2⟩
 have K2 := Dr.keepsOf K1 (by omega) d2
 have hb2 := hb1.drM d2 (by omega)
 have HSQ := hid (l11Sequent_any B w2 d2.2)
 have hB2 := d2.2.lt
 have hw2 : w.heap.size ≤ w2.heap.size := K2.size
 clear hb1 K1 hs HLG d2
 go_wp2_with fail
 refine HSQ.out.mono ?_; rintro e w3 ⟨x3, y3, rfl, hx3, hy3, d3⟩
 have K3 := Dr.keepsOf K2 (by omega) d3
 have hb3 := hb2.drM d3 (by omega)
 have HXB := hid (hx3.offM hB2)
 have HYB := hid (hy3.offM hB2)
 replace hx3 := hx3.mono hw2
 replace hy3 := hy3.mono hw2
 obtain ⟨p3, n3, c3, rfl⟩ := hx3.shape
 obtain ⟨q3, m3, e3, rfl⟩ := hy3.shape
 have hc := BoxG.made w3 26 [.slice p3 n3 c3, .slice q3 m3 e3] (by simp) (by simp)
 have kC := (Keeps.refl w3).alloc (.cells #[.slice p3 n3 c3, .slice q3 m3 e3] 26)
 have hB3 := d3.2.lt
 have hS : RuS w B w3.heap.size (.slice p3 n3 c3) (.slice q3 m3 e3) (w3.alloc (.cells #[.slice p3 n3 c3, .slice q3 m3 e3] 26)) :=
  ⟨by omega, by have := K3.size; omega, by omega, HXB.out, HYB.out, d3.2.keeps kC, K3.trans kC, hb3.keeps kC, hc, hx3.keeps kC, hy3.keeps kC⟩
 clear hx3 hy3 hc kC hb3 K3 hb2 K2 HSQ d3 HXB HYB hB3 hB2
 have HR := hid (fun w' (h : RuS w B w3.heap.size (.slice p3 n3 c3) (.slice q3 m3 e3) w') => h)
 obtain ⟨g1, n1', c1', ss, ex, ho1, hl1, hz1⟩ := hS.sx
 obtain ⟨g2, n2', c2', tt, ey, ho2, hl2, hz2⟩ := hS.sy
 have HST : Hid (∀ w', RuS w B w3.heap.size (.slice p3 n3 c3) (.slice q3 m3 e3) w' → Dr B (w3.alloc (.cells #[.slice p3 n3 c3, .slice q3 m3 e3] 26)) w' → StrsP w' (.slice p3 n3 c3) ss ∧ StrsP w' (.slice q3 m3 e3) tt) := hid (fun w' h d => by
  rw [ex, ey]
  have xb := h.xb
  have yb := h.yb
  rw [ex] at xb
  rw [ey] at yb
  have o1 : OwnS w' w.heap.size (.slice (some ⟨g1, 0, none⟩) n1' c1') ss := own_touch ho1 d.1 (fun i hi e => xb (by rw [hi, show i = B from e]))
  have o2 : OwnS w' w.heap.size (.slice (some ⟨g2, 0, none⟩) n2' c2') tt := own_touch ho2 d.1 (fun i hi e => yb (by rw [hi, show i = B from e]))
  exact ⟨o1.strsP (by omega), o2.strsP (by omega)⟩)
 clear ex ey ho1 ho2 HR
 have hd0 := Dr.of hS.src (Keeps.refl _)
 have HZ1 := hid hz1
 have HZ2 := hid hz2
 have HU := hid (l11UnionN_any ss tt _ _ _ (HST.out _ hS hd0).1.1 (HST.out _ hS hd0).2.1 (by omega))
 have HUS : Hid (∀ u ∈ uniS ss tt, u.size ≤ 200) := hid (fun u hu => by
  rcases uniS_in.1 hu with h | h
  ·exact HZ1.out u h
  ·exact HZ2.out u h)
 have hul : (uniS ss tt).length ≤ 8 := by have := uniS_len ss tt; omega
 have HM1 : Hid (Mid ss) := hid (fun u hu => by have := HZ1.out u hu; omega)
 have HM2 : Hid (Mid tt) := hid (fun u hu => by have := HZ2.out u hu; omega)
 have HSS := hid hS
 obtain ⟨z0, z1⟩ := hS.cells
 have hcB := hS.src.lt
 clear hz1 hz2
 go_upto_region 3 with fail
 generalize w3.alloc (.cells #[.slice p3 n3 c3, .slice q3 m3 e3] 26) = w4 at *
 have HSN := hs4
 clear hS hd0
 generalize uniS ss tt = U at *
 go_wp2_with fail
 refine HU.out.mono ?_; rintro e w5 ⟨bu, nu, cu, rfl, hou, k5⟩
 obtain ⟨g, cg, eg⟩ := hou.blk (by simp)
 obtain ⟨e1, e2, e3'⟩ : bu = ⟨g, 0, none⟩ ∧ nu = U.length ∧ cu = cg := by injection eg with h1 h2 h3; exact ⟨Option.some.inj h1, h2, h3⟩
 subst e1
 subst e2
 have hgB : g ≠ B := by have := (hou.len g rfl).1; omega
 have hS5 := HSS.out.keeps k5
 have HD5 := hid (Dr.of HSS.out.src k5)
 have HOU4 := hid hou
 have HGB := hid hgB
 have hucap : U.length ≤ cu ∧ cu ≤ maxLen := by
  obtain ⟨p9, q9, e9, h1, h2, _⟩ := At.of_own hou
  cases e9
  exact ⟨h1, h2⟩
 unfold maxLen at hucap
 clear eg e3' HU z0 z1 hou hgB
 have HS5 := hid hS5
 clear hS5
 go_upto_region 5 with fail
 go_cut [33] from 26 to 33 (fun m wx => ∃ b : Bool, m = .bool b ∧ (b = true → 0 < U.length) ∧ RuS w B w3.heap.size (.slice p3 n3 c3) (.slice q3 m3 e3) wx ∧ Dr B w5 wx)
 case first =>
  by_cases h0 : 0 < U.length
  ·have h0' : (U.length : Int) > 0 := by omega
   go_wp2_with fail
   refine (l01Next_any 8 B _ HS5.out.src (by omega)).mono ?_; rintro e w6 ⟨r6, rfl, hr6, d6⟩
   have hS6 := hid (HS5.out.dr d6)
   have HD6 := hid d6
   clear d6
   by_cases h6 : r6 = 0
   ·subst h6
    go_wp2_with fail
    go_meet
    exact ⟨false, rfl, fun _ => h0, hS6.out, HD6.out⟩
   ·have h6' : (r6 : Int) > 0 := by omega
    go_wp2_with fail
    go_meet
    exact ⟨true, congrArg Value.bool (decide_eq_true (by omega)), fun _ => h0, hS6.out, HD6.out⟩
  ·have h0' : ¬ (U.length : Int) > 0 := by omega
   go_wp2_with fail
   go_meet
   exact ⟨false, rfl, fun h => by (try cases h), HS5.out, Dr.of HS5.out.src (Keeps.refl _)⟩
 case rest =>
 obtain ⟨bb, rfl, hbb, hSa, hDa⟩ := hcut
 have HSA := hid hSa
 have HDA := hid (HD5.out.trans hDa)
 have HBB := hid hbb
 have hOA : OwnS wc w4.heap.size (.slice (some ⟨g, 0, none⟩) U.length cu) U := own_touch HOU4.out hDa.1 (fun i hi e => HGB.out (by have a : g = i := (by simpa [Value.ownBlock] using hi); have b : i = B := e; omega))
 have HOA := hid hOA
 clear hSa hDa hOA hbb HS5 HD5
 generalize wc = wa at *
 go_upto_if 33 with fail
 go_cut [10] from 34 to 40 (fun m wx => ∃ x : ByteArray, m = .string x ∧ x.size ≤ 200 ∧ RuS w B w3.heap.size (.slice p3 n3 c3) (.slice q3 m3 e3) wx ∧ Dr B w4 wx)
 case first =>
  cases bb
  ·go_wp2_with fail
   go_meet
   exact ⟨⟨#[]⟩, rfl, by decide, HSA.out, HDA.out⟩
  ·have h0 := HBB.out (by trivial)
   have hul' : (U.length : Int) ≤ 8 := by omega
   go_wp2_with fail
   refine (l01Next_any U.length B _ HSA.out.src (by omega)).mono ?_; rintro e w7 ⟨r7, rfl, hr7, d7⟩
   have hS7 := hid (HSA.out.dr d7)
   have HD7 := hid (HDA.out.trans d7)
   have hr7' : r7 < U.length := by omega
   have hO7 : OwnS w7 w4.heap.size (.slice (some ⟨g, 0, none⟩) U.length cu) U := own_touch HOA.out d7.1 (fun i hi e => HGB.out (by have a : g = i := (by simpa [Value.ownBlock] using hi); have b : i = B := e; omega))
   obtain ⟨b8, o8, e8, h8⟩ := (hO7.strs (by omega)).get r7 hr7'
   cases e8
   rw [Nat.zero_add] at h8
   have HX := hid (HUS.out U[r7] (List.getElem_mem hr7'))
   have hi1 : (r7 : Int) < U.length := by omega
   generalize U[r7] = x at *
   clear hO7 d7 HOA hr7
   go_wp2_with fail
   go_meet
   exact ⟨x, rfl, HX.out, hS7.out, HD7.out⟩
 case rest =>
  obtain ⟨main, rfl, hml, hSc, hDc⟩ := hcut
  have HSc := hid hSc
  have HDc := hid hDc
  clear hSc hDc HSA HDA HOA HGB HUS HOU4 HBB
  go_wp2_with fail
  refine (l01Next_any 16 B _ HSc.out.src (by omega)).mono ?_; rintro e w6 ⟨r6, rfl, hr6, d6⟩
  have hS6 := HSc.out.dr d6
  have hD6 := HDc.out.trans d6
  have hr6' : r6 < 16 := by omega
  clear hr6 d6 HSc HDc
  have HSide := hid (fun (h : isQ ss tt = true) => isQ_iff h)
  generalize hq : isQ ss tt = bq at *
  have HBQ := hid hq
  clear hq
  go_wp2_with fail
  go_loopw [11, 12] (fun r' k' wr => ∃ r k : Nat, r < 16 ∧ k ≤ 16 ∧ r' = .int .i64 r ∧ k' = .int .i64 k ∧ RuS w B w3.heap.size (.slice p3 n3 c3) (.slice q3 m3 e3) wr ∧ Dr B w4 wr) (fun _ k' _ => 16 - (intOf k').toNat)
  case atStart => exact ⟨r6, 0, hr6', by omega, rfl, rfl, hS6, hD6⟩
  case round =>
   obtain ⟨r, k, hr, hk, rfl, rfl, hSr, hDr⟩ := hrel
   have HSr := hid hSr
   have HDr := hid hDr
   clear hSr hDr hS6 hD6
   by_cases hk16 : k < 16
   ·have hk' : (k : Int) < 16 := by omega
    obtain ⟨q, hq⟩ : ∃ q : Nat, q = (r + k) % 16 := ⟨_, rfl⟩
    have hq16 : q < 16 := by omega
    have hi1 : ((r : Int) + (k : Int)) % 16 = (q : Int) := by omega
    have hi3 : ((r : Int) + (k : Int)).tmod 16 = (q : Int) := by rw [Int.tmod_eq_emod_of_nonneg (by omega)]; exact hi1
    clear hq
    obtain ⟨z0, z1⟩ := HSr.out.cells
    obtain ⟨x1, x2⟩ := HST.out wr HSr.out HDr.out
    have HIS := hid (l11Is_any ss tt _ _ wr x1.1 x2.1 HM1.out HM2.out)
    rw [HBQ.out] at HIS
    clear x1 x2
    cases bq
    ·go_wp2_with fail
     refine HIS.out.mono ?_; rintro e w7 ⟨rfl, k7⟩
     have HS7 := hid (HSr.out.keeps k7)
     clear HIS z0 z1 HSr HDr
     have hFx := (HS7.out.keeps (Keeps.refl w7).drew).fin s main r HSN hml
     have hFy := HS7.out.fin s main r HSN hml
     obtain ⟨⟨u0, u1, u2, u3, u4, u5⟩, -, v1, v2, v3⟩ := hFy
     obtain ⟨⟨a0, a1, a2, a3, a4, a5⟩, hS, y0, y1, y2⟩ := hFx
     have HS := hid hS
     have HY := hid (And.intro v1 (And.intro v2 (And.intro v3 (And.intro y0 (And.intro y1 y2)))))
     clear hS v1 v2 v3 y0 y1 y2
     go_wp2_with fail
     go_region
     obtain ⟨v1, v2, v3, y0, y1, y2⟩ := HY.out
     go_wp2_with fail
     refine bodyPost_ret (v := .tuple #[.string s, .int .i64 (r : Nat), .agg #[.slice p3 n3 c3, .slice q3 m3 e3], .string main]) (by simp [results, Tryz.results6, go_sem, v1, v2]) rfl HS.out
    ·go_wp2_with fail
     refine HIS.out.mono ?_; rintro e w7 ⟨rfl, k7⟩
     have HS7 := hid (HSr.out.keeps k7)
     have HD7 := hid (HDr.out.keeps k7)
     clear HIS z0 z1 HSr HDr
     go_wp2_with fail
     refine (l01Next_any 12 B _ HS7.out.src (by omega)).mono ?_; rintro e w8 ⟨r8, rfl, hr8, d8⟩
     have HS8 := hid (HS7.out.dr d8)
     have HD8 := hid (HD7.out.trans d8)
     clear HS7 HD7 d8 k7
     by_cases h8 : r8 = 0
     ·subst h8
      have hFx := (HS8.out.keeps (Keeps.refl w8).drew).fin s main r HSN hml
      have hFy := HS8.out.fin s main r HSN hml
      obtain ⟨⟨u0, u1, u2, u3, u4, u5⟩, -, v1, v2, v3⟩ := hFy
      obtain ⟨⟨a0, a1, a2, a3, a4, a5⟩, hS, y0, y1, y2⟩ := hFx
      have HS := hid hS
      have HY := hid (And.intro v1 (And.intro v2 (And.intro v3 (And.intro y0 (And.intro y1 y2)))))
      clear hS v1 v2 v3 y0 y1 y2
      go_wp2_with fail
      go_region
      obtain ⟨v1, v2, v3, y0, y1, y2⟩ := HY.out
      go_wp2_with fail
      refine bodyPost_ret (v := .tuple #[.string s, .int .i64 (r : Nat), .agg #[.slice p3 n3 c3, .slice q3 m3 e3], .string main]) (by simp [results, Tryz.results6, go_sem, v1, v2]) rfl HS.out
     ·have h8' : (r8 : Int) > 0 := by omega
      obtain ⟨l1, l2, s1, s2⟩ := HSide.out (by trivial)
      obtain ⟨z0, z1⟩ := HS8.out.cells
      obtain ⟨x1, x2⟩ := HST.out w8 HS8.out HD8.out
      have HPR := hid (l11Premises_any s (q : Int) main ss tt s1 s2 _ _ w8 x1 x2 ⟨by omega, by omega⟩ (by omega))
      clear x1 x2 s1 s2
      go_wp2_with fail
      refine HPR.out.mono ?_; rintro e w9 ⟨v9, b9, rfl, ⟨p9, n9, c9, rfl⟩, -, -, k9⟩
      have HS9 := hid (HS8.out.keeps k9)
      have HD9 := hid (HD8.out.keeps k9)
      clear HPR z0 z1 HS8 HD8
      cases b9
      ·go_wp2_with fail
       go_roundw
       case rel => exact ⟨r, k + 1, hr, by omega, rfl, by go_num, HS9.out, HD9.out⟩
       case measure => simp [intOf]; omega
      ·skip
       have hFx := (HS9.out.keeps (Keeps.refl w9).drew).fin s main q HSN hml
       have hFy := HS9.out.fin s main q HSN hml
       obtain ⟨⟨u0, u1, u2, u3, u4, u5⟩, -, v1, v2, v3⟩ := hFy
       obtain ⟨⟨a0, a1, a2, a3, a4, a5⟩, hS, y0, y1, y2⟩ := hFx
       have HS := hid hS
       have HY := hid (And.intro v1 (And.intro v2 (And.intro v3 (And.intro y0 (And.intro y1 y2)))))
       clear hS v1 v2 v3 y0 y1 y2
       go_wp2_with fail
       go_region
       obtain ⟨v1, v2, v3, y0, y1, y2⟩ := HY.out
       go_wp2_with fail
       refine bodyPost_ret (v := .tuple #[.string s, .int .i64 (q : Nat), .agg #[.slice p3 n3 c3, .slice q3 m3 e3], .string main]) (by simp [results, Tryz.results6, go_sem, v1, v2]) rfl HS.out
   ·obtain rfl : k = 16 := by omega
    have hk' : ¬ ((16 : Int) < 16) := by omega
    have hFx := (HSr.out.keeps (Keeps.refl wr).drew).fin s main r HSN hml
    have hFy := HSr.out.fin s main r HSN hml
    obtain ⟨⟨u0, u1, u2, u3, u4, u5⟩, -, v1, v2, v3⟩ := hFy
    obtain ⟨⟨a0, a1, a2, a3, a4, a5⟩, hS, y0, y1, y2⟩ := hFx
    have HS := hid hS
    have HY := hid (And.intro v1 (And.intro v2 (And.intro v3 (And.intro y0 (And.intro y1 y2)))))
    clear hS v1 v2 v3 y0 y1 y2
    go_wp2_with fail
    go_region
    obtain ⟨v1, v2, v3, y0, y1, y2⟩ := HY.out
    go_wp2_with fail
    refine bodyPost_ret (v := .tuple #[.string s, .int .i64 (r : Nat), .agg #[.slice p3 n3 c3, .slice q3 m3 e3], .string main]) (by simp [results, Tryz.results6, go_sem, v1, v2]) rfl HS.out
end Go.Proofs.YtkkcfifnkcnceaaGreat
namespace Go.Proofs.YtkkcfifnkcnceaaGreat
open Go.RowKit
theorem side_mid {ss : List ByteArray} (h : Side ss) : Mid ss := fun s hs => by
 obtain ⟨t, ht⟩ := h.1 s hs
 have := ht.small
 omega
theorem rulE_ok {lg : ByteArray} {r : Nat} {ss tt : List ByteArray} {main : ByteArray} : (∀ q ∈ (rulE lg r ss tt main).2, isQ q.1 q.2 = true) ∧ ((rulE lg r ss tt main).1 = 0 → lg ∈ names7 ∧ isQ ss tt = true ∧ preR (lgN lg) r ss tt main = some (rulE lg r ss tt main).2) := by
 unfold rulE
 by_cases h1 : lg ∉ names7
 ·rw [if_pos h1]
  exact ⟨fun q hq => (by simp at hq), fun h => (by simp at h)⟩
 ·rw [if_neg h1]
  cases h2 : isQ ss tt
  ·rw [if_pos rfl]
   exact ⟨fun q hq => (by simp at hq), fun h => (by simp at h)⟩
  ·rw [if_neg (by simp)]
   obtain ⟨l1, l2, s1, s2⟩ := isQ_iff h2
   cases h3 : preR (lgN lg) r ss tt main with
   | none => exact ⟨fun q hq => (by simp at hq), fun h => (by simp at h)⟩
   | some ps =>
    show (∀ q ∈ (if shQ ps then ((0 : Int), ps) else (3, [])).2, isQ q.1 q.2 = true) ∧ ((if shQ ps then ((0 : Int), ps) else (3, [])).1 = 0 → _)
    cases h4 : shQ ps
    ·exact ⟨fun q hq => (by simp at hq), fun h => (by simp at h)⟩
    ·refine ⟨fun q hq => ?_, fun _ => ⟨Classical.not_not.1 h1, rfl, (by
      show some ps = some (if shQ ps = true then ((0 : Int), ps) else (3, [])).2
      rw [h4]; rfl)⟩⟩
     have hq : q ∈ ps := hq
     obtain ⟨a, b⟩ := preR_side s1 s2 h3 q hq
     have h5 := List.all_eq_true.1 (show (ps.all fun p => decide (p.1.length ≤ 16) && decide (p.2.length ≤ 16)) = true from h4) q hq
     simp only [Bool.and_eq_true, decide_eq_true_eq] at h5
     exact isQ_of h5.1 h5.2 a b
theorem rule_end {lg : ByteArray} {r : Nat} {ss tt : List ByteArray} {main : ByteArray} (h0 : (rulE lg r ss tt main).1 = 0) (hv : ∀ q ∈ (rulE lg r ss tt main).2, srC lg q.1 q.2 = 0 ∧ mtR lg q.1 q.2 = true) : srC lg ss tt = 3 ∨ (srC lg ss tt = 0 ∧ mtR lg ss tt = true) := by
 obtain ⟨hq, hs⟩ := rulE_ok (lg := lg) (r := r) (ss := ss) (tt := tt) (main := main)
 obtain ⟨h1, h2, h3⟩ := hs h0
 have hm : mtB lg ss tt = true := mt_rule h2 h3 fun p hp => ⟨hq p hp, by
  obtain ⟨a, b⟩ := hv p hp
  unfold mtR at b
  rwa [if_pos a] at b⟩
 have hsr : srC lg ss tt = 0 ∨ srC lg ss tt = 3 := by
  unfold srC
  rw [if_pos (names7_lg h1), if_pos h2]
  by_cases h : (elT (fmL (ss ++ tt))).length ≤ 8
  ·exact .inl (if_pos h)
  ·exact .inr (if_neg h)
 rcases hsr with h | h
 ·refine .inr ⟨h, ?_⟩
  unfold mtR
  rw [if_pos h, hm]
 ·exact .inl h
set_option maxHeartbeats 1000000 in
theorem likeSeq_same (X Y : List ByteArray) (a b c d : Value) (w : World) (ha : Strs w a X) (hb : Strs w b Y) (hc : Strs w c X) (hd : Strs w d Y) :
  Calls Tryz.prog 9 #[.agg #[a, b], .agg #[c, d]] w fun e w' => e = .returned (.bool true) ∧ Keeps w w' := by
 have kA := (Keeps.refl w).alloc (.cells #[a, b] 26)
 obtain ⟨c0, c1⟩ := BoxQ.made w a b 26
 have kB := (Keeps.refl (w.alloc (.cells #[a, b] 26))).alloc (.cells #[c, d] 26)
 obtain ⟨d0, d1⟩ := BoxQ.made (w.alloc (.cells #[a, b] 26)) c d 26
 have hz : (w.alloc (.cells #[a, b] 26)).heap.size = w.heap.size + 1 := by simp
 rw [hz] at d0 d1
 have K := kA.trans kB
 have H1 := hid (likeTexts5_same X a c _ (ha.keeps K) (hc.keeps K))
 have H2 := hid (fun wz (kz : Keeps w wz) => likeTexts5_same Y b d wz (hb.keeps kz) (hd.keeps kz))
 replace c0 := kB.cell c0
 replace c1 := kB.cell c1
 obtain ⟨p1, m1, q1, rfl⟩ := ha.sh
 obtain ⟨p2, m2, q2, rfl⟩ := hb.sh
 obtain ⟨p3, m3, q3, rfl⟩ := hc.sh
 obtain ⟨p4, m4, q4, rfl⟩ := hd.sh
 have HC := hid (And.intro c1 d1)
 clear ha hb hc hd hz kA kB c1 d1
 go_enter Tryz.func9, Tryz.ntmps9
 go_wp2_with fail
 refine H1.out.mono ?_; rintro e w2 ⟨rfl, k2⟩
 have e1 := k2.cell HC.out.1
 have e2 := k2.cell HC.out.2
 have H3 := hid (H2.out _ (K.trans k2))
 clear H1 H2
 go_wp2_with fail
 refine H3.out.mono ?_; rintro e w3 ⟨rfl, k3⟩
 go_wp2_with fail
 go_ret
 exact ⟨rfl, (K.trans k2).trans k3⟩
theorem isModalSequentX_any (ss tt : List ByteArray) (a b : Value) (w : World) (ha : Strs w a ss) (hb : Strs w b tt) (hs : Mid ss) (ht : Mid tt) :
  Calls Tryz.prog 10 #[.agg #[a, b]] w fun e w' => e = .returned (.bool (isQ ss tt)) ∧ Keeps w w' := by
 have kA := (Keeps.refl w).alloc (.cells #[a, b] 26)
 obtain ⟨c0, c1⟩ := BoxQ.made w a b 26
 have HI := hid (isModalSequent_any ss tt a b _ (ha.keeps kA) (hb.keeps kA) hs ht)
 obtain ⟨p, n, c, rfl⟩ := ha.sh
 obtain ⟨p2, n2, c2, rfl⟩ := hb.sh
 clear ha hb hs ht
 generalize isQ ss tt = r at *
 go_enter Tryz.func10, Tryz.ntmps10
 go_wp2_with fail
 refine HI.out.mono ?_; rintro e w2 ⟨rfl, k2⟩
 go_wp2_with fail
 go_ret
 exact ⟨rfl, kA.trans k2⟩
open scoped Classical in
set_option maxRecDepth 100000 in
set_option maxHeartbeats 8000000 in
theorem lawModalRules (v : Value) (n : Nat) (w : World) (hv : Bts w v n) :
  Calls Tryz.prog 3 #[v] w fun e w' => e = .returned (.bool true) ∧ Keeps w w' := by
 have HBig := hid (big_any v n w hv)
 by_cases hn : 4096 < n
 ·rw [decide_eq_true hn] at HBig
  obtain ⟨pv, cv, rfl, _⟩ := hv
  go_enter Tryz.func3, Tryz.ntmps3
  go_wp2_with fail
  refine HBig.out.mono ?_; rintro e w' ⟨rfl, rfl⟩
  go_wp2_with fail
  go_ret
  exact ⟨rfl, Keeps.refl _⟩
 ·rw [decide_eq_false hn] at HBig
  have HD := hid (drawRule_any v n w hv (by omega))
  obtain ⟨pv, cv, rfl, _⟩ := hv
  go_enter Tryz.func3, Tryz.ntmps3
  go_wp2_with fail
  refine HBig.out.mono ?_; rintro e w' ⟨rfl, rfl⟩
  go_wp2_with fail
  refine HD.out.mono ?_; rintro e w1 ⟨lg, r, x, y, main, rfl, hlg, hx, hy, hml, k1⟩
  obtain ⟨ss, hss, hms, hsl⟩ := sideD_read hx (by omega)
  obtain ⟨tt, htt, hmt, htl⟩ := sideD_read hy (by omega)
  obtain ⟨p3, n3, c3, rfl⟩ := hx.shape
  obtain ⟨q3, m3, e3, rfl⟩ := hy.shape
  have kB := (Keeps.refl w1).alloc (.cells #[.slice p3 n3 c3, .slice q3 m3 e3] 26)
  obtain ⟨c0, c1⟩ := BoxQ.made w1 (.slice p3 n3 c3) (.slice q3 m3 e3) 26
  have HMS : Hid (Mid ss) := hid (fun u hu => by have := hms u hu; omega)
  have HMT : Hid (Mid tt) := hid (fun u hu => by have := hmt u hu; omega)
  have HI := hid (implRule_any lg r main ss tt HMS.out HMT.out _ _ _ (hss.keeps kB) (htt.keeps kB) (by omega))
  have HS := hid (fun wz (kz : Keeps w1 wz) => rulePremises_any lg r main ss tt HMS.out HMT.out _ _ wz (hss.keeps kz) (htt.keeps kz) (by omega))
  rw [show ((r : Nat) : Int).toNat = r from Int.toNat_natCast r] at HI HS
  have HMT2 := hid (fun wz (kz : Keeps w1 wz) => implIsModalTheorem lg ss tt _ _ wz (hss.keeps kz).1 (htt.keeps kz).1 HMS.out HMT.out)
  have HOK := hid (rulE_ok (lg := lg) (r := r) (ss := ss) (tt := tt) (main := main)).1
  have HEN := hid (fun h0 hv => rule_end (lg := lg) (r := r) (ss := ss) (tt := tt) (main := main) h0 hv)
  have K1 := k1.trans kB
  clear hx hy hss htt HD HBig hms hmt
  obtain ⟨code, ps, hX⟩ : ∃ code ps, rulE lg r ss tt main = (code, ps) := ⟨_, _, rfl⟩
  rw [hX] at HI HS HOK HEN
  clear hX
  unfold RetRule at HI HS
  generalize hsr : srC lg ss tt = sr at *
  generalize hmr : mtR lg ss tt = mr at *
  have HEND : Hid (code = 0 → (∀ q ∈ ps, srC lg q.1 q.2 = 0 ∧ mtR lg q.1 q.2 = true) → sr = 3 ∨ (sr = 0 ∧ mr = true)) := hid HEN.out
  clear hsr hmr HEN
  go_wp2_with fail
  refine HI.out.mono ?_; rintro e w2 ⟨v2, rfl, ⟨p2, n2, d2, rfl⟩, hv2, k2⟩
  have d0 := k2.cell c0
  have d1 := k2.cell c1
  have HS2 := hid (HS.out w2 (kB.trans k2))
  have K2 := K1.trans k2
  have KB2 := kB.trans k2
  clear HI HS c0 c1
  go_wp2_with fail
  refine HS2.out.mono ?_; rintro e w4 ⟨v4, rfl, ⟨p4, n4, d4, rfl⟩, hv4, k4⟩
  have HV2 := hid (hv2.keeps k4)
  have HV4 := hid hv4
  obtain ⟨_, _, ea, _, _, hln⟩ := hv2.shape
  cases ea
  obtain ⟨_, _, eb, _, _, _⟩ := hv4.shape
  cases eb
  have z0 := k4.cell d0
  have z1 := k4.cell d1
  have K4 := K2.trans k4
  have HK14 := hid (KB2.trans k4)
  clear hv2 hv4 HS2 d0 d1 k4
  have hlen0 : ps.length = ps.length := rfl
  clear hlen0
  go_wp2_with fail
  go_loopw [11] (fun i' wr => ∃ i : Nat, i ≤ ps.length ∧ i' = .int .i64 i ∧ Keeps w4 wr) (fun i' _ => ps.length - (intOf i').toNat)
  case atStart => exact ⟨0, by omega, rfl, Keeps.refl _⟩
  case round =>
   obtain ⟨i, hi, rfl, kw⟩ := hrel
   by_cases hlt : i < ps.length
   ·have hlt' : (i : Int) < ps.length := by omega
    have kd := (Keeps.refl wr).drew
    have KD := kw.trans kd
    obtain ⟨b, o, r1, m1, t1, r2, m2, t2, rfl, y0, y1, g1, g2⟩ := (HV2.out.keeps KD).get i hlt
    obtain ⟨b', o', s1, u1, x1, s2, u2, x2, rfl, f0, f1, j1, j2⟩ := (HV4.out.keeps KD).get i hlt
    have HQ := HOK.out ps[i] (List.getElem_mem hlt)
    obtain ⟨-, -, sd1, sd2⟩ := isQ_iff HQ
    have HLK := hid (fun wz (kz : Keeps wr.drew wz) => likeSeq_same ps[i].1 ps[i].2 _ _ _ _ wz (g1.keeps kz).1 (g2.keeps kz).1 (j1.keeps kz).1 (j2.keeps kz).1)
    have HIM := hid (fun wz (kz : Keeps wr.drew wz) => isModalSequentX_any ps[i].1 ps[i].2 _ _ wz (g1.keeps kz).1 (g2.keeps kz).1 (side_mid sd1) (side_mid sd2))
    rw [HQ] at HIM
    have HKD := hid KD
    clear g1 g2 j1 j2 HQ sd1 sd2 kd KD
    go_wp2_with fail
    go_region_held3 (fun w' => w'.cell? ⟨b, o + i * 2, none⟩ = some (.slice r1 m1 t1) ∧ w'.cell? ⟨b, o + i * 2 + 1, none⟩ = some (.slice r2 m2 t2) ∧ w'.cell? ⟨b', o' + i * 2, none⟩ = some (.slice s1 u1 x1) ∧ w'.cell? ⟨b', o' + i * 2 + 1, none⟩ = some (.slice s2 u2 x2)) (first | exact ⟨y0, y1, f0, f1⟩ | exact ⟨y2, y3, f2, f3⟩ | exact ⟨y4, y5, f4, f5⟩) (first | (go_at_call 9; refine (HLK.out _ (Keeps.refl _)).mono ?_; rintro e w6 ⟨rfl, k6⟩; have y2 := k6.cell y0; have y3 := k6.cell y1; have f2 := k6.cell f0; have f3 := k6.cell f1) | (go_at_call 10; refine (HIM.out _ k6).mono ?_; rintro e w7 ⟨rfl, k7⟩; have y4 := k7.cell y2; have y5 := k7.cell y3; have f4 := k7.cell f2; have f5 := k7.cell f3))
    go_wp2_with fail
    go_roundw
    case rel => exact ⟨i + 1, by omega, by go_num, (HKD.out.trans k6).trans k7⟩
    case measure => simp [intOf]; omega
   ·obtain rfl : i = ps.length := by omega
    have hlt' : ¬ ((ps.length : Int) < ps.length) := by omega
    by_cases hc0 : code = 0
    ·subst hc0
     have HE := hid (HEND.out rfl)
     clear HEND
     go_wp2_with fail
     have HKW := hid kw
     have x0 := kw.cell z0
     have x1 := kw.cell z1
     clear kw
     generalize wr = wo at *
     go_loopw [12] (fun i' wx => ∃ i : Nat, i ≤ ps.length ∧ i' = .int .i64 i ∧ (∀ j (h : j < ps.length), j < i → srC lg ps[j].1 ps[j].2 = 0 ∧ mtR lg ps[j].1 ps[j].2 = true) ∧ Keeps wo wx) (fun i' _ => ps.length - (intOf i').toNat)
     case atStart => exact ⟨0, by omega, rfl, fun j _ h => by omega, Keeps.refl _⟩
     case round =>
      obtain ⟨i, hi, rfl, hall, kx⟩ := hrel
      have HAL := hid hall
      clear hall
      by_cases hlt : i < ps.length
      ·have hlt2 : (i : Int) < ps.length := by omega
       obtain ⟨b', o', s1, u1, x1', s2, u2, x2', rfl, f0, f1, j1, j2⟩ := (HV4.out.keeps (HKW.out.trans kx)).get i hlt
       have HQ := HOK.out ps[i] (List.getElem_mem hlt)
       obtain ⟨-, -, sd1, sd2⟩ := isQ_iff HQ
       have HTH := hid (specIsModalTheorem lg ps[i].1 ps[i].2 _ _ _ j1.1 j2.1 (side_mid sd1) (side_mid sd2))
       have HNX : Hid (srC lg ps[i].1 ps[i].2 = 0 → mtR lg ps[i].1 ps[i].2 = true → ∀ j (h : j < ps.length), j < i + 1 → srC lg ps[j].1 ps[j].2 = 0 ∧ mtR lg ps[j].1 ps[j].2 = true) := hid (fun h1 h2 j hj hji => by
        by_cases e : j = i
        ·subst e; exact ⟨h1, h2⟩
        ·exact HAL.out j hj (by omega))
       clear j1 j2 HQ sd1 sd2
       generalize srC lg ps[i].1 ps[i].2 = sc at *
       generalize mtR lg ps[i].1 ps[i].2 = mc at *
       go_wp2_with fail
       refine HTH.out.mono ?_; rintro e w6 ⟨rfl, k6⟩
       have KX := kx.trans k6
       clear HTH f0 f1 HAL
       by_cases hs0 : sc = 0
       ·subst hs0
        cases mc
        ·clear HNX
         go_wp2_with fail
         go_ret
         exact ⟨rfl, (K4.trans HKW.out).trans KX⟩
        ·have HN2 := hid (HNX.out rfl rfl)
         clear HNX
         go_wp2_with fail
         go_roundw
         case rel => exact ⟨i + 1, by omega, by go_num, HN2.out, KX⟩
         case measure => simp [intOf]; omega
       ·have hs0' : (sc != 0) = true := by simpa using hs0
        clear HNX hs0
        go_wp2_with fail
        go_ret
        exact ⟨rfl, (K4.trans HKW.out).trans KX⟩
      ·obtain rfl : i = ps.length := by omega
       have hlt2 : ¬ ((ps.length : Int) < ps.length) := by omega
       have HF := hid (HE.out (fun q hq => by
        obtain ⟨j, hj, rfl⟩ := List.getElem_of_mem hq
        exact HAL.out j hj hj))
       have HMT3 := hid (HMT2.out wr (HK14.out.trans (HKW.out.trans kx)))
       have y0 := kx.cell x0
       have y1 := kx.cell x1
       clear HE HAL HMT2
       go_wp2_with fail
       refine HMT3.out.mono ?_; rintro e w6 ⟨rfl, k6⟩
       have KF := hid ((K4.trans HKW.out).trans (kx.trans k6))
       rcases HF.out with h3 | ⟨h0, h1⟩
       ·subst h3
        clear HMT3 HF
        go_wp2_with fail
        go_ret
        exact ⟨rfl, KF.out⟩
       ·subst h0
        subst h1
        clear HMT3 HF
        go_wp2_with fail
        go_ret
        exact ⟨rfl, KF.out⟩
    ·have hc0' : (code != 0) = true := by simpa using hc0
     go_wp2_with fail
     go_ret
     exact ⟨rfl, K4.trans kw⟩
end Go.Proofs.YtkkcfifnkcnceaaGreat
