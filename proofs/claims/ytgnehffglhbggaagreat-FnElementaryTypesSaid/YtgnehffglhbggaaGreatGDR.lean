/- Draws of a logic and a sequent: l12Drawn, DrawSurvivingTypes, DrawLogicsOf. -/
import Derived.Test.YtgnehffglhbggaaGreatGD32
import Derived.Test.YtgnehffglhbggaaGreatGNT
import Derived.Test.YtgnehffglhbggaaGreatGNN
import Derived.BigQuiet
import Derived.Test.YtgnehffglhbggaaGreatGD30
namespace Go.Proofs.YtgnehffglhbggaaGreat
open Go.RowKit
theorem BoxG.drN {w w' : World} {r B : Nat} {T : TypeId} {cs : List Value} (h : BoxG w r T cs) (k : Dr B w w') (hB : r ≠ B) : BoxG w' r T cs := own_touch h k.1 (fun i hi e => by
  have : r = i := by simpa [Value.ownBlock] using hi
  omega)
/-- a drawn logic and sequent, from bytes -/
def LsD (w : World) (e : Ending) (w' : World) : Prop := ∃ s x y, e = .returned (.tuple #[.string s, .agg #[x, y]]) ∧ s.size ≤ 4 ∧ SideD 4 w' w.heap.size x ∧ SideD 4 w' w.heap.size y ∧ Keeps w w'
theorem SideD.drK {m : Nat} {w w' : World} {B b : Nat} {v : Value} (h : SideD m w b v) (k : Dr B w w') (hB : v.ownBlock ≠ some B) : SideD m w' b v := by
  obtain ⟨x, n, c, ss, e, h1, h2⟩ := h
  subst e
  exact ⟨x, n, c, ss, rfl, own_touch h1 k.1 (fun i hi e => hB (by rw [hi, show i = B from e])), h2⟩
theorem SideD.offB {m : Nat} {w : World} {B b : Nat} {v : Value} (h : SideD m w b v) (hB : B < b) : v.ownBlock ≠ some B := by
  obtain ⟨x, n, c, ss, rfl, h1, _⟩ := h
  intro e
  have := (h1.len B e).1
  omega
--
/-- the result is laid and handed back -/
theorem lastLs (w wz : World) (s : ByteArray) (x y : Value) (hs : s.size ≤ 4) (K : Keeps w wz) (hb : BoxG wz w.heap.size 29 [.slice none 0 0, .slice none 0 0]) (hx : SideD 4 wz w.heap.size x) (hy : SideD 4 wz w.heap.size y) :
    (wz.cell? ⟨w.heap.size, 0, none⟩ = some (.slice none 0 0) ∧ wz.cell? ⟨w.heap.size, 1, none⟩ = some (.slice none 0 0) ∧ wz.frozen? ⟨w.heap.size, 0, none⟩ = false ∧ wz.frozen? ⟨w.heap.size, 1, none⟩ = false) ∧
    LsD w (.returned (.tuple #[.string s, .agg #[x, y]])) ((wz.setCell ⟨w.heap.size, 0, none⟩ x).setCell ⟨w.heap.size, 1, none⟩ y) ∧ ((wz.setCell ⟨w.heap.size, 0, none⟩ x).setCell ⟨w.heap.size, 1, none⟩ y).cell? ⟨w.heap.size, 0, none⟩ = some x ∧ ((wz.setCell ⟨w.heap.size, 0, none⟩ x).setCell ⟨w.heap.size, 1, none⟩ y).cell? ⟨w.heap.size, 1, none⟩ = some y := by
  have hb1 := hb.set 0 x
  have hb2 := hb1.set 1 y
  exact ⟨⟨hb.cell 0 (by simp), hb.cell 1 (by simp), hb.froz 0, hb.froz 1⟩, ⟨s, x, y, rfl, hs, (hx.boxed hb (by decide)).boxed hb1 (by decide), (hy.boxed hb (by decide)).boxed hb1 (by decide), (K.setCell (p := ⟨w.heap.size, 0, none⟩) (Nat.le_refl _) x).setCell (p := ⟨w.heap.size, 1, none⟩) (Nat.le_refl _) y⟩, hb2.cell 0 (by simp), hb2.cell 1 (by simp)⟩
set_option maxRecDepth 100000 in
set_option maxHeartbeats 4000000 in
theorem l12Drawn_any (v : Value) (n : Nat) (w : World) (hv : Bts w v n) (hn : n ≤ 4096) : Calls Tryz.prog 62 #[v] w (LsD w) := by
  have kA := (Keeps.refl w).alloc (.cells #[.slice none 0 0, .slice none 0 0] 29)
  have hb := BoxG.made w 29 [.slice none 0 0, .slice none 0 0] (by simp) (by simp)
  have hsz : (w.alloc (.cells #[.slice none 0 0, .slice none 0 0] 29)).heap.size = w.heap.size + 1 := by simp
  have HF := hid (l01From_any v n _ ((hv.low kA).up (by simp)) hn)
  obtain ⟨p, cap, rfl, _⟩ := hv
  go_enter Tryz.func62, Tryz.ntmps62
  go_wp2_with fail
  refine HF.out.mono ?_; rintro e w1 ⟨B, rfl, hB, hs, k1⟩
  rw [hsz] at hB
  have K1 := kA.trans k1
  have hb1 := hb.keeps k1
  clear hb HF kA k1
  go_wp2_with fail
  refine (l01Next_any 4 B _ hs (by omega)).mono ?_; rintro e w2 ⟨r2, rfl, hr2, d2⟩
  have K2 := Dr.keepsOf K1 (by omega) d2
  have hb2 := hb1.drN d2 (by omega)
  have hs2 := d2.2
  have hw2 := hs2.lt
  clear hb1 K1 hs d2
  have HLG := hid (fun wz (h : Src wz B) => l12Logic_any B wz h)
  by_cases h01 : r2 = 0 ∨ r2 = 1
  · have HK := hid (l11Known_any B w2 hs2)
    rcases h01 with rfl | rfl
    · go_wp2_with fail
      refine HK.out.mono ?_; rintro e w3 ⟨s3, x3, y3, rfl, hs3, hx3, hy3, d3⟩
      have K3 := Dr.keepsOf K2 (by omega) d3
      have hb3 := hb2.drN d3 (by omega)
      have hw2' : w.heap.size ≤ w2.heap.size := K2.size
      have HXB := hid (hx3.offB hw2)
      have HYB := hid (hy3.offB hw2)
      replace hx3 := hx3.mono hw2'
      replace hy3 := hy3.mono hw2'
      obtain ⟨p3, n3, c3, rfl⟩ := hx3.shape
      obtain ⟨q3, m3, e3, rfl⟩ := hy3.shape
      have hc := BoxG.made w3 29 [.slice p3 n3 c3, .slice q3 m3 e3] (by simp) (by simp)
      have kC := (Keeps.refl w3).alloc (.cells #[.slice p3 n3 c3, .slice q3 m3 e3] 29)
      have hs3' := d3.2.keeps kC
      have K4 := K3.trans kC
      have hb4 := hb3.keeps kC
      have hx4 := hx3.keeps kC
      have hy4 := hy3.keeps kC
      have hB3 := d3.2.lt
      clear hb2 K2 hb3 hx3 hy3 K3 kC HK d3
      go_wp2_with fail
      refine (l01Next_any 4 B _ hs3' (by omega)).mono ?_; rintro e w5 ⟨r5, rfl, hr5, d5⟩
      have K5 := Dr.keepsOf K4 (by omega) d5
      have hb5 := hb4.drN d5 (by omega)
      have hc5 := hc.drN d5 (by omega)
      have hx5 := hx4.drK d5 HXB.out
      have hy5 := hy4.drK d5 HYB.out
      clear hb4 hx4 hy4 K4 hc
      by_cases h5 : r5 = 0
      · subst h5
        have HL := hid (HLG.out w5 d5.2)
        go_wp2_with fail
        refine HL.out.mono ?_; rintro e w6 ⟨x, rfl, hx, d6⟩
        have K6 := Dr.keepsOf K5 (by omega) d6
        have hb6 := hb5.drN d6 (by omega)
        have hc6 := hc5.drN d6 (by omega)
        have hx6 := hx5.drK d6 HXB.out
        have hy6 := hy5.drK d6 HYB.out
        clear hb5 hc5 hx5 hy5 K5 HL d5
        have kd := (Keeps.refl w6).drew
        have KD := K6.trans kd
        have hbd := hb6.keeps kd
        have u0 := hb6.cell 0 (by simp)
        have v0 := ((hb6.set 0 (.slice p3 n3 c3)).cell 0 (by simp))
        have v1 := (((hb6.set 0 (.slice p3 n3 c3)).set 1 (.slice q3 m3 e3)).cell 1 (by simp))
        have v2 := (((hb6.set 0 (.slice p3 n3 c3)).set 1 (.slice q3 m3 e3)).cell 0 (by simp))
        simp only [List.set_cons_zero, List.set_cons_succ, List.getElem_cons_succ, List.getElem_cons_zero] at v0 v1 v2
        have HV := hid (And.intro v0 (And.intro v1 v2))
        clear v0 v1 v2
        have u1 := hb6.cell 1 (by simp)
        have g0 := hb6.froz 0
        have g1 := hb6.froz 1
        simp only [List.getElem_cons_succ, List.getElem_cons_zero] at u0 u1
        have hcd := hc6.keeps kd
        have t0 := hc6.cell 0 (by simp)
        have t1 := hc6.cell 1 (by simp)
        simp only [List.getElem_cons_succ, List.getElem_cons_zero] at t0 t1
        have HF := lastLs w _ x (.slice p3 n3 c3) (.slice q3 m3 e3) hx KD hbd (hx6.keeps kd) (hy6.keeps kd)
        have b0 := hcd.cell 0 (by simp)
        have b1 := hcd.cell 1 (by simp)
        simp only [List.getElem_cons_succ, List.getElem_cons_zero] at b0 b1
        obtain ⟨⟨a0, a1, f0, f1⟩, hS, y0, y1⟩ := HF
        have HS := hid hS
        have HY := hid (And.intro y0 y1)
        clear hS KD hbd hcd kd y0 y1
        go_wp2_with fail
        go_region
        obtain ⟨y0, y1⟩ := HY.out
        obtain ⟨v0, v1, v2⟩ := HV.out
        go_wp2_with fail
        refine bodyPost_ret (v := .tuple #[.string x, .agg #[.slice p3 n3 c3, .slice q3 m3 e3]]) (by simp [results, Tryz.results62, go_sem, v1, v2]) rfl HS.out
      · have h5' : ((r5 : Nat) : Int) ≠ 0 := by omega
        have kd := (Keeps.refl w5).drew
        have KD := K5.trans kd
        have hbd := hb5.keeps kd
        have u0 := hb5.cell 0 (by simp)
        have v0 := ((hb5.set 0 (.slice p3 n3 c3)).cell 0 (by simp))
        have v1 := (((hb5.set 0 (.slice p3 n3 c3)).set 1 (.slice q3 m3 e3)).cell 1 (by simp))
        have v2 := (((hb5.set 0 (.slice p3 n3 c3)).set 1 (.slice q3 m3 e3)).cell 0 (by simp))
        simp only [List.set_cons_zero, List.set_cons_succ, List.getElem_cons_succ, List.getElem_cons_zero] at v0 v1 v2
        have HV := hid (And.intro v0 (And.intro v1 v2))
        clear v0 v1 v2
        have u1 := hb5.cell 1 (by simp)
        have g0 := hb5.froz 0
        have g1 := hb5.froz 1
        simp only [List.getElem_cons_succ, List.getElem_cons_zero] at u0 u1
        have hcd := hc5.keeps kd
        have t0 := hc5.cell 0 (by simp)
        have t1 := hc5.cell 1 (by simp)
        simp only [List.getElem_cons_succ, List.getElem_cons_zero] at t0 t1
        have HF := lastLs w _ s3 (.slice p3 n3 c3) (.slice q3 m3 e3) hs3 KD hbd (hx5.keeps kd) (hy5.keeps kd)
        have b0 := hcd.cell 0 (by simp)
        have b1 := hcd.cell 1 (by simp)
        simp only [List.getElem_cons_succ, List.getElem_cons_zero] at b0 b1
        obtain ⟨⟨a0, a1, f0, f1⟩, hS, y0, y1⟩ := HF
        have HS := hid hS
        have HY := hid (And.intro y0 y1)
        clear hS KD hbd hcd kd y0 y1
        go_wp2_with fail
        go_region
        obtain ⟨y0, y1⟩ := HY.out
        obtain ⟨v0, v1, v2⟩ := HV.out
        go_wp2_with fail
        refine bodyPost_ret (v := .tuple #[.string s3, .agg #[.slice p3 n3 c3, .slice q3 m3 e3]]) (by simp [results, Tryz.results62, go_sem, v1, v2]) rfl HS.out
    · go_wp2_with fail
      refine HK.out.mono ?_; rintro e w3 ⟨s3, x3, y3, rfl, hs3, hx3, hy3, d3⟩
      have K3 := Dr.keepsOf K2 (by omega) d3
      have hb3 := hb2.drN d3 (by omega)
      have hw2' : w.heap.size ≤ w2.heap.size := K2.size
      have HXB := hid (hx3.offB hw2)
      have HYB := hid (hy3.offB hw2)
      replace hx3 := hx3.mono hw2'
      replace hy3 := hy3.mono hw2'
      obtain ⟨p3, n3, c3, rfl⟩ := hx3.shape
      obtain ⟨q3, m3, e3, rfl⟩ := hy3.shape
      have hc := BoxG.made w3 29 [.slice p3 n3 c3, .slice q3 m3 e3] (by simp) (by simp)
      have kC := (Keeps.refl w3).alloc (.cells #[.slice p3 n3 c3, .slice q3 m3 e3] 29)
      have hs3' := d3.2.keeps kC
      have K4 := K3.trans kC
      have hb4 := hb3.keeps kC
      have hx4 := hx3.keeps kC
      have hy4 := hy3.keeps kC
      have hB3 := d3.2.lt
      clear hb2 K2 hb3 hx3 hy3 K3 kC HK d3
      go_wp2_with fail
      refine (l01Next_any 4 B _ hs3' (by omega)).mono ?_; rintro e w5 ⟨r5, rfl, hr5, d5⟩
      have K5 := Dr.keepsOf K4 (by omega) d5
      have hb5 := hb4.drN d5 (by omega)
      have hc5 := hc.drN d5 (by omega)
      have hx5 := hx4.drK d5 HXB.out
      have hy5 := hy4.drK d5 HYB.out
      clear hb4 hx4 hy4 K4 hc
      by_cases h5 : r5 = 0
      · subst h5
        have HL := hid (HLG.out w5 d5.2)
        go_wp2_with fail
        refine HL.out.mono ?_; rintro e w6 ⟨x, rfl, hx, d6⟩
        have K6 := Dr.keepsOf K5 (by omega) d6
        have hb6 := hb5.drN d6 (by omega)
        have hc6 := hc5.drN d6 (by omega)
        have hx6 := hx5.drK d6 HXB.out
        have hy6 := hy5.drK d6 HYB.out
        clear hb5 hc5 hx5 hy5 K5 HL d5
        have kd := (Keeps.refl w6).drew
        have KD := K6.trans kd
        have hbd := hb6.keeps kd
        have u0 := hb6.cell 0 (by simp)
        have v0 := ((hb6.set 0 (.slice p3 n3 c3)).cell 0 (by simp))
        have v1 := (((hb6.set 0 (.slice p3 n3 c3)).set 1 (.slice q3 m3 e3)).cell 1 (by simp))
        have v2 := (((hb6.set 0 (.slice p3 n3 c3)).set 1 (.slice q3 m3 e3)).cell 0 (by simp))
        simp only [List.set_cons_zero, List.set_cons_succ, List.getElem_cons_succ, List.getElem_cons_zero] at v0 v1 v2
        have HV := hid (And.intro v0 (And.intro v1 v2))
        clear v0 v1 v2
        have u1 := hb6.cell 1 (by simp)
        have g0 := hb6.froz 0
        have g1 := hb6.froz 1
        simp only [List.getElem_cons_succ, List.getElem_cons_zero] at u0 u1
        have hcd := hc6.keeps kd
        have t0 := hc6.cell 0 (by simp)
        have t1 := hc6.cell 1 (by simp)
        simp only [List.getElem_cons_succ, List.getElem_cons_zero] at t0 t1
        have HF := lastLs w _ x (.slice p3 n3 c3) (.slice q3 m3 e3) hx KD hbd (hx6.keeps kd) (hy6.keeps kd)
        have b0 := hcd.cell 0 (by simp)
        have b1 := hcd.cell 1 (by simp)
        simp only [List.getElem_cons_succ, List.getElem_cons_zero] at b0 b1
        obtain ⟨⟨a0, a1, f0, f1⟩, hS, y0, y1⟩ := HF
        have HS := hid hS
        have HY := hid (And.intro y0 y1)
        clear hS KD hbd hcd kd y0 y1
        go_wp2_with fail
        go_region
        obtain ⟨y0, y1⟩ := HY.out
        obtain ⟨v0, v1, v2⟩ := HV.out
        go_wp2_with fail
        refine bodyPost_ret (v := .tuple #[.string x, .agg #[.slice p3 n3 c3, .slice q3 m3 e3]]) (by simp [results, Tryz.results62, go_sem, v1, v2]) rfl HS.out
      · have h5' : ((r5 : Nat) : Int) ≠ 0 := by omega
        have kd := (Keeps.refl w5).drew
        have KD := K5.trans kd
        have hbd := hb5.keeps kd
        have u0 := hb5.cell 0 (by simp)
        have v0 := ((hb5.set 0 (.slice p3 n3 c3)).cell 0 (by simp))
        have v1 := (((hb5.set 0 (.slice p3 n3 c3)).set 1 (.slice q3 m3 e3)).cell 1 (by simp))
        have v2 := (((hb5.set 0 (.slice p3 n3 c3)).set 1 (.slice q3 m3 e3)).cell 0 (by simp))
        simp only [List.set_cons_zero, List.set_cons_succ, List.getElem_cons_succ, List.getElem_cons_zero] at v0 v1 v2
        have HV := hid (And.intro v0 (And.intro v1 v2))
        clear v0 v1 v2
        have u1 := hb5.cell 1 (by simp)
        have g0 := hb5.froz 0
        have g1 := hb5.froz 1
        simp only [List.getElem_cons_succ, List.getElem_cons_zero] at u0 u1
        have hcd := hc5.keeps kd
        have t0 := hc5.cell 0 (by simp)
        have t1 := hc5.cell 1 (by simp)
        simp only [List.getElem_cons_succ, List.getElem_cons_zero] at t0 t1
        have HF := lastLs w _ s3 (.slice p3 n3 c3) (.slice q3 m3 e3) hs3 KD hbd (hx5.keeps kd) (hy5.keeps kd)
        have b0 := hcd.cell 0 (by simp)
        have b1 := hcd.cell 1 (by simp)
        simp only [List.getElem_cons_succ, List.getElem_cons_zero] at b0 b1
        obtain ⟨⟨a0, a1, f0, f1⟩, hS, y0, y1⟩ := HF
        have HS := hid hS
        have HY := hid (And.intro y0 y1)
        clear hS KD hbd hcd kd y0 y1
        go_wp2_with fail
        go_region
        obtain ⟨y0, y1⟩ := HY.out
        obtain ⟨v0, v1, v2⟩ := HV.out
        go_wp2_with fail
        refine bodyPost_ret (v := .tuple #[.string s3, .agg #[.slice p3 n3 c3, .slice q3 m3 e3]]) (by simp [results, Tryz.results62, go_sem, v1, v2]) rfl HS.out
  · have h0' : ((r2 : Nat) : Int) ≠ 0 := by omega
    have h1' : ((r2 : Nat) : Int) ≠ 1 := by omega
    clear h01
    by_cases h2 : r2 = 2
    · subst h2
      go_wp2_with fail
      refine (l01Next_any 8 B _ hs2 (by omega)).mono ?_; rintro e w3 ⟨r3, rfl, hr3, d3⟩
      have K3 := Dr.keepsOf K2 (by omega) d3
      have hb3 := hb2.drN d3 (by omega)
      go_wp2_with fail
      refine (l01Next_any 2 B _ d3.2 (by omega)).mono ?_; rintro e w4 ⟨r4, rfl, hr4, d4⟩
      have K4 := Dr.keepsOf K3 (by omega) d4
      have hb4 := hb3.drN d4 (by omega)
      have HD := hid (l02DrawW_any B (1 + r4) (by omega) true (4 + r3) (by omega) w4 d4.2)
      have hc1 : ((4 + r3 : Nat) : Int) = 4 + (r3 : Int) := by omega
      have hc2 : ((1 + r4 : Nat) : Int) = 1 + (r4 : Int) := by omega
      rw [hc1, hc2] at HD
      clear hc1 hc2 hb3 hb2 K3 K2 d3
      go_wp2_with fail
      refine HD.out.mono ?_; rintro e w5 ⟨v5, t, rfl, hv5, hl5, hw5, d5⟩
      have K5 := Dr.keepsOf K4 (by omega) d5
      have hb5 := hb4.drN d5 (by omega)
      have hB4 := d4.2.lt
      obtain ⟨p5, n5, q5, rfl⟩ := hv5.own_shape
      have HL := hid (HLG.out w5 d5.2)
      clear hb4 K4 d4 HD
      go_wp2_with fail
      refine HL.out.mono ?_; rintro e w6 ⟨x, rfl, hx, d6⟩
      have K6 := Dr.keepsOf K5 (by omega) d6
      have hb6 := hb5.drN d6 (by omega)
      have hv6 := hv5.dr d6 hB4
      have kE := (Keeps.refl w6).alloc (.cells #[] 9)
      have sd1 : SideD 4 (w6.alloc (.cells #[] 9)) w6.heap.size (.slice (some ⟨w6.heap.size, 0, none⟩) 0 0) := ⟨_, _, _, [], rfl, OwnS.empty w6, by simp, fun x hx => by cases hx⟩
      have K7 := K6.trans kE
      have hb7 := hb6.keeps kE
      have HT := hid (textD t hw5 (by omega) _ _ ((hv6.keeps kE).nds (by omega)))
      have hw6 : w.heap.size ≤ w6.heap.size := K6.size
      clear hb5 hb6 hv5 hv6 K5 K6 d5 d6 HL
      go_wp2_with fail
      refine HT.out.mono ?_; rintro e w8 ⟨s8, rfl, hs8, k8⟩
      have sd2 := (lit1D w8 s8)
      have kF := (Keeps.refl w8).alloc (.cells #[.string s8] 9)
      have hw8 : w.heap.size ≤ w8.heap.size := (K7.trans k8).size
      have HF := lastLs w _ x (.slice (some ⟨w6.heap.size, 0, none⟩) 0 0) (.slice (some ⟨w8.heap.size, 0, none⟩) 1 1) hx ((K7.trans k8).trans kF) ((hb7.keeps k8).keeps kF) (((sd1.keeps k8).keeps kF).mono hw6) (SideD.mono (m := 4) ⟨_, _, _, _, rfl, sd2, by simp, fun y hy => by rw [List.mem_singleton] at hy; subst hy; exact hs8⟩ hw8)
      obtain ⟨⟨a0, a1, f0, f1⟩, hS, y0, y1⟩ := HF
      have HS := hid hS
      clear hS hb7 sd1 sd2 K7 kE kF
      go_wp2_with fail
      refine bodyPost_ret (v := .tuple #[.string x, .agg #[.slice (some ⟨w6.heap.size, 0, none⟩) 0 0, .slice (some ⟨w8.heap.size, 0, none⟩) 1 1]]) (by simp [results, Tryz.results62, go_sem, y0, y1]) rfl HS.out
    · have h2' : ((r2 : Nat) : Int) ≠ 2 := by omega
      have HL := hid (HLG.out w2 hs2)
      go_wp2_with fail
      refine HL.out.mono ?_; rintro e w6 ⟨x, rfl, hx, d6⟩
      have K6 := Dr.keepsOf K2 (by omega) d6
      have hb6 := hb2.drN d6 (by omega)
      have HQ := hid (l11Sequent_any B w6 d6.2)
      clear hb2 K2 HL
      go_wp2_with fail
      refine HQ.out.mono ?_; rintro e w7 ⟨x7, y7, rfl, hx7, hy7, d7⟩
      have K7 := Dr.keepsOf K6 (by omega) d7
      have hb7 := hb6.drN d7 (by omega)
      have hw6 : w.heap.size ≤ w6.heap.size := K6.size
      have HF := lastLs w _ x x7 y7 hx K7 hb7 (hx7.mono hw6) (hy7.mono hw6)
      obtain ⟨p7, n7, c7, rfl⟩ := hx7.shape
      obtain ⟨q7, m7, e7, rfl⟩ := hy7.shape
      obtain ⟨⟨a0, a1, f0, f1⟩, hS, y0, y1⟩ := HF
      have HS := hid hS
      clear hS hb7 hx7 hy7 K7 hb6 K6 HQ
      go_wp2_with fail
      refine bodyPost_ret (v := .tuple #[.string x, .agg #[.slice p7 n7 c7, .slice q7 m7 e7]]) (by simp [results, Tryz.results62, go_sem, y0, y1]) rfl HS.out
--
set_option maxHeartbeats 1000000 in
theorem drawSurvivingTypes_any (v : Value) (n : Nat) (w : World) (hv : Bts w v n) (hn : n ≤ 4096) : Calls Tryz.prog 31 #[v] w (LsD w) := by
  have kA := (Keeps.refl w).alloc (.cells #[.slice none 0 0, .slice none 0 0] 29)
  have hb := BoxG.made w 29 [.slice none 0 0, .slice none 0 0] (by simp) (by simp)
  have HL := hid (l12Drawn_any v n _ ((hv.low kA).up (by simp)) hn)
  obtain ⟨p, cap, rfl, _⟩ := hv
  go_enter Tryz.func31, Tryz.ntmps31
  go_wp2_with fail
  refine HL.out.mono ?_; rintro e w1 ⟨x, a, b, rfl, hx, ha, hb2, k1⟩
  have hbz := hb.keeps k1
  have K := kA.trans k1
  have HF := lastLs w _ x a b hx K hbz (ha.mono (by simp)) (hb2.mono (by simp))
  obtain ⟨p3, n3, c3, rfl⟩ := ha.shape
  obtain ⟨q3, m3, e3, rfl⟩ := hb2.shape
  obtain ⟨⟨a0, a1, f0, f1⟩, hS, y0, y1⟩ := HF
  have HS := hid hS
  clear hS hbz K ha hb2 hb kA
  go_wp2_with fail
  refine bodyPost_ret (v := .tuple #[.string x, .agg #[.slice p3 n3 c3, .slice q3 m3 e3]]) (by simp [results, Tryz.results31, go_sem, y0, y1]) rfl HS.out
--
def SqD (w : World) (e : Ending) (w' : World) : Prop := ∃ x y, e = .returned (.agg #[x, y]) ∧ SideD 4 w' w.heap.size x ∧ SideD 4 w' w.heap.size y ∧ Keeps w w'
set_option maxHeartbeats 1000000 in
theorem drawLogicsOf_any (v : Value) (n : Nat) (w : World) (hv : Bts w v n) (hn : n ≤ 4096) : Calls Tryz.prog 40 #[v] w (SqD w) := by
  have kA := (Keeps.refl w).alloc (.cells #[.slice none 0 0, .slice none 0 0] 29)
  have hb := BoxG.made w 29 [.slice none 0 0, .slice none 0 0] (by simp) (by simp)
  have HL := hid (l12Drawn_any v n _ ((hv.low kA).up (by simp)) hn)
  obtain ⟨p, cap, rfl, _⟩ := hv
  go_enter Tryz.func40, Tryz.ntmps40
  go_wp2_with fail
  refine HL.out.mono ?_; rintro e w1 ⟨x, a, b, rfl, hx, ha, hb2, k1⟩
  obtain ⟨p3, n3, c3, rfl⟩ := ha.shape
  obtain ⟨q3, m3, e3, rfl⟩ := hb2.shape
  have kB := (Keeps.refl w1).alloc (.cells #[.slice p3 n3 c3, .slice q3 m3 e3] 29)
  have hbz := (hb.keeps k1).keeps kB
  have K := (kA.trans k1).trans kB
  have HF := lastLs w _ x _ _ hx K hbz ((ha.keeps kB).mono (by simp)) ((hb2.keeps kB).mono (by simp))
  obtain ⟨⟨a0, a1, f0, f1⟩, hS, y0, y1⟩ := HF
  have HS : Hid (SqD w (.returned (.agg #[.slice p3 n3 c3, .slice q3 m3 e3])) _) := hid (by
    obtain ⟨_, x', y', e, _, h1, h2, h3⟩ := hS
    simp only [Ending.returned.injEq, Value.tuple.injEq] at e
    have e' := congrArg (fun z => z[1]?) e
    simp at e'
    obtain ⟨rfl, rfl⟩ := e'
    exact ⟨_, _, rfl, h1, h2, h3⟩)
  clear hS hbz K ha hb2 hb kA kB
  go_wp2_with fail
  refine bodyPost_ret (v := .agg #[.slice p3 n3 c3, .slice q3 m3 e3]) (by simp [results, Tryz.results40, go_sem, y0, y1]) rfl HS.out
end Go.Proofs.YtgnehffglhbggaaGreat
/- What the modal laws ask: lists that are alike, members, bits. -/
namespace Go.Proofs.YtgnehffglhbggaaGreat
open Go.RowKit
--
open Classical in
set_option maxHeartbeats 1000000 in
theorem hasText5_any (ss : List ByteArray) (x : ByteArray) (v : Value) (w : World) (hv : Strs w v ss) :
    Calls Tryz.prog 41 #[v, .string x] w fun e w' => e = .returned (.bool (decide (x ∈ ss))) ∧ w = w' := by
  have hv0 := hv
  obtain ⟨p, cap, rfl, hle, hmx, hlen⟩ := hv.shape
  unfold maxLen at hmx
  have HV := hid hv0; clear hv hv0
  have HY := hid (fun i (h : i < ss.length) (e : (ss[i].toList == x.toList) = true) => show decide (x ∈ ss) = true from decide_eq_true (by
    rw [beq_bts, decide_eq_true_eq] at e
    rw [← bts_inj e]
    exact List.getElem_mem h))
  have HN := hid (fun (h : ∀ j (hj : j < ss.length), (ss[j].toList == x.toList) = false) => show decide (x ∈ ss) = false from decide_eq_false (fun hm => by
    obtain ⟨j, hj, e⟩ := List.getElem_of_mem hm
    have := h j hj
    rw [e, beq_bts] at this
    simp at this))
  generalize decide (x ∈ ss) = b at *
  go_enter Tryz.func41, Tryz.ntmps41
  go_wp2_with fail
  go_loopw [4, 5] (fun o i' wr => ∃ i : Nat, i ≤ ss.length ∧ i' = .int .i64 i ∧ o = .bool false ∧ (∀ j (hj : j < ss.length), j < i → (ss[j].toList == x.toList) = false) ∧ w = wr) (fun _ i' _ => ss.length - (intOf i').toNat)
  case atStart => exact ⟨0, by omega, rfl, rfl, fun j hj h => by omega, rfl⟩
  case round =>
    obtain ⟨i, hi, rfl, rfl, hall, rfl⟩ := hrel
    have HA := hid hall; clear hall
    by_cases hlt : i < ss.length
    · have hlt' : (i : Int) < ss.length := by omega
      obtain ⟨b1, o1, rfl, h1⟩ := HV.out.get i hlt
      have HYi := hid (HY.out i hlt)
      have HNi : Hid ((ss[i].toList == x.toList) = false → ∀ j (hj : j < ss.length), j < i + 1 → (ss[j].toList == x.toList) = false) := hid (fun h j hj hji => by
        by_cases e : j = i
        · subst e; exact h
        · exact HA.out j hj (by omega))
      generalize ss[i] = y at *
      cases he : y.toList == x.toList
      · rw [he] at HNi
        go_wp2_with fail
        go_roundw
        case rel => exact ⟨i + 1, by omega, by go_num, rfl, HNi.out (by trivial), by trivial⟩
        case measure => simp [intOf]; omega
      · rw [he] at HYi
        go_wp2_with fail
        go_ret
        exact ⟨ret_bool (by rw [HYi.out (by trivial)]), rfl⟩
    · have hlt' : ¬ (i : Int) < ss.length := by omega
      have HB := hid (HN.out (fun j hj => HA.out j hj (by omega)))
      obtain rfl : i = ss.length := by omega
      go_wp2_with fail
      go_ret
      exact ⟨ret_bool (by rw [HB.out]), rfl⟩
--
set_option maxHeartbeats 1000000 in
theorem likeTexts5_same (ss : List ByteArray) (v v' : Value) (w : World) (hv : Strs w v ss) (hv' : Strs w v' ss) :
    Calls Tryz.prog 35 #[v, v'] w fun e w' => e = .returned (.bool true) ∧ Keeps w w' := by
  have hv0 := hv
  have hv1 := hv'
  obtain ⟨p, cap, rfl, hle, hmx, hlen⟩ := hv.shape
  obtain ⟨p', cap', rfl, hle', hmx', _⟩ := hv'.shape
  unfold maxLen at hmx hmx'
  have HV := hid (fun wz (k : Keeps w wz) => hv0.keeps k)
  have HW := hid (fun wz (k : Keeps w wz) => hv1.keeps k)
  clear hv hv' hv0 hv1
  go_enter Tryz.func35, Tryz.ntmps35
  go_wp2_with fail
  go_loopw [4, 5] (fun o i' wr => ∃ i : Nat, i ≤ ss.length ∧ i' = .int .i64 i ∧ o = .bool false ∧ Keeps w wr) (fun _ i' _ => ss.length - (intOf i').toNat)
  case atStart => exact ⟨0, by omega, rfl, rfl, Keeps.refl w⟩
  case round =>
    obtain ⟨i, hi, rfl, rfl, kw⟩ := hrel
    by_cases hlt : i < ss.length
    · have hlt' : (i : Int) < ss.length := by omega
      obtain ⟨b1, o1, rfl, h1⟩ := (HV.out wr kw).get i hlt
      obtain ⟨b2, o2, rfl, h2⟩ := (HW.out wr kw).get i hlt
      generalize ss[i] = x at *
      go_wp2_with fail
      go_quiet (fail)
      go_wp2_with fail
      go_roundw
      case rel => exact ⟨i + 1, by omega, by go_num, rfl, kw.drewN _⟩
      case measure => simp [intOf]; omega
    · have hlt' : ¬ (i : Int) < ss.length := by omega
      obtain rfl : i = ss.length := by omega
      go_wp2_with fail
      go_ret
      exact ⟨rfl, kw⟩
--
set_option maxHeartbeats 1000000 in
theorem likeInts_same (ss : List Int) (v v' : Value) (w : World) (hv : Ints w v ss) (hv' : Ints w v' ss) :
    Calls Tryz.prog 34 #[v, v'] w fun e w' => e = .returned (.bool true) ∧ Keeps w w' := by
  have hv0 := hv
  have hv1 := hv'
  obtain ⟨p, cap, rfl, hle, hmx, _⟩ := hv
  obtain ⟨p', cap', rfl, hle', hmx', _⟩ := hv'
  unfold maxLen at hmx hmx'
  have HV := hid (fun wz (k : Keeps w wz) => hv0.keeps k)
  have HW := hid (fun wz (k : Keeps w wz) => hv1.keeps k)
  clear hv0 hv1
  go_enter Tryz.func34, Tryz.ntmps34
  go_wp2_with fail
  go_loopw [4, 5] (fun o i' wr => ∃ i : Nat, i ≤ ss.length ∧ i' = .int .i64 i ∧ o = .bool false ∧ Keeps w wr) (fun _ i' _ => ss.length - (intOf i').toNat)
  case atStart => exact ⟨0, by omega, rfl, rfl, Keeps.refl w⟩
  case round =>
    obtain ⟨i, hi, rfl, rfl, kw⟩ := hrel
    by_cases hlt : i < ss.length
    · have hlt' : (i : Int) < ss.length := by omega
      obtain ⟨_, _, e1, _, _, hat1, _⟩ := HV.out wr kw
      obtain ⟨_, _, e2, _, _, hat2, _⟩ := HW.out wr kw
      cases e1
      cases e2
      obtain ⟨b1, o1, rfl, h1⟩ := hat1.int i hlt
      obtain ⟨b2, o2, rfl, h2⟩ := hat2.int i hlt
      clear hat1 hat2
      generalize ss[i] = x at *
      go_wp2_with fail
      go_quiet (fail)
      go_wp2_with fail
      go_roundw
      case rel => exact ⟨i + 1, by omega, by go_num, rfl, kw.drewN _⟩
      case measure => simp [intOf]; omega
    · have hlt' : ¬ (i : Int) < ss.length := by omega
      obtain rfl : i = ss.length := by omega
      go_wp2_with fail
      go_ret
      exact ⟨rfl, kw⟩
--
set_option maxHeartbeats 1000000 in
theorem hasInt_any (ss : List Int) (x : Int) (v : Value) (w : World) (hv : Ints w v ss) :
    Calls Tryz.prog 39 #[v, .int .i64 x] w fun e w' => e = .returned (.bool (decide (x ∈ ss))) ∧ w = w' := by
  have hv0 := hv
  obtain ⟨p, cap, rfl, hle, hmx, _⟩ := hv
  unfold maxLen at hmx
  have HV := hid hv0; clear hv0
  have HY := hid (fun i (h : i < ss.length) (e : (ss[i] == x) = true) => show decide (x ∈ ss) = true from decide_eq_true (by
    rw [beq_iff_eq] at e
    rw [← e]
    exact List.getElem_mem h))
  have HN := hid (fun (h : ∀ j (hj : j < ss.length), (ss[j] == x) = false) => show decide (x ∈ ss) = false from decide_eq_false (fun hm => by
    obtain ⟨j, hj, e⟩ := List.getElem_of_mem hm
    have := h j hj
    rw [e] at this
    simp at this))
  generalize decide (x ∈ ss) = b at *
  go_enter Tryz.func39, Tryz.ntmps39
  go_wp2_with fail
  go_loopw [4, 5] (fun o i' wr => ∃ i : Nat, i ≤ ss.length ∧ i' = .int .i64 i ∧ o = .bool false ∧ (∀ j (hj : j < ss.length), j < i → (ss[j] == x) = false) ∧ w = wr) (fun _ i' _ => ss.length - (intOf i').toNat)
  case atStart => exact ⟨0, by omega, rfl, rfl, fun j hj h => by omega, rfl⟩
  case round =>
    obtain ⟨i, hi, rfl, rfl, hall, rfl⟩ := hrel
    have HA := hid hall; clear hall
    by_cases hlt : i < ss.length
    · have hlt' : (i : Int) < ss.length := by omega
      obtain ⟨_, _, e1, _, _, hat1, _⟩ := HV.out
      cases e1
      obtain ⟨b1, o1, rfl, h1⟩ := hat1.int i hlt
      have HYi := hid (HY.out i hlt)
      have HNi : Hid ((ss[i] == x) = false → ∀ j (hj : j < ss.length), j < i + 1 → (ss[j] == x) = false) := hid (fun h j hj hji => by
        by_cases e : j = i
        · subst e; exact h
        · exact HA.out j hj (by omega))
      clear hat1
      generalize ss[i] = y at *
      cases he : y == x
      · rw [he] at HNi
        go_wp2_with fail
        go_roundw
        case rel => exact ⟨i + 1, by omega, by go_num, rfl, HNi.out (by trivial), by trivial⟩
        case measure => simp [intOf]; omega
      · rw [he] at HYi
        go_wp2_with fail
        go_ret
        exact ⟨ret_bool (by rw [HYi.out (by trivial)]), rfl⟩
    · have hlt' : ¬ (i : Int) < ss.length := by omega
      have HB := hid (HN.out (fun j hj => HA.out j hj (by omega)))
      obtain rfl : i = ss.length := by omega
      go_wp2_with fail
      go_ret
      exact ⟨ret_bool (by rw [HB.out]), rfl⟩
--
theorem bit5_any (m i : Nat) (w : World) (hm : m < 256) (hi : i ≤ 8) : Calls Tryz.prog 38 #[.int .i64 m, .int .i64 i] w fun e w' => e = .returned (.bool (m.testBit i)) ∧ w = w' := by
  have _ := hm
  go_enter Tryz.func38, Tryz.ntmps38
  go_wp2
  go_ret
  exact ⟨ret_bool (bitN m i (by omega)), rfl⟩
end Go.Proofs.YtgnehffglhbggaaGreat
/- The laws' dice; codes that are too long. -/
namespace Go.Proofs.YtgnehffglhbggaaGreat
open Go.RowKit
--
set_option maxRecDepth 20000 in
set_option maxHeartbeats 1000000 in
theorem below_any (n : Int) (B : Nat) (w : World) (hs : Src w B) (hn : n ≤ 1000000) : Calls Tryz.prog 37 #[.pointer (some ⟨B, 0, none⟩), .int .i64 n] w fun e w' => ∃ r : Nat, e = .returned (.int .i64 r) ∧ ((r : Int) < n ∨ r = 0) ∧ Dr B w w' := by
  by_cases h1 : n < 1
  · go_enter Tryz.func37, Tryz.ntmps37
    go_wp2
    go_ret
    exact ⟨0, rfl, .inr rfl, Dr.of hs (Keeps.refl w)⟩
  · obtain ⟨v, m, a, h, c0, c1, c2, f1, f2, ha, hb⟩ := hs
    obtain ⟨p, cap, rfl, hmc, hmx, hbt⟩ := hb
    unfold maxLen at hmx
    have HB := hid hbt
    go_enter Tryz.func37, Tryz.ntmps37
    go_wp2
    obtain ⟨y, hy, hyl⟩ := and24 (IntKind.u64.wrap (IntKind.u64.wrap (h * 6364136223846793005) + 1442695040888963407) / 8589934592)
    have hwy : wrap64 (y : Int) = y := by unfold wrap64; omega
    rw [hy, hwy]
    clear hy hwy
    generalize IntKind.u64.wrap (IntKind.u64.wrap (h * 6364136223846793005) + 1442695040888963407) = h2
    have t2 : Touch w (w.setCell ⟨B, 2, none⟩ (.int .u64 h2)) (fun i => i = B) := (Touch.grown (grown_set B 2 _)).mono (fun k e => by cases e; rfl)
    have d0 : (w.setCell ⟨B, 2, none⟩ (.int .u64 h2)).cell? ⟨B, 0, none⟩ = some (.slice p m cap) := by rw [World.cell?_setCell_other _ _ _ _ (by simp)]; exact c0
    have d1 : (w.setCell ⟨B, 2, none⟩ (.int .u64 h2)).cell? ⟨B, 1, none⟩ = some (.int .i64 a) := by rw [World.cell?_setCell_other _ _ _ _ (by simp)]; exact c1
    have d2 : (w.setCell ⟨B, 2, none⟩ (.int .u64 h2)).cell? ⟨B, 2, none⟩ = some (.int .u64 h2) := World.cell?_setCell_same _ _ _ c2
    have g1 : (w.setCell ⟨B, 2, none⟩ (.int .u64 h2)).frozen? ⟨B, 1, none⟩ = false := by simpa using f1
    have g2 : (w.setCell ⟨B, 2, none⟩ (.int .u64 h2)).frozen? ⟨B, 2, none⟩ = false := by simpa using f2
    have hb2 : BtsB (w.setCell ⟨B, 2, none⟩ (.int .u64 h2)) (.slice p m cap) m B := BtsB.touch ⟨p, cap, rfl, hmc, hmx, HB.out⟩ t2
    have T2 := hid t2; clear t2
    generalize w.setCell ⟨B, 2, none⟩ (.int .u64 h2) = w2 at *
    clear c0 c1 c2 f1 f2 hbt
    by_cases hlt : a < m
    · have hlt' : (a : Int) < m := by omega
      obtain ⟨b, off, x, rfl, hx, hx8, hbB⟩ : ∃ b off, ∃ x : Nat, p = some ⟨b, off, none⟩ ∧ w2.cell? ⟨b, off + a, none⟩ = some (.int .u8 x) ∧ x < 256 ∧ b < B := by
        obtain ⟨p', cap', e, _, _, h3⟩ := hb2
        cases e
        exact h3 a hlt
      go_quiet (fail)
      go_wp2_with fail
      go_quiet (fail)
      go_wp2_with fail
      go_ret
      have hr0 : 0 ≤ ((y : Int) + x) % n := Int.emod_nonneg _ (by omega)
      have hr1 : ((y : Int) + x) % n < n := Int.emod_lt_of_pos _ (by omega)
      have t3 : ∀ z, Touch w2 ((w2.drewN z).setCell ⟨B, 1, none⟩ (.int .i64 ((a : Int) + 1))) (fun i => i = B) := fun z => (Touch.of_keeps ((Keeps.refl w2).drewN z) _).trans ((Touch.grown (grown_set B 1 _)).mono (fun k e => by cases e; rfl))
      refine ⟨(((y : Int) + x) % n).toNat, ret_int (by omega), .inl (by omega), T2.out.trans (t3 _), _, m, a + 1, h2, ?_, ?_, ?_, ?_, ?_, by omega, hb2.touch (t3 _)⟩
      · rw [World.cell?_setCell_other _ _ _ _ (by simp)]; exact d0
      · refine (World.cell?_setCell_same _ _ _ (u := .int .i64 a) ?_).trans ?_
        · exact d1
        · simp
      · rw [World.cell?_setCell_other _ _ _ _ (by simp)]; exact d2
      · simpa using g1
      · simpa using g2
    · have hlt' : ¬ (a : Int) < m := by omega
      go_quiet (fail)
      go_wp2_with fail
      go_ret
      have hr0 : 0 ≤ (y : Int) % n := Int.emod_nonneg _ (by omega)
      have hr1 : (y : Int) % n < n := Int.emod_lt_of_pos _ (by omega)
      have t3 := Touch.of_keeps ((Keeps.refl w2).drewN nq) (fun i => i = B)
      exact ⟨((y : Int) % n).toNat, ret_int (by omega), .inl (by omega), T2.out.trans t3, _, m, a, h2, d0, d1, d2, g1, g2, ha, hb2.touch t3⟩
set_option maxRecDepth 20000 in
set_option maxHeartbeats 1000000 in
theorem roll_any (v : Value) (n : Nat) (seed : Nat) (w : World) (hv : Bts w v n) (hn : n ≤ 4096) (hseed : seed ≤ 100000) : Calls Tryz.prog 36 #[v, .int .u64 seed] w fun e w' => ∃ B, e = .returned (.pointer (some ⟨B, 0, none⟩)) ∧ w.heap.size ≤ B ∧ Src w' B ∧ Keeps w w' := by
  have hv0 := hv
  obtain ⟨p, cap, rfl, hmc, hmx, hbt⟩ := hv
  unfold maxLen at hmx
  have HB := hid hv0; clear hv0 hbt
  go_enter Tryz.func36, Tryz.ntmps36
  go_wp2
  have hk0 : Keeps w (w.alloc (.cells #[.slice p n cap, .int .i64 0, .int .u64 ((seed : Int) * 7681 + (n : Int))] 101)) := (Keeps.refl w).alloc _
  go_loopw [6] (fun i' wr => ∃ k : Nat, k ≤ n ∧ i' = .int .i64 k ∧ FromRel w (.slice p n cap) wr) (fun i _ => n - (intOf i).toNat)
  case atStart => exact ⟨0, by omega, rfl, hk0, ((seed : Int) * 7681 + (n : Int)), by simp, by simp, by simp, by simp, by simp⟩
  case round =>
    obtain ⟨k, hk, rfl, kw, h, c0, c1, c2, f1, f2⟩ := hrel
    clear hk0
    by_cases hlt : k < n
    · have hlt' : (k : Int) < n := by omega
      obtain ⟨b, off, x, rfl, hx, hx8, hbB⟩ : ∃ b off, ∃ x : Nat, p = some ⟨b, off, none⟩ ∧ wr.cell? ⟨b, off + k, none⟩ = some (.int .u8 x) ∧ x < 256 ∧ b < w.heap.size := by
        obtain ⟨p', cap', e, _, _, h3⟩ := HB.out.low kw
        cases e
        exact h3 k hlt
      go_wp2_with fail
      go_region
      go_wp2_with fail
      go_roundw
      case rel => exact ⟨k + 1, by omega, by go_num, FromRel.step ⟨kw, h, c0, c1, c2, f1, f2⟩ _⟩
      case measure => simp [intOf]; omega
    · have hlt' : ¬ (k : Int) < n := by omega
      go_wp2_with fail
      go_ret
      exact ⟨_, rfl, Nat.le_refl _, ⟨_, n, 0, h, c0, c1, c2, f1, f2, by omega, HB.out.low kw⟩, kw⟩
--
theorem big_any (v : Value) (n : Nat) (w : World) (hv : Bts w v n) : Calls Tryz.prog 30 #[v] w fun e w' => e = .returned (.bool (decide (4096 < n))) ∧ w = w' := by
  obtain ⟨p, c, rfl, hc, hm, _⟩ := hv
  unfold maxLen at hm
  go_enter Tryz.func30, Tryz.ntmps30
  go_wp2
  go_ret
  exact ⟨ret_bool (by rw [Bool.eq_iff_iff]; simp; omega), rfl⟩
theorem Bts.keeps {w w' : World} {v : Value} {n : Nat} (h : Bts w v n) (k : Keeps w w') : Bts w' v n := (BtsB.low h k).up k.size
end Go.Proofs.YtgnehffglhbggaaGreat
