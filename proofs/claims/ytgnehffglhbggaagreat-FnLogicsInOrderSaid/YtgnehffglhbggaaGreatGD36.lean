/- FnLogicsInOrder. -/
import Derived.Test.YtgnehffglhbggaaGreatGDR
import Derived.Test.YtgnehffglhbggaaGreatGL2
import Derived.Test.YtgnehffglhbggaaGreatGPR
import Derived.Deep.RegionHeld3
namespace Go.Proofs.YtgnehffglhbggaaGreat
open Go.RowKit
theorem lgS_inj : ∀ a b : Fin 8, lgS a.1 = lgS b.1 → a = b := by decide
theorem lgN_lgS {L : Nat} (h : L < 8) : lgN (lgS L) = L := by
  obtain ⟨h1, h2⟩ := lgN_spec (isLg_lgS L h)
  have := lgS_inj ⟨L, h⟩ ⟨lgN (lgS L), h1⟩ h2
  exact (congrArg Fin.val this).symm
/-- the chains of logics -/
def above6 : List (List ByteArray) := [[lgS 0, lgS 1, lgS 3, lgS 7], [lgS 1, lgS 2], [lgS 2, lgS 4], [lgS 3, lgS 4, lgS 5], [lgS 4, lgS 6], [lgS 7, lgS 6]]
theorem lg_mem {L : Nat} (h : L < 8) : lgS L ∈ names8 := by
  have h8 : L = 0 ∨ L = 1 ∨ L = 2 ∨ L = 3 ∨ L = 4 ∨ L = 5 ∨ L = 6 ∨ L = 7 := by omega
  rcases h8 with rfl | rfl | rfl | rfl | rfl | rfl | rfl | rfl <;> simp [names8]
theorem loR_mem {ss tt : List ByteArray} (hz : srC (lgS 0) ss tt = 0) {x : ByteArray} : x ∈ loR ss tt ↔ x ∈ names8 ∧ mtB x ss tt = true := by
  unfold loR
  rw [if_pos hz, List.mem_filter]
theorem lo_up {ss tt : List ByteArray} (hz : srC (lgS 0) ss tt = 0) {K L : Nat} (hK : K < 8) (hL : L < 8) (h : (K, L) ∈ below9 ∨ K = L) (hm : lgS K ∈ loR ss tt) : lgS L ∈ loR ss tt := by
  rcases h with h | rfl
  · rw [loR_mem hz] at *
    refine ⟨lg_mem hL, ?_⟩
    have := hm.2
    unfold mtB at *
    rw [lgN_lgS hK] at this
    rw [lgN_lgS hL]
    exact thm_order h this
  · exact hm
/-- chains as numbers -/
def aboveN : List (List Nat) := [[0, 1, 3, 7], [1, 2], [2, 4], [3, 4, 5], [4, 6], [7, 6]]
theorem above_eq : above6 = aboveN.map fun l => l.map lgS := rfl
theorem aboveN_ok : ∀ l ∈ aboveN, ∀ h : 0 < l.length, ∀ k ∈ l, l[0] < 8 ∧ k < 8 ∧ ((l[0], k) ∈ below9 ∨ l[0] = k) := by decide
theorem above_up {ss tt : List ByteArray} (hz : srC (lgS 0) ss tt = 0) (l : List ByteArray) (hl : l ∈ above6) (h0 : 0 < l.length) (h : l[0] ∈ loR ss tt) : ∀ x ∈ l, x ∈ loR ss tt := by
  rw [above_eq] at hl
  obtain ⟨m, hm, rfl⟩ := List.mem_map.1 hl
  intro x hx
  obtain ⟨k, hk, rfl⟩ := List.mem_map.1 hx
  have hm0 : 0 < m.length := by simpa using h0
  obtain ⟨a, b, c⟩ := aboveN_ok m hm hm0 k hk
  rw [List.getElem_map] at h
  exact lo_up hz a b c h
theorem above_len : ∀ l ∈ above6, 0 < l.length ∧ l.length ≤ 4 := by decide
theorem cell_lay (w : World) (cs : Array Value) (T : TypeId) (n i : Nat) (v : Value) (hn : n = w.heap.size) (h : cs[i]? = some v) : (w.alloc (.cells cs T)).cell? ⟨n, i, none⟩ = some v := by
  subst hn
  simp [h]
theorem strs_lay (w : World) (ss : List ByteArray) (hl : ss.length ≤ 100) (n : Nat) (hn : n = w.heap.size) : Strs (w.alloc (.cells (ss.map Value.string).toArray 9)) (.slice (some ⟨n, 0, none⟩) ss.length ss.length) ss := by
  subst hn
  exact Strs.lit ss (by omega)
theorem lay6 (w : World) : Keeps w (((((((w.alloc (.cells #[.string ⟨#[75]⟩, .string ⟨#[68]⟩, .string ⟨#[75, 52]⟩, .string ⟨#[75, 66]⟩] 9)).alloc (.cells #[.string ⟨#[68]⟩, .string ⟨#[84]⟩] 9)).alloc (.cells #[.string ⟨#[84]⟩, .string ⟨#[83, 52]⟩] 9)).alloc (.cells #[.string ⟨#[75, 52]⟩, .string ⟨#[83, 52]⟩, .string ⟨#[71, 76]⟩] 9)).alloc (.cells #[.string ⟨#[83, 52]⟩, .string ⟨#[83, 53]⟩] 9)).alloc (.cells #[.string ⟨#[75, 66]⟩, .string ⟨#[83, 53]⟩] 9)).alloc (.cells #[.slice (some ⟨w.heap.size, 0, none⟩) 4 4, .slice (some ⟨w.heap.size + 1, 0, none⟩) 2 2, .slice (some ⟨w.heap.size + 1 + 1, 0, none⟩) 2 2, .slice (some ⟨w.heap.size + 1 + 1 + 1, 0, none⟩) 3 3, .slice (some ⟨w.heap.size + 1 + 1 + 1 + 1, 0, none⟩) 2 2, .slice (some ⟨w.heap.size + 1 + 1 + 1 + 1 + 1, 0, none⟩) 2 2] 22)) ∧ ∀ i (h : i < above6.length), ∃ g, (((((((w.alloc (.cells #[.string ⟨#[75]⟩, .string ⟨#[68]⟩, .string ⟨#[75, 52]⟩, .string ⟨#[75, 66]⟩] 9)).alloc (.cells #[.string ⟨#[68]⟩, .string ⟨#[84]⟩] 9)).alloc (.cells #[.string ⟨#[84]⟩, .string ⟨#[83, 52]⟩] 9)).alloc (.cells #[.string ⟨#[75, 52]⟩, .string ⟨#[83, 52]⟩, .string ⟨#[71, 76]⟩] 9)).alloc (.cells #[.string ⟨#[83, 52]⟩, .string ⟨#[83, 53]⟩] 9)).alloc (.cells #[.string ⟨#[75, 66]⟩, .string ⟨#[83, 53]⟩] 9)).alloc (.cells #[.slice (some ⟨w.heap.size, 0, none⟩) 4 4, .slice (some ⟨w.heap.size + 1, 0, none⟩) 2 2, .slice (some ⟨w.heap.size + 1 + 1, 0, none⟩) 2 2, .slice (some ⟨w.heap.size + 1 + 1 + 1, 0, none⟩) 3 3, .slice (some ⟨w.heap.size + 1 + 1 + 1 + 1, 0, none⟩) 2 2, .slice (some ⟨w.heap.size + 1 + 1 + 1 + 1 + 1, 0, none⟩) 2 2] 22)).cell? ⟨w.heap.size + 1 + 1 + 1 + 1 + 1 + 1, i, none⟩ = some (.slice (some ⟨g, 0, none⟩) above6[i].length above6[i].length) ∧ Strs (((((((w.alloc (.cells #[.string ⟨#[75]⟩, .string ⟨#[68]⟩, .string ⟨#[75, 52]⟩, .string ⟨#[75, 66]⟩] 9)).alloc (.cells #[.string ⟨#[68]⟩, .string ⟨#[84]⟩] 9)).alloc (.cells #[.string ⟨#[84]⟩, .string ⟨#[83, 52]⟩] 9)).alloc (.cells #[.string ⟨#[75, 52]⟩, .string ⟨#[83, 52]⟩, .string ⟨#[71, 76]⟩] 9)).alloc (.cells #[.string ⟨#[83, 52]⟩, .string ⟨#[83, 53]⟩] 9)).alloc (.cells #[.string ⟨#[75, 66]⟩, .string ⟨#[83, 53]⟩] 9)).alloc (.cells #[.slice (some ⟨w.heap.size, 0, none⟩) 4 4, .slice (some ⟨w.heap.size + 1, 0, none⟩) 2 2, .slice (some ⟨w.heap.size + 1 + 1, 0, none⟩) 2 2, .slice (some ⟨w.heap.size + 1 + 1 + 1, 0, none⟩) 3 3, .slice (some ⟨w.heap.size + 1 + 1 + 1 + 1, 0, none⟩) 2 2, .slice (some ⟨w.heap.size + 1 + 1 + 1 + 1 + 1, 0, none⟩) 2 2] 22)) (.slice (some ⟨g, 0, none⟩) above6[i].length above6[i].length) above6[i] := by
  have h0 := strs_lay w above6[0] (by decide) (w.heap.size) (by simp)
  have k0 := (Keeps.refl w).alloc (.cells (above6[0].map Value.string).toArray 9)
  have h1 := strs_lay (w.alloc (.cells #[.string ⟨#[75]⟩, .string ⟨#[68]⟩, .string ⟨#[75, 52]⟩, .string ⟨#[75, 66]⟩] 9)) above6[1] (by decide) (w.heap.size + 1) (by simp)
  have k1 := (Keeps.refl (w.alloc (.cells #[.string ⟨#[75]⟩, .string ⟨#[68]⟩, .string ⟨#[75, 52]⟩, .string ⟨#[75, 66]⟩] 9))).alloc (.cells (above6[1].map Value.string).toArray 9)
  have h2 := strs_lay ((w.alloc (.cells #[.string ⟨#[75]⟩, .string ⟨#[68]⟩, .string ⟨#[75, 52]⟩, .string ⟨#[75, 66]⟩] 9)).alloc (.cells #[.string ⟨#[68]⟩, .string ⟨#[84]⟩] 9)) above6[2] (by decide) (w.heap.size + 1 + 1) (by simp)
  have k2 := (Keeps.refl ((w.alloc (.cells #[.string ⟨#[75]⟩, .string ⟨#[68]⟩, .string ⟨#[75, 52]⟩, .string ⟨#[75, 66]⟩] 9)).alloc (.cells #[.string ⟨#[68]⟩, .string ⟨#[84]⟩] 9))).alloc (.cells (above6[2].map Value.string).toArray 9)
  have h3 := strs_lay (((w.alloc (.cells #[.string ⟨#[75]⟩, .string ⟨#[68]⟩, .string ⟨#[75, 52]⟩, .string ⟨#[75, 66]⟩] 9)).alloc (.cells #[.string ⟨#[68]⟩, .string ⟨#[84]⟩] 9)).alloc (.cells #[.string ⟨#[84]⟩, .string ⟨#[83, 52]⟩] 9)) above6[3] (by decide) (w.heap.size + 1 + 1 + 1) (by simp)
  have k3 := (Keeps.refl (((w.alloc (.cells #[.string ⟨#[75]⟩, .string ⟨#[68]⟩, .string ⟨#[75, 52]⟩, .string ⟨#[75, 66]⟩] 9)).alloc (.cells #[.string ⟨#[68]⟩, .string ⟨#[84]⟩] 9)).alloc (.cells #[.string ⟨#[84]⟩, .string ⟨#[83, 52]⟩] 9))).alloc (.cells (above6[3].map Value.string).toArray 9)
  have h4 := strs_lay ((((w.alloc (.cells #[.string ⟨#[75]⟩, .string ⟨#[68]⟩, .string ⟨#[75, 52]⟩, .string ⟨#[75, 66]⟩] 9)).alloc (.cells #[.string ⟨#[68]⟩, .string ⟨#[84]⟩] 9)).alloc (.cells #[.string ⟨#[84]⟩, .string ⟨#[83, 52]⟩] 9)).alloc (.cells #[.string ⟨#[75, 52]⟩, .string ⟨#[83, 52]⟩, .string ⟨#[71, 76]⟩] 9)) above6[4] (by decide) (w.heap.size + 1 + 1 + 1 + 1) (by simp)
  have k4 := (Keeps.refl ((((w.alloc (.cells #[.string ⟨#[75]⟩, .string ⟨#[68]⟩, .string ⟨#[75, 52]⟩, .string ⟨#[75, 66]⟩] 9)).alloc (.cells #[.string ⟨#[68]⟩, .string ⟨#[84]⟩] 9)).alloc (.cells #[.string ⟨#[84]⟩, .string ⟨#[83, 52]⟩] 9)).alloc (.cells #[.string ⟨#[75, 52]⟩, .string ⟨#[83, 52]⟩, .string ⟨#[71, 76]⟩] 9))).alloc (.cells (above6[4].map Value.string).toArray 9)
  have h5 := strs_lay (((((w.alloc (.cells #[.string ⟨#[75]⟩, .string ⟨#[68]⟩, .string ⟨#[75, 52]⟩, .string ⟨#[75, 66]⟩] 9)).alloc (.cells #[.string ⟨#[68]⟩, .string ⟨#[84]⟩] 9)).alloc (.cells #[.string ⟨#[84]⟩, .string ⟨#[83, 52]⟩] 9)).alloc (.cells #[.string ⟨#[75, 52]⟩, .string ⟨#[83, 52]⟩, .string ⟨#[71, 76]⟩] 9)).alloc (.cells #[.string ⟨#[83, 52]⟩, .string ⟨#[83, 53]⟩] 9)) above6[5] (by decide) (w.heap.size + 1 + 1 + 1 + 1 + 1) (by simp)
  have k5 := (Keeps.refl (((((w.alloc (.cells #[.string ⟨#[75]⟩, .string ⟨#[68]⟩, .string ⟨#[75, 52]⟩, .string ⟨#[75, 66]⟩] 9)).alloc (.cells #[.string ⟨#[68]⟩, .string ⟨#[84]⟩] 9)).alloc (.cells #[.string ⟨#[84]⟩, .string ⟨#[83, 52]⟩] 9)).alloc (.cells #[.string ⟨#[75, 52]⟩, .string ⟨#[83, 52]⟩, .string ⟨#[71, 76]⟩] 9)).alloc (.cells #[.string ⟨#[83, 52]⟩, .string ⟨#[83, 53]⟩] 9))).alloc (.cells (above6[5].map Value.string).toArray 9)
  have k6 := (Keeps.refl ((((((w.alloc (.cells #[.string ⟨#[75]⟩, .string ⟨#[68]⟩, .string ⟨#[75, 52]⟩, .string ⟨#[75, 66]⟩] 9)).alloc (.cells #[.string ⟨#[68]⟩, .string ⟨#[84]⟩] 9)).alloc (.cells #[.string ⟨#[84]⟩, .string ⟨#[83, 52]⟩] 9)).alloc (.cells #[.string ⟨#[75, 52]⟩, .string ⟨#[83, 52]⟩, .string ⟨#[71, 76]⟩] 9)).alloc (.cells #[.string ⟨#[83, 52]⟩, .string ⟨#[83, 53]⟩] 9)).alloc (.cells #[.string ⟨#[75, 66]⟩, .string ⟨#[83, 53]⟩] 9))).alloc (.cells #[.slice (some ⟨w.heap.size, 0, none⟩) 4 4, .slice (some ⟨w.heap.size + 1, 0, none⟩) 2 2, .slice (some ⟨w.heap.size + 1 + 1, 0, none⟩) 2 2, .slice (some ⟨w.heap.size + 1 + 1 + 1, 0, none⟩) 3 3, .slice (some ⟨w.heap.size + 1 + 1 + 1 + 1, 0, none⟩) 2 2, .slice (some ⟨w.heap.size + 1 + 1 + 1 + 1 + 1, 0, none⟩) 2 2] 22)
  refine ⟨((((((k0.trans k1).trans k2).trans k3).trans k4).trans k5).trans k6), fun i h => ?_⟩
  have hi : i = 0 ∨ i = 1 ∨ i = 2 ∨ i = 3 ∨ i = 4 ∨ i = 5 := by
    have : i < 6 := h
    omega
  rcases hi with rfl | rfl | rfl | rfl | rfl | rfl
  · exact ⟨w.heap.size, cell_lay _ _ _ _ _ _ (by simp) rfl, ((((((h0.keeps k1).keeps k2).keeps k3).keeps k4).keeps k5).keeps k6)⟩
  · exact ⟨w.heap.size + 1, cell_lay _ _ _ _ _ _ (by simp) rfl, (((((h1.keeps k2).keeps k3).keeps k4).keeps k5).keeps k6)⟩
  · exact ⟨w.heap.size + 1 + 1, cell_lay _ _ _ _ _ _ (by simp) rfl, ((((h2.keeps k3).keeps k4).keeps k5).keeps k6)⟩
  · exact ⟨w.heap.size + 1 + 1 + 1, cell_lay _ _ _ _ _ _ (by simp) rfl, (((h3.keeps k4).keeps k5).keeps k6)⟩
  · exact ⟨w.heap.size + 1 + 1 + 1 + 1, cell_lay _ _ _ _ _ _ (by simp) rfl, ((h4.keeps k5).keeps k6)⟩
  · exact ⟨w.heap.size + 1 + 1 + 1 + 1 + 1, cell_lay _ _ _ _ _ _ (by simp) rfl, (h5.keeps k6)⟩
--
theorem sd_mid {m : Nat} {w : World} {b : Nat} {v : Value} (h : SideD m w b v) (hm : m ≤ 1000) : ∃ ss, Strs w v ss ∧ Mid ss := by
  obtain ⟨g, n, c, ss, rfl, h1, h2, h3⟩ := h
  exact ⟨ss, h1.strs (by omega), fun s hs => by have := h3 s hs; omega⟩
open scoped Classical in
set_option maxRecDepth 100000 in
set_option maxHeartbeats 8000000 in
theorem lawLogicsInOrder (v : Value) (n : Nat) (w : World) (hv : Bts w v n) :
    Calls Tryz.prog 8 #[v] w fun e w' => e = .returned (.bool true) ∧ Keeps w w' := by
  have HBig := hid (big_any v n w hv)
  by_cases hn : 4096 < n
  · rw [decide_eq_true hn] at HBig
    obtain ⟨pv, cv, rfl, _⟩ := hv
    go_enter Tryz.func8, Tryz.ntmps8
    go_wp2_with fail
    refine HBig.out.mono ?_; rintro e w' ⟨rfl, rfl⟩
    go_wp2_with fail
    go_ret
    exact ⟨rfl, Keeps.refl _⟩
  · rw [decide_eq_false hn] at HBig
    have HD := hid (drawLogicsOf_any v n w hv (by omega))
    obtain ⟨pv, cv, rfl, _⟩ := hv
    go_enter Tryz.func8, Tryz.ntmps8
    go_wp2_with fail
    refine HBig.out.mono ?_; rintro e w' ⟨rfl, rfl⟩
    go_wp2_with fail
    refine HD.out.mono ?_; rintro e w1 ⟨x, y, rfl, hx, hy, k1⟩
    obtain ⟨ss, hss, hms⟩ := sd_mid hx (by omega)
    obtain ⟨tt, htt, hmt⟩ := sd_mid hy (by omega)
    obtain ⟨p3, n3, c3, rfl⟩ := hx.shape
    obtain ⟨q3, m3, e3, rfl⟩ := hy.shape
    have kB := (Keeps.refl w1).alloc (.cells #[.slice p3 n3 c3, .slice q3 m3 e3] 29)
    obtain ⟨c0, c1⟩ := BoxQ.made w1 (.slice p3 n3 c3) (.slice q3 m3 e3) 29
    have HSS := hid hss
    have HTT := hid htt
    have HMS := hid hms
    have HMT := hid hmt
    have HI := hid (implLogicsOf ss tt _ _ _ (hss.keeps kB) (htt.keeps kB) hms hmt)
    have hS := fun wz (kz : Keeps w1 wz) => specLogicsOf ss tt _ _ wz (hss.keeps kz) (htt.keeps kz) hms hmt
    have HS := hid hS
    have K1 := k1.trans kB
    clear hx hy hss htt hms hmt hS HD HBig
    go_wp2_with fail
    refine HI.out.mono ?_; rintro e w2 ⟨v2, rfl, hv2, k2⟩
    have d0 := k2.cell c0
    have d1 := k2.cell c1
    obtain ⟨p2, q2, rfl, _⟩ := At.of_own hv2
    have HS2 := hid (HS.out w2 (kB.trans k2))
    go_wp2_with fail
    refine HS2.out.mono ?_; rintro e w3 ⟨v3, rfl, hv3, k3⟩
    obtain ⟨p4, q4, rfl, _⟩ := hv3.shape
    have hl8 := loR_len ss tt
    have HL := hid (likeTexts5_same (loR ss tt) _ _ w3 ((hv2.strs (by omega)).keeps k3) hv3)
    have g0 := k3.cell d0
    have g1 := k3.cell d1
    have HV3 := hid hv3
    have K3 := (K1.trans k2).trans k3
    have HK13 := hid ((kB.trans k2).trans k3)
    clear hv2 hv3 d0 d1 c0 c1 HS2 HI HS
    by_cases hz : srC (lgS 0) ss tt = 0
    · have HZ := hid hz
      have HUP := hid (fun l hl h0 h => above_up hz l hl h0 h)
      rw [hz]
      go_wp2_with fail
      refine HL.out.mono ?_; rintro e w4 ⟨rfl, k4⟩
      go_wp2_with fail
      obtain ⟨kL, hAB⟩ := lay6 w4
      have HAB := hid hAB
      have HV4 := hid ((HV3.out.keeps k4).keeps kL)
      have K5 := (K3.trans k4).trans kL
      have KW := hid ((HK13.out.trans k4).trans kL)
      have x0 := (k4.trans kL).cell g0
      have x1 := (k4.trans kL).cell g1
      clear hAB kL HL g0 g1
      generalize hWW : (((((((w4.alloc (.cells #[.string ⟨#[75]⟩, .string ⟨#[68]⟩, .string ⟨#[75, 52]⟩, .string ⟨#[75, 66]⟩] 9)).alloc (.cells #[.string ⟨#[68]⟩, .string ⟨#[84]⟩] 9)).alloc (.cells #[.string ⟨#[84]⟩, .string ⟨#[83, 52]⟩] 9)).alloc (.cells #[.string ⟨#[75, 52]⟩, .string ⟨#[83, 52]⟩, .string ⟨#[71, 76]⟩] 9)).alloc (.cells #[.string ⟨#[83, 52]⟩, .string ⟨#[83, 53]⟩] 9)).alloc (.cells #[.string ⟨#[75, 66]⟩, .string ⟨#[83, 53]⟩] 9)).alloc (.cells #[.slice (some ⟨w4.heap.size, 0, none⟩) 4 4, .slice (some ⟨w4.heap.size + 1, 0, none⟩) 2 2, .slice (some ⟨w4.heap.size + 1 + 1, 0, none⟩) 2 2, .slice (some ⟨w4.heap.size + 1 + 1 + 1, 0, none⟩) 3 3, .slice (some ⟨w4.heap.size + 1 + 1 + 1 + 1, 0, none⟩) 2 2, .slice (some ⟨w4.heap.size + 1 + 1 + 1 + 1 + 1, 0, none⟩) 2 2] 22)) = W at *
      clear hWW
      generalize hga : w4.heap.size + 1 + 1 + 1 + 1 + 1 + 1 = ga at *
      clear hga
      have HP := hid above_len
      have HUP2 := hid (fun i (h : i < above6.length) => HUP.out above6[i] (List.getElem_mem h))
      have h6 : above6.length = 6 := rfl
      have HMT2 := hid (fun x (hx : isLg x = true) wz (kz : Keeps w1 wz) => implIsModalTheorem x ss tt _ _ wz (HSS.out.keeps kz) (HTT.out.keeps kz) HMS.out HMT.out)
      have HSR := hid (fun x (hx : isLg x = true) => srC_all HZ.out hx)
      have HMB : Hid (∀ i (h : i < names8.length), mtR names8[i] ss tt = decide (names8[i] ∈ loR ss tt)) := hid (fun i h => by
        unfold mtR
        rw [if_pos (srC_all HZ.out (names8_lg h)), Bool.eq_iff_iff, decide_eq_true_eq, loR_mem HZ.out]
        exact ⟨fun h2 => ⟨List.getElem_mem h, h2⟩, fun h2 => h2.2⟩)
      generalize loR ss tt = M at *
      generalize above6 = AB at *
      have HAL := hid h6
      clear h6 HUP hz
      go_loopw [2, 9] (fun o i' wr => ∃ i : Nat, i ≤ 6 ∧ i' = .int .i64 i ∧ o = .bool false ∧ W = wr) (fun _ i' _ => 6 - (intOf i').toNat)
      case atStart => exact ⟨0, by omega, rfl, rfl, rfl⟩
      case round =>
        obtain ⟨i, hi, rfl, rfl, rfl⟩ := hrel
        by_cases hlt : i < 6
        · have hlt' : (i : Int) < 6 := by omega
          have hiA : i < AB.length := by rw [HAL.out]; exact hlt
          obtain ⟨g, hc, hst⟩ := HAB.out i hiA
          obtain ⟨hp0, hp4⟩ := HP.out AB[i] (List.getElem_mem hiA)
          have HUPi := hid (HUP2.out i hiA hp0)
          have HST := hid hst
          generalize AB[i] = L at *
          obtain ⟨b1, o1, e1, h1⟩ := HST.out.get 0 hp0
          cases e1
          rw [Nat.zero_add] at h1
          have HH := hid (hasText5_any M L[0] _ W HV4.out)
          have HUPj : Hid (L[0] ∈ M → ∀ k (h : k < L.length), decide (L[k] ∈ M) = true) := hid (fun h k hk => decide_eq_true (HUPi.out h _ (List.getElem_mem hk)))
          clear hst HUPi hiA
          by_cases hm : L[0] ∈ M
          · rw [decide_eq_true hm] at HH
            have HJ := hid (HUPj.out hm)
            have hp0' : (0 : Int) < L.length := by omega
            generalize L[0] = x0' at *
            clear hm HUPj
            go_wp2_with fail
            refine HH.out.mono ?_; rintro e w5 ⟨rfl, rfl⟩
            go_wp2_with fail
            go_loopw [2, 10] (fun o k' wr => ∃ k : Nat, 1 ≤ k ∧ k ≤ L.length ∧ k' = .int .i64 k ∧ o = .bool false ∧ W = wr) (fun _ k' _ => L.length - (intOf k').toNat)
            case atStart => exact ⟨1, by omega, by omega, rfl, rfl, rfl⟩
            case round =>
              obtain ⟨k, hk1, hk, rfl, rfl, rfl⟩ := hrel
              by_cases hkl : k < L.length
              · have hkl' : (k : Int) < L.length := by omega
                obtain ⟨b2, o2, e2, h2⟩ := HST.out.get k hkl
                cases e2
                rw [Nat.zero_add] at h2
                have HK := hid (hasText5_any M L[k] _ W HV4.out)
                rw [HJ.out k hkl] at HK
                generalize L[k] = y at *
                go_wp2_with fail
                refine HK.out.mono ?_; rintro e w6 ⟨rfl, rfl⟩
                go_wp2_with fail
                go_roundw
                case rel => exact ⟨k + 1, by omega, by omega, by go_num, rfl, by trivial⟩
                case measure => simp [intOf]; omega
              · obtain rfl : k = L.length := by omega
                have hkl' : ¬ ((L.length : Int) < L.length) := by omega
                go_wp2_with fail
                go_roundw
                case rel => exact ⟨i + 1, by omega, by go_num, rfl, by trivial⟩
                case measure => simp [intOf]; omega
          · rw [decide_eq_false hm] at HH
            have hp0' : (0 : Int) < L.length := by omega
            generalize L[0] = x0' at *
            clear hm HUPj
            go_wp2_with fail
            refine HH.out.mono ?_; rintro e w5 ⟨rfl, rfl⟩
            go_wp2_with fail
            go_roundw
            case rel => exact ⟨i + 1, by omega, by go_num, rfl, by trivial⟩
            case measure => simp [intOf]; omega
        · obtain rfl : i = 6 := by omega
          have hlt' : ¬ ((6 : Int) < 6) := by omega
          have hnm : Strs (W.alloc (.cells (names8.map Value.string).toArray 9)) (.slice (some ⟨W.heap.size, 0, none⟩) names8.length names8.length) names8 := Strs.lit names8 (by decide)
          have kN := (Keeps.refl W).alloc (.cells (names8.map Value.string).toArray 9)
          have e8 : (names8.map Value.string).toArray = #[.string ⟨#[75]⟩, .string ⟨#[68]⟩, .string ⟨#[84]⟩, .string ⟨#[75, 52]⟩, .string ⟨#[83, 52]⟩, .string ⟨#[71, 76]⟩, .string ⟨#[83, 53]⟩, .string ⟨#[75, 66]⟩] := rfl
          rw [e8] at hnm kN
          have HNM := hid hnm
          have h8 : names8.length = 8 := rfl
          have HLG : Hid (∀ i (h : i < names8.length), isLg names8[i] = true) := hid (fun i h => names8_lg h)
          have z0 := kN.cell x0
          have z1 := kN.cell x1
          have HV5 := hid (HV4.out.keeps kN)
          have HK5 := hid (KW.out.trans kN)
          clear hnm HAB HP HUP2 x0 x1 e8
          generalize names8 = N8 at *
          have HN8 := hid h8
          rw [h8] at HNM
          clear h8
          go_wp2_with fail
          have hgN := kN.size
          generalize W.alloc (.cells #[.string ⟨#[75]⟩, .string ⟨#[68]⟩, .string ⟨#[84]⟩, .string ⟨#[75, 52]⟩, .string ⟨#[83, 52]⟩, .string ⟨#[71, 76]⟩, .string ⟨#[83, 53]⟩, .string ⟨#[75, 66]⟩] 9) = X at *
          go_loopw [2, 12] (fun o i' wr => ∃ i : Nat, i ≤ 8 ∧ i' = .int .i64 i ∧ o = .bool false ∧ Keeps X wr) (fun _ i' _ => 8 - (intOf i').toNat)
          case atStart => exact ⟨0, by omega, rfl, rfl, Keeps.refl _⟩
          case round =>
            obtain ⟨i, hi, rfl, rfl, kx⟩ := hrel
            by_cases hlt : i < 8
            · have hlt' : (i : Int) < 8 := by omega
              have hiN : i < N8.length := by rw [HN8.out]; exact hlt
              obtain ⟨b1, o1, e1, h1⟩ := (HNM.out.keeps kx).get i hiN
              cases e1
              rw [Nat.zero_add] at h1
              have HLi := HLG.out i hiN
              have kd := (Keeps.refl wr).drew
              have kxd := kx.trans kd
              have HMi := hid (HMT2.out N8[i] HLi wr.drew (HK5.out.trans kxd))
              rw [HMB.out i hiN, HSR.out N8[i] HLi] at HMi
              have u0 := kxd.cell z0
              have u1 := kxd.cell z1
              have h2 := kd.cell h1
              have HTX := hid (fun wz (kz : Keeps X wz) => hasText5_any M N8[i] _ wz (HV5.out.keeps kz))
              clear HLi
              generalize N8[i] = nx at *
              generalize hbb : decide (nx ∈ M) = bb at *
              have HBB := hid hbb
              clear hbb hiN
              have HKX := hid kxd
              go_wp2_with fail
              clear kd kx kxd h1
              go_region_held3 (fun w' => w'.cell? ⟨W.heap.size, i, none⟩ = some (.string nx) ∧ w'.cell? ⟨w1.heap.size, 0, none⟩ = some (.slice p3 n3 c3) ∧ w'.cell? ⟨w1.heap.size, 1, none⟩ = some (.slice q3 m3 e3)) (first | exact ⟨h2, u0, u1⟩ | exact ⟨h3, t0, t1⟩) (first | (go_at_call 19; refine HMi.out.mono ?_; rintro e w6 ⟨rfl, k6⟩; have h3 := k6.cell h2; have t0 := k6.cell u0; have t1 := k6.cell u1))
              have HTX6 := hid (HTX.out w6 (HKX.out.trans k6))
              cases bb
              · go_wp2_with fail
                refine HTX6.out.mono ?_; rintro e w7 ⟨rfl, rfl⟩
                go_wp2_with fail
                go_roundw
                case rel => exact ⟨i + 1, by omega, by go_num, rfl, HKX.out.trans k6⟩
                case measure => simp [intOf]; omega
              · go_wp2_with fail
                refine HTX6.out.mono ?_; rintro e w7 ⟨rfl, rfl⟩
                go_wp2_with fail
                go_roundw
                case rel => exact ⟨i + 1, by omega, by go_num, rfl, HKX.out.trans k6⟩
                case measure => simp [intOf]; omega
            · obtain rfl : i = 8 := by omega
              have hlt' : ¬ ((8 : Int) < 8) := by omega
              go_wp2_with fail
              go_ret
              exact ⟨rfl, (K5.trans kN).trans kx⟩
    · have hz' : (srC (lgS 0) ss tt != 0) = true := by simpa using hz
      generalize srC (lgS 0) ss tt = code at *
      go_wp2_with fail
      refine HL.out.mono ?_; rintro e w4 ⟨rfl, k4⟩
      go_wp2_with fail
      go_ret
      exact ⟨rfl, K3.trans k4⟩
end Go.Proofs.YtgnehffglhbggaaGreat
