/- The texts of the parts of a formula (program side). -/
import Derived.Test.YtodeecmhcfbheaaGreatGV3
import Derived.Test.YtodeecmhcfbheaaGreatGV8
import Derived.Test.YtodeecmhcfbheaaGreatGW2
import Derived.Test.YtodeecmhcfbheaaGreatGSH
namespace Go.Proofs.YtodeecmhcfbheaaGreat
open Go.RowKit
def partsL : Fm → List Fm
  | .and x y => [x, y]
  | .or x y => [x, y]
  | .imp x y => [x, y]
  | .box x => [x]
  | .dia x => [x]
  | _ => []
theorem NdsL.noneN (w : World) : NdsL w (.slice Option.none 0 0) [] := ⟨Option.none, 0, rfl, Nat.le_refl _, by simp [maxLen], by simp, fun i hi => by simp at hi⟩
theorem parts_any (t : Fm) (v : Value) (w : World) (hv : Nds w v t.enc) :
    Calls Tryz.prog 266 #[v] w fun e w' => ∃ u, e = .returned u ∧ NdsL w' u ((partsL t).map Fm.enc) ∧ Keeps w w' := by
  have hv0 := hv
  obtain ⟨b, off, n, cap, rfl, h0, h1, h2, h3, hc, _⟩ := hv.root
  cases t with
  | var _ =>
    replace hc : w.cell? ⟨b, off, none⟩ = some (.int .i64 0) := hc
    have hp := partsOf_any 0 w
    rw [show partsOf 0 = 0 from rfl] at hp
    go_enter Tryz.func266, Tryz.ntmps266
    go_wp2_with (go_at_call 207; refine hp.mono ?_; rintro e w' ⟨rfl, rfl⟩)
    go_ret
    exact ⟨_, rfl, NdsL.noneN _, Keeps.refl _⟩
  | fls =>
    replace hc : w.cell? ⟨b, off, none⟩ = some (.int .i64 1) := hc
    have hp := partsOf_any 1 w
    rw [show partsOf 1 = 0 from rfl] at hp
    go_enter Tryz.func266, Tryz.ntmps266
    go_wp2_with (go_at_call 207; refine hp.mono ?_; rintro e w' ⟨rfl, rfl⟩)
    go_ret
    exact ⟨_, rfl, NdsL.noneN _, Keeps.refl _⟩
  | and x y =>
    replace hc : w.cell? ⟨b, off, none⟩ = some (.int .i64 2) := hc
    have hp := partsOf_any 2 w
    rw [show partsOf 2 = 2 from rfl] at hp
    go_enter Tryz.func266, Tryz.ntmps266
    go_wp2_with fail
    refine hp.mono ?_; rintro e w' ⟨rfl, rfl⟩
    go_wp2_with fail
    refine (first_any _ _ x y.enc _ _ hv0 rfl).mono ?_; rintro e w' ⟨v1, rfl, hv1, rfl⟩
    go_wp2_with fail
    refine (second_any _ _ x y _ _ hv0 rfl).mono ?_; rintro e w' ⟨v2, rfl, hv2, rfl⟩
    obtain ⟨p1, n1, c1, rfl⟩ := hv1.shape
    obtain ⟨p2, n2, c2, rfl⟩ := hv2.shape
    go_wp2_with fail
    go_ret
    exact ⟨_, rfl, NdsL.lit2 hv1 hv2, (Keeps.refl w).alloc _⟩
  | or x y =>
    replace hc : w.cell? ⟨b, off, none⟩ = some (.int .i64 3) := hc
    have hp := partsOf_any 3 w
    rw [show partsOf 3 = 2 from rfl] at hp
    go_enter Tryz.func266, Tryz.ntmps266
    go_wp2_with fail
    refine hp.mono ?_; rintro e w' ⟨rfl, rfl⟩
    go_wp2_with fail
    refine (first_any _ _ x y.enc _ _ hv0 rfl).mono ?_; rintro e w' ⟨v1, rfl, hv1, rfl⟩
    go_wp2_with fail
    refine (second_any _ _ x y _ _ hv0 rfl).mono ?_; rintro e w' ⟨v2, rfl, hv2, rfl⟩
    obtain ⟨p1, n1, c1, rfl⟩ := hv1.shape
    obtain ⟨p2, n2, c2, rfl⟩ := hv2.shape
    go_wp2_with fail
    go_ret
    exact ⟨_, rfl, NdsL.lit2 hv1 hv2, (Keeps.refl w).alloc _⟩
  | imp x y =>
    replace hc : w.cell? ⟨b, off, none⟩ = some (.int .i64 4) := hc
    have hp := partsOf_any 4 w
    rw [show partsOf 4 = 2 from rfl] at hp
    go_enter Tryz.func266, Tryz.ntmps266
    go_wp2_with fail
    refine hp.mono ?_; rintro e w' ⟨rfl, rfl⟩
    go_wp2_with fail
    refine (first_any _ _ x y.enc _ _ hv0 rfl).mono ?_; rintro e w' ⟨v1, rfl, hv1, rfl⟩
    go_wp2_with fail
    refine (second_any _ _ x y _ _ hv0 rfl).mono ?_; rintro e w' ⟨v2, rfl, hv2, rfl⟩
    obtain ⟨p1, n1, c1, rfl⟩ := hv1.shape
    obtain ⟨p2, n2, c2, rfl⟩ := hv2.shape
    go_wp2_with fail
    go_ret
    exact ⟨_, rfl, NdsL.lit2 hv1 hv2, (Keeps.refl w).alloc _⟩
  | box x =>
    replace hc : w.cell? ⟨b, off, none⟩ = some (.int .i64 5) := hc
    have hp := partsOf_any 5 w
    rw [show partsOf 5 = 1 from rfl] at hp
    go_enter Tryz.func266, Tryz.ntmps266
    go_wp2_with fail
    refine hp.mono ?_; rintro e w' ⟨rfl, rfl⟩
    go_wp2_with fail
    refine (first_any _ ⟨5, 0⟩ x [] _ _ hv0 (by simp [Fm.enc])).mono ?_; rintro e w' ⟨v1, rfl, hv1, rfl⟩
    obtain ⟨p1, n1, c1, rfl⟩ := hv1.shape
    go_wp2_with fail
    go_ret
    exact ⟨_, rfl, NdsL.lit1 hv1, (Keeps.refl w).alloc _⟩
  | dia x =>
    replace hc : w.cell? ⟨b, off, none⟩ = some (.int .i64 6) := hc
    have hp := partsOf_any 6 w
    rw [show partsOf 6 = 1 from rfl] at hp
    go_enter Tryz.func266, Tryz.ntmps266
    go_wp2_with fail
    refine hp.mono ?_; rintro e w' ⟨rfl, rfl⟩
    go_wp2_with fail
    refine (first_any _ ⟨6, 0⟩ x [] _ _ hv0 (by simp [Fm.enc])).mono ?_; rintro e w' ⟨v1, rfl, hv1, rfl⟩
    obtain ⟨p1, n1, c1, rfl⟩ := hv1.shape
    go_wp2_with fail
    go_ret
    exact ⟨_, rfl, NdsL.lit1 hv1, (Keeps.refl w).alloc _⟩
theorem partsL_wf {t : Fm} (h : t.wf) : ∀ x ∈ partsL t, x.wf := by
  cases t <;> simp [partsL, Fm.wf] at h ⊢ <;> first | exact h | (intro x hx; rcases hx with rfl | rfl <;> simp_all) | simp_all
theorem partsL_len (t : Fm) : ∀ x ∈ partsL t, x.enc.length ≤ t.enc.length := by
  cases t <;> simp [partsL, Fm.enc] <;> omega
theorem partsL_two (t : Fm) : (partsL t).length ≤ 2 := by cases t <;> simp [partsL]
set_option maxRecDepth 20000 in
theorem partTexts_any (t : Fm) (hw : t.wf) (hl : t.enc.length ≤ 100000000) (v : Value) (w : World) (hv : Nds w v t.enc) :
    Calls Tryz.prog 251 #[v] w fun e w' => ∃ u ss, e = .returned u ∧ OwnS w' w.heap.size u ss ∧ Txts ss (partsL t) ∧ Keeps w w' := by
  have hP := hid (parts_any t v w hv)
  have hwf := hid (partsL_wf hw)
  have hln := hid (partsL_len t)
  have h2 := partsL_two t
  generalize hg : partsL t = G at *
  clear hg
  go_enter Tryz.func251, Tryz.ntmps251
  go_wp2_with fail
  refine hP.out.mono ?_; rintro e w1 ⟨v1, rfl, hv1, k1⟩
  obtain ⟨p, m, cap, rfl⟩ := NdsL.shapeL hv1
  have hm : m = G.length := by obtain ⟨_, _, e, _⟩ := hv1; cases e; simp
  have HM := hid hm; clear hm
  have hm2 : m ≤ 2 := by have := HM.out; omega
  go_wp2
  go_loopw [3, 9] (fun r i' wr => ∃ k : Nat, k ≤ m ∧ i' = .int .i64 k ∧ (∃ ss, OwnS wr w1.heap.size r ss ∧ Txts ss (G.take k)) ∧ Keeps w1 wr) (fun _ i _ => m - (intOf i).toNat)
  case atStart => exact ⟨0, by omega, rfl, ⟨[], OwnS.nil _ _, rfl⟩, Keeps.refl _⟩
  case round =>
    obtain ⟨k, hk, rfl, ⟨ss, hss, htx⟩, kw⟩ := hrel
    by_cases hlt : k < m
    · have hkG : k < G.length := by have := HM.out; omega
      have hlt' : (k : Int) < m := by omega
      obtain ⟨b, off, u1, hp, hcell, hu1⟩ := (NdsL.keeps hv1 kw).get k (by simpa using hkG)
      replace hu1 : Nds wr u1 G[k].enc := by simpa using hu1
      subst hp
      have hT := hid (text_any G[k] (hwf.out _ (List.getElem_mem _)) (by have := hln.out G[k] (List.getElem_mem _); omega) u1 wr hu1)
      obtain ⟨q1, n1, c1, rfl⟩ := hu1.shape
      have hsl : ss.length ≤ 2 := by have := htx.length; simp at this; have := HM.out; omega
      have hsz := k1.size
      have hsz2 := kw.size
      go_wp2_with fail
      refine hT.out.mono ?_; rintro e w2 ⟨s, rfl, hs, k2⟩
      have hsz3 := k2.size
      go_wp2_with (at_builtin; refine appS rfl (.tmp 13) (.tmp 16) rfl w1.heap.size _ ss rfl ((hss.keeps k2).keeps ((Keeps.refl w2).alloc _)) _ [s] rfl (Strs.lit1 w2 s) (by simp; omega) (by simp; omega) ?_; intro v3 w3 hv3 hg3 hr3)
      go_roundw
      case rel => exact ⟨k + 1, by omega, by go_num, ⟨_, hv3, by rw [← List.take_append_getElem hkG]; exact htx.append (by simp [Txts, hs])⟩, (((kw.trans k2).alloc _).grown hg3 (fun q hq => by have := hr3 q hq; omega))⟩
      case measure => simp [intOf]; omega
    · go_wp2
      go_ret
      have hkm : k = G.length := by have := HM.out; omega
      subst hkm
      exact ⟨_, _, rfl, hss.mono k1.size, by rw [List.take_length] at htx; exact htx, k1.trans kw⟩
end Go.Proofs.YtodeecmhcfbheaaGreat
