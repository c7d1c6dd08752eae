import Derived.Test.YtkkcfifnkcnceaaGreatHV5
import Derived.Test.YtkkcfifnkcnceaaGreatHVA
import Derived.Test.YtkkcfifnkcnceaaGreatHV90
/- slices.Contains at []string, off the shelf. -/
namespace Go.Proofs.YtkkcfifnkcnceaaGreat
open Go.RowKit
open scoped Classical in
theorem containsS_any (ss : List ByteArray) (x : ByteArray) (v : Value) (w : World) (hv : Strs w v ss) :
  Calls Tryz.prog 61 #[v, .string x] w fun e w' => e = .returned (.bool (decide (x ∈ ss))) ∧ w = w' := by
 obtain ⟨p, cap, rfl, h1, h2, hat, h3⟩ := hv.at
 have hd : decide (x ∈ ss) = Lib.containsS (ss.take ss.length) x := by
  rw [List.take_length, Bool.eq_iff_iff, Lib.containsS_iff]
  exact decide_eq_true_iff
 by_cases h0 : ss.length = 0
 ·obtain rfl : ss = [] := List.eq_nil_of_length_eq_zero h0
  refine (Tryz.slices_Contains_string_empty p cap x w).mono ?_
  rintro e w' ⟨rfl, rfl⟩
  exact ⟨by simp, rfl⟩
 ·obtain ⟨b, off, rfl, _⟩ := hat 0 (by simp [strCells]; omega)
  have hc : ∀ j, j < ss.length → w.cell? ⟨b, off + j, none⟩ = some (.string (ss.getD j ByteArray.empty)) := by
   intro j hj
   obtain ⟨b', off', hp, hc⟩ := hat j (by simpa [strCells] using hj)
   cases hp
   rw [hc]
   simp [strCells, List.getD_eq_getElem?_getD, hj]
  refine (Tryz.slices_Contains_string b off ss.length cap ss x w (Nat.le_refl _) (by omega) hc).mono ?_
  rintro e w' ⟨rfl, rfl⟩
  exact ⟨by rw [hd], rfl⟩
end Go.Proofs.YtkkcfifnkcnceaaGreat
namespace Go.Proofs.YtkkcfifnkcnceaaGreat
open Go.RowKit Go.Sort
set_option maxRecDepth 100000 in
set_option maxHeartbeats 1000000 in
theorem put_any (ss tt : List ByteArray) (v u : Value) (w : World) (hv : Strs w v ss) (hu : Strs w u tt) (hl : ss.length + tt.length ≤ 1000000000) :
  Calls Tryz.prog 64 #[v, u] w fun e w' => ∃ v', e = .returned v' ∧ OwnS w' w.heap.size v' (putL ss tt) ∧ Keeps w w' := by
 obtain ⟨p1, n1, c1, rfl⟩ : ∃ p n c, v = .slice p n c := by obtain ⟨p, c, e, _⟩ := hv.at; exact ⟨p, _, c, e⟩
 obtain ⟨p2, n2, c2, rfl⟩ : ∃ p n c, u = .slice p n c := by obtain ⟨p, c, e, _⟩ := hu.at; exact ⟨p, _, c, e⟩
 have kl := (Keeps.refl w).alloc (.cells #[.slice p1 n1 c1, .slice p2 n2 c2] 24)
 have hC := concatS_any [ss, tt] _ _ (StrL.lit2 hv hu) (by simp [fl]; omega)
 rw [show fl [ss, tt] [ss, tt].length = ss ++ tt from by simp [fl]] at hC
 have hbs : ((ss ++ tt).map bts).length ≤ 1000000000 := by simp; omega
 have HC := hid hC; clear hC
 go_enter Tryz.func64, Tryz.ntmps64
 go_wp2_with fail
 refine HC.out.mono ?_; rintro e w1 ⟨v1, rfl, hv1, k1⟩
 replace hv1 := hv1.mono kl.size
 have kw := kl.trans k1
 by_cases hn : v1 = .slice none 0 0
 ·subst hn
  have h0 : ss ++ tt = [] := by
   obtain ⟨p, c, e, _⟩ := At.of_own hv1
   injection e with _ e2 _
   exact List.eq_nil_of_length_eq_zero e2.symm
  have hp : putL ss tt = [] := by simp [putL, h0, sortB, Lib.compact, Lib.compactUpTo]
  have HP := hid hp; clear hp h0
  go_wp2_with fail
  refine (Tryz.slices_Sort_string_none none 0 w1).mono ?_; rintro e w' ⟨rfl, rfl⟩
  go_wp2_with fail
  refine (Tryz.slices_Compact_string_empty none 0 _).mono ?_; rintro e w' ⟨rfl, rfl⟩
  go_wp2_with fail
  go_ret
  exact ⟨_, rfl, by rw [HP.out]; exact OwnS.nil _ _, kw⟩
 ·have hown : w1.ownsRow w.heap.size 9 1 v1 (ss ++ tt).length (((ss ++ tt).map bts).map encStr) := by rw [← cells_enc]; exact hv1
  obtain ⟨g, cap, rfl, hbg, hgl, hncap, hcm, hlen, hH⟩ := Lib.holds_of_ownsRow hown hn
  have hcells := putL_cells ss tt
  have hlp : (putL ss tt).length = (sortB ((ss ++ tt).map bts)).length := by simp [putL]
  have HCE := hid hcells; clear hcells
  have HLP := hid hlp; clear hlp
  generalize hb : (ss ++ tt).map bts = bs at *
  generalize hnn : (ss ++ tt).length = n at *
  have hsort := Tryz.slices_Sort_string g 0 cap bs w1 hH hgl (by omega)
  rw [hlen] at hsort
  have HS := hid hsort; clear hsort
  have HO := hid hown; clear hown
  clear hH hv1 hb hnn hn
  have hncap2 : n ≤ cap := hncap
  go_wp2_with fail
  refine HS.out.mono ?_; rintro e w2 ⟨rfl, nn, os, rfl⟩
  have hH2 := sorted_holds (nn := nn) (os := os) HO.out hlen
  have hlm : (bs.mergeSort fun x y => decide (x ≤ y)).length = n := by rw [List.length_mergeSort]; exact hlen
  have hcomp := Tryz.slices_Compact_string g 0 cap (bs.mergeSort fun x y => decide (x ≤ y)) _ hH2 (by omega) (by omega)
  rw [hlm] at hcomp
  have HK := hid hcomp; clear hcomp hH2
  have HE := hid (fun q => sorted_own (w := w) (nn := nn) (q := q) (os := os) HO.out kw hbg hlen)
  generalize hw2 : grow (putRow encStr (Sort.ahead w1 nn) g 0 (bs.mergeSort fun x y => decide (x ≤ y)).toArray) os = w2 at *
  go_wp2_with fail
  refine HK.out.mono ?_; rintro e w3 ⟨rfl, q, rfl⟩
  obtain ⟨ho, hk⟩ := HE.out q
  go_wp2_with fail
  go_ret
  refine ⟨_, rfl, ?_, hk⟩
  unfold OwnS
  rw [HCE.out, HLP.out]
  exact ho
end Go.Proofs.YtkkcfifnkcnceaaGreat
