import Derived.Test.YtfmmajgkjkmghaaGreatHK3
import Derived.Test.YtfmmajgkjkmghaaGreatHPS
import Derived.Test.YtfmmajgkjkmghaaGreatHP6
import Derived.Test.YtfmmajgkjkmghaaGreatHM3
import Derived.Deep.RegionHeld3
import Derived.MapFrom
import Derived.Maps.OwnIn
import Derived.Test.YtfmmajgkjkmghaaGreatHVS
import Derived.Test.YtfmmajgkjkmghaaGreatHW7
import Derived.Lib.AppendZeros
import Derived.Sort.OwnSorted
import Derived.Sort.Grow
import Derived.Lib.OwnBridge
import Derived.Test.YtfmmajgkjkmghaaGreatHP3
import Derived.Lib.SliceRun
import Derived.BigQuiet
import Derived.Test.YtfmmajgkjkmghaaGreatHPP
import Derived.Carry
import Derived.Test.YtfmmajgkjkmghaaGreatHQG
import Derived.Test.YtfmmajgkjkmghaaGreatHPD
/- The translations and questions of translations on the program's side alone. -/
namespace Go.Proofs.YtfmmajgkjkmghaaGreat
open Go.RowKit
def TrI (F : Fm → Fm) (I : FuncId) (a : List Nd) : Prop := ∃ r c, r.length ≤ 40 ∧ TrIs F a r c ∧ ∀ v w, Nds w v a → Calls Tryz.prog I #[v] w fun e w' => ∃ u, e = .returned (.tuple #[u, .int .i64 c]) ∧ OwnN w' w.heap.size u r ∧ Keeps w w'
set_option maxHeartbeats 1000000 in
theorem implOuterBox_is (a : List Nd) : TrI outr 16 a := by
 by_cases h : plainErr a = 0
 ·obtain ⟨t, hw, rfl, hp, hl⟩ := plain_tree h
  have HT := hid (transOuterBox_ok t hp (by omega) h)
  have H := hid h; clear h
  have bx := outr_len t
  refine ⟨(madeL (outr t).enc).1, (madeL (outr t).enc).2, madeL_len _, .inl ⟨t, hw, rfl, hp, hl, H.out, rfl, rfl⟩, fun v w hv => ?_⟩
  ·go_enter Tryz.func16, Tryz.ntmps16
   go_wp2_with fail
   refine (HT.out _ _ hv).mono ?_; rintro e w1 ⟨u, rfl, hu, k1⟩
   go_wp2_with fail
   go_ret2
   exact ⟨_, rfl, hu, k1⟩
 ·have HT := hid (transOuterBox_err a h)
  have h' : (plainErr a != 0) = true := by simp [h]
  have H := hid h; clear h
  refine ⟨[], plainErr a, by simp, .inr ⟨H.out, rfl, rfl⟩, fun v w hv => ?_⟩
  ·go_enter Tryz.func16, Tryz.ntmps16
   go_wp2_with fail
   refine (HT.out _ _ hv).mono ?_; rintro e w1 ⟨u, rfl, hu, k1⟩
   go_wp2_with fail
   go_ret2
   exact ⟨_, rfl, hu, k1⟩
end Go.Proofs.YtfmmajgkjkmghaaGreat
namespace Go.Proofs.YtfmmajgkjkmghaaGreat
open Go.RowKit
end Go.Proofs.YtfmmajgkjkmghaaGreat
namespace Go.Proofs.YtfmmajgkjkmghaaGreat
open Go.RowKit
def OwnM (w : World) (B : Nat) (va vb : Value) (a b : List Int) : Prop := OwnI w B va a ∧ OwnI w B vb b ∧ Sep va vb
end Go.Proofs.YtfmmajgkjkmghaaGreat
namespace Go.Proofs.YtfmmajgkjkmghaaGreat
open Go.RowKit
def RetVM (w : World) (n : Int) (a b : List Int) (c : Int) (e : Ending) (w' : World) : Prop :=
 ∃ va vb, e = .returned (.tuple #[.agg #[.int .i64 n, va, vb], .int .i64 c]) ∧ OwnM w' w.heap.size va vb a b ∧ Keeps w w'
theorem OwnM.nil (w : World) (B : Nat) : OwnM w B (.slice none 0 0) (.slice none 0 0) [] [] := ⟨OwnI.nil _ _, OwnI.nil _ _, fun k h => by cases h⟩
set_option maxRecDepth 20000 in
theorem l05Make_any (a : List Int) (v : Value) (w : World) (hv : Ints w v a) : Calls Tryz.prog 51 #[v] w (RetP w a) := by
 have hv0 := hv
 obtain ⟨p, cap, rfl, hle, hmx, hr, hlen⟩ := hv
 unfold maxLen at hmx
 have k1 := (Keeps.refl w).alloc (.cells #[.int .i64 0, .slice none 0 0] 35)
 go_enter Tryz.func51, Tryz.ntmps51
 go_wp2_with fail
 refine (l01Own_any a _ _ (hv0.keeps k1)).mono ?_
 rintro e w2 ⟨v2, rfl, hv2, k2⟩
 obtain ⟨p2, c2, rfl, _⟩ := hv2.ints hlen
 obtain ⟨hc2, hf2⟩ := k2.both
 go_wp2_with fail
 refine bodyPost_ret (v := .agg #[.int .i64 a.length, .slice p2 a.length c2]) (by simp [results, Tryz.results51, go_sem, hc2]) rfl ?_
 have hlt : w.heap.size < (w.alloc (.cells #[.int .i64 0, .slice none 0 0] 35)).heap.size := by simp
 exact ⟨_, rfl, ((hv2.setBelow hlt _).setBelow hlt _).mono (by simp), ((k1.trans k2).setCell (Nat.le_refl _) _).setCell (Nat.le_refl _) _⟩
set_option maxRecDepth 20000 in
set_option maxHeartbeats 2000000 in
theorem implBoxValues_any (n : Int) (a vs : List Int) (v u : Value) (w : World) (hv : Ints w v a) (hu : Ints w u vs) :
  Calls Tryz.prog 11 #[.agg #[.int .i64 n, v], u] w (RetVM w (if isVal n a vs then a.length else 0) (if isVal n a vs then a else []) (if isVal n a vs then vs else []) (if isVal n a vs then 0 else 1)) := by
 have kA := ((Keeps.refl w).alloc (.cells #[.int .i64 n, v] 31)).alloc (.cells #[.int .i64 0, .slice none 0 0, .slice none 0 0] 37)
 have HP := hid (fun w1 (k : Keeps w w1) => isValuation_any n a vs v u w1 (hv.keeps k) (hu.keeps k))
 obtain ⟨c0, c1⟩ := BoxF.made w n v 31
 have la : a.length ≤ 2147483648 := by obtain ⟨_, _, _, _, _, _, h⟩ := hv; exact h
 have lu : vs.length ≤ 2147483648 := by obtain ⟨_, _, _, _, _, _, h⟩ := hu; exact h
 cases h1 : isVal n a vs
 ·rw [h1] at HP
  simp only [Bool.false_eq_true, if_false]
  clear h1
  obtain ⟨p, cap, rfl, _⟩ := hv
  obtain ⟨q, cap2, rfl, _⟩ := hu
  go_enter Tryz.func11, Tryz.ntmps11
  go_wp2_with fail
  refine (HP.out _ kA).mono ?_; rintro e w2 ⟨rfl, k2⟩
  have e0 : w2.cell? ⟨w.heap.size + 1, 0, none⟩ = some (.int .i64 0) := k2.cell (by simp)
  have e1 : w2.cell? ⟨w.heap.size + 1, 1, none⟩ = some (.slice none 0 0) := k2.cell (by simp)
  have e2 : w2.cell? ⟨w.heap.size + 1, 2, none⟩ = some (.slice none 0 0) := k2.cell (by simp)
  obtain ⟨hc2, hf2⟩ := k2.both
  go_wp2_with fail
  refine bodyPost_ret (v := .tuple #[.agg #[.int .i64 0, .slice none 0 0, .slice none 0 0], .int .i64 1]) (by simp [results, Tryz.results11, go_sem, e0, e1, e2]) rfl ?_
  exact ⟨_, _, rfl, OwnM.nil _ _, (((kA.trans k2).setCell (by simp) _).setCell (by simp) _).setCell (by simp) _⟩
 ·rw [h1] at HP
  simp only [if_true]
  clear h1
  have hv0 := hv
  have hu0 := hu
  obtain ⟨p, cap, rfl, _, hmx, _⟩ := hv
  obtain ⟨q, cap2, rfl, _, hmx2, _⟩ := hu
  unfold maxLen at hmx hmx2
  have HV0 := hid hv0; clear hv0
  have HU0 := hid hu0; clear hu0
  go_enter Tryz.func11, Tryz.ntmps11
  go_wp2_with fail
  refine (HP.out _ kA).mono ?_; rintro e w2 ⟨rfl, k2⟩
  have kB := kA.trans k2
  have e0 : w2.cell? ⟨w.heap.size + 1, 0, none⟩ = some (.int .i64 0) := k2.cell (by simp)
  have e1 : w2.cell? ⟨w.heap.size + 1, 1, none⟩ = some (.slice none 0 0) := k2.cell (by simp)
  have e2 : w2.cell? ⟨w.heap.size + 1, 2, none⟩ = some (.slice none 0 0) := k2.cell (by simp)
  have z1 : w2.cell? ⟨w.heap.size, 1, none⟩ = some (.slice p a.length cap) := k2.cell (by simp)
  obtain ⟨hc2, hf2⟩ := k2.both
  have hg : w.heap.size + 1 < w2.heap.size := World.block_lt_of_cell? _ _ e0
  have hz2 := kB.size
  go_wp2_with fail
  refine (cloneI_any a _ _ (HV0.out.keeps kB)).mono ?_; rintro e w3 ⟨va, rfl, hva, k3⟩
  obtain ⟨pa, ma, qa, rfl⟩ := hva.shape0
  go_wp2_with fail
  refine (frameOf_any a _ _ (hva.ints la)).mono ?_; rintro e w4 ⟨rfl, k4⟩
  go_wp2_with fail
  refine (cloneI_any vs _ _ (HU0.out.keeps (kB.trans (k3.trans k4)))).mono ?_; rintro e w5 ⟨vb, rfl, hvb, k5⟩
  have hsep : Sep (.slice pa ma qa) vb := Sep.of (hva.keeps k4) hvb (Nat.le_refl _)
  obtain ⟨pb, mb, qb, rfl⟩ := hvb.shape0
  have k45 := k3.trans (k4.trans k5)
  replace e0 := k45.cell e0
  replace e1 := k45.cell e1
  replace e2 := k45.cell e2
  have hva5 := hva.keeps (k4.trans k5)
  have hs3 := k3.size
  have hs4 := k4.size
  obtain ⟨hc5, hf5⟩ := k45.both
  clear hva z1
  go_wp2_with fail
  refine bodyPost_ret (v := .tuple #[.agg #[.int .i64 a.length, .slice pa ma qa, .slice pb mb qb], .int .i64 0]) (by simp [results, Tryz.results11, go_sem, e0, e1, e2]) rfl ?_
  exact ⟨_, _, rfl, ⟨(((hva5.setBelow hg _).setBelow hg _).setBelow hg _).mono hz2, (((hvb.setBelow (by omega) _).setBelow (by omega) _).setBelow (by omega) _).mono (by omega), hsep⟩, (((kB.trans k45).setCell (by simp) _).setCell (by simp) _).setCell (by simp) _⟩
end Go.Proofs.YtfmmajgkjkmghaaGreat
