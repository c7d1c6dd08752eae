import Derived.Test.YtkkcfifnkcnceaaGreatHU1
import Derived.BigQuiet
import Derived.Test.YtkkcfifnkcnceaaGreatHW7
import Derived.Test.YtkkcfifnkcnceaaGreatHMV
import Derived.Test.YtkkcfifnkcnceaaGreatHMJ
import Derived.Test.YtkkcfifnkcnceaaGreatHMQ
import Derived.Test.YtkkcfifnkcnceaaGreatHRP
import Derived.Deep.CutBlock
import Derived.Deep.DeepCutAuto
import Derived.Test.YtkkcfifnkcnceaaGreatHNH
import Derived.Deep.AppendLies
import Derived.Test.YtkkcfifnkcnceaaGreatHFR
import Derived.Test.YtkkcfifnkcnceaaGreatHRB
import Derived.Test.YtkkcfifnkcnceaaGreatHPY
import Derived.Deep.RegionHeld3
/- The draw of a rule's arguments: DrawRulePremises. -/
namespace Go.Proofs.YtkkcfifnkcnceaaGreat
open Go.RowKit
set_option maxRecDepth 20000 in
set_option maxHeartbeats 1000000 in
theorem l11UnionN_any (ss tt : List ByteArray) (v u : Value) (w : World) (hv : Strs w v ss) (hu : Strs w u tt) (hl : ss.length + tt.length ≤ 1000000) :
  Calls Tryz.prog 21 #[v, u] w (RetO w w.heap.size (uniS ss tt)) := by
 have HC := hid (l11Copy_any ss v w hv (by omega))
 have HU := hid hu
 obtain ⟨p, c, rfl, _⟩ := hv.shape
 obtain ⟨q, c2, rfl, hle, hmx, _⟩ := hu.shape
 unfold maxLen at hmx
 clear hv hu
 go_enter Tryz.func21, Tryz.ntmps21
 go_wp2_with fail
 refine HC.out.mono ?_; rintro e w2 ⟨b, n, c3, rfl, hv2, k2⟩
 have HV2 := hid hv2; clear hv2
 have HT : Hid (uniS ss (tt.take tt.length) = uniS ss tt) := hid (by rw [List.take_length])
 go_wp2
 go_loopw [5, 6] (fun o i' wr => ∃ (i : Nat) (b' : Addr) (n' c' : Nat), i ≤ tt.length ∧ i' = .int .i64 i ∧ o = .slice (some b') n' c' ∧ OwnS wr w.heap.size (.slice (some b') n' c') (uniS ss (tt.take i)) ∧ (uniS ss (tt.take i)).length ≤ ss.length + i ∧ Keeps w wr) (fun _ i' _ => tt.length - (intOf i').toNat)
 case atStart => exact ⟨0, b, n, c3, by omega, rfl, rfl, by simpa [uniS] using HV2.out, by simp [uniS], k2⟩
 case round =>
  obtain ⟨i, b', n', c', hi, rfl, rfl, hown, hlen, kw⟩ := hrel
  clear HV2
  have HO := hid hown; clear hown
  by_cases hlt : i < tt.length
  ·have hlt' : (i : Int) < tt.length := by omega
   obtain ⟨b1, o1, rfl, h1⟩ := (HU.out.keeps kw).get i hlt
   have HN : Hid (uniS ss (tt.take (i + 1)) = insS (uniS ss (tt.take i)) tt[i]) := hid (by
    unfold uniS
    rw [List.take_succ_eq_append_getElem hlt, List.foldl_append]
    rfl)
   generalize uniS ss (tt.take i) = r at *
   obtain ⟨g, cg, eg⟩ := HO.out.blk (by simp)
   obtain ⟨e1, e2, e3⟩ : b' = ⟨g, 0, none⟩ ∧ n' = r.length ∧ c' = cg := by injection eg with h1 h2 h3; exact ⟨Option.some.inj h1, h2, h3⟩
   subst e1
   have HI := hid (l02InsertS_any r g 0 n' c' tt[i] w.heap.size wr HO.out (by omega) kw.size)
   have hln := (insS_len r tt[i]).1
   clear eg e2 e3
   generalize insS r tt[i] = r2 at *
   generalize tt[i] = x at *
   go_wp2_with fail
   refine HI.out.mono ?_; rintro e w3 ⟨b4, n4, c4, rfl, hv4, k4⟩
   go_wp2_with fail
   go_roundw
   case rel => exact ⟨i + 1, b4, n4, c4, by omega, by go_num, rfl, by rw [HN.out]; exact hv4, by rw [HN.out]; omega, kw.trans k4⟩
   case measure => simp [intOf]; omega
  ·obtain rfl : i = tt.length := by omega
   have hlt' : ¬ ((tt.length : Int) < tt.length) := by omega
   have h := HO.out
   rw [HT.out] at h
   go_wp2
   go_ret
   exact ⟨_, _, _, rfl, h, kw⟩
end Go.Proofs.YtkkcfifnkcnceaaGreat
namespace Go.Proofs.YtkkcfifnkcnceaaGreat
open Go.RowKit
end Go.Proofs.YtkkcfifnkcnceaaGreat
