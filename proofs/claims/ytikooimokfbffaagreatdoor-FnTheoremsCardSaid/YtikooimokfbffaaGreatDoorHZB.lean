import Derived.Test.YtikooimokfbffaaGreatDoorHBase
import Derived.Test.YtikooimokfbffaaGreatDoorHHE
/- Plain mathematics: the first of all substitutions by candidates for which a condition holds; counting them. No program in sight. -/
namespace Go.Proofs.YtikooimokfbffaaGreatDoor
end Go.Proofs.YtikooimokfbffaaGreatDoor
namespace Go.Proofs.YtikooimokfbffaaGreatDoor
open Go.RowKit
def vmL (l : List (List Nd)) : Nat := l.foldl (fun m a => m ||| vm a) 0
theorem vmL_take (l : List (List Nd)) (k : Nat) (h : k < l.length) : vmL (l.take (k + 1)) = vmL (l.take k) ||| vm l[k] := by
 unfold vmL; rw [List.take_succ_eq_append_getElem h, List.foldl_append]; rfl
theorem vm_64 {a : List Nd} (h : a.all okNd = true) : vm a < 64 := by
 have := vm_lt h a.length (Nat.le_refl _)
 rwa [List.take_length] at this
theorem vmL_lt {l : List (List Nd)} (h : ∀ a ∈ l, a.all okNd = true) : ∀ k, k ≤ l.length → vmL (l.take k) < 64
 | 0, _ => by simp [vmL]
 | k + 1, hk => by
  rw [vmL_take l k (by omega)]
  exact Nat.or_lt_two_pow (n := 6) (vmL_lt h k (by omega)) (vm_64 (h _ (List.getElem_mem (by omega))))
theorem or64 : ∀ (m n : Fin 64), bits BinOp.or IntKind.i64 ((m : Nat) : Int) ((n : Nat) : Int) = (((m : Nat) ||| (n : Nat) : Nat) : Int) := by decide +kernel
set_option maxRecDepth 20000 in
set_option maxHeartbeats 1000000 in
theorem variablesIn_any (l : List (List Nd)) (v : Value) (w : World) (hv : NdsL w v l) (ha : ∀ a ∈ l, a.all okNd = true) : Calls Tryz.prog 36 #[v] w (RetI w (mem (vmL l))) := by
 have hv0 := hv
 obtain ⟨p, cap, rfl, hle, hmx, hlen, _⟩ := hv
 unfold maxLen at hmx
 have HA := hid ha
 have HL := hid (vmL_lt ha); clear ha
 have HM := hid (fun w2 => membersOf_any (vmL l) w2 (by have := HL.out l.length (Nat.le_refl _); rwa [List.take_length] at this))
 go_enter Tryz.func36, Tryz.ntmps36
 go_wp2
 go_loopw [3, 8] (fun c i' wr => ∃ k : Nat, k ≤ l.length ∧ i' = .int .i64 k ∧ c = .int .i64 (vmL (l.take k)) ∧ Keeps w wr) (fun _ i _ => l.length - (intOf i).toNat)
 case atStart => exact ⟨0, by omega, rfl, rfl, Keeps.refl w⟩
 case round =>
  obtain ⟨k, hk, rfl, rfl, kw⟩ := hrel
  by_cases hlt : k < l.length
  ·have hlt' : (k : Int) < l.length := by omega
   obtain ⟨b, off, u, rfl, hc, hu⟩ := (NdsL.keeps hv0 kw).get k hlt
   obtain ⟨pu, nu, cu, rfl⟩ := hu.shape
   have hok := HA.out _ (List.getElem_mem hlt)
   have hst := vmL_take l k hlt
   have hor := or64 ⟨vmL (l.take k), HL.out k hk⟩ ⟨vm l[k], vm_64 hok⟩
   simp only at hor
   rw [← hst] at hor
   have HV := hid (variableMask_any l[k] _ wr hu hok)
   have HO := hid hor; clear hor hst hu hok hv0
   generalize vm l[k] = y at *
   generalize vmL (l.take k) = x at *
   go_wp2_with fail
   refine HV.out.mono ?_; rintro e w2 ⟨rfl, k2⟩
   go_wp2_with fail
   go_roundw
   case rel => exact ⟨k + 1, by omega, by go_num, by rw [HO.out], kw.trans k2⟩
   case measure => simp [intOf]; omega
  ·obtain rfl : k = l.length := by omega
   have hlt' : ¬ (l.length : Int) < l.length := by omega
   rw [List.take_length]
   go_wp2_with fail
   refine (HM.out _).mono ?_; rintro e w2 ⟨v2, rfl, hv2, k2⟩
   go_wp2_with fail
   go_ret
   exact ⟨_, rfl, hv2.mono kw.size, kw.trans k2⟩
end Go.Proofs.YtikooimokfbffaaGreatDoor
