import Derived.Test.YtikooimokfbffaaGreatDoorHPD
import Derived.Test.YtikooimokfbffaaGreatDoorHQ3
import Derived.Test.YtikooimokfbffaaGreatDoorHQU
import Derived.Test.YtikooimokfbffaaGreatDoorHQA
import Derived.Lib.LaidTab
/- Depths of an order: the program's side. -/
namespace Go.Proofs.YtikooimokfbffaaGreatDoor
open Go.RowKit
end Go.Proofs.YtikooimokfbffaaGreatDoor
namespace Go.Proofs.YtikooimokfbffaaGreatDoor
open Go.RowKit
end Go.Proofs.YtikooimokfbffaaGreatDoor
namespace Go.Proofs.YtikooimokfbffaaGreatDoor
open Go.RowKit
end Go.Proofs.YtikooimokfbffaaGreatDoor
namespace Go.Proofs.YtikooimokfbffaaGreatDoor
open Go.RowKit
def names9 : List ByteArray := [⟨#[66, 68, 50]⟩, ⟨#[66, 68, 51]⟩, ⟨#[66, 87, 50]⟩, ⟨#[66, 87, 51]⟩, ⟨#[67, 76]⟩, ⟨#[73, 110, 116]⟩, ⟨#[75, 67]⟩, ⟨#[76, 67]⟩, ⟨#[83, 109, 76]⟩]
def LaidS (g : Nat) (ss : List ByteArray) (w : World) : Prop := ∀ i (h : i < ss.length), w.cell? ⟨g, i, none⟩ = some (.string ss[i])
theorem LaidS.keeps {g : Nat} {ss : List ByteArray} {w w' : World} (h : LaidS g ss w) (k : Keeps w w') : LaidS g ss w' := fun i hi => k.cell (h i hi)
theorem cells_of_strs {H : Type} {enc : TypeId × Value → H} {P : Program} {w : World} {base : Nat} {sp : Nat → Bool} {held : Bool} {fuel : Nat} {t e : TypeId} {n : Nat} {cs : List Value} {ss : List (List UInt8)} {p : List MemPlace}
  (ht : P.underlying t = some (.array n e)) (he : P.underlying e = some .string) (hce : P.cellsOf e = 1) (hct : P.cellsOf t = n)
  (h : DataW.trod enc P w base sp held fuel t cs = some (.agg (ss.map fun s => .lit (.string s)), p)) : ∀ i (hi : i < ss.length), cs[i]? = some (.string ⟨ss[i].toArray⟩) := by
 intro i hi
 cases fuel with
 | zero => simp [DataW.trod] at h
 | succ fuel =>
  simp only [DataW.trod, ht, hce, hct, Nat.mul_one] at h
  split at h
  ·rename_i hl
   obtain ⟨xs, hm, hx⟩ := Option.map_eq_some_iff.1 h
   have hxs : xs.map (·.1) = ss.map fun s => (DataW.lit (.string s) : DataW H) := by
    have := congrArg Prod.fst hx
    simpa using this
   have hxl : xs.length = n := by have := Lib.mapM_length hm; rw [this]; exact List.length_range
   have hsl : ss.length = n := by
    have := congrArg List.length hxs
    simp at this
    omega
   obtain ⟨b, hb, hf⟩ := Lib.mapM_at hm i i (by rw [List.getElem?_range (by omega)])
   obtain ⟨s, hc, rfl, _⟩ := DataW.trod_string he hf
   have h1 : cs[i]? = some (.string s) := by
    have := congrArg (·[0]?) hc
    simpa [List.getElem?_take, List.getElem?_drop] using this
   have h2 : (xs.map (·.1))[i]? = some (DataW.lit (.string s.data.toList) : DataW H) := by simp [hb]
   rw [hxs] at h2
   simp [hi] at h2
   rw [h1, h2]
  ·cases h
theorem laidS_of_head {P : Program} {W : World} {name : String} {ss : List (List UInt8)} {rest : List (String × DataW Unit)} {g : Nat} {t e : TypeId} {n : Nat}
  (hg : P.globalNamed name = some g) (hty : (P.globals[g]?).map (·.type) = some t) (ht : P.underlying t = some (.array n e)) (he : P.underlying e = some .string) (hce : P.cellsOf e = 1) (hct : P.cellsOf t = n)
  (h : laidMet P ((name, .agg (ss.map fun s => .lit (.string s))) :: rest) W) : ∀ i (hi : i < ss.length), W.cell? ⟨g, i, none⟩ = some (.string ⟨ss[i].toArray⟩) := by
 obtain ⟨ps, ⟨g', t', cs, fuel, p, q, hg', ht', hvar, hd, _, _⟩, _⟩ := h
 obtain rfl := Option.some.inj (hg.symm.trans hg')
 obtain rfl := Option.some.inj (hty.symm.trans ht')
 intro i hi
 have h1 := cells_of_strs ht he hce hct hd i hi
 have := World.var?_cell hg hvar i
 rw [this]
 simpa using h1
set_option maxRecDepth 100000 in
theorem l30Names_any (w : World) : Calls Tryz.prog 70 #[] w fun e w' => ∃ v, e = .returned v ∧ Strs w' v names9 ∧ Keeps w w' := by
 go_enter Tryz.func70, Tryz.ntmps70
 go_wp2
 go_ret
 exact ⟨_, rfl, Strs.lit (w := w) names9 (by simp [names9]), (Keeps.refl w).alloc _⟩
end Go.Proofs.YtikooimokfbffaaGreatDoor
namespace Go.Proofs.YtikooimokfbffaaGreatDoor
open Go.RowKit
def findS (ss : List ByteArray) (name : ByteArray) : Int := idxOf (fun s => s.toList == name.toList) ss 0
theorem idxOf_range {α : Type} (pr : α → Bool) (l : List α) : ∀ k, idxOf pr l k = -1 ∨ ∃ j, j < l.length ∧ idxOf pr l k = ((k + j : Nat) : Int) := by
 induction l with
 | nil => intro k; exact .inl rfl
 | cons x l ih =>
  intro k
  unfold idxOf
  split
  ·exact .inr ⟨0, by simp, rfl⟩
  ·rcases ih (k + 1) with h | ⟨j, hj, h⟩
   ·exact .inl h
   ·exact .inr ⟨j + 1, by simpa using hj, by rw [h]; congr 1; omega⟩
set_option maxRecDepth 20000 in
set_option maxHeartbeats 1000000 in
theorem l09Find_any (ss : List ByteArray) (name : ByteArray) (v : Value) (w : World) (hv : Strs w v ss) :
  Calls Tryz.prog 69 #[v, .string name] w fun e w' => e = .returned (.int .i64 (findS ss name)) ∧ w = w' := by
 obtain ⟨p, cap, rfl, hle, hmx, hlen⟩ := hv.shape
 unfold maxLen at hmx
 have hV := hid hv; clear hv
 go_enter Tryz.func69, Tryz.ntmps69
 go_wp2
 go_loop [4, 5] (fun r i' => ∃ i : Nat, i ≤ ss.length ∧ i' = .int .i64 i ∧ r = .int .i64 0 ∧ findS ss name = idxOf (fun s => s.toList == name.toList) (ss.drop i) i) (fun _ i => ss.length - (intOf i).toNat)
 case atStart => exact ⟨0, by omega, rfl, rfl, rfl⟩
 case round =>
  obtain ⟨i, hi, rfl, rfl, hf⟩ := hrel
  have HF := hid hf; clear hf
  by_cases hlt : i < ss.length
  ·obtain ⟨b, off, rfl, hc⟩ := hV.out.get i hlt
   have hlt' : (i : Int) < ss.length := by omega
   cases he : (ss[i].toList == name.toList)
   ·go_wp2
    go_round
    case rel => exact ⟨i + 1, by omega, by go_num, rfl, by rw [HF.out, idxOf_drop _ _ _ hlt, he]; rfl⟩
    case measure => simp [intOf]; omega
   ·go_wp2
    go_ret
    exact ⟨ret_int (by rw [HF.out, idxOf_drop _ _ _ hlt, he]; rfl), rfl⟩
  ·go_wp2
   go_ret
   exact ⟨ret_int (by rw [HF.out, idxOf_end _ _ _ (by omega)]), rfl⟩
set_option maxRecDepth 20000 in
set_option maxHeartbeats 1000000 in
theorem intermediateAt_any (name : ByteArray) (w : World) (hL : LaidS 1 names9 w) :
  Calls Tryz.prog 34 #[.string name] w fun e w' => e = .returned (.int .i64 (findS names9 name)) ∧ w = w' := by
 have c0 := hL 0 (by decide)
 have c1 := hL 1 (by decide)
 have c2 := hL 2 (by decide)
 have c3 := hL 3 (by decide)
 have c4 := hL 4 (by decide)
 have c5 := hL 5 (by decide)
 have c6 := hL 6 (by decide)
 have c7 := hL 7 (by decide)
 have c8 := hL 8 (by decide)
 clear hL
 simp only [names9, List.getElem_cons_zero, List.getElem_cons_succ] at c0 c1 c2 c3 c4 c5 c6 c7 c8
 go_enter Tryz.func34, Tryz.ntmps34
 go_wp2
 go_loop [2, 6] (fun r i' => ∃ i : Nat, i ≤ 9 ∧ i' = .int .i64 i ∧ r = .int .i64 0 ∧ findS names9 name = idxOf (fun s => s.toList == name.toList) (names9.drop i) i) (fun _ i => 9 - (intOf i).toNat)
 case atStart => exact ⟨0, by omega, rfl, rfl, rfl⟩
 case round =>
  obtain ⟨i, hi, rfl, rfl, hf⟩ := hrel
  have HF := hid hf; clear hf
  have hi9 : i = 0 ∨ i = 1 ∨ i = 2 ∨ i = 3 ∨ i = 4 ∨ i = 5 ∨ i = 6 ∨ i = 7 ∨ i = 8 ∨ i = 9 := by omega
  rcases hi9 with rfl | rfl | rfl | rfl | rfl | rfl | rfl | rfl | rfl | rfl
  ·have hix : (Instr.index 80 (.agg #[.string ⟨#[66, 68, 50]⟩, .string ⟨#[66, 68, 51]⟩, .string ⟨#[66, 87, 50]⟩, .string ⟨#[66, 87, 51]⟩, .string ⟨#[67, 76]⟩, .string ⟨#[73, 110, 116]⟩, .string ⟨#[75, 67]⟩, .string ⟨#[76, 67]⟩, .string ⟨#[83, 109, 76]⟩]) (.int .i64 0)).run Tryz.prog w = .ok (.string ⟨#[66, 68, 50]⟩) w := by kernel_rfl
   have htl : (⟨#[66, 68, 50]⟩ : ByteArray).toList = [66, 68, 50] := by simp
   cases he : (([66, 68, 50] : List UInt8) == name.toList)
   ·go_wp2
    go_round
    case rel => exact ⟨1, by omega, by first | rfl | go_num, rfl, by rw [HF.out, idxOf_drop _ _ _ (show 0 < names9.length by decide)]; rw [show names9[0]'(show 0 < names9.length by decide) = ⟨#[66, 68, 50]⟩ from rfl, htl, he]; rfl⟩
    case measure => simp [intOf]
   ·go_wp2
    go_ret
    exact ⟨ret_int (by rw [HF.out, idxOf_drop _ _ _ (show 0 < names9.length by decide)]; rw [show names9[0]'(show 0 < names9.length by decide) = ⟨#[66, 68, 50]⟩ from rfl, htl, he]; rfl), rfl⟩
  ·have hix : (Instr.index 80 (.agg #[.string ⟨#[66, 68, 50]⟩, .string ⟨#[66, 68, 51]⟩, .string ⟨#[66, 87, 50]⟩, .string ⟨#[66, 87, 51]⟩, .string ⟨#[67, 76]⟩, .string ⟨#[73, 110, 116]⟩, .string ⟨#[75, 67]⟩, .string ⟨#[76, 67]⟩, .string ⟨#[83, 109, 76]⟩]) (.int .i64 1)).run Tryz.prog w = .ok (.string ⟨#[66, 68, 51]⟩) w := by kernel_rfl
   have htl : (⟨#[66, 68, 51]⟩ : ByteArray).toList = [66, 68, 51] := by simp
   cases he : (([66, 68, 51] : List UInt8) == name.toList)
   ·go_wp2
    go_round
    case rel => exact ⟨2, by omega, by first | rfl | go_num, rfl, by rw [HF.out, idxOf_drop _ _ _ (show 1 < names9.length by decide)]; rw [show names9[1]'(show 1 < names9.length by decide) = ⟨#[66, 68, 51]⟩ from rfl, htl, he]; rfl⟩
    case measure => simp [intOf]
   ·go_wp2
    go_ret
    exact ⟨ret_int (by rw [HF.out, idxOf_drop _ _ _ (show 1 < names9.length by decide)]; rw [show names9[1]'(show 1 < names9.length by decide) = ⟨#[66, 68, 51]⟩ from rfl, htl, he]; rfl), rfl⟩
  ·have hix : (Instr.index 80 (.agg #[.string ⟨#[66, 68, 50]⟩, .string ⟨#[66, 68, 51]⟩, .string ⟨#[66, 87, 50]⟩, .string ⟨#[66, 87, 51]⟩, .string ⟨#[67, 76]⟩, .string ⟨#[73, 110, 116]⟩, .string ⟨#[75, 67]⟩, .string ⟨#[76, 67]⟩, .string ⟨#[83, 109, 76]⟩]) (.int .i64 2)).run Tryz.prog w = .ok (.string ⟨#[66, 87, 50]⟩) w := by kernel_rfl
   have htl : (⟨#[66, 87, 50]⟩ : ByteArray).toList = [66, 87, 50] := by simp
   cases he : (([66, 87, 50] : List UInt8) == name.toList)
   ·go_wp2
    go_round
    case rel => exact ⟨3, by omega, by first | rfl | go_num, rfl, by rw [HF.out, idxOf_drop _ _ _ (show 2 < names9.length by decide)]; rw [show names9[2]'(show 2 < names9.length by decide) = ⟨#[66, 87, 50]⟩ from rfl, htl, he]; rfl⟩
    case measure => simp [intOf]
   ·go_wp2
    go_ret
    exact ⟨ret_int (by rw [HF.out, idxOf_drop _ _ _ (show 2 < names9.length by decide)]; rw [show names9[2]'(show 2 < names9.length by decide) = ⟨#[66, 87, 50]⟩ from rfl, htl, he]; rfl), rfl⟩
  ·have hix : (Instr.index 80 (.agg #[.string ⟨#[66, 68, 50]⟩, .string ⟨#[66, 68, 51]⟩, .string ⟨#[66, 87, 50]⟩, .string ⟨#[66, 87, 51]⟩, .string ⟨#[67, 76]⟩, .string ⟨#[73, 110, 116]⟩, .string ⟨#[75, 67]⟩, .string ⟨#[76, 67]⟩, .string ⟨#[83, 109, 76]⟩]) (.int .i64 3)).run Tryz.prog w = .ok (.string ⟨#[66, 87, 51]⟩) w := by kernel_rfl
   have htl : (⟨#[66, 87, 51]⟩ : ByteArray).toList = [66, 87, 51] := by simp
   cases he : (([66, 87, 51] : List UInt8) == name.toList)
   ·go_wp2
    go_round
    case rel => exact ⟨4, by omega, by first | rfl | go_num, rfl, by rw [HF.out, idxOf_drop _ _ _ (show 3 < names9.length by decide)]; rw [show names9[3]'(show 3 < names9.length by decide) = ⟨#[66, 87, 51]⟩ from rfl, htl, he]; rfl⟩
    case measure => simp [intOf]
   ·go_wp2
    go_ret
    exact ⟨ret_int (by rw [HF.out, idxOf_drop _ _ _ (show 3 < names9.length by decide)]; rw [show names9[3]'(show 3 < names9.length by decide) = ⟨#[66, 87, 51]⟩ from rfl, htl, he]; rfl), rfl⟩
  ·have hix : (Instr.index 80 (.agg #[.string ⟨#[66, 68, 50]⟩, .string ⟨#[66, 68, 51]⟩, .string ⟨#[66, 87, 50]⟩, .string ⟨#[66, 87, 51]⟩, .string ⟨#[67, 76]⟩, .string ⟨#[73, 110, 116]⟩, .string ⟨#[75, 67]⟩, .string ⟨#[76, 67]⟩, .string ⟨#[83, 109, 76]⟩]) (.int .i64 4)).run Tryz.prog w = .ok (.string ⟨#[67, 76]⟩) w := by kernel_rfl
   have htl : (⟨#[67, 76]⟩ : ByteArray).toList = [67, 76] := by simp
   cases he : (([67, 76] : List UInt8) == name.toList)
   ·go_wp2
    go_round
    case rel => exact ⟨5, by omega, by first | rfl | go_num, rfl, by rw [HF.out, idxOf_drop _ _ _ (show 4 < names9.length by decide)]; rw [show names9[4]'(show 4 < names9.length by decide) = ⟨#[67, 76]⟩ from rfl, htl, he]; rfl⟩
    case measure => simp [intOf]
   ·go_wp2
    go_ret
    exact ⟨ret_int (by rw [HF.out, idxOf_drop _ _ _ (show 4 < names9.length by decide)]; rw [show names9[4]'(show 4 < names9.length by decide) = ⟨#[67, 76]⟩ from rfl, htl, he]; rfl), rfl⟩
  ·have hix : (Instr.index 80 (.agg #[.string ⟨#[66, 68, 50]⟩, .string ⟨#[66, 68, 51]⟩, .string ⟨#[66, 87, 50]⟩, .string ⟨#[66, 87, 51]⟩, .string ⟨#[67, 76]⟩, .string ⟨#[73, 110, 116]⟩, .string ⟨#[75, 67]⟩, .string ⟨#[76, 67]⟩, .string ⟨#[83, 109, 76]⟩]) (.int .i64 5)).run Tryz.prog w = .ok (.string ⟨#[73, 110, 116]⟩) w := by kernel_rfl
   have htl : (⟨#[73, 110, 116]⟩ : ByteArray).toList = [73, 110, 116] := by simp
   cases he : (([73, 110, 116] : List UInt8) == name.toList)
   ·go_wp2
    go_round
    case rel => exact ⟨6, by omega, by first | rfl | go_num, rfl, by rw [HF.out, idxOf_drop _ _ _ (show 5 < names9.length by decide)]; rw [show names9[5]'(show 5 < names9.length by decide) = ⟨#[73, 110, 116]⟩ from rfl, htl, he]; rfl⟩
    case measure => simp [intOf]
   ·go_wp2
    go_ret
    exact ⟨ret_int (by rw [HF.out, idxOf_drop _ _ _ (show 5 < names9.length by decide)]; rw [show names9[5]'(show 5 < names9.length by decide) = ⟨#[73, 110, 116]⟩ from rfl, htl, he]; rfl), rfl⟩
  ·have hix : (Instr.index 80 (.agg #[.string ⟨#[66, 68, 50]⟩, .string ⟨#[66, 68, 51]⟩, .string ⟨#[66, 87, 50]⟩, .string ⟨#[66, 87, 51]⟩, .string ⟨#[67, 76]⟩, .string ⟨#[73, 110, 116]⟩, .string ⟨#[75, 67]⟩, .string ⟨#[76, 67]⟩, .string ⟨#[83, 109, 76]⟩]) (.int .i64 6)).run Tryz.prog w = .ok (.string ⟨#[75, 67]⟩) w := by kernel_rfl
   have htl : (⟨#[75, 67]⟩ : ByteArray).toList = [75, 67] := by simp
   cases he : (([75, 67] : List UInt8) == name.toList)
   ·go_wp2
    go_round
    case rel => exact ⟨7, by omega, by first | rfl | go_num, rfl, by rw [HF.out, idxOf_drop _ _ _ (show 6 < names9.length by decide)]; rw [show names9[6]'(show 6 < names9.length by decide) = ⟨#[75, 67]⟩ from rfl, htl, he]; rfl⟩
    case measure => simp [intOf]
   ·go_wp2
    go_ret
    exact ⟨ret_int (by rw [HF.out, idxOf_drop _ _ _ (show 6 < names9.length by decide)]; rw [show names9[6]'(show 6 < names9.length by decide) = ⟨#[75, 67]⟩ from rfl, htl, he]; rfl), rfl⟩
  ·have hix : (Instr.index 80 (.agg #[.string ⟨#[66, 68, 50]⟩, .string ⟨#[66, 68, 51]⟩, .string ⟨#[66, 87, 50]⟩, .string ⟨#[66, 87, 51]⟩, .string ⟨#[67, 76]⟩, .string ⟨#[73, 110, 116]⟩, .string ⟨#[75, 67]⟩, .string ⟨#[76, 67]⟩, .string ⟨#[83, 109, 76]⟩]) (.int .i64 7)).run Tryz.prog w = .ok (.string ⟨#[76, 67]⟩) w := by kernel_rfl
   have htl : (⟨#[76, 67]⟩ : ByteArray).toList = [76, 67] := by simp
   cases he : (([76, 67] : List UInt8) == name.toList)
   ·go_wp2
    go_round
    case rel => exact ⟨8, by omega, by first | rfl | go_num, rfl, by rw [HF.out, idxOf_drop _ _ _ (show 7 < names9.length by decide)]; rw [show names9[7]'(show 7 < names9.length by decide) = ⟨#[76, 67]⟩ from rfl, htl, he]; rfl⟩
    case measure => simp [intOf]
   ·go_wp2
    go_ret
    exact ⟨ret_int (by rw [HF.out, idxOf_drop _ _ _ (show 7 < names9.length by decide)]; rw [show names9[7]'(show 7 < names9.length by decide) = ⟨#[76, 67]⟩ from rfl, htl, he]; rfl), rfl⟩
  ·have hix : (Instr.index 80 (.agg #[.string ⟨#[66, 68, 50]⟩, .string ⟨#[66, 68, 51]⟩, .string ⟨#[66, 87, 50]⟩, .string ⟨#[66, 87, 51]⟩, .string ⟨#[67, 76]⟩, .string ⟨#[73, 110, 116]⟩, .string ⟨#[75, 67]⟩, .string ⟨#[76, 67]⟩, .string ⟨#[83, 109, 76]⟩]) (.int .i64 8)).run Tryz.prog w = .ok (.string ⟨#[83, 109, 76]⟩) w := by kernel_rfl
   have htl : (⟨#[83, 109, 76]⟩ : ByteArray).toList = [83, 109, 76] := by simp
   cases he : (([83, 109, 76] : List UInt8) == name.toList)
   ·go_wp2
    go_round
    case rel => exact ⟨9, by omega, by first | rfl | go_num, rfl, by rw [HF.out, idxOf_drop _ _ _ (show 8 < names9.length by decide)]; rw [show names9[8]'(show 8 < names9.length by decide) = ⟨#[83, 109, 76]⟩ from rfl, htl, he]; rfl⟩
    case measure => simp [intOf]
   ·go_wp2
    go_ret
    exact ⟨ret_int (by rw [HF.out, idxOf_drop _ _ _ (show 8 < names9.length by decide)]; rw [show names9[8]'(show 8 < names9.length by decide) = ⟨#[83, 109, 76]⟩ from rfl, htl, he]; rfl), rfl⟩
  ·go_wp2
   go_ret
   exact ⟨ret_int (by rw [HF.out]; rfl), rfl⟩
theorem find9 (name : ByteArray) : findS names9 name = -1 ∨ ∃ k : Nat, k < 9 ∧ findS names9 name = k := by
 rcases idxOf_range (fun s => s.toList == name.toList) names9 0 with h | ⟨j, hj, h⟩
 ·exact .inl h
 ·exact .inr ⟨j, hj, by rw [show findS names9 name = _ from h]; simp⟩
set_option maxRecDepth 20000 in
set_option maxHeartbeats 1000000 in
theorem l30Known_any (name : ByteArray) (w : World) : Calls Tryz.prog 21 #[.string name] w fun e w' => e = .returned (.bool (decide (0 ≤ findS names9 name))) ∧ Keeps w w' := by
 go_enter Tryz.func21, Tryz.ntmps21
 go_wp2_with fail
 refine (l30Names_any w).mono ?_; rintro e w1 ⟨v1, rfl, hv1, k1⟩
 go_wp2_with fail
 refine (l09Find_any names9 name _ _ hv1).mono ?_; rintro e w' ⟨rfl, rfl⟩
 go_wp2_with fail
 go_ret
 exact ⟨ret_bool (by first | rfl | (rw [decide_eq_decide]) | simp), k1⟩
end Go.Proofs.YtikooimokfbffaaGreatDoor
namespace Go.Proofs.YtikooimokfbffaaGreatDoor
def nameK (k : Nat) : ByteArray := names9.getD k ⟨#[]⟩
theorem toList_inj {a b : ByteArray} (h : a.toList = b.toList) : a = b := by
 rw [ByteArray.toList_eq, ByteArray.toList_eq] at h
 cases a with | mk x => cases b with | mk y => 
  have : x = y := Array.toList_inj.1 h
  rw [this]
theorem idxOf_at {α : Type} (pr : α → Bool) : ∀ (l : List α) (k j : Nat), idxOf pr l k = ((k + j : Nat) : Int) → ∃ h : j < l.length, pr l[j] = true
 | [], k, j, h => by unfold idxOf at h; omega
 | x :: l, k, j, h => by
  unfold idxOf at h
  split at h
  ·rename_i hx
   obtain rfl : j = 0 := by omega
   exact ⟨by simp, hx⟩
  ·cases j with
   | zero =>
    exfalso
    rcases idxOf_range pr l (k + 1) with e | ⟨j, _, e⟩ <;> rw [e] at h <;> omega
   | succ j =>
    obtain ⟨h1, h2⟩ := idxOf_at pr l (k + 1) j (by rw [h]; congr 1; omega)
    exact ⟨by simpa using h1, by simpa using h2⟩
theorem find9_name {name : ByteArray} {k : Nat} (h : findS names9 name = k) : k < 9 ∧ name = nameK k := by
 obtain ⟨h1, h2⟩ := idxOf_at (fun s => s.toList == name.toList) names9 0 k (by rw [show idxOf _ names9 0 = findS names9 name from rfl, h]; simp)
 refine ⟨h1, ?_⟩
 have := toList_inj (beq_iff_eq.1 h2)
 rw [← this]
 unfold nameK
 rw [List.getD_eq_getElem?_getD, List.getElem?_eq_getElem h1]; rfl
end Go.Proofs.YtikooimokfbffaaGreatDoor
