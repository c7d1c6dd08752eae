import Derived.Test.YtfmmajgkjkmghaaGreatDoorHPP
import Derived.Lib.LaidTab
import Derived.Test.YtfmmajgkjkmghaaGreatDoorHQE0
import Derived.Test.YtfmmajgkjkmghaaGreatDoorHQT
import Derived.Test.YtfmmajgkjkmghaaGreatDoorHPK
import Derived.Test.YtfmmajgkjkmghaaGreatDoorHBase
import Derived.Deep.AppendLies
/- Walks: the names of the intermediate logics; a table of texts that is laid. -/
namespace Go.Proofs.YtfmmajgkjkmghaaGreatDoor
open Go.RowKit
def names9 : List ByteArray := [⟨#[66, 68, 50]⟩, ⟨#[66, 68, 51]⟩, ⟨#[66, 87, 50]⟩, ⟨#[66, 87, 51]⟩, ⟨#[67, 76]⟩, ⟨#[73, 110, 116]⟩, ⟨#[75, 67]⟩, ⟨#[76, 67]⟩, ⟨#[83, 109, 76]⟩]
def LaidS (g : Nat) (ss : List ByteArray) (w : World) : Prop := ∀ i (h : i < ss.length), w.cell? ⟨g, i, none⟩ = some (.string ss[i])
theorem LaidS.keeps {g : Nat} {ss : List ByteArray} {w w' : World} (h : LaidS g ss w) (k : Keeps w w') : LaidS g ss w' := fun i hi => k.cell (h i hi)
theorem cells_of_strs {H : Type} {enc : TypeId × Value → H} {P : Program} {w : World} {base : Nat} {sp : Nat → Bool} {held : Bool} {fuel : Nat} {t e : TypeId} {n : Nat} {cs : List Value} {ss : List (List UInt8)} {p : List MemPlace}
  (ht : P.underlying t = some (.array n e)) (he : P.underlying e = some .string) (hce : P.cellsOf e = 1) (hct : P.cellsOf t = n)
  (h : DataW.trod enc P w base sp held fuel t cs = some (.agg (ss.map fun s => .lit (.string s)), p)) : ∀ i (hi : i < ss.length), cs[i]? = some (.string ⟨ss[i].toArray⟩) := by
 intro i hi
 cases fuel with
 | zero => simp [DataW.trod] at h
 | succ fuel =>
  simp only [DataW.trod, ht, hce, hct, Nat.mul_one] at h
  split at h
  ·rename_i hl
   obtain ⟨xs, hm, hx⟩ := Option.map_eq_some_iff.1 h
   have hxs : xs.map (·.1) = ss.map fun s => (DataW.lit (.string s) : DataW H) := by
    have := congrArg Prod.fst hx
    simpa using this
   have hxl : xs.length = n := by have := Lib.mapM_length hm; rw [this]; exact List.length_range
   have hsl : ss.length = n := by
    have := congrArg List.length hxs
    simp at this
    omega
   obtain ⟨b, hb, hf⟩ := Lib.mapM_at hm i i (by rw [List.getElem?_range (by omega)])
   obtain ⟨s, hc, rfl, _⟩ := DataW.trod_string he hf
   have h1 : cs[i]? = some (.string s) := by
    have := congrArg (·[0]?) hc
    simpa [List.getElem?_take, List.getElem?_drop] using this
   have h2 : (xs.map (·.1))[i]? = some (DataW.lit (.string s.data.toList) : DataW H) := by simp [hb]
   rw [hxs] at h2
   simp [hi] at h2
   rw [h1, h2]
  ·cases h
theorem laidS_of_head {P : Program} {W : World} {name : String} {ss : List (List UInt8)} {rest : List (String × DataW Unit)} {g : Nat} {t e : TypeId} {n : Nat}
  (hg : P.globalNamed name = some g) (hty : (P.globals[g]?).map (·.type) = some t) (ht : P.underlying t = some (.array n e)) (he : P.underlying e = some .string) (hce : P.cellsOf e = 1) (hct : P.cellsOf t = n)
  (h : laidMet P ((name, .agg (ss.map fun s => .lit (.string s))) :: rest) W) : ∀ i (hi : i < ss.length), W.cell? ⟨g, i, none⟩ = some (.string ⟨ss[i].toArray⟩) := by
 obtain ⟨ps, ⟨g', t', cs, fuel, p, q, hg', ht', hvar, hd, _, _⟩, _⟩ := h
 obtain rfl := Option.some.inj (hg.symm.trans hg')
 obtain rfl := Option.some.inj (hty.symm.trans ht')
 intro i hi
 have h1 := cells_of_strs ht he hce hct hd i hi
 have := World.var?_cell hg hvar i
 rw [this]
 simpa using h1
set_option maxRecDepth 100000 in
theorem l30Names_any (w : World) : Calls Tryz.prog 41 #[] w fun e w' => ∃ v, e = .returned v ∧ Strs w' v names9 ∧ Keeps w w' := by
 go_enter Tryz.func41, Tryz.ntmps41
 go_wp2
 go_ret
 exact ⟨_, rfl, Strs.lit (w := w) names9 (by simp [names9]), (Keeps.refl w).alloc _⟩
end Go.Proofs.YtfmmajgkjkmghaaGreatDoor
namespace Go.Proofs.YtfmmajgkjkmghaaGreatDoor
open Go.RowKit
def findS (ss : List ByteArray) (name : ByteArray) : Int := idxOf (fun s => s.toList == name.toList) ss 0
theorem idxOf_range {α : Type} (pr : α → Bool) (l : List α) : ∀ k, idxOf pr l k = -1 ∨ ∃ j, j < l.length ∧ idxOf pr l k = ((k + j : Nat) : Int) := by
 induction l with
 | nil => intro k; exact .inl rfl
 | cons x l ih =>
  intro k
  unfold idxOf
  split
  ·exact .inr ⟨0, by simp, rfl⟩
  ·rcases ih (k + 1) with h | ⟨j, hj, h⟩
   ·exact .inl h
   ·exact .inr ⟨j + 1, by simpa using hj, by rw [h]; congr 1; omega⟩
set_option maxRecDepth 20000 in
set_option maxHeartbeats 1000000 in
theorem l09Find_any (ss : List ByteArray) (name : ByteArray) (v : Value) (w : World) (hv : Strs w v ss) :
  Calls Tryz.prog 120 #[v, .string name] w fun e w' => e = .returned (.int .i64 (findS ss name)) ∧ w = w' := by
 obtain ⟨p, cap, rfl, hle, hmx, hlen⟩ := hv.shape
 unfold maxLen at hmx
 have hV := hid hv; clear hv
 go_enter Tryz.func120, Tryz.ntmps120
 go_wp2
 go_loop [4, 5] (fun r i' => ∃ i : Nat, i ≤ ss.length ∧ i' = .int .i64 i ∧ r = .int .i64 0 ∧ findS ss name = idxOf (fun s => s.toList == name.toList) (ss.drop i) i) (fun _ i => ss.length - (intOf i).toNat)
 case atStart => exact ⟨0, by omega, rfl, rfl, rfl⟩
 case round =>
  obtain ⟨i, hi, rfl, rfl, hf⟩ := hrel
  have HF := hid hf; clear hf
  by_cases hlt : i < ss.length
  ·obtain ⟨b, off, rfl, hc⟩ := hV.out.get i hlt
   have hlt' : (i : Int) < ss.length := by omega
   cases he : (ss[i].toList == name.toList)
   ·go_wp2
    go_round
    case rel => exact ⟨i + 1, by omega, by go_num, rfl, by rw [HF.out, idxOf_drop _ _ _ hlt, he]; rfl⟩
    case measure => simp [intOf]; omega
   ·go_wp2
    go_ret
    exact ⟨ret_int (by rw [HF.out, idxOf_drop _ _ _ hlt, he]; rfl), rfl⟩
  ·go_wp2
   go_ret
   exact ⟨ret_int (by rw [HF.out, idxOf_end _ _ _ (by omega)]), rfl⟩
set_option maxRecDepth 20000 in
set_option maxHeartbeats 1000000 in
theorem intermediateAt_any (name : ByteArray) (w : World) (hL : LaidS 1 names9 w) :
  Calls Tryz.prog 15 #[.string name] w fun e w' => e = .returned (.int .i64 (findS names9 name)) ∧ w = w' := by
 have c0 := hL 0 (by decide)
 have c1 := hL 1 (by decide)
 have c2 := hL 2 (by decide)
 have c3 := hL 3 (by decide)
 have c4 := hL 4 (by decide)
 have c5 := hL 5 (by decide)
 have c6 := hL 6 (by decide)
 have c7 := hL 7 (by decide)
 have c8 := hL 8 (by decide)
 clear hL
 simp only [names9, List.getElem_cons_zero, List.getElem_cons_succ] at c0 c1 c2 c3 c4 c5 c6 c7 c8
 go_enter Tryz.func15, Tryz.ntmps15
 go_wp2
 go_loop [2, 6] (fun r i' => ∃ i : Nat, i ≤ 9 ∧ i' = .int .i64 i ∧ r = .int .i64 0 ∧ findS names9 name = idxOf (fun s => s.toList == name.toList) (names9.drop i) i) (fun _ i => 9 - (intOf i).toNat)
 case atStart => exact ⟨0, by omega, rfl, rfl, rfl⟩
 case round =>
  obtain ⟨i, hi, rfl, rfl, hf⟩ := hrel
  have HF := hid hf; clear hf
  have hi9 : i = 0 ∨ i = 1 ∨ i = 2 ∨ i = 3 ∨ i = 4 ∨ i = 5 ∨ i = 6 ∨ i = 7 ∨ i = 8 ∨ i = 9 := by omega
  rcases hi9 with rfl | rfl | rfl | rfl | rfl | rfl | rfl | rfl | rfl | rfl
  ·have hix : (Instr.index 48 (.agg #[.string ⟨#[66, 68, 50]⟩, .string ⟨#[66, 68, 51]⟩, .string ⟨#[66, 87, 50]⟩, .string ⟨#[66, 87, 51]⟩, .string ⟨#[67, 76]⟩, .string ⟨#[73, 110, 116]⟩, .string ⟨#[75, 67]⟩, .string ⟨#[76, 67]⟩, .string ⟨#[83, 109, 76]⟩]) (.int .i64 0)).run Tryz.prog w = .ok (.string ⟨#[66, 68, 50]⟩) w := by kernel_rfl
   have htl : (⟨#[66, 68, 50]⟩ : ByteArray).toList = [66, 68, 50] := by simp
   cases he : (([66, 68, 50] : List UInt8) == name.toList)
   ·go_wp2
    go_round
    case rel => exact ⟨1, by omega, by first | rfl | go_num, rfl, by rw [HF.out, idxOf_drop _ _ _ (show 0 < names9.length by decide)]; rw [show names9[0]'(show 0 < names9.length by decide) = ⟨#[66, 68, 50]⟩ from rfl, htl, he]; rfl⟩
    case measure => simp [intOf]
   ·go_wp2
    go_ret
    exact ⟨ret_int (by rw [HF.out, idxOf_drop _ _ _ (show 0 < names9.length by decide)]; rw [show names9[0]'(show 0 < names9.length by decide) = ⟨#[66, 68, 50]⟩ from rfl, htl, he]; rfl), rfl⟩
  ·have hix : (Instr.index 48 (.agg #[.string ⟨#[66, 68, 50]⟩, .string ⟨#[66, 68, 51]⟩, .string ⟨#[66, 87, 50]⟩, .string ⟨#[66, 87, 51]⟩, .string ⟨#[67, 76]⟩, .string ⟨#[73, 110, 116]⟩, .string ⟨#[75, 67]⟩, .string ⟨#[76, 67]⟩, .string ⟨#[83, 109, 76]⟩]) (.int .i64 1)).run Tryz.prog w = .ok (.string ⟨#[66, 68, 51]⟩) w := by kernel_rfl
   have htl : (⟨#[66, 68, 51]⟩ : ByteArray).toList = [66, 68, 51] := by simp
   cases he : (([66, 68, 51] : List UInt8) == name.toList)
   ·go_wp2
    go_round
    case rel => exact ⟨2, by omega, by first | rfl | go_num, rfl, by rw [HF.out, idxOf_drop _ _ _ (show 1 < names9.length by decide)]; rw [show names9[1]'(show 1 < names9.length by decide) = ⟨#[66, 68, 51]⟩ from rfl, htl, he]; rfl⟩
    case measure => simp [intOf]
   ·go_wp2
    go_ret
    exact ⟨ret_int (by rw [HF.out, idxOf_drop _ _ _ (show 1 < names9.length by decide)]; rw [show names9[1]'(show 1 < names9.length by decide) = ⟨#[66, 68, 51]⟩ from rfl, htl, he]; rfl), rfl⟩
  ·have hix : (Instr.index 48 (.agg #[.string ⟨#[66, 68, 50]⟩, .string ⟨#[66, 68, 51]⟩, .string ⟨#[66, 87, 50]⟩, .string ⟨#[66, 87, 51]⟩, .string ⟨#[67, 76]⟩, .string ⟨#[73, 110, 116]⟩, .string ⟨#[75, 67]⟩, .string ⟨#[76, 67]⟩, .string ⟨#[83, 109, 76]⟩]) (.int .i64 2)).run Tryz.prog w = .ok (.string ⟨#[66, 87, 50]⟩) w := by kernel_rfl
   have htl : (⟨#[66, 87, 50]⟩ : ByteArray).toList = [66, 87, 50] := by simp
   cases he : (([66, 87, 50] : List UInt8) == name.toList)
   ·go_wp2
    go_round
    case rel => exact ⟨3, by omega, by first | rfl | go_num, rfl, by rw [HF.out, idxOf_drop _ _ _ (show 2 < names9.length by decide)]; rw [show names9[2]'(show 2 < names9.length by decide) = ⟨#[66, 87, 50]⟩ from rfl, htl, he]; rfl⟩
    case measure => simp [intOf]
   ·go_wp2
    go_ret
    exact ⟨ret_int (by rw [HF.out, idxOf_drop _ _ _ (show 2 < names9.length by decide)]; rw [show names9[2]'(show 2 < names9.length by decide) = ⟨#[66, 87, 50]⟩ from rfl, htl, he]; rfl), rfl⟩
  ·have hix : (Instr.index 48 (.agg #[.string ⟨#[66, 68, 50]⟩, .string ⟨#[66, 68, 51]⟩, .string ⟨#[66, 87, 50]⟩, .string ⟨#[66, 87, 51]⟩, .string ⟨#[67, 76]⟩, .string ⟨#[73, 110, 116]⟩, .string ⟨#[75, 67]⟩, .string ⟨#[76, 67]⟩, .string ⟨#[83, 109, 76]⟩]) (.int .i64 3)).run Tryz.prog w = .ok (.string ⟨#[66, 87, 51]⟩) w := by kernel_rfl
   have htl : (⟨#[66, 87, 51]⟩ : ByteArray).toList = [66, 87, 51] := by simp
   cases he : (([66, 87, 51] : List UInt8) == name.toList)
   ·go_wp2
    go_round
    case rel => exact ⟨4, by omega, by first | rfl | go_num, rfl, by rw [HF.out, idxOf_drop _ _ _ (show 3 < names9.length by decide)]; rw [show names9[3]'(show 3 < names9.length by decide) = ⟨#[66, 87, 51]⟩ from rfl, htl, he]; rfl⟩
    case measure => simp [intOf]
   ·go_wp2
    go_ret
    exact ⟨ret_int (by rw [HF.out, idxOf_drop _ _ _ (show 3 < names9.length by decide)]; rw [show names9[3]'(show 3 < names9.length by decide) = ⟨#[66, 87, 51]⟩ from rfl, htl, he]; rfl), rfl⟩
  ·have hix : (Instr.index 48 (.agg #[.string ⟨#[66, 68, 50]⟩, .string ⟨#[66, 68, 51]⟩, .string ⟨#[66, 87, 50]⟩, .string ⟨#[66, 87, 51]⟩, .string ⟨#[67, 76]⟩, .string ⟨#[73, 110, 116]⟩, .string ⟨#[75, 67]⟩, .string ⟨#[76, 67]⟩, .string ⟨#[83, 109, 76]⟩]) (.int .i64 4)).run Tryz.prog w = .ok (.string ⟨#[67, 76]⟩) w := by kernel_rfl
   have htl : (⟨#[67, 76]⟩ : ByteArray).toList = [67, 76] := by simp
   cases he : (([67, 76] : List UInt8) == name.toList)
   ·go_wp2
    go_round
    case rel => exact ⟨5, by omega, by first | rfl | go_num, rfl, by rw [HF.out, idxOf_drop _ _ _ (show 4 < names9.length by decide)]; rw [show names9[4]'(show 4 < names9.length by decide) = ⟨#[67, 76]⟩ from rfl, htl, he]; rfl⟩
    case measure => simp [intOf]
   ·go_wp2
    go_ret
    exact ⟨ret_int (by rw [HF.out, idxOf_drop _ _ _ (show 4 < names9.length by decide)]; rw [show names9[4]'(show 4 < names9.length by decide) = ⟨#[67, 76]⟩ from rfl, htl, he]; rfl), rfl⟩
  ·have hix : (Instr.index 48 (.agg #[.string ⟨#[66, 68, 50]⟩, .string ⟨#[66, 68, 51]⟩, .string ⟨#[66, 87, 50]⟩, .string ⟨#[66, 87, 51]⟩, .string ⟨#[67, 76]⟩, .string ⟨#[73, 110, 116]⟩, .string ⟨#[75, 67]⟩, .string ⟨#[76, 67]⟩, .string ⟨#[83, 109, 76]⟩]) (.int .i64 5)).run Tryz.prog w = .ok (.string ⟨#[73, 110, 116]⟩) w := by kernel_rfl
   have htl : (⟨#[73, 110, 116]⟩ : ByteArray).toList = [73, 110, 116] := by simp
   cases he : (([73, 110, 116] : List UInt8) == name.toList)
   ·go_wp2
    go_round
    case rel => exact ⟨6, by omega, by first | rfl | go_num, rfl, by rw [HF.out, idxOf_drop _ _ _ (show 5 < names9.length by decide)]; rw [show names9[5]'(show 5 < names9.length by decide) = ⟨#[73, 110, 116]⟩ from rfl, htl, he]; rfl⟩
    case measure => simp [intOf]
   ·go_wp2
    go_ret
    exact ⟨ret_int (by rw [HF.out, idxOf_drop _ _ _ (show 5 < names9.length by decide)]; rw [show names9[5]'(show 5 < names9.length by decide) = ⟨#[73, 110, 116]⟩ from rfl, htl, he]; rfl), rfl⟩
  ·have hix : (Instr.index 48 (.agg #[.string ⟨#[66, 68, 50]⟩, .string ⟨#[66, 68, 51]⟩, .string ⟨#[66, 87, 50]⟩, .string ⟨#[66, 87, 51]⟩, .string ⟨#[67, 76]⟩, .string ⟨#[73, 110, 116]⟩, .string ⟨#[75, 67]⟩, .string ⟨#[76, 67]⟩, .string ⟨#[83, 109, 76]⟩]) (.int .i64 6)).run Tryz.prog w = .ok (.string ⟨#[75, 67]⟩) w := by kernel_rfl
   have htl : (⟨#[75, 67]⟩ : ByteArray).toList = [75, 67] := by simp
   cases he : (([75, 67] : List UInt8) == name.toList)
   ·go_wp2
    go_round
    case rel => exact ⟨7, by omega, by first | rfl | go_num, rfl, by rw [HF.out, idxOf_drop _ _ _ (show 6 < names9.length by decide)]; rw [show names9[6]'(show 6 < names9.length by decide) = ⟨#[75, 67]⟩ from rfl, htl, he]; rfl⟩
    case measure => simp [intOf]
   ·go_wp2
    go_ret
    exact ⟨ret_int (by rw [HF.out, idxOf_drop _ _ _ (show 6 < names9.length by decide)]; rw [show names9[6]'(show 6 < names9.length by decide) = ⟨#[75, 67]⟩ from rfl, htl, he]; rfl), rfl⟩
  ·have hix : (Instr.index 48 (.agg #[.string ⟨#[66, 68, 50]⟩, .string ⟨#[66, 68, 51]⟩, .string ⟨#[66, 87, 50]⟩, .string ⟨#[66, 87, 51]⟩, .string ⟨#[67, 76]⟩, .string ⟨#[73, 110, 116]⟩, .string ⟨#[75, 67]⟩, .string ⟨#[76, 67]⟩, .string ⟨#[83, 109, 76]⟩]) (.int .i64 7)).run Tryz.prog w = .ok (.string ⟨#[76, 67]⟩) w := by kernel_rfl
   have htl : (⟨#[76, 67]⟩ : ByteArray).toList = [76, 67] := by simp
   cases he : (([76, 67] : List UInt8) == name.toList)
   ·go_wp2
    go_round
    case rel => exact ⟨8, by omega, by first | rfl | go_num, rfl, by rw [HF.out, idxOf_drop _ _ _ (show 7 < names9.length by decide)]; rw [show names9[7]'(show 7 < names9.length by decide) = ⟨#[76, 67]⟩ from rfl, htl, he]; rfl⟩
    case measure => simp [intOf]
   ·go_wp2
    go_ret
    exact ⟨ret_int (by rw [HF.out, idxOf_drop _ _ _ (show 7 < names9.length by decide)]; rw [show names9[7]'(show 7 < names9.length by decide) = ⟨#[76, 67]⟩ from rfl, htl, he]; rfl), rfl⟩
  ·have hix : (Instr.index 48 (.agg #[.string ⟨#[66, 68, 50]⟩, .string ⟨#[66, 68, 51]⟩, .string ⟨#[66, 87, 50]⟩, .string ⟨#[66, 87, 51]⟩, .string ⟨#[67, 76]⟩, .string ⟨#[73, 110, 116]⟩, .string ⟨#[75, 67]⟩, .string ⟨#[76, 67]⟩, .string ⟨#[83, 109, 76]⟩]) (.int .i64 8)).run Tryz.prog w = .ok (.string ⟨#[83, 109, 76]⟩) w := by kernel_rfl
   have htl : (⟨#[83, 109, 76]⟩ : ByteArray).toList = [83, 109, 76] := by simp
   cases he : (([83, 109, 76] : List UInt8) == name.toList)
   ·go_wp2
    go_round
    case rel => exact ⟨9, by omega, by first | rfl | go_num, rfl, by rw [HF.out, idxOf_drop _ _ _ (show 8 < names9.length by decide)]; rw [show names9[8]'(show 8 < names9.length by decide) = ⟨#[83, 109, 76]⟩ from rfl, htl, he]; rfl⟩
    case measure => simp [intOf]
   ·go_wp2
    go_ret
    exact ⟨ret_int (by rw [HF.out, idxOf_drop _ _ _ (show 8 < names9.length by decide)]; rw [show names9[8]'(show 8 < names9.length by decide) = ⟨#[83, 109, 76]⟩ from rfl, htl, he]; rfl), rfl⟩
  ·go_wp2
   go_ret
   exact ⟨ret_int (by rw [HF.out]; rfl), rfl⟩
theorem find9 (name : ByteArray) : findS names9 name = -1 ∨ ∃ k : Nat, k < 9 ∧ findS names9 name = k := by
 rcases idxOf_range (fun s => s.toList == name.toList) names9 0 with h | ⟨j, hj, h⟩
 ·exact .inl h
 ·exact .inr ⟨j, hj, by rw [show findS names9 name = _ from h]; simp⟩
set_option maxRecDepth 20000 in
set_option maxHeartbeats 1000000 in
theorem l30Known_any (name : ByteArray) (w : World) : Calls Tryz.prog 57 #[.string name] w fun e w' => e = .returned (.bool (decide (0 ≤ findS names9 name))) ∧ Keeps w w' := by
 go_enter Tryz.func57, Tryz.ntmps57
 go_wp2_with fail
 refine (l30Names_any w).mono ?_; rintro e w1 ⟨v1, rfl, hv1, k1⟩
 go_wp2_with fail
 refine (l09Find_any names9 name _ _ hv1).mono ?_; rintro e w' ⟨rfl, rfl⟩
 go_wp2_with fail
 go_ret
 exact ⟨ret_bool (by first | rfl | (rw [decide_eq_decide]) | simp), k1⟩
end Go.Proofs.YtfmmajgkjkmghaaGreatDoor
namespace Go.Proofs.YtfmmajgkjkmghaaGreatDoor
def depB (b : List Nat) : Nat := maxTo (dptL b) b.length
theorem dpt_one {b : List Nat} (hp : Pos b) {x : Nat} (hx : x < b.length) : dptB b x ≤ 1 ↔ b.getD x 0 = 2 ^ x := by
 obtain ⟨hb, hbm, hr, ht, ha⟩ := hp
 constructor
 ·intro h
  apply Nat.eq_of_testBit_eq
  intro y
  rw [Nat.testBit_two_pow]
  by_cases e : x = y
  ·subst e; rw [refl_of hr hx]; simp
  ·rw [decide_eq_false e]
   cases hy : (b.getD x 0).testBit y
   ·rfl
   ·have h1 := dptB_above hb hbm hr ht ha hx hy (Ne.symm e)
    have h2 := dptB_pos hb hbm hr ht ha (bit_lt hbm hy)
    omega
 ·intro h
  rw [dptB_eq hb hbm hr ht ha hx, h]
  have : supD (dptB b) (2 ^ x) x 8 ≤ 0 := supD_le 8 (fun y _ hy hne => by
   rw [Nat.testBit_two_pow, decide_eq_true_eq] at hy
   exact absurd hy.symm hne)
  omega
theorem dep_one {b : List Nat} : depB b ≤ 1 ↔ ∀ x, x < b.length → dptB b x ≤ 1 := by
 constructor
 ·intro h x hx
  have := le_maxTo (c := dptL b) hx
  rw [dptL_get hx] at this
  unfold depB at h
  omega
 ·intro h
  have := maxTo_le (c := dptL b) (n := 2) b.length (fun i hi => by rw [dptL_get hi]; have := h i hi; omega) (by omega)
  unfold depB
  omega
theorem cl_eq {b : List Nat} (hp : Pos b) : (mxB b == 2 ^ b.length - 1) = decide (depB b ≤ 1) := by
 rw [Bool.eq_iff_iff, beq_iff_eq, decide_eq_true_eq, dep_one]
 constructor
 ·intro h x hx
  rw [dpt_one hp hx]
  have := congrArg (fun m => m.testBit x) h
  simp only [mxB, mxT_bit, Nat.testBit_two_pow_sub_one, hx, decide_true, Bool.true_and, beq_iff_eq] at this
  exact this
 ·intro h
  apply Nat.eq_of_testBit_eq
  intro x
  rw [mxB, mxT_bit, Nat.testBit_two_pow_sub_one]
  by_cases hx : x < b.length
  ·have := (dpt_one hp hx).1 (h x hx)
   rw [this]; simp
  ·simp [hx]
def ofKC (b : List Nat) (m : Nat) : Bool := cntB (m &&& mxB b) == 1
def ofSmL (m : Nat) : Bool := decide (cntB m ≤ 2)
def ofK (b : List Nat) (k : Nat) : Bool :=
 if k = 0 then decide (depB b ≤ 2) else if k = 1 then decide (depB b ≤ 3) else if k = 2 then decide (widB b ≤ 2) else if k = 3 then decide (widB b ≤ 3)
 else if k = 4 then decide (depB b ≤ 1) else if k = 6 then b.all (ofKC b) else if k = 7 then decide (widB b ≤ 1) else if k = 8 then b.all ofSmL else true
def nameK (k : Nat) : ByteArray := names9.getD k ⟨#[]⟩
theorem toList_inj {a b : ByteArray} (h : a.toList = b.toList) : a = b := by
 rw [ByteArray.toList_eq, ByteArray.toList_eq] at h
 cases a with | mk x => cases b with | mk y => 
  have : x = y := Array.toList_inj.1 h
  rw [this]
theorem idxOf_at {α : Type} (pr : α → Bool) : ∀ (l : List α) (k j : Nat), idxOf pr l k = ((k + j : Nat) : Int) → ∃ h : j < l.length, pr l[j] = true
 | [], k, j, h => by unfold idxOf at h; omega
 | x :: l, k, j, h => by
  unfold idxOf at h
  split at h
  ·rename_i hx
   obtain rfl : j = 0 := by omega
   exact ⟨by simp, hx⟩
  ·cases j with
   | zero =>
    exfalso
    rcases idxOf_range pr l (k + 1) with e | ⟨j, _, e⟩ <;> rw [e] at h <;> omega
   | succ j =>
    obtain ⟨h1, h2⟩ := idxOf_at pr l (k + 1) j (by rw [h]; congr 1; omega)
    exact ⟨by simpa using h1, by simpa using h2⟩
theorem find9_name {name : ByteArray} {k : Nat} (h : findS names9 name = k) : k < 9 ∧ name = nameK k := by
 obtain ⟨h1, h2⟩ := idxOf_at (fun s => s.toList == name.toList) names9 0 k (by rw [show idxOf _ names9 0 = findS names9 name from rfl, h]; simp)
 refine ⟨h1, ?_⟩
 have := toList_inj (beq_iff_eq.1 h2)
 rw [← this]
 unfold nameK
 rw [List.getD_eq_getElem?_getD, List.getElem?_eq_getElem h1]; rfl
theorem zs_any (b : List Nat) (P : Int → Bool) : (zs b).any P = b.any fun x => P (x : Int) := by
 unfold zs; rw [List.any_map]; rfl
theorem not_any_not {α : Type} (l : List α) (P : α → Bool) : (!(l.any fun x => !P x)) = l.all P := by
 induction l with
 | nil => rfl
 | cons x l ih => rw [List.any_cons, List.all_cons, Bool.not_or, ih, Bool.not_not]
end Go.Proofs.YtfmmajgkjkmghaaGreatDoor
namespace Go.Proofs.YtfmmajgkjkmghaaGreatDoor
def usedB (o : List Nat) : Nat := o.foldl (fun acc x => acc ||| 2 ^ x) 0
theorem usedB_snoc (o : List Nat) (k : Nat) : usedB (o ++ [k]) = usedB o ||| 2 ^ k := by simp [usedB, List.foldl_append]
theorem foldl_used_bit (i : Nat) : ∀ (o : List Nat) (m : Nat), (o.foldl (fun acc x => acc ||| 2 ^ x) m).testBit i = (m.testBit i || o.contains i)
 | [], m => by simp
 | x :: o, m => by
  rw [List.foldl_cons, foldl_used_bit i o, Nat.testBit_or, Nat.testBit_two_pow, List.contains_cons]
  by_cases h : x = i
  ·subst h; simp
  ·have : (i == x) = false := by simp; omega
   rw [decide_eq_false h, this]; simp
theorem usedB_bit (o : List Nat) (i : Nat) : (usedB o).testBit i = o.contains i := by
 unfold usedB
 rw [foldl_used_bit]; simp
theorem foldl_used_lt (n : Nat) : ∀ (o : List Nat) (m : Nat), (∀ x ∈ o, x < n) → m < 2 ^ n → o.foldl (fun acc x => acc ||| 2 ^ x) m < 2 ^ n
 | [], _, _, h => h
 | x :: o, m, hx, h => by
  rw [List.foldl_cons]
  exact foldl_used_lt n o _ (fun y hy => hx y (by simp [hy])) (Nat.or_lt_two_pow h (Nat.pow_lt_pow_right (by omega) (hx x (by simp))))
theorem usedB_lt {n : Nat} {o : List Nat} (h : ∀ x ∈ o, x < n) : usedB o < 2 ^ n := foldl_used_lt n o 0 h (Nat.two_pow_pos n)
def growK (n f : Nat) (o : List Nat) : Nat → List (List Nat)
 | 0 => []
 | k + 1 => growK n f o k ++ (if o.contains k then [] else growP n f (o ++ [k]))
theorem growK_upto (n f : Nat) (o : List Nat) : ∀ k, growK n f o k = ((List.range k).filter fun i => !o.contains i).flatMap fun i => growP n f (o ++ [i])
 | 0 => rfl
 | k + 1 => by
  rw [growK, growK_upto n f o k, List.range_succ, List.filter_append, List.flatMap_append]
  congr 1
  by_cases h : o.contains k = true
  ·rw [if_pos h]; simp at h; simp [h]
  ·rw [if_neg h]; simp at h; simp [h]
theorem growK_all (n f : Nat) (o : List Nat) : growK n f o n = growP n (f + 1) o := growK_upto n f o n
theorem growK_sub {n f : Nat} {o : List Nat} {x : List Nat} : ∀ {k m : Nat}, k ≤ m → x ∈ growK n f o k → x ∈ growK n f o m
 | k, 0, h, hx => by
  have : k = 0 := by omega
  subst this; exact hx
 | k, m + 1, h, hx => by
  by_cases e : k = m + 1
  ·subst e; exact hx
  ·rw [growK]
   exact List.mem_append.2 (.inl (growK_sub (by omega) hx))
theorem growK_step {n f : Nat} {o : List Nat} {k : Nat} (hk : k < n) (ho : o.contains k = false) {x : List Nat} (hx : x ∈ growP n f (o ++ [k])) : x ∈ growP n (f + 1) o := by
 rw [← growK_all]
 refine growK_sub (k := k + 1) (by omega) ?_
 rw [growK, if_neg (by rw [ho]; simp)]
 exact List.mem_append.2 (.inr hx)
def toP (n : Nat) (o : List Nat) : Nat → List Nat
 | 0 => List.replicate n 0
 | k + 1 => (toP n o k).set (o.getD k 0) k
theorem toP_len (n : Nat) (o : List Nat) : ∀ k, (toP n o k).length = n
 | 0 => by simp [toP]
 | k + 1 => by rw [toP, List.length_set, toP_len n o k]
theorem toP_le (n : Nat) (o : List Nat) : ∀ k j, (toP n o k).getD j 0 ≤ k
 | 0, j => by
  simp only [toP, List.getD_eq_getElem?_getD, List.getElem?_replicate]
  split <;> simp
 | k + 1, j => by
  have h := toP_le n o k j
  simp only [toP, List.getD_eq_getElem?_getD, List.getElem?_set] at h ⊢
  split
  ·split
   ·simp
   ·simp
  ·omega
def orP (t l : List Nat) : Nat := l.foldl (fun acc y => acc ||| 2 ^ (t.getD y 0)) 0
theorem orP_snoc (t l : List Nat) (y : Nat) : orP t (l ++ [y]) = orP t l ||| 2 ^ (t.getD y 0) := by simp [orP, List.foldl_append]
theorem orP_lt {t : List Nat} {n : Nat} (h : ∀ j, t.getD j 0 < n) (l : List Nat) : orP t l < 2 ^ n := by
 have : ∀ (l : List Nat) (m : Nat), m < 2 ^ n → l.foldl (fun acc y => acc ||| 2 ^ (t.getD y 0)) m < 2 ^ n := by
  intro l
  induction l with
  | nil => intro m h; exact h
  | cons y l ih => intro m hm; exact ih _ (Nat.or_lt_two_pow hm (Nat.pow_lt_pow_right (by omega) (h y)))
 exact this l 0 (Nat.two_pow_pos n)
def renQ (a o : List Nat) : List Nat := o.map fun x => orP (toP o.length o o.length) (memB (a.getD x 0))
set_option maxRecDepth 100000 in
theorem row_tab : ∀ n : Fin 6, ∀ o ∈ permP n, o.length = n ∧ (∀ x ∈ o, x < n) ∧ ∀ m : Fin (2 ^ (n : Nat)), orP (toP o.length o o.length) (memB m) = sqz o m o.length := by decide +kernel
theorem perm_len {n : Nat} (hn : n ≤ 5) {o : List Nat} (ho : o ∈ permP n) : o.length = n ∧ ∀ x ∈ o, x < n :=
 ⟨(row_tab ⟨n, by omega⟩ o ho).1, (row_tab ⟨n, by omega⟩ o ho).2.1⟩
theorem ren_eq {n : Nat} (hn : n ≤ 5) {a o : List Nat} (ha : Bnd n a) (ho : o ∈ permP n) : renQ a o = renP a o := by
 unfold renQ renP
 refine List.map_congr_left fun x _ => ?_
 exact (row_tab ⟨n, by omega⟩ o ho).2.2 ⟨a.getD x 0, ha x⟩
theorem sqz_lt (o : List Nat) (m : Nat) : ∀ k, sqz o m k < 2 ^ k
 | 0 => by simp [sqz]
 | k + 1 => by
  rw [sqz]
  have h := sqz_lt o m k
  refine Nat.or_lt_two_pow (by rw [Nat.pow_succ]; omega) ?_
  split
  ·exact Nat.pow_lt_pow_right (by omega) (by omega)
  ·exact Nat.two_pow_pos _
theorem renP_len (a o : List Nat) : (renP a o).length = o.length := by simp [renP]
theorem renP_bnd (a o : List Nat) : Bnd o.length (renP a o) := mem_bnd fun x hx => by
 obtain ⟨y, _, rfl⟩ := List.mem_map.1 hx
 exact sqz_lt _ _ _
def betP (a best o : List Nat) : List Nat := if lessL (renP a o) best then renP a o else best
theorem leastP_fold (a : List Nat) : leastP a = (permP a.length).foldl (betP a) a := rfl
theorem fold_bet {a : List Nat} {n : Nat} : ∀ (l : List (List Nat)) (best : List Nat), (∀ o ∈ l, o.length = n) → best.length = n → Bnd n best → (l.foldl (betP a) best).length = n ∧ Bnd n (l.foldl (betP a) best)
 | [], best, _, h1, h2 => ⟨h1, h2⟩
 | o :: l, best, h, h1, h2 => by
  rw [List.foldl_cons]
  have ho := h o (by simp)
  refine fold_bet l _ (fun o' ho' => h o' (by simp [ho'])) ?_ ?_
  ·unfold betP; split
   ·rw [renP_len, ho]
   ·exact h1
  ·unfold betP; split
   ·have := renP_bnd a o; rwa [ho] at this
   ·exact h2
theorem leastP_len {a : List Nat} (hn : a.length ≤ 5) (ha : Bnd a.length a) : (leastP a).length = a.length ∧ Bnd a.length (leastP a) :=
 fold_bet _ a (fun _ ho => (perm_len hn ho).1) rfl ha
def cmpL (a b : List Nat) : Int := if lessL a b then -1 else if a = b then 0 else 1
theorem cmpL_neg (a b : List Nat) : decide (cmpL a b < 0) = lessL a b := by
 unfold cmpL
 cases h : lessL a b
 ·simp only [Bool.false_eq_true, if_false]
  split <;> simp
 ·simp
end Go.Proofs.YtfmmajgkjkmghaaGreatDoor
namespace Go.Proofs.YtfmmajgkjkmghaaGreatDoor
open Go.RowKit
theorem type_ne {w : World} {B B' : Nat} {T1 T2 : TypeId} {s s' n m : Nat} {v u : Value} {xs ys : List Value} (h1 : w.ownsRow B T1 s v n xs) (h2 : w.ownsRow B' T2 s' u m ys) (hne : T1 ≠ T2) {k : Nat} (hv : v.ownBlock = some k) : u.ownBlock ≠ some k := by
 intro hu
 rcases h1.2 with ⟨rfl, _⟩ | ⟨g, cap, cur, rfl, _, hg, _⟩
 ·simp [Value.ownBlock] at hv
 rcases h2.2 with ⟨rfl, _⟩ | ⟨g', cap', cur', rfl, _, hg', _⟩
 ·simp [Value.ownBlock] at hu
 simp [Value.ownBlock] at hv hu
 subst hv; subst hu
 rw [hg] at hg'
 injection hg' with e
 injection e with _ e2 _
 exact hne e2
theorem At.lit1 (w : World) (u : Value) (E : TypeId) : At (w.alloc (.cells #[u] E)) (some ⟨w.heap.size, 0, none⟩) [u] := by
 intro j hj
 simp at hj
 subst hj
 exact ⟨_, _, rfl, by simp⟩
end Go.Proofs.YtfmmajgkjkmghaaGreatDoor
namespace Go.Proofs.YtfmmajgkjkmghaaGreatDoor
open Go.RowKit
end Go.Proofs.YtfmmajgkjkmghaaGreatDoor
