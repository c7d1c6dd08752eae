/- Walks: the names of the intermediate logics; a table of texts that is laid. -/
import Derived.Test.YtpbjeoigpbnekaaDoorGTU
import Derived.Lib.LaidTab
import Derived.Test.YtpbjeoigpbnekaaDoorGLO
import Derived.Deep.RegionHeld3
import Derived.Laws.Bits64
namespace Go.Proofs.YtpbjeoigpbnekaaDoor
open Go.RowKit

--
def names9 : List ByteArray := [⟨#[66, 68, 50]⟩, ⟨#[66, 68, 51]⟩, ⟨#[66, 87, 50]⟩, ⟨#[66, 87, 51]⟩, ⟨#[67, 76]⟩, ⟨#[73, 110, 116]⟩, ⟨#[75, 67]⟩, ⟨#[76, 67]⟩, ⟨#[83, 109, 76]⟩]
/-- a table of texts lies in a variable -/
def LaidS (g : Nat) (ss : List ByteArray) (w : World) : Prop := ∀ i (h : i < ss.length), w.cell? ⟨g, i, none⟩ = some (.string ss[i])
theorem LaidS.keeps {g : Nat} {ss : List ByteArray} {w w' : World} (h : LaidS g ss w) (k : Keeps w w') : LaidS g ss w' := fun i hi => k.cell (h i hi)
/-- an array of texts that reads as a table holds the table's texts -/
theorem cells_of_strs {H : Type} {enc : TypeId × Value → H} {P : Program} {w : World} {base : Nat} {sp : Nat → Bool} {held : Bool} {fuel : Nat} {t e : TypeId} {n : Nat} {cs : List Value} {ss : List (List UInt8)} {p : List MemPlace}
    (ht : P.underlying t = some (.array n e)) (he : P.underlying e = some .string) (hce : P.cellsOf e = 1) (hct : P.cellsOf t = n)
    (h : DataW.trod enc P w base sp held fuel t cs = some (.agg (ss.map fun s => .lit (.string s)), p)) : ∀ i (hi : i < ss.length), cs[i]? = some (.string ⟨ss[i].toArray⟩) := by
  intro i hi
  cases fuel with
  | zero => simp [DataW.trod] at h
  | succ fuel =>
    simp only [DataW.trod, ht, hce, hct, Nat.mul_one] at h
    split at h
    · rename_i hl
      obtain ⟨xs, hm, hx⟩ := Option.map_eq_some_iff.1 h
      have hxs : xs.map (·.1) = ss.map fun s => (DataW.lit (.string s) : DataW H) := by
        have := congrArg Prod.fst hx
        simpa using this
      have hxl : xs.length = n := by have := Lib.mapM_length hm; rw [this]; exact List.length_range
      have hsl : ss.length = n := by
        have := congrArg List.length hxs
        simp at this
        omega
      obtain ⟨b, hb, hf⟩ := Lib.mapM_at hm i i (by rw [List.getElem?_range (by omega)])
      obtain ⟨s, hc, rfl, _⟩ := DataW.trod_string he hf
      have h1 : cs[i]? = some (.string s) := by
        have := congrArg (·[0]?) hc
        simpa [List.getElem?_take, List.getElem?_drop] using this
      have h2 : (xs.map (·.1))[i]? = some (DataW.lit (.string s.data.toList) : DataW H) := by simp [hb]
      rw [hxs] at h2
      simp [hi] at h2
      rw [h1, h2]
    · cases h
theorem laidS_of_head {P : Program} {W : World} {name : String} {ss : List (List UInt8)} {rest : List (String × DataW Unit)} {g : Nat} {t e : TypeId} {n : Nat}
    (hg : P.globalNamed name = some g) (hty : (P.globals[g]?).map (·.type) = some t) (ht : P.underlying t = some (.array n e)) (he : P.underlying e = some .string) (hce : P.cellsOf e = 1) (hct : P.cellsOf t = n)
    (h : laidMet P ((name, .agg (ss.map fun s => .lit (.string s))) :: rest) W) : ∀ i (hi : i < ss.length), W.cell? ⟨g, i, none⟩ = some (.string ⟨ss[i].toArray⟩) := by
  obtain ⟨ps, ⟨g', t', cs, fuel, p, q, hg', ht', hvar, hd, _, _⟩, _⟩ := h
  obtain rfl := Option.some.inj (hg.symm.trans hg')
  obtain rfl := Option.some.inj (hty.symm.trans ht')
  intro i hi
  have h1 := cells_of_strs ht he hce hct hd i hi
  have := World.var?_cell hg hvar i
  rw [this]
  simpa using h1
--
set_option maxRecDepth 100000 in
theorem l30Names_any (w : World) : Calls Tryd.prog 52 #[] w fun e w' => ∃ v, e = .returned v ∧ Strs w' v names9 ∧ Keeps w w' := by
  go_enter Tryd.func52, Tryd.ntmps52
  go_wp2
  go_ret
  exact ⟨_, rfl, Strs.lit (w := w) names9 (by simp [names9]), (Keeps.refl w).alloc _⟩
end Go.Proofs.YtpbjeoigpbnekaaDoor
/- Where a name stands in the table of the intermediate logics: both sides. -/
namespace Go.Proofs.YtpbjeoigpbnekaaDoor
open Go.RowKit
/-- where a text stands in a list, or -1 -/
def findS (ss : List ByteArray) (name : ByteArray) : Int := idxOf (fun s => s.toList == name.toList) ss 0
theorem idxOf_range {α : Type} (pr : α → Bool) (l : List α) : ∀ k, idxOf pr l k = -1 ∨ ∃ j, j < l.length ∧ idxOf pr l k = ((k + j : Nat) : Int) := by
  induction l with
  | nil => intro k; exact .inl rfl
  | cons x l ih =>
    intro k
    unfold idxOf
    split
    · exact .inr ⟨0, by simp, rfl⟩
    · rcases ih (k + 1) with h | ⟨j, hj, h⟩
      · exact .inl h
      · exact .inr ⟨j + 1, by simpa using hj, by rw [h]; congr 1; omega⟩
--
set_option maxRecDepth 20000 in
set_option maxHeartbeats 1000000 in
theorem l09Find_any (ss : List ByteArray) (name : ByteArray) (v : Value) (w : World) (hv : Strs w v ss) :
    Calls Tryd.prog 56 #[v, .string name] w fun e w' => e = .returned (.int .i64 (findS ss name)) ∧ w = w' := by
  obtain ⟨p, cap, rfl, hle, hmx, hlen⟩ := hv.shape
  unfold maxLen at hmx
  have hV := hid hv; clear hv
  go_enter Tryd.func56, Tryd.ntmps56
  go_wp2
  go_loop [4, 5] (fun r i' => ∃ i : Nat, i ≤ ss.length ∧ i' = .int .i64 i ∧ r = .int .i64 0 ∧ findS ss name = idxOf (fun s => s.toList == name.toList) (ss.drop i) i) (fun _ i => ss.length - (intOf i).toNat)
  case atStart => exact ⟨0, by omega, rfl, rfl, rfl⟩
  case round =>
    obtain ⟨i, hi, rfl, rfl, hf⟩ := hrel
    have HF := hid hf; clear hf
    by_cases hlt : i < ss.length
    · obtain ⟨b, off, rfl, hc⟩ := hV.out.get i hlt
      have hlt' : (i : Int) < ss.length := by omega
      cases he : (ss[i].toList == name.toList)
      · go_wp2
        go_round
        case rel => exact ⟨i + 1, by omega, by go_num, rfl, by rw [HF.out, idxOf_drop _ _ _ hlt, he]; rfl⟩
        case measure => simp [intOf]; omega
      · go_wp2
        go_ret
        exact ⟨ret_int (by rw [HF.out, idxOf_drop _ _ _ hlt, he]; rfl), rfl⟩
    · go_wp2
      go_ret
      exact ⟨ret_int (by rw [HF.out, idxOf_end _ _ _ (by omega)]), rfl⟩
--
set_option maxRecDepth 20000 in
set_option maxHeartbeats 1000000 in
theorem intermediateAt_any (name : ByteArray) (w : World) (hL : LaidS 0 names9 w) :
    Calls Tryd.prog 21 #[.string name] w fun e w' => e = .returned (.int .i64 (findS names9 name)) ∧ w = w' := by
  have c0 := hL 0 (by decide)
  have c1 := hL 1 (by decide)
  have c2 := hL 2 (by decide)
  have c3 := hL 3 (by decide)
  have c4 := hL 4 (by decide)
  have c5 := hL 5 (by decide)
  have c6 := hL 6 (by decide)
  have c7 := hL 7 (by decide)
  have c8 := hL 8 (by decide)
  clear hL
  simp only [names9, List.getElem_cons_zero, List.getElem_cons_succ] at c0 c1 c2 c3 c4 c5 c6 c7 c8
  go_enter Tryd.func21, Tryd.ntmps21
  go_wp2
  go_loop [2, 6] (fun r i' => ∃ i : Nat, i ≤ 9 ∧ i' = .int .i64 i ∧ r = .int .i64 0 ∧ findS names9 name = idxOf (fun s => s.toList == name.toList) (names9.drop i) i) (fun _ i => 9 - (intOf i).toNat)
  case atStart => exact ⟨0, by omega, rfl, rfl, rfl⟩
  case round =>
    obtain ⟨i, hi, rfl, rfl, hf⟩ := hrel
    have HF := hid hf; clear hf
    have hi9 : i = 0 ∨ i = 1 ∨ i = 2 ∨ i = 3 ∨ i = 4 ∨ i = 5 ∨ i = 6 ∨ i = 7 ∨ i = 8 ∨ i = 9 := by omega
    rcases hi9 with rfl | rfl | rfl | rfl | rfl | rfl | rfl | rfl | rfl | rfl
    · have hix : (Instr.index 60 (.agg #[.string ⟨#[66, 68, 50]⟩, .string ⟨#[66, 68, 51]⟩, .string ⟨#[66, 87, 50]⟩, .string ⟨#[66, 87, 51]⟩, .string ⟨#[67, 76]⟩, .string ⟨#[73, 110, 116]⟩, .string ⟨#[75, 67]⟩, .string ⟨#[76, 67]⟩, .string ⟨#[83, 109, 76]⟩]) (.int .i64 0)).run Tryd.prog w = .ok (.string ⟨#[66, 68, 50]⟩) w := by kernel_rfl
      have htl : (⟨#[66, 68, 50]⟩ : ByteArray).toList = [66, 68, 50] := by simp
      cases he : (([66, 68, 50] : List UInt8) == name.toList)
      · go_wp2
        go_round
        case rel => exact ⟨1, by omega, by first | rfl | go_num, rfl, by rw [HF.out, idxOf_drop _ _ _ (show 0 < names9.length by decide)]; rw [show names9[0]'(show 0 < names9.length by decide) = ⟨#[66, 68, 50]⟩ from rfl, htl, he]; rfl⟩
        case measure => simp [intOf]
      · go_wp2
        go_ret
        exact ⟨ret_int (by rw [HF.out, idxOf_drop _ _ _ (show 0 < names9.length by decide)]; rw [show names9[0]'(show 0 < names9.length by decide) = ⟨#[66, 68, 50]⟩ from rfl, htl, he]; rfl), rfl⟩
    · have hix : (Instr.index 60 (.agg #[.string ⟨#[66, 68, 50]⟩, .string ⟨#[66, 68, 51]⟩, .string ⟨#[66, 87, 50]⟩, .string ⟨#[66, 87, 51]⟩, .string ⟨#[67, 76]⟩, .string ⟨#[73, 110, 116]⟩, .string ⟨#[75, 67]⟩, .string ⟨#[76, 67]⟩, .string ⟨#[83, 109, 76]⟩]) (.int .i64 1)).run Tryd.prog w = .ok (.string ⟨#[66, 68, 51]⟩) w := by kernel_rfl
      have htl : (⟨#[66, 68, 51]⟩ : ByteArray).toList = [66, 68, 51] := by simp
      cases he : (([66, 68, 51] : List UInt8) == name.toList)
      · go_wp2
        go_round
        case rel => exact ⟨2, by omega, by first | rfl | go_num, rfl, by rw [HF.out, idxOf_drop _ _ _ (show 1 < names9.length by decide)]; rw [show names9[1]'(show 1 < names9.length by decide) = ⟨#[66, 68, 51]⟩ from rfl, htl, he]; rfl⟩
        case measure => simp [intOf]
      · go_wp2
        go_ret
        exact ⟨ret_int (by rw [HF.out, idxOf_drop _ _ _ (show 1 < names9.length by decide)]; rw [show names9[1]'(show 1 < names9.length by decide) = ⟨#[66, 68, 51]⟩ from rfl, htl, he]; rfl), rfl⟩
    · have hix : (Instr.index 60 (.agg #[.string ⟨#[66, 68, 50]⟩, .string ⟨#[66, 68, 51]⟩, .string ⟨#[66, 87, 50]⟩, .string ⟨#[66, 87, 51]⟩, .string ⟨#[67, 76]⟩, .string ⟨#[73, 110, 116]⟩, .string ⟨#[75, 67]⟩, .string ⟨#[76, 67]⟩, .string ⟨#[83, 109, 76]⟩]) (.int .i64 2)).run Tryd.prog w = .ok (.string ⟨#[66, 87, 50]⟩) w := by kernel_rfl
      have htl : (⟨#[66, 87, 50]⟩ : ByteArray).toList = [66, 87, 50] := by simp
      cases he : (([66, 87, 50] : List UInt8) == name.toList)
      · go_wp2
        go_round
        case rel => exact ⟨3, by omega, by first | rfl | go_num, rfl, by rw [HF.out, idxOf_drop _ _ _ (show 2 < names9.length by decide)]; rw [show names9[2]'(show 2 < names9.length by decide) = ⟨#[66, 87, 50]⟩ from rfl, htl, he]; rfl⟩
        case measure => simp [intOf]
      · go_wp2
        go_ret
        exact ⟨ret_int (by rw [HF.out, idxOf_drop _ _ _ (show 2 < names9.length by decide)]; rw [show names9[2]'(show 2 < names9.length by decide) = ⟨#[66, 87, 50]⟩ from rfl, htl, he]; rfl), rfl⟩
    · have hix : (Instr.index 60 (.agg #[.string ⟨#[66, 68, 50]⟩, .string ⟨#[66, 68, 51]⟩, .string ⟨#[66, 87, 50]⟩, .string ⟨#[66, 87, 51]⟩, .string ⟨#[67, 76]⟩, .string ⟨#[73, 110, 116]⟩, .string ⟨#[75, 67]⟩, .string ⟨#[76, 67]⟩, .string ⟨#[83, 109, 76]⟩]) (.int .i64 3)).run Tryd.prog w = .ok (.string ⟨#[66, 87, 51]⟩) w := by kernel_rfl
      have htl : (⟨#[66, 87, 51]⟩ : ByteArray).toList = [66, 87, 51] := by simp
      cases he : (([66, 87, 51] : List UInt8) == name.toList)
      · go_wp2
        go_round
        case rel => exact ⟨4, by omega, by first | rfl | go_num, rfl, by rw [HF.out, idxOf_drop _ _ _ (show 3 < names9.length by decide)]; rw [show names9[3]'(show 3 < names9.length by decide) = ⟨#[66, 87, 51]⟩ from rfl, htl, he]; rfl⟩
        case measure => simp [intOf]
      · go_wp2
        go_ret
        exact ⟨ret_int (by rw [HF.out, idxOf_drop _ _ _ (show 3 < names9.length by decide)]; rw [show names9[3]'(show 3 < names9.length by decide) = ⟨#[66, 87, 51]⟩ from rfl, htl, he]; rfl), rfl⟩
    · have hix : (Instr.index 60 (.agg #[.string ⟨#[66, 68, 50]⟩, .string ⟨#[66, 68, 51]⟩, .string ⟨#[66, 87, 50]⟩, .string ⟨#[66, 87, 51]⟩, .string ⟨#[67, 76]⟩, .string ⟨#[73, 110, 116]⟩, .string ⟨#[75, 67]⟩, .string ⟨#[76, 67]⟩, .string ⟨#[83, 109, 76]⟩]) (.int .i64 4)).run Tryd.prog w = .ok (.string ⟨#[67, 76]⟩) w := by kernel_rfl
      have htl : (⟨#[67, 76]⟩ : ByteArray).toList = [67, 76] := by simp
      cases he : (([67, 76] : List UInt8) == name.toList)
      · go_wp2
        go_round
        case rel => exact ⟨5, by omega, by first | rfl | go_num, rfl, by rw [HF.out, idxOf_drop _ _ _ (show 4 < names9.length by decide)]; rw [show names9[4]'(show 4 < names9.length by decide) = ⟨#[67, 76]⟩ from rfl, htl, he]; rfl⟩
        case measure => simp [intOf]
      · go_wp2
        go_ret
        exact ⟨ret_int (by rw [HF.out, idxOf_drop _ _ _ (show 4 < names9.length by decide)]; rw [show names9[4]'(show 4 < names9.length by decide) = ⟨#[67, 76]⟩ from rfl, htl, he]; rfl), rfl⟩
    · have hix : (Instr.index 60 (.agg #[.string ⟨#[66, 68, 50]⟩, .string ⟨#[66, 68, 51]⟩, .string ⟨#[66, 87, 50]⟩, .string ⟨#[66, 87, 51]⟩, .string ⟨#[67, 76]⟩, .string ⟨#[73, 110, 116]⟩, .string ⟨#[75, 67]⟩, .string ⟨#[76, 67]⟩, .string ⟨#[83, 109, 76]⟩]) (.int .i64 5)).run Tryd.prog w = .ok (.string ⟨#[73, 110, 116]⟩) w := by kernel_rfl
      have htl : (⟨#[73, 110, 116]⟩ : ByteArray).toList = [73, 110, 116] := by simp
      cases he : (([73, 110, 116] : List UInt8) == name.toList)
      · go_wp2
        go_round
        case rel => exact ⟨6, by omega, by first | rfl | go_num, rfl, by rw [HF.out, idxOf_drop _ _ _ (show 5 < names9.length by decide)]; rw [show names9[5]'(show 5 < names9.length by decide) = ⟨#[73, 110, 116]⟩ from rfl, htl, he]; rfl⟩
        case measure => simp [intOf]
      · go_wp2
        go_ret
        exact ⟨ret_int (by rw [HF.out, idxOf_drop _ _ _ (show 5 < names9.length by decide)]; rw [show names9[5]'(show 5 < names9.length by decide) = ⟨#[73, 110, 116]⟩ from rfl, htl, he]; rfl), rfl⟩
    · have hix : (Instr.index 60 (.agg #[.string ⟨#[66, 68, 50]⟩, .string ⟨#[66, 68, 51]⟩, .string ⟨#[66, 87, 50]⟩, .string ⟨#[66, 87, 51]⟩, .string ⟨#[67, 76]⟩, .string ⟨#[73, 110, 116]⟩, .string ⟨#[75, 67]⟩, .string ⟨#[76, 67]⟩, .string ⟨#[83, 109, 76]⟩]) (.int .i64 6)).run Tryd.prog w = .ok (.string ⟨#[75, 67]⟩) w := by kernel_rfl
      have htl : (⟨#[75, 67]⟩ : ByteArray).toList = [75, 67] := by simp
      cases he : (([75, 67] : List UInt8) == name.toList)
      · go_wp2
        go_round
        case rel => exact ⟨7, by omega, by first | rfl | go_num, rfl, by rw [HF.out, idxOf_drop _ _ _ (show 6 < names9.length by decide)]; rw [show names9[6]'(show 6 < names9.length by decide) = ⟨#[75, 67]⟩ from rfl, htl, he]; rfl⟩
        case measure => simp [intOf]
      · go_wp2
        go_ret
        exact ⟨ret_int (by rw [HF.out, idxOf_drop _ _ _ (show 6 < names9.length by decide)]; rw [show names9[6]'(show 6 < names9.length by decide) = ⟨#[75, 67]⟩ from rfl, htl, he]; rfl), rfl⟩
    · have hix : (Instr.index 60 (.agg #[.string ⟨#[66, 68, 50]⟩, .string ⟨#[66, 68, 51]⟩, .string ⟨#[66, 87, 50]⟩, .string ⟨#[66, 87, 51]⟩, .string ⟨#[67, 76]⟩, .string ⟨#[73, 110, 116]⟩, .string ⟨#[75, 67]⟩, .string ⟨#[76, 67]⟩, .string ⟨#[83, 109, 76]⟩]) (.int .i64 7)).run Tryd.prog w = .ok (.string ⟨#[76, 67]⟩) w := by kernel_rfl
      have htl : (⟨#[76, 67]⟩ : ByteArray).toList = [76, 67] := by simp
      cases he : (([76, 67] : List UInt8) == name.toList)
      · go_wp2
        go_round
        case rel => exact ⟨8, by omega, by first | rfl | go_num, rfl, by rw [HF.out, idxOf_drop _ _ _ (show 7 < names9.length by decide)]; rw [show names9[7]'(show 7 < names9.length by decide) = ⟨#[76, 67]⟩ from rfl, htl, he]; rfl⟩
        case measure => simp [intOf]
      · go_wp2
        go_ret
        exact ⟨ret_int (by rw [HF.out, idxOf_drop _ _ _ (show 7 < names9.length by decide)]; rw [show names9[7]'(show 7 < names9.length by decide) = ⟨#[76, 67]⟩ from rfl, htl, he]; rfl), rfl⟩
    · have hix : (Instr.index 60 (.agg #[.string ⟨#[66, 68, 50]⟩, .string ⟨#[66, 68, 51]⟩, .string ⟨#[66, 87, 50]⟩, .string ⟨#[66, 87, 51]⟩, .string ⟨#[67, 76]⟩, .string ⟨#[73, 110, 116]⟩, .string ⟨#[75, 67]⟩, .string ⟨#[76, 67]⟩, .string ⟨#[83, 109, 76]⟩]) (.int .i64 8)).run Tryd.prog w = .ok (.string ⟨#[83, 109, 76]⟩) w := by kernel_rfl
      have htl : (⟨#[83, 109, 76]⟩ : ByteArray).toList = [83, 109, 76] := by simp
      cases he : (([83, 109, 76] : List UInt8) == name.toList)
      · go_wp2
        go_round
        case rel => exact ⟨9, by omega, by first | rfl | go_num, rfl, by rw [HF.out, idxOf_drop _ _ _ (show 8 < names9.length by decide)]; rw [show names9[8]'(show 8 < names9.length by decide) = ⟨#[83, 109, 76]⟩ from rfl, htl, he]; rfl⟩
        case measure => simp [intOf]
      · go_wp2
        go_ret
        exact ⟨ret_int (by rw [HF.out, idxOf_drop _ _ _ (show 8 < names9.length by decide)]; rw [show names9[8]'(show 8 < names9.length by decide) = ⟨#[83, 109, 76]⟩ from rfl, htl, he]; rfl), rfl⟩
    · go_wp2
      go_ret
      exact ⟨ret_int (by rw [HF.out]; rfl), rfl⟩
theorem find9 (name : ByteArray) : findS names9 name = -1 ∨ ∃ k : Nat, k < 9 ∧ findS names9 name = k := by
  rcases idxOf_range (fun s => s.toList == name.toList) names9 0 with h | ⟨j, hj, h⟩
  · exact .inl h
  · exact .inr ⟨j, hj, by rw [show findS names9 name = _ from h]; simp⟩
--
set_option maxRecDepth 20000 in
set_option maxHeartbeats 1000000 in
theorem l30Known_any (name : ByteArray) (w : World) : Calls Tryd.prog 29 #[.string name] w fun e w' => e = .returned (.bool (decide (0 ≤ findS names9 name))) ∧ Keeps w w' := by
  go_enter Tryd.func29, Tryd.ntmps29
  go_wp2_with fail
  refine (l30Names_any w).mono ?_; rintro e w1 ⟨v1, rfl, hv1, k1⟩
  go_wp2_with fail
  refine (l09Find_any names9 name _ _ hv1).mono ?_; rintro e w' ⟨rfl, rfl⟩
  go_wp2_with fail
  go_ret
  exact ⟨ret_bool (by first | rfl | (rw [decide_eq_decide]) | simp), k1⟩
end Go.Proofs.YtpbjeoigpbnekaaDoor
/- The law of IsPosetOf. -/
namespace Go.Proofs.YtpbjeoigpbnekaaDoor
open Go.RowKit
--
set_option maxRecDepth 20000 in
set_option maxHeartbeats 8000000 in
theorem lawIsPosetOf (n0 : Int) (a0 : List Int) (v0 : Value) (s1 : ByteArray) (r : Bool) (c : Int) (hs : ∀ (v0' : Value) (w : World), Ints w v0' a0 → LaidS 0 names9 w → Calls Tryd.prog 6 #[.agg #[.int .i64 n0, v0'], .string s1] w (fun e w' => e = .returned (.tuple #[.bool r, .int .i64 c]) ∧ Keeps w w')) (hi : ∀ (v0' : Value) (w : World), Ints w v0' a0 → LaidS 0 names9 w → Calls Tryd.prog 8 #[.agg #[.int .i64 n0, v0'], .string s1] w (fun e w' => e = .returned (.tuple #[.bool r, .int .i64 c]) ∧ Keeps w w')) (w : World) (hv0 : Ints w v0 a0)  (hsum : a0.length ≤ 1048576) (hlen1 : s1.size ≤ 1048576) (hL : LaidS 0 names9 w) :
    Calls Tryd.prog 3 #[.agg #[.int .i64 n0, v0], .string s1] w fun e w' => e = .returned (.bool true) ∧ Keeps w w' := by
  have HS := hid hs; clear hs
  have HI := hid hi; clear hi
  obtain ⟨v0p, v0m, v0q, rfl⟩ := hv0.shape
  obtain ⟨hn, hxv0⟩ : v0m = a0.length ∧ v0m ≤ maxLen := by obtain ⟨_, _, e, h1, h2, _⟩ := hv0; cases e; exact ⟨rfl, by omega⟩
  subst hn
  have kP : Keeps w (w.alloc (.cells #[.int .i64 n0, .slice v0p a0.length v0q] 24)) := ((Keeps.refl w).alloc (.cells #[.int .i64 n0, .slice v0p a0.length v0q] 24))
  have pc00 : (w.alloc (.cells #[.int .i64 n0, .slice v0p a0.length v0q] 24)).cell? ⟨w.heap.size, 0, none⟩ = some (.int .i64 n0) := by simp
  have pc01 : (w.alloc (.cells #[.int .i64 n0, .slice v0p a0.length v0q] 24)).cell? ⟨w.heap.size, 1, none⟩ = some (.slice v0p a0.length v0q) := by simp
  replace hv0 := hv0.keeps kP
  replace hL := hL.keeps kP
  have kW := Keeps.refl (w.alloc (.cells #[.int .i64 n0, .slice v0p a0.length v0q] 24))
  have HL := hid hL; clear hL
  go_enter Tryd.func3, Tryd.ntmps3
  have qc0 := kW.cell pc00
  have qc1 := kW.cell pc01
  go_wp2_with fail
  refine (szPoset_any n0 v0p a0.length v0q (1048576) _ hxv0 (by omega) (by omega)).mono ?_; rintro e w1 ⟨rfl, kw1⟩
  replace kW := kW.trans kw1
  rw [if_neg (by omega)]
  clear qc0 qc1
  have hp0 : (0 : Int) ≤ 1048576 - (a0.length : Int) := by omega
  clear hxv0
  have qc0 := kW.cell pc00
  have qc1 := kW.cell pc01
  go_wp2_with fail
  refine (toPoset_any n0 a0 _ _ (hv0.keeps kW)).mono ?_; rintro e w2 ⟨s0a, rfl, hs0, kw2⟩
  replace kW := kW.trans kw2
  clear qc0 qc1
  have kS0 := Keeps.refl w2
  go_wp2_with fail
  refine (HS.out _ _ ((hs0.keeps kS0).ints (by omega)) (HL.out.keeps kW)).mono ?_; rintro e w3 ⟨rfl, kw3⟩
  replace kW := kW.trans kw3
  replace kS0 := kS0.trans kw3
  clear hs0 kS0
  have qc0 := kW.cell pc00
  have qc1 := kW.cell pc01
  go_wp2_with fail
  refine (toPoset_any n0 a0 _ _ (hv0.keeps kW)).mono ?_; rintro e w4 ⟨x0a, rfl, hx0, kw4⟩
  replace kW := kW.trans kw4
  clear qc0 qc1
  have kX0 := Keeps.refl w4
  obtain ⟨x0ap, x0am, x0aq, rfl⟩ := hx0.shape0
  have kb := (Keeps.refl w4).alloc (.cells #[.int .i64 n0, .slice x0ap x0am x0aq] 28)
  replace kW := kW.trans kb
  replace kX0 := kX0.trans kb
  have xc00 : (w4.alloc (.cells #[.int .i64 n0, .slice x0ap x0am x0aq] 28)).cell? ⟨w4.heap.size, 0, none⟩ = some (.int .i64 n0) := by simp
  have xc01 : (w4.alloc (.cells #[.int .i64 n0, .slice x0ap x0am x0aq] 28)).cell? ⟨w4.heap.size, 1, none⟩ = some (.slice x0ap x0am x0aq) := by simp
  have kB0 := Keeps.refl (w4.alloc (.cells #[.int .i64 n0, .slice x0ap x0am x0aq] 28))
  clear kb
  have yc00 := kB0.cell xc00
  have yc01 := kB0.cell xc01
  go_wp2_with fail
  refine (HI.out _ _ ((hx0.keeps kX0).ints (by omega)) (HL.out.keeps kW)).mono ?_; rintro e w5 ⟨rfl, kw5⟩
  replace kW := kW.trans kw5
  replace kX0 := kX0.trans kw5
  replace kB0 := kB0.trans kw5
  clear yc00 yc01
  go_wp2_with fail
  have kd := (Keeps.refl w5).drew
  replace kW := kW.trans kd
  replace kX0 := kX0.trans kd
  replace kB0 := kB0.trans kd
  have ya0 := kB0.cell xc00
  have ya1 := kB0.cell xc01
  have qc0 := kW.cell pc00
  have qc1 := kW.cell pc01
  have HR := hid (toPoset_any n0 a0 _ _ (hv0.keeps kW))
  have HQ := hid (fun (w' : World) (k' : Keeps w5.drew w') v h1 => eqPoset_same n0 a0 _ v w' ((hx0.keeps (kX0.trans k')).ints (by omega)) h1)
  go_region_held3 (fun w' => w'.cell? ⟨w4.heap.size, 0, none⟩ = some (.int .i64 n0) ∧ w'.cell? ⟨w4.heap.size, 1, none⟩ = some (.slice x0ap x0am x0aq) ∧ w'.cell? ⟨w.heap.size, 0, none⟩ = some (.int .i64 n0) ∧ w'.cell? ⟨w.heap.size, 1, none⟩ = some (.slice v0p a0.length v0q)) (first | exact ⟨ya0, ya1, qc0, qc1⟩ | exact ⟨za0, za1, oc0, oc1⟩ | exact ⟨ta0, ta1, va0, va1⟩) (first | (go_at_call 7; refine HR.out.mono ?_; rintro e w6 ⟨ra, rfl, hr0, kw6⟩; have za0 := kw6.cell ya0; have za1 := kw6.cell ya1; have oc0 := kw6.cell qc0; have oc1 := kw6.cell qc1) | (go_at_call 9; refine (HQ.out w6 kw6 _ (hr0.ints (by omega))).mono ?_; rintro e w7 ⟨rfl, kw7⟩; have ta0 := kw7.cell za0; have ta1 := kw7.cell za1; have va0 := kw7.cell oc0; have va1 := kw7.cell oc1))
  replace kW := kW.trans (kw6.trans kw7)
  replace kX0 := kX0.trans (kw6.trans kw7)
  replace kB0 := kB0.trans (kw6.trans kw7)
  clear HR HQ hr0 ya0 qc0 za0 oc0 ta0 va0 ya1 qc1 za1 oc1 ta1 va1
  go_wp2_with fail
  go_ret
  exact ⟨rfl, kP.trans kW⟩
--
set_option maxRecDepth 20000 in
set_option maxHeartbeats 1000000 in
theorem lawIsPosetOfBig (n0 : Int) (vp0 : Option Addr) (vm0 vq0 : Nat) (s1 : ByteArray) (w : World) (hv0 : vm0 ≤ maxLen) (_hm1 : s1.size ≤ maxLen) (hb : ¬ (s1.size ≤ 1048576 ∧ vm0 ≤ 1048576)) :
    Calls Tryd.prog 3 #[.agg #[.int .i64 n0, .slice vp0 vm0 vq0], .string s1] w fun e w' => e = .returned (.bool true) ∧ Keeps w w' := by
  have kP : Keeps w (w.alloc (.cells #[.int .i64 n0, .slice vp0 vm0 vq0] 24)) := ((Keeps.refl w).alloc (.cells #[.int .i64 n0, .slice vp0 vm0 vq0] 24))
  by_cases c1 : s1.size ≤ 1048576
  case neg =>
    have hd : decide (((s1.size : Nat) : Int) > 1048576) = true := by simp; omega
    unfold maxLen at *
    clear hb
    go_enter Tryd.func3, Tryd.ntmps3
    go_wp2
    go_ret
    exact ⟨rfl, kP⟩
  have hlt : (1048576 : Int) < vm0 := by omega
  clear hb
  go_enter Tryd.func3, Tryd.ntmps3
  go_wp2_with fail
  refine (szPoset_any n0 vp0 vm0 vq0 (1048576) _ hv0 (by omega) (by omega)).mono ?_; rintro e w' ⟨rfl, kw⟩
  rw [if_pos (by omega)]
  go_wp2_with fail
  go_ret
  exact ⟨rfl, kP.trans kw⟩
end Go.Proofs.YtpbjeoigpbnekaaDoor
/- Masks as natural numbers: bits, members, images of masks, on both sides. -/
namespace Go.Proofs.YtpbjeoigpbnekaaDoor
open Go.RowKit
theorem wrapN (n : Nat) (h : n < 4611686018427387904) : IntKind.i64.wrap (n : Int) = n := by
  simp [IntKind.wrap, IntKind.bits, IntKind.signed]
  try (split <;> omega)
theorem ofIntN (a : Nat) (ha : a < 4611686018427387904) : (BitVec.ofInt 64 (a : Int)).toNat = a := by
  rw [BitVec.ofInt_natCast, BitVec.toNat_ofNat]; exact Nat.mod_eq_of_lt (by omega)
theorem orN (a b : Nat) (ha : a < 4611686018427387904) (hb : b < 4611686018427387904) : bits .or .i64 (a : Int) (b : Int) = ((a ||| b : Nat) : Int) := by
  have hx : a ||| b < 2 ^ 62 := Nat.or_lt_two_pow (by omega) (by omega)
  show IntKind.i64.wrap ((BitVec.ofInt 64 (a : Int) ||| BitVec.ofInt 64 (b : Int)).toNat : Int) = _
  rw [BitVec.toNat_or, ofIntN a ha, ofIntN b hb]
  exact wrapN _ (by omega)
theorem andN (a b : Nat) (ha : a < 4611686018427387904) (hb : b < 4611686018427387904) : bits .and .i64 (a : Int) (b : Int) = ((a &&& b : Nat) : Int) := by
  have hx : a &&& b < 2 ^ 62 := Nat.and_lt_two_pow _ (by omega)
  show IntKind.i64.wrap ((BitVec.ofInt 64 (a : Int) &&& BitVec.ofInt 64 (b : Int)).toNat : Int) = _
  rw [BitVec.toNat_and, ofIntN a ha, ofIntN b hb]
  exact wrapN _ (by omega)
theorem andNotN (a b : Nat) (ha : a < 4611686018427387904) (hb : b < 4611686018427387904) : bits .andNot .i64 (a : Int) (b : Int) = ((a ^^^ (a &&& b) : Nat) : Int) := by
  have h1 : a &&& b < 2 ^ 62 := Nat.and_lt_two_pow _ (by omega)
  have hx : a ^^^ (a &&& b) < 2 ^ 62 := Nat.xor_lt_two_pow (by omega) h1
  show IntKind.i64.wrap ((BitVec.ofInt 64 (a : Int) &&& ~~~BitVec.ofInt 64 (b : Int)).toNat : Int) = _
  have h2 : ∀ x y : BitVec 64, x &&& ~~~y = x ^^^ (x &&& y) := by
    intro x y
    apply BitVec.eq_of_getLsbD_eq
    intro i hi
    simp only [BitVec.getLsbD_and, BitVec.getLsbD_not, BitVec.getLsbD_xor, hi, decide_true, Bool.true_and]
    cases x.getLsbD i <;> cases y.getLsbD i <;> rfl
  rw [h2, BitVec.toNat_xor, BitVec.toNat_and, ofIntN a ha, ofIntN b hb]
  exact wrapN _ (by omega)
theorem bitN (m i : Nat) (hm : m < 4611686018427387904) : (bits BinOp.and IntKind.i64 ((m : Int) / 2 ^ i) 1 == 1) = m.testBit i := by
  have h1 : ((m : Int) / 2 ^ i) = ((m / 2 ^ i : Nat) : Int) := by push_cast; rfl
  have h2 : m / 2 ^ i < 4611686018427387904 := Nat.lt_of_le_of_lt (Nat.div_le_self _ _) hm
  rw [h1, show (1 : Int) = ((1 : Nat) : Int) from rfl, andN _ _ h2 (by omega), Nat.and_one_is_mod, Nat.testBit_eq_decide_div_mod_eq, Bool.eq_iff_iff, beq_iff_eq, decide_eq_true_eq]
  omega
theorem quietS {f : FuncId} {args : Array Value} {w : World} {n : Nat} {v : Value} (h : Calls Tryd.prog f args (w.drewN n) fun e w' => e = .returned v ∧ w.drewN n = w') :
    Calls Tryd.prog f args (w.drewN n) fun e w'' => e = .returned v ∧ ∃ m, w'' = w.drewN m := h.mono fun _ _ ⟨he, hm⟩ => ⟨he, n, hm.symm⟩
/-- one mask lies in another one: decided -/
def inB (a b : Nat) : Bool := a ^^^ (a &&& b) == 0
theorem inB_iff (a b : Nat) : inB a b = true ↔ ∀ i, a.testBit i = true → b.testBit i = true := by
  unfold inB
  rw [beq_iff_eq]
  constructor
  · intro h i hi
    have := congrArg (fun n => n.testBit i) h
    simp only [Nat.testBit_xor, Nat.testBit_and, Nat.zero_testBit, hi] at this
    simpa using this
  · intro h
    apply Nat.eq_of_testBit_eq
    intro i
    simp only [Nat.testBit_xor, Nat.testBit_and, Nat.zero_testBit]
    cases hi : a.testBit i
    · simp
    · simp [h i hi]
theorem withinN (a b : Nat) (ha : a < 4611686018427387904) (hb : b < 4611686018427387904) : (bits .andNot .i64 (a : Int) (b : Int) == 0) = inB a b := by
  rw [andNotN a b ha hb]
  unfold inB
  rw [Bool.eq_iff_iff, beq_iff_eq, beq_iff_eq]
  omega
/-- the members of a mask below a bound -/
def lowB (m i : Nat) : List Nat := (List.range i).filter (fun j => m.testBit j)
/-- numbers as integers -/
def zs (l : List Nat) : List Int := l.map Int.ofNat
theorem zs_length (l : List Nat) : (zs l).length = l.length := by simp [zs]
theorem zs_get (l : List Nat) (i : Nat) (h : i < (zs l).length) : (zs l)[i] = ((l[i]'(by simpa [zs] using h) : Nat) : Int) := by simp [zs]
theorem zs_snoc (l : List Nat) (x : Nat) : zs (l ++ [x]) = zs l ++ [(x : Int)] := by simp [zs]
theorem lowB_succ (m i : Nat) : lowB m (i + 1) = if m.testBit i then lowB m i ++ [i] else lowB m i := by
  unfold lowB
  rw [List.range_succ, List.filter_append]
  by_cases h : m.testBit i <;> simp [h]
theorem lowB_len (m : Nat) (i : Nat) : (lowB m i).length ≤ i := by
  unfold lowB
  exact Nat.le_trans (List.length_filter_le _ _) (by simp)
theorem lowB_more (m i : Nat) (h : m < 2 ^ i) : ∀ d, lowB m (i + d) = lowB m i
  | 0 => rfl
  | d + 1 => by
    rw [← Nat.add_assoc, lowB_succ, lowB_more m i h d]
    have : m.testBit (i + d) = false := Nat.testBit_lt_two_pow (Nat.lt_of_lt_of_le h (Nat.pow_le_pow_right (by omega) (by omega)))
    simp [this]
def memB (m : Nat) : List Nat := lowB m 8
theorem lowB_end (m i : Nat) (_hm : m < 256) (hi : i ≤ 8) (h : m / 2 ^ i = 0) : lowB m i = memB m := by
  have h1 : m < 2 ^ i := by
    have hp : 0 < 2 ^ i := Nat.two_pow_pos i
    rcases Nat.lt_or_ge m (2 ^ i) with h' | h'
    · exact h'
    · have := Nat.div_pos h' hp; omega
  have := lowB_more m i h1 (8 - i)
  rw [show i + (8 - i) = 8 by omega] at this
  exact this.symm
theorem memB_mem {m x : Nat} (h : x ∈ memB m) : x < 8 ∧ m.testBit x = true := by
  simpa [memB, lowB] using h
theorem memB_lt {m n x : Nat} (hm : m < 2 ^ n) (h : x ∈ memB m) : x < n := by
  have h1 := (memB_mem h).2
  rcases Nat.lt_or_ge x n with h2 | h2
  · exact h2
  · rw [Nat.testBit_lt_two_pow (Nat.lt_of_lt_of_le hm (Nat.pow_le_pow_right (by omega) h2))] at h1; cases h1
theorem getD_get {b : List Nat} {i : Nat} (h : i < b.length) : b.getD i 0 = b[i] := by simp [List.getD_eq_getElem?_getD, h]
theorem Ints.zs_cell {w : World} {p : Option Addr} {n cap : Nat} {l : List Nat} (h : Ints w (.slice p n cap) (zs l)) (i : Nat) (hi : i < l.length) :
    ∃ b o, p = some ⟨b, o, none⟩ ∧ w.cell? ⟨b, o + i, none⟩ = some (.int .i64 ((l.getD i 0 : Nat) : Int)) := by
  obtain ⟨_, _, e, _, _, hat, _⟩ := h
  cases e
  obtain ⟨b, o, e, h1⟩ := hat.int i (by rw [zs_length]; exact hi)
  rw [zs_get, ← getD_get] at h1
  exact ⟨b, o, e, h1⟩
theorem two8 {n : Nat} (hn : n ≤ 8) : 2 ^ n ≤ 256 := Nat.pow_le_pow_right (by omega) hn
--
theorem hasB_any (m i : Nat) (w : World) (hm : m < 256) (hi : i ≤ 8) : Calls Tryd.prog 76 #[.int .i64 m, .int .i64 i] w fun e w' => e = .returned (.bool (m.testBit i)) ∧ w = w' := by
  go_enter Tryd.func76, Tryd.ntmps76
  go_wp2
  go_ret
  exact ⟨ret_bool (bitN m i (by omega)), rfl⟩
--
theorem l01BitB_any (m i : Nat) (w : World) (hm : m < 256) (hi : i ≤ 8) : Calls Tryd.prog 87 #[.int .i64 m, .int .i64 i] w fun e w' => e = .returned (.bool (m.testBit i)) ∧ w = w' := by
  go_enter Tryd.func87, Tryd.ntmps87
  go_wp2
  go_ret
  exact ⟨ret_bool (bitN m i (by omega)), rfl⟩
--
theorem withinB_any (a b : Nat) (w : World) (ha : a < 256) (hb : b < 256) : Calls Tryd.prog 78 #[.int .i64 a, .int .i64 b] w fun e w' => e = .returned (.bool (inB a b)) ∧ w = w' :=
  (within_any a b w).mono (by rintro e w' ⟨rfl, rfl⟩; exact ⟨ret_bool (withinN a b (by omega) (by omega)), rfl⟩)
--
set_option maxHeartbeats 1000000 in
theorem membersB_any (m : Nat) (w : World) (hm : m < 256) : Calls Tryd.prog 94 #[.int .i64 m] w (RetI w (zs (memB m))) := by
  go_enter Tryd.func94, Tryd.ntmps94
  go_wp2
  go_loopw [3, 4] (fun o i' wr => ∃ i : Nat, i ≤ 8 ∧ i' = .int .i64 i ∧ OwnI wr w.heap.size o (zs (lowB m i)) ∧ Keeps w wr) (fun _ i _ => 9 - (intOf i).toNat)
  case atStart => exact ⟨0, by omega, rfl, by simpa [lowB, zs] using OwnI.nil w w.heap.size, Keeps.refl w⟩
  case round =>
    obtain ⟨i, hi, rfl, hown, kw⟩ := hrel
    have hcast : (m : Int) / 2 ^ i = ((m / 2 ^ i : Nat) : Int) := by push_cast; rfl
    by_cases hp : 0 < m / 2 ^ i
    · have hi8 : i < 8 := by
        rcases Nat.lt_or_ge i 8 with h | h
        · exact h
        · obtain rfl : i = 8 := by omega
          omega
      have hd : decide ((m : Int) / 2 ^ i > 0) = true := by rw [hcast]; simp only [decide_eq_true_eq]; omega
      have hd' : (0 : Int) < (m : Int) / 2 ^ i := by rw [hcast]; omega
      have hls := lowB_succ m i
      have hll := lowB_len m i
      have hzl := zs_length (lowB m i)
      have HH := hid (hasB_any m i wr hm (by omega))
      have HLS := hid hls; clear hls
      clear hcast hp
      cases hb : m.testBit i
      · rw [hb] at HH HLS
        clear hb
        go_wp2_with fail
        refine HH.out.mono ?_; rintro e w' ⟨rfl, rfl⟩
        go_wp2_with fail
        go_roundw
        case rel => exact ⟨i + 1, by omega, by go_num, by have h := HLS.out; simp only [Bool.false_eq_true, if_false] at h; rw [h]; exact hown, kw⟩
        case measure => simp [intOf]; omega
      · rw [hb] at HH HLS
        clear hb
        go_wp2_with fail
        refine HH.out.mono ?_; rintro e w' ⟨rfl, rfl⟩
        go_wp2_with (at_builtin; refine appI rfl _ _ rfl w.heap.size _ (zs (lowB m i)) rfl (hown.keeps ((Keeps.refl wr).alloc _)) _ [(i : Int)] rfl (Ints.lit1 wr i) (by have := kw.size; simp; omega) (by simp; omega) ?_; intro v1 w1 hv1 hg1 hr1; have k2 := (kw.alloc (.cells #[.int .i64 i] 2)).grown hg1 (by simpa using hr1))
        go_roundw
        case rel => exact ⟨i + 1, by omega, by go_num, by have h := HLS.out; simp only [if_true] at h; rw [h, zs_snoc]; exact hv1, k2⟩
        case measure => simp [intOf]; omega
    · have hz : m / 2 ^ i = 0 := Nat.eq_zero_of_not_pos hp
      have hd : decide ((m : Int) / 2 ^ i > 0) = false := by rw [hcast, hz]; rfl
      have hd' : ¬ (0 : Int) < (m : Int) / 2 ^ i := by rw [hcast, hz]; simp
      have hle := lowB_end m i hm hi hz
      rw [hle] at hown
      clear hle hz hp hcast
      go_wp2
      go_ret
      exact ⟨_, rfl, hown, kw⟩
/-- what the members of a mask see -/
def imgL (b : List Nat) (m : Nat) : Nat → Nat
  | 0 => 0
  | k + 1 => if m.testBit k then imgL b m k ||| b.getD k 0 else imgL b m k
def foldB (b : List Nat) (l : List Nat) : Nat := l.foldl (fun acc i => acc ||| b.getD i 0) 0
theorem foldB_snoc (b l : List Nat) (x : Nat) : foldB b (l ++ [x]) = foldB b l ||| b.getD x 0 := by simp [foldB, List.foldl_append]
theorem foldB_low (b : List Nat) (m : Nat) : ∀ k, foldB b (lowB m k) = imgL b m k
  | 0 => rfl
  | k + 1 => by
    rw [lowB_succ, imgL]
    split
    · rw [foldB_snoc, foldB_low b m k]
    · exact foldB_low b m k
theorem imgL_more (b : List Nat) (m i : Nat) (h : m < 2 ^ i) (d : Nat) : imgL b m (i + d) = imgL b m i := by
  rw [← foldB_low, ← foldB_low, lowB_more m i h d]
def img (b : List Nat) (m : Nat) : Nat := imgL b m b.length
theorem foldB_mem (b : List Nat) (m : Nat) (hb : b.length ≤ 8) (hm : m < 2 ^ b.length) : foldB b (memB m) = img b m := by
  unfold memB img
  rw [foldB_low, show 8 = b.length + (8 - b.length) by omega, imgL_more b m _ hm]
theorem getD_lt {b : List Nat} {n : Nat} (h : ∀ x ∈ b, x < 2 ^ n) (i : Nat) : b.getD i 0 < 2 ^ n := by
  rw [List.getD_eq_getElem?_getD]
  by_cases hi : i < b.length
  · simp only [List.getElem?_eq_getElem hi, Option.getD_some]; exact h _ (List.getElem_mem hi)
  · simp only [List.getElem?_eq_none (Nat.le_of_not_lt hi), Option.getD_none]; exact Nat.two_pow_pos n
theorem foldB_lt {b : List Nat} {n : Nat} (h : ∀ x ∈ b, x < 2 ^ n) (l : List Nat) : foldB b l < 2 ^ n := by
  have : ∀ (l : List Nat) (acc : Nat), acc < 2 ^ n → l.foldl (fun acc i => acc ||| b.getD i 0) acc < 2 ^ n := by
    intro l
    induction l with
    | nil => intro acc h; exact h
    | cons x l ih => intro acc hacc; exact ih _ (Nat.or_lt_two_pow hacc (getD_lt h x))
  exact this l 0 (Nat.two_pow_pos n)
theorem imgL_lt {b : List Nat} {n : Nat} (h : ∀ x ∈ b, x < 2 ^ n) (m k : Nat) : imgL b m k < 2 ^ n := by rw [← foldB_low]; exact foldB_lt h _
theorem img_lt {b : List Nat} {n : Nat} (h : ∀ x ∈ b, x < 2 ^ n) (m : Nat) : img b m < 2 ^ n := imgL_lt h m _
--
set_option maxHeartbeats 1000000 in
theorem l01Image_any (b : List Nat) (m : Nat) (v : Value) (w : World) (hv : Ints w v (zs b)) (hb : b.length ≤ 8) (hbm : ∀ x ∈ b, x < 2 ^ b.length) (hm : m < 2 ^ b.length) :
    Calls Tryd.prog 88 #[v, .int .i64 m] w fun e w' => e = .returned (.int .i64 (img b m)) ∧ w = w' := by
  obtain ⟨p, cap, rfl, hle, hmx, hat, _⟩ := hv
  unfold maxLen at hmx
  rw [zs_length] at *
  have h256 := two8 hb
  have hm256 := Nat.lt_of_lt_of_le hm h256
  have HB := hid (fun i w2 (hi : i ≤ 8) => l01BitB_any m i w2 hm256 hi)
  have HL := hid (fun k => imgL_lt (b := b) hbm m k)
  have HG := hid (getD_lt (b := b) hbm)
  clear hm hbm
  go_enter Tryd.func88, Tryd.ntmps88
  go_wp2
  go_loop [5, 6] (fun o i' => ∃ i : Nat, i ≤ b.length ∧ i' = .int .i64 i ∧ o = .int .i64 (imgL b m i)) (fun _ i => b.length - (intOf i).toNat)
  case atStart => exact ⟨0, by omega, rfl, rfl⟩
  case round =>
    obtain ⟨i, hi, rfl, rfl⟩ := hrel
    by_cases hlt : i < b.length
    · obtain ⟨b2, o2, rfl, h2⟩ := hat.int i (by rw [zs_length]; exact hlt)
      rw [zs_get] at h2
      have hst : imgL b m (i + 1) = if m.testBit i then imgL b m i ||| b.getD i 0 else imgL b m i := rfl
      rw [getD_get hlt] at hst
      have hor := orN (imgL b m i) b[i] (Nat.lt_of_lt_of_le (HL.out _) (by omega)) (by rw [← getD_get hlt]; exact Nat.lt_of_lt_of_le (HG.out _) (by omega))
      have hlt' : (i : Int) < b.length := by omega
      have HH := hid (HB.out i w (by omega))
      have HO := hid hor; clear hor
      have HS := hid hst; clear hst
      clear hat
      generalize b[i] = y at *
      cases hbit : m.testBit i
      · rw [hbit] at HH HS
        clear hbit
        go_wp2_with fail
        refine HH.out.mono ?_; rintro e w' ⟨rfl, rfl⟩
        go_wp2_with fail
        go_round
        case rel => exact ⟨i + 1, by omega, by go_num, by have h := HS.out; simp only [Bool.false_eq_true, if_false] at h; rw [h]⟩
        case measure => simp [intOf]; omega
      · rw [hbit] at HH HS
        clear hbit
        go_wp2_with fail
        refine HH.out.mono ?_; rintro e w' ⟨rfl, rfl⟩
        go_wp2_with fail
        go_round
        case rel => exact ⟨i + 1, by omega, by go_num, by have h := HS.out; simp only [if_true] at h; rw [h, HO.out]⟩
        case measure => simp [intOf]; omega
    · have hlt' : ¬ (i : Int) < b.length := by omega
      obtain rfl : i = b.length := by omega
      go_wp2
      go_ret
      exact ⟨rfl, rfl⟩
end Go.Proofs.YtpbjeoigpbnekaaDoor
