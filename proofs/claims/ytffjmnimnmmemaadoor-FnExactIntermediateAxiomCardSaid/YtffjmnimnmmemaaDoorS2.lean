/- Walks: the axioms of the intermediate logics on both sides, and their law. -/
import Derived.Test.YtffjmnimnmmemaaDoorS1
import Derived.Test.YtffjmnimnmmemaaDoorP6
namespace Go.Proofs.YtffjmnimnmmemaaDoor
open Go.RowKit
def texts9 : List ByteArray := [⟨#[112, 124, 40, 112, 62, 113, 124, 126, 113, 41]⟩, ⟨#[112, 124, 40, 112, 62, 113, 124, 40, 113, 62, 114, 124, 126, 114, 41, 41]⟩,
  ⟨#[40, 112, 62, 113, 124, 114, 41, 124, 40, 113, 62, 112, 124, 114, 41, 124, 40, 114, 62, 112, 124, 113, 41]⟩,
  ⟨#[40, 112, 62, 113, 124, 114, 124, 115, 41, 124, 40, 113, 62, 112, 124, 114, 124, 115, 41, 124, 40, 114, 62, 112, 124, 113, 124, 115, 41, 124, 40, 115, 62, 112, 124, 113, 124, 114, 41]⟩,
  ⟨#[112, 124, 126, 112]⟩, ⟨#[84]⟩, ⟨#[126, 112, 124, 126, 126, 112]⟩, ⟨#[40, 112, 62, 113, 41, 124, 40, 113, 62, 112, 41]⟩, ⟨#[112, 124, 40, 112, 62, 113, 41, 124, 126, 113]⟩]
namespace Ax
def p : Fm := .var 0
def q : Fm := .var 1
def r : Fm := .var 2
def s : Fm := .var 3
end Ax
open Ax in
def forms9 : List Fm := [.or p (.imp p (.or q (.imp q .fls))), .or p (.imp p (.or q (.imp q (.or r (.imp r .fls))))),
  .or (.or (.imp p (.or q r)) (.imp q (.or p r))) (.imp r (.or p q)),
  .or (.or (.or (.imp p (.or (.or q r) s)) (.imp q (.or (.or p r) s))) (.imp r (.or (.or p q) s))) (.imp s (.or (.or p q) r)),
  .or p (.imp p .fls), .imp .fls .fls, .or (.imp p .fls) (.imp (.imp p .fls) .fls), .or (.imp p q) (.imp q p), .or (.or p (.imp p q)) (.imp q .fls)]
theorem forms9_ok : ∀ k, k < 9 → bts (texts9.getD k ⟨#[]⟩) = (forms9.getD k .fls).body ∧ (texts9.getD k ⟨#[]⟩).size ≤ 200 ∧ (forms9.getD k .fls).enc.length ≤ 40 := by
  decide +kernel
theorem forms9_wf : ∀ k, k < 9 → (forms9.getD k .fls).wf := by
  intro k h
  match k, h with
  | 0, _ => simp [forms9, Fm.wf, Ax.p, Ax.q, Ax.r, Ax.s]
  | 1, _ => simp [forms9, Fm.wf, Ax.p, Ax.q, Ax.r, Ax.s]
  | 2, _ => simp [forms9, Fm.wf, Ax.p, Ax.q, Ax.r, Ax.s]
  | 3, _ => simp [forms9, Fm.wf, Ax.p, Ax.q, Ax.r, Ax.s]
  | 4, _ => simp [forms9, Fm.wf, Ax.p, Ax.q, Ax.r, Ax.s]
  | 5, _ => simp [forms9, Fm.wf, Ax.p, Ax.q, Ax.r, Ax.s]
  | 6, _ => simp [forms9, Fm.wf, Ax.p, Ax.q, Ax.r, Ax.s]
  | 7, _ => simp [forms9, Fm.wf, Ax.p, Ax.q, Ax.r, Ax.s]
  | 8, _ => simp [forms9, Fm.wf, Ax.p, Ax.q, Ax.r, Ax.s]
/-- where a text stands in a list, or -1 -/
def findS (ss : List ByteArray) (name : ByteArray) : Int := idxOf (fun s => s.toList == name.toList) ss 0
theorem idxOf_range {α : Type} (pr : α → Bool) (l : List α) : ∀ k, idxOf pr l k = -1 ∨ ∃ j, j < l.length ∧ idxOf pr l k = ((k + j : Nat) : Int) := by
  induction l with
  | nil => intro k; exact .inl rfl
  | cons x l ih =>
    intro k
    unfold idxOf
    split
    · exact .inr ⟨0, by simp, rfl⟩
    · rcases ih (k + 1) with h | ⟨j, hj, h⟩
      · exact .inl h
      · exact .inr ⟨j + 1, by simpa using hj, by rw [h]; congr 1; omega⟩
--
set_option maxRecDepth 20000 in
set_option maxHeartbeats 1000000 in
theorem l09Find_any (ss : List ByteArray) (name : ByteArray) (v : Value) (w : World) (hv : Strs w v ss) :
    Calls Tryd.prog 39 #[v, .string name] w fun e w' => e = .returned (.int .i64 (findS ss name)) ∧ w = w' := by
  obtain ⟨p, cap, rfl, hle, hmx, hlen⟩ := hv.shape
  unfold maxLen at hmx
  have hV := hid hv; clear hv
  go_enter Tryd.func39, Tryd.ntmps39
  go_wp2
  go_loop [4, 5] (fun r i' => ∃ i : Nat, i ≤ ss.length ∧ i' = .int .i64 i ∧ r = .int .i64 0 ∧ findS ss name = idxOf (fun s => s.toList == name.toList) (ss.drop i) i) (fun _ i => ss.length - (intOf i).toNat)
  case atStart => exact ⟨0, by omega, rfl, rfl, rfl⟩
  case round =>
    obtain ⟨i, hi, rfl, rfl, hf⟩ := hrel
    have HF := hid hf; clear hf
    by_cases hlt : i < ss.length
    · obtain ⟨b, off, rfl, hc⟩ := hV.out.get i hlt
      have hlt' : (i : Int) < ss.length := by omega
      cases he : (ss[i].toList == name.toList)
      · go_wp2
        go_round
        case rel => exact ⟨i + 1, by omega, by go_num, rfl, by rw [HF.out, idxOf_drop _ _ _ hlt, he]; rfl⟩
        case measure => simp [intOf]; omega
      · go_wp2
        go_ret
        exact ⟨ret_int (by rw [HF.out, idxOf_drop _ _ _ hlt, he]; rfl), rfl⟩
    · go_wp2
      go_ret
      exact ⟨ret_int (by rw [HF.out, idxOf_end _ _ _ (by omega)]), rfl⟩
--
set_option maxRecDepth 20000 in
set_option maxHeartbeats 1000000 in
theorem intermediateAt_any (name : ByteArray) (w : World) (hL : LaidS 1 names9 w) :
    Calls Tryd.prog 24 #[.string name] w fun e w' => e = .returned (.int .i64 (findS names9 name)) ∧ w = w' := by
  have c0 := hL 0 (by decide)
  have c1 := hL 1 (by decide)
  have c2 := hL 2 (by decide)
  have c3 := hL 3 (by decide)
  have c4 := hL 4 (by decide)
  have c5 := hL 5 (by decide)
  have c6 := hL 6 (by decide)
  have c7 := hL 7 (by decide)
  have c8 := hL 8 (by decide)
  clear hL
  simp only [names9, List.getElem_cons_zero, List.getElem_cons_succ] at c0 c1 c2 c3 c4 c5 c6 c7 c8
  go_enter Tryd.func24, Tryd.ntmps24
  go_wp2
  go_loop [2, 6] (fun r i' => ∃ i : Nat, i ≤ 9 ∧ i' = .int .i64 i ∧ r = .int .i64 0 ∧ findS names9 name = idxOf (fun s => s.toList == name.toList) (names9.drop i) i) (fun _ i => 9 - (intOf i).toNat)
  case atStart => exact ⟨0, by omega, rfl, rfl, rfl⟩
  case round =>
    obtain ⟨i, hi, rfl, rfl, hf⟩ := hrel
    have HF := hid hf; clear hf
    have hi9 : i = 0 ∨ i = 1 ∨ i = 2 ∨ i = 3 ∨ i = 4 ∨ i = 5 ∨ i = 6 ∨ i = 7 ∨ i = 8 ∨ i = 9 := by omega
    rcases hi9 with rfl | rfl | rfl | rfl | rfl | rfl | rfl | rfl | rfl | rfl
    · have hix : (Instr.index 47 (.agg #[.string ⟨#[66, 68, 50]⟩, .string ⟨#[66, 68, 51]⟩, .string ⟨#[66, 87, 50]⟩, .string ⟨#[66, 87, 51]⟩, .string ⟨#[67, 76]⟩, .string ⟨#[73, 110, 116]⟩, .string ⟨#[75, 67]⟩, .string ⟨#[76, 67]⟩, .string ⟨#[83, 109, 76]⟩]) (.int .i64 0)).run Tryd.prog w = .ok (.string ⟨#[66, 68, 50]⟩) w := by kernel_rfl
      have htl : (⟨#[66, 68, 50]⟩ : ByteArray).toList = [66, 68, 50] := by simp
      cases he : (([66, 68, 50] : List UInt8) == name.toList)
      · go_wp2
        go_round
        case rel => exact ⟨1, by omega, by first | rfl | go_num, rfl, by rw [HF.out, idxOf_drop _ _ _ (show 0 < names9.length by decide)]; rw [show names9[0]'(show 0 < names9.length by decide) = ⟨#[66, 68, 50]⟩ from rfl, htl, he]; rfl⟩
        case measure => simp [intOf]
      · go_wp2
        go_ret
        exact ⟨ret_int (by rw [HF.out, idxOf_drop _ _ _ (show 0 < names9.length by decide)]; rw [show names9[0]'(show 0 < names9.length by decide) = ⟨#[66, 68, 50]⟩ from rfl, htl, he]; rfl), rfl⟩
    · have hix : (Instr.index 47 (.agg #[.string ⟨#[66, 68, 50]⟩, .string ⟨#[66, 68, 51]⟩, .string ⟨#[66, 87, 50]⟩, .string ⟨#[66, 87, 51]⟩, .string ⟨#[67, 76]⟩, .string ⟨#[73, 110, 116]⟩, .string ⟨#[75, 67]⟩, .string ⟨#[76, 67]⟩, .string ⟨#[83, 109, 76]⟩]) (.int .i64 1)).run Tryd.prog w = .ok (.string ⟨#[66, 68, 51]⟩) w := by kernel_rfl
      have htl : (⟨#[66, 68, 51]⟩ : ByteArray).toList = [66, 68, 51] := by simp
      cases he : (([66, 68, 51] : List UInt8) == name.toList)
      · go_wp2
        go_round
        case rel => exact ⟨2, by omega, by first | rfl | go_num, rfl, by rw [HF.out, idxOf_drop _ _ _ (show 1 < names9.length by decide)]; rw [show names9[1]'(show 1 < names9.length by decide) = ⟨#[66, 68, 51]⟩ from rfl, htl, he]; rfl⟩
        case measure => simp [intOf]
      · go_wp2
        go_ret
        exact ⟨ret_int (by rw [HF.out, idxOf_drop _ _ _ (show 1 < names9.length by decide)]; rw [show names9[1]'(show 1 < names9.length by decide) = ⟨#[66, 68, 51]⟩ from rfl, htl, he]; rfl), rfl⟩
    · have hix : (Instr.index 47 (.agg #[.string ⟨#[66, 68, 50]⟩, .string ⟨#[66, 68, 51]⟩, .string ⟨#[66, 87, 50]⟩, .string ⟨#[66, 87, 51]⟩, .string ⟨#[67, 76]⟩, .string ⟨#[73, 110, 116]⟩, .string ⟨#[75, 67]⟩, .string ⟨#[76, 67]⟩, .string ⟨#[83, 109, 76]⟩]) (.int .i64 2)).run Tryd.prog w = .ok (.string ⟨#[66, 87, 50]⟩) w := by kernel_rfl
      have htl : (⟨#[66, 87, 50]⟩ : ByteArray).toList = [66, 87, 50] := by simp
      cases he : (([66, 87, 50] : List UInt8) == name.toList)
      · go_wp2
        go_round
        case rel => exact ⟨3, by omega, by first | rfl | go_num, rfl, by rw [HF.out, idxOf_drop _ _ _ (show 2 < names9.length by decide)]; rw [show names9[2]'(show 2 < names9.length by decide) = ⟨#[66, 87, 50]⟩ from rfl, htl, he]; rfl⟩
        case measure => simp [intOf]
      · go_wp2
        go_ret
        exact ⟨ret_int (by rw [HF.out, idxOf_drop _ _ _ (show 2 < names9.length by decide)]; rw [show names9[2]'(show 2 < names9.length by decide) = ⟨#[66, 87, 50]⟩ from rfl, htl, he]; rfl), rfl⟩
    · have hix : (Instr.index 47 (.agg #[.string ⟨#[66, 68, 50]⟩, .string ⟨#[66, 68, 51]⟩, .string ⟨#[66, 87, 50]⟩, .string ⟨#[66, 87, 51]⟩, .string ⟨#[67, 76]⟩, .string ⟨#[73, 110, 116]⟩, .string ⟨#[75, 67]⟩, .string ⟨#[76, 67]⟩, .string ⟨#[83, 109, 76]⟩]) (.int .i64 3)).run Tryd.prog w = .ok (.string ⟨#[66, 87, 51]⟩) w := by kernel_rfl
      have htl : (⟨#[66, 87, 51]⟩ : ByteArray).toList = [66, 87, 51] := by simp
      cases he : (([66, 87, 51] : List UInt8) == name.toList)
      · go_wp2
        go_round
        case rel => exact ⟨4, by omega, by first | rfl | go_num, rfl, by rw [HF.out, idxOf_drop _ _ _ (show 3 < names9.length by decide)]; rw [show names9[3]'(show 3 < names9.length by decide) = ⟨#[66, 87, 51]⟩ from rfl, htl, he]; rfl⟩
        case measure => simp [intOf]
      · go_wp2
        go_ret
        exact ⟨ret_int (by rw [HF.out, idxOf_drop _ _ _ (show 3 < names9.length by decide)]; rw [show names9[3]'(show 3 < names9.length by decide) = ⟨#[66, 87, 51]⟩ from rfl, htl, he]; rfl), rfl⟩
    · have hix : (Instr.index 47 (.agg #[.string ⟨#[66, 68, 50]⟩, .string ⟨#[66, 68, 51]⟩, .string ⟨#[66, 87, 50]⟩, .string ⟨#[66, 87, 51]⟩, .string ⟨#[67, 76]⟩, .string ⟨#[73, 110, 116]⟩, .string ⟨#[75, 67]⟩, .string ⟨#[76, 67]⟩, .string ⟨#[83, 109, 76]⟩]) (.int .i64 4)).run Tryd.prog w = .ok (.string ⟨#[67, 76]⟩) w := by kernel_rfl
      have htl : (⟨#[67, 76]⟩ : ByteArray).toList = [67, 76] := by simp
      cases he : (([67, 76] : List UInt8) == name.toList)
      · go_wp2
        go_round
        case rel => exact ⟨5, by omega, by first | rfl | go_num, rfl, by rw [HF.out, idxOf_drop _ _ _ (show 4 < names9.length by decide)]; rw [show names9[4]'(show 4 < names9.length by decide) = ⟨#[67, 76]⟩ from rfl, htl, he]; rfl⟩
        case measure => simp [intOf]
      · go_wp2
        go_ret
        exact ⟨ret_int (by rw [HF.out, idxOf_drop _ _ _ (show 4 < names9.length by decide)]; rw [show names9[4]'(show 4 < names9.length by decide) = ⟨#[67, 76]⟩ from rfl, htl, he]; rfl), rfl⟩
    · have hix : (Instr.index 47 (.agg #[.string ⟨#[66, 68, 50]⟩, .string ⟨#[66, 68, 51]⟩, .string ⟨#[66, 87, 50]⟩, .string ⟨#[66, 87, 51]⟩, .string ⟨#[67, 76]⟩, .string ⟨#[73, 110, 116]⟩, .string ⟨#[75, 67]⟩, .string ⟨#[76, 67]⟩, .string ⟨#[83, 109, 76]⟩]) (.int .i64 5)).run Tryd.prog w = .ok (.string ⟨#[73, 110, 116]⟩) w := by kernel_rfl
      have htl : (⟨#[73, 110, 116]⟩ : ByteArray).toList = [73, 110, 116] := by simp
      cases he : (([73, 110, 116] : List UInt8) == name.toList)
      · go_wp2
        go_round
        case rel => exact ⟨6, by omega, by first | rfl | go_num, rfl, by rw [HF.out, idxOf_drop _ _ _ (show 5 < names9.length by decide)]; rw [show names9[5]'(show 5 < names9.length by decide) = ⟨#[73, 110, 116]⟩ from rfl, htl, he]; rfl⟩
        case measure => simp [intOf]
      · go_wp2
        go_ret
        exact ⟨ret_int (by rw [HF.out, idxOf_drop _ _ _ (show 5 < names9.length by decide)]; rw [show names9[5]'(show 5 < names9.length by decide) = ⟨#[73, 110, 116]⟩ from rfl, htl, he]; rfl), rfl⟩
    · have hix : (Instr.index 47 (.agg #[.string ⟨#[66, 68, 50]⟩, .string ⟨#[66, 68, 51]⟩, .string ⟨#[66, 87, 50]⟩, .string ⟨#[66, 87, 51]⟩, .string ⟨#[67, 76]⟩, .string ⟨#[73, 110, 116]⟩, .string ⟨#[75, 67]⟩, .string ⟨#[76, 67]⟩, .string ⟨#[83, 109, 76]⟩]) (.int .i64 6)).run Tryd.prog w = .ok (.string ⟨#[75, 67]⟩) w := by kernel_rfl
      have htl : (⟨#[75, 67]⟩ : ByteArray).toList = [75, 67] := by simp
      cases he : (([75, 67] : List UInt8) == name.toList)
      · go_wp2
        go_round
        case rel => exact ⟨7, by omega, by first | rfl | go_num, rfl, by rw [HF.out, idxOf_drop _ _ _ (show 6 < names9.length by decide)]; rw [show names9[6]'(show 6 < names9.length by decide) = ⟨#[75, 67]⟩ from rfl, htl, he]; rfl⟩
        case measure => simp [intOf]
      · go_wp2
        go_ret
        exact ⟨ret_int (by rw [HF.out, idxOf_drop _ _ _ (show 6 < names9.length by decide)]; rw [show names9[6]'(show 6 < names9.length by decide) = ⟨#[75, 67]⟩ from rfl, htl, he]; rfl), rfl⟩
    · have hix : (Instr.index 47 (.agg #[.string ⟨#[66, 68, 50]⟩, .string ⟨#[66, 68, 51]⟩, .string ⟨#[66, 87, 50]⟩, .string ⟨#[66, 87, 51]⟩, .string ⟨#[67, 76]⟩, .string ⟨#[73, 110, 116]⟩, .string ⟨#[75, 67]⟩, .string ⟨#[76, 67]⟩, .string ⟨#[83, 109, 76]⟩]) (.int .i64 7)).run Tryd.prog w = .ok (.string ⟨#[76, 67]⟩) w := by kernel_rfl
      have htl : (⟨#[76, 67]⟩ : ByteArray).toList = [76, 67] := by simp
      cases he : (([76, 67] : List UInt8) == name.toList)
      · go_wp2
        go_round
        case rel => exact ⟨8, by omega, by first | rfl | go_num, rfl, by rw [HF.out, idxOf_drop _ _ _ (show 7 < names9.length by decide)]; rw [show names9[7]'(show 7 < names9.length by decide) = ⟨#[76, 67]⟩ from rfl, htl, he]; rfl⟩
        case measure => simp [intOf]
      · go_wp2
        go_ret
        exact ⟨ret_int (by rw [HF.out, idxOf_drop _ _ _ (show 7 < names9.length by decide)]; rw [show names9[7]'(show 7 < names9.length by decide) = ⟨#[76, 67]⟩ from rfl, htl, he]; rfl), rfl⟩
    · have hix : (Instr.index 47 (.agg #[.string ⟨#[66, 68, 50]⟩, .string ⟨#[66, 68, 51]⟩, .string ⟨#[66, 87, 50]⟩, .string ⟨#[66, 87, 51]⟩, .string ⟨#[67, 76]⟩, .string ⟨#[73, 110, 116]⟩, .string ⟨#[75, 67]⟩, .string ⟨#[76, 67]⟩, .string ⟨#[83, 109, 76]⟩]) (.int .i64 8)).run Tryd.prog w = .ok (.string ⟨#[83, 109, 76]⟩) w := by kernel_rfl
      have htl : (⟨#[83, 109, 76]⟩ : ByteArray).toList = [83, 109, 76] := by simp
      cases he : (([83, 109, 76] : List UInt8) == name.toList)
      · go_wp2
        go_round
        case rel => exact ⟨9, by omega, by first | rfl | go_num, rfl, by rw [HF.out, idxOf_drop _ _ _ (show 8 < names9.length by decide)]; rw [show names9[8]'(show 8 < names9.length by decide) = ⟨#[83, 109, 76]⟩ from rfl, htl, he]; rfl⟩
        case measure => simp [intOf]
      · go_wp2
        go_ret
        exact ⟨ret_int (by rw [HF.out, idxOf_drop _ _ _ (show 8 < names9.length by decide)]; rw [show names9[8]'(show 8 < names9.length by decide) = ⟨#[83, 109, 76]⟩ from rfl, htl, he]; rfl), rfl⟩
    · go_wp2
      go_ret
      exact ⟨ret_int (by rw [HF.out]; rfl), rfl⟩
def axL (i : Int) : List Nd := if 0 ≤ i ∧ i < 9 then (forms9.getD i.toNat .fls).enc else []
def axE (i : Int) : Int := if 0 ≤ i ∧ i < 9 then 0 else 4
theorem axL_len (i : Int) : (axL i).length ≤ 40 := by
  unfold axL
  split
  · rename_i h; exact (forms9_ok _ (by omega)).2.2
  · simp
theorem axL_at (k : Nat) (hk : k < 9) : axL (k : Int) = (forms9.getD k .fls).enc := by
  unfold axL; rw [if_pos ⟨by omega, by omega⟩]; rfl
theorem axE_at (k : Nat) (hk : k < 9) : axE (k : Int) = 0 := by
  unfold axE; rw [if_pos ⟨by omega, by omega⟩]
theorem find9 (name : ByteArray) : findS names9 name = -1 ∨ ∃ k : Nat, k < 9 ∧ findS names9 name = k := by
  rcases idxOf_range (fun s => s.toList == name.toList) names9 0 with h | ⟨j, hj, h⟩
  · exact .inl h
  · exact .inr ⟨j, hj, by rw [show findS names9 name = _ from h]; simp⟩
--
set_option maxRecDepth 20000 in
set_option maxHeartbeats 1000000 in
theorem l30Known_any (name : ByteArray) (w : World) : Calls Tryd.prog 22 #[.string name] w fun e w' => e = .returned (.bool (decide (0 ≤ findS names9 name))) ∧ Keeps w w' := by
  go_enter Tryd.func22, Tryd.ntmps22
  go_wp2_with fail
  refine (l30Names_any w).mono ?_; rintro e w1 ⟨v1, rfl, hv1, k1⟩
  go_wp2_with fail
  refine (l09Find_any names9 name _ _ hv1).mono ?_; rintro e w' ⟨rfl, rfl⟩
  go_wp2_with fail
  go_ret
  exact ⟨ret_bool (by first | rfl | (rw [decide_eq_decide]) | simp), k1⟩
set_option maxRecDepth 20000 in
set_option maxHeartbeats 2000000 in
theorem l30Axiom_any (name : ByteArray) (k : Nat) (hk : k < 9) (hf : findS names9 name = k) (w : World) : Calls Tryd.prog 23 #[.string name] w (RetN w (forms9.getD k .fls).enc) := by
  obtain ⟨hb, hs, hl⟩ := forms9_ok k hk
  have HR := hid (fun w => l02Read_any (forms9.getD k .fls) (forms9_wf k hk) (texts9.getD k ⟨#[]⟩) w hb (by omega) (by omega))
  have hT : Strs (w.alloc (.cells (texts9.map Value.string).toArray 9)) (.slice (some ⟨w.heap.size, 0, none⟩) 9 9) texts9 := Strs.lit (w := w) texts9 (by simp [texts9])
  obtain ⟨b, off, hp, hc⟩ := hT.get k hk
  cases hp
  have kA := (Keeps.refl w).alloc (.cells (texts9.map Value.string).toArray 9)
  have hg : texts9[k]'hk = texts9.getD k ⟨#[]⟩ := by rw [List.getD_eq_getElem?_getD, List.getElem?_eq_getElem (show k < texts9.length from hk)]; rfl
  rw [hg, Nat.zero_add] at hc
  clear hg hT hb hs hl
  generalize texts9.getD k ⟨#[]⟩ = T at *
  generalize (forms9.getD k .fls).enc = L at *
  have HF := hid hf; clear hf
  have hk' : (k : Int) < 9 := by omega
  go_enter Tryd.func23, Tryd.ntmps23
  go_wp2_with fail
  refine (l30Names_any _).mono ?_; rintro e w1 ⟨v1, rfl, hv1, k1⟩
  have c1 := k1.cell hc
  have kk := kA.trans k1
  go_wp2_with fail
  refine (l09Find_any names9 name _ _ hv1).mono ?_; rintro e w' ⟨rfl, rfl⟩
  rw [HF.out]
  clear hv1 hc k1 kA
  go_wp2_with fail
  refine (HR.out _).mono ?_; rintro e w2 ⟨v2, rfl, hv2, k2⟩
  go_wp2_with fail
  go_ret
  exact ⟨_, rfl, hv2.mono kk.size, kk.trans k2⟩
set_option maxRecDepth 20000 in
set_option maxHeartbeats 1000000 in
theorem specIntermediateAxiom_any (name : ByteArray) (w : World) : Calls Tryd.prog 6 #[.string name] w fun e w' => ∃ u, e = .returned (.tuple #[u, .int .i64 (axE (findS names9 name))]) ∧ OwnN w' w.heap.size u (axL (findS names9 name)) ∧ Keeps w w' := by
  rcases find9 name with h | ⟨k, hk, h⟩
  · have HK := hid (l30Known_any name w)
    rw [h] at *
    clear h
    go_enter Tryd.func6, Tryd.ntmps6
    go_wp2_with fail
    refine HK.out.mono ?_; rintro e w1 ⟨rfl, k1⟩
    rw [show decide ((0 : Int) ≤ -1) = false from rfl]
    go_wp2_with fail
    go_ret2
    exact ⟨_, rfl, OwnN.nil _ _, k1⟩
  · have HK := hid (l30Known_any name w)
    have HA := hid (fun w => l30Axiom_any name k hk h w)
    rw [h] at HK
    rw [h, axL_at k hk, axE_at k hk]
    generalize (forms9.getD k .fls).enc = L at *
    clear h
    have hd : decide ((0 : Int) ≤ k) = true := by simp
    go_enter Tryd.func6, Tryd.ntmps6
    go_wp2_with fail
    refine HK.out.mono ?_; rintro e w1 ⟨rfl, k1⟩
    rw [hd]
    go_wp2_with fail
    refine (HA.out _).mono ?_; rintro e w2 ⟨v2, rfl, hv2, k2⟩
    go_wp2_with fail
    go_ret2
    exact ⟨_, rfl, hv2.mono k1.size, k1.trans k2⟩
--
set_option maxRecDepth 20000 in
set_option maxHeartbeats 1000000 in
theorem implIntermediateAxiom_any (name : ByteArray) (w : World) (hN : LaidS 1 names9 w) (hA : LaidS 0 texts9 w) :
    Calls Tryd.prog 7 #[.string name] w fun e w' => ∃ u, e = .returned (.tuple #[u, .int .i64 (axE (findS names9 name))]) ∧ OwnN w' w.heap.size u (axL (findS names9 name)) ∧ Keeps w w' := by
  have HK := hid (intermediateAt_any name w hN)
  clear hN
  rcases find9 name with h | ⟨k, hk, h⟩
  · rw [h] at HK ⊢
    clear h hA
    go_enter Tryd.func7, Tryd.ntmps7
    go_wp2_with fail
    refine HK.out.mono ?_; rintro e w' ⟨rfl, rfl⟩
    go_wp2_with fail
    go_ret2
    exact ⟨_, rfl, OwnN.nil _ _, Keeps.refl _⟩
  · obtain ⟨hb, hs, hl⟩ := forms9_ok k hk
    have HR := hid (fun w => parsed_any (forms9.getD k .fls) (forms9_wf k hk) (texts9.getD k ⟨#[]⟩) w hb hs hl)
    have hc := hA k hk
    have hg : texts9[k]'hk = texts9.getD k ⟨#[]⟩ := by rw [List.getD_eq_getElem?_getD, List.getElem?_eq_getElem (show k < texts9.length from hk)]; rfl
    rw [hg] at hc
    clear hg hb hs hl hA
    rw [h] at HK
    rw [h, axL_at k hk, axE_at k hk]
    clear h
    generalize texts9.getD k ⟨#[]⟩ = T at *
    generalize (forms9.getD k .fls).enc = L at *
    have hk' : (k : Int) < 9 := by omega
    have hk0 : decide ((k : Int) < 0) = false := by simp
    go_enter Tryd.func7, Tryd.ntmps7
    go_wp2_with fail
    refine HK.out.mono ?_; rintro e w' ⟨rfl, rfl⟩
    go_wp2_with fail
    refine (HR.out _).mono ?_; rintro e w2 ⟨v2, rfl, hv2, k2⟩
    go_wp2_with fail
    go_ret2
    exact ⟨_, rfl, hv2, k2⟩
--
set_option maxRecDepth 20000 in
set_option maxHeartbeats 1000000 in
theorem lawIntermediateAxiom (name : ByteArray) (w : World) (hN : LaidS 1 names9 w) (hA : LaidS 0 texts9 w) (hz : name.size ≤ 1048576) :
    Calls Tryd.prog 3 #[.string name] w fun e w' => e = .returned (.bool true) ∧ Keeps w w' := by
  have HS := hid (specIntermediateAxiom_any name w)
  have HI := hid (fun w1 (k : Keeps w w1) => implIntermediateAxiom_any name w1 (hN.keeps k) (hA.keeps k))
  have hrl := axL_len (findS names9 name)
  clear hN hA
  generalize axL (findS names9 name) = r at *
  generalize axE (findS names9 name) = c at *
  have hz1 : decide ((name.size : Int) > 1048576) = false := by simp; omega
  go_enter Tryd.func3, Tryd.ntmps3
  go_wp2_with fail
  refine HS.out.mono ?_; rintro e w1 ⟨u0, rfl, hu0, k1⟩
  clear HS
  go_wp2_with fail
  refine (HI.out _ k1).mono ?_; rintro e w2 ⟨g0, rfl, hg2, k2⟩
  go_wp2_with fail
  refine (eqNodeS_any r r g0 u0 w2 (hg2.nds (by omega)) ((hu0.nds (by omega)).keeps k2)).mono ?_; rintro e w3 ⟨rfl, k3⟩; rw [decide_eq_true rfl]
  have hg3 := hg2.keeps k3
  go_wp2_with fail
  refine (markNodeS_any r g0 1 w3 _ hg3 (by omega) (by omega) (by omega)).mono ?_; rintro e w4 ⟨rfl, hg4, g4⟩
  have kB : Keeps w1 w4 := (k2.trans k3).grown g4 (fun q hq => (hg3.len q hq).1)
  have hpos : decide ((1 : Int) + 2 * r.length < 0) = false := by simp; omega
  go_wp2_with fail
  refine (heldNodeS_any r.length g0 1 w4 (hg4.nds (by rw [marksN_length]; omega)) (by omega) (by omega)).mono ?_; rintro e w' ⟨rfl, rfl⟩
  go_wp2_with fail
  refine (HI.out _ (k1.trans kB)).mono ?_; rintro e w5 ⟨h0, rfl, hh5, k5⟩
  go_wp2_with fail
  refine (eqNodeS_any r r h0 u0 w5 (hh5.nds (by omega)) ((hu0.nds (by omega)).keeps (kB.trans k5))).mono ?_; rintro e w6 ⟨rfl, k6⟩; rw [decide_eq_true rfl]
  have hg6 := (hg4.keeps k5).keeps k6
  go_wp2_with fail
  refine (heldNodeS_any r.length g0 1 w6 (hg6.nds (by rw [marksN_length]; omega)) (by omega) (by omega)).mono ?_; rintro e w' ⟨rfl, rfl⟩
  go_wp2_with fail
  go_ret
  exact ⟨rfl, (k1.trans kB).trans (k5.trans k6)⟩
theorem lawIntermediateAxiomBig (name : ByteArray) (w : World) (hz : 1048576 < name.size) :
    Calls Tryd.prog 3 #[.string name] w fun e w' => e = .returned (.bool true) ∧ Keeps w w' := by
  have hz1 : decide ((name.size : Int) > 1048576) = true := by simp; omega
  go_enter Tryd.func3, Tryd.ntmps3
  go_wp2_with fail
  go_ret
  exact ⟨rfl, Keeps.refl _⟩
end Go.Proofs.YtffjmnimnmmemaaDoor
