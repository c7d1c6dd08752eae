/- Walks: the program's reader of formulas, at all levels of the grammar. -/
import Derived.Test.YtjmpiedjhdogeaaP3
import Derived.Test.YtjmpiedjhdogeaaW7
namespace Go.Proofs.Ytjmpiedjhdogeaa
open Go.RowKit
/-- the letters of the variables -/
def letters6 : ByteArray := ⟨#[112, 113, 114, 115, 116, 117]⟩
/-- an iterator of a string set to a place -/
def setIter (w : World) (g : Nat) (s : ByteArray) (p : Nat) : World := { w with heap := w.heap.setIfInBounds g (.stringIter s p) }
theorem grown_iter (w : World) (g : Nat) (s : ByteArray) (p : Nat) : w.grownBy (setIter w g s p) (some g) :=
  ⟨rfl, rfl, rfl, by simp [setIter], fun k _ hk => by
    show (w.heap.setIfInBounds g _)[k]? = w.heap[k]?
    rw [Array.getElem?_setIfInBounds_ne (fun e => hk (by rw [e]))]⟩
theorem iter_at {w : World} {g : Nat} {s' : ByteArray} {p' : Nat} (h : g < w.heap.size) : (setIter w g s' p').heap[g]? = some (.stringIter s' p') := by
  show (w.heap.setIfInBounds g _)[g]? = _
  rw [Array.getElem?_setIfInBounds_self_of_lt h]
theorem run_next_at {P : Program} (w : World) (g : Nat) (s : ByteArray) (pos : Nat) (ty : TypeId) (hh : w.heap[g]? = some (.stringIter s pos)) (h : pos < s.size) (ha : (s[pos]'h).toNat < 128) :
    (Instr.next (.pointer (some ⟨g, 0, none⟩)) true ty).run P w = .ok (.tuple #[.bool true, .int .i64 pos, .int .i32 (s[pos]'h).toNat]) (setIter w g s (pos + 1)) := by
  simp only [Instr.next, getObj, setObj, Sem.run_bind, Sem.run, hh, Result.andThen, h, if_true, decode_ascii s pos h ha, setIter]
  simp [goInt]
--
set_option maxRecDepth 20000 in
theorem variable_any (v : Nat) (w : World) : Calls Try.prog 51 #[.int .i64 v] w (RetN w (Fm.var v).enc) := by
  go_enter Try.func51, Try.ntmps51
  go_wp2
  go_ret
  exact ⟨_, rfl, OwnN.lit1 w ⟨0, v⟩, (Keeps.refl w).alloc _⟩
end Go.Proofs.Ytjmpiedjhdogeaa
