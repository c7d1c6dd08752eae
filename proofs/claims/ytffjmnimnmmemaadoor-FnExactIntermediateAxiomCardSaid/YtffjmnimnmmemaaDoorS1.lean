/- Walks: the names of the intermediate logics; a table of texts that is laid. -/
import Derived.Test.YtffjmnimnmmemaaDoorW1
import Derived.Lib.LaidTab
namespace Go.Proofs.YtffjmnimnmmemaaDoor
open Go.RowKit

--
def names9 : List ByteArray := [⟨#[66, 68, 50]⟩, ⟨#[66, 68, 51]⟩, ⟨#[66, 87, 50]⟩, ⟨#[66, 87, 51]⟩, ⟨#[67, 76]⟩, ⟨#[73, 110, 116]⟩, ⟨#[75, 67]⟩, ⟨#[76, 67]⟩, ⟨#[83, 109, 76]⟩]
/-- a table of texts lies in a variable -/
def LaidS (g : Nat) (ss : List ByteArray) (w : World) : Prop := ∀ i (h : i < ss.length), w.cell? ⟨g, i, none⟩ = some (.string ss[i])
theorem LaidS.keeps {g : Nat} {ss : List ByteArray} {w w' : World} (h : LaidS g ss w) (k : Keeps w w') : LaidS g ss w' := fun i hi => k.cell (h i hi)
/-- an array of texts that reads as a table holds the table's texts -/
theorem cells_of_strs {H : Type} {enc : TypeId × Value → H} {P : Program} {w : World} {base : Nat} {sp : Nat → Bool} {held : Bool} {fuel : Nat} {t e : TypeId} {n : Nat} {cs : List Value} {ss : List (List UInt8)} {p : List MemPlace}
    (ht : P.underlying t = some (.array n e)) (he : P.underlying e = some .string) (hce : P.cellsOf e = 1) (hct : P.cellsOf t = n)
    (h : DataW.trod enc P w base sp held fuel t cs = some (.agg (ss.map fun s => .lit (.string s)), p)) : ∀ i (hi : i < ss.length), cs[i]? = some (.string ⟨ss[i].toArray⟩) := by
  intro i hi
  cases fuel with
  | zero => simp [DataW.trod] at h
  | succ fuel =>
    simp only [DataW.trod, ht, hce, hct, Nat.mul_one] at h
    split at h
    · rename_i hl
      obtain ⟨xs, hm, hx⟩ := Option.map_eq_some_iff.1 h
      have hxs : xs.map (·.1) = ss.map fun s => (DataW.lit (.string s) : DataW H) := by
        have := congrArg Prod.fst hx
        simpa using this
      have hxl : xs.length = n := by have := Lib.mapM_length hm; rw [this]; exact List.length_range
      have hsl : ss.length = n := by
        have := congrArg List.length hxs
        simp at this
        omega
      obtain ⟨b, hb, hf⟩ := Lib.mapM_at hm i i (by rw [List.getElem?_range (by omega)])
      obtain ⟨s, hc, rfl, _⟩ := DataW.trod_string he hf
      have h1 : cs[i]? = some (.string s) := by
        have := congrArg (·[0]?) hc
        simpa [List.getElem?_take, List.getElem?_drop] using this
      have h2 : (xs.map (·.1))[i]? = some (DataW.lit (.string s.data.toList) : DataW H) := by simp [hb]
      rw [hxs] at h2
      simp [hi] at h2
      rw [h1, h2]
    · cases h
theorem laidS_of_head {P : Program} {W : World} {name : String} {ss : List (List UInt8)} {rest : List (String × DataW Unit)} {g : Nat} {t e : TypeId} {n : Nat}
    (hg : P.globalNamed name = some g) (hty : (P.globals[g]?).map (·.type) = some t) (ht : P.underlying t = some (.array n e)) (he : P.underlying e = some .string) (hce : P.cellsOf e = 1) (hct : P.cellsOf t = n)
    (h : laidMet P ((name, .agg (ss.map fun s => .lit (.string s))) :: rest) W) : ∀ i (hi : i < ss.length), W.cell? ⟨g, i, none⟩ = some (.string ⟨ss[i].toArray⟩) := by
  obtain ⟨ps, ⟨g', t', cs, fuel, p, q, hg', ht', hvar, hd, _, _⟩, _⟩ := h
  obtain rfl := Option.some.inj (hg.symm.trans hg')
  obtain rfl := Option.some.inj (hty.symm.trans ht')
  intro i hi
  have h1 := cells_of_strs ht he hce hct hd i hi
  have := World.var?_cell hg hvar i
  rw [this]
  simpa using h1
--
set_option maxRecDepth 100000 in
theorem l30Names_any (w : World) : Calls Tryd.prog 40 #[] w fun e w' => ∃ v, e = .returned v ∧ Strs w' v names9 ∧ Keeps w w' := by
  go_enter Tryd.func40, Tryd.ntmps40
  go_wp2
  go_ret
  exact ⟨_, rfl, Strs.lit (w := w) names9 (by simp [names9]), (Keeps.refl w).alloc _⟩
end Go.Proofs.YtffjmnimnmmemaaDoor
