/- Walks: the names of the intermediate logics; a table of texts that is laid. -/
import Derived.Test.YteeonfdpcfnifaaDoorW1
import Derived.Lib.LaidTab
namespace Go.Proofs.YteeonfdpcfnifaaDoor
open Go.RowKit

--
def names9 : List ByteArray := [⟨#[66, 68, 50]⟩, ⟨#[66, 68, 51]⟩, ⟨#[66, 87, 50]⟩, ⟨#[66, 87, 51]⟩, ⟨#[67, 76]⟩, ⟨#[73, 110, 116]⟩, ⟨#[75, 67]⟩, ⟨#[76, 67]⟩, ⟨#[83, 109, 76]⟩]
/-- a table of texts lies in a variable -/
def LaidS (g : Nat) (ss : List ByteArray) (w : World) : Prop := ∀ i (h : i < ss.length), w.cell? ⟨g, i, none⟩ = some (.string ss[i])
theorem LaidS.keeps {g : Nat} {ss : List ByteArray} {w w' : World} (h : LaidS g ss w) (k : Keeps w w') : LaidS g ss w' := fun i hi => k.cell (h i hi)
/-- an array of texts that reads as a table holds the table's texts -/
theorem cells_of_strs {H : Type} {enc : TypeId × Value → H} {P : Program} {w : World} {base : Nat} {sp : Nat → Bool} {held : Bool} {fuel : Nat} {t e : TypeId} {n : Nat} {cs : List Value} {ss : List (List UInt8)} {p : List MemPlace}
    (ht : P.underlying t = some (.array n e)) (he : P.underlying e = some .string) (hce : P.cellsOf e = 1) (hct : P.cellsOf t = n)
    (h : DataW.trod enc P w base sp held fuel t cs = some (.agg (ss.map fun s => .lit (.string s)), p)) : ∀ i (hi : i < ss.length), cs[i]? = some (.string ⟨ss[i].toArray⟩) := by
  intro i hi
  cases fuel with
  | zero => simp [DataW.trod] at h
  | succ fuel =>
    simp only [DataW.trod, ht, hce, hct, Nat.mul_one] at h
    split at h
    · rename_i hl
      obtain ⟨xs, hm, hx⟩ := Option.map_eq_some_iff.1 h
      have hxs : xs.map (·.1) = ss.map fun s => (DataW.lit (.string s) : DataW H) := by
        have := congrArg Prod.fst hx
        simpa using this
      have hxl : xs.length = n := by have := Lib.mapM_length hm; rw [this]; exact List.length_range
      have hsl : ss.length = n := by
        have := congrArg List.length hxs
        simp at this
        omega
      obtain ⟨b, hb, hf⟩ := Lib.mapM_at hm i i (by rw [List.getElem?_range (by omega)])
      obtain ⟨s, hc, rfl, _⟩ := DataW.trod_string he hf
      have h1 : cs[i]? = some (.string s) := by
        have := congrArg (·[0]?) hc
        simpa [List.getElem?_take, List.getElem?_drop] using this
      have h2 : (xs.map (·.1))[i]? = some (DataW.lit (.string s.data.toList) : DataW H) := by simp [hb]
      rw [hxs] at h2
      simp [hi] at h2
      rw [h1, h2]
    · cases h
theorem laidS_of_head {P : Program} {W : World} {name : String} {ss : List (List UInt8)} {rest : List (String × DataW Unit)} {g : Nat} {t e : TypeId} {n : Nat}
    (hg : P.globalNamed name = some g) (hty : (P.globals[g]?).map (·.type) = some t) (ht : P.underlying t = some (.array n e)) (he : P.underlying e = some .string) (hce : P.cellsOf e = 1) (hct : P.cellsOf t = n)
    (h : laidMet P ((name, .agg (ss.map fun s => .lit (.string s))) :: rest) W) : ∀ i (hi : i < ss.length), W.cell? ⟨g, i, none⟩ = some (.string ⟨ss[i].toArray⟩) := by
  obtain ⟨ps, ⟨g', t', cs, fuel, p, q, hg', ht', hvar, hd, _, _⟩, _⟩ := h
  obtain rfl := Option.some.inj (hg.symm.trans hg')
  obtain rfl := Option.some.inj (hty.symm.trans ht')
  intro i hi
  have h1 := cells_of_strs ht he hce hct hd i hi
  have := World.var?_cell hg hvar i
  rw [this]
  simpa using h1
--
set_option maxRecDepth 100000 in
theorem l30Names_any (w : World) : Calls Tryd.prog 6 #[] w fun e w' => ∃ v, e = .returned v ∧ Strs w' v names9 ∧ Keeps w w' := by
  go_enter Tryd.func6, Tryd.ntmps6
  go_wp2
  go_ret
  exact ⟨_, rfl, Strs.lit (w := w) names9 (by simp [names9]), (Keeps.refl w).alloc _⟩
--
def nameAt (i : Int) : ByteArray := names9.getD i.toNat ⟨#[]⟩
set_option maxHeartbeats 400000 in
theorem specIntermediateName (i : Int) (w : World) :
    Calls Tryd.prog 4 #[.int .i64 i] w fun e w' => e = .returned (.tuple #[.string (if 0 ≤ i ∧ i ≤ 8 then nameAt i else ⟨#[]⟩), .int .i64 (if 0 ≤ i ∧ i ≤ 8 then 0 else 2)]) ∧ Keeps w w' := by
  by_cases hi : 0 ≤ i ∧ i ≤ 8
  · rw [if_pos hi, if_pos hi]
    obtain ⟨h0, h8⟩ := hi
    have hin : inR i 0 8 = true := by simp [inR]; omega
    obtain ⟨k, rfl⟩ := Int.eq_ofNat_of_zero_le h0
    have hk : k < names9.length := by simp [names9]; omega
    have hn : nameAt (k : Int) = names9[k] := by simp [nameAt, hk]
    rw [hn]
    generalize hN : names9 = N at *
    have h9 : N.length = 9 := by rw [← hN]; rfl
    have H9 := hid h9; clear h9
    have HN := hid hN; clear hN hn
    go_enter Tryd.func4, Tryd.ntmps4
    go_wp2_with fail
    refine (l30Names_any w).mono ?_
    rintro e w1 ⟨v, rfl, hv, k1⟩
    rw [HN.out] at hv
    obtain ⟨p, cap, rfl, hle, hmx, hlen⟩ := hv.shape
    obtain ⟨b, off, rfl, hc⟩ := hv.get k hk
    rw [H9.out] at *
    clear hv
    unfold maxLen at hmx
    go_wp2_with fail
    refine (l01In_any _ _ _ _).mono ?_
    rintro e w' ⟨rfl, rfl⟩
    rw [hin]
    go_wp2_with fail
    go_ret2
    exact ⟨rfl, k1⟩
  · rw [if_neg hi, if_neg hi]
    have hin : inR i 0 8 = false := by simp [inR]; omega
    go_enter Tryd.func4, Tryd.ntmps4
    go_wp2_with fail
    refine (l30Names_any w).mono ?_
    rintro e w1 ⟨v, rfl, hv, k1⟩
    obtain ⟨p, cap, rfl, hle, hmx, hlen⟩ := hv.shape
    rw [show names9.length = 9 from rfl] at *
    clear hv
    go_wp2_with fail
    refine (l01In_any _ _ _ _).mono ?_
    rintro e w' ⟨rfl, rfl⟩
    rw [hin]
    go_wp2_with fail
    go_ret2
    exact ⟨rfl, k1⟩
theorem implIntermediateName (i : Int) (w : World) (hL : LaidS 0 names9 w) :
    Calls Tryd.prog 5 #[.int .i64 i] w fun e w' => e = .returned (.tuple #[.string (if 0 ≤ i ∧ i ≤ 8 then nameAt i else ⟨#[]⟩), .int .i64 (if 0 ≤ i ∧ i ≤ 8 then 0 else 2)]) ∧ w = w' := by
  by_cases hi : 0 ≤ i ∧ i ≤ 8
  · rw [if_pos hi, if_pos hi]
    obtain ⟨h0, h8⟩ := hi
    have hin : inR i 0 8 = true := by simp [inR]; omega
    obtain ⟨k, rfl⟩ := Int.eq_ofNat_of_zero_le h0
    have hk : k < names9.length := by simp [names9]; omega
    have hn : nameAt (k : Int) = names9[k] := by simp [nameAt, hk]
    have hc := hL k hk
    rw [← hn] at hc
    generalize nameAt (k : Int) = q at *
    clear hn hk hL
    go_enter Tryd.func5, Tryd.ntmps5
    go_wp2_with fail
    refine (inRange_any _ _ _ _).mono ?_
    rintro e w' ⟨rfl, rfl⟩
    rw [hin]
    go_wp2_with fail
    go_ret2
    exact ⟨rfl, rfl⟩
  · rw [if_neg hi, if_neg hi]
    have hin : inR i 0 8 = false := by simp [inR]; omega
    clear hL
    go_enter Tryd.func5, Tryd.ntmps5
    go_wp2_with fail
    refine (inRange_any _ _ _ _).mono ?_
    rintro e w' ⟨rfl, rfl⟩
    rw [hin]
    go_wp2_with fail
    go_ret2
    exact ⟨rfl, rfl⟩
theorem lawIntermediateName (i : Int) (w : World) (hL : LaidS 0 names9 w) :
    Calls Tryd.prog 3 #[.int .i64 i] w fun e w' => e = .returned (.bool true) ∧ Keeps w w' := by
  have h1 := specIntermediateName i w
  have h2 := fun w1 (k : Keeps w w1) => implIntermediateName i w1 (hL.keeps k)
  generalize (if 0 ≤ i ∧ i ≤ 8 then nameAt i else ⟨#[]⟩) = s at *
  generalize (if 0 ≤ i ∧ i ≤ 8 then (0 : Int) else 2) = c at *
  have H1 := hid h1; clear h1
  have H2 := hid h2; clear h2 hL
  go_enter Tryd.func3, Tryd.ntmps3
  go_wp2_with fail
  refine H1.out.mono ?_
  rintro e w1 ⟨rfl, k1⟩
  go_wp2_with fail
  refine (H2.out w1 k1).mono ?_
  rintro e w' ⟨rfl, rfl⟩
  go_wp2_with fail
  go_ret
  exact ⟨rfl, k1⟩
end Go.Proofs.YteeonfdpcfnifaaDoor
