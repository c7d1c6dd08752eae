import Derived.Test.YtkkcfifnkcnceaaGreatHNH
import Derived.Deep.AppendLies
import Derived.Test.YtkkcfifnkcnceaaGreatHMY
import Derived.Test.YtkkcfifnkcnceaaGreatHVB
import Derived.Test.YtkkcfifnkcnceaaGreatHSU
import Derived.Test.YtkkcfifnkcnceaaGreatHQ1
import Derived.Laws.Bits64
import Derived.Test.YtkkcfifnkcnceaaGreatHW5
/- Needs of elementary parts are what the plain text says. -/
namespace Go.Proofs.YtkkcfifnkcnceaaGreat
open Go.RowKit
end Go.Proofs.YtkkcfifnkcnceaaGreat
namespace Go.Proofs.YtkkcfifnkcnceaaGreat
open Go.RowKit
end Go.Proofs.YtkkcfifnkcnceaaGreat
namespace Go.Proofs.YtkkcfifnkcnceaaGreat
open Go.RowKit
end Go.Proofs.YtkkcfifnkcnceaaGreat
namespace Go.Proofs.YtkkcfifnkcnceaaGreat
open Go.RowKit
def names8 : List ByteArray := [lgS 0, lgS 1, lgS 2, lgS 3, lgS 4, lgS 5, lgS 6, lgS 7]
open scoped Classical in
noncomputable def isLg (s : ByteArray) : Bool := decide (s ∈ names8)
theorem isLg_of {s : ByteArray} (h : isLg s = true) : ∃ L, L < 8 ∧ s = lgS L := by
 unfold isLg at h
 have h := @of_decide_eq_true _ (Classical.propDecidable _) h
 simp only [names8, List.mem_cons, List.not_mem_nil, or_false] at h
 rcases h with h | h | h | h | h | h | h | h
 ·exact ⟨0, by omega, h⟩
 ·exact ⟨1, by omega, h⟩
 ·exact ⟨2, by omega, h⟩
 ·exact ⟨3, by omega, h⟩
 ·exact ⟨4, by omega, h⟩
 ·exact ⟨5, by omega, h⟩
 ·exact ⟨6, by omega, h⟩
 ·exact ⟨7, by omega, h⟩
theorem isLg_lgS (L : Nat) (h : L < 8) : isLg (lgS L) = true := by
 unfold isLg
 apply @decide_eq_true _ (Classical.propDecidable _)
 have h8 : L = 0 ∨ L = 1 ∨ L = 2 ∨ L = 3 ∨ L = 4 ∨ L = 5 ∨ L = 6 ∨ L = 7 := by omega
 rcases h8 with rfl | rfl | rfl | rfl | rfl | rfl | rfl | rfl <;> simp [names8]
open scoped Classical in
set_option maxHeartbeats 1000000 in
theorem l01Says_any (ss : List ByteArray) (x : ByteArray) (v : Value) (w : World) (hv : Strs w v ss) :
  Calls Tryz.prog 42 #[v, .string x] w fun e w' => e = .returned (.bool (decide (x ∈ ss))) ∧ w = w' := by
 have hv0 := hv
 obtain ⟨p, cap, rfl, hle, hmx, hlen⟩ := hv.shape
 unfold maxLen at hmx
 have HV := hid hv0; clear hv hv0
 have HY := hid (fun i (h : i < ss.length) (e : (ss[i].toList == x.toList) = true) => show decide (x ∈ ss) = true from decide_eq_true (by
  rw [beq_bts, decide_eq_true_eq] at e
  rw [← bts_inj e]
  exact List.getElem_mem h))
 have HN := hid (fun (h : ∀ j (hj : j < ss.length), (ss[j].toList == x.toList) = false) => show decide (x ∈ ss) = false from decide_eq_false (fun hm => by
  obtain ⟨j, hj, e⟩ := List.getElem_of_mem hm
  have := h j hj
  rw [e, beq_bts] at this
  simp at this))
 generalize decide (x ∈ ss) = b at *
 go_enter Tryz.func42, Tryz.ntmps42
 go_wp2_with fail
 go_loopw [4, 5] (fun o i' wr => ∃ i : Nat, i ≤ ss.length ∧ i' = .int .i64 i ∧ o = .bool false ∧ (∀ j (hj : j < ss.length), j < i → (ss[j].toList == x.toList) = false) ∧ w = wr) (fun _ i' _ => ss.length - (intOf i').toNat)
 case atStart => exact ⟨0, by omega, rfl, rfl, fun j hj h => by omega, rfl⟩
 case round =>
  obtain ⟨i, hi, rfl, rfl, hall, rfl⟩ := hrel
  have HA := hid hall; clear hall
  by_cases hlt : i < ss.length
  ·have hlt' : (i : Int) < ss.length := by omega
   obtain ⟨b1, o1, rfl, h1⟩ := HV.out.get i hlt
   have HYi := hid (HY.out i hlt)
   have HNi : Hid ((ss[i].toList == x.toList) = false → ∀ j (hj : j < ss.length), j < i + 1 → (ss[j].toList == x.toList) = false) := hid (fun h j hj hji => by
    by_cases e : j = i
    ·subst e; exact h
    ·exact HA.out j hj (by omega))
   generalize ss[i] = y at *
   cases he : y.toList == x.toList
   ·rw [he] at HNi
    go_wp2_with fail
    go_roundw
    case rel => exact ⟨i + 1, by omega, by go_num, rfl, HNi.out (by trivial), by trivial⟩
    case measure => simp [intOf]; omega
   ·rw [he] at HYi
    go_wp2_with fail
    go_ret
    exact ⟨ret_bool (by rw [HYi.out (by trivial)]), rfl⟩
  ·have hlt' : ¬ (i : Int) < ss.length := by omega
   have HB := hid (HN.out (fun j hj => HA.out j hj (by omega)))
   obtain rfl : i = ss.length := by omega
   go_wp2_with fail
   go_ret
   exact ⟨ret_bool (by rw [HB.out]), rfl⟩
def names7 : List ByteArray := [lgS 0, lgS 1, lgS 2, lgS 3, lgS 4, lgS 5, lgS 6]
open scoped Classical in
theorem isSequentLogic_any (s : ByteArray) (w : World) : Calls Tryz.prog 32 #[.string s] w fun e w' => e = .returned (.bool (decide (s ∈ names7))) ∧ Keeps w w' := by
 have HS : Hid (Strs (w.alloc (.cells #[.string ⟨#[75]⟩, .string ⟨#[68]⟩, .string ⟨#[84]⟩, .string ⟨#[75, 52]⟩, .string ⟨#[83, 52]⟩, .string ⟨#[71, 76]⟩, .string ⟨#[83, 53]⟩] 9)) (.slice (some ⟨w.heap.size, 0, none⟩) 7 7) names7) := hid (Strs.lit (w := w) names7 (by simp [names7]))
 have HC := hid (l01Says_any names7 s _ _ HS.out)
 have kA := (Keeps.refl w).alloc (.cells #[.string ⟨#[75]⟩, .string ⟨#[68]⟩, .string ⟨#[84]⟩, .string ⟨#[75, 52]⟩, .string ⟨#[83, 52]⟩, .string ⟨#[71, 76]⟩, .string ⟨#[83, 53]⟩] 9)
 go_enter Tryz.func32, Tryz.ntmps32
 go_wp2_with fail
 refine HC.out.mono ?_; rintro e w3 ⟨rfl, rfl⟩
 go_wp2_with fail
 go_ret
 exact ⟨rfl, kA⟩
end Go.Proofs.YtkkcfifnkcnceaaGreat
namespace Go.Proofs.YtkkcfifnkcnceaaGreat
open Go.RowKit
end Go.Proofs.YtkkcfifnkcnceaaGreat
