/- Walks: chains, forks and Medvedev's posets on both sides. -/
import Derived.Test.YteeonfdpcfnifaaQ1
import Derived.Test.YteeonfdpcfnifaaL2
import Derived.Deep.RegionLaw
namespace Go.Proofs.Yteeonfdpcfnifaa
open Go.RowKit

def andNot (a b : Int) : Int := bits .andNot .i64 a b
def chainL (n : Nat) : Nat → List Int
  | 0 => []
  | k + 1 => chainL n k ++ [andNot (2 ^ n - 1) (2 ^ k - 1)]
theorem chainL_length (n k : Nat) : (chainL n k).length = k := by
  induction k with
  | zero => rfl
  | succ k ih => simp [chainL, ih]
--
set_option maxHeartbeats 1000000 in
theorem l30Chain_any (n : Nat) (w : World) (hn : n ≤ 8) : Calls Try.prog 30 #[.int .i64 n] w (RetP w (chainL n n)) := by
  have kA := (Keeps.refl w).alloc (.cells #[.int .i64 0, .slice none 0 0] 24)
  have hE := OwnI.empty (w.alloc (.cells #[.int .i64 0, .slice none 0 0] 24))
  have hlen := chainL_length n
  have HL := hid hlen; clear hlen
  go_enter Try.func30, Try.ntmps30
  go_wp2
  go_loopw [3, 4] (fun v x wr => ∃ k : Nat, k ≤ n ∧ x = .int .i64 k ∧ OwnI wr (w.heap.size + 1) v (chainL n k) ∧ Keeps (w.alloc (.cells #[.int .i64 0, .slice none 0 0] 24)) wr) (fun _ x _ => n - (intOf x).toNat)
  case atStart => exact ⟨0, by omega, rfl, by simpa [chainL] using hE, (Keeps.refl _).alloc _⟩
  case round =>
    obtain ⟨k, hk, rfl, hown, kw⟩ := hrel
    have hsz := kw.size
    simp at hsz
    have hlk : (chainL n k).length ≤ 8 := by have := HL.out k; omega
    by_cases hlt : k < n
    · have h1 := l01Full_any (n : Int) wr (by omega) (by omega)
      have h2 := l01Full_any (k : Int) wr (by omega) (by omega)
      simp only [Int.toNat_natCast] at h1 h2
      generalize hP : (2 : Int) ^ n - 1 = P at *
      generalize hR : (2 : Int) ^ k - 1 = R at *
      have hs : chainL n (k + 1) = chainL n k ++ [andNot P R] := by rw [← hP, ← hR]; rfl
      have HS := hid hs; clear hs
      have H1 := hid h1; clear h1
      have H2 := hid h2; clear h2
      clear hP hR hE kA
      go_wp2_with (first
        | (go_at_call 38; first | ((with_reducible refine H1.out.mono ?_); rintro e w' ⟨rfl, rfl⟩) | ((with_reducible refine H2.out.mono ?_); rintro e w' ⟨rfl, rfl⟩))
        | (at_builtin; refine appI rfl _ _ rfl (w.heap.size + 1) _ (chainL n k) rfl (hown.keeps ((Keeps.refl wr).alloc _)) _ [andNot P R] rfl (Ints.lit1 wr (andNot P R)) (by simp; omega) (by simp; omega) ?_; intro v1 w1 hv1 hg1 hr1; have k2 := (kw.alloc (.cells #[.int .i64 (andNot P R)] 2)).grown hg1 (by simpa using hr1)))
      go_roundw
      case rel => exact ⟨k + 1, by omega, by go_num, by rw [HS.out]; exact hv1, k2⟩
      case measure => simp [intOf]; omega
    · obtain rfl : k = n := by omega
      clear hE
      go_wp2_with fail
      refine (l16Make_any _ _ _ (hown.ints (by omega))).mono ?_
      rintro e w2 ⟨v2, rfl, hv2, k2⟩
      obtain ⟨p2, c2, rfl, _⟩ := hv2.ints (by omega)
      rw [HL.out] at *
      obtain ⟨hc2, hf2⟩ := (kw.trans k2).both
      have hB : w.heap.size < wr.heap.size := by omega
      go_wp2_with fail
      refine bodyPost_ret (v := .agg #[.int .i64 k, .slice p2 k c2]) (by simp [results, Try.results30, go_sem, hc2]) rfl ?_
      refine ⟨.slice p2 k c2, by rw [HL.out], ((hv2.setBelow hB _).setBelow hB _).mono (by omega), ((kA.trans (kw.trans k2)).setCell (Nat.le_refl _) _).setCell (Nat.le_refl _) _⟩
--
set_option maxHeartbeats 1000000 in
theorem chainOf_any (n : Nat) (w : World) (hn : n ≤ 8) : Calls Try.prog 32 #[.int .i64 n] w (RetP w (chainL n n)) := by
  have kA := (Keeps.refl w).alloc (.cells #[.int .i64 0, .slice none 0 0] 24)
  have hlen := chainL_length n
  have HL := hid hlen; clear hlen
  go_enter Try.func32, Try.ntmps32
  go_wp2
  go_loopw [3, 6] (fun v x wr => ∃ k : Nat, k ≤ n ∧ x = .int .i64 k ∧ OwnI wr (w.heap.size + 1) v (chainL n k) ∧ Keeps (w.alloc (.cells #[.int .i64 0, .slice none 0 0] 24)) wr) (fun _ x _ => n - (intOf x).toNat)
  case atStart => exact ⟨0, by omega, rfl, OwnI.nil _ _, Keeps.refl _⟩
  case round =>
    obtain ⟨k, hk, rfl, hown, kw⟩ := hrel
    have hsz := kw.size
    simp at hsz
    have hlk : (chainL n k).length ≤ 8 := by have := HL.out k; omega
    by_cases hlt : k < n
    · have hs : chainL n (k + 1) = chainL n k ++ [andNot (2 ^ n - 1) (2 ^ k - 1)] := rfl
      have HS := hid hs; clear hs
      have e1 : IntKind.i64.wrap (2 ^ n) = 2 ^ n := by
        have : ∀ j : Fin 63, IntKind.i64.wrap ((2 : Int) ^ (j : Nat)) = (2 : Int) ^ (j : Nat) := by decide +kernel
        exact this ⟨n, by omega⟩
      have e2 : IntKind.i64.wrap (2 ^ k) = 2 ^ k := by
        have : ∀ j : Fin 63, IntKind.i64.wrap ((2 : Int) ^ (j : Nat)) = (2 : Int) ^ (j : Nat) := by decide +kernel
        exact this ⟨k, by omega⟩
      have e3 : IntKind.i64.wrap (2 ^ n - 1) = 2 ^ n - 1 := by
        have : ∀ j : Fin 63, IntKind.i64.wrap ((2 : Int) ^ (j : Nat) - 1) = (2 : Int) ^ (j : Nat) - 1 := by decide +kernel
        exact this ⟨n, by omega⟩
      have e4 : IntKind.i64.wrap (2 ^ k - 1) = 2 ^ k - 1 := by
        have : ∀ j : Fin 63, IntKind.i64.wrap ((2 : Int) ^ (j : Nat) - 1) = (2 : Int) ^ (j : Nat) - 1 := by decide +kernel
        exact this ⟨k, by omega⟩
      clear kA
      go_wp2_with fail
      go_region_law (refine stepI rfl (.tmp 9) (.tmp 17) rfl (w.heap.size + 1) _ (chainL n k) rfl (by exact hown.keeps (by first | exact ((Keeps.refl wr).drew).alloc _ | exact ((Keeps.refl wr).alloc _).drew)) _ [andNot (2 ^ n - 1) (2 ^ k - 1)] rfl (by first | exact Ints.lit1 _ _ | exact (Ints.lit1 _ _).keeps ((Keeps.refl _).drew)) (by simp; omega) (by simp; omega) ?_; intro v1 w1 hv1 hg1 hr1)
      have k2 := (kw.drew.alloc (.cells #[.int .i64 (andNot (2 ^ n - 1) (2 ^ k - 1))] 2)).grown hg1 (by simpa using hr1)
      clear e1 e2 e3 e4
      go_wp2
      go_roundw
      case rel => exact ⟨k + 1, by omega, by go_num, by rw [HS.out]; exact hv1, k2⟩
      case measure => simp [intOf]; omega
    · obtain rfl : k = n := by omega
      go_wp2_with fail
      refine (posetOf_any _ _ _ (hown.ints (by omega))).mono ?_
      rintro e w2 ⟨rfl, k2⟩
      obtain ⟨p2, c2, rfl, _⟩ := hown.ints (by omega)
      have hv2 := hown.keeps k2
      rw [HL.out] at *
      obtain ⟨hc2, hf2⟩ := (kw.trans k2).both
      have hB : w.heap.size < wr.heap.size := by omega
      go_wp2_with fail
      refine bodyPost_ret (v := .agg #[.int .i64 k, .slice p2 k c2]) (by simp [results, Try.results32, go_sem, hc2]) rfl ?_
      refine ⟨.slice p2 k c2, by rw [HL.out], ((hv2.setBelow (by omega) _).setBelow (by omega) _).mono (by omega), ((kA.trans (kw.trans k2)).setCell (Nat.le_refl _) _).setCell (Nat.le_refl _) _⟩
end Go.Proofs.Yteeonfdpcfnifaa
