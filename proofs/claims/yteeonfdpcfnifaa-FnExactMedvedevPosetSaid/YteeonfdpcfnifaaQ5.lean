/- Walks: forks on both sides. -/
import Derived.Test.YteeonfdpcfnifaaQ2
namespace Go.Proofs.Yteeonfdpcfnifaa
open Go.RowKit

def forkL (n : Nat) : Nat → List Int
  | 0 => [2 ^ (n + 1) - 1]
  | k + 1 => forkL n k ++ [2 ^ (k + 1)]
theorem forkL_length (n k : Nat) : (forkL n k).length = k + 1 := by
  induction k with
  | zero => rfl
  | succ k ih => simp [forkL, ih]
theorem OwnI.lit1 (w : World) (x : Int) : OwnI (w.alloc (.cells #[.int .i64 x] 2)) w.heap.size (.slice (some ⟨w.heap.size, 0, none⟩) 1 1) [x] := by
  refine ⟨by simp [intCells], .inr ⟨w.heap.size, 1, _, rfl, Nat.le_refl _, heap_alloc_new w _, by simp, by simp [maxLen], by simp, by simp [intCells]⟩⟩
--
set_option maxHeartbeats 1000000 in
theorem l30Fork_any (n : Nat) (w : World) (hn : n ≤ 7) : Calls Try.prog 36 #[.int .i64 n] w (RetP w (forkL n n)) := by
  have kA := (Keeps.refl w).alloc (.cells #[.int .i64 0, .slice none 0 0] 24)
  have h0 := fun w => l01Full_any ((n : Int) + 1) w (by omega) (by omega)
  have ht : ((n : Int) + 1).toNat = n + 1 := by omega
  simp only [ht] at h0
  have hf0 : forkL n 0 = [2 ^ (n + 1) - 1] := rfl
  generalize hP : (2 : Int) ^ (n + 1) - 1 = P at *
  have H0 := hid h0; clear h0
  have hE := OwnI.lit1 (w.alloc (.cells #[.int .i64 0, .slice none 0 0] 24)) P
  have hlen := forkL_length n
  have HL := hid hlen; clear hlen
  have HF := hid hf0; clear hf0
  clear hP ht
  go_enter Try.func36, Try.ntmps36
  go_wp2_with fail
  refine (H0.out _).mono ?_; rintro e w' ⟨rfl, rfl⟩
  go_wp2_with fail
  go_loopw [3, 4] (fun v x wr => ∃ k : Nat, k ≤ n ∧ x = .int .i64 ((k : Int) + 1) ∧ OwnI wr (w.heap.size + 1) v (forkL n k) ∧ Keeps (w.alloc (.cells #[.int .i64 0, .slice none 0 0] 24)) wr) (fun _ x _ => n + 1 - (intOf x).toNat)
  case atStart => exact ⟨0, by omega, rfl, by rw [HF.out]; simpa using hE, (Keeps.refl _).alloc _⟩
  case round =>
    obtain ⟨k, hk, rfl, hown, kw⟩ := hrel
    have hsz := kw.size
    simp at hsz
    have hlk : (forkL n k).length ≤ 8 := by have := HL.out k; omega
    by_cases hlt : k < n
    · have h1 := l01One_any ((k : Int) + 1) wr (by omega) (by omega)
      have ht : ((k : Int) + 1).toNat = k + 1 := by omega
      simp only [ht] at h1
      have hs : forkL n (k + 1) = forkL n k ++ [2 ^ (k + 1)] := rfl
      generalize (2 : Int) ^ (k + 1) = P1 at *
      have HS := hid hs; clear hs
      have H1 := hid h1; clear h1
      clear hE kA ht
      have hle : (k : Int) + 1 ≤ n := by omega
      go_wp2_with (first
        | (go_at_call 39; (with_reducible refine H1.out.mono ?_); rintro e w' ⟨rfl, rfl⟩)
        | (at_builtin; refine appI rfl _ _ rfl (w.heap.size + 1) _ (forkL n k) rfl (hown.keeps ((Keeps.refl wr).alloc _)) _ [P1] rfl (Ints.lit1 wr P1) (by simp; omega) (by simp; omega) ?_; intro v1 w1 hv1 hg1 hr1; have k2 := (kw.alloc (.cells #[.int .i64 P1] 2)).grown hg1 (by simpa using hr1)))
      go_roundw
      case rel => exact ⟨k + 1, by omega, by go_num, by rw [HS.out]; exact hv1, k2⟩
      case measure => simp [intOf]; omega
    · obtain rfl : k = n := by omega
      clear hE
      have hle : ¬ ((k : Int) + 1 ≤ k) := by omega
      go_wp2_with fail
      refine (l16Make_any _ _ _ (hown.ints (by omega))).mono ?_
      rintro e w2 ⟨v2, rfl, hv2, k2⟩
      obtain ⟨p2, c2, rfl, _⟩ := hv2.ints (by omega)
      rw [HL.out] at *
      obtain ⟨hc2, hf2⟩ := (kw.trans k2).both
      have hB : w.heap.size < wr.heap.size := by omega
      go_wp2_with fail
      refine bodyPost_ret (v := .agg #[.int .i64 ((k + 1 : Nat) : Int), .slice p2 (k + 1) c2]) (by simp [results, Try.results36, go_sem, hc2]) rfl ?_
      refine ⟨.slice p2 (k + 1) c2, by rw [HL.out], ((hv2.setBelow hB _).setBelow hB _).mono (by omega), ((kA.trans (kw.trans k2)).setCell (Nat.le_refl _) _).setCell (Nat.le_refl _) _⟩
--
set_option maxHeartbeats 1000000 in
theorem forkOf_any (n : Nat) (w : World) (hn : n ≤ 7) : Calls Try.prog 37 #[.int .i64 n] w (RetP w (forkL n n)) := by
  have kA := (Keeps.refl w).alloc (.cells #[.int .i64 0, .slice none 0 0] 24)
  have hlen := forkL_length n
  have HL := hid hlen; clear hlen
  have hf0 : forkL n 0 = [2 ^ (n + 1) - 1] := rfl
  have ht : ((n : Int) + 1).toNat = n + 1 := by omega
  have e1 : IntKind.i64.wrap (2 ^ (n + 1)) = 2 ^ (n + 1) := by
    have : ∀ j : Fin 63, IntKind.i64.wrap ((2 : Int) ^ (j : Nat)) = (2 : Int) ^ (j : Nat) := by decide +kernel
    exact this ⟨n + 1, by omega⟩
  have e3 : IntKind.i64.wrap (2 ^ (n + 1) - 1) = 2 ^ (n + 1) - 1 := by
    have : ∀ j : Fin 63, IntKind.i64.wrap ((2 : Int) ^ (j : Nat) - 1) = (2 : Int) ^ (j : Nat) - 1 := by decide +kernel
    exact this ⟨n + 1, by omega⟩
  have hE := OwnI.lit1 (w.alloc (.cells #[.int .i64 0, .slice none 0 0] 24)) (2 ^ (n + 1) - 1)
  go_enter Try.func37, Try.ntmps37
  go_wp2
  go_loopw [3, 11] (fun v x wr => ∃ k : Nat, k ≤ n ∧ x = .int .i64 k ∧ OwnI wr (w.heap.size + 1) v (forkL n k) ∧ Keeps (w.alloc (.cells #[.int .i64 0, .slice none 0 0] 24)) wr) (fun _ x _ => n - (intOf x).toNat)
  case atStart => exact ⟨0, by omega, rfl, by rw [hf0]; simpa using hE, (Keeps.refl _).alloc _⟩
  case round =>
    obtain ⟨k, hk, rfl, hown, kw⟩ := hrel
    have hsz := kw.size
    simp at hsz
    have hlk : (forkL n k).length ≤ 8 := by have := HL.out k; omega
    clear e1 e3 ht hE hf0
    by_cases hlt : k < n
    · have hs : forkL n (k + 1) = forkL n k ++ [2 ^ (k + 1)] := rfl
      have e1 : IntKind.i64.wrap (2 * 2 ^ k) = 2 ^ (k + 1) := by
        have : ∀ j : Fin 61, IntKind.i64.wrap (2 * (2 : Int) ^ (j : Nat)) = (2 : Int) ^ ((j : Nat) + 1) := by decide +kernel
        exact this ⟨k, by omega⟩
      generalize (2 : Int) ^ (k + 1) = P1 at *
      have HS := hid hs; clear hs
      clear kA
      go_wp2_with (at_builtin; refine appI rfl _ _ rfl (w.heap.size + 1) _ (forkL n k) rfl (hown.keeps ((Keeps.refl wr).alloc _)) _ [P1] rfl (Ints.lit1 wr P1) (by simp; omega) (by simp; omega) ?_; intro v1 w1 hv1 hg1 hr1; have k2 := (kw.alloc (.cells #[.int .i64 P1] 2)).grown hg1 (by simpa using hr1))
      go_roundw
      case rel => exact ⟨k + 1, by omega, by go_num, by rw [HS.out]; exact hv1, k2⟩
      case measure => simp [intOf]; omega
    · obtain rfl : k = n := by omega
      go_wp2_with fail
      refine (posetOf_any _ _ _ (hown.ints (by omega))).mono ?_
      rintro e w2 ⟨rfl, k2⟩
      obtain ⟨p2, c2, rfl, _⟩ := hown.ints (by omega)
      have hv2 := hown.keeps k2
      rw [HL.out] at *
      obtain ⟨hc2, hf2⟩ := (kw.trans k2).both
      have hB : w.heap.size < wr.heap.size := by omega
      go_wp2_with fail
      refine bodyPost_ret (v := .agg #[.int .i64 ((k + 1 : Nat) : Int), .slice p2 (k + 1) c2]) (by simp [results, Try.results37, go_sem, hc2]) rfl ?_
      refine ⟨.slice p2 (k + 1) c2, by rw [HL.out], ((hv2.setBelow (by omega) _).setBelow (by omega) _).mono (by omega), ((kA.trans (kw.trans k2)).setCell (Nat.le_refl _) _).setCell (Nat.le_refl _) _⟩
end Go.Proofs.Yteeonfdpcfnifaa
