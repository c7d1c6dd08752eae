import Derived.Test.YtfmmajgkjkmghaaGreatEOG
import Derived.Test.YtfmmajgkjkmghaaGreatEBase
/- The program: a relation that is numbered anew. -/
namespace Go.Proofs.YtfmmajgkjkmghaaGreat
open Go.RowKit
theorem OwnI.zcell {w : World} {B g n cap : Nat} {l : List Nat} (h : OwnI w B (.slice (some ⟨g, 0, none⟩) n cap) (zs l)) (i : Nat) (hi : i < l.length) :
  w.cell? ⟨g, i, none⟩ = some (.int .i64 (l.getD i 0 : Nat)) ∧ w.frozen? ⟨g, i, none⟩ = false := by
 obtain ⟨c, f⟩ := h.cell i (by rw [zs_length]; exact hi)
 rw [zs_get, ← getD_get hi] at c
 exact ⟨c, f⟩
end Go.Proofs.YtfmmajgkjkmghaaGreat
namespace Go.Proofs.YtfmmajgkjkmghaaGreat
open Go.RowKit
theorem OwnI.cutI {w : World} {B g cap : Nat} {a : List Int} (h : OwnI w B (.slice (some ⟨g, 0, none⟩) a.length cap) a) (k : Nat) (hk : k ≤ a.length) : OwnI w B (.slice (some ⟨g, 0, none⟩) k cap) (a.take k) := by
 rcases h with ⟨hl, ⟨e, _⟩ | ⟨g', cap', cur, e, hb, hg, hn, hm, hs, ht⟩⟩
 ·cases e
 ·cases e
  refine ⟨by simp [intCells], .inr ⟨g, cap, cur, ?_, hb, hg, ?_, hm, hs, ?_⟩⟩
  ·rw [List.length_take, Nat.min_eq_left hk]
  ·rw [List.length_take, Nat.min_eq_left hk]; exact Nat.le_trans hk hn
  ·rw [List.length_take, Nat.min_eq_left hk, show intCells (a.take k) = (intCells a).take k by simp [intCells, List.map_take], ← ht, List.take_take, Nat.mul_one, Nat.mul_one, Nat.min_eq_left hk]
end Go.Proofs.YtfmmajgkjkmghaaGreat
namespace Go.Proofs.YtfmmajgkjkmghaaGreat
open Go.RowKit
end Go.Proofs.YtfmmajgkjkmghaaGreat
namespace Go.Proofs.YtfmmajgkjkmghaaGreat
open Go.RowKit
end Go.Proofs.YtfmmajgkjkmghaaGreat
