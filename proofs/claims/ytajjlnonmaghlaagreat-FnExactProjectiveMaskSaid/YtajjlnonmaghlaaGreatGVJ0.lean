/- arrow of three; cells of a box that stay. -/
import Derived.Test.YtajjlnonmaghlaaGreatGVH
import Derived.Test.YtajjlnonmaghlaaGreatGVK
import Derived.Test.YtajjlnonmaghlaaGreatGN1
import Derived.Test.YtajjlnonmaghlaaGreatGV3
import Derived.Lib.SliceRun
import Derived.Test.YtajjlnonmaghlaaGreatGVE
namespace Go.Proofs.YtajjlnonmaghlaaGreat
open Go.RowKit
set_option maxRecDepth 20000 in
set_option maxHeartbeats 1000000 in
theorem arrow_three (x y z : List Nd) (v : Value) (w : World) (hv : NdsL w v [x, y, z]) (hl : x.length + y.length + z.length ≤ 1000000000) : Calls Tryz.prog 189 #[v] w (RetN w (⟨4, 0⟩ :: (x ++ (⟨4, 0⟩ :: (y ++ z))))) := by
  have hv0 := hv
  obtain ⟨p, cap, rfl, hle, hmx, hlm, _⟩ := hv
  simp only [List.length_cons, List.length_nil] at *
  unfold maxLen at hmx
  obtain ⟨b, off, u1, rfl, hc1, h1⟩ := hv0.get 0 (by simp)
  obtain ⟨b', off', u2, e, hc2, h2⟩ := hv0.get 1 (by simp)
  cases e
  obtain ⟨b', off', u3, e, hc3, h3⟩ := hv0.get 2 (by simp)
  cases e
  simp only [List.getElem_cons_zero, List.getElem_cons_succ] at h1 h2 h3
  rw [Nat.add_zero] at hc1
  obtain ⟨p1, n1, q1, rfl⟩ := h1.shape
  obtain ⟨p2, n2, q2, rfl⟩ := h2.shape
  obtain ⟨p3, n3, q3, rfl⟩ := h3.shape
  clear hv0
  have HJ := hid (join_any 4 y z _ _ w h2 h3 (by omega))
  have HJ2 := hid (fun u2 w2 (k : Keeps w w2) (h : Nds w2 u2 (⟨4, 0⟩ :: (y ++ z))) => join_any 4 x (⟨4, 0⟩ :: (y ++ z)) _ u2 w2 (h1.keeps k) h (by simp only [List.length_cons, List.length_append]; omega))
  have hlen : (⟨4, 0⟩ :: (y ++ z) : List Nd).length ≤ 2147483648 := by simp only [List.length_cons, List.length_append]; omega
  clear h1 h2 h3
  go_enter Tryz.func189, Tryz.ntmps189
  go_wp2
  go_loopw [3, 4] (fun o i' wr => (i' = .int .i64 1 ∧ o = .slice p3 n3 q3 ∧ wr = w) ∨ (i' = .int .i64 0 ∧ OwnN wr w.heap.size o (⟨4, 0⟩ :: (y ++ z)) ∧ Keeps w wr) ∨ (i' = .int .i64 (-1) ∧ OwnN wr w.heap.size o (⟨4, 0⟩ :: (x ++ (⟨4, 0⟩ :: (y ++ z)))) ∧ Keeps w wr)) (fun _ i _ => (intOf i + 1).toNat)
  case atStart => exact .inl ⟨rfl, rfl, rfl⟩
  case round =>
    rcases hrel with ⟨rfl, rfl, rfl⟩ | ⟨rfl, ho, kw⟩ | ⟨rfl, ho, kw⟩
    · go_wp2_with fail
      refine HJ.out.mono ?_; rintro e w2 ⟨v2, rfl, hv2, k2⟩
      go_wp2_with fail
      go_roundw
      case rel => exact .inr (.inl ⟨rfl, hv2, k2⟩)
      case measure => simp [intOf]
    · have hn := ho.nds hlen
      obtain ⟨p4, n4, q4, rfl⟩ := hn.shape
      replace hc1 := kw.cell hc1
      have HN := hid hn; clear hn
      go_wp2_with fail
      refine (HJ2.out _ _ kw HN.out).mono ?_; rintro e w2 ⟨v2, rfl, hv2, k2⟩
      go_wp2_with fail
      go_roundw
      case rel => exact .inr (.inr ⟨rfl, hv2.mono kw.size, kw.trans k2⟩)
      case measure => simp [intOf]
    · go_wp2
      go_ret
      exact ⟨_, rfl, ho, kw⟩
theorem Nds.undrew {w : World} {v : Value} {a : List Nd} (h : Nds w.drew v a) : Nds w v a := h
theorem cells_alloc {w : World} {a b : Addr} {u v : Value} (o : Obj) (h : w.cell? a = some u ∧ w.cell? b = some v) : (w.alloc o).cell? a = some u ∧ (w.alloc o).cell? b = some v := ⟨Lib.cell?_alloc_some o h.1, Lib.cell?_alloc_some o h.2⟩
theorem cells_keeps {w w' : World} {a b : Addr} {u v : Value} (k : Keeps w w') (h : w.cell? a = some u ∧ w.cell? b = some v) : w'.cell? a = some u ∧ w'.cell? b = some v := ⟨k.cell h.1, k.cell h.2⟩
theorem cells4_alloc {w : World} {a b c d : Addr} {u v x y : Value} (o : Obj) (h : (w.cell? a = some u ∧ w.cell? b = some v) ∧ (w.cell? c = some x ∧ w.cell? d = some y)) : ((w.alloc o).cell? a = some u ∧ (w.alloc o).cell? b = some v) ∧ ((w.alloc o).cell? c = some x ∧ (w.alloc o).cell? d = some y) := ⟨cells_alloc o h.1, cells_alloc o h.2⟩
theorem cells4_keeps {w w' : World} {a b c d : Addr} {u v x y : Value} (k : Keeps w w') (h : (w.cell? a = some u ∧ w.cell? b = some v) ∧ (w.cell? c = some x ∧ w.cell? d = some y)) : (w'.cell? a = some u ∧ w'.cell? b = some v) ∧ (w'.cell? c = some x ∧ w'.cell? d = some y) := ⟨cells_keeps k h.1, cells_keeps k h.2⟩
end Go.Proofs.YtajjlnonmaghlaaGreat
