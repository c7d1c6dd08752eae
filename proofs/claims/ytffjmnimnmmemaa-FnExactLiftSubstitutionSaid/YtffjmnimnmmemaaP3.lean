/- Walks: the readers' first steps, and truth and variables, on both sides. -/
import Derived.Test.YtffjmnimnmmemaaP2
import Derived.Test.YtffjmnimnmmemaaW6
namespace Go.Proofs.Ytffjmnimnmmemaa
open Go.RowKit

theorem grown_pre0 {w w1 w2 : World} {row : Option Nat} (h : Keeps w w1) (k : w1.grownBy w2 row) : w.grownBy w2 row :=
  ⟨k.os.trans h.os, k.tape.trans h.tape, k.output.trans h.output, Nat.le_trans h.size k.size, fun i hi hr => (k.block i (Nat.lt_of_lt_of_le hi h.size) hr).trans (h.block hi)⟩
/-- a byte is taken -/
def RetHit (w : World) (r : Nat) (s : ByteArray) (i : Nat) (e : Ending) (w' : World) : Prop :=
  e = .returned (.bool true) ∧ RdAt w' r s (i + 1) false ∧ w.grownBy w' (some r)
/-- a byte is not taken -/
def RetMiss (w : World) (r : Nat) (s : ByteArray) (i : Nat) (e : Ending) (w' : World) : Prop :=
  e = .returned (.bool false) ∧ RdAt w' r s i false ∧ Keeps w w'
theorem RdAt.moved {w : World} {r : Nat} {s : ByteArray} {i : Nat} (h : RdAt w r s i false) (hi : i < s.size) : RdAt (w.setCell ⟨r, 1, none⟩ (.int .i64 ((i : Int) + 1))) r s (i + 1) false := by
  refine ⟨?_, ?_, ?_, ?_, ?_, hi, h.sz⟩
  · exact (World.cell?_setCell_other (a := ⟨r, 1, none⟩) (b := ⟨r, 0, none⟩) (h := by simp) ..).trans h.c0
  · exact World.cell?_setCell_same (h := h.c1) ..
  · exact (World.cell?_setCell_other (a := ⟨r, 1, none⟩) (b := ⟨r, 2, none⟩) (h := by simp) ..).trans h.c2
  · rw [World.frozen?_setCell]; exact h.f1
  · rw [World.frozen?_setCell]; exact h.f2
--
set_option maxRecDepth 20000 in
set_option maxHeartbeats 1000000 in
theorem l02Take_hit {w : World} {r : Nat} {s : ByteArray} {i : Nat} {b : UInt8} {l : List UInt8} {k : Int} (h : RdAt w r s i false) (hd : (bts s).drop i = b :: l) (hk : k = (b.toNat : Int)) :
    Calls Try.prog 212 #[.pointer (some ⟨r, 0, none⟩), .int .u8 k] w (RetHit w r s i) := by
  subst hk
  obtain ⟨hi, hb, _⟩ := bts_head hd
  have hm := fun n => (h.keeps ((Keeps.refl w).drewN n)).moved hi
  obtain ⟨c0, c1, c2, f1, f2, le, sz⟩ := h
  have hlt : decide ((i : Int) < s.size) = true := by simp; omega
  have hge : decide ((i : Int) ≥ s.size) = false := by simp; omega
  have hbb : s[i].toNat = b.toNat := by rw [hb]
  clear hd
  go_enter Try.func212, Try.ntmps212
  go_wp2_with fail
  go_quiet (fail)
  go_wp2_with fail
  go_ret
  exact ⟨rfl, hm _, grown_pre0 ((Keeps.refl w).drewN _) (grown_set _ _ _)⟩
set_option maxRecDepth 20000 in
set_option maxHeartbeats 1000000 in
theorem l02Take_miss {w : World} {r : Nat} {s : ByteArray} {i : Nat} {l : List UInt8} {k : Int} (b : UInt8) (h : RdAt w r s i false) (hd : (bts s).drop i = l) (hne : l.head? ≠ some b) (hk : k = (b.toNat : Int)) :
    Calls Try.prog 212 #[.pointer (some ⟨r, 0, none⟩), .int .u8 k] w (RetMiss w r s i) := by
  subst hk
  have hm := fun n => h.keeps ((Keeps.refl w).drewN n)
  cases l with
  | nil =>
    have hi := bts_end h.le hd
    obtain ⟨c0, c1, c2, f1, f2, le, sz⟩ := h
    have hlt : decide ((i : Int) < s.size) = false := by simp; omega
    have hge : decide ((i : Int) ≥ s.size) = true := by simp; omega
    clear hd hne
    go_enter Try.func212, Try.ntmps212
    go_wp2_with fail
    go_quiet (fail)
    go_wp2_with fail
    go_ret
    exact ⟨rfl, hm _, (Keeps.refl w).drewN _⟩
  | cons c l =>
    obtain ⟨hi, hb, _⟩ := bts_head hd
    obtain ⟨c0, c1, c2, f1, f2, le, sz⟩ := h
    have hlt : decide ((i : Int) < s.size) = true := by simp; omega
    have hge : decide ((i : Int) ≥ s.size) = false := by simp; omega
    have hb1 : ((c.toNat : Int) == (b.toNat : Int)) = false := by simp only [beq_eq_false_iff_ne, ne_eq]; intro e; apply hne; simp [UInt8.toNat_inj.1 (Int.ofNat_inj.1 e)]
    have hb2 : ((c.toNat : Int) != (b.toNat : Int)) = true := by simp [bne, hb1]
    clear hd hne
    go_enter Try.func212, Try.ntmps212
    go_wp2_with fail
    go_quiet (fail)
    go_wp2_with fail
    go_ret
    exact ⟨rfl, hm _, (Keeps.refl w).drewN _⟩
--
set_option maxRecDepth 20000 in
set_option maxHeartbeats 1000000 in
theorem take_hit {w : World} {r : Nat} {s : ByteArray} {i : Nat} {b : UInt8} {l : List UInt8} {k : Int} (h : RdAt w r s i false) (hd : (bts s).drop i = b :: l) (hk : k = (b.toNat : Int)) :
    Calls Try.prog 222 #[.pointer (some ⟨r, 0, none⟩), .int .u8 k] w (RetHit w r s i) := by
  subst hk
  obtain ⟨hi, hb, _⟩ := bts_head hd
  have hm := fun n => (h.keeps ((Keeps.refl w).drewN n)).moved hi
  obtain ⟨c0, c1, c2, f1, f2, le, sz⟩ := h
  have hlt : decide ((i : Int) < s.size) = true := by simp; omega
  have hge : decide ((i : Int) ≥ s.size) = false := by simp; omega
  have hbb : s[i].toNat = b.toNat := by rw [hb]
  clear hd
  go_enter Try.func222, Try.ntmps222
  go_wp2_with fail
  go_quiet (fail)
  go_wp2_with fail
  go_ret
  exact ⟨rfl, hm _, grown_pre0 ((Keeps.refl w).drewN _) (grown_set _ _ _)⟩
set_option maxRecDepth 20000 in
set_option maxHeartbeats 1000000 in
theorem take_miss {w : World} {r : Nat} {s : ByteArray} {i : Nat} {l : List UInt8} {k : Int} (b : UInt8) (h : RdAt w r s i false) (hd : (bts s).drop i = l) (hne : l.head? ≠ some b) (hk : k = (b.toNat : Int)) :
    Calls Try.prog 222 #[.pointer (some ⟨r, 0, none⟩), .int .u8 k] w (RetMiss w r s i) := by
  subst hk
  have hm := fun n => h.keeps ((Keeps.refl w).drewN n)
  cases l with
  | nil =>
    have hi := bts_end h.le hd
    obtain ⟨c0, c1, c2, f1, f2, le, sz⟩ := h
    have hlt : decide ((i : Int) < s.size) = false := by simp; omega
    have hge : decide ((i : Int) ≥ s.size) = true := by simp; omega
    clear hd hne
    go_enter Try.func222, Try.ntmps222
    go_wp2_with fail
    go_quiet (fail)
    go_wp2_with fail
    go_ret
    exact ⟨rfl, hm _, (Keeps.refl w).drewN _⟩
  | cons c l =>
    obtain ⟨hi, hb, _⟩ := bts_head hd
    obtain ⟨c0, c1, c2, f1, f2, le, sz⟩ := h
    have hlt : decide ((i : Int) < s.size) = true := by simp; omega
    have hge : decide ((i : Int) ≥ s.size) = false := by simp; omega
    have hb1 : ((c.toNat : Int) == (b.toNat : Int)) = false := by simp only [beq_eq_false_iff_ne, ne_eq]; intro e; apply hne; simp [UInt8.toNat_inj.1 (Int.ofNat_inj.1 e)]
    have hb2 : ((c.toNat : Int) != (b.toNat : Int)) = true := by simp [bne, hb1]
    clear hd hne
    go_enter Try.func222, Try.ntmps222
    go_wp2_with fail
    go_quiet (fail)
    go_wp2_with fail
    go_ret
    exact ⟨rfl, hm _, (Keeps.refl w).drewN _⟩
end Go.Proofs.Ytffjmnimnmmemaa
