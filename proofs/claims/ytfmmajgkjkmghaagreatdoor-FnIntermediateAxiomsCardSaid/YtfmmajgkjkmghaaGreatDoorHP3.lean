import Derived.Test.YtfmmajgkjkmghaaGreatDoorHSR
import Derived.Test.YtfmmajgkjkmghaaGreatDoorHL1
/- What the contract of a reader says: a box that holds a text, a place in it and a mark. -/
namespace Go.Proofs.YtfmmajgkjkmghaaGreatDoor
open Go.RowKit
structure RdAt (w : World) (r : Nat) (s : ByteArray) (i : Nat) (bad : Bool) : Prop where
 c0 : w.cell? ⟨r, 0, none⟩ = some (.string s)
 c1 : w.cell? ⟨r, 1, none⟩ = some (.int .i64 i)
 c2 : w.cell? ⟨r, 2, none⟩ = some (.bool bad)
 f1 : w.frozen? ⟨r, 1, none⟩ = false
 f2 : w.frozen? ⟨r, 2, none⟩ = false
 le : i ≤ s.size
 sz : s.size ≤ 2147483648
theorem RdAt.lt {w : World} {r : Nat} {s : ByteArray} {i : Nat} {bad : Bool} (h : RdAt w r s i bad) : r < w.heap.size := World.block_lt_of_cell? _ _ h.c0
theorem RdAt.keeps {w w' : World} {r : Nat} {s : ByteArray} {i : Nat} {bad : Bool} (h : RdAt w r s i bad) (k : Keeps w w') : RdAt w' r s i bad := by
 have hl := h.lt
 obtain ⟨kc, kf⟩ := k.both
 exact ⟨k.cell h.c0, k.cell h.c1, k.cell h.c2, (kf _ _ hl).trans h.f1, (kf _ _ hl).trans h.f2, h.le, h.sz⟩
def stops (l : Nat) (r : List UInt8) : Prop := (l ≤ 2 → r.head? ≠ some 38) ∧ (l ≤ 1 → r.head? ≠ some 124) ∧ (l = 0 → r.head? ≠ some 62)
theorem stops.up {l m : Nat} {r : List UInt8} (h : stops l r) (k : l ≤ m) : stops m r := ⟨fun e => h.1 (by omega), fun e => h.2.1 (by omega), fun e => h.2.2 (by omega)⟩
def RetRd (w : World) (r : Nat) (s : ByteArray) (j : Nat) (a : List Nd) (e : Ending) (w' : World) : Prop :=
 ∃ v, e = .returned v ∧ OwnN w' w.heap.size v a ∧ RdAt w' r s j false ∧ w.grownBy w' (some r)
def Reads (f : FuncId) (l : Nat) (t : Fm) (X : List UInt8) : Prop :=
 ∀ (w : World) (r : Nat) (s : ByteArray) (i : Nat) (rest : List UInt8), RdAt w r s i false → (bts s).drop i = X ++ rest → stops l rest → t.enc.length ≤ 100000000 →
  Calls Tryz.prog f #[.pointer (some ⟨r, 0, none⟩)] w (RetRd w r s (i + X.length) t.enc)
theorem bts_head {s : ByteArray} {i : Nat} {b : UInt8} {l : List UInt8} (h : (bts s).drop i = b :: l) : ∃ hi : i < s.size, s[i] = b ∧ (bts s).drop (i + 1) = l := by
 have hl : i < (bts s).length := by
  rcases Nat.lt_or_ge i (bts s).length with h' | h'
  ·exact h'
  ·rw [List.drop_eq_nil_of_le h'] at h; cases h
 have hs : (bts s).length = s.size := by show s.data.toList.length = s.data.size; simp
 rw [List.drop_eq_getElem_cons hl] at h
 injection h with h1 h2
 exact ⟨by omega, by rw [← h1]; simp [bts]; rfl, h2⟩
theorem bts_end {s : ByteArray} {i : Nat} (hi : i ≤ s.size) (h : (bts s).drop i = []) : i = s.size := by
 have hs : (bts s).length = s.size := by show s.data.toList.length = s.data.size; simp
 have := List.drop_eq_nil_iff.1 h
 omega
theorem drop_more {s : ByteArray} {i : Nat} {X Y : List UInt8} (h : (bts s).drop i = X ++ Y) : (bts s).drop (i + X.length) = Y := by
 rw [← List.drop_drop, h, List.drop_left]
theorem fold_and_len (ys : List Fm) : ∀ a : Fm, a.enc.length ≤ (ys.foldl Fm.and a).enc.length := by
 induction ys with
 | nil => intro a; exact Nat.le_refl _
 | cons y ys ih => intro a; have := ih (Fm.and a y); simp only [List.foldl_cons, Fm.enc, List.length_cons, List.length_append] at *; omega
theorem fold_or_len (ys : List Fm) : ∀ a : Fm, a.enc.length ≤ (ys.foldl Fm.or a).enc.length := by
 induction ys with
 | nil => intro a; exact Nat.le_refl _
 | cons y ys ih => intro a; have := ih (Fm.or a y); simp only [List.foldl_cons, Fm.enc, List.length_cons, List.length_append] at *; omega
theorem OwnN.grown {w w' : World} {B r : Nat} {v : Value} {x : List Nd} (h : OwnN w B v x) (k : w.grownBy w' (some r)) (hr : r < B) : OwnN w' B v x := by
 refine ⟨h.1, ?_⟩
 rcases h.2 with hn | ⟨g, cap, cur, rfl, hb, hgg, rest⟩
 ·exact .inl hn
 ·exact .inr ⟨g, cap, cur, rfl, hb, (k.block g (Array.getElem?_eq_some_iff.1 hgg).1 (fun e => by cases e; omega)).trans hgg, rest⟩
theorem grown_keeps {w w1 w2 : World} {row : Option Nat} (h : w.grownBy w1 row) (k : Keeps w1 w2) : w.grownBy w2 row :=
 ⟨k.os.trans h.os, k.tape.trans h.tape, k.output.trans h.output, Nat.le_trans h.size k.size, fun i hi hr => (k.block (Nat.lt_of_lt_of_le hi h.size)).trans (h.block i hi hr)⟩
end Go.Proofs.YtfmmajgkjkmghaaGreatDoor
namespace Go.Proofs.YtfmmajgkjkmghaaGreatDoor
open Go.RowKit
theorem grown_pre0 {w w1 w2 : World} {row : Option Nat} (h : Keeps w w1) (k : w1.grownBy w2 row) : w.grownBy w2 row :=
 ⟨k.os.trans h.os, k.tape.trans h.tape, k.output.trans h.output, Nat.le_trans h.size k.size, fun i hi hr => (k.block i (Nat.lt_of_lt_of_le hi h.size) hr).trans (h.block hi)⟩
def RetHit (w : World) (r : Nat) (s : ByteArray) (i : Nat) (e : Ending) (w' : World) : Prop :=
 e = .returned (.bool true) ∧ RdAt w' r s (i + 1) false ∧ w.grownBy w' (some r)
def RetMiss (w : World) (r : Nat) (s : ByteArray) (i : Nat) (e : Ending) (w' : World) : Prop :=
 e = .returned (.bool false) ∧ RdAt w' r s i false ∧ Keeps w w'
theorem RdAt.moved {w : World} {r : Nat} {s : ByteArray} {i : Nat} (h : RdAt w r s i false) (hi : i < s.size) : RdAt (w.setCell ⟨r, 1, none⟩ (.int .i64 ((i : Int) + 1))) r s (i + 1) false := by
 refine ⟨?_, ?_, ?_, ?_, ?_, hi, h.sz⟩
 ·exact (World.cell?_setCell_other (a := ⟨r, 1, none⟩) (b := ⟨r, 0, none⟩) (h := by simp) ..).trans h.c0
 ·exact World.cell?_setCell_same (h := h.c1) ..
 ·exact (World.cell?_setCell_other (a := ⟨r, 1, none⟩) (b := ⟨r, 2, none⟩) (h := by simp) ..).trans h.c2
 ·rw [World.frozen?_setCell]; exact h.f1
 ·rw [World.frozen?_setCell]; exact h.f2
set_option maxRecDepth 20000 in
set_option maxHeartbeats 1000000 in
theorem take_hit {w : World} {r : Nat} {s : ByteArray} {i : Nat} {b : UInt8} {l : List UInt8} {k : Int} (h : RdAt w r s i false) (hd : (bts s).drop i = b :: l) (hk : k = (b.toNat : Int)) :
  Calls Tryz.prog 158 #[.pointer (some ⟨r, 0, none⟩), .int .u8 k] w (RetHit w r s i) := by
 subst hk
 obtain ⟨hi, hb, _⟩ := bts_head hd
 have hm := fun n => (h.keeps ((Keeps.refl w).drewN n)).moved hi
 obtain ⟨c0, c1, c2, f1, f2, le, sz⟩ := h
 have hlt : decide ((i : Int) < s.size) = true := by simp; omega
 have hge : decide ((i : Int) ≥ s.size) = false := by simp; omega
 have hbb : s[i].toNat = b.toNat := by rw [hb]
 clear hd
 go_enter Tryz.func158, Tryz.ntmps158
 go_wp2_with fail
 go_quiet (fail)
 go_wp2_with fail
 go_ret
 exact ⟨rfl, hm _, grown_pre0 ((Keeps.refl w).drewN _) (grown_set _ _ _)⟩
set_option maxRecDepth 20000 in
set_option maxHeartbeats 1000000 in
theorem take_miss {w : World} {r : Nat} {s : ByteArray} {i : Nat} {l : List UInt8} {k : Int} (b : UInt8) (h : RdAt w r s i false) (hd : (bts s).drop i = l) (hne : l.head? ≠ some b) (hk : k = (b.toNat : Int)) :
  Calls Tryz.prog 158 #[.pointer (some ⟨r, 0, none⟩), .int .u8 k] w (RetMiss w r s i) := by
 subst hk
 have hm := fun n => h.keeps ((Keeps.refl w).drewN n)
 cases l with
 | nil =>
  have hi := bts_end h.le hd
  obtain ⟨c0, c1, c2, f1, f2, le, sz⟩ := h
  have hlt : decide ((i : Int) < s.size) = false := by simp; omega
  have hge : decide ((i : Int) ≥ s.size) = true := by simp; omega
  clear hd hne
  go_enter Tryz.func158, Tryz.ntmps158
  go_wp2_with fail
  go_quiet (fail)
  go_wp2_with fail
  go_ret
  exact ⟨rfl, hm _, (Keeps.refl w).drewN _⟩
 | cons c l =>
  obtain ⟨hi, hb, _⟩ := bts_head hd
  obtain ⟨c0, c1, c2, f1, f2, le, sz⟩ := h
  have hlt : decide ((i : Int) < s.size) = true := by simp; omega
  have hge : decide ((i : Int) ≥ s.size) = false := by simp; omega
  have hb1 : ((c.toNat : Int) == (b.toNat : Int)) = false := by simp only [beq_eq_false_iff_ne, ne_eq]; intro e; apply hne; simp [UInt8.toNat_inj.1 (Int.ofNat_inj.1 e)]
  have hb2 : ((c.toNat : Int) != (b.toNat : Int)) = true := by simp [bne, hb1]
  clear hd hne
  go_enter Tryz.func158, Tryz.ntmps158
  go_wp2_with fail
  go_quiet (fail)
  go_wp2_with fail
  go_ret
  exact ⟨rfl, hm _, (Keeps.refl w).drewN _⟩
end Go.Proofs.YtfmmajgkjkmghaaGreatDoor
