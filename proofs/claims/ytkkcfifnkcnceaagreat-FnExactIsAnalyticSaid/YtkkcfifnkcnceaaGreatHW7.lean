import Derived.Test.YtkkcfifnkcnceaaGreatHW5
import Derived.Test.YtkkcfifnkcnceaaGreatHV5
/- Walks: the program's joins, negations and checks of lists. -/
namespace Go.Proofs.YtkkcfifnkcnceaaGreat
open Go.RowKit
theorem falsum_any (w : World) : Calls Tryz.prog 231 #[] w (RetN w Fm.fls.enc) := by
 go_enter Tryz.func231, Tryz.ntmps231
 go_wp2
 go_ret
 exact ⟨_, rfl, OwnN.lit1 w ⟨1, 0⟩, (Keeps.refl w).alloc _⟩
set_option maxHeartbeats 400000 in
theorem join_any (k : Int) (a b : List Nd) (va vb : Value) (w : World) (hva : Nds w va a) (hvb : Nds w vb b) (hl : 1 + a.length + b.length ≤ 2147483648) :
  Calls Tryz.prog 196 #[.int .i64 k, va, vb] w (RetN w (⟨k, 0⟩ :: (a ++ b))) := by
 obtain ⟨pa, na, ca, rfl⟩ := hva.shape
 obtain ⟨pb, nb, cb, rfl⟩ := hvb.shape
 have k1 := (Keeps.refl w).alloc (.cells #[.int .i64 k, .int .i64 0] 131)
 have h1 := (OwnN.lit1 w ⟨k, 0⟩).nds (by simp)
 have h2 := NdsL.lit3N (N := w.heap.size + 1) (by simp) h1 (hva.keeps k1) (hvb.keeps k1)
 have k2 := k1.alloc (.cells #[.slice (some ⟨w.heap.size, 0, none⟩) 1 1, .slice pa na ca, .slice pb nb cb] 95)
 have hfl : fl [[⟨k, 0⟩], a, b] [[⟨k, 0⟩], a, b].length = ⟨k, 0⟩ :: (a ++ b) := by simp [fl]
 have hfl2 : (fl [[⟨k, 0⟩], a, b] [[(⟨k, 0⟩ : Nd)], a, b].length).length ≤ 2147483648 := by rw [hfl]; simp; omega
 have hc := concatN_any _ _ _ h2 hfl2
 rw [hfl] at hc
 have HC := hid hc
 clear hfl2 h1 h2 hfl hc
 go_enter Tryz.func196, Tryz.ntmps196
 go_wp2_with (go_at_call 213; go_must (refine HC.out.mono ?_); rintro e w3 ⟨v3, rfl, hv3, k3⟩)
 go_ret
 exact ⟨_, rfl, hv3.mono k2.size, k2.trans k3⟩
set_option maxHeartbeats 400000 in
theorem negation_any (t : Fm) (v : Value) (w : World) (hv : Nds w v t.enc) (hl : t.enc.length ≤ 1073741824) :
  Calls Tryz.prog 225 #[v] w (RetN w (Fm.not t).enc) := by
 go_enter Tryz.func225, Tryz.ntmps225
 go_wp2_with (first | (go_at_call 231; refine (falsum_any _).mono ?_; rintro e w1 ⟨v1, rfl, hv1, k1⟩) | (go_at_call 196; refine (join_any _ _ _ _ _ _ (hv.keeps k1) (hv1.nds (by simp [Fm.enc])) (by simp [Fm.enc]; omega)).mono ?_; rintro e w2 ⟨v2, rfl, hv2, k2⟩))
 go_ret
 exact ⟨_, rfl, hv2.mono k1.size, k1.trans k2⟩
end Go.Proofs.YtkkcfifnkcnceaaGreat
namespace Go.Proofs.YtkkcfifnkcnceaaGreat
open Go.RowKit
theorem grown_pre0 {w w1 w2 : World} {row : Option Nat} (h : Keeps w w1) (k : w1.grownBy w2 row) : w.grownBy w2 row :=
 ⟨k.os.trans h.os, k.tape.trans h.tape, k.output.trans h.output, Nat.le_trans h.size k.size, fun i hi hr => (k.block i (Nat.lt_of_lt_of_le hi h.size) hr).trans (h.block hi)⟩
def RetHit (w : World) (r : Nat) (s : ByteArray) (i : Nat) (e : Ending) (w' : World) : Prop :=
 e = .returned (.bool true) ∧ RdAt w' r s (i + 1) false ∧ w.grownBy w' (some r)
def RetMiss (w : World) (r : Nat) (s : ByteArray) (i : Nat) (e : Ending) (w' : World) : Prop :=
 e = .returned (.bool false) ∧ RdAt w' r s i false ∧ Keeps w w'
theorem RdAt.moved {w : World} {r : Nat} {s : ByteArray} {i : Nat} (h : RdAt w r s i false) (hi : i < s.size) : RdAt (w.setCell ⟨r, 1, none⟩ (.int .i64 ((i : Int) + 1))) r s (i + 1) false := by
 refine ⟨?_, ?_, ?_, ?_, ?_, hi, h.sz⟩
 ·exact (World.cell?_setCell_other (a := ⟨r, 1, none⟩) (b := ⟨r, 0, none⟩) (h := by simp) ..).trans h.c0
 ·exact World.cell?_setCell_same (h := h.c1) ..
 ·exact (World.cell?_setCell_other (a := ⟨r, 1, none⟩) (b := ⟨r, 2, none⟩) (h := by simp) ..).trans h.c2
 ·rw [World.frozen?_setCell]; exact h.f1
 ·rw [World.frozen?_setCell]; exact h.f2
set_option maxRecDepth 20000 in
set_option maxHeartbeats 1000000 in
theorem l02Take_hit {w : World} {r : Nat} {s : ByteArray} {i : Nat} {b : UInt8} {l : List UInt8} {k : Int} (h : RdAt w r s i false) (hd : (bts s).drop i = b :: l) (hk : k = (b.toNat : Int)) :
  Calls Tryz.prog 217 #[.pointer (some ⟨r, 0, none⟩), .int .u8 k] w (RetHit w r s i) := by
 subst hk
 obtain ⟨hi, hb, _⟩ := bts_head hd
 have hm := fun n => (h.keeps ((Keeps.refl w).drewN n)).moved hi
 obtain ⟨c0, c1, c2, f1, f2, le, sz⟩ := h
 have hlt : decide ((i : Int) < s.size) = true := by simp; omega
 have hge : decide ((i : Int) ≥ s.size) = false := by simp; omega
 have hbb : s[i].toNat = b.toNat := by rw [hb]
 clear hd
 go_enter Tryz.func217, Tryz.ntmps217
 go_wp2_with fail
 go_quiet (fail)
 go_wp2_with fail
 go_ret
 exact ⟨rfl, hm _, grown_pre0 ((Keeps.refl w).drewN _) (grown_set _ _ _)⟩
set_option maxRecDepth 20000 in
set_option maxHeartbeats 1000000 in
theorem l02Take_miss {w : World} {r : Nat} {s : ByteArray} {i : Nat} {l : List UInt8} {k : Int} (b : UInt8) (h : RdAt w r s i false) (hd : (bts s).drop i = l) (hne : l.head? ≠ some b) (hk : k = (b.toNat : Int)) :
  Calls Tryz.prog 217 #[.pointer (some ⟨r, 0, none⟩), .int .u8 k] w (RetMiss w r s i) := by
 subst hk
 have hm := fun n => h.keeps ((Keeps.refl w).drewN n)
 cases l with
 | nil =>
  have hi := bts_end h.le hd
  obtain ⟨c0, c1, c2, f1, f2, le, sz⟩ := h
  have hlt : decide ((i : Int) < s.size) = false := by simp; omega
  have hge : decide ((i : Int) ≥ s.size) = true := by simp; omega
  clear hd hne
  go_enter Tryz.func217, Tryz.ntmps217
  go_wp2_with fail
  go_quiet (fail)
  go_wp2_with fail
  go_ret
  exact ⟨rfl, hm _, (Keeps.refl w).drewN _⟩
 | cons c l =>
  obtain ⟨hi, hb, _⟩ := bts_head hd
  obtain ⟨c0, c1, c2, f1, f2, le, sz⟩ := h
  have hlt : decide ((i : Int) < s.size) = true := by simp; omega
  have hge : decide ((i : Int) ≥ s.size) = false := by simp; omega
  have hb1 : ((c.toNat : Int) == (b.toNat : Int)) = false := by simp only [beq_eq_false_iff_ne, ne_eq]; intro e; apply hne; simp [UInt8.toNat_inj.1 (Int.ofNat_inj.1 e)]
  have hb2 : ((c.toNat : Int) != (b.toNat : Int)) = true := by simp [bne, hb1]
  clear hd hne
  go_enter Tryz.func217, Tryz.ntmps217
  go_wp2_with fail
  go_quiet (fail)
  go_wp2_with fail
  go_ret
  exact ⟨rfl, hm _, (Keeps.refl w).drewN _⟩
set_option maxRecDepth 20000 in
set_option maxHeartbeats 1000000 in
theorem take_hit {w : World} {r : Nat} {s : ByteArray} {i : Nat} {b : UInt8} {l : List UInt8} {k : Int} (h : RdAt w r s i false) (hd : (bts s).drop i = b :: l) (hk : k = (b.toNat : Int)) :
  Calls Tryz.prog 195 #[.pointer (some ⟨r, 0, none⟩), .int .u8 k] w (RetHit w r s i) := by
 subst hk
 obtain ⟨hi, hb, _⟩ := bts_head hd
 have hm := fun n => (h.keeps ((Keeps.refl w).drewN n)).moved hi
 obtain ⟨c0, c1, c2, f1, f2, le, sz⟩ := h
 have hlt : decide ((i : Int) < s.size) = true := by simp; omega
 have hge : decide ((i : Int) ≥ s.size) = false := by simp; omega
 have hbb : s[i].toNat = b.toNat := by rw [hb]
 clear hd
 go_enter Tryz.func195, Tryz.ntmps195
 go_wp2_with fail
 go_quiet (fail)
 go_wp2_with fail
 go_ret
 exact ⟨rfl, hm _, grown_pre0 ((Keeps.refl w).drewN _) (grown_set _ _ _)⟩
set_option maxRecDepth 20000 in
set_option maxHeartbeats 1000000 in
theorem take_miss {w : World} {r : Nat} {s : ByteArray} {i : Nat} {l : List UInt8} {k : Int} (b : UInt8) (h : RdAt w r s i false) (hd : (bts s).drop i = l) (hne : l.head? ≠ some b) (hk : k = (b.toNat : Int)) :
  Calls Tryz.prog 195 #[.pointer (some ⟨r, 0, none⟩), .int .u8 k] w (RetMiss w r s i) := by
 subst hk
 have hm := fun n => h.keeps ((Keeps.refl w).drewN n)
 cases l with
 | nil =>
  have hi := bts_end h.le hd
  obtain ⟨c0, c1, c2, f1, f2, le, sz⟩ := h
  have hlt : decide ((i : Int) < s.size) = false := by simp; omega
  have hge : decide ((i : Int) ≥ s.size) = true := by simp; omega
  clear hd hne
  go_enter Tryz.func195, Tryz.ntmps195
  go_wp2_with fail
  go_quiet (fail)
  go_wp2_with fail
  go_ret
  exact ⟨rfl, hm _, (Keeps.refl w).drewN _⟩
 | cons c l =>
  obtain ⟨hi, hb, _⟩ := bts_head hd
  obtain ⟨c0, c1, c2, f1, f2, le, sz⟩ := h
  have hlt : decide ((i : Int) < s.size) = true := by simp; omega
  have hge : decide ((i : Int) ≥ s.size) = false := by simp; omega
  have hb1 : ((c.toNat : Int) == (b.toNat : Int)) = false := by simp only [beq_eq_false_iff_ne, ne_eq]; intro e; apply hne; simp [UInt8.toNat_inj.1 (Int.ofNat_inj.1 e)]
  have hb2 : ((c.toNat : Int) != (b.toNat : Int)) = true := by simp [bne, hb1]
  clear hd hne
  go_enter Tryz.func195, Tryz.ntmps195
  go_wp2_with fail
  go_quiet (fail)
  go_wp2_with fail
  go_ret
  exact ⟨rfl, hm _, (Keeps.refl w).drewN _⟩
end Go.Proofs.YtkkcfifnkcnceaaGreat
namespace Go.Proofs.YtkkcfifnkcnceaaGreat
open Go.RowKit
set_option maxHeartbeats 400000 in
theorem l02Pre_any (k : Int) (a : List Nd) (va : Value) (w : World) (hva : Nds w va a) (hl : 1 + a.length ≤ 2147483648) :
  Calls Tryz.prog 103 #[.int .i64 k, va] w (RetN w (⟨k, 0⟩ :: a)) := by
 go_enter Tryz.func103, Tryz.ntmps103
 have h1 := OwnN.lit1 w ⟨k, 0⟩
 have k1 := (Keeps.refl w).alloc (.cells #[.int .i64 k, .int .i64 0] 131)
 have ha1 := hva.keeps k1
 go_wp2_with (at_builtin; refine appN rfl _ _ rfl w.heap.size _ [⟨k, 0⟩] rfl h1 _ a rfl ha1 (by simp) (by simp; omega) ?_; intro v1 w1 hv1 hg1 hr1; have k2 : Keeps w w1 := k1.grown hg1 hr1)
 go_ret
 exact ⟨_, rfl, by simpa using hv1, k2⟩
set_option maxRecDepth 20000 in
set_option maxHeartbeats 400000 in
theorem prefix_any (k : Int) (a : List Nd) (va : Value) (w : World) (hva : Nds w va a) (hl : 1 + a.length ≤ 2147483648) :
  Calls Tryz.prog 227 #[.int .i64 k, va] w (RetN w (⟨k, 0⟩ :: a)) := by
 obtain ⟨pa, na, ca, rfl⟩ := hva.shape
 have k1 := (Keeps.refl w).alloc (.cells #[.int .i64 k, .int .i64 0] 131)
 have h1 := (OwnN.lit1 w ⟨k, 0⟩).nds (by simp)
 have h2 := NdsL.lit2N (N := w.heap.size + 1) (by simp) h1 (hva.keeps k1)
 have k2 := k1.alloc (.cells #[.slice (some ⟨w.heap.size, 0, none⟩) 1 1, .slice pa na ca] 95)
 have hfl : fl [[⟨k, 0⟩], a] [[⟨k, 0⟩], a].length = ⟨k, 0⟩ :: a := by simp [fl]
 have hfl2 : (fl [[⟨k, 0⟩], a] [[(⟨k, 0⟩ : Nd)], a].length).length ≤ 2147483648 := by rw [hfl]; simp; omega
 have hc := concatN_any _ _ _ h2 hfl2
 rw [hfl] at hc
 have HC := hid hc
 clear hfl2 h1 h2 hfl hc
 go_enter Tryz.func227, Tryz.ntmps227
 go_wp2_with (go_at_call 213; go_must (refine HC.out.mono ?_); rintro e w3 ⟨v3, rfl, hv3, k3⟩)
 go_ret
 exact ⟨_, rfl, hv3.mono k2.size, k2.trans k3⟩
end Go.Proofs.YtkkcfifnkcnceaaGreat
