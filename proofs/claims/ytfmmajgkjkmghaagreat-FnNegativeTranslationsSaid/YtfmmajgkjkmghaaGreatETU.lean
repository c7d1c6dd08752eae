import Derived.Test.YtfmmajgkjkmghaaGreatEQE8
import Derived.Test.YtfmmajgkjkmghaaGreatEPP
import Derived.Deep.RegionLaw
import Derived.Test.YtfmmajgkjkmghaaGreatEBase
/- What is a poset: both sides. -/
namespace Go.Proofs.YtfmmajgkjkmghaaGreat
open Go.RowKit
def isPos (n : Int) (a : List Int) : Bool := inR n 0 8 && decide ((a.length : Int) = n) && a.all (isM a.length) && posB (a.map Int.toNat)
theorem zs_toNat (b : List Nat) : (zs b).map Int.toNat = b := by
 unfold zs
 rw [List.map_map]
 conv => rhs; rw [← List.map_id b]
 rfl
theorem isPos_iff (n : Int) (a : List Int) : isPos n a = true ↔ ∃ b : List Nat, a = zs b ∧ n = b.length ∧ b.length ≤ 8 ∧ Bnd b.length b ∧ posB b = true := by
 unfold isPos
 rw [Bool.and_eq_true, Bool.and_eq_true, Bool.and_eq_true, decide_eq_true_eq]
 constructor
 ·rintro ⟨⟨⟨h1, h2⟩, h3⟩, h4⟩
  obtain ⟨b, rfl, hb⟩ := all_isM h3
  rw [zs_length] at *
  rw [zs_toNat] at h4
  simp [inR] at h1
  exact ⟨b, rfl, h2.symm, by omega, mem_bnd hb, h4⟩
 ·rintro ⟨b, rfl, rfl, h8, hb, hp⟩
  rw [zs_length, zs_toNat]
  exact ⟨⟨⟨by simp [inR]; omega, rfl⟩, isM_all (bnd_mem hb)⟩, hp⟩
set_option maxRecDepth 20000 in
theorem frameOf_any (a : List Int) (v : Value) (w : World) (hv : Ints w v a) : Calls Tryz.prog 42 #[v] w fun e w' => e = .returned (.agg #[.int .i64 a.length, v]) ∧ Keeps w w' := by
 have HS := hid (fun w2 (k : Keeps w w2) => sizeI_any a v w2 (hv.keeps k))
 have kA := (Keeps.refl w).alloc (.cells #[.int .i64 0, .slice none 0 0] 35)
 obtain ⟨p, cap, rfl, _⟩ := hv
 go_enter Tryz.func42, Tryz.ntmps42
 go_wp2_with fail
 refine (HS.out _ kA).mono ?_; rintro e w2 ⟨rfl, rfl⟩
 go_wp2_with fail
 refine bodyPost_ret (v := .agg #[.int .i64 a.length, .slice p a.length cap]) (by simp [results, Tryz.results42, go_sem]) rfl ?_
 exact ⟨rfl, (Keeps.refl w).alloc _⟩
set_option maxRecDepth 20000 in
theorem frame_any (n : Int) (a : List Int) (v : Value) (w : World) (hv : Ints w v a) : Calls Tryz.prog 169 #[.agg #[.int .i64 n, v]] w fun e w' => e = .returned (.agg #[.int .i64 a.length, v]) ∧ Keeps w w' := by
 have kA := ((Keeps.refl w).alloc (.cells #[.int .i64 n, v] 31)).alloc (.cells #[.int .i64 0, .slice none 0 0] 35)
 have HF := hid (fun w2 (k : Keeps w w2) => frameOf_any a v w2 (hv.keeps k))
 obtain ⟨p, cap, rfl, _⟩ := hv
 go_enter Tryz.func169, Tryz.ntmps169
 go_wp2_with fail
 refine (HF.out _ kA).mono ?_; rintro e w2 ⟨rfl, k2⟩
 have e0 : w2.cell? ⟨w.heap.size + 1, 0, none⟩ = some (.int .i64 0) := k2.cell (by simp)
 have e1 : w2.cell? ⟨w.heap.size + 1, 1, none⟩ = some (.slice none 0 0) := k2.cell (by simp)
 obtain ⟨hc2, hf2⟩ := k2.both
 go_wp2_with fail
 refine bodyPost_ret (v := .agg #[.int .i64 a.length, .slice p a.length cap]) (by simp [results, Tryz.results169, go_sem, e0, e1]) rfl ?_
 exact ⟨rfl, ((kA.trans k2).setCell (by simp) _).setCell (by simp) _⟩
set_option maxRecDepth 20000 in
set_option maxHeartbeats 1000000 in
theorem isPoset_any (n : Int) (a : List Int) (v : Value) (w : World) (hv : Ints w v a) : Calls Tryz.prog 95 #[.agg #[.int .i64 n, v]] w fun e w' => e = .returned (.bool (isPos n a)) ∧ Keeps w w' := by
 have kA := (Keeps.refl w).alloc (.cells #[.int .i64 n, v] 31)
 have hc := BoxF.made w n v 31
 have HN := hid (fun w2 => inRange_any n 0 8 w2)
 have HS := hid (fun w2 (k : Keeps w w2) => sizeI_any a v w2 (hv.keeps k))
 have HR := hid (fun w2 (k : Keeps w w2) => isRelation_any a v w2 (hv.keeps k))
 have HF := hid (fun w2 (k : Keeps w w2) => frame_any n a v w2 (hv.keeps k))
 have H0 := hid (fun w2 b (e : a = zs b) (k : Keeps w w2) => hasFlag0_any b v w2 (e ▸ hv.keeps k))
 have H2 := hid (fun w2 b (e : a = zs b) (k : Keeps w w2) => hasFlag2_any b v w2 (e ▸ hv.keeps k))
 have H8 := hid (fun w2 b (e : a = zs b) (k : Keeps w w2) => hasFlag8_any b v w2 (e ▸ hv.keeps k))
 have HP : Hid (isPos n a = (inR n 0 8 && decide ((a.length : Int) = n) && a.all (isM a.length) && posB (a.map Int.toNat))) := hid rfl
 obtain ⟨c0, c1⟩ := hc
 obtain ⟨p, cap, rfl, _⟩ := hv
 cases h1 : inR n 0 8
 ·rw [h1] at HN HP
  simp only [Bool.false_and] at HP
  clear h1
  go_enter Tryz.func95, Tryz.ntmps95
  go_wp2_with fail
  go_quiet (first | (go_at_call 167; refine quietS (HN.out _)))
  go_wp2_with fail
  go_ret
  exact ⟨by rw [HP.out]; rfl, kA.drewN _⟩
 ·rw [h1] at HN HP
  have h8 : n ≤ 8 := by simp [inR] at h1; omega
  clear h1
  by_cases h2 : (a.length : Int) = n
  ·have hd : ((a.length : Int) != n) = false := by simp [h2]
   rw [decide_eq_true h2] at HP
   have hl8 : a.length ≤ 8 := by omega
   replace HR := hid (fun w2 k => HR.out w2 k hl8)
   subst h2
   have kd0 := (Keeps.refl (w.alloc (.cells #[.int .i64 a.length, .slice p a.length cap] 31))).drew
   have kD := kA.drew
   have e0 := kd0.cell c0
   have e1 := kd0.cell c1
   cases h3 : a.all (isM a.length)
   ·rw [h3] at HR HP
    simp only [Bool.true_and, Bool.false_and] at HP
    clear h3
    go_enter Tryz.func95, Tryz.ntmps95
    go_wp2_with fail
    go_region_held3 (fun w' => w'.cell? ⟨w.heap.size, 0, none⟩ = some (.int .i64 a.length) ∧ w'.cell? ⟨w.heap.size, 1, none⟩ = some (.slice p a.length cap)) (first | exact ⟨e0, e1⟩ | exact ⟨z0, z1⟩) (first | (go_at_call 167; refine (HN.out _).mono ?_; rintro e w' ⟨rfl, rfl⟩) | (go_at_call 99; refine (HS.out _ kD).mono ?_; rintro e w' ⟨rfl, rfl⟩) | (go_at_call 168; refine (HR.out _ kD).mono ?_; rintro e w2 ⟨rfl, k2⟩; have z0 := k2.cell e0; have z1 := k2.cell e1))
    go_wp2_with fail
    go_ret
    exact ⟨by rw [HP.out]; rfl, kD.trans k2⟩
   ·rw [h3] at HR HP
    obtain ⟨b, rfl, hb⟩ := all_isM h3
    have hbm := mem_bnd hb
    clear h3 hb
    simp only [Bool.true_and, zs_toNat] at HP
    rw [zs_length] at *
    have H0' := hid (fun w2 k => H0.out w2 b rfl k hl8 hbm)
    have H2' := hid (fun w2 k => H2.out w2 b rfl k hl8 hbm)
    have H8' := hid (fun w2 k => H8.out w2 b rfl k hl8 hbm)
    have HQ : Hid (posB b = (reflB b && transB b && antiB b)) := hid rfl
    clear H0 H2 H8 hbm
    generalize reflB b = q0 at *
    generalize transB b = q2 at *
    generalize antiB b = q8 at *
    generalize b.length = m at *
    go_enter Tryz.func95, Tryz.ntmps95
    go_wp2_with fail
    go_region_held3 (fun w' => w'.cell? ⟨w.heap.size, 0, none⟩ = some (.int .i64 m) ∧ w'.cell? ⟨w.heap.size, 1, none⟩ = some (.slice p m cap)) (first | exact ⟨e0, e1⟩ | exact ⟨z0, z1⟩) (first | (go_at_call 167; refine (HN.out _).mono ?_; rintro e w' ⟨rfl, rfl⟩) | (go_at_call 99; refine (HS.out _ kD).mono ?_; rintro e w' ⟨rfl, rfl⟩) | (go_at_call 168; refine (HR.out _ kD).mono ?_; rintro e w2 ⟨rfl, k2⟩; have z0 := k2.cell e0; have z1 := k2.cell e1))
    have k2' := kD.trans k2
    clear e0 e1 c0 c1 HN HS HR
    go_wp2_with fail
    refine (HF.out _ k2').mono ?_; rintro e w3 ⟨rfl, k3⟩
    have k4 := (k2'.trans k3).alloc (.cells #[.int .i64 m, .slice p m cap] 35)
    have y0 : (w3.alloc (.cells #[.int .i64 m, .slice p m cap] 35)).cell? ⟨w3.heap.size, 0, none⟩ = some (.int .i64 m) := by simp
    have y1 : (w3.alloc (.cells #[.int .i64 m, .slice p m cap] 35)).cell? ⟨w3.heap.size, 1, none⟩ = some (.slice p m cap) := by simp
    clear z0 z1
    go_wp2_with fail
    refine (H0'.out _ k4).mono ?_; rintro e w4 ⟨rfl, k5⟩
    replace k4 := k4.trans k5
    replace y0 := k5.cell y0
    replace y1 := k5.cell y1
    cases q0
    ·go_wp2_with fail
     go_ret
     exact ⟨by rw [HP.out, HQ.out]; rfl, k4⟩
    ·go_wp2_with fail
     refine (H2'.out _ k4).mono ?_; rintro e w5 ⟨rfl, k6⟩
     replace k4 := k4.trans k6
     replace y0 := k6.cell y0
     replace y1 := k6.cell y1
     cases q2
     ·go_wp2_with fail
      go_ret
      exact ⟨by rw [HP.out, HQ.out]; rfl, k4⟩
     ·go_wp2_with fail
      refine (H8'.out _ k4).mono ?_; rintro e w6 ⟨rfl, k7⟩
      go_wp2_with fail
      go_ret
      exact ⟨by rw [HP.out, HQ.out]; cases q8 <;> rfl, k4.trans k7⟩
  ·have hd : ((a.length : Int) != n) = true := by simp [h2]
   rw [decide_eq_false h2] at HP
   simp only [Bool.and_false, Bool.false_and] at HP
   clear h2
   go_enter Tryz.func95, Tryz.ntmps95
   go_wp2_with fail
   go_quiet (first | (go_at_call 167; refine quietS (HN.out _)) | (go_at_call 99; refine quietS (HS.out _ (kA.drewN _))))
   go_wp2_with fail
   go_ret
   exact ⟨by rw [HP.out]; rfl, kA.drewN _⟩
set_option maxRecDepth 20000 in
set_option maxHeartbeats 1000000 in
theorem l16Is_any (n : Int) (a : List Int) (v : Value) (w : World) (hv : Ints w v a) : Calls Tryz.prog 93 #[.agg #[.int .i64 n, v]] w fun e w' => e = .returned (.bool (isPos n a)) ∧ Keeps w w' := by
 have kA := (Keeps.refl w).alloc (.cells #[.int .i64 n, v] 31)
 have hc := BoxF.made w n v 31
 have HN := hid (fun w2 => l01In_any n 0 8 w2)
 have HR := hid (fun w2 m (hm : m ≤ 8) (k : Keeps w w2) => l01Masks_any m a v w2 hm (hv.keeps k))
 have H0 := hid (fun w2 b (e : a = zs b) (k : Keeps w w2) => l05Flag0_any b v w2 (e ▸ hv.keeps k))
 have H2 := hid (fun w2 b (e : a = zs b) (k : Keeps w w2) => l05Flag2_any b v w2 (e ▸ hv.keeps k))
 have H8 := hid (fun w2 b (e : a = zs b) (k : Keeps w w2) => l05Flag8_any b v w2 (e ▸ hv.keeps k))
 have HP : Hid (isPos n a = (inR n 0 8 && decide ((a.length : Int) = n) && a.all (isM a.length) && posB (a.map Int.toNat))) := hid rfl
 obtain ⟨c0, c1⟩ := hc
 obtain ⟨p, cap, rfl, _, hmx, _⟩ := hv
 unfold maxLen at hmx
 cases h1 : inR n 0 8
 ·rw [h1] at HN HP
  simp only [Bool.false_and] at HP
  clear h1
  go_enter Tryz.func93, Tryz.ntmps93
  go_wp2_with fail
  refine (HN.out _).mono ?_; rintro e w2 ⟨rfl, rfl⟩
  go_wp2_with fail
  go_ret
  exact ⟨by rw [HP.out]; rfl, kA⟩
 ·rw [h1] at HN HP
  have h8 : n ≤ 8 := by simp [inR] at h1; omega
  clear h1
  by_cases h2 : (a.length : Int) = n
  ·have hd : ((a.length : Int) != n) = false := by simp [h2]
   rw [decide_eq_true h2] at HP
   have hl8 : a.length ≤ 8 := by omega
   replace HR := hid (fun w2 k => HR.out w2 a.length hl8 k)
   subst h2
   cases h3 : a.all (isM a.length)
   ·rw [h3] at HR HP
    simp only [Bool.true_and, Bool.false_and] at HP
    clear h3
    go_enter Tryz.func93, Tryz.ntmps93
    go_wp2_with fail
    refine (HN.out _).mono ?_; rintro e w2 ⟨rfl, rfl⟩
    go_wp2_with fail
    refine (HR.out _ kA).mono ?_; rintro e w3 ⟨rfl, k3⟩
    go_wp2_with fail
    go_ret
    exact ⟨by rw [HP.out]; rfl, kA.trans k3⟩
   ·rw [h3] at HR HP
    obtain ⟨b, rfl, hb⟩ := all_isM h3
    have hbm := mem_bnd hb
    clear h3 hb
    simp only [Bool.true_and, zs_toNat] at HP
    rw [zs_length] at *
    have H0' := hid (fun w2 k => H0.out w2 b rfl k hl8 hbm)
    have H2' := hid (fun w2 k => H2.out w2 b rfl k hl8 hbm)
    have H8' := hid (fun w2 k => H8.out w2 b rfl k hl8 hbm)
    have HQ : Hid (posB b = (reflB b && transB b && antiB b)) := hid rfl
    clear H0 H2 H8 hbm
    generalize reflB b = q0 at *
    generalize transB b = q2 at *
    generalize antiB b = q8 at *
    generalize b.length = m at *
    go_enter Tryz.func93, Tryz.ntmps93
    go_wp2_with fail
    refine (HN.out _).mono ?_; rintro e w2 ⟨rfl, rfl⟩
    go_wp2_with fail
    refine (HR.out _ kA).mono ?_; rintro e w3 ⟨rfl, k3⟩
    have z0 := k3.cell c0
    have z1 := k3.cell c1
    have k4 := (kA.trans k3).alloc (.cells #[.int .i64 m, .slice p m cap] 35)
    have y0 : (w3.alloc (.cells #[.int .i64 m, .slice p m cap] 35)).cell? ⟨w3.heap.size, 0, none⟩ = some (.int .i64 m) := by simp
    have y1 : (w3.alloc (.cells #[.int .i64 m, .slice p m cap] 35)).cell? ⟨w3.heap.size, 1, none⟩ = some (.slice p m cap) := by simp
    clear c0 c1 HN HR
    go_wp2_with fail
    refine (H0'.out _ k4).mono ?_; rintro e w4 ⟨rfl, k5⟩
    replace k4 := k4.trans k5
    replace y0 := k5.cell y0
    replace y1 := k5.cell y1
    clear z0 z1
    cases q0
    ·go_wp2_with fail
     go_ret
     exact ⟨by rw [HP.out, HQ.out]; rfl, k4⟩
    ·go_wp2_with fail
     refine (H2'.out _ k4).mono ?_; rintro e w5 ⟨rfl, k6⟩
     replace k4 := k4.trans k6
     replace y0 := k6.cell y0
     replace y1 := k6.cell y1
     cases q2
     ·go_wp2_with fail
      go_ret
      exact ⟨by rw [HP.out, HQ.out]; rfl, k4⟩
     ·go_wp2_with fail
      refine (H8'.out _ k4).mono ?_; rintro e w6 ⟨rfl, k7⟩
      go_wp2_with fail
      go_ret
      exact ⟨by rw [HP.out, HQ.out]; cases q8 <;> rfl, k4.trans k7⟩
  ·have hd : ((a.length : Int) != n) = true := by simp [h2]
   rw [decide_eq_false h2] at HP
   simp only [Bool.and_false, Bool.false_and] at HP
   clear h2
   go_enter Tryz.func93, Tryz.ntmps93
   go_wp2_with fail
   refine (HN.out _).mono ?_; rintro e w2 ⟨rfl, rfl⟩
   go_wp2_with fail
   go_ret
   exact ⟨by rw [HP.out]; rfl, kA⟩
end Go.Proofs.YtfmmajgkjkmghaaGreat
namespace Go.Proofs.YtfmmajgkjkmghaaGreat
open Go.RowKit
end Go.Proofs.YtfmmajgkjkmghaaGreat
namespace Go.Proofs.YtfmmajgkjkmghaaGreat
open Go.RowKit
end Go.Proofs.YtfmmajgkjkmghaaGreat
namespace Go.Proofs.YtfmmajgkjkmghaaGreat
open Go.RowKit
end Go.Proofs.YtfmmajgkjkmghaaGreat
namespace Go.Proofs.YtfmmajgkjkmghaaGreat
open Go.RowKit
structure Touch (w w' : World) (S : Nat → Prop) : Prop where
 os : w'.os = w.os
 tape : w'.tape = w.tape
 output : w'.output = w.output
 size : w.heap.size ≤ w'.heap.size
 block : ∀ k, k < w.heap.size → ¬ S k → w'.heap[k]? = w.heap[k]?
theorem Touch.trans {a b c : World} {S : Nat → Prop} (h : Touch a b S) (k : Touch b c S) : Touch a c S :=
 ⟨k.os.trans h.os, k.tape.trans h.tape, k.output.trans h.output, Nat.le_trans h.size k.size, fun i hi hs => (k.block i (Nat.lt_of_lt_of_le hi h.size) hs).trans (h.block i hi hs)⟩
theorem Touch.mono {a b : World} {S S' : Nat → Prop} (h : Touch a b S) (hs : ∀ k, S k → S' k) : Touch a b S' :=
 ⟨h.os, h.tape, h.output, h.size, fun i hi hn => h.block i hi (fun e => hn (hs i e))⟩
theorem Touch.grown {a b : World} {row : Option Nat} (h : a.grownBy b row) : Touch a b (fun k => some k = row) :=
 ⟨h.os, h.tape, h.output, h.size, fun i hi hn => h.block i hi hn⟩
theorem Touch.of_keeps {a b : World} (h : Keeps a b) (S : Nat → Prop) : Touch a b S :=
 ⟨h.os, h.tape, h.output, h.size, fun _ hi _ => h.block hi⟩
theorem Touch.cell {w w' : World} {S : Nat → Prop} (h : Touch w w' S) {b : Nat} (hb : b < w.heap.size) (hs : ¬ S b) :
  (∀ o, w'.cell? ⟨b, o, none⟩ = w.cell? ⟨b, o, none⟩) ∧ (∀ o, w'.frozen? ⟨b, o, none⟩ = w.frozen? ⟨b, o, none⟩) :=
 ⟨fun o => World.cell?_of_block (a := ⟨b, o, none⟩) (h.block b hb hs), fun o => World.frozen?_of_block (a := ⟨b, o, none⟩) (h.block b hb hs)⟩
theorem Keeps.touch {a w w' : World} {S : Nat → Prop} (h : Keeps a w) (k : Touch w w' S) (hS : ∀ i, S i → a.heap.size ≤ i) : Keeps a w' :=
 ⟨k.os.trans h.os, k.tape.trans h.tape, k.output.trans h.output, Nat.le_trans h.size k.size, fun i hi => (k.block i (Nat.lt_of_lt_of_le hi h.size) (fun e => by have := hS i e; omega)).trans (h.block hi)⟩
theorem own_touch {w w' : World} {S : Nat → Prop} {base : Nat} {e : TypeId} {size : Nat} {v : Value} {n : Nat} {xs : List Value} (h : w.ownsRow base e size v n xs) (k : Touch w w' S) (hS : ∀ i, v.ownBlock = some i → ¬ S i) : w'.ownsRow base e size v n xs := by
 refine ⟨h.1, ?_⟩
 rcases h.2 with hn | ⟨g, cap, cur, rfl, hb, hgg, rest⟩
 ·exact .inl hn
 ·exact .inr ⟨g, cap, cur, rfl, hb, (k.block g (Array.getElem?_eq_some_iff.1 hgg).1 (hS g rfl)).trans hgg, rest⟩
end Go.Proofs.YtfmmajgkjkmghaaGreat
