import Derived.Test.YtfmmajgkjkmghaaGreatDoorHQ2
import Derived.Test.YtfmmajgkjkmghaaGreatDoorHBase
import Derived.Test.YtfmmajgkjkmghaaGreatDoorHQE0
/- Walks: the posets on both sides, and their laws. -/
namespace Go.Proofs.YtfmmajgkjkmghaaGreatDoor
open Go.RowKit
end Go.Proofs.YtfmmajgkjkmghaaGreatDoor
namespace Go.Proofs.YtfmmajgkjkmghaaGreatDoor
open Go.RowKit
structure Touch (w w' : World) (S : Nat → Prop) : Prop where
 os : w'.os = w.os
 tape : w'.tape = w.tape
 output : w'.output = w.output
 size : w.heap.size ≤ w'.heap.size
 block : ∀ k, k < w.heap.size → ¬ S k → w'.heap[k]? = w.heap[k]?
theorem Touch.trans {a b c : World} {S : Nat → Prop} (h : Touch a b S) (k : Touch b c S) : Touch a c S :=
 ⟨k.os.trans h.os, k.tape.trans h.tape, k.output.trans h.output, Nat.le_trans h.size k.size, fun i hi hs => (k.block i (Nat.lt_of_lt_of_le hi h.size) hs).trans (h.block i hi hs)⟩
theorem Touch.mono {a b : World} {S S' : Nat → Prop} (h : Touch a b S) (hs : ∀ k, S k → S' k) : Touch a b S' :=
 ⟨h.os, h.tape, h.output, h.size, fun i hi hn => h.block i hi (fun e => hn (hs i e))⟩
theorem Touch.grown {a b : World} {row : Option Nat} (h : a.grownBy b row) : Touch a b (fun k => some k = row) :=
 ⟨h.os, h.tape, h.output, h.size, fun i hi hn => h.block i hi hn⟩
theorem Touch.of_keeps {a b : World} (h : Keeps a b) (S : Nat → Prop) : Touch a b S :=
 ⟨h.os, h.tape, h.output, h.size, fun _ hi _ => h.block hi⟩
theorem Touch.cell {w w' : World} {S : Nat → Prop} (h : Touch w w' S) {b : Nat} (hb : b < w.heap.size) (hs : ¬ S b) :
  (∀ o, w'.cell? ⟨b, o, none⟩ = w.cell? ⟨b, o, none⟩) ∧ (∀ o, w'.frozen? ⟨b, o, none⟩ = w.frozen? ⟨b, o, none⟩) :=
 ⟨fun o => World.cell?_of_block (a := ⟨b, o, none⟩) (h.block b hb hs), fun o => World.frozen?_of_block (a := ⟨b, o, none⟩) (h.block b hb hs)⟩
theorem Keeps.touch {a w w' : World} {S : Nat → Prop} (h : Keeps a w) (k : Touch w w' S) (hS : ∀ i, S i → a.heap.size ≤ i) : Keeps a w' :=
 ⟨k.os.trans h.os, k.tape.trans h.tape, k.output.trans h.output, Nat.le_trans h.size k.size, fun i hi => (k.block i (Nat.lt_of_lt_of_le hi h.size) (fun e => by have := hS i e; omega)).trans (h.block hi)⟩
theorem own_touch {w w' : World} {S : Nat → Prop} {base : Nat} {e : TypeId} {size : Nat} {v : Value} {n : Nat} {xs : List Value} (h : w.ownsRow base e size v n xs) (k : Touch w w' S) (hS : ∀ i, v.ownBlock = some i → ¬ S i) : w'.ownsRow base e size v n xs := by
 refine ⟨h.1, ?_⟩
 rcases h.2 with hn | ⟨g, cap, cur, rfl, hb, hgg, rest⟩
 ·exact .inl hn
 ·exact .inr ⟨g, cap, cur, rfl, hb, (k.block g (Array.getElem?_eq_some_iff.1 hgg).1 (hS g rfl)).trans hgg, rest⟩
end Go.Proofs.YtfmmajgkjkmghaaGreatDoor
namespace Go.Proofs.YtfmmajgkjkmghaaGreatDoor
open Go.RowKit
theorem OwnI.shape0 {w : World} {B : Nat} {v : Value} {a : List Int} (h : OwnI w B v a) : ∃ p n c, v = .slice p n c := by obtain ⟨p, c, e, _⟩ := At.of_own h; exact ⟨p, _, c, e⟩
theorem OwnI.touch {w w' : World} {S : Nat → Prop} {B : Nat} {v : Value} {a : List Int} (h : OwnI w B v a) (k : Touch w w' S) (hS : ∀ i, v.ownBlock = some i → ¬ S i) : OwnI w' B v a := own_touch h k hS
end Go.Proofs.YtfmmajgkjkmghaaGreatDoor
namespace Go.Proofs.YtfmmajgkjkmghaaGreatDoor
open Go.RowKit
def cntL (m : Nat) : Nat → Nat
 | 0 => 0
 | i + 1 => cntL m i + m / 2 ^ i % 2
theorem cntL_table : ∀ m : Fin 256, cntL m 8 = cntB m := by decide +kernel
theorem cntL_le (m : Nat) : ∀ i, cntL m i ≤ i
 | 0 => Nat.le_refl _
 | i + 1 => by have := cntL_le m i; unfold cntL; omega
theorem cntL_end {m i : Nat} (h : m / 2 ^ i = 0) : ∀ d, cntL m (i + d) = cntL m i
 | 0 => rfl
 | d + 1 => by
  have h2 : m / 2 ^ (i + d) = 0 := by rw [Nat.pow_add, ← Nat.div_div_eq_div_mul, h]; simp
  show cntL m (i + d) + m / 2 ^ (i + d) % 2 = cntL m i
  rw [cntL_end h d, h2]
  omega
theorem half_wrap : ∀ q : Fin 257, wrap64 (((q : Nat) : Int) / 2) = (((q : Nat) / 2 : Nat) : Int) := by decide +kernel
theorem all_false_at' {α : Type} {l : List α} {P : α → Bool} {k : Nat} (hk : k < l.length) (h : P l[k] = false) : l.all P = false := by
 rw [Bool.eq_false_iff]
 intro h2
 have := List.all_eq_true.1 h2 l[k] (List.getElem_mem hk)
 rw [h] at this; cases this
set_option maxRecDepth 20000 in
set_option maxHeartbeats 1000000 in
theorem l01Bits_any (m : Nat) (w : World) (hm : m < 256) : Calls Tryz.prog 60 #[.int .i64 m] w fun e w' => e = .returned (.int .i64 (cntB m)) ∧ w = w' := by
 have hE : cntL m 8 = cntB m := cntL_table ⟨m, hm⟩
 have HE := hid hE; clear hE
 go_enter Tryz.func60, Tryz.ntmps60
 go_wp2
 go_loop [0, 3] (fun x o => ∃ i : Nat, i ≤ 8 ∧ x = .int .i64 ((m / 2 ^ i : Nat) : Int) ∧ o = .int .i64 (cntL m i)) (fun x _ => (intOf x).toNat)
 case atStart => exact ⟨0, by omega, by simp, rfl⟩
 case round =>
  obtain ⟨i, hi, rfl, rfl⟩ := hrel
  have hs : cntL m (i + 1) = cntL m i + m / 2 ^ i % 2 := rfl
  have hle := cntL_le m i
  have hq2 : m / 2 ^ (i + 1) = m / 2 ^ i / 2 := by rw [Nat.pow_succ, Nat.div_div_eq_div_mul]
  have hqm : m / 2 ^ i ≤ m := Nat.div_le_self _ _
  have h8 : 0 < m / 2 ^ i → i < 8 := fun h => by
   rcases Nat.lt_or_ge i 8 with h' | h'
   ·exact h'
   ·obtain rfl : i = 8 := by omega
    omega
  have hend : m / 2 ^ i = 0 → cntL m i = cntB m := fun h => by
   rw [← HE.out, ← cntL_end h (8 - i), show i + (8 - i) = 8 by omega]
  generalize m / 2 ^ i = q at *
  have HQ2 := hid hq2; clear hq2
  have HS := hid hs; clear hs
  have HEND := hid hend; clear hend
  generalize hc : cntL m i = cc at *
  have HC := hid hc; clear hc
  by_cases hp : 0 < q
  ·have hi8 := h8 hp
   have hwq := half_wrap ⟨q, by omega⟩
   simp only at hwq
   clear h8
   go_wp2
   go_round
   case rel => exact ⟨i + 1, by omega, by rw [HQ2.out, Int.natCast_ediv]; rfl, by rw [HS.out]; first | (push_cast; rfl) | go_num⟩
   case measure => first | (simp [intOf]; omega) | (simp [intOf, hwq]; omega)
  ·obtain rfl : q = 0 := by omega
   have he := HEND.out rfl
   clear h8
   rw [he]
   go_wp2
   go_ret
   exact ⟨rfl, rfl⟩
set_option maxRecDepth 20000 in
set_option maxHeartbeats 1000000 in
theorem onesCount_any (m : Nat) (w : World) (hm : m < 256) : Calls Tryz.prog 116 #[.int .u64 m] w fun e w' => e = .returned (.int .i64 (cntB m)) ∧ w = w' := by
 go_enter Tryz.func116, Tryz.ntmps116
 go_wp2
 go_ret
 refine ⟨ret_int ?_, rfl⟩
 clear w
 revert m
 decide +kernel
set_option maxRecDepth 20000 in
theorem countMembers_any (m : Nat) (w : World) (hm : m < 256) : Calls Tryz.prog 54 #[.int .i64 m] w fun e w' => e = .returned (.int .i64 (cntB m)) ∧ w = w' := by
 have HO := hid (onesCount_any m w hm)
 have hw : IntKind.u64.wrap (m : Int) = m := by
  have : ∀ k : Fin 256, IntKind.u64.wrap ((k : Nat) : Int) = ((k : Nat) : Int) := by decide +kernel
  exact this ⟨m, hm⟩
 go_enter Tryz.func54, Tryz.ntmps54
 go_wp2_with fail
 refine HO.out.mono ?_; rintro e w' ⟨rfl, rfl⟩
 go_wp2_with fail
 go_ret
 exact ⟨rfl, rfl⟩
set_option maxRecDepth 20000 in
set_option maxHeartbeats 1000000 in
theorem subMasksB_any (m : Nat) (hm : m < 256) (w : World) : Calls Tryz.prog 114 #[.int .i64 m] w (RetI w (zs (subB m (m + 1)))) := by
 have HN := hid (fun s (hs : s < 256) (h : inB s m = true) => nxt_of hm hs h)
 have HG := hid (fun s (hs : s < 256) (h : inB s m = true) (hne : s ≠ m) => gap_of hm hs h hne)
 have HX := hid (fun s (hs : s < 256) (h : inB s m = true) (hne : s ≠ m) => subB_next hm hs h hne)
 have HZ := hid (inB_zero m)
 have k0 := (Keeps.refl w).alloc (.cells #[.int .i64 0] 2)
 have hO : OwnI (w.alloc (.cells #[.int .i64 0] 2)) w.heap.size (.slice (some ⟨w.heap.size, 0, none⟩) 1 1) [0] := World.ownsRow_lit w #[.int .i64 0] 1 (Nat.le_refl _) (by simp [maxLen]) (by simp)
 have h1 : zs (subB m 1) = [0] := by simp [subB, zs, inB_zero]
 rw [← h1] at hO
 have HO := hid hO
 clear h1 hO
 go_enter Tryz.func114, Tryz.ntmps114
 go_wp2
 go_loopw [3, 4] (fun r i' wr => ∃ s : Nat, s < 256 ∧ inB s m = true ∧ i' = .int .i64 s ∧ OwnI wr w.heap.size r (zs (subB m (s + 1))) ∧ Keeps w wr) (fun _ i' _ => 256 - (intOf i').toNat)
 case atStart => exact ⟨0, by omega, HZ.out, rfl, HO.out, k0⟩
 case round =>
  obtain ⟨s, hs, hin, rfl, hown, kw⟩ := hrel
  have HI := hid hin; clear hin
  clear HO k0
  have hlen : (zs (subB m (s + 1))).length ≤ 256 := by rw [zs_length]; have := subB_len m (s + 1); omega
  by_cases hne : s = m
  ·subst hne
   have hd : ((s : Int) != (s : Int)) = false := by simp
   go_wp2
   go_ret
   exact ⟨_, rfl, hown, kw⟩
  ·have hd : ((s : Int) != (m : Int)) = true := by simp; omega
   have hnx := HN.out s hs HI.out
   obtain ⟨g1, g2, g3, _⟩ := HG.out s hs HI.out hne
   have hx := HX.out s hs HI.out hne
   have HXs := hid hx; clear hx
   have HI2 := hid g3; clear g3
   generalize nxtB m s = t at *
   have hsz := kw.size
   clear HN HG HX
   generalize hL : zs (subB m (s + 1)) = L at *
   have HL := hid hL; clear hL
   go_wp2_with (at_builtin; refine appI rfl _ _ rfl w.heap.size _ L rfl (hown.keeps ((Keeps.refl wr).alloc _)) _ [(t : Int)] rfl (Ints.lit1 wr _) (by simp; omega) (by simp; omega) ?_; intro v3 w3 hv3 hg3 hr3; have k3 := (kw.alloc (.cells #[.int .i64 t] 2)).grown hg3 (fun q hq => hr3 q hq))
   go_roundw
   case rel => exact ⟨t, g2, HI2.out, rfl, by rw [HXs.out, zs_snoc, HL.out]; exact hv3, k3⟩
   case measure => simp [intOf]; omega
set_option maxRecDepth 20000 in
set_option maxHeartbeats 1000000 in
theorem isAntichain_any (b : List Nat) (n : Int) (s : Nat) (v : Value) (w : World) (hv : Ints w v (zs b)) (hb : b.length ≤ 8) (hbm : Bnd b.length b) (hs : s < 2 ^ b.length) :
  Calls Tryz.prog 115 #[.agg #[.int .i64 n, v], .int .i64 s] w fun e w' => e = .returned (.bool (antiC b s)) ∧ Keeps w w' := by
 have h256 := two8 hb
 have kA := (Keeps.refl w).alloc (.cells #[.int .i64 n, v] 26)
 obtain ⟨c0, c1⟩ := BoxF.made w n v 26
 have HM := hid (fun wz => membersB_any s wz (by omega))
 have hmem : ∀ x ∈ memB s, x < b.length := fun x hx => memB_lt hs hx
 have hml : (memB s).length ≤ 8 := lowB_len s 8
 have hdef : antiC b s = (memB s).all (fun x => b.getD x 0 &&& s == 2 ^ x) := rfl
 have HB : Hid (∀ i, b.getD i 0 < 256) := hid (fun i => Nat.lt_of_lt_of_le (hbm i) h256)
 have hv0 := hv
 obtain ⟨p, cap, rfl, hle, hmx, _, _⟩ := hv
 unfold maxLen at hmx
 rw [zs_length b] at *
 have HMEM := hid hmem
 have HDEF := hid hdef
 clear hbm hmem hdef
 generalize memB s = l at *
 obtain ⟨G, hG⟩ : ∃ G : Nat → Nat, ∀ x, G x = b.getD x 0 := ⟨fun x => b.getD x 0, fun _ => rfl⟩
 obtain ⟨Q, hQ⟩ : ∃ Q : Nat → Bool, ∀ x, Q x = (b.getD x 0 &&& s == 2 ^ x) := ⟨fun x => (b.getD x 0 &&& s == 2 ^ x), fun _ => rfl⟩
 have HALL : Hid (antiC b s = l.all Q) := hid (by rw [HDEF.out]; congr 1; funext x; rw [hQ])
 have HQ := hid hQ; clear hQ
 have HRD := hid (fun x (hx : x < b.length) wz (k : Keeps w wz) => (hv0.keeps k).zs_cell x hx)
 clear HDEF hG
 go_enter Tryz.func115, Tryz.ntmps115
 go_wp2_with fail
 refine (HM.out _).mono ?_; rintro e w2 ⟨v2, rfl, hv2, k2⟩
 have z1 := k2.cell c1
 have hv2i := hv2.ints (by rw [zs_length]; omega)
 obtain ⟨p2, c2, rfl, _, hm2, _, _⟩ := hv2.ints (by rw [zs_length]; omega)
 unfold maxLen at hm2
 rw [zs_length] at *
 have kk := kA.trans k2
 go_wp2
 go_loopw [4, 10] (fun r i' wr => ∃ i : Nat, i ≤ l.length ∧ i' = .int .i64 i ∧ r = .bool false ∧ (∀ j (h : j < l.length), j < i → Q l[j] = true) ∧ Keeps w2 wr) (fun _ i' _ => l.length - (intOf i').toNat)
 case atStart => exact ⟨0, by omega, rfl, rfl, fun j _ h => by omega, Keeps.refl _⟩
 case round =>
  obtain ⟨i, hi, rfl, rfl, hall, kw⟩ := hrel
  have HA := hid hall; clear hall
  by_cases hlt : i < l.length
  ·obtain ⟨b1, o1, rfl, h1⟩ := (hv2i.keeps kw).zs_cell i hlt
   rw [getD_get hlt] at h1
   have hx := HMEM.out l[i] (List.getElem_mem hlt)
   obtain ⟨b2, o2, rfl, h2⟩ := HRD.out l[i] hx wr (kk.trans kw)
   have y1 := kw.cell z1
   have hlt' : (i : Int) < l.length := by omega
   have hx' : ((l[i] : Nat) : Int) < b.length := by omega
   have hg := HB.out l[i]
   have hand := andN (b.getD l[i] 0) s (by omega) (by omega)
   have e1 := (pow63 l[i] (by omega)).1
   have e2 : ((2 ^ l[i] : Nat) : Int) = 2 ^ l[i] := by push_cast; rfl
   have hq := HQ.out l[i]
   have HL : Hid (∀ r, Q l[i] = r → Q l[i] = r) := hid fun _ h => h
   cases hc : Q l[i]
   ·have hne : (bits .and .i64 ((b.getD l[i] 0 : Nat) : Int) (s : Int) != 2 ^ l[i]) = true := by
     rw [hc] at hq
     rw [hand, ← e2]
     simp only [bne_iff_ne, ne_eq]
     intro e
     have : b.getD l[i] 0 &&& s = 2 ^ l[i] := Int.ofNat.inj e
     rw [this] at hq; simp at hq
    have HC := hid (show l.all Q = false from all_false_at' hlt hc)
    clear hc hq hand e2 HL
    generalize b.getD l[i] 0 = g at *
    generalize l[i] = x at *
    go_wp2_with fail
    go_quiet (fail)
    go_wp2_with fail
    go_ret
    exact ⟨ret_bool (by rw [HALL.out, HC.out]), (kk.trans kw).drewN _⟩
   ·have hne : (bits .and .i64 ((b.getD l[i] 0 : Nat) : Int) (s : Int) != 2 ^ l[i]) = false := by
     rw [hc] at hq
     rw [hand, ← e2]
     have : b.getD l[i] 0 &&& s = 2 ^ l[i] := by simpa using hq.symm
     rw [this]; simp
    have HN : Hid (∀ j (h : j < l.length), j < i + 1 → Q l[j] = true) := hid (fun j h hj => by
     by_cases e : j = i
     ·subst e; exact hc
     ·exact HA.out j h (by omega))
    clear hc hq hand e2 HL
    generalize b.getD l[i] 0 = g at *
    generalize l[i] = x at *
    go_wp2_with fail
    go_quiet (fail)
    go_wp2_with fail
    go_roundw
    case rel => exact ⟨i + 1, by omega, by go_num, rfl, HN.out, kw.drewN _⟩
    case measure => simp [intOf]; omega
  ·have hlt' : ¬ (i : Int) < l.length := by omega
   have HC : Hid (l.all Q = true) := hid (by
    rw [List.all_eq_true]
    intro x hx
    obtain ⟨j, hj, rfl⟩ := List.getElem_of_mem hx
    exact HA.out j hj (by omega))
   go_wp2_with fail
   go_ret
   exact ⟨ret_bool (by rw [HALL.out, HC.out]), kk.trans kw⟩
end Go.Proofs.YtfmmajgkjkmghaaGreatDoor
