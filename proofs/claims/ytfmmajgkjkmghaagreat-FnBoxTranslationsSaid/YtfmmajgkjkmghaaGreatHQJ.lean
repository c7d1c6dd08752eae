import Derived.Test.YtfmmajgkjkmghaaGreatHPC
import Derived.Test.YtfmmajgkjkmghaaGreatHTU
import Derived.Test.YtfmmajgkjkmghaaGreatHPD
/- The clusters of a preorder: both sides. -/
namespace Go.Proofs.YtfmmajgkjkmghaaGreat
open Go.RowKit
set_option maxRecDepth 20000 in
set_option maxHeartbeats 1000000 in
theorem reflexive_id (b : List Nat) (v : Value) (w : World) (hv : Ints w v (zs b)) (hb : b.length ≤ 8) (hbm : Bnd b.length b) (hr : reflB b = true) :
  Calls Tryz.prog 179 #[v] w (RetI w (zs b)) := by
 have HC := hid (cloneI_any (zs b) v w hv)
 have HR := hid (fun x (h : x < b.length) => refl_of hr h)
 have h256 := two8 hb
 obtain ⟨p, cap, rfl, _⟩ := hv
 clear hr
 go_enter Tryz.func179, Tryz.ntmps179
 go_wp2_with fail
 refine HC.out.mono ?_; rintro e w1 ⟨v1, rfl, hown, k1⟩
 rcases Nat.eq_zero_or_pos b.length with hz | hpos
 ·obtain rfl : b = [] := List.length_eq_zero_iff.1 hz
  obtain ⟨p1, c1, rfl, _, hmx, _, _⟩ := hown.ints (by simp [zs])
  unfold maxLen at hmx
  simp only [zs, List.map_nil, List.length_nil] at *
  go_wp2
  go_loop [9] (fun j' => j' = .int .i64 0) (fun _ => 0)
  case atStart => rfl
  case round =>
   subst hrel
   go_wp2
   go_ret
   exact ⟨_, rfl, hown, k1⟩
 ·obtain ⟨g, c1, rfl, hg, _, _, hmx⟩ := hown.shape (by rw [zs_length]; omega)
  unfold maxLen at hmx
  rw [zs_length] at *
  have HN : Hid (∀ i, b.getD i 0 < 2 ^ b.length) := hid hbm
  clear hbm
  generalize hn : b.length = n at *
  have Hn := hid hn
  clear hn
  go_wp2
  go_loopw [9] (fun j' wr => ∃ j : Nat, j ≤ n ∧ j' = .int .i64 j ∧ OwnI wr w.heap.size (.slice (some ⟨g, 0, none⟩) n c1) (zs b) ∧ Keeps w wr) (fun j' _ => n - (intOf j').toNat)
  case atStart => exact ⟨0, by omega, rfl, hown, k1⟩
  case round =>
   obtain ⟨j, hj, rfl, hownj, kw⟩ := hrel
   clear hown k1
   by_cases hlt : j < n
   ·have hlt' : (j : Int) < n := by omega
    obtain ⟨ci, fi⟩ := hownj.cell j (by rw [zs_length, Hn.out]; omega)
    rw [zs_get, ← getD_get] at ci
    have bj := HN.out j
    have hst := OwnI.store (hownj.keeps (Keeps.refl wr).drew) j (by rw [zs_length, Hn.out]; omega) ((b.getD j 0 : Nat) : Int)
    rw [← zs_set, set_getD_self (by rw [Hn.out]; omega) rfl] at hst
    have hor := orN (b.getD j 0) (2 ^ j) (by omega) (by have : 2 ^ j < 2 ^ 8 := Nat.pow_lt_pow_right (by omega) (by omega); omega)
    rw [or_pow_self (HR.out j hlt)] at hor
    have e1 := (pow63 j (by omega)).1
    have e2 : ((2 ^ j : Nat) : Int) = 2 ^ j := by push_cast; rfl
    rw [e2] at hor
    have HST := hid hst; clear hst
    have KW := hid kw; clear kw
    clear hownj e2
    generalize b.getD j 0 = x at *
    go_wp2_with fail
    go_region
    go_wp2
    go_roundw
    case rel => exact ⟨j + 1, by omega, by go_num, by first | exact HST.out.1 | (rw [hor]; exact HST.out.1), by first | exact (Keeps.drew KW.out).grown HST.out.2 (fun k hk => by cases hk; exact hg) | (rw [hor]; exact (Keeps.drew KW.out).grown HST.out.2 (fun k hk => by cases hk; exact hg))⟩
    case measure => simp [intOf]; omega
   ·obtain rfl : j = n := by omega
    have hlt' : ¬ (j : Int) < j := by omega
    go_wp2_with fail
    go_ret
    exact ⟨_, rfl, hownj, kw⟩
set_option maxRecDepth 20000 in
theorem reachable_id (b : List Nat) (n : Int) (v : Value) (w : World) (hv : Ints w v (zs b)) (hb : b.length ≤ 8) (hbm : Bnd b.length b) (hr : reflB b = true) (ht : transB b = true) :
  Calls Tryz.prog 133 #[.agg #[.int .i64 n, v]] w (RetI w (zs b)) := by
 have kA := (Keeps.refl w).alloc (.cells #[.int .i64 n, v] 35)
 have HT := hid (transitive_any b v _ (hv.keeps kA) hb hbm)
 rw [closed_of hbm ht] at HT
 have HR := hid (fun v2 w2 (h : Ints w2 v2 (zs b)) => reflexive_id b v2 w2 h hb hbm hr)
 have hl : (zs b).length ≤ 2147483648 := by rw [zs_length]; omega
 obtain ⟨p, cap, rfl, _⟩ := hv
 clear hbm hr ht
 go_enter Tryz.func133, Tryz.ntmps133
 go_wp2_with fail
 refine HT.out.mono ?_; rintro e w2 ⟨v2, rfl, hv2, k2⟩
 go_wp2_with fail
 refine (HR.out _ _ (hv2.ints hl)).mono ?_; rintro e w3 ⟨v3, rfl, hv3, k3⟩
 have kz := (kA.trans k2).size
 go_wp2_with fail
 go_ret
 exact ⟨_, rfl, hv3.mono kz, kA.trans (k2.trans k3)⟩
def clRow (b : List Nat) (k : Nat) : List Int := zs (clS b k).1 ++ List.replicate (b.length - k) 0
theorem clRow_len {b : List Nat} {k : Nat} (h : k ≤ b.length) : (clRow b k).length = b.length := by
 unfold clRow
 rw [List.length_append, zs_length, clS_len, List.length_replicate]; omega
theorem clRow_set {b : List Nat} {k : Nat} (h : k < b.length) (x : Int) : (clRow b k).set k x = zs (clS b k).1 ++ x :: List.replicate (b.length - (k + 1)) 0 := by
 unfold clRow
 have hl : (zs (clS b k).1).length = k := by rw [zs_length, clS_len]
 rw [List.set_append_right _ _ (by omega), hl, Nat.sub_self]
 obtain ⟨d, hd⟩ : ∃ d, b.length - k = d + 1 := ⟨b.length - k - 1, by omega⟩
 rw [hd, List.replicate_succ, List.set_cons_zero, show b.length - (k + 1) = d by omega]
theorem clRow_next {b : List Nat} {k : Nat} (h : k < b.length) {x : Nat} (hx : (clS b (k + 1)).1 = (clS b k).1 ++ [x]) : (clRow b k).set k (x : Int) = clRow b (k + 1) := by
 rw [clRow_set h]
 unfold clRow
 rw [hx, zs_snoc, List.append_assoc]; rfl
theorem clRow_at {b : List Nat} {k j : Nat} (h : k < b.length) (hj : j < k) (x : Int) (h1 : j < ((clRow b k).set k x).length) : ((clRow b k).set k x)[j] = (((clS b k).1.getD j 0 : Nat) : Int) := by
 have e := clRow_set h x
 have hl : j < (clS b k).1.length := by rw [clS_len]; exact hj
 have : ∀ (r : List Int) (e : r = zs (clS b k).1 ++ x :: List.replicate (b.length - (k + 1)) 0) (h1 : j < r.length), r[j] = (((clS b k).1.getD j 0 : Nat) : Int) := by
  intro r e h1
  subst e
  rw [List.getElem_append_left (by rw [zs_length]; exact hl), zs_get, getD_get hl]
 exact this _ e h1
set_option maxRecDepth 20000 in
set_option maxHeartbeats 4000000 in
theorem clusters_any (b : List Nat) (v : Value) (w : World) (hv : Ints w v (zs b)) (hb : b.length ≤ 8) (hbm : Bnd b.length b) (hr : reflB b = true) (ht : transB b = true) :
  Calls Tryz.prog 56 #[.agg #[.int .i64 b.length, v]] w (RetI w (zs (clB b))) := by
 have kA := (Keeps.refl w).alloc (.cells #[.int .i64 b.length, v] 35)
 have HR := hid (reachable_id b b.length v _ (hv.keeps kA) hb hbm hr ht)
 have h256 := two8 hb
 have HN : Hid (∀ i, b.getD i 0 < 2 ^ b.length) := hid hbm
 obtain ⟨c0, c1⟩ := BoxF.made w b.length v 35
 obtain ⟨p, cap, rfl, _⟩ := hv
 rw [zs_length] at *
 clear hbm hr ht
 go_enter Tryz.func56, Tryz.ntmps56
 go_wp2_with fail
 refine HR.out.mono ?_; rintro e w1 ⟨v1, rfl, hv1, k1⟩
 have z0 := k1.cell c0
 obtain ⟨wm, hmk, hown0, km⟩ := run_makeI w1 b.length (by omega)
 have z1 := km.cell z0
 have h0 : List.replicate b.length (0 : Int) = clRow b 0 := by simp [clRow, clS, zs]
 rw [h0] at hown0
 clear h0
 have HO := hid hown0; clear hown0
 have KM := hid km; clear km
 have HV1 := hid hv1
 obtain ⟨p1, c1', rfl, hle1, hmx1, _, _⟩ := hv1.ints (by rw [zs_length]; omega)
 unfold maxLen at hmx1
 rw [zs_length] at *
 clear hv1
 have hk1 := kA.trans k1
 have HC : Hid (clB b = (clS b b.length).1) := hid rfl
 generalize hn : b.length = n at *
 have Hn := hid hn; clear hn
 go_wp2
 clear hmk
 go_loopw [5, 15] (fun c' x' wr => ∃ k : Nat, k ≤ n ∧ x' = .int .i64 k ∧ c' = .int .i64 ((clS b k).2 : Nat) ∧ OwnI wr w1.heap.size (.slice (some ⟨w1.heap.size, 0, none⟩) n n) (clRow b k) ∧ Keeps w1 wr) (fun _ x' _ => n - (intOf x').toNat)
 case atStart => exact ⟨0, by omega, rfl, rfl, HO.out, KM.out⟩
 case round =>
  obtain ⟨k, hk, rfl, rfl, hown, kw⟩ := hrel
  clear HO KM
  by_cases hlt : k < n
  ·have hlt' : (k : Int) < n := by omega
   have hlen := clRow_len (b := b) (k := k) (by rw [Hn.out]; omega)
   rw [Hn.out] at hlen
   have hst := OwnI.store hown k (by rw [hlen]; exact hlt) (-1)
   obtain ⟨x0, ck, fk⟩ : ∃ x0 : Int, wr.cell? ⟨w1.heap.size, k, none⟩ = some (.int .i64 x0) ∧ wr.frozen? ⟨w1.heap.size, k, none⟩ = false := by
    obtain ⟨c1, c2⟩ := hown.cell k (by rw [hlen]; exact hlt)
    exact ⟨_, c1, c2⟩
   have HST := hid hst.1
   have KW := hid (kw.grown hst.2 (fun i e => by cases e; omega))
   have HLEN := hid hlen
   clear hst hown
   have hcl := clS_le b k
   generalize hq : (clS b k).2 = q at *
   have Hq := hid hq; clear hq
   go_wp2_with fail
   go_loopw [22] (fun y' wr' => ∃ j : Nat, j ≤ k ∧ y' = .int .i64 j ∧ fstE b k j = none ∧ OwnI wr' w1.heap.size (.slice (some ⟨w1.heap.size, 0, none⟩) n n) ((clRow b k).set k (-1)) ∧ Keeps w1 wr') (fun y' _ => k - (intOf y').toNat)
   case atStart => exact ⟨0, by omega, rfl, rfl, HST.out, KW.out⟩
   case round =>
    obtain ⟨j, hj, rfl, hf, hown, kw'⟩ := hrel
    clear HST KW ck fk kw
    have HF := hid hf; clear hf
    have hlR : ((clRow b k).set k (-1)).length = n := by rw [List.length_set]; exact HLEN.out
    have hset : ∀ x : Int, ((clRow b k).set k (-1)).set k x = (clRow b k).set k x := fun x => by simp
    have hkb : k < b.length := by rw [Hn.out]; exact hlt
    have HSET := hid hset; clear hset
    have hRk : ((clRow b k).set k (-1))[k]'(by rw [hlR]; exact hlt) = -1 := by simp
    obtain ⟨ck, fk⟩ := hown.cell k (by rw [hlR]; exact hlt)
    rw [hRk] at ck
    clear hRk
    by_cases hjt : j < k
    ·have hjt' : (j : Int) < k := by omega
     obtain ⟨b1, o1, rfl, r1⟩ := ((HV1.out.keeps kw').ints (by rw [zs_length, Hn.out]; omega)).zs_cell k hkb
     obtain ⟨_, _, e1, r2⟩ := ((HV1.out.keeps kw').ints (by rw [zs_length, Hn.out]; omega)).zs_cell j (by omega)
     cases e1
     have m1 := HN.out k
     have m2 := HN.out j
     have HH1 := hid (hasB_any (b.getD k 0) j wr (by omega) (by omega))
     have HH2 := hid (hasB_any (b.getD j 0) k wr (by omega) (by omega))
     have hev : eqvB b k j = ((b.getD k 0).testBit j && (b.getD j 0).testBit k) := rfl
     have hfs : fstE b k (j + 1) = if eqvB b k j then some j else none := by
      show (match fstE b k j with | some y => some y | none => if eqvB b k j then some j else none) = _
      rw [HF.out]
     have HFS := hid hfs; clear hfs
     have HEV := hid hev; clear hev
     cases e1 : (b.getD k 0).testBit j
     ·rw [e1] at HH1 HEV
      have hn1 : fstE b k (j + 1) = none := by rw [HFS.out, HEV.out]; rfl
      have HN1 := hid hn1
      clear e1 HFS HEV hn1 HH2 m1 m2
      generalize b.getD k 0 = bk at *
      generalize b.getD j 0 = bj at *
      have HO := hid hown; clear hown
      go_wp2_with fail
      refine HH1.out.mono ?_; rintro e w' ⟨rfl, rfl⟩
      go_wp2_with fail
      go_roundw
      case rel => exact ⟨j + 1, by omega, by go_num, HN1.out, HO.out, kw'⟩
      case measure => simp [intOf]; omega
     ·rw [e1] at HH1 HEV
      cases e2 : (b.getD j 0).testBit k
      ·rw [e2] at HH2 HEV
       have hn1 : fstE b k (j + 1) = none := by rw [HFS.out, HEV.out]; rfl
       have HN1 := hid hn1
       clear e1 e2 HFS HEV hn1 m1 m2
       generalize b.getD k 0 = bk at *
       generalize b.getD j 0 = bj at *
       have HO := hid hown; clear hown
       go_wp2_with fail
       refine HH1.out.mono ?_; rintro e w' ⟨rfl, rfl⟩
       go_wp2_with fail
       refine HH2.out.mono ?_; rintro e w' ⟨rfl, rfl⟩
       go_wp2_with fail
       go_roundw
       case rel => exact ⟨j + 1, by omega, by go_num, HN1.out, HO.out, kw'⟩
       case measure => simp [intOf]; omega
      ·rw [e2] at HH2 HEV
       have hn1 : fstE b k (j + 1) = some j := by rw [HFS.out, HEV.out]; rfl
       have hn2 := fstE_stay (k - (j + 1)) hn1
       rw [show j + 1 + (k - (j + 1)) = k by omega] at hn2
       have hcs := clS_some hn2
       have hlj := clS_lt b k j hjt
       have hRj := clRow_at hkb hjt (-1) (by rw [hlR]; omega)
       obtain ⟨cj, fj⟩ := hown.cell j (by rw [hlR]; omega)
       rw [hRj] at cj
       have hst := OwnI.store hown k (by rw [hlR]; exact hlt) (((clS b k).1.getD j 0 : Nat) : Int)
       rw [HSET.out, clRow_next hkb (x := (clS b k).1.getD j 0) (by rw [hcs])] at hst
       have HST := hid hst.1
       have KW := hid (kw'.grown hst.2 (fun i e => by cases e; omega))
       have hc2 : (clS b (k + 1)).2 = q := by rw [hcs]; exact Hq.out
       have HC2 := hid hc2
       have hc5 : ∀ u, (wr.setCell ⟨w1.heap.size, k, none⟩ u).cell? ⟨w1.heap.size, k, none⟩ = some u := fun u => World.cell?_setCell_same (h := ck) ..
       clear e1 e2 HFS HEV hn1 hn2 hcs hlj hRj hst hc2 hown m1 m2 hjt'
       generalize b.getD k 0 = bk at *
       generalize b.getD j 0 = bj at *
       generalize (clS b k).1.getD j 0 = y at *
       have hy0 : ¬ ((y : Int) < 0) := by omega
       go_wp2_with fail
       refine HH1.out.mono ?_; rintro e w' ⟨rfl, rfl⟩
       go_wp2_with fail
       refine HH2.out.mono ?_; rintro e w' ⟨rfl, rfl⟩
       go_wp2_with fail
       go_roundw
       case rel => exact ⟨k + 1, by omega, by go_num, by rw [HC2.out], HST.out, KW.out⟩
       case measure => simp [intOf]; omega
    ·obtain rfl : j = k := by omega
     have hjt' : ¬ (j : Int) < j := by omega
     have hcs := clS_none HF.out
     have hst := OwnI.store hown j (by rw [hlR]; exact hlt) ((q : Nat) : Int)
     rw [HSET.out, clRow_next hkb (x := q) (by rw [hcs, Hq.out])] at hst
     have HST := hid hst.1
     have KW := hid (kw'.grown hst.2 (fun i e => by cases e; omega))
     have hc2 : (clS b (j + 1)).2 = q + 1 := by rw [hcs, Hq.out]
     have HC2 := hid hc2
     have hc5 : ∀ u, (wr.setCell ⟨w1.heap.size, j, none⟩ u).cell? ⟨w1.heap.size, j, none⟩ = some u := fun u => World.cell?_setCell_same (h := ck) ..
     clear hcs hst hc2 hown
     go_wp2_with fail
     go_roundw
     case rel => exact ⟨j + 1, by omega, by go_num, by rw [HC2.out]; push_cast; rfl, HST.out, KW.out⟩
     case measure => simp [intOf]; omega
  ·obtain rfl : k = n := by omega
   have hlt' : ¬ (k : Int) < k := by omega
   go_wp2_with fail
   go_ret
   have he : clRow b k = zs (clB b) := by rw [HC.out]; unfold clRow; rw [Hn.out]; simp
   rw [he] at hown
   exact ⟨_, rfl, hown.mono (by have := hk1.size; omega), hk1.trans kw⟩
end Go.Proofs.YtfmmajgkjkmghaaGreat
