import Derived.Test.YtfmmajgkjkmghaaGreatEOQ
import Derived.Test.YtfmmajgkjkmghaaGreatED4
import Derived.Test.YtfmmajgkjkmghaaGreatEOM
/- Draws of orders, first part: reflexive and transitive closures (reference). -/
namespace Go.Proofs.YtfmmajgkjkmghaaGreat
open Go.RowKit
def rfL (a : List Nat) (k : Nat) : List Nat := (List.range k).map fun i => a.getD i 0 ||| 2 ^ i
theorem rfL_succ (a : List Nat) (k : Nat) : rfL a (k + 1) = rfL a k ++ [a.getD k 0 ||| 2 ^ k] := by simp [rfL, List.range_succ]
theorem rfL_len (a : List Nat) (k : Nat) : (rfL a k).length = k := by simp [rfL]
theorem rfL_bnd {a : List Nat} {n : Nat} (h : Bnd n a) (hn : a.length ≤ n) : Bnd n (rfL a a.length) := mem_bnd fun x hx => by
 obtain ⟨i, hi, rfl⟩ := List.mem_map.1 hx
 have hi := List.mem_range.1 hi
 exact Nat.or_lt_two_pow (h i) (Nat.pow_lt_pow_right (by omega) (by omega))
set_option maxRecDepth 20000 in
set_option maxHeartbeats 1000000 in
theorem l01Reflexive_any (a : List Nat) (v : Value) (w : World) (hv : Ints w v (zs a)) (h8 : a.length ≤ 8) (hb : Bnd 8 a) :
  Calls Tryz.prog 52 #[v] w (RetI w (zs (rfL a a.length))) := by
 have hv0 := hv
 obtain ⟨p, cap, rfl, -, hmx, -, -⟩ := hv
 rw [zs_length a] at *
 unfold maxLen at hmx
 have HV := hid hv0; clear hv0
 have H0 : Hid (zs (rfL a 0) = []) := hid rfl
 have HB := hid hb; clear hb
 have HS := hid (fun k => rfL_succ a k)
 have HLN := hid (fun k => show (zs (rfL a k)).length = k by rw [zs_length, rfL_len])
 obtain ⟨R, hR⟩ : ∃ R : Nat → List Nat, ∀ k, R k = rfL a k := ⟨_, fun _ => rfl⟩
 obtain ⟨A, hA⟩ : ∃ A : Nat → Nat, ∀ k, A k = a.getD k 0 := ⟨_, fun _ => rfl⟩
 have HVC := hid (fun i (hi : i < a.length) wr (k : Keeps w wr) => (HV.out.keeps k).zs_cell i hi)
 have HAB := hid (fun i => HB.out i)
 simp only [← hR, ← hA] at *
 clear hR hA HV HB
 generalize a.length = n at *
 go_enter Tryz.func52, Tryz.ntmps52
 go_wp2_with fail
 go_loopw [3, 4] (fun s3 s4 wr => ∃ i : Nat, i ≤ n ∧ s4 = .int .i64 i ∧ OwnI wr w.heap.size s3 (zs (R i)) ∧ Keeps w wr) (fun _ s4 _ => n - (intOf s4).toNat)
 case atStart => exact ⟨0, by omega, rfl, by rw [H0.out]; exact OwnI.empty w, (Keeps.refl w).alloc _⟩
 case round =>
  obtain ⟨i, hi, rfl, hown, kw⟩ := hrel
  by_cases hlt : i < n
  ·have hlt' : (i : Int) < n := by omega
   obtain ⟨b1, o1, e1, h1⟩ := HVC.out i hlt wr kw
   cases e1
   have hsi := HS.out i
   have hab := HAB.out i
   have hzl := HLN.out i
   generalize A i = x at *
   have H1 := hid (fun wz => l01One_any (i : Int) wz (by omega) (by omega))
   simp only [Int.toNat_natCast] at H1
   have hor : bits .or .i64 (x : Int) ((2 : Int) ^ i) = ((x ||| 2 ^ i : Nat) : Int) := by
    have hp : (2 : Nat) ^ i < 2 ^ 8 := Nat.pow_lt_pow_right (by omega) (by omega)
    have := orN x (2 ^ i) (by omega) (by omega)
    rwa [show ((2 ^ i : Nat) : Int) = (2 : Int) ^ i by push_cast; rfl] at this
   generalize (2 : Int) ^ i = P at *
   generalize (x ||| 2 ^ i) = y at *
   have hsz := kw.size
   have HSI := hid hsi; clear hsi
   go_wp2_with fail
   go_region_law (first | (go_simp; go_at_call 110; refine (H1.out _).mono ?_; rintro e w' ⟨rfl, rfl⟩) | (refine stepI rfl (.tmp 12) (.tmp 20) rfl w.heap.size _ (zs (R i)) rfl (by exact hown.keeps (by first | exact ((Keeps.refl wr).drew).alloc _ | exact ((Keeps.refl wr).alloc _).drew)) _ [_] rfl (by first | exact Ints.lit1 _ _ | exact (Ints.lit1 _ _).keeps ((Keeps.refl _).drew)) (by simp; omega) (by rw [hzl]; simp; omega) ?_; intro v1 w1 hv1 hg1 hr1))
   all_goals
    have k2 : Keeps w w1 := by
     refine Keeps.grown ?_ hg1 (by simpa using hr1)
     first | exact (kw.drew.alloc _) | exact (kw.alloc _).drew
    go_wp2
    go_roundw
    case rel => exact ⟨i + 1, by omega, by go_num, by rw [HSI.out, zs_snoc]; exact hv1, k2⟩
    case measure => simp [intOf]; omega
  ·have e : n = i := by omega
   subst e
   have hlt' : ¬ (n : Int) < n := by omega
   go_wp2_with fail
   go_ret
   exact ⟨_, rfl, hown, kw⟩
set_option maxRecDepth 20000 in
set_option maxHeartbeats 1000000 in
theorem l01Closure_any (b : List Nat) (v : Value) (w : World) (hv : Ints w v (zs b)) (hb : b.length ≤ 8) (hbm : Bnd b.length b) :
  Calls Tryz.prog 53 #[v] w (RetI w (zs (wAll b b.length b.length))) := by
 rcases Nat.eq_zero_or_pos b.length with hz | hpos
 ·obtain rfl : b = [] := List.length_eq_zero_iff.1 hz
  have HC := hid (l01Own_any (zs []) v w hv)
  obtain ⟨p, cap, rfl, _⟩ := hv
  simp only [zs, List.map_nil, List.length_nil] at *
  go_enter Tryz.func53, Tryz.ntmps53
  go_wp2_with fail
  refine HC.out.mono ?_; rintro e w1 ⟨v1, rfl, hown, k1⟩
  obtain ⟨p1, c1, rfl, _, hmx, _, _⟩ := hown.ints (by simp)
  unfold maxLen at hmx
  simp only [List.length_nil] at *
  go_wp2
  go_loop [4] (fun j' => j' = .int .i64 0) (fun _ => 0)
  case atStart => rfl
  case round =>
   subst hrel
   go_wp2
   go_ret
   exact ⟨_, rfl, hown, k1⟩
 ·have HC := hid (l01Own_any (zs b) v w hv)
  have h256 := two8 hb
  obtain ⟨p, cap, rfl, _⟩ := hv
  go_enter Tryz.func53, Tryz.ntmps53
  go_wp2_with fail
  refine HC.out.mono ?_; rintro e w1 ⟨v1, rfl, hown, k1⟩
  obtain ⟨g, c1, rfl, hg, _, _, hmx⟩ := hown.shape (by rw [zs_length]; omega)
  unfold maxLen at hmx
  rw [zs_length] at *
  generalize hn : b.length = n at *
  go_wp2
  go_loopw [4] (fun j' wr => ∃ j : Nat, j ≤ n ∧ j' = .int .i64 j ∧ OwnI wr w.heap.size (.slice (some ⟨g, 0, none⟩) n c1) (zs (wAll b n j)) ∧ Keeps w wr) (fun j' _ => n - (intOf j').toNat)
  case atStart => exact ⟨0, by omega, rfl, hown, k1⟩
  case round =>
   obtain ⟨j, hj, rfl, hownj, kw⟩ := hrel
   clear hown k1
   by_cases hlt : j < n
   ·have hlt' : (j : Int) < n := by omega
    have HO := hid hownj; clear hownj
    have KW := hid kw; clear kw
    have HB := hid (wAll_bnd hbm n j)
    have hs : wAll b n (j + 1) = wRow (wAll b n j) j n := rfl
    have hlen : (wAll b n j).length = n := by rw [wAll_len]; exact hn
    have HS := hid hs; clear hs
    generalize wAll b n j = a at *
    go_wp2_with fail
    go_loopw [5] (fun i' wr' => ∃ i : Nat, i ≤ n ∧ i' = .int .i64 i ∧ OwnI wr' w.heap.size (.slice (some ⟨g, 0, none⟩) n c1) (zs (wRow a j i)) ∧ Keeps w wr') (fun i' _ => n - (intOf i').toNat)
    case atStart => exact ⟨0, by omega, rfl, HO.out, KW.out⟩
    case round =>
     obtain ⟨i, hi, rfl, hown, kw⟩ := hrel
     clear HO KW
     by_cases hit : i < n
     ·have hit' : (i : Int) < n := by omega
      have HBi := hid (wRow_bnd HB.out j i)
      have hli : (wRow a j i).length = n := by rw [wRow_len]; exact hlen
      have hs2 : wRow a j (i + 1) = wStep (wRow a j i) j i := rfl
      unfold wStep at hs2
      have HS2 := hid hs2; clear hs2
      generalize wRow a j i = r at *
      obtain ⟨ci, fi⟩ := hown.cell i (by rw [zs_length]; omega)
      obtain ⟨cj, fj⟩ := hown.cell j (by rw [zs_length]; omega)
      rw [zs_get] at ci cj
      rw [← getD_get] at ci cj
      have bi := HBi.out i
      have bj := HBi.out j
      have HH := hid (l01BitB_any (r.getD i 0) j wr (by omega) (by omega))
      have hst := OwnI.store (hown.keeps (Keeps.refl wr).drew) i (by rw [zs_length]; omega) ((r.getD i 0 ||| r.getD j 0 : Nat) : Int)
      rw [← zs_set] at hst
      have hor := orN (r.getD i 0) (r.getD j 0) (by omega) (by omega)
      cases hbit : (r.getD i 0).testBit j
      ·rw [hbit] at HH HS2
       rw [if_neg (by simp)] at HS2
       clear hst hbit cj hor
       have HO := hid hown; clear hown
       generalize r.getD i 0 = x at *
       go_wp2_with fail
       refine HH.out.mono ?_; rintro e w' ⟨rfl, rfl⟩
       go_wp2_with fail
       go_roundw
       case rel => exact ⟨i + 1, by omega, by go_num, by rw [HS2.out]; exact HO.out, kw⟩
       case measure => simp [intOf]; omega
      ·rw [hbit] at HH HS2
       rw [if_pos rfl] at HS2
       clear hbit hown
       have HST := hid hst; clear hst
       have KW := hid kw; clear kw
       generalize hx : r.getD i 0 = x at *
       generalize hy : r.getD j 0 = y at *
       go_wp2_with fail
       refine HH.out.mono ?_; rintro e w' ⟨rfl, rfl⟩
       go_wp2_with fail
       go_region
       go_wp2
       go_roundw
       case rel => exact ⟨i + 1, by omega, by go_num, by first | (rw [HS2.out, hor]; exact HST.out.1) | (rw [HS2.out]; exact HST.out.1), by first | (rw [hor]; exact (Keeps.drew KW.out).grown HST.out.2 (fun k hk => by cases hk; exact hg)) | exact (Keeps.drew KW.out).grown HST.out.2 (fun k hk => by cases hk; exact hg)⟩
       case measure => simp [intOf]; omega
     ·obtain rfl : i = n := by omega
      have hit' : ¬ (i : Int) < i := by omega
      go_wp2_with fail
      go_roundw
      case rel => exact ⟨j + 1, by omega, by go_num, by rw [HS.out]; exact hown, kw⟩
      case measure => simp [intOf]; omega
   ·obtain rfl : j = n := by omega
    have hlt' : ¬ (j : Int) < j := by omega
    go_wp2_with fail
    go_ret
    exact ⟨_, rfl, hownj, kw⟩
end Go.Proofs.YtfmmajgkjkmghaaGreat
namespace Go.Proofs.YtfmmajgkjkmghaaGreat
open Go.RowKit
def DrawO (B n : Nat) (w : World) (e : Ending) (w' : World) : Prop := ∃ v, ∃ o : List Nat, e = .returned v ∧ OwnI w' w.heap.size v (zs o) ∧ o.length = n ∧ (∀ x ∈ o, x < n) ∧ Dr B w w'
theorem range_snoc (k : Nat) : zs (List.range (k + 1)) = zs (List.range k) ++ [(k : Int)] := by rw [List.range_succ, zs_snoc]
theorem set_lt {o : List Nat} {n i x : Nat} (h : ∀ y ∈ o, y < n) (hx : x < n) : ∀ y ∈ o.set i x, y < n := by
 intro y hy
 rcases List.mem_or_eq_of_mem_set hy with h1 | h1
 ·exact h y h1
 ·omega
def ShRel (B n g cap : Nat) (w : World) (wr : World) : Prop := ∃ o : List Nat, OwnI wr w.heap.size (.slice (some ⟨g, 0, none⟩) n cap) (zs o) ∧ o.length = n ∧ (∀ x ∈ o, x < n) ∧ Dr B w wr
set_option maxRecDepth 20000 in
set_option maxHeartbeats 1000000 in
theorem l16Shuffle_any (B n : Nat) (hn : n ≤ 8) (w : World) (hs : Src w B) : Calls Tryz.prog 199 #[.pointer (some ⟨B, 0, none⟩), .int .i64 n] w (DrawO B n w) := by
 have hB := hs.lt
 have HSN := hid range_snoc
 have H0 : Hid (zs (List.range 0) = []) := hid rfl
 have HLN := hid (fun k => show (zs (List.range k)).length = k by rw [zs_length, List.length_range])
 have HRL := hid (fun x (h : x ∈ List.range n) => List.mem_range.1 h)
 have HRN : Hid ((List.range n).length = n) := hid (List.length_range)
 obtain ⟨R, hR⟩ : ∃ R : Nat → List Nat, ∀ k, R k = List.range k := ⟨_, fun _ => rfl⟩
 simp only [← hR] at *
 clear hR
 go_enter Tryz.func199, Tryz.ntmps199
 go_wp2_with fail
 go_loopw [5, 6] (fun s5 s6 wr => ∃ k : Nat, k ≤ n ∧ s6 = .int .i64 k ∧ OwnI wr w.heap.size s5 (zs (R k)) ∧ Keeps w wr) (fun _ s6 _ => n - (intOf s6).toNat)
 case atStart => exact ⟨0, by omega, rfl, by rw [H0.out]; exact OwnI.empty w, (Keeps.refl w).alloc _⟩
 case round =>
  obtain ⟨k, hk, rfl, hown, kw⟩ := hrel
  by_cases hlt : k < n
  ·have hlt' : (k : Int) < n := by omega
   have hzl := HLN.out k
   have hsn := HSN.out k
   have HSK := hid hsn; clear hsn
   have hsz := kw.size
   have kA := (Keeps.refl wr).alloc (.cells #[.int .i64 (k : Int)] 2)
   go_wp2_with (at_builtin; refine appI rfl _ _ rfl w.heap.size _ (zs (R k)) rfl (hown.keeps kA) _ [(k : Int)] rfl (Ints.lit1 wr k) (by simp; omega) (by rw [hzl]; simp; omega) ?_; intro v1 w1 hv1 hg1 hr1)
   go_roundw
   case rel => exact ⟨k + 1, by omega, by go_num, by rw [HSK.out]; exact hv1, (kw.trans kA).grown hg1 hr1⟩
   case measure => simp [intOf]; omega
  ·have e : n = k := by omega
   subst e
   have hlt' : ¬ (n : Int) < n := by omega
   have D := hid (Dr.of hs kw)
   rcases Nat.eq_zero_or_pos n with hz | hpos
   ·subst hz
    obtain ⟨p1, n1, q1, rfl⟩ := (show ∃ p n c, _ = Value.slice p n c by obtain ⟨p, c, e, _⟩ := At.of_own hown; exact ⟨p, _, c, e⟩)
    go_wp2_with fail
    go_loopw [7] (fun s7 wx => s7 = .int .i64 (-1) ∧ wx = wr) (fun _ _ => 0)
    case atStart => exact ⟨rfl, rfl⟩
    case round =>
     obtain ⟨rfl, rfl⟩ := hrel
     go_wp2_with fail
     go_ret
     exact ⟨_, R 0, rfl, hown, HRN.out, HRL.out, D.out⟩
   ·obtain ⟨g, cap, rfl, hg, hg2, hcap, hmx⟩ := hown.shape (by rw [HLN.out]; exact hpos)
    rw [HLN.out] at hown hcap ⊢
    unfold maxLen at hmx
    have HS := hid (show ShRel B n g cap w wr from ⟨R n, hown, HRN.out, HRL.out, D.out⟩)
    clear hown D kw hlt' hs HLN HSN H0 HRL HRN
    go_wp2_with fail
    go_loopw [7] (fun s7 wx => ∃ m : Nat, m < n ∧ s7 = .int .i64 m ∧ ShRel B n g cap w wx) (fun s7 _ => (intOf s7).toNat)
    case atStart => exact ⟨n - 1, by omega, by go_num, HS.out⟩
    case round =>
     obtain ⟨m, hm, rfl, o, hown, hol, hox, D⟩ := hrel
     have hwm : w.heap.size < wr.heap.size + 0 := by have := D.size; have := (hown.len g rfl).2; omega
     clear HS
     by_cases hm0 : 0 < m
     ·have hm0' : (0 : Int) < (m : Int) := by omega
      go_wp2_with fail
      refine (l01Next_any ((m : Int) + 1) B _ D.2 (by omega)).mono ?_; rintro e w3 ⟨r3, rfl, hr3, d3⟩
      have D3 := D.trans d3
      have hr : r3 < n := by omega
      have hr' : (r3 : Int) < n := by omega
      have hm' : (m : Int) < n := by omega
      have hown3 := hown.dr d3 (by omega)
      obtain ⟨c1, f1⟩ := hown3.zcell m (by omega)
      obtain ⟨c2, f2⟩ := hown3.zcell r3 (by omega)
      have hx1 : o.getD m 0 < n := by rw [getD_get (by omega)]; exact hox _ (List.getElem_mem _)
      have hx2 : o.getD r3 0 < n := by rw [getD_get (by omega)]; exact hox _ (List.getElem_mem _)
      obtain ⟨st1, gr1⟩ := hown3.store m (by rw [zs_length]; omega) ((o.getD r3 0 : Nat) : Int)
      rw [← zs_set] at st1
      have hox1 := set_lt (i := m) hox hx2
      have hol1 : (o.set m (o.getD r3 0)).length = n := by rw [List.length_set]; exact hol
      have D4 := D3.beside ((Touch.grown gr1).mono (fun k e => by simpa using e)) (show B < g by omega) hg
      obtain ⟨st2, gr2⟩ := st1.store r3 (by rw [zs_length, hol1]; omega) ((o.getD m 0 : Nat) : Int)
      rw [← zs_set] at st2
      have hox2 := set_lt (i := r3) hox1 hx1
      have D5 := D4.beside ((Touch.grown gr2).mono (fun k e => by simpa using e)) (show B < g by omega) hg
      obtain ⟨c3, f3⟩ := st1.zcell r3 (by rw [hol1]; omega)
      have HE := hid (show ShRel B n g cap w _ from ⟨_, st2, by rw [List.length_set]; exact hol1, hox2, D5⟩)
      clear st2 hox2 D5 gr2 hox1 hol1 D4 gr1 st1 hox hol hown hown3 D D3 d3
      generalize ((o.set m (o.getD r3 0)).getD r3 0) = z at *
      generalize o.getD m 0 = x1 at *
      generalize o.getD r3 0 = x2 at *
      go_wp2_with fail
      go_roundw
      case rel => exact ⟨m - 1, by omega, by go_num, HE.out⟩
      case measure => simp [intOf]; omega
     ·obtain rfl : m = 0 := by omega
      have HE := hid (show DrawO B n w (.returned (.slice (some ⟨g, 0, none⟩) n cap)) wr from ⟨_, o, rfl, hown, hol, hox, D⟩)
      clear hown hol hox D
      go_wp2_with fail
      go_ret
      exact HE.out
end Go.Proofs.YtfmmajgkjkmghaaGreat
namespace Go.Proofs.YtfmmajgkjkmghaaGreat
open Go.RowKit
def jnL (b : List Nat) : List Nat := (2 ^ (b.length + 1) - 1) :: b.map fun x => x * 2
theorem jnL_len (b : List Nat) : (jnL b).length = b.length + 1 := by simp [jnL]
theorem jnL_bnd {b : List Nat} (h : Bnd b.length b) : Bnd (b.length + 1) (jnL b) := mem_bnd fun x hx => by
 have h2 := Nat.two_pow_pos (b.length + 1)
 rcases List.mem_cons.1 hx with rfl | hx
 ·omega
 ·obtain ⟨y, hy, rfl⟩ := List.mem_map.1 hx
  have := bnd_mem h y hy
  rw [Nat.pow_succ]; omega
theorem jnL_take (b : List Nat) (k : Nat) (h : k < b.length) : (jnL b).take (k + 2) = (jnL b).take (k + 1) ++ [b.getD k 0 * 2] := by
 rw [List.take_succ_eq_append_getElem (by rw [jnL_len]; omega)]
 congr 1
 simp [jnL, List.getD_eq_getElem?_getD, h]
theorem jn_root (n : Nat) (h : n ≤ 7) : bits .or .i64 1 (wrap64 (((2 : Int) ^ n - 1) * 2)) = ((2 ^ (n + 1) - 1 : Nat) : Int) := by
 have hw : wrap64 (((2 : Int) ^ n - 1) * 2) = ((2 ^ (n + 1) - 2 : Nat) : Int) := by
  have h1 : (2 : Nat) ^ n ≤ 2 ^ 7 := Nat.pow_le_pow_right (by omega) h
  have h2 := Nat.two_pow_pos n
  have h3 : (2 : Int) ^ n = ((2 ^ n : Nat) : Int) := by push_cast; rfl
  rw [h3, Nat.pow_succ]
  generalize 2 ^ n = m at *
  unfold wrap64
  omega
 rw [hw]
 have : ∀ n : Fin 8, bits .or .i64 1 ((2 ^ ((n : Nat) + 1) - 2 : Nat) : Int) = ((2 ^ ((n : Nat) + 1) - 1 : Nat) : Int) := by decide +kernel
 exact this ⟨n, by omega⟩
theorem made3 (w : World) (a b : Value) {N : Nat} (h : w.heap.size = N) : (w.alloc (.cells #[a, b] 31)).cell? ⟨N, 0, none⟩ = some a ∧ (w.alloc (.cells #[a, b] 31)).cell? ⟨N, 1, none⟩ = some b ∧
  (w.alloc (.cells #[a, b] 31)).frozen? ⟨N, 0, none⟩ = false ∧ (w.alloc (.cells #[a, b] 31)).frozen? ⟨N, 1, none⟩ = false := by
 subst h
 exact ⟨by simp, by simp, by simp, by simp⟩
set_option maxRecDepth 20000 in
set_option maxHeartbeats 1000000 in
theorem l16Join1_any (b : List Nat) (hb : b.length ≤ 7) (hbb : Bnd b.length b) (u v : Value) (w : World) (hu : Ints w u [1]) (hv : Ints w v (zs b)) :
  Calls Tryz.prog 200 #[.agg #[.int .i64 1, u], .agg #[.int .i64 b.length, v], .bool true] w (RetP w (zs (jnL b))) := by
 obtain ⟨pu, cu, rfl, -, hmxu, hatu, -⟩ := hu
 obtain ⟨bu, ou, hpu, hcu⟩ := hatu.int 0 (by simp)
 cases hpu
 simp only [List.getElem_cons_zero, Nat.add_zero] at hcu
 have hv0 := hv
 obtain ⟨pv, cv, rfl, -, hmxv, -, -⟩ := hv
 rw [zs_length b] at *
 unfold maxLen at hmxu hmxv
 have HV := hid hv0; clear hv0 hatu
 have HB := hid hbb; clear hbb
 obtain ⟨W3, hW3⟩ : ∃ W3, W3 = ((w.alloc (.cells #[.int .i64 1, .slice (some ⟨bu, ou, none⟩) 1 cu] 31)).alloc (.cells #[.int .i64 b.length, .slice pv b.length cv] 31)).alloc (.cells #[.int .i64 0, .slice none 0 0] 31) := ⟨_, rfl⟩
 have k3 : Keeps w W3 := by rw [hW3]; exact (((Keeps.refl w).alloc _).alloc _).alloc _
 have hs3 : W3.heap.size = w.heap.size + 1 + 1 + 1 := by rw [hW3]; simp
 have p0 : W3.cell? ⟨w.heap.size, 0, none⟩ = some (.int .i64 1) := by rw [hW3]; exact (((Keeps.refl _).alloc _).alloc _).cell (BoxF.made w 1 (.slice (some ⟨bu, ou, none⟩) 1 cu) 31).1
 have p1 : W3.cell? ⟨w.heap.size, 1, none⟩ = some (.slice (some ⟨bu, ou, none⟩) 1 cu) := by rw [hW3]; exact (((Keeps.refl _).alloc _).alloc _).cell (BoxF.made w 1 (.slice (some ⟨bu, ou, none⟩) 1 cu) 31).2
 have q0 : W3.cell? ⟨w.heap.size + 1, 0, none⟩ = some (.int .i64 b.length) := by rw [hW3]; exact ((Keeps.refl _).alloc _).cell (by have := (BoxF.made (w.alloc (.cells #[.int .i64 1, .slice (some ⟨bu, ou, none⟩) 1 cu] 31)) b.length (.slice pv b.length cv) 31).1; rwa [World.size_alloc] at this)
 have q1 : W3.cell? ⟨w.heap.size + 1, 1, none⟩ = some (.slice pv b.length cv) := by rw [hW3]; exact ((Keeps.refl _).alloc _).cell (by have := (BoxF.made (w.alloc (.cells #[.int .i64 1, .slice (some ⟨bu, ou, none⟩) 1 cu] 31)) b.length (.slice pv b.length cv) 31).2; rwa [World.size_alloc] at this)
 have r0 : W3.cell? ⟨w.heap.size + 1 + 1, 0, none⟩ = some (.int .i64 0) := by rw [hW3]; exact (made3 _ _ _ (by simp)).1
 have r1 : W3.cell? ⟨w.heap.size + 1 + 1, 1, none⟩ = some (.slice none 0 0) := by rw [hW3]; exact (made3 _ _ _ (by simp)).2.1
 have f0 : W3.frozen? ⟨w.heap.size + 1 + 1, 0, none⟩ = false := by rw [hW3]; exact (made3 _ (.int .i64 0) (.slice none 0 0) (by simp)).2.2.1
 have f1 : W3.frozen? ⟨w.heap.size + 1 + 1, 1, none⟩ = false := by rw [hW3]; exact (made3 _ (.int .i64 0) (.slice none 0 0) (by simp)).2.2.2
 have hcu3 := k3.cell hcu
 have HC := hid (And.intro p0 (And.intro p1 (And.intro q0 (And.intro q1 hcu3))))
 have HR := hid (And.intro r0 (And.intro r1 (And.intro f0 f1)))
 have HW3 := hid hW3
 have K3 := hid k3
 clear p0 p1 q0 q1 r0 r1 f0 f1 hcu3 hcu hW3 k3
 have HF := hid (fun wz => l01Full_any (b.length : Int) wz (by omega) (by omega))
 simp only [Int.toNat_natCast] at HF
 have HRT := hid (jn_root b.length hb)
 have HT1 : Hid (zs ((jnL b).take 1) = [((2 ^ (b.length + 1) - 1 : Nat) : Int)]) := hid rfl
 have HTK := hid (fun k h => jnL_take b k h)
 have HLN := hid (fun k (h : k ≤ b.length + 1) => show (zs ((jnL b).take k)).length = k by rw [zs_length, List.length_take, jnL_len]; omega)
 have HEN : Hid ((jnL b).take (b.length + 1) = jnL b) := hid (List.take_of_length_le (by rw [jnL_len]; omega))
 have HVC := hid (fun i (hi : i < b.length) wr (k : Keeps w wr) => (HV.out.keeps k).zs_cell i hi)
 have HBB := hid (fun i => HB.out i)
 have HLJ := jnL_len b
 generalize jnL b = J at *
 obtain ⟨A, hA⟩ : ∃ A : Nat → Nat, ∀ k, A k = b.getD k 0 := ⟨_, fun _ => rfl⟩
 simp only [← hA] at HTK HVC HBB
 clear hA HV HB
 generalize b.length = n at *
 go_enter Tryz.func200, Tryz.ntmps200
 go_wp2_with fail
 rw [← HW3.out]
 go_loopw [7, 8] (fun s7 s8 wr => ((s8 = .int .i64 0 ∧ OwnI wr (w.heap.size + 1 + 1 + 1) s7 []) ∨ (s8 = .int .i64 1 ∧ OwnI wr (w.heap.size + 1 + 1 + 1) s7 (zs (J.take 1)))) ∧ Keeps W3 wr) (fun _ s8 _ => 1 - (intOf s8).toNat)
 case atStart => exact ⟨.inl ⟨rfl, by have := OwnI.empty W3; rw [hs3] at this; exact this⟩, (Keeps.refl W3).alloc _⟩
 case round =>
  obtain ⟨hor01, kw⟩ := hrel
  obtain ⟨p0, p1, q0, q1, hcu⟩ := HC.out
  replace p0 := kw.cell p0
  replace p1 := kw.cell p1
  replace q0 := kw.cell q0
  replace q1 := kw.cell q1
  replace hcu := kw.cell hcu
  rcases hor01 with ⟨rfl, hown⟩ | ⟨rfl, hown⟩
  ·have HS := hid (show w.heap.size + 1 + 1 + 1 ≤ wr.heap.size by have := kw.size; omega)
   have hrt := HRT.out
   have hor : bits .or .i64 1 (wrap64 (((2 : Int) ^ n - 1) * 2)) = ((2 ^ (n + 1) - 1 : Nat) : Int) := hrt
   clear hrt HRT
   generalize ((2 ^ (n + 1) - 1 : Nat) : Int) = P at *
   go_wp2_with fail
   go_quiet (first | (go_at_call 80; refine quietS (HF.out _)))
   all_goals
    have hwd : Keeps wr (wr.drewN nq) := Keeps.drewN (Keeps.refl wr) nq
    have kA := hwd.alloc (.cells #[.int .i64 P] 2)
    have hown2 := hown.keeps kA
    go_wp2_with (at_builtin; refine appI rfl _ _ rfl (w.heap.size + 1 + 1 + 1) _ [] rfl hown2 _ [P] rfl (Ints.lit1 _ P) (by have := HS.out; simp; omega) (by simp) ?_; intro v1 w1 hv1 hg1 hr1)
    go_roundw
    case rel => exact ⟨.inr ⟨rfl, by rw [HT1.out]; exact hv1⟩, (kw.trans kA).grown hg1 (fun i hi => by have := hr1 i hi; have := K3.out.size; omega)⟩
    case measure => simp [intOf]
  ·clear HRT HT1
   go_wp2_with fail
   go_loopw [7, 10] (fun s7 s10 wx => ∃ k : Nat, k ≤ n ∧ s10 = .int .i64 k ∧ OwnI wx (w.heap.size + 1 + 1 + 1) s7 (zs (J.take (k + 1))) ∧ Keeps W3 wx) (fun _ s10 _ => n - (intOf s10).toNat)
   case atStart => exact ⟨0, by omega, rfl, hown, kw⟩
   case round =>
    clear p0 p1 q0 q1 hcu kw hown
    obtain ⟨k, hk, rfl, hown, kw⟩ := hrel
    obtain ⟨p0, p1, q0, q1, hcu⟩ := HC.out
    replace p0 := kw.cell p0
    replace p1 := kw.cell p1
    replace q0 := kw.cell q0
    replace q1 := kw.cell q1
    by_cases hlt : k < n
    ·have hlt' : (k : Int) < n := by omega
     obtain ⟨b1, o1, e1, h1⟩ := HVC.out k hlt _ (K3.out.trans kw)
     cases e1
     have htk := HTK.out k hlt
     have hab := HBB.out k
     have hzl := HLN.out (k + 1) (by omega)
     generalize A k = x at *
     have hwx : IntKind.i64.wrap ((x : Int) * 2 ^ min (IntKind.u64.wrap 1).toNat 64) = ((x * 2 : Nat) : Int) := by
      have h7 : (2 : Nat) ^ n ≤ 2 ^ 7 := Nat.pow_le_pow_right (by omega) hb
      rw [show min (IntKind.u64.wrap 1).toNat 64 = 1 by decide, show (x : Int) * 2 ^ 1 = ((x * 2 : Nat) : Int) by push_cast; omega]
      exact wrapN _ (by omega)
     generalize x * 2 = y at *
     have HSI := hid htk; clear htk
     have HWX := hid hwx; clear hwx
     have hsz := kw.size
     go_wp2_with fail
     go_region_law (refine stepI rfl (.tmp 45) (.tmp 55) rfl (w.heap.size + 1 + 1 + 1) _ (zs (J.take (k + 1))) rfl (by exact hown.keeps (by first | exact ((Keeps.refl wr).drew).alloc _ | exact ((Keeps.refl wr).alloc _).drew)) _ [_] rfl (by first | exact Ints.lit1 _ _ | exact (Ints.lit1 _ _).keeps ((Keeps.refl _).drew)) (by simp; omega) (by rw [hzl]; simp; omega) ?_; intro v1 w1 hv1 hg1 hr1)
     all_goals
      have k2 : Keeps W3 w1 := by
       refine Keeps.grown ?_ hg1 (fun i hi => by have := hr1 i hi; omega)
       first | exact (kw.drew.alloc _) | exact (kw.alloc _).drew
      go_wp2
      go_roundw
      case rel => exact ⟨k + 1, by omega, by go_num, by rw [HSI.out, zs_snoc, ← HWX.out]; exact hv1, k2⟩
      case measure => simp [intOf]; omega
    ·have e : n = k := by omega
     subst e
     have hlt' : ¬ (n : Int) < n := by omega
     rw [HEN.out] at hown
     have hin := hown.ints (by rw [zs_length, HLJ]; omega)
     have HMK := hid (l16Make_any (zs J) _ _ hin)
     obtain ⟨pj, nj, qj, rfl⟩ := (show ∃ p n c, _ = Value.slice p n c by obtain ⟨p, c, e, _⟩ := At.of_own hown; exact ⟨p, _, c, e⟩)
     clear hown hin
     go_wp2_with fail
     refine HMK.out.mono ?_; rintro e w5 ⟨v5, rfl, hv5, k5⟩
     obtain ⟨p5, c5, rfl, -, -, -⟩ := At.of_own hv5
     have kz := k5
     have hr := HR.out
     obtain ⟨r0, r1, f0, f1⟩ := hr
     have kk := kw.trans k5
     obtain ⟨hc2, hf2⟩ := kk.both
     replace r0 := kk.cell r0
     replace r1 := kk.cell r1
     rw [← hf2 _ _ (by omega)] at f0 f1
     have hlz : (zs J).length = n + 1 := by rw [zs_length, HLJ]
     rw [hlz] at hv5 ⊢
     have hB : w.heap.size + 1 + 1 < wr.heap.size := by have := kw.size; omega
     have HO5 := hid hv5
     clear hc2 hf2 hv5 kz
     go_wp2_with fail
     refine bodyPost_ret (v := .agg #[.int .i64 ((n + 1 : Nat) : Int), .slice p5 (n + 1) c5]) (by simp [results, Tryz.results200, go_sem, r0, r1]) rfl ?_
     exact ⟨.slice p5 (n + 1) c5, by rw [hlz], ((HO5.out.setBelow hB _).setBelow (by simpa using hB) _).mono (by omega), ((K3.out.trans kk).setCell (show w.heap.size ≤ w.heap.size + 1 + 1 by omega) _).setCell (show w.heap.size ≤ w.heap.size + 1 + 1 by omega) _⟩
end Go.Proofs.YtfmmajgkjkmghaaGreat
namespace Go.Proofs.YtfmmajgkjkmghaaGreat
open Go.RowKit
structure RB (W : World) (r : Nat) : Prop where
 c0 : W.cell? ⟨r, 0, none⟩ = some (.int .i64 0)
 c1 : W.cell? ⟨r, 1, none⟩ = some (.slice none 0 0)
 f0 : W.frozen? ⟨r, 0, none⟩ = false
 f1 : W.frozen? ⟨r, 1, none⟩ = false
theorem RB.made (w : World) : RB (w.alloc (.cells #[.int .i64 0, .slice none 0 0] 31)) w.heap.size := ⟨by simp, by simp, by simp, by simp⟩
theorem RB.lt {W : World} {r : Nat} (h : RB W r) : r < W.heap.size := World.block_lt_of_cell? _ _ h.c0
theorem RB.touch {W W' : World} {r : Nat} {S : Nat → Prop} (h : RB W r) (k : Touch W W' S) (hS : ¬ S r) : RB W' r := by
 have hc := k.cell h.lt hS
 exact ⟨by rw [hc.1]; exact h.c0, by rw [hc.1]; exact h.c1, by rw [hc.2]; exact h.f0, by rw [hc.2]; exact h.f1⟩
theorem RB.dr {W W' : World} {r B : Nat} (h : RB W r) (k : Dr B W W') (hne : r ≠ B) : RB W' r := h.touch k.1 hne
theorem RB.keeps {W W' : World} {r : Nat} (h : RB W r) (k : Keeps W W') : RB W' r := h.touch (Touch.of_keeps k (fun _ => False)) id
def DrawP (B N : Nat) (w : World) (e : Ending) (w' : World) : Prop := ∃ v, ∃ a : List Nat, e = .returned (.agg #[.int .i64 a.length, v]) ∧ OwnI w' w.heap.size v (zs a) ∧ a.length ≤ N ∧ Bnd a.length a ∧ Dr B w w'
theorem Bnd.mono {n m : Nat} {a : List Nat} (h : Bnd n a) (k : n ≤ m) : Bnd m a := fun i => Nat.lt_of_lt_of_le (h i) (Nat.pow_le_pow_right (by omega) k)
theorem Bnd.snoc {n x : Nat} {a : List Nat} (h : Bnd n a) (hx : x < 2 ^ n) : Bnd n (a ++ [x]) := mem_bnd fun y hy => by
 rcases List.mem_append.1 hy with h1 | h1
 ·exact bnd_mem h y h1
 ·rw [List.mem_singleton.1 h1]; exact hx
theorem and_not_le (a b : Nat) : a ^^^ (a &&& b) ≤ a := by
 have h : (a ^^^ (a &&& b)) &&& a = a ^^^ (a &&& b) := by
  apply Nat.eq_of_testBit_eq
  intro i
  simp only [Nat.testBit_and, Nat.testBit_xor]
  cases a.testBit i <;> cases b.testBit i <;> rfl
 rw [← h]; exact Nat.and_le_right
theorem drawP_end {B N g : Nat} {w W : World} {p : Option Addr} {c : Nat} {a : List Nat} (hg : w.heap.size ≤ g) (hB : B < g) (b : Nat) (hb : g < b) (hv : OwnI W b (.slice p a.length c) (zs a)) (hw : w.heap.size ≤ b) (hN : a.length ≤ N) (hbn : Bnd a.length a) (D : Dr B w W) (x y : Value) :
  DrawP B N w (.returned (.agg #[.int .i64 a.length, .slice p a.length c])) ((W.setCell ⟨g, 0, none⟩ x).setCell ⟨g, 1, none⟩ y) := by
 refine ⟨_, a, rfl, ((hv.setBelow hb _).setBelow hb _).mono hw, hN, hbn, ?_⟩
 have t1 : Touch W (W.setCell ⟨g, 0, none⟩ x) (fun k => k = g) := (Touch.grown (grown_set g 0 x)).mono (fun k e => by simpa using e)
 have t2 : Touch (W.setCell ⟨g, 0, none⟩ x) ((W.setCell ⟨g, 0, none⟩ x).setCell ⟨g, 1, none⟩ y) (fun k => k = g) := (Touch.grown (grown_set g 1 y)).mono (fun k e => by simpa using e)
 exact D.beside (t1.trans t2) hB hg
theorem Dr.besideR {B : Nat} {a b c : World} {row : Option Nat} (h : Dr B a b) (k : b.grownBy c row) (hr : ∀ i, row = some i → B < i ∧ a.heap.size ≤ i) : Dr B a c := by
 cases row with
 | none => exact h.beside (g := max (B + 1) a.heap.size) ((Touch.grown k).mono (fun i e => by cases e)) (by omega) (by omega)
 | some g => exact h.beside ((Touch.grown k).mono (fun i e => by simpa using e)) (hr g rfl).1 (hr g rfl).2
def SmRelD (B n : Nat) (w : World) (s6 s8 : Value) (wr : World) : Prop := ∃ l : List Nat, l.length ≤ n ∧ s8 = .int .i64 l.length ∧ OwnI wr (w.heap.size + 1) s6 (zs l) ∧ Bnd n l ∧ Dr B w wr
def SmInD (B n th : Nat) (w : World) (row : Value) (l : List Nat) (s9 s10 : Value) (wr : World) : Prop := ∃ j m : Nat, j ≤ th ∧ s10 = .int .i64 j ∧ s9 = .int .i64 m ∧ m < 2 ^ n ∧ OwnI wr (w.heap.size + 1) row (zs l) ∧ Dr B w wr
set_option maxRecDepth 20000 in
set_option maxHeartbeats 2000000 in
theorem l16Some_any (B N : Nat) (hN : N ≤ 8) (w : World) (hs : Src w B) : Calls Tryz.prog 163 #[.pointer (some ⟨B, 0, none⟩), .int .i64 N] w (DrawP B N w) := by
 have hB := hs.lt
 obtain ⟨W0, hW0⟩ : ∃ W, W = w.alloc (.cells #[.int .i64 0, .slice none 0 0] 31) := ⟨_, rfl⟩
 have hb0 : RB W0 w.heap.size := by rw [hW0]; exact RB.made w
 have D0 : Dr B w W0 := by rw [hW0]; exact Dr.of hs ((Keeps.refl w).alloc _)
 have hs0 : W0.heap.size = w.heap.size + 1 := by rw [hW0]; simp
 have HW0 := hid hW0
 have HB0 := hid hb0
 clear hb0
 go_enter Tryz.func163, Tryz.ntmps163
 go_wp2_with fail
 rw [← HW0.out]
 refine (l01Next_any ((N : Int) + 1) B W0 D0.2 (by omega)).mono ?_; rintro e w1 ⟨n, rfl, hn, d1⟩
 have D1 := D0.trans d1
 have hb1 := HB0.out.dr d1 (by omega)
 have hs1 := d1.size
 have hnN : n ≤ N := by omega
 clear hn d1
 have HF := hid (fun wz => l01Full_any (n : Int) wz (by omega) (by omega))
 simp only [Int.toNat_natCast] at HF
 have hp8 : (2 : Nat) ^ n ≤ 2 ^ 8 := Nat.pow_le_pow_right (by omega) (by omega)
 have hpc : (2 : Int) ^ n = ((2 ^ n : Nat) : Int) := by push_cast; rfl
 have D2 := D1.keeps ((Keeps.refl w1).alloc (.cells #[] 2))
 have hE := (OwnI.empty w1).mono (show w.heap.size + 1 ≤ w1.heap.size by omega)
 have HE := hid hE; clear hE
 have hb2 := hb1.keeps ((Keeps.refl w1).alloc (.cells #[] 2))
 have HNX := hid (l01Next_any 3 B _ D2.2 (by omega))
 go_wp2_with fail
 refine HNX.out.mono ?_; rintro e w2 ⟨th, rfl, hth, d2⟩
 have D3 := D2.trans d2
 have hE2 := HE.out.dr d2 (by omega)
 have hb3 := hb2.dr d2 (by omega)
 have hth2 : th ≤ 2 := by omega
 have HST := hid (show SmRelD B n w _ (.int .i64 0) w2 from ⟨[], by simp, rfl, hE2, fun i => by simp [Nat.two_pow_pos], D3⟩)
 clear HE hE2 hth d2 D2 D1 hb2 hb1 HB0 hs1 hs0 HW0 hW0 D0 HNX
 have hP0 : (0 : Int) ≤ (2 : Int) ^ n - 1 ∧ (2 : Int) ^ n - 1 ≤ 255 ∧ (2 : Int) ^ n - 1 + 1 = ((2 ^ n : Nat) : Int) := by
  have := Nat.two_pow_pos n
  rw [hpc]; omega
 generalize (2 : Int) ^ n - 1 = P at *
 obtain ⟨hP1, hP2, hP3⟩ := hP0
 have HP3 := hid hP3
 clear hpc hP3
 go_wp2_with fail
 go_loopw [6, 8] (fun s6 s8 wr => SmRelD B n w s6 s8 wr ∧ RB wr w.heap.size) (fun _ s8 _ => n - (intOf s8).toNat)
 case atStart => exact ⟨HST.out, hb3⟩
 case round =>
  obtain ⟨⟨l, hl, rfl, hown, hbl, D⟩, hb⟩ := hrel
  clear HST hb3 D3
  obtain ⟨p6, n6, c6, rfl⟩ := hown.shape0
  by_cases hlt : l.length < n
  ·have hlt' : (l.length : Int) < n := by omega
   have HF2 := hid (fun wz => l01Full_any ((l.length : Int) + 1) wz (by omega) (by omega))
   rw [show ((l.length : Int) + 1).toNat = l.length + 1 by omega] at HF2
   have hq : (2 : Int) ^ (l.length + 1) - 1 = ((2 ^ (l.length + 1) - 1 : Nat) : Int) := by
    have := Nat.two_pow_pos (l.length + 1)
    rw [show (2 : Int) ^ (l.length + 1) = ((2 ^ (l.length + 1) : Nat) : Int) by push_cast; rfl]
    omega
   rw [hq] at HF2
   have hq8 : 2 ^ (l.length + 1) - 1 < 512 := by
    have : (2 : Nat) ^ (l.length + 1) ≤ 2 ^ 8 := Nat.pow_le_pow_right (by omega) (by omega)
    omega
   generalize 2 ^ (l.length + 1) - 1 = q at *
   clear hq
   have HBL := hid hbl; clear hbl
   have HLL : Hid (l.length = l.length) := hid rfl
   generalize hln : l.length = ln at *
   have HLN := hid hln; clear hln
   go_wp2_with fail
   refine (HF.out _).mono ?_; rintro e w' ⟨rfl, rfl⟩
   go_wp2_with fail
   refine (l01Next_any (P + 1) B _ D.2 (by omega)).mono ?_; rintro e w4 ⟨r4, rfl, hr4, d4⟩
   have D4 := D.trans d4
   have hr4' : r4 < 2 ^ n := by have := HP3.out; have := Nat.two_pow_pos n; omega
   have hown4 := hown.dr d4 (by omega)
   have hb4 := hb.dr d4 (by omega)
   have han := andNotN r4 q (by omega) (by omega)
   have hle := and_not_le r4 q
   generalize r4 ^^^ (r4 &&& q) = m0 at *
   have HIN := hid (show SmInD B n th w (.slice p6 n6 c6) l (.int .i64 m0) (.int .i64 0) w4 from ⟨0, m0, by omega, rfl, rfl, by omega, hown4, D4⟩)
   clear hown hown4 D D4 d4 hb hr4
   go_wp2_with fail
   refine (HF2.out _).mono ?_; rintro e w' ⟨rfl, rfl⟩
   go_wp2_with fail
   go_loopw [9, 10] (fun s9 s10 wx => SmInD B n th w (.slice p6 n6 c6) l s9 s10 wx ∧ RB wx w.heap.size) (fun _ s10 _ => th - (intOf s10).toNat)
   case atStart => first | exact ⟨HIN.out, hb4⟩ | (rw [han]; exact ⟨HIN.out, hb4⟩)
   case round =>
    clear HIN hb4 han hle hr4'
    obtain ⟨⟨j, m, hj, rfl, rfl, hm, hown, D⟩, hb⟩ := hrel
    by_cases hjt : j < th
    ·have hjt' : (j : Int) < th := by omega
     go_wp2_with fail
     refine (HF.out _).mono ?_; rintro e w' ⟨rfl, rfl⟩
     go_wp2_with fail
     refine (l01Next_any (P + 1) B _ D.2 (by omega)).mono ?_; rintro e w5 ⟨r5, rfl, hr5, d5⟩
     have D5 := D.trans d5
     have hown5 := hown.dr d5 (by omega)
     have hb5 := hb.dr d5 (by omega)
     have han5 := andN m r5 (by omega) (by omega)
     have hle5 : m &&& r5 ≤ m := Nat.and_le_left
     generalize m &&& r5 = m5 at *
     have HI5 := hid (show SmInD B n th w (.slice p6 n6 c6) l (.int .i64 m5) (.int .i64 ((j + 1 : Nat) : Int)) w5 from ⟨j + 1, m5, by omega, rfl, rfl, by omega, hown5, D5⟩)
     clear hown hown5 D D5 d5 hb
     go_wp2_with fail
     go_roundw
     case rel => first | exact ⟨HI5.out, hb5⟩ | (rw [han5]; exact ⟨HI5.out, hb5⟩)
     case measure => simp [intOf]; omega
    ·have e : th = j := by omega
     subst e
     have hjt' : ¬ (th : Int) < th := by omega
     have hsz := D.size
     have kA := (Keeps.refl wr).alloc (.cells #[.int .i64 (m : Int)] 2)
     have hlz : (zs l).length = ln := by rw [zs_length]; exact HLN.out
     go_wp2_with (at_builtin; refine appI rfl _ _ rfl (w.heap.size + 1) _ (zs l) rfl (hown.keeps kA) _ [(m : Int)] rfl (Ints.lit1 wr m) (by have := D.2.lt; have := hb.lt; simp; omega) (by rw [hlz]; simp; omega) ?_; intro v7 w7 hv7 hg7 hr7)
     go_roundw
     case rel =>
      refine ⟨⟨l ++ [m], by simp; have := HLN.out; omega, by simp [HLN.out], by rw [zs_snoc]; exact hv7, HBL.out.snoc hm, (D.keeps kA).besideR hg7 (fun i hi => by have := hr7 i hi; omega)⟩, (hb.keeps kA).touch (Touch.grown hg7) (fun e => by have := hr7 _ e.symm; omega)⟩
     case measure => simp [intOf]; omega
  ·have e : l.length = n := by omega
   have hlt' : ¬ (l.length : Int) < n := by omega
   have hszw := hb.lt
   have hin := hown.ints (by rw [zs_length]; omega)
   have HRF := hid (l01Reflexive_any l _ wr hin (by omega) (hbl.mono (by omega)))
   have hlr : (rfL l l.length).length = n := by rw [rfL_len]; exact e
   have hbr : Bnd n (rfL l l.length) := rfL_bnd hbl (by omega)
   clear hown hin hbl HF
   generalize rfL l l.length = b at *
   go_wp2_with fail
   refine HRF.out.mono ?_; rintro e w4 ⟨v4, rfl, hv4, k4⟩
   have HCL := hid (l01Closure_any b v4 w4 (hv4.ints (by rw [zs_length]; omega)) (by omega) (by rw [hlr]; exact hbr))
   have hla : (wAll b b.length b.length).length = n := by rw [wAll_len]; exact hlr
   have hba : Bnd n (wAll b b.length b.length) := wAll_bnd hbr _ _
   generalize wAll b b.length b.length = a at *
   obtain ⟨p4, n4, c4, rfl⟩ := hv4.shape0
   clear hv4 hbr
   go_wp2_with fail
   refine HCL.out.mono ?_; rintro e w5 ⟨v5, rfl, hv5, k5⟩
   obtain ⟨p5, n5, c5, rfl⟩ := hv5.shape0
   have D5 := (D.keeps k4).keeps k5
   have hb5 := (hb.keeps k4).keeps k5
   have hz4 := k4.size
   have hz5 := k5.size
   go_wp2_with fail
   refine (l01Next_any 2 B w5 D5.2 (by omega)).mono ?_; rintro e w6 ⟨r6, rfl, hr6, d6⟩
   have D6 := D5.trans d6
   have hb6 := hb5.dr d6 (by omega)
   have hv6 := hv5.dr d6 (by omega)
   have hz6 := d6.size
   clear hv5 d6 D5 hb5 D hb k4 k5
   have hin6 := hv6.ints (by rw [zs_length]; omega)
   by_cases hz : r6 = 0
   ·subst hz
    have HMK := hid (l16Make_any (zs a) _ w6 hin6)
    clear hin6 hv6
    go_wp2_with fail
    refine HMK.out.mono ?_; rintro e w7 ⟨v7, rfl, hv7, k7⟩
    have D7 := D6.keeps k7
    have hb7 := hb6.keeps k7
    have hz7 := k7.size
    obtain ⟨p9, c9, rfl, -, -, -⟩ := At.of_own hv7
    have hlz : (zs a).length = n := by rw [zs_length]; exact hla
    have HE := hid (fun x y => drawP_end (N := N) (Nat.le_refl _) hB w6.heap.size (show w.heap.size < w6.heap.size by omega) (by rw [zs_length] at hv7; exact hv7) (by omega) (by omega) (by rw [hla]; exact hba) D7 x y)
    rw [hla] at HE
    rw [hlz]
    obtain ⟨r0, r1, f0, f1⟩ := hb7
    clear hv7 k7 D7
    go_wp2_with fail
    refine bodyPost_ret (v := .agg #[.int .i64 (n : Int), .slice p9 n c9]) (by simp [results, Tryz.results163, go_sem, r0, r1]) rfl ?_
    exact HE.out _ _
   ·have hz' : ((r6 : Nat) : Int) ≠ 0 := by omega
    have HSH := hid (l16Shuffle_any B n (by omega) w6 D6.2)
    go_wp2_with fail
    refine HSH.out.mono ?_; rintro e w7 ⟨v7, o, rfl, hv7, hlo, hox, d7⟩
    have D7 := D6.trans d7
    have hb7 := hb6.dr d7 (by omega)
    have hv67 := hv6.dr d7 (by omega)
    have hz7 := d7.size
    obtain ⟨p7, n7, c7, rfl⟩ := hv7.shape0
    have HRN := hid (l05Renumber_any a o _ _ w7 (hv67.ints (by rw [zs_length]; omega)) (hv7.ints (by rw [zs_length]; omega)) (by omega) (by omega) (by rw [hlo]; exact hox) (by rw [hlo]; exact hba))
    have hlc : (renP a o).length = n := by rw [renP_len]; exact hlo
    have hbc : Bnd n (renP a o) := by have := renP_bnd a o; rwa [hlo] at this
    clear hv6 hin6 hv67 hv7 hba hox d7 D6 hb6
    generalize renP a o = c at *
    go_wp2_with fail
    refine HRN.out.mono ?_; rintro e w8 ⟨v8, rfl, hv8, k8⟩
    obtain ⟨p8, n8, c8, rfl⟩ := hv8.shape0
    have HMK := hid (l16Make_any (zs c) _ w8 (hv8.ints (by rw [zs_length]; omega)))
    have hz8 := k8.size
    have D8 := D7.keeps k8
    have hb8 := hb7.keeps k8
    clear hv8 k8
    go_wp2_with fail
    refine HMK.out.mono ?_; rintro e w9 ⟨v9, rfl, hv9, k9⟩
    have D9 := D8.keeps k9
    have hb9 := hb8.keeps k9
    obtain ⟨p9, c9, rfl, -, -, -⟩ := At.of_own hv9
    have hlz : (zs c).length = n := by rw [zs_length]; exact hlc
    have HE := hid (fun x y => drawP_end (N := N) (Nat.le_refl _) hB w8.heap.size (show w.heap.size < w8.heap.size by omega) (by rw [zs_length] at hv9; exact hv9) (by omega) (by omega) (by rw [hlc]; exact hbc) D9 x y)
    rw [hlc] at HE
    rw [hlz]
    obtain ⟨r0, r1, f0, f1⟩ := hb9
    clear hv9 k9 D9
    go_wp2_with fail
    refine bodyPost_ret (v := .agg #[.int .i64 (n : Int), .slice p9 n c9]) (by simp [results, Tryz.results163, go_sem, r0, r1]) rfl ?_
    exact HE.out _ _
end Go.Proofs.YtfmmajgkjkmghaaGreat
