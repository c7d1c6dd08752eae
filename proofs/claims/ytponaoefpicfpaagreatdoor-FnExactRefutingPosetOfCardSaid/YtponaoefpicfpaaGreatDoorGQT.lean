/- Images of masks under numbers, boxes, the number of classes: both sides. -/
import Derived.Test.YtponaoefpicfpaaGreatDoorGQE0
import Derived.Test.YtponaoefpicfpaaGreatDoorGQ2
import Derived.Test.YtponaoefpicfpaaGreatDoorGQR
import Derived.Deep.RegionHeld3
import Derived.Test.YtponaoefpicfpaaGreatDoorGQK
import Derived.Deep.RegionWith
import Derived.Test.YtponaoefpicfpaaGreatDoorGQJ
namespace Go.Proofs.YtponaoefpicfpaaGreatDoor
open Go.RowKit
theorem wrap_half : ∀ q : Fin 257, wrap64 (((q : Nat) : Int) / 2) = (((q : Nat) / 2 : Nat) : Int) := by decide +kernel
theorem memB_end {m i : Nat} (hm : m < 256) (hi : i ≤ 8) (h : m / 2 ^ i = 0) : lowB m i = memB m := lowB_end m i hm hi h
--
set_option maxRecDepth 20000 in
set_option maxHeartbeats 1000000 in
theorem l01ListB_any (m : Nat) (w : World) (hm : m < 256) : Calls Tryz.prog 123 #[.int .i64 m] w (RetI w (zs (memB m))) := by
  have h0 := OwnI.empty w
  have k0 := (Keeps.refl w).alloc (.cells #[] 2)
  go_enter Tryz.func123, Tryz.ntmps123
  go_wp2
  go_loopw [0, 3, 4] (fun x o i' wr => ∃ i : Nat, i ≤ 8 ∧ x = .int .i64 ((m / 2 ^ i : Nat) : Int) ∧ i' = .int .i64 i ∧ OwnI wr w.heap.size o (zs (lowB m i)) ∧ Keeps w wr) (fun x _ _ _ => (intOf x).toNat)
  case atStart => exact ⟨0, by omega, by simp, rfl, by simpa [lowB, zs] using h0, k0⟩
  case round =>
    obtain ⟨i, hi, rfl, rfl, hown, kw⟩ := hrel
    clear h0 k0
    have hle := fun h => memB_end hm hi h
    have hbt : m.testBit i = decide (m / 2 ^ i % 2 = 1) := Nat.testBit_eq_decide_div_mod_eq
    have hq2 : m / 2 ^ (i + 1) = m / 2 ^ i / 2 := by rw [Nat.pow_succ, Nat.div_div_eq_div_mul]
    have hqm : m / 2 ^ i ≤ m := Nat.div_le_self _ _
    have h8 : 0 < m / 2 ^ i → i < 8 := fun h => by
      rcases Nat.lt_or_ge i 8 with h' | h'
      · exact h'
      · obtain rfl : i = 8 := by omega
        omega
    generalize m / 2 ^ i = q at *
    have HQ2 := hid hq2; clear hq2
    by_cases hp : 0 < q
    · have hi8 := h8 hp
      have hls := lowB_succ m i
      have hll := lowB_len m i
      have hzl := zs_length (lowB m i)
      have hwq := wrap_half ⟨q, by omega⟩
      simp only at hwq
      have HLS := hid hls; clear hls
      clear hle h8
      by_cases hb : q % 2 = 1
      · have hb1 : ((q : Int) % 2 == 1) = true := by simp; omega
        have hb2 : m.testBit i = true := by rw [hbt]; simp [hb]
        have HL2 : Hid (lowB m (i + 1) = lowB m i ++ [i]) := hid (by rw [HLS.out, if_pos hb2])
        clear hbt hb hb2 HLS
        go_wp2_with (at_builtin; refine appI rfl _ _ rfl w.heap.size _ (zs (lowB m i)) rfl (hown.keeps ((Keeps.refl wr).alloc _)) _ [(i : Int)] rfl (Ints.lit1 wr i) (by have := kw.size; simp; omega) (by simp; omega) ?_; intro v1 w1 hv1 hg1 hr1; have k2 := (kw.alloc (.cells #[.int .i64 i] 2)).grown hg1 (by simpa using hr1))
        go_roundw
        case rel => exact ⟨i + 1, by omega, by rw [HQ2.out, Int.natCast_ediv]; rfl, by go_num, by rw [HL2.out, zs_snoc]; exact hv1, k2⟩
        case measure => first | (simp [intOf]; omega) | (simp [intOf, hwq]; omega)
      · have hb1 : ((q : Int) % 2 == 1) = false := by simp; omega
        have hb2 : ¬ m.testBit i = true := by rw [hbt]; simp; omega
        have HL2 : Hid (lowB m (i + 1) = lowB m i) := hid (by rw [HLS.out, if_neg hb2])
        clear hbt hb hb2 HLS
        have HO := hid hown; clear hown
        go_wp2
        go_roundw
        case rel => exact ⟨i + 1, by omega, by rw [HQ2.out, Int.natCast_ediv]; rfl, by go_num, by rw [HL2.out]; exact HO.out, kw⟩
        case measure => first | (simp [intOf]; omega) | (simp [intOf, hwq]; omega)
    · obtain rfl : q = 0 := by omega
      rw [hle rfl] at hown
      clear hle h8 hbt
      go_wp2
      go_ret
      exact ⟨_, rfl, hown, kw⟩
--
set_option maxRecDepth 20000 in
set_option maxHeartbeats 1000000 in
theorem mapMask_any (c : List Nat) (m : Nat) (v : Value) (w : World) (hv : Ints w v (zs c)) (hc : c.length ≤ 8) (hcl : ∀ i, i < c.length → c.getD i 0 < 8) (hm : m < 2 ^ c.length) :
    Calls Tryz.prog 177 #[v, .int .i64 m] w fun e w' => e = .returned (.int .i64 (mapM c m)) ∧ Keeps w w' := by
  have h256 := two8 hc
  have HM := hid (membersB_any m w (by omega))
  have hmem : ∀ x ∈ memB m, x < c.length := fun x hx => memB_lt hm hx
  have hml : (memB m).length ≤ 8 := lowB_len m 8
  have hmap : mapM c m = foldM c (memB m) := rfl
  have HLT := hid (fun l (h : ∀ x ∈ l, x < c.length) => foldM_lt (c := c) (n := 8) l (fun x hx => hcl x (h x hx)))
  have hv0 := hv
  obtain ⟨p, cap, rfl, hle, hmx, _, _⟩ := hv
  unfold maxLen at hmx
  rw [zs_length] at *
  have HMEM := hid hmem
  have HMAP := hid hmap
  have HCL := hid hcl
  clear hm hmem hmap h256 hcl
  generalize memB m = l at *
  go_enter Tryz.func177, Tryz.ntmps177
  go_wp2_with fail
  refine HM.out.mono ?_; rintro e w2 ⟨v2, rfl, hv2, k2⟩
  have hv2i := hv2.ints (by rw [zs_length]; omega)
  obtain ⟨p2, c2, rfl, _, hm2, _, _⟩ := hv2.ints (by rw [zs_length]; omega)
  unfold maxLen at hm2
  rw [zs_length] at *
  have hv1 := hv0.keeps k2
  clear hv0 hv2
  go_wp2
  go_loop [5, 11] (fun o i' => ∃ i : Nat, i ≤ l.length ∧ i' = .int .i64 i ∧ o = .int .i64 (foldM c (l.take i))) (fun _ i => l.length - (intOf i).toNat)
  case atStart => exact ⟨0, by omega, rfl, rfl⟩
  case round =>
    obtain ⟨i, hi, rfl, rfl⟩ := hrel
    by_cases hlt : i < l.length
    · obtain ⟨b1, o1, rfl, h1⟩ := hv2i.zs_cell i hlt
      rw [getD_get hlt] at h1
      have hx := HMEM.out l[i] (List.getElem_mem hlt)
      obtain ⟨b2, o2, rfl, h2⟩ := hv1.zs_cell l[i] hx
      have hy8 := HCL.out l[i] hx
      have hst : foldM c (l.take (i + 1)) = foldM c (l.take i) ||| 2 ^ c.getD l[i] 0 := by
        rw [List.take_succ_eq_append_getElem hlt, foldM_snoc]
      have hb1 := HLT.out (l.take i) (fun x hx => HMEM.out x (List.mem_of_mem_take hx))
      have hb2 : 2 ^ c.getD l[i] 0 < 2 ^ 8 := Nat.pow_lt_pow_right (by omega) hy8
      have hor := orN (foldM c (l.take i)) (2 ^ c.getD l[i] 0) (by omega) (by omega)
      rw [← hst] at hor
      have e1 := (pow63 (c.getD l[i] 0) (by omega)).1
      have e2 : ((2 ^ c.getD l[i] 0 : Nat) : Int) = 2 ^ c.getD l[i] 0 := by push_cast; rfl
      rw [e2] at hor
      have hlt' : (i : Int) < l.length := by omega
      have hx' : ((l[i] : Nat) : Int) < c.length := by omega
      have HO := hid hor; clear hor
      clear hst hb1 hb2 e2
      generalize hyy : c.getD l[i] 0 = y at *
      clear hyy
      generalize l[i] = x at *
      generalize foldM c (l.take i) = z at *
      go_wp2
      go_round
      case rel => exact ⟨i + 1, by omega, by go_num, by rw [HO.out]⟩
      case measure => simp [intOf]; omega
    · have hlt' : ¬ (i : Int) < l.length := by omega
      rw [List.take_of_length_le (by omega)]
      rw [← HMAP.out]
      go_wp2
      go_ret
      exact ⟨rfl, k2⟩
--
set_option maxRecDepth 20000 in
set_option maxHeartbeats 1000000 in
theorem box_any (b : List Nat) (m : Nat) (v : Value) (w : World) (hv : Ints w v (zs b)) (hb : b.length ≤ 8) (hbm : Bnd b.length b) (hm : m < 256) :
    Calls Tryz.prog 316 #[v, .int .i64 m] w fun e w' => e = .returned (.int .i64 (boxB b m b.length)) ∧ w = w' := by
  have h256 := two8 hb
  have HW := hid (fun i => withinB_any (b.getD i 0) m w (Nat.lt_of_lt_of_le (hbm i) h256) hm)
  have HL := hid (boxB_lt b m)
  have hv0 := hv
  obtain ⟨p, cap, rfl, hle, hmx, _, _⟩ := hv
  unfold maxLen at hmx
  rw [zs_length] at *
  clear hbm h256
  go_enter Tryz.func316, Tryz.ntmps316
  go_wp2
  go_loop [5, 10] (fun o i' => ∃ i : Nat, i ≤ b.length ∧ i' = .int .i64 i ∧ o = .int .i64 (boxB b m i)) (fun _ i => b.length - (intOf i).toNat)
  case atStart => exact ⟨0, by omega, rfl, rfl⟩
  case round =>
    obtain ⟨i, hi, rfl, rfl⟩ := hrel
    by_cases hlt : i < b.length
    · obtain ⟨b1, o1, rfl, h1⟩ := hv0.zs_cell i hlt
      have hlt' : (i : Int) < b.length := by omega
      have hs : boxB b m (i + 1) = if inB (b.getD i 0) m then boxB b m i ||| 2 ^ i else boxB b m i := rfl
      have hb1 := HL.out i
      have hb2 : 2 ^ i < 2 ^ 8 := Nat.pow_lt_pow_right (by omega) (by omega)
      have hor := orN (boxB b m i) (2 ^ i) (by omega) (by omega)
      have e1 := (pow63 i (by omega)).1
      have e2 : ((2 ^ i : Nat) : Int) = 2 ^ i := by push_cast; rfl
      rw [e2] at hor
      have HH := hid (HW.out i)
      have HS := hid hs; clear hs
      have HO := hid hor; clear hor
      clear hb1 hb2 e2
      cases hin : inB (b.getD i 0) m
      · rw [hin] at HH HS
        clear hin
        generalize b.getD i 0 = x at *
        go_wp2_with fail
        refine HH.out.mono ?_; rintro e w' ⟨rfl, rfl⟩
        go_wp2_with fail
        go_round
        case rel => exact ⟨i + 1, by omega, by go_num, by have h := HS.out; simp only [Bool.false_eq_true, if_false] at h; rw [h]⟩
        case measure => simp [intOf]; omega
      · rw [hin] at HH HS
        clear hin
        generalize b.getD i 0 = x at *
        go_wp2_with fail
        refine HH.out.mono ?_; rintro e w' ⟨rfl, rfl⟩
        go_wp2_with fail
        go_round
        case rel => exact ⟨i + 1, by omega, by go_num, by have h := HS.out; simp only [if_true] at h; rw [h, ← HO.out]⟩
        case measure => simp [intOf]; omega
    · obtain rfl : i = b.length := by omega
      have hlt' : ¬ (b.length : Int) < b.length := by omega
      go_wp2
      go_ret
      exact ⟨rfl, rfl⟩
--
set_option maxRecDepth 20000 in
set_option maxHeartbeats 1000000 in
theorem l01Box_any (b : List Nat) (m : Nat) (v : Value) (w : World) (hv : Ints w v (zs b)) (hb : b.length ≤ 8) (hbm : Bnd b.length b) (hm : m < 256) :
    Calls Tryz.prog 295 #[v, .int .i64 m] w fun e w' => e = .returned (.int .i64 (boxB b m b.length)) ∧ Keeps w w' := by
  have h256 := two8 hb
  have HL := hid (boxB_lt b m)
  have HN : Hid (∀ i, b.getD i 0 < 256) := hid (fun i => Nat.lt_of_lt_of_le (hbm i) h256)
  have HONE := hid (fun (x : Nat) wz (h : x ≤ 62) => l01One_any (x : Int) wz (by omega) (by omega))
  simp only [Int.toNat_natCast] at HONE
  have hv0 := hv
  obtain ⟨p, cap, rfl, hle, hmx, _, _⟩ := hv
  unfold maxLen at hmx
  rw [zs_length] at *
  clear hbm h256
  go_enter Tryz.func295, Tryz.ntmps295
  go_wp2
  go_loopw [5, 6] (fun o i' wr => ∃ i : Nat, i ≤ b.length ∧ i' = .int .i64 i ∧ o = .int .i64 (boxB b m i) ∧ Keeps w wr) (fun _ i _ => b.length - (intOf i).toNat)
  case atStart => exact ⟨0, by omega, rfl, rfl, Keeps.refl w⟩
  case round =>
    obtain ⟨i, hi, rfl, rfl, kw⟩ := hrel
    by_cases hlt : i < b.length
    · obtain ⟨b1, o1, rfl, h1⟩ := (hv0.keeps kw).zs_cell i hlt
      have hlt' : (i : Int) < b.length := by omega
      have hs : boxB b m (i + 1) = if inB (b.getD i 0) m then boxB b m i ||| 2 ^ i else boxB b m i := rfl
      have hx := HN.out i
      have hb1 := HL.out i
      have hb2 : 2 ^ i < 2 ^ 8 := Nat.pow_lt_pow_right (by omega) (by omega)
      have hor := orN (boxB b m i) (2 ^ i) (by omega) (by omega)
      have e2 : ((2 ^ i : Nat) : Int) = 2 ^ i := by push_cast; rfl
      rw [e2] at hor
      have hand := andN (b.getD i 0) m (by omega) (by omega)
      have hin := inB_and (b.getD i 0) m
      have HX := hid (fun wz => HONE.out i wz (by omega))
      have HS := hid hs; clear hs
      have HO := hid hor; clear hor
      clear hb1 hb2 e2
      cases hi2 : inB (b.getD i 0) m
      · rw [hi2] at HS hin
        have hne : (bits .and .i64 ((b.getD i 0 : Nat) : Int) (m : Int) == ((b.getD i 0 : Nat) : Int)) = false := by rw [hand]; simp at hin ⊢; omega
        clear hi2 hin hand
        generalize b.getD i 0 = x at *
        go_wp2_with fail
        go_quiet (fail)
        go_wp2_with fail
        go_roundw
        case rel => exact ⟨i + 1, by omega, by go_num, by have h := HS.out; simp only [Bool.false_eq_true, if_false] at h; rw [h], kw.drewN _⟩
        case measure => simp [intOf]; omega
      · rw [hi2] at HS hin
        have hne : (bits .and .i64 ((b.getD i 0 : Nat) : Int) (m : Int) == ((b.getD i 0 : Nat) : Int)) = true := by rw [hand]; simp at hin ⊢; omega
        clear hi2 hin hand
        generalize b.getD i 0 = x at *
        generalize (2 : Int) ^ i = P at *
        go_wp2_with fail
        go_quiet (fail)
        go_wp2_with fail
        refine (HX.out _).mono ?_; rintro e w' ⟨rfl, rfl⟩
        go_wp2_with fail
        go_roundw
        case rel => exact ⟨i + 1, by omega, by go_num, by have h := HS.out; simp only [if_true] at h; rw [h, ← HO.out], kw.drewN _⟩
        case measure => simp [intOf]; omega
    · obtain rfl : i = b.length := by omega
      have hlt' : ¬ (b.length : Int) < b.length := by omega
      go_wp2
      go_ret
      exact ⟨rfl, kw⟩
end Go.Proofs.YtponaoefpicfpaaGreatDoor
/- The quotient of a preorder: both sides. -/
namespace Go.Proofs.YtponaoefpicfpaaGreatDoor
open Go.RowKit
/-- the greatest of numbers -/
def maxTo (c : List Nat) : Nat → Nat
  | 0 => 0
  | i + 1 => max (maxTo c i) (c.getD i 0)
theorem maxTo_le {c : List Nat} {n : Nat} : ∀ k, (∀ i, i < k → c.getD i 0 < n) → 0 < n → maxTo c k < n
  | 0, _, h => h
  | k + 1, h, h0 => by
    have h1 := maxTo_le k (fun i hi => h i (by omega)) h0
    have h2 := h k (by omega)
    unfold maxTo
    omega
theorem le_maxTo {c : List Nat} : ∀ {k i : Nat}, i < k → c.getD i 0 ≤ maxTo c k
  | 0, i, h => by omega
  | k + 1, i, h => by
    unfold maxTo
    by_cases e : i = k
    · subst e; omega
    · have := le_maxTo (c := c) (show i < k by omega); omega
theorem clB_count {b : List Nat} (h : 0 < b.length) : maxTo (clB b) b.length + 1 = (clS b b.length).2 := by
  obtain ⟨i, hi, he⟩ := clB_max h
  have h1 := maxTo_le (c := clB b) b.length (fun i hi => clB_lt b i hi) (by omega)
  have h2 := le_maxTo (c := clB b) hi
  omega
--
set_option maxRecDepth 20000 in
theorem maxI_any (c : List Nat) (v : Value) (w : World) (hv : Ints w v (zs c)) (hc : 0 < c.length) (hcl : ∀ i, c.getD i 0 < 256) (h8 : c.length ≤ 8) :
    Calls Tryz.prog 234 #[v] w fun e w' => e = .returned (.int .i64 (maxTo c c.length)) ∧ w = w' := by
  have hv0 := hv
  obtain ⟨p, cap, rfl, hle, hmx, _, _⟩ := hv
  unfold maxLen at hmx
  rw [zs_length] at *
  have HM := hid (fun k => maxTo_le (c := c) (n := 256) k (fun i _ => hcl i) (by omega))
  have HCL := hid hcl
  have h1' : ¬ ((c.length : Int) < 1) := by omega
  obtain ⟨b0, o0, rfl, hz⟩ := hv0.zs_cell 0 hc
  have hm1 : maxTo c 1 = c.getD 0 0 := by simp [maxTo]
  rw [Nat.add_zero, ← hm1] at hz
  clear hcl
  have HM1 := hid hm1; clear hm1
  go_enter Tryz.func234, Tryz.ntmps234
  go_wp2
  go_loop [3, 4] (fun o i' => ∃ i : Nat, 1 ≤ i ∧ i ≤ c.length ∧ i' = .int .i64 i ∧ o = .int .i64 (maxTo c i)) (fun _ i => c.length - (intOf i).toNat)
  case atStart => exact ⟨1, by omega, by omega, rfl, rfl⟩
  case round =>
    obtain ⟨i, h1, hi, rfl, rfl⟩ := hrel
    by_cases hlt : i < c.length
    · obtain ⟨b1, o1, e1, h2⟩ := hv0.zs_cell i hlt
      cases e1
      have hlt' : (i : Int) < c.length := by omega
      have hs : ((maxTo c (i + 1) : Nat) : Int) = max ((maxTo c i : Nat) : Int) ((c.getD i 0 : Nat) : Int) := by
        show ((max (maxTo c i) (c.getD i 0) : Nat) : Int) = _
        omega
      have HS := hid hs; clear hs
      clear hz
      generalize c.getD i 0 = x at *
      generalize maxTo c i = z at *
      go_wp2
      go_round
      case rel => exact ⟨i + 1, by omega, by omega, by go_num, by rw [HS.out]; first | rfl | (congr 1; omega)⟩
      case measure => simp [intOf]; omega
    · obtain rfl : i = c.length := by omega
      have hlt' : ¬ (c.length : Int) < c.length := by omega
      clear hz
      go_wp2
      go_ret
      exact ⟨rfl, rfl⟩
--
set_option maxRecDepth 20000 in
theorem classCount_any (b : List Nat) (v : Value) (w : World) (hv : Ints w v (zs (clB b))) (hb : b.length ≤ 8) :
    Calls Tryz.prog 176 #[v] w fun e w' => e = .returned (.int .i64 ((clS b b.length).2 : Nat)) ∧ w = w' := by
  have hl := clB_len b
  have hle := clS_le b b.length
  rcases Nat.eq_zero_or_pos b.length with hz | hpos
  · have hc : (clS b b.length).2 = 0 := by omega
    obtain ⟨p, cap, rfl, _⟩ := hv
    rw [zs_length, hl, hz, ← hz, hc]
    rw [hz]
    clear hc hle hl
    go_enter Tryz.func176, Tryz.ntmps176
    go_wp2
    go_ret
    exact ⟨rfl, rfl⟩
  · have hc := clB_count hpos
    have hall : ∀ i, (clB b).getD i 0 < 256 := fun i => by
      by_cases hi : i < b.length
      · have := clB_lt b i hi; omega
      · rw [List.getD_eq_getElem?_getD, List.getElem?_eq_none (by rw [hl]; omega)]; simp
    have HM := hid (maxI_any (clB b) v w hv (by omega) hall (by omega))
    rw [hl] at HM
    have hb2 := maxTo_le (c := clB b) (n := 256) b.length (fun i _ => hall i) (by omega)
    obtain ⟨p, cap, rfl, _⟩ := hv
    rw [zs_length, hl] at *
    have hne : ((b.length : Int) == 0) = false := by rw [beq_eq_false_iff_ne]; omega
    have HC := hid hc
    clear hc hall hle hl
    generalize maxTo (clB b) b.length = M at *
    go_enter Tryz.func176, Tryz.ntmps176
    go_wp2_with fail
    refine HM.out.mono ?_; rintro e w' ⟨rfl, rfl⟩
    go_wp2_with fail
    go_ret
    exact ⟨ret_int (by rw [← HC.out]; push_cast; rfl), rfl⟩
theorem mapM_lt (b : List Nat) (_hb : b.length ≤ 8) {m : Nat} (hm : m < 2 ^ b.length) : mapM (clB b) m < 2 ^ b.length := by
  unfold mapM
  refine foldM_lt _ (fun x hx => ?_)
  have h1 := clB_lt b x (memB_lt hm hx)
  have h2 := clS_le b b.length
  omega
theorem clB_lt8 {b : List Nat} (hb : b.length ≤ 8) : ∀ i, i < (clB b).length → (clB b).getD i 0 < 8 := fun i hi => by
  have h1 := clB_lt b i (by rw [clB_len] at hi; exact hi)
  have h2 := clS_le b b.length
  omega
theorem qRow_bnd {b : List Nat} (hb : b.length ≤ 8) (hbm : Bnd b.length b) (k : Nat) (i : Nat) : (qRow b k).getD i 0 < 2 ^ b.length := by
  have hq : ∀ k i, (qL b k).getD i 0 < 2 ^ b.length := by
    intro k
    induction k with
    | zero => intro i; simp [qL]; exact Nat.two_pow_pos _
    | succ k ih =>
      intro i
      cases e : fstE b k k with
      | some y => rw [qL_some e]; exact ih i
      | none =>
        rw [qL_none e, getD_snoc]
        split
        · exact ih i
        · split
          · exact mapM_lt b hb (hbm k)
          · exact Nat.two_pow_pos _
  unfold qRow
  by_cases h : i < (qL b k).length
  · rw [getD_appL h]; exact hq k i
  · rw [List.getD_eq_getElem?_getD, List.getElem?_append_right (by omega)]
    rcases Nat.lt_or_ge (i - (qL b k).length) ((clS b b.length).2 - (clS b k).2) with h2 | h2
    · simp [h2]; exact Nat.two_pow_pos _
    · rw [List.getElem?_eq_none (by simp; omega)]; exact Nat.two_pow_pos _
--
set_option maxRecDepth 20000 in
set_option maxHeartbeats 4000000 in
theorem quotient_any (b : List Nat) (v u : Value) (w : World) (hv : Ints w v (zs b)) (hu : Ints w u (zs (clB b))) (hb : b.length ≤ 8) (hbm : Bnd b.length b) (ht : transB b = true) :
    Calls Tryz.prog 88 #[v, u] w (RetI w (zs (qL b b.length))) := by
  have hv0 := hv
  have hu0 := hu
  have hl := clB_len b
  have h256 := two8 hb
  have HCC := hid (classCount_any b u w hu hb)
  have HMM := hid (fun k wz (k' : Keeps w wz) => mapMask_any (clB b) (b.getD k 0) u wz (hu.keeps k') (by rw [hl]; exact hb) (clB_lt8 hb) (by rw [hl]; exact hbm k))
  have HN : Hid (∀ i, b.getD i 0 < 2 ^ b.length) := hid hbm
  have HQB := hid (qRow_bnd hb hbm)
  have HST := hid (fun k (hk : k < b.length) => qRow_step hbm ht hk)
  have HML := hid (fun k => mapM_lt b hb (hbm k))
  have HCL := hid (fun i (hi : i < b.length) => clB_lt b i hi)
  have hle := clS_le b b.length
  have HQL := hid (fun k (hk : k ≤ b.length) => qRow_len hk)
  have HEND := hid (qRow_end b)
  have h0 := qRow_start b
  obtain ⟨wm, hmk, hown0, km⟩ := run_makeI w (clS b b.length).2 (by omega)
  have h00 : List.replicate (clS b b.length).2 (0 : Int) = zs (qRow b 0) := by rw [h0, zs_rep]
  rw [h00] at hown0
  clear h0 h00
  have HO := hid hown0; clear hown0
  have KM := hid km; clear km
  obtain ⟨p, cap, rfl, _, hmx, _, _⟩ := hv
  obtain ⟨q, cap2, rfl, _, hmx2, _, _⟩ := hu
  unfold maxLen at hmx hmx2
  rw [zs_length b] at *
  rw [show (zs (clB b)).length = b.length by rw [zs_length, hl]] at *
  generalize hC : (clS b b.length).2 = C at *
  have HCe := hid hC
  clear hbm ht hC hl
  go_enter Tryz.func88, Tryz.ntmps88
  go_wp2_with fail
  refine HCC.out.mono ?_; rintro e w' ⟨rfl, rfl⟩
  go_wp2
  clear hmk
  go_loopw [13] (fun i' wr => ∃ k : Nat, k ≤ b.length ∧ i' = .int .i64 k ∧ OwnI wr w.heap.size (.slice (some ⟨w.heap.size, 0, none⟩) C C) (zs (qRow b k)) ∧ Keeps w wr) (fun i' _ => b.length - (intOf i').toNat)
  case atStart => exact ⟨0, by omega, rfl, HO.out, KM.out⟩
  case round =>
    obtain ⟨k, hk, rfl, hown, kw⟩ := hrel
    clear HO KM
    by_cases hlt : k < b.length
    · have hlt' : (k : Int) < b.length := by omega
      have hlr := HQL.out k hk
      obtain ⟨b1, o1, rfl, h1⟩ := (hv0.keeps kw).zs_cell k hlt
      obtain ⟨b2, o2, rfl, h2⟩ := (hu0.keeps kw).zs_cell k (by rw [clB_len]; exact hlt)
      have hy := HCL.out k hlt
      obtain ⟨co, fo⟩ := hown.cell ((clB b).getD k 0) (by rw [zs_length, hlr]; exact hy)
      rw [zs_get, ← getD_get] at co
      have hb1 := HQB.out k ((clB b).getD k 0)
      have hb2 := HML.out k
      have hor := orN ((qRow b k).getD ((clB b).getD k 0) 0) (mapM (clB b) (b.getD k 0)) (by omega) (by omega)
      have hst := HST.out k hlt
      have HSS := hid (fun wz (k' : Keeps wr wz) => by
        have := OwnI.store (hown.keeps k') ((clB b).getD k 0) (by rw [zs_length, hlr]; exact hy) (((qRow b k).getD ((clB b).getD k 0) 0 ||| mapM (clB b) (b.getD k 0) : Nat) : Int)
        rw [← zs_set, hst, ← hor] at this
        exact this)
      have HMK := hid (fun wz (k' : Keeps wr wz) => HMM.out k wz (kw.trans k'))
      have HKW := hid (fun w2 (k' : Keeps wr w2) w3 (g : w2.grownBy w3 (some w.heap.size)) => (kw.trans k').grown g (fun i e => by cases e; exact Nat.le_refl _))
      have hy' : (((clB b).getD k 0 : Nat) : Int) < C := by omega
      have kr := Keeps.refl wr
      have kr1 := kr.drew
      have z2 := kr1.cell h2
      have zo := kr1.cell co
      have zf : wr.drew.frozen? ⟨w.heap.size, (clB b).getD k 0, none⟩ = false := fo
      clear hst hown hb1 hb2 hlr hor
      generalize mapM (clB b) (b.getD k 0) = M at *
      generalize b.getD k 0 = bk at *
      generalize (qRow b k).getD ((clB b).getD k 0) 0 = y0 at *
      generalize (clB b).getD k 0 = y at *
      go_wp2_with fail
      go_region_with (first | (go_at_call 177; refine (HMK.out _ ?_).mono ?_; (first | exact kr1 | exact kr); rintro e w2 ⟨rfl, k2⟩; have y2 := k2.cell z2; have yo := k2.cell zo; have yf := (k2.both.2 _ _ (World.block_lt_of_cell? _ _ zo)).trans zf))
      all_goals
        have HF := hid (HSS.out w2 (kr1.trans k2))
        go_wp2_with fail
        go_roundw
        case rel => exact ⟨k + 1, by omega, by go_num, HF.out.1, HKW.out _ (kr1.trans k2) _ HF.out.2⟩
        case measure => simp [intOf]; omega
    · obtain rfl : k = b.length := by omega
      have hlt' : ¬ (b.length : Int) < b.length := by omega
      rw [HEND.out] at hown
      go_wp2_with fail
      go_ret
      exact ⟨_, rfl, hown, kw⟩
end Go.Proofs.YtponaoefpicfpaaGreatDoor
/- Depths of an order: the reference's side. -/
namespace Go.Proofs.YtponaoefpicfpaaGreatDoor
open Go.RowKit
theorem supD_more {f : Nat → Nat} {m x : Nat} (k : Nat) (h : m < 2 ^ k) : ∀ d, supD f m x (k + d) = supD f m x k
  | 0 => rfl
  | d + 1 => by
    rw [← Nat.add_assoc]
    have hb : m.testBit (k + d) = false := Nat.testBit_lt_two_pow (Nat.lt_of_lt_of_le h (Nat.pow_le_pow_right (by omega) (by omega)))
    show (if m.testBit (k + d) && !(k + d == x) then _ else supD f m x (k + d)) = _
    rw [hb, supD_more k h d]; rfl
theorem range_get {n i : Nat} (h : i < n) : (List.range n).getD i 0 = i := by simp [List.getD_eq_getElem?_getD, h]
/-- an order of at most eight elements -/
def Pos (b : List Nat) : Prop := b.length ≤ 8 ∧ Bnd b.length b ∧ reflB b = true ∧ transB b = true ∧ antiB b = true
theorem Pos.of {b : List Nat} (h8 : b.length ≤ 8) (hb : Bnd b.length b) (h : posB b = true) : Pos b := by
  unfold posB at h
  rw [Bool.and_eq_true, Bool.and_eq_true] at h
  exact ⟨h8, hb, h.1.1, h.1.2, h.2⟩
--
set_option maxRecDepth 20000 in
set_option maxHeartbeats 4000000 in
theorem l05Depth_any (b : List Nat) (hp : Pos b) : ∀ c x, x < b.length → cntB (b.getD x 0) ≤ c → ∀ (v u : Value) (w : World), Ints w v (zs b) → Ints w u (zs (List.range b.length)) →
    Calls Tryz.prog 270 #[.agg #[.int .i64 b.length, v], u, .int .i64 x] w fun e w' => e = .returned (.int .i64 (dptB b x)) ∧ Keeps w w' := by
  obtain ⟨hb, hbm, hr, ht, ha⟩ := hp
  intro c
  induction c with
  | zero =>
    intro x hx hc
    have : x ∈ memB (b.getD x 0) := List.mem_filter.2 ⟨List.mem_range.2 (by omega), refl_of hr hx⟩
    have h0 : 0 < (memB (b.getD x 0)).length := List.length_pos_of_mem this
    unfold cntB at hc
    omega
  | succ c ih =>
    intro x hx hc v u w hv hu
    have kA := (Keeps.refl w).alloc (.cells #[.int .i64 b.length, v] 109)
    obtain ⟨c0, c1⟩ := BoxF.made w b.length v 109
    have HRE := hid (fun wz (k : Keeps w wz) => l05Reach_any b b.length x v wz (hv.keeps k) hb hbm hr ht hx)
    have HONE := hid (fun wz => l01One_any (x : Int) wz (by omega) (by omega))
    simp only [Int.toNat_natCast] at HONE
    have h256 := two8 hb
    have hbx := hbm x
    have HBT := hid (fun k wz (hk : k < b.length) => l01BitB_any (b.getD x 0) k wz (by omega) (by omega))
    have HIH := hid (fun k wz (hk : (b.getD x 0).testBit k = true) (hne : k ≠ x) (kz : Keeps w wz) => ih k (bit_lt hbm hk) (by have := above_less hb hbm hr ht ha hx hk hne; omega) v u wz (hv.keeps kz) (hu.keeps kz))
    have HD8 := hid (fun k (hk : k < b.length) => dptB_8 hb hbm hr ht ha hk)
    have HEQ : Hid (dptB b x = supD (dptB b) (b.getD x 0) x b.length + 1) := hid (by
      have := supD_more (f := dptB b) (x := x) b.length hbx (8 - b.length)
      rw [show b.length + (8 - b.length) = 8 by omega] at this
      rw [dptB_eq hb hbm hr ht ha hx, this])
    have HSU := hid (fun k => show supD (dptB b) (b.getD x 0) x (k + 1) = if (b.getD x 0).testBit k && !(k == x) then max (supD (dptB b) (b.getD x 0) x k) (dptB b k) else supD (dptB b) (b.getD x 0) x k from rfl)
    have HLE := hid (fun k (hk : k ≤ b.length) => supD_le (f := dptB b) (m := b.getD x 0) (x := x) (v := 8) k (fun y hy _ _ => dptB_8 hb hbm hr ht ha (by omega)))
    clear ih hbm hr ht ha hc
    have hu0 := hu
    obtain ⟨p, cap, rfl, hle, hmx, _, _⟩ := hv
    obtain ⟨q, cap2, rfl, hle2, hmx2, _, _⟩ := hu
    unfold maxLen at hmx hmx2
    have HCL := hid (fun k (hk : k < (List.range b.length).length) wz (kz : Keeps w wz) => (hu0.keeps kz).zs_cell k hk)
    rw [zs_length b] at *
    rw [show (zs (List.range b.length)).length = b.length by rw [zs_length, List.length_range]] at *
    rw [List.length_range] at *
    clear hu0
    generalize hbxe : b.getD x 0 = bx at *
    have HBX := hid hbxe; clear hbxe
    generalize hP : (2 : Int) ^ x = P at *
    clear hP
    generalize hn : b.length = n at *
    have Hn := hid hn; clear hn
    have kd0 := (Keeps.refl (w.alloc (.cells #[.int .i64 n, .slice p n cap] 109))).drew
    have e0 := And.intro (kd0.cell c0) (kd0.cell c1)
    have kD := kA.drew
    go_enter Tryz.func270, Tryz.ntmps270
    go_wp2_with fail
    go_region_held3 (fun w' => w'.cell? ⟨w.heap.size, 0, none⟩ = some (.int .i64 n) ∧ w'.cell? ⟨w.heap.size, 1, none⟩ = some (.slice p n cap)) (first | exact e0 | exact e1) (first | (go_at_call 122; refine (HONE.out _).mono ?_; rintro e w' ⟨rfl, rfl⟩) | (go_at_call 294; refine (HRE.out _ kD).mono ?_; rintro e w2 ⟨rfl, k2⟩; have e1 := And.intro (k2.cell e0.1) (k2.cell e0.2)))
    have kk := kD.trans k2
    clear e0
    go_wp2_with fail
    go_loopw [7, 9] (fun o y' wr => ∃ k : Nat, k ≤ n ∧ y' = .int .i64 k ∧ o = .int .i64 (supD (dptB b) bx x k) ∧ Keeps w2 wr) (fun _ y' _ => n - (intOf y').toNat)
    case atStart => exact ⟨0, by omega, rfl, rfl, Keeps.refl _⟩
    case round =>
      obtain ⟨k, hk, rfl, rfl, kw⟩ := hrel
      have z0 := kw.cell e1.1
      have z1 := kw.cell e1.2
      have hsl := HLE.out k hk
      by_cases hlt : k < n
      · have hlt' : (k : Int) < n := by omega
        obtain ⟨b2, o2, rfl, h2⟩ := HCL.out k hlt wr (kk.trans kw)
        obtain ⟨_, _, eq2, h3⟩ := HCL.out x (by first | exact hx | (rw [Hn.out] at hx; exact hx)) wr (kk.trans kw)
        cases eq2
        rw [range_get hlt] at h2
        rw [range_get (by first | exact hx | (rw [Hn.out] at hx; exact hx))] at h3
        have hsu := HSU.out k
        have hx' : (x : Int) < n := by first | omega | (rw [Hn.out] at hx; omega)
        by_cases hkx : k = x
        · subst hkx
          have HS2 : Hid (supD (dptB b) bx k (k + 1) = supD (dptB b) bx k k) := hid (by rw [hsu, if_neg (by simp)])
          have hd : ((k : Int) != (k : Int)) = false := by simp
          clear hsu h3
          generalize supD (dptB b) bx k k = s at *
          go_wp2_with fail
          go_quiet (fail)
          go_wp2_with fail
          go_roundw
          case rel => exact ⟨k + 1, by omega, by go_num, by rw [HS2.out], kw.drewN _⟩
          case measure => simp [intOf]; omega
        · have hd : ((k : Int) != (x : Int)) = true := by simp; omega
          have HB := hid (fun wz => HBT.out k wz hlt)
          cases hbt : bx.testBit k
          · rw [hbt] at HB
            have HS2 : Hid (supD (dptB b) bx x (k + 1) = supD (dptB b) bx x k) := hid (by rw [hsu, hbt]; rfl)
            clear hsu hbt
            generalize supD (dptB b) bx x k = s at *
            go_wp2_with fail
            go_quiet (first | (go_at_call 105; refine quietS (HB.out _)))
            go_wp2_with fail
            go_roundw
            case rel => exact ⟨k + 1, by omega, by go_num, by rw [HS2.out], kw.drewN _⟩
            case measure => simp [intOf]; omega
          · rw [hbt] at HB
            have HS2 : Hid (supD (dptB b) bx x (k + 1) = max (supD (dptB b) bx x k) (dptB b k)) := hid (by rw [hsu, hbt, if_pos (by simpa using hkx)])
            have HI := hid (fun wz (kz : Keeps w wz) => HIH.out k wz hbt hkx kz)
            have hd8 := HD8.out k hlt
            clear hsu hbt
            generalize supD (dptB b) bx x k = s at *
            generalize dptB b k = dk at *
            go_wp2_with fail
            go_quiet (first | (go_at_call 105; refine quietS (HB.out _)))
            go_wp2_with fail
            refine (HI.out _ ((kk.trans kw).drewN _)).mono ?_; rintro e w4 ⟨rfl, k4⟩
            go_wp2_with fail
            go_roundw
            case rel => exact ⟨k + 1, by omega, by go_num, by rw [HS2.out]; first | rfl | (congr 1; split <;> omega), (kw.drewN _).trans k4⟩
            case measure => simp [intOf]; omega
      · obtain rfl : k = n := by omega
        have hlt' : ¬ (k : Int) < k := by omega
        have HE : Hid (dptB b x = supD (dptB b) bx x k + 1) := hid HEQ.out
        generalize supD (dptB b) bx x k = s at *
        go_wp2_with fail
        go_ret
        exact ⟨ret_int (by rw [HE.out]; push_cast; rfl), kk.trans kw⟩
end Go.Proofs.YtponaoefpicfpaaGreatDoor
