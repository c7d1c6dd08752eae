/- Images of masks under numbers, boxes, the number of classes: both sides. -/
import Derived.Test.YtolepbiepebclaaPC
import Derived.Test.YtolepbiepebclaaQF
import Derived.Test.YtolepbiepebclaaLM
import Derived.Deep.RegionHeld3
namespace Go.Proofs.Ytolepbiepebclaa
open Go.RowKit
theorem wrap_half : ∀ q : Fin 257, wrap64 (((q : Nat) : Int) / 2) = (((q : Nat) / 2 : Nat) : Int) := by decide +kernel
theorem memB_end {m i : Nat} (hm : m < 256) (hi : i ≤ 8) (h : m / 2 ^ i = 0) : lowB m i = memB m := lowB_end m i hm hi h
--
set_option maxRecDepth 20000 in
set_option maxHeartbeats 1000000 in
theorem l01ListB_any (m : Nat) (w : World) (hm : m < 256) : Calls Try.prog 65 #[.int .i64 m] w (RetI w (zs (memB m))) := by
  have h0 := OwnI.empty w
  have k0 := (Keeps.refl w).alloc (.cells #[] 2)
  go_enter Try.func65, Try.ntmps65
  go_wp2
  go_loopw [0, 3, 4] (fun x o i' wr => ∃ i : Nat, i ≤ 8 ∧ x = .int .i64 ((m / 2 ^ i : Nat) : Int) ∧ i' = .int .i64 i ∧ OwnI wr w.heap.size o (zs (lowB m i)) ∧ Keeps w wr) (fun x _ _ _ => (intOf x).toNat)
  case atStart => exact ⟨0, by omega, by simp, rfl, by simpa [lowB, zs] using h0, k0⟩
  case round =>
    obtain ⟨i, hi, rfl, rfl, hown, kw⟩ := hrel
    clear h0 k0
    have hle := fun h => memB_end hm hi h
    have hbt : m.testBit i = decide (m / 2 ^ i % 2 = 1) := Nat.testBit_eq_decide_div_mod_eq
    have hq2 : m / 2 ^ (i + 1) = m / 2 ^ i / 2 := by rw [Nat.pow_succ, Nat.div_div_eq_div_mul]
    have hqm : m / 2 ^ i ≤ m := Nat.div_le_self _ _
    have h8 : 0 < m / 2 ^ i → i < 8 := fun h => by
      rcases Nat.lt_or_ge i 8 with h' | h'
      · exact h'
      · obtain rfl : i = 8 := by omega
        omega
    generalize m / 2 ^ i = q at *
    have HQ2 := hid hq2; clear hq2
    by_cases hp : 0 < q
    · have hi8 := h8 hp
      have hls := lowB_succ m i
      have hll := lowB_len m i
      have hzl := zs_length (lowB m i)
      have hwq := wrap_half ⟨q, by omega⟩
      simp only at hwq
      have HLS := hid hls; clear hls
      clear hle h8
      by_cases hb : q % 2 = 1
      · have hb1 : ((q : Int) % 2 == 1) = true := by simp; omega
        have hb2 : m.testBit i = true := by rw [hbt]; simp [hb]
        have HL2 : Hid (lowB m (i + 1) = lowB m i ++ [i]) := hid (by rw [HLS.out, if_pos hb2])
        clear hbt hb hb2 HLS
        go_wp2_with (at_builtin; refine appI rfl _ _ rfl w.heap.size _ (zs (lowB m i)) rfl (hown.keeps ((Keeps.refl wr).alloc _)) _ [(i : Int)] rfl (Ints.lit1 wr i) (by have := kw.size; simp; omega) (by simp; omega) ?_; intro v1 w1 hv1 hg1 hr1; have k2 := (kw.alloc (.cells #[.int .i64 i] 2)).grown hg1 (by simpa using hr1))
        go_roundw
        case rel => exact ⟨i + 1, by omega, by rw [HQ2.out, Int.natCast_ediv]; rfl, by go_num, by rw [HL2.out, zs_snoc]; exact hv1, k2⟩
        case measure => first | (simp [intOf]; omega) | (simp [intOf, hwq]; omega)
      · have hb1 : ((q : Int) % 2 == 1) = false := by simp; omega
        have hb2 : ¬ m.testBit i = true := by rw [hbt]; simp; omega
        have HL2 : Hid (lowB m (i + 1) = lowB m i) := hid (by rw [HLS.out, if_neg hb2])
        clear hbt hb hb2 HLS
        have HO := hid hown; clear hown
        go_wp2
        go_roundw
        case rel => exact ⟨i + 1, by omega, by rw [HQ2.out, Int.natCast_ediv]; rfl, by go_num, by rw [HL2.out]; exact HO.out, kw⟩
        case measure => first | (simp [intOf]; omega) | (simp [intOf, hwq]; omega)
    · obtain rfl : q = 0 := by omega
      rw [hle rfl] at hown
      clear hle h8 hbt
      go_wp2
      go_ret
      exact ⟨_, rfl, hown, kw⟩
--
set_option maxRecDepth 20000 in
set_option maxHeartbeats 1000000 in
theorem mapMask_any (c : List Nat) (m : Nat) (v : Value) (w : World) (hv : Ints w v (zs c)) (hc : c.length ≤ 8) (hcl : ∀ i, i < c.length → c.getD i 0 < 8) (hm : m < 2 ^ c.length) :
    Calls Try.prog 44 #[v, .int .i64 m] w fun e w' => e = .returned (.int .i64 (mapM c m)) ∧ Keeps w w' := by
  have h256 := two8 hc
  have HM := hid (membersB_any m w (by omega))
  have hmem : ∀ x ∈ memB m, x < c.length := fun x hx => memB_lt hm hx
  have hml : (memB m).length ≤ 8 := lowB_len m 8
  have hmap : mapM c m = foldM c (memB m) := rfl
  have HLT := hid (fun l (h : ∀ x ∈ l, x < c.length) => foldM_lt (c := c) (n := 8) l (fun x hx => hcl x (h x hx)))
  have hv0 := hv
  obtain ⟨p, cap, rfl, hle, hmx, _, _⟩ := hv
  unfold maxLen at hmx
  rw [zs_length] at *
  have HMEM := hid hmem
  have HMAP := hid hmap
  have HCL := hid hcl
  clear hm hmem hmap h256 hcl
  generalize memB m = l at *
  go_enter Try.func44, Try.ntmps44
  go_wp2_with fail
  refine HM.out.mono ?_; rintro e w2 ⟨v2, rfl, hv2, k2⟩
  have hv2i := hv2.ints (by rw [zs_length]; omega)
  obtain ⟨p2, c2, rfl, _, hm2, _, _⟩ := hv2.ints (by rw [zs_length]; omega)
  unfold maxLen at hm2
  rw [zs_length] at *
  have hv1 := hv0.keeps k2
  clear hv0 hv2
  go_wp2
  go_loop [5, 11] (fun o i' => ∃ i : Nat, i ≤ l.length ∧ i' = .int .i64 i ∧ o = .int .i64 (foldM c (l.take i))) (fun _ i => l.length - (intOf i).toNat)
  case atStart => exact ⟨0, by omega, rfl, rfl⟩
  case round =>
    obtain ⟨i, hi, rfl, rfl⟩ := hrel
    by_cases hlt : i < l.length
    · obtain ⟨b1, o1, rfl, h1⟩ := hv2i.zs_cell i hlt
      rw [getD_get hlt] at h1
      have hx := HMEM.out l[i] (List.getElem_mem hlt)
      obtain ⟨b2, o2, rfl, h2⟩ := hv1.zs_cell l[i] hx
      have hy8 := HCL.out l[i] hx
      have hst : foldM c (l.take (i + 1)) = foldM c (l.take i) ||| 2 ^ c.getD l[i] 0 := by
        rw [List.take_succ_eq_append_getElem hlt, foldM_snoc]
      have hb1 := HLT.out (l.take i) (fun x hx => HMEM.out x (List.mem_of_mem_take hx))
      have hb2 : 2 ^ c.getD l[i] 0 < 2 ^ 8 := Nat.pow_lt_pow_right (by omega) hy8
      have hor := orN (foldM c (l.take i)) (2 ^ c.getD l[i] 0) (by omega) (by omega)
      rw [← hst] at hor
      have e1 := (pow63 (c.getD l[i] 0) (by omega)).1
      have e2 : ((2 ^ c.getD l[i] 0 : Nat) : Int) = 2 ^ c.getD l[i] 0 := by push_cast; rfl
      rw [e2] at hor
      have hlt' : (i : Int) < l.length := by omega
      have hx' : ((l[i] : Nat) : Int) < c.length := by omega
      have HO := hid hor; clear hor
      clear hst hb1 hb2 e2
      generalize hyy : c.getD l[i] 0 = y at *
      clear hyy
      generalize l[i] = x at *
      generalize foldM c (l.take i) = z at *
      go_wp2
      go_round
      case rel => exact ⟨i + 1, by omega, by go_num, by rw [HO.out]⟩
      case measure => simp [intOf]; omega
    · have hlt' : ¬ (i : Int) < l.length := by omega
      rw [List.take_of_length_le (by omega)]
      rw [← HMAP.out]
      go_wp2
      go_ret
      exact ⟨rfl, k2⟩
--
set_option maxRecDepth 20000 in
set_option maxHeartbeats 1000000 in
theorem l21Images_any (c : List Nat) (m : Nat) (v : Value) (w : World) (hv : Ints w v (zs c)) (hc : c.length ≤ 8) (hcl : ∀ i, i < c.length → c.getD i 0 < 8) (hm : m < 2 ^ c.length) :
    Calls Try.prog 38 #[.int .i64 m, v] w fun e w' => e = .returned (.int .i64 (mapM c m)) ∧ Keeps w w' := by
  have h256 := two8 hc
  have HM := hid (l01ListB_any m w (by omega))
  have hmem : ∀ x ∈ memB m, x < c.length := fun x hx => memB_lt hm hx
  have hml : (memB m).length ≤ 8 := lowB_len m 8
  have hmap : mapM c m = foldM c (memB m) := rfl
  have HLT := hid (fun l (h : ∀ x ∈ l, x < c.length) => foldM_lt (c := c) (n := 8) l (fun x hx => hcl x (h x hx)))
  have HONE := hid (fun (x : Nat) wz (h : x ≤ 62) => l01One_any (x : Int) wz (by omega) (by omega))
  simp only [Int.toNat_natCast] at HONE
  have hv0 := hv
  obtain ⟨p, cap, rfl, hle, hmx, _, _⟩ := hv
  unfold maxLen at hmx
  rw [zs_length] at *
  have HMEM := hid hmem
  have HMAP := hid hmap
  have HCL := hid hcl
  clear hm hmem hmap h256 hcl
  generalize memB m = l at *
  go_enter Try.func38, Try.ntmps38
  go_wp2_with fail
  refine HM.out.mono ?_; rintro e w2 ⟨v2, rfl, hv2, k2⟩
  have hv2i := hv2.ints (by rw [zs_length]; omega)
  obtain ⟨p2, c2, rfl, _, hm2, _, _⟩ := hv2.ints (by rw [zs_length]; omega)
  unfold maxLen at hm2
  rw [zs_length] at *
  have hv1 := hv0.keeps k2
  clear hv0 hv2
  go_wp2
  go_loop [6, 7] (fun o i' => ∃ i : Nat, i ≤ l.length ∧ i' = .int .i64 i ∧ o = .int .i64 (foldM c (l.take i))) (fun _ i => l.length - (intOf i).toNat)
  case atStart => exact ⟨0, by omega, rfl, rfl⟩
  case round =>
    obtain ⟨i, hi, rfl, rfl⟩ := hrel
    by_cases hlt : i < l.length
    · obtain ⟨b1, o1, rfl, h1⟩ := hv2i.zs_cell i hlt
      rw [getD_get hlt] at h1
      have hx := HMEM.out l[i] (List.getElem_mem hlt)
      obtain ⟨b2, o2, rfl, h2⟩ := hv1.zs_cell l[i] hx
      have hy8 := HCL.out l[i] hx
      have hst : foldM c (l.take (i + 1)) = foldM c (l.take i) ||| 2 ^ c.getD l[i] 0 := by
        rw [List.take_succ_eq_append_getElem hlt, foldM_snoc]
      have hb1 := HLT.out (l.take i) (fun x hx => HMEM.out x (List.mem_of_mem_take hx))
      have hb2 : 2 ^ c.getD l[i] 0 < 2 ^ 8 := Nat.pow_lt_pow_right (by omega) hy8
      have hor := orN (foldM c (l.take i)) (2 ^ c.getD l[i] 0) (by omega) (by omega)
      rw [← hst] at hor
      have e2 : ((2 ^ c.getD l[i] 0 : Nat) : Int) = 2 ^ c.getD l[i] 0 := by push_cast; rfl
      rw [e2] at hor
      have HX := hid (HONE.out (c.getD l[i] 0) w2 (by omega))
      have hlt' : (i : Int) < l.length := by omega
      have hx' : ((l[i] : Nat) : Int) < c.length := by omega
      have HO := hid hor; clear hor
      clear hst hb1 hb2 e2
      generalize hyy : c.getD l[i] 0 = y at *
      clear hyy
      generalize l[i] = x at *
      generalize foldM c (l.take i) = z at *
      generalize (2 : Int) ^ y = P at *
      have hy0 : (y : Int) ≥ 0 := by omega
      go_wp2_with fail
      refine HX.out.mono ?_; rintro e w' ⟨rfl, rfl⟩
      go_wp2_with fail
      go_round
      case rel => exact ⟨i + 1, by omega, by go_num, by rw [HO.out]⟩
      case measure => simp [intOf]; omega
    · have hlt' : ¬ (i : Int) < l.length := by omega
      rw [List.take_of_length_le (by omega)]
      rw [← HMAP.out]
      go_wp2
      go_ret
      exact ⟨rfl, k2⟩
--
set_option maxRecDepth 20000 in
set_option maxHeartbeats 1000000 in
theorem box_any (b : List Nat) (m : Nat) (v : Value) (w : World) (hv : Ints w v (zs b)) (hb : b.length ≤ 8) (hbm : Bnd b.length b) (hm : m < 256) :
    Calls Try.prog 45 #[v, .int .i64 m] w fun e w' => e = .returned (.int .i64 (boxB b m b.length)) ∧ w = w' := by
  have h256 := two8 hb
  have HW := hid (fun i => withinB_any (b.getD i 0) m w (Nat.lt_of_lt_of_le (hbm i) h256) hm)
  have HL := hid (boxB_lt b m)
  have hv0 := hv
  obtain ⟨p, cap, rfl, hle, hmx, _, _⟩ := hv
  unfold maxLen at hmx
  rw [zs_length] at *
  clear hbm h256
  go_enter Try.func45, Try.ntmps45
  go_wp2
  go_loop [5, 10] (fun o i' => ∃ i : Nat, i ≤ b.length ∧ i' = .int .i64 i ∧ o = .int .i64 (boxB b m i)) (fun _ i => b.length - (intOf i).toNat)
  case atStart => exact ⟨0, by omega, rfl, rfl⟩
  case round =>
    obtain ⟨i, hi, rfl, rfl⟩ := hrel
    by_cases hlt : i < b.length
    · obtain ⟨b1, o1, rfl, h1⟩ := hv0.zs_cell i hlt
      have hlt' : (i : Int) < b.length := by omega
      have hs : boxB b m (i + 1) = if inB (b.getD i 0) m then boxB b m i ||| 2 ^ i else boxB b m i := rfl
      have hb1 := HL.out i
      have hb2 : 2 ^ i < 2 ^ 8 := Nat.pow_lt_pow_right (by omega) (by omega)
      have hor := orN (boxB b m i) (2 ^ i) (by omega) (by omega)
      have e1 := (pow63 i (by omega)).1
      have e2 : ((2 ^ i : Nat) : Int) = 2 ^ i := by push_cast; rfl
      rw [e2] at hor
      have HH := hid (HW.out i)
      have HS := hid hs; clear hs
      have HO := hid hor; clear hor
      clear hb1 hb2 e2
      cases hin : inB (b.getD i 0) m
      · rw [hin] at HH HS
        clear hin
        generalize b.getD i 0 = x at *
        go_wp2_with fail
        refine HH.out.mono ?_; rintro e w' ⟨rfl, rfl⟩
        go_wp2_with fail
        go_round
        case rel => exact ⟨i + 1, by omega, by go_num, by have h := HS.out; simp only [Bool.false_eq_true, if_false] at h; rw [h]⟩
        case measure => simp [intOf]; omega
      · rw [hin] at HH HS
        clear hin
        generalize b.getD i 0 = x at *
        go_wp2_with fail
        refine HH.out.mono ?_; rintro e w' ⟨rfl, rfl⟩
        go_wp2_with fail
        go_round
        case rel => exact ⟨i + 1, by omega, by go_num, by have h := HS.out; simp only [if_true] at h; rw [h, ← HO.out]⟩
        case measure => simp [intOf]; omega
    · obtain rfl : i = b.length := by omega
      have hlt' : ¬ (b.length : Int) < b.length := by omega
      go_wp2
      go_ret
      exact ⟨rfl, rfl⟩
--
set_option maxRecDepth 20000 in
set_option maxHeartbeats 1000000 in
theorem l01Box_any (b : List Nat) (m : Nat) (v : Value) (w : World) (hv : Ints w v (zs b)) (hb : b.length ≤ 8) (hbm : Bnd b.length b) (hm : m < 256) :
    Calls Try.prog 39 #[v, .int .i64 m] w fun e w' => e = .returned (.int .i64 (boxB b m b.length)) ∧ Keeps w w' := by
  have h256 := two8 hb
  have HL := hid (boxB_lt b m)
  have HN : Hid (∀ i, b.getD i 0 < 256) := hid (fun i => Nat.lt_of_lt_of_le (hbm i) h256)
  have HONE := hid (fun (x : Nat) wz (h : x ≤ 62) => l01One_any (x : Int) wz (by omega) (by omega))
  simp only [Int.toNat_natCast] at HONE
  have hv0 := hv
  obtain ⟨p, cap, rfl, hle, hmx, _, _⟩ := hv
  unfold maxLen at hmx
  rw [zs_length] at *
  clear hbm h256
  go_enter Try.func39, Try.ntmps39
  go_wp2
  go_loopw [5, 6] (fun o i' wr => ∃ i : Nat, i ≤ b.length ∧ i' = .int .i64 i ∧ o = .int .i64 (boxB b m i) ∧ Keeps w wr) (fun _ i _ => b.length - (intOf i).toNat)
  case atStart => exact ⟨0, by omega, rfl, rfl, Keeps.refl w⟩
  case round =>
    obtain ⟨i, hi, rfl, rfl, kw⟩ := hrel
    by_cases hlt : i < b.length
    · obtain ⟨b1, o1, rfl, h1⟩ := (hv0.keeps kw).zs_cell i hlt
      have hlt' : (i : Int) < b.length := by omega
      have hs : boxB b m (i + 1) = if inB (b.getD i 0) m then boxB b m i ||| 2 ^ i else boxB b m i := rfl
      have hx := HN.out i
      have hb1 := HL.out i
      have hb2 : 2 ^ i < 2 ^ 8 := Nat.pow_lt_pow_right (by omega) (by omega)
      have hor := orN (boxB b m i) (2 ^ i) (by omega) (by omega)
      have e2 : ((2 ^ i : Nat) : Int) = 2 ^ i := by push_cast; rfl
      rw [e2] at hor
      have hand := andN (b.getD i 0) m (by omega) (by omega)
      have hin := inB_and (b.getD i 0) m
      have HX := hid (fun wz => HONE.out i wz (by omega))
      have HS := hid hs; clear hs
      have HO := hid hor; clear hor
      clear hb1 hb2 e2
      cases hi2 : inB (b.getD i 0) m
      · rw [hi2] at HS hin
        have hne : (bits .and .i64 ((b.getD i 0 : Nat) : Int) (m : Int) == ((b.getD i 0 : Nat) : Int)) = false := by rw [hand]; simp at hin ⊢; omega
        clear hi2 hin hand
        generalize b.getD i 0 = x at *
        go_wp2_with fail
        go_quiet (fail)
        go_wp2_with fail
        go_roundw
        case rel => exact ⟨i + 1, by omega, by go_num, by have h := HS.out; simp only [Bool.false_eq_true, if_false] at h; rw [h], kw.drewN _⟩
        case measure => simp [intOf]; omega
      · rw [hi2] at HS hin
        have hne : (bits .and .i64 ((b.getD i 0 : Nat) : Int) (m : Int) == ((b.getD i 0 : Nat) : Int)) = true := by rw [hand]; simp at hin ⊢; omega
        clear hi2 hin hand
        generalize b.getD i 0 = x at *
        generalize (2 : Int) ^ i = P at *
        go_wp2_with fail
        go_quiet (fail)
        go_wp2_with fail
        refine (HX.out _).mono ?_; rintro e w' ⟨rfl, rfl⟩
        go_wp2_with fail
        go_roundw
        case rel => exact ⟨i + 1, by omega, by go_num, by have h := HS.out; simp only [if_true] at h; rw [h, ← HO.out], kw.drewN _⟩
        case measure => simp [intOf]; omega
    · obtain rfl : i = b.length := by omega
      have hlt' : ¬ (b.length : Int) < b.length := by omega
      go_wp2
      go_ret
      exact ⟨rfl, kw⟩
end Go.Proofs.Ytolepbiepebclaa
