/- The reference: all posets of a size. -/
import Derived.Test.YtponaoefpicfpaaGreatDoorGOL
import Derived.Test.YtponaoefpicfpaaGreatDoorGOO
import Derived.Deep.RegionHeld3
namespace Go.Proofs.YtponaoefpicfpaaGreatDoor
open Go.RowKit
theorem lisR_ext (n k : Nat) : lisR n (k + 1) = (lisR n k).flatMap fun l => extV (fun _ v => v.testBit k) l (2 ^ n) := by
  rw [lisR]
  congr 1
  funext o
  rw [extV_eq]
theorem lisR_bnd (n : Nat) : ∀ k, ∀ l ∈ lisR n k, l.length = k ∧ ∀ x ∈ l, x < 2 ^ n
  | 0, l, h => by simp [lisR] at h; subst h; simp
  | k + 1, l, h => by
    rw [lisR] at h
    obtain ⟨a, ha, h2⟩ := List.mem_flatMap.1 h
    obtain ⟨i, hi, rfl⟩ := List.mem_map.1 h2
    have h3 := List.mem_range.1 (List.mem_filter.1 hi).1
    obtain ⟨g1, g2⟩ := lisR_bnd n k a ha
    refine ⟨by rw [List.length_append, g1]; rfl, fun x hx => ?_⟩
    rcases List.mem_append.1 hx with h | h
    · exact g2 x h
    · simp at h; rw [h]; exact h3
theorem lisR_len (n : Nat) : ∀ k, (lisR n k).length ≤ (2 ^ n) ^ k
  | 0 => by simp [lisR]
  | k + 1 => by
    have h1 := lisR_len n k
    have h2 := midV_len (fun _ v => v.testBit k) (lisR n k) (2 ^ n) (lisR n k).length (Nat.le_refl _)
    rw [midV_end, ← lisR_ext] at h2
    rw [Nat.pow_succ]
    exact Nat.le_trans h2 (Nat.mul_le_mul_right _ h1)
theorem lisR_len4 {n k : Nat} (hn : n ≤ 4) (hk : k ≤ 4) : (lisR n k).length ≤ 65536 := by
  have h1 := lisR_len n k
  have h2 : 2 ^ n ≤ 16 := Nat.pow_le_pow_right (n := 2) (by omega) hn
  have h3 : (2 ^ n) ^ k ≤ 16 ^ k := Nat.pow_le_pow_left h2 k
  have h4 : 16 ^ k ≤ 16 ^ 4 := Nat.pow_le_pow_right (by omega) hk
  omega
--
set_option maxRecDepth 20000 in
set_option maxHeartbeats 4000000 in
theorem l16All_any (n : Nat) (h4 : n ≤ 4) (w : World) : Calls Tryz.prog 43 #[.int .i64 n] w (RetPs w (allR n)) := by
  have HRX := hid (lisR_ext n)
  have HTB : Hid (∀ k, k ≤ n → (lisR n k).length ≤ 65536) := hid fun k hk => lisR_len4 h4 (by omega)
  have HLEN := hid (fun k o (h : o ∈ lisR n k) => (lisR_bnd n k o h).1)
  have HR0 : Hid (lisR n 0 = [[]]) := hid rfl
  have h16 : 2 ^ n ≤ 2 ^ 4 := Nat.pow_le_pow_right (by omega) h4
  have hpos : 0 < 2 ^ n := Nat.two_pow_pos n
  have HFU := hid (fun wz => l01Full_any (n : Int) wz (by omega) (by omega))
  have hfe : (2 : Int) ^ (n : Int).toNat = ((2 ^ n : Nat) : Int) := by rw [Int.toNat_natCast]; push_cast; rfl
  rw [hfe] at HFU
  clear hfe
  have HALL : Hid (∀ x ∈ lisR n n, x.length = n ∧ Bnd n x) := hid fun x hx => ⟨(lisR_bnd n n x hx).1, mem_bnd (lisR_bnd n n x hx).2⟩
  have HAR : Hid (allR n = (lisR n n).filter fun p => posB p && leastP p == p) := hid rfl
  have HL4 := hid (lisR_len4 h4 h4)
  generalize 2 ^ n = N2 at *
  have HN16 : Hid (N2 ≤ 16) := hid h16
  have hN16 : N2 ≤ 16 := h16
  clear h16
  go_enter Tryz.func43, Tryz.ntmps43
  go_wp2_with fail
  go_loopw [3, 4] (fun s3 s4 wr => ∃ k : Nat, k ≤ n ∧ s4 = .int .i64 k ∧ OwnLI wr w.heap.size s3 (lisR n k) ∧ Keeps w wr) (fun _ s4 _ => n - (intOf s4).toNat)
  case atStart =>
    refine ⟨0, by omega, rfl, ?_, ((Keeps.refl w).alloc _).alloc _⟩
    rw [HR0.out]
    have h := OwnLI.one (x := []) (OwnI.empty w) (by simp)
    have hs : (w.alloc (.cells #[] 2)).heap.size = w.heap.size + 1 := by simp
    rw [hs] at h
    exact h
  case round =>
    obtain ⟨k, hk, rfl, hown, kw⟩ := hrel
    by_cases hlt : k < n
    · have hlt' : (k : Int) < n := by omega
      obtain ⟨p3, q3, rfl, _, hmx3⟩ := hown.shape
      have hRl := HTB.out k hk
      have HLL : Hid (∀ i (h : i < (lisR n k).length), (lisR n k)[i].length ≤ 100) := hid fun i h => by have := HLEN.out k _ (List.getElem_mem h); omega
      have HRXK := hid (HRX.out k)
      generalize lisR n k = L at *
      generalize hwo : wr = wo at *
      clear hwo
      have HOWN := hid hown; clear hown
      have HKW := hid kw
      have k0 := (Keeps.refl wo).alloc (.cells #[] 25)
      have HE0 := hid (OwnLI.empty wo)
      go_wp2_with fail
      go_loopw [5, 6] (fun s5 s6 wx => ∃ i : Nat, i ≤ L.length ∧ s6 = .int .i64 i ∧ OwnLI wx wo.heap.size s5 (midV (fun _ v => v.testBit k) L N2 i) ∧ Keeps wo wx) (fun _ s6 _ => L.length - (intOf s6).toNat)
      case atStart => exact ⟨0, by omega, rfl, by rw [midV_zero]; exact HE0.out, k0⟩
      case round =>
        obtain ⟨i, hi, rfl, hown, kx⟩ := hrel
        clear HE0 k0
        by_cases hil : i < L.length
        · have hil' : (i : Int) < L.length := by omega
          have hml := midV_len (fun _ v => v.testBit k) L N2 i hi
          have HMS := hid (midV_succ (fun _ v => v.testBit k) L N2 i hil)
          have hin : i * N2 ≤ 65536 * 16 := Nat.mul_le_mul (by omega) HN16.out
          have HMN := hid hown; clear hown
          generalize hmv : midV (fun _ v => v.testBit k) L N2 i = M at *
          have HMV := hid hmv; clear hmv
          generalize hwi : wr = wi at *
          clear hwi
          go_wp2_with fail
          go_loopw [5, 7] (fun s5 s7 wx => ∃ v : Nat, v ≤ N2 ∧ s7 = .int .i64 v ∧ OwnLI wx wo.heap.size s5 (M ++ extV (fun _ v => v.testBit k) L[i] v) ∧ Keeps wo wx) (fun _ s7 _ => N2 - (intOf s7).toNat)
          case atStart => exact ⟨0, by omega, rfl, by simpa [extV] using HMN.out, kx⟩
          case round =>
            obtain ⟨v, hv, rfl, hown, kx⟩ := hrel
            clear HMN
            have HF2 := hid (HFU.out wr)
            by_cases hvn : v < N2
            · have hvn' : (v : Int) ≤ (N2 : Int) - 1 := by omega
              have hli := HOWN.out.keeps kx
              obtain ⟨b1, o1, u, rfl, hcu, hou⟩ := hli.get i hil
              obtain ⟨pu, qu, e, -, -, -⟩ := At.of_own hou
              rw [zs_length] at e
              subst e
              have hel := extV_len (fun _ v => v.testBit k) L[i] v
              have HES : Hid (extV (fun _ v => v.testBit k) L[i] (v + 1) = extV (fun _ v => v.testBit k) L[i] v ++ (if v.testBit k then [L[i] ++ [v]] else [])) := hid rfl
              obtain ⟨p5, q5, e5, _, _⟩ := hown.shape
              rw [List.length_append] at e5
              subst e5
              have HHA := hid (l01BitB_any v k wr (by have := HN16.out; omega) (by omega))
              have HON := hid (l01Own_any (zs L[i]) _ wr (hou.ints (by rw [zs_length]; have := HLL.out i hil; omega)))
              have hll := HLL.out i hil
              have hown5 := hid hown; clear hown hou
              have HKX := hid kx; clear kx
              have hsz0 := HKX.out.size
              generalize hLi : L[i] = x at *
              have HLi := hid hLi; clear hLi
              have hlb : (M ++ extV (fun _ v => v.testBit k) x v).length ≤ 2147483647 := by rw [List.length_append]; omega
              have HLB := hid hlb; clear hlb
              generalize extV (fun _ v => v.testBit k) x v = E at *
              cases hc : v.testBit k
              · rw [hc] at HHA
                have HE2 : Hid (extV (fun _ v => v.testBit k) x (v + 1) = E) := hid (by rw [HES.out, hc]; simp)
                clear hc HES
                go_wp2_with fail
                refine HF2.out.mono ?_; rintro e w' ⟨rfl, rfl⟩
                go_wp2_with fail
                refine HHA.out.mono ?_; rintro e w' ⟨rfl, rfl⟩
                go_wp2_with fail
                go_roundw
                case rel => exact ⟨v + 1, by omega, by go_num, by rw [HE2.out]; exact hown5.out, HKX.out⟩
                case measure => simp [intOf]; omega
              · rw [hc] at HHA
                have HE2 : Hid (extV (fun _ v => v.testBit k) x (v + 1) = E ++ [x ++ [v]]) := hid (by rw [HES.out, hc]; simp)
                clear hc HES
                go_wp2_with fail
                refine HF2.out.mono ?_; rintro e w' ⟨rfl, rfl⟩
                go_wp2_with fail
                refine HHA.out.mono ?_; rintro e w' ⟨rfl, rfl⟩
                go_wp2_with fail
                refine HON.out.mono ?_; rintro e w2 ⟨v39, rfl, hv39, k2⟩
                have ka := (Keeps.refl w2).alloc (.cells #[.int .i64 (v : Int)] 2)
                have hs2 := (k2.trans ka).size
                have hzl := zs_length x
                have KX2 := hid (k2.trans ka)
                obtain ⟨p39, q39, e39, -, -, -⟩ := At.of_own hv39
                rw [zs_length] at e39
                subst e39
                have hxl : (zs (x ++ [v])).length = x.length + 1 := by rw [zs_length]; simp
                have HAPP : Hid (∀ (v4 : Value) (w4 : World), OwnI w4 wr.heap.size v4 (zs x ++ [(v : Int)]) → (w2.alloc (.cells #[.int .i64 (v : Int)] 2)).grownBy w4 (Value.slice p39 x.length q39).ownBlock → (∀ k, (Value.slice p39 x.length q39).ownBlock = some k → wr.heap.size ≤ k) →
                    ∃ p4 q4, v4 = Value.slice p4 (x.length + 1) q4 ∧ Keeps wr (w4.alloc (.cells #[.slice p4 (x.length + 1) q4] 25)) ∧ OwnI (w4.alloc (.cells #[.slice p4 (x.length + 1) q4] 25)) wo.heap.size (.slice p4 (x.length + 1) q4) (zs (x ++ [v]))) := hid fun v4 w4 hv4 hg4 hr4 => by
                  rw [← zs_snoc] at hv4
                  have k4 := KX2.out.grown hg4 hr4
                  obtain ⟨p4, q4, e4, -, -, -⟩ := At.of_own hv4
                  rw [hxl] at e4
                  subst e4
                  exact ⟨p4, q4, rfl, k4.alloc _, (hv4.mono hsz0).keeps ((Keeps.refl w4).alloc _)⟩
                clear hxl
                go_wp2_with (first | (at_builtin; refine appI rfl _ _ rfl wr.heap.size _ (zs x) rfl (hv39.keeps ka) _ [(v : Int)] rfl (Ints.lit1 w2 v) hs2 (by rw [hzl]; simp; omega) ?_; intro v4 w4 hv4 hg4 hr4; obtain ⟨p4, q4, rfl, k5, hv5⟩ := HAPP.out v4 w4 hv4 hg4 hr4) | (at_builtin; refine appLI rfl _ _ rfl wo.heap.size _ (M ++ E) rfl wr hown5.out k5 _ (x ++ [v]) hv5 (HKX.out.trans k5).size _ 1 rfl (At.lit1 _ _ _) HLB.out ?_; intro v6 w6 hv6 hg6 hr6))
                go_roundw
                case rel => exact ⟨v + 1, by omega, by go_num, by rw [HE2.out, ← List.append_assoc]; exact hv6, (HKX.out.trans k5).grown hg6 hr6⟩
                case measure => simp [intOf]; omega
            · have e : v = N2 := by omega
              subst e
              have hvn' : ¬ (v : Int) ≤ (v : Int) - 1 := by omega
              rw [← HMS.out] at hown
              go_wp2_with fail
              refine HF2.out.mono ?_; rintro e w' ⟨rfl, rfl⟩
              go_wp2_with fail
              go_roundw
              case rel => exact ⟨i + 1, by omega, by go_num, hown, kx⟩
              case measure => simp [intOf]; omega
        · have e : i = L.length := by omega
          have hil' : ¬ (i : Int) < L.length := by omega
          rw [e, midV_end, ← HRXK.out] at hown
          go_wp2_with fail
          go_roundw
          case rel => exact ⟨k + 1, by omega, by go_num, hown.mono HKW.out.size, HKW.out.trans kx⟩
          case measure => simp [intOf]; omega
    · have e : k = n := by omega
      subst e
      have hlt' : ¬ (k : Int) < k := by omega
      clear HRX HTB HR0
      generalize lisR k k = L at *
      have HLI := hid hown
      obtain ⟨p3, q3, rfl, _, hmx3⟩ := hown.shape
      have HKW := hid kw; clear kw hown
      generalize hwo : wr = wo at *
      clear hwo
      generalize hkn : k = n at *
      have HP0 := hid (OwnPs.empty wo)
      go_wp2_with fail
      go_loopw [8, 9] (fun s8 s9 wx => ∃ i : Nat, i ≤ L.length ∧ s9 = .int .i64 i ∧ OwnPs wx wo.heap.size s8 ((L.take i).filter fun p => posB p && leastP p == p) ∧ Keeps wo wx) (fun _ s9 _ => L.length - (intOf s9).toNat)
      case atStart => exact ⟨0, by omega, rfl, by simpa using HP0.out, (Keeps.refl wo).alloc _⟩
      case round =>
        obtain ⟨i, hi, rfl, hps, kx⟩ := hrel
        clear HP0
        by_cases hil : i < L.length
        · have hil' : (i : Int) < L.length := by omega
          obtain ⟨b1, o1, u, rfl, hcu, hou⟩ := (HLI.out.keeps kx).get i hil
          obtain ⟨pu, qu, e, -, -, -⟩ := At.of_own hou
          obtain ⟨hxl, hxb⟩ := HALL.out L[i] (List.getElem_mem hil)
          rw [zs_length, hxl] at e
          subst e
          have HTK : Hid ((L.take (i + 1)).filter (fun p => posB p && leastP p == p) = (L.take i).filter (fun p => posB p && leastP p == p) ++ (if posB L[i] && leastP L[i] == L[i] then [L[i]] else [])) := hid (by
            rw [List.take_succ_eq_append_getElem hil, List.filter_append]
            congr 1
            cases hq : (posB L[i] && leastP L[i] == L[i]) <;> simp [hq])
          have hfl : ((L.take i).filter (fun p => posB p && leastP p == p)).length ≤ i := Nat.le_trans (List.length_filter_le _ _) (by rw [List.length_take]; omega)
          have hll := HL4.out
          have hmk := l16Make_any (zs L[i]) _ wr (hou.ints (by rw [zs_length]; omega))
          unfold RetP at hmk
          rw [zs_length, hxl] at hmk
          have HMK := hid hmk; clear hmk
          have HPO : Hid (isPos (n : Int) (zs L[i]) = posB L[i]) := hid (by rw [← hxl]; exact isPos_nat (by omega) (by rw [hxl]; exact hxb))
          have HIS0 := hid (fun (v : Value) (w3 : World) (hv : Ints w3 v (zs L[i])) => l16Is_any n (zs L[i]) v w3 hv)
          have HLE0 := hid (fun (v : Value) (w3 : World) (hv : Ints w3 v (zs L[i])) => l05Least_any L[i] v w3 hv (by omega) (by rw [hxl]; exact hxb))
          have hpl : (leastP L[i]).length ≤ 4 := by have := (leastP_len (a := L[i]) (by omega) (by rw [hxl]; exact hxb)).1; omega
          have HSA0 := hid (fun (v v' : Value) (w3 : World) (hv : Ints w3 v (zs (leastP L[i]))) (hv' : Ints w3 v' (zs L[i])) => l01SameN_any (leastP L[i]) L[i] v v' w3 hv hv')
          rw [HPO.out] at HIS0
          have HPS := hid hps; clear hps hou
          have HPL := hid hpl; clear hpl
          have HXL := hid hxl; clear hxl
          generalize hT : (L.take i).filter (fun p => posB p && leastP p == p) = T at *
          clear hT
          obtain ⟨p8, q8, rfl, _, _⟩ := HPS.out.shape
          generalize L[i] = x at *
          have HKX := hid kx; clear kx hxb
          go_wp2_with fail
          refine HMK.out.mono ?_; rintro e w2 ⟨v2, rfl, hv2, k2⟩
          obtain ⟨p2, q2, e2, -, -, -⟩ := At.of_own hv2
          rw [zs_length, HXL.out] at e2
          subst e2
          have y0 : (w2.alloc (.cells #[.int .i64 n, .slice p2 n q2] 32)).cell? ⟨w2.heap.size, 0, none⟩ = some (.int .i64 n) := by simp
          have y1 : (w2.alloc (.cells #[.int .i64 n, .slice p2 n q2] 32)).cell? ⟨w2.heap.size, 1, none⟩ = some (.slice p2 n q2) := by simp
          have ka := (Keeps.refl w2).alloc (.cells #[.int .i64 n, .slice p2 n q2] 32)
          have HV2 := hid (hv2.keeps ka); clear hv2
          have HX100 : Hid (x.length ≤ 100) := hid (by rw [HXL.out]; omega)
          have HIS := hid (fun (w3 : World) (k3 : Keeps (w2.alloc (.cells #[.int .i64 n, .slice p2 n q2] 32)) w3) => HIS0.out _ w3 ((HV2.out.keeps k3).ints (by rw [zs_length]; have := HX100.out; omega)))
          have HLE := hid (fun (w3 : World) (k3 : Keeps (w2.alloc (.cells #[.int .i64 n, .slice p2 n q2] 32)) w3) => HLE0.out _ w3 ((HV2.out.keeps k3).ints (by rw [zs_length]; have := HX100.out; omega)))
          have HSA := hid (fun (v : Value) (w3 : World) (k3 : Keeps (w2.alloc (.cells #[.int .i64 n, .slice p2 n q2] 32)) w3) {B : Nat} (hv : OwnI w3 B v (zs (leastP x))) => HSA0.out v _ w3 (hv.ints (by rw [zs_length]; have := HPL.out; omega)) ((HV2.out.keeps k3).ints (by rw [zs_length]; have := HX100.out; omega)))
          have HKB := hid (k2.trans ka)
          have hsw := HKX.out.size
          clear HIS0 HLE0 HSA0 HMK HPO k2 ka
          cases hb : posB x
          · rw [hb] at HIS
            have HT2 : Hid ((L.take (i + 1)).filter (fun p => posB p && leastP p == p) = T) := hid (by rw [HTK.out, hb]; simp)
            clear hb HTK
            have kz := Keeps.refl (w2.alloc (.cells #[.int .i64 n, .slice p2 n q2] 32))
            have d0 := And.intro (kz.drew.cell y0) (kz.drew.cell y1)
            go_upto_region 20 with fail
            refine wp_region_noPanic ?_
            refine wp_region_held_drew (S := (fun w' => w'.cell? ⟨w2.heap.size, 0, none⟩ = some (.int .i64 n) ∧ w'.cell? ⟨w2.heap.size, 1, none⟩ = some (.slice p2 n q2))) (by kernel_rfl) d0 (fun hHeld => ?_)
            refine wpAnyH_take (i := 0) (oi := ⟨some 58, _, _, _, _, none⟩) (v := ?v0a) rfl (by kernel_rfl) (by kernel_rfl) (by kernel_rfl) (fun _ _ _ h => h) (Or.inl ⟨by rfl, ?h0a⟩) (by assumption) ?r0a
            case h0a => (intro w hSw; (try dsimp only at hSw); go_simp; try with_reducible rfl)
            try simp only [Act.put, List.setIfInBounds_toArray, List.set_cons_zero, List.set_cons_succ]
            refine wpAnyH_ready (rs := [1]) (by kernel_rfl) (by simp) ?_
            refine AllReadyH.cons (o := ⟨some 59, _, _, _, _, none⟩) rfl (fun K hK => ?_) AllReadyH.nil
            go_simp
            go_at_call 41; refine (HIS.out _ (kz.drew)).mono ?_; rintro e w3 ⟨rfl, k3⟩; have g1 := And.intro (k3.cell d0.1) (k3.cell d0.2)
            refine hK.out _ _ (g1) (fun hHeld => ?_)
            clear hK K
            try simp only [Act.put, List.setIfInBounds_toArray, List.set_cons_zero, List.set_cons_succ]
            refine wpAnyH_take (i := 2) (oi := ⟨some 60, _, _, _, _, none⟩) (v := ?v2a) rfl (by kernel_rfl) (by kernel_rfl) (by kernel_rfl) (fun _ _ _ h => h) (Or.inl ⟨by rfl, ?h2a⟩) (by assumption) ?r2a
            case h2a => (intro w hSw; (try dsimp only at hSw); go_simp; try with_reducible rfl)
            try simp only [Act.put, List.setIfInBounds_toArray, List.set_cons_zero, List.set_cons_succ]
            refine wpAnyH_take (i := 3) (oi := ⟨some 61, _, _, _, _, some (2, true)⟩) (v := undef) rfl (by kernel_rfl) (by kernel_rfl) (by kernel_rfl) (fun _ _ _ h => h) (Or.inr ⟨by rfl, rfl⟩) (by assumption) ?_
            try simp only [Act.put, List.setIfInBounds_toArray, List.set_cons_zero, List.set_cons_succ]
            refine wpAnyH_take (i := 4) (oi := ⟨some 62, _, _, _, _, some (2, true)⟩) (v := undef) rfl (by kernel_rfl) (by kernel_rfl) (by kernel_rfl) (fun _ _ _ h => h) (Or.inr ⟨by rfl, rfl⟩) (by assumption) ?_
            try simp only [Act.put, List.setIfInBounds_toArray, List.set_cons_zero, List.set_cons_succ]
            refine wpAnyH_take (i := 6) (oi := ⟨some 64, _, _, _, _, some (2, true)⟩) (v := undef) rfl (by kernel_rfl) (by kernel_rfl) (by kernel_rfl) (fun _ _ _ h => h) (Or.inr ⟨by rfl, rfl⟩) (by assumption) ?_
            try simp only [Act.put, List.setIfInBounds_toArray, List.set_cons_zero, List.set_cons_succ]
            refine wpAnyH_take (i := 7) (oi := ⟨some 65, _, _, _, _, some (2, true)⟩) (v := undef) rfl (by kernel_rfl) (by kernel_rfl) (by kernel_rfl) (fun _ _ _ h => h) (Or.inr ⟨by rfl, rfl⟩) (by assumption) ?_
            try simp only [Act.put, List.setIfInBounds_toArray, List.set_cons_zero, List.set_cons_succ]
            refine wpAnyH_ready (rs := [5]) (by kernel_rfl) (by simp) ?_
            refine AllReadyH.cons (o := ⟨some 63, _, _, _, _, some (2, true)⟩) rfl (fun K hK => ?_) AllReadyH.nil
            rw [if_neg (Bool.eq_false_iff.1 (by kernel_rfl))]
            refine hK.out _ _ (by assumption) (fun hHeld => ?_)
            clear hK K
            try simp only [Act.put, List.setIfInBounds_toArray, List.set_cons_zero, List.set_cons_succ]
            refine wpAnyH_ready (rs := [8]) (by kernel_rfl) (by simp) ?_
            refine AllReadyH.cons (o := ⟨some 66, _, _, _, _, some (2, true)⟩) rfl (fun K hK => ?_) AllReadyH.nil
            rw [if_neg (Bool.eq_false_iff.1 (by kernel_rfl))]
            refine hK.out _ _ (by assumption) (fun hHeld => ?_)
            clear hK K
            try simp only [Act.put, List.setIfInBounds_toArray, List.set_cons_zero, List.set_cons_succ]
            refine wpAnyH_take (i := 9) (oi := ⟨some 67, _, _, _, _, none⟩) (v := ?v9a) rfl (by kernel_rfl) (by kernel_rfl) (by kernel_rfl) (fun _ _ _ h => h) (Or.inl ⟨by rfl, ?h9a⟩) (by assumption) ?r9a
            case h9a => (intro w hSw; (try dsimp only at hSw); go_simp; try with_reducible rfl)
            try simp only [Act.put, List.setIfInBounds_toArray, List.set_cons_zero, List.set_cons_succ]
            refine wpAnyH_done (by kernel_rfl) ?_ _
            refine NoPanic.normal ?_
            go_wp2_with fail
            go_roundw
            case rel => exact ⟨i + 1, by omega, by go_num, by rw [HT2.out]; exact HPS.out.keeps (HKB.out.trans ((kz.drew).trans k3)), HKX.out.trans (HKB.out.trans ((kz.drew).trans k3))⟩
            case measure => simp [intOf]; omega
          · rw [hb] at HIS
            cases hq : (leastP x == x)
            · rw [hq] at HSA
              have HT2 : Hid ((L.take (i + 1)).filter (fun p => posB p && leastP p == p) = T) := hid (by rw [HTK.out, hb, hq]; simp)
              clear hb hq HTK
              have kz := Keeps.refl (w2.alloc (.cells #[.int .i64 n, .slice p2 n q2] 32))
              have d0 := And.intro (kz.drew.cell y0) (kz.drew.cell y1)
              go_upto_region 20 with fail
              refine wp_region_noPanic ?_
              refine wp_region_held_drew (S := (fun w' => w'.cell? ⟨w2.heap.size, 0, none⟩ = some (.int .i64 n) ∧ w'.cell? ⟨w2.heap.size, 1, none⟩ = some (.slice p2 n q2))) (by kernel_rfl) d0 (fun hHeld => ?_)
              refine wpAnyH_take (i := 0) (oi := ⟨some 58, _, _, _, _, none⟩) (v := ?v0b) rfl (by kernel_rfl) (by kernel_rfl) (by kernel_rfl) (fun _ _ _ h => h) (Or.inl ⟨by rfl, ?h0b⟩) (by assumption) ?r0b
              case h0b => (intro w hSw; (try dsimp only at hSw); go_simp; try with_reducible rfl)
              try simp only [Act.put, List.setIfInBounds_toArray, List.set_cons_zero, List.set_cons_succ]
              refine wpAnyH_ready (rs := [1]) (by kernel_rfl) (by simp) ?_
              refine AllReadyH.cons (o := ⟨some 59, _, _, _, _, none⟩) rfl (fun K hK => ?_) AllReadyH.nil
              go_simp
              go_at_call 41; refine (HIS.out _ (kz.drew)).mono ?_; rintro e w3 ⟨rfl, k3⟩; have g1 := And.intro (k3.cell d0.1) (k3.cell d0.2)
              refine hK.out _ _ (g1) (fun hHeld => ?_)
              clear hK K
              try simp only [Act.put, List.setIfInBounds_toArray, List.set_cons_zero, List.set_cons_succ]
              refine wpAnyH_take (i := 2) (oi := ⟨some 60, _, _, _, _, none⟩) (v := ?v2b) rfl (by kernel_rfl) (by kernel_rfl) (by kernel_rfl) (fun _ _ _ h => h) (Or.inl ⟨by rfl, ?h2b⟩) (by assumption) ?r2b
              case h2b => (intro w hSw; (try dsimp only at hSw); go_simp; try with_reducible rfl)
              try simp only [Act.put, List.setIfInBounds_toArray, List.set_cons_zero, List.set_cons_succ]
              refine wpAnyH_take (i := 3) (oi := ⟨some 61, _, _, _, _, some (2, true)⟩) (v := ?v3b) rfl (by kernel_rfl) (by kernel_rfl) (by kernel_rfl) (fun _ _ _ h => h) (Or.inl ⟨by rfl, ?h3b⟩) (by assumption) ?r3b
              case h3b => (intro w hSw; (try dsimp only at hSw); go_simp; try with_reducible rfl)
              try simp only [Act.put, List.setIfInBounds_toArray, List.set_cons_zero, List.set_cons_succ]
              refine wpAnyH_take (i := 4) (oi := ⟨some 62, _, _, _, _, some (2, true)⟩) (v := ?v4b) rfl (by kernel_rfl) (by kernel_rfl) (by kernel_rfl) (fun _ _ _ h => h) (Or.inl ⟨by rfl, ?h4b⟩) (by assumption) ?r4b
              case h4b => (intro w hSw; (try dsimp only at hSw); go_simp; try with_reducible rfl)
              try simp only [Act.put, List.setIfInBounds_toArray, List.set_cons_zero, List.set_cons_succ]
              refine wpAnyH_take (i := 6) (oi := ⟨some 64, _, _, _, _, some (2, true)⟩) (v := ?v6b) rfl (by kernel_rfl) (by kernel_rfl) (by kernel_rfl) (fun _ _ _ h => h) (Or.inl ⟨by rfl, ?h6b⟩) (by assumption) ?r6b
              case h6b => (intro w hSw; (try dsimp only at hSw); go_simp; try with_reducible rfl)
              try simp only [Act.put, List.setIfInBounds_toArray, List.set_cons_zero, List.set_cons_succ]
              refine wpAnyH_take (i := 7) (oi := ⟨some 65, _, _, _, _, some (2, true)⟩) (v := ?v7b) rfl (by kernel_rfl) (by kernel_rfl) (by kernel_rfl) (fun _ _ _ h => h) (Or.inl ⟨by rfl, ?h7b⟩) (by assumption) ?r7b
              case h7b => (intro w hSw; (try dsimp only at hSw); go_simp; try with_reducible rfl)
              try simp only [Act.put, List.setIfInBounds_toArray, List.set_cons_zero, List.set_cons_succ]
              refine wpAnyH_ready (rs := [5]) (by kernel_rfl) (by simp) ?_
              refine AllReadyH.cons (o := ⟨some 63, _, _, _, _, some (2, true)⟩) rfl (fun K hK => ?_) AllReadyH.nil
              rw [if_pos (by kernel_rfl)]
              go_simp
              go_at_call 109; refine (HLE.out _ ((kz.drew).trans k3)).mono ?_; rintro e w4 ⟨v4, rfl, hv4, k4⟩; have g2 := And.intro (k4.cell g1.1) (k4.cell g1.2); obtain ⟨p4, q4, rfl, -, -, -⟩ := At.of_own hv4
              refine hK.out _ _ (g2) (fun hHeld => ?_)
              clear hK K
              try simp only [Act.put, List.setIfInBounds_toArray, List.set_cons_zero, List.set_cons_succ]
              refine wpAnyH_ready (rs := [8]) (by kernel_rfl) (by simp) ?_
              refine AllReadyH.cons (o := ⟨some 66, _, _, _, _, some (2, true)⟩) rfl (fun K hK => ?_) AllReadyH.nil
              rw [if_pos (by kernel_rfl)]
              go_simp
              go_at_call 108; refine (HSA.out _ _ (((kz.drew).trans k3).trans k4) hv4).mono ?_; rintro e w5 ⟨rfl, k5⟩; have g3 := And.intro (k5.cell g2.1) (k5.cell g2.2)
              refine hK.out _ _ (g3) (fun hHeld => ?_)
              clear hK K
              try simp only [Act.put, List.setIfInBounds_toArray, List.set_cons_zero, List.set_cons_succ]
              refine wpAnyH_take (i := 9) (oi := ⟨some 67, _, _, _, _, none⟩) (v := ?v9b) rfl (by kernel_rfl) (by kernel_rfl) (by kernel_rfl) (fun _ _ _ h => h) (Or.inl ⟨by rfl, ?h9b⟩) (by assumption) ?r9b
              case h9b => (intro w hSw; (try dsimp only at hSw); go_simp; try with_reducible rfl)
              try simp only [Act.put, List.setIfInBounds_toArray, List.set_cons_zero, List.set_cons_succ]
              refine wpAnyH_done (by kernel_rfl) ?_ _
              refine NoPanic.normal ?_
              go_wp2_with fail
              go_roundw
              case rel => exact ⟨i + 1, by omega, by go_num, by rw [HT2.out]; exact HPS.out.keeps (HKB.out.trans ((((kz.drew).trans k3).trans k4).trans k5)), HKX.out.trans (HKB.out.trans ((((kz.drew).trans k3).trans k4).trans k5))⟩
              case measure => simp [intOf]; omega
            · rw [hq] at HSA
              have HT2 : Hid ((L.take (i + 1)).filter (fun p => posB p && leastP p == p) = T ++ [x]) := hid (by rw [HTK.out, hb, hq]; simp)
              clear hb hq HTK
              have kz := Keeps.refl (w2.alloc (.cells #[.int .i64 n, .slice p2 n q2] 32))
              have d0 := And.intro (kz.drew.cell y0) (kz.drew.cell y1)
              go_upto_region 20 with fail
              refine wp_region_noPanic ?_
              refine wp_region_held_drew (S := (fun w' => w'.cell? ⟨w2.heap.size, 0, none⟩ = some (.int .i64 n) ∧ w'.cell? ⟨w2.heap.size, 1, none⟩ = some (.slice p2 n q2))) (by kernel_rfl) d0 (fun hHeld => ?_)
              refine wpAnyH_take (i := 0) (oi := ⟨some 58, _, _, _, _, none⟩) (v := ?v0c) rfl (by kernel_rfl) (by kernel_rfl) (by kernel_rfl) (fun _ _ _ h => h) (Or.inl ⟨by rfl, ?h0c⟩) (by assumption) ?r0c
              case h0c => (intro w hSw; (try dsimp only at hSw); go_simp; try with_reducible rfl)
              try simp only [Act.put, List.setIfInBounds_toArray, List.set_cons_zero, List.set_cons_succ]
              refine wpAnyH_ready (rs := [1]) (by kernel_rfl) (by simp) ?_
              refine AllReadyH.cons (o := ⟨some 59, _, _, _, _, none⟩) rfl (fun K hK => ?_) AllReadyH.nil
              go_simp
              go_at_call 41; refine (HIS.out _ (kz.drew)).mono ?_; rintro e w3 ⟨rfl, k3⟩; have g1 := And.intro (k3.cell d0.1) (k3.cell d0.2)
              refine hK.out _ _ (g1) (fun hHeld => ?_)
              clear hK K
              try simp only [Act.put, List.setIfInBounds_toArray, List.set_cons_zero, List.set_cons_succ]
              refine wpAnyH_take (i := 2) (oi := ⟨some 60, _, _, _, _, none⟩) (v := ?v2c) rfl (by kernel_rfl) (by kernel_rfl) (by kernel_rfl) (fun _ _ _ h => h) (Or.inl ⟨by rfl, ?h2c⟩) (by assumption) ?r2c
              case h2c => (intro w hSw; (try dsimp only at hSw); go_simp; try with_reducible rfl)
              try simp only [Act.put, List.setIfInBounds_toArray, List.set_cons_zero, List.set_cons_succ]
              refine wpAnyH_take (i := 3) (oi := ⟨some 61, _, _, _, _, some (2, true)⟩) (v := ?v3c) rfl (by kernel_rfl) (by kernel_rfl) (by kernel_rfl) (fun _ _ _ h => h) (Or.inl ⟨by rfl, ?h3c⟩) (by assumption) ?r3c
              case h3c => (intro w hSw; (try dsimp only at hSw); go_simp; try with_reducible rfl)
              try simp only [Act.put, List.setIfInBounds_toArray, List.set_cons_zero, List.set_cons_succ]
              refine wpAnyH_take (i := 4) (oi := ⟨some 62, _, _, _, _, some (2, true)⟩) (v := ?v4c) rfl (by kernel_rfl) (by kernel_rfl) (by kernel_rfl) (fun _ _ _ h => h) (Or.inl ⟨by rfl, ?h4c⟩) (by assumption) ?r4c
              case h4c => (intro w hSw; (try dsimp only at hSw); go_simp; try with_reducible rfl)
              try simp only [Act.put, List.setIfInBounds_toArray, List.set_cons_zero, List.set_cons_succ]
              refine wpAnyH_take (i := 6) (oi := ⟨some 64, _, _, _, _, some (2, true)⟩) (v := ?v6c) rfl (by kernel_rfl) (by kernel_rfl) (by kernel_rfl) (fun _ _ _ h => h) (Or.inl ⟨by rfl, ?h6c⟩) (by assumption) ?r6c
              case h6c => (intro w hSw; (try dsimp only at hSw); go_simp; try with_reducible rfl)
              try simp only [Act.put, List.setIfInBounds_toArray, List.set_cons_zero, List.set_cons_succ]
              refine wpAnyH_take (i := 7) (oi := ⟨some 65, _, _, _, _, some (2, true)⟩) (v := ?v7c) rfl (by kernel_rfl) (by kernel_rfl) (by kernel_rfl) (fun _ _ _ h => h) (Or.inl ⟨by rfl, ?h7c⟩) (by assumption) ?r7c
              case h7c => (intro w hSw; (try dsimp only at hSw); go_simp; try with_reducible rfl)
              try simp only [Act.put, List.setIfInBounds_toArray, List.set_cons_zero, List.set_cons_succ]
              refine wpAnyH_ready (rs := [5]) (by kernel_rfl) (by simp) ?_
              refine AllReadyH.cons (o := ⟨some 63, _, _, _, _, some (2, true)⟩) rfl (fun K hK => ?_) AllReadyH.nil
              rw [if_pos (by kernel_rfl)]
              go_simp
              go_at_call 109; refine (HLE.out _ ((kz.drew).trans k3)).mono ?_; rintro e w4 ⟨v4, rfl, hv4, k4⟩; have g2 := And.intro (k4.cell g1.1) (k4.cell g1.2); obtain ⟨p4, q4, rfl, -, -, -⟩ := At.of_own hv4
              refine hK.out _ _ (g2) (fun hHeld => ?_)
              clear hK K
              try simp only [Act.put, List.setIfInBounds_toArray, List.set_cons_zero, List.set_cons_succ]
              refine wpAnyH_ready (rs := [8]) (by kernel_rfl) (by simp) ?_
              refine AllReadyH.cons (o := ⟨some 66, _, _, _, _, some (2, true)⟩) rfl (fun K hK => ?_) AllReadyH.nil
              rw [if_pos (by kernel_rfl)]
              go_simp
              go_at_call 108; refine (HSA.out _ _ (((kz.drew).trans k3).trans k4) hv4).mono ?_; rintro e w5 ⟨rfl, k5⟩; have g3 := And.intro (k5.cell g2.1) (k5.cell g2.2)
              refine hK.out _ _ (g3) (fun hHeld => ?_)
              clear hK K
              try simp only [Act.put, List.setIfInBounds_toArray, List.set_cons_zero, List.set_cons_succ]
              refine wpAnyH_take (i := 9) (oi := ⟨some 67, _, _, _, _, none⟩) (v := ?v9c) rfl (by kernel_rfl) (by kernel_rfl) (by kernel_rfl) (fun _ _ _ h => h) (Or.inl ⟨by rfl, ?h9c⟩) (by assumption) ?r9c
              case h9c => (intro w hSw; (try dsimp only at hSw); go_simp; try with_reducible rfl)
              try simp only [Act.put, List.setIfInBounds_toArray, List.set_cons_zero, List.set_cons_succ]
              refine wpAnyH_done (by kernel_rfl) ?_ _
              refine NoPanic.normal ?_
              have kf := HKB.out.trans ((((kz.drew).trans k3).trans k4).trans k5)
              have kg := kf.alloc (.cells #[.int .i64 n, .slice p2 n q2] 32)
              have hv9 := ((HV2.out.keeps ((((kz.drew).trans k3).trans k4).trans k5)).keeps ((Keeps.refl w5).alloc (.cells #[.int .i64 n, .slice p2 n q2] 32))).mono hsw
              have hat := At.ps1 (w := w5) (u := .slice p2 n q2) (x := x) (E := 32)
              rw [HXL.out] at hat
              obtain ⟨z0, z1⟩ := g3
              go_wp2_with (at_builtin; refine appPs rfl _ _ rfl wo.heap.size _ T rfl wr HPS.out kg [.slice p2 n q2] [x] (RowsI.one hv9) (HKX.out.trans kg).size _ 1 rfl hat (by simp; omega) ?_; intro v6 w6 hv6 hg6 hr6)
              go_roundw
              case rel => exact ⟨i + 1, by omega, by go_num, by rw [HT2.out]; exact hv6, (HKX.out.trans kg).grown hg6 hr6⟩
              case measure => simp [intOf]; omega
        · have e : i = L.length := by omega
          have hil' : ¬ (i : Int) < L.length := by omega
          rw [e, List.take_length] at hps
          go_wp2_with fail
          go_ret
          exact ⟨_, rfl, by rw [HAR.out]; exact hps.mono HKW.out.size, HKW.out.trans kx⟩
end Go.Proofs.YtponaoefpicfpaaGreatDoor
