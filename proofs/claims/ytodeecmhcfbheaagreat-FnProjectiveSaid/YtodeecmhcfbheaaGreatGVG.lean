/- sequentKey: the key of a sequent. -/
import Derived.Test.YtodeecmhcfbheaaGreatGV3
import Derived.Test.YtodeecmhcfbheaaGreatGV8
namespace Go.Proofs.YtodeecmhcfbheaaGreat
open Go.RowKit
/-- a side's part of a key -/
def keyL (bs : List (List UInt8)) : List UInt8 := bs.flatMap fun b => b ++ [47]
def keyOf (bs cs : List (List UInt8)) : List UInt8 := keyL bs ++ (59 :: keyL cs)
theorem keyL_take (ss : List ByteArray) (k : Nat) (h : k < ss.length) : keyL ((ss.take (k + 1)).map bts) = keyL ((ss.take k).map bts) ++ (bts ss[k] ++ [47]) := by
  rw [List.take_succ_eq_append_getElem h, List.map_append]
  simp [keyL]
theorem keyL_le (ss : List ByteArray) (k : Nat) : (keyL ((ss.take k).map bts)).length ≤ (keyL (ss.map bts)).length := by
  have h : ss.map bts = (ss.take k).map bts ++ (ss.drop k).map bts := by rw [← List.map_append, List.take_append_drop]
  have h2 := congrArg (fun l => (keyL l).length) h
  simp only [keyL, List.flatMap_append, List.length_append] at h2 ⊢
  omega
set_option maxRecDepth 20000 in
set_option maxHeartbeats 1000000 in
theorem seqKey_any (ss rr : List ByteArray) (v u : Value) (w : World) (hv : Strs w v ss) (hu : Strs w u rr) (hl : (keyL (ss.map bts)).length + (keyL (rr.map bts)).length ≤ 1000000000) :
    Calls Tryz.prog 233 #[.agg #[v, u]] w fun e w' => ∃ s, e = .returned (.string s) ∧ bts s = keyOf (ss.map bts) (rr.map bts) ∧ Keeps w w' := by
  obtain ⟨p1, c1, rfl, _, _, _, hs1⟩ := hv.at
  obtain ⟨p2, c2, rfl, _, _, _, hs2⟩ := hu.at
  have k0 := (Keeps.refl w).alloc (.cells #[.slice p1 ss.length c1, .slice p2 rr.length c2] 197)
  have hv1 := hv.keeps k0
  have hu1 := hu.keeps k0
  have HV := hid hv1; clear hv1 hv
  have HU := hid hu1; clear hu1 hu
  have hle1 := hid (keyL_le ss)
  have hle2 := hid (keyL_le rr)
  have ht1 := hid (keyL_take ss)
  have ht2 := hid (keyL_take rr)
  have HL := hid hl
  go_enter Tryz.func233, Tryz.ntmps233
  go_wp2
  go_loop [3, 11] (fun o i' => ∃ (k : Nat) (x : ByteArray), k ≤ ss.length ∧ i' = .int .i64 k ∧ o = .string x ∧ bts x = keyL ((ss.take k).map bts)) (fun _ i => ss.length - (intOf i).toNat)
  case atStart => exact ⟨0, _, by omega, rfl, rfl, rfl⟩
  case round =>
    obtain ⟨k, x, hk, rfl, rfl, hx⟩ := hrel
    have hx1 : x.size ≤ 1000000000 := by
      rw [← bts_len, hx]; have := hle1.out k; have := HL.out; omega
    have HX := hid hx; clear hx
    by_cases hlt : k < ss.length
    · have hlt' : (k : Int) < ss.length := by omega
      obtain ⟨b, off, rfl, h1⟩ := HV.out.get k hlt
      have hy1 : ss[k].size + 1 ≤ 1000000000 := by
        have e := congrArg List.length (ht1.out k hlt)
        have := hle1.out (k + 1); have := HL.out
        simp only [List.length_append, bts_len, List.length_cons, List.length_nil] at e
        omega
      have hq := hid (ht1.out k hlt)
      generalize ss[k] = y at *
      go_wp2
      go_round
      case rel => exact ⟨k + 1, _, by omega, by go_num, rfl, by rw [hq.out, ← HX.out]; simp only [bts_append]; rfl⟩
      case measure => simp [intOf]; omega
    · obtain rfl : k = ss.length := by omega
      have hx3 : bts x = keyL (ss.map bts) := by rw [HX.out, List.take_length]
      have HX3 := hid hx3; clear hx3
      have hlt' : ¬ ((ss.length : Int) < ss.length) := by omega
      go_wp2
      go_loop [3, 25] (fun o i' => ∃ (k : Nat) (z : ByteArray), k ≤ rr.length ∧ i' = .int .i64 k ∧ o = .string z ∧ bts z = keyL (ss.map bts) ++ (59 :: keyL ((rr.take k).map bts))) (fun _ i => rr.length - (intOf i).toNat)
      case atStart => exact ⟨0, _, by omega, rfl, rfl, by rw [bts_append, HX3.out]; rfl⟩
      case round =>
        obtain ⟨j, z, hj, rfl, rfl, hz⟩ := hrel
        have hz1 : z.size ≤ 1000000001 := by
          rw [← bts_len, hz, List.length_append, List.length_cons]; have := hle2.out j; have := HL.out; omega
        have HZ := hid hz; clear hz
        by_cases hlt : j < rr.length
        · have hlt' : (j : Int) < rr.length := by omega
          obtain ⟨b, off, rfl, h1⟩ := HU.out.get j hlt
          have hy1 : rr[j].size + 1 ≤ 1000000000 := by
            have e := congrArg List.length (ht2.out j hlt)
            have := hle2.out (j + 1); have := HL.out
            simp only [List.length_append, bts_len, List.length_cons, List.length_nil] at e
            omega
          have hq := hid (ht2.out j hlt)
          generalize rr[j] = y at *
          go_wp2
          go_round
          case rel => exact ⟨j + 1, _, by omega, by go_num, rfl, by rw [hq.out]; simp only [bts_append, HZ.out, List.append_assoc, List.cons_append]; rfl⟩
          case measure => simp [intOf]; omega
        · obtain rfl : j = rr.length := by omega
          have hlt' : ¬ ((rr.length : Int) < rr.length) := by omega
          go_wp2
          go_ret
          exact ⟨_, rfl, by rw [HZ.out, List.take_length]; rfl, k0⟩
end Go.Proofs.YtodeecmhcfbheaaGreat
