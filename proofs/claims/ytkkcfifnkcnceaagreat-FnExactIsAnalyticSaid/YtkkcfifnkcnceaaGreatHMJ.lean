import Derived.Test.YtkkcfifnkcnceaaGreatHSU
import Derived.Test.YtkkcfifnkcnceaaGreatHQ1
import Derived.Test.YtkkcfifnkcnceaaGreatHV90
import Derived.Test.YtkkcfifnkcnceaaGreatHU1
/- The reference: ascending lists of texts: one more in its place. -/
namespace Go.Proofs.YtkkcfifnkcnceaaGreat
open Go.RowKit
def insS (ss : List ByteArray) (s : ByteArray) : List ByteArray := (insB (ss.map bts) (bts s)).map mkS
theorem mkS_bts (s : ByteArray) : mkS (bts s) = s := bts_inj (bts_mkS _)
theorem map_mkS_bts (ss : List ByteArray) : (ss.map bts).map mkS = ss := by
 rw [List.map_map]
 conv => rhs; rw [← List.map_id ss]
 apply List.map_congr_left
 intro s _
 exact mkS_bts s
theorem insS_bts (ss : List ByteArray) (s : ByteArray) : (insS ss s).map bts = insB (ss.map bts) (bts s) := by
 unfold insS
 rw [List.map_map]
 conv => rhs; rw [← List.map_id (insB _ _)]
 apply List.map_congr_left
 intro b _
 exact bts_mkS b
theorem insB_len : ∀ (l : List (List UInt8)) (x : List UInt8), (insB l x).length ≤ l.length + 1 ∧ l.length ≤ (insB l x).length ∧ 0 < (insB l x).length
 | [], x => by simp [insB]
 | y :: l, x => by
  have ih := insB_len l x
  unfold insB
  split
  ·simp only [List.length_cons]; omega
  ·split <;> simp only [List.length_cons] <;> omega
theorem insS_len (ss : List ByteArray) (s : ByteArray) : (insS ss s).length ≤ ss.length + 1 ∧ 0 < (insS ss s).length := by
 have := insB_len (ss.map bts) (bts s)
 unfold insS
 simp only [List.length_map] at *
 omega
theorem less_bts (x s : ByteArray) : Op.bytesLess x.toList s.toList = decide (bts x < bts s) := by
 rw [bytesLess_eq, bts_toList, bts_toList]
theorem insS_at (ss : List ByteArray) (s : ByteArray) (k : Nat) (hk : k ≤ ss.length) (h1 : ∀ j (h : j < ss.length), j < k → bts ss[j] < bts s) (h2 : ∀ h : k < ss.length, ¬ bts ss[k] < bts s) :
  insS ss s = if (∃ h : k < ss.length, ss[k] = s) then ss else ss.take k ++ [s] ++ ss.drop k := by
 unfold insS
 rw [insB_at (ss.map bts) (bts s) k (by simpa using hk) (fun j h hjk => by simpa using h1 j (by simpa using h) hjk) (fun h => by simpa using h2 (by simpa using h))]
 by_cases he : ∃ h : k < ss.length, ss[k] = s
 ·rw [if_pos he]
  obtain ⟨h, e⟩ := he
  rw [if_pos (by rw [List.getElem?_map, List.getElem?_eq_getElem h, e]; rfl), map_mkS_bts]
 ·rw [if_neg he, if_neg (fun h => he (by
   rw [List.getElem?_map] at h
   rcases Nat.lt_or_ge k ss.length with hl | hl
   ·rw [List.getElem?_eq_getElem hl] at h
    exact ⟨hl, bts_inj (by simpa using h)⟩
   ·rw [List.getElem?_eq_none hl] at h; simp at h))]
  rw [List.map_append, List.map_append, ← List.map_take, ← List.map_drop, map_mkS_bts, map_mkS_bts]
  simp [mkS_bts]
def RetO (w : World) (B : Nat) (r : List ByteArray) (e : Ending) (w' : World) : Prop := ∃ b n c, e = .returned (.slice (some b) n c) ∧ OwnS w' B (.slice (some b) n c) r ∧ Keeps w w'
set_option maxRecDepth 20000 in
set_option maxHeartbeats 2000000 in
theorem l02InsertS_any (ss : List ByteArray) (b off n cap : Nat) (s : ByteArray) (B : Nat) (w : World) (hv : OwnS w B (.slice (some ⟨b, off, none⟩) n cap) ss) (hn : ss.length ≤ 1000000) (hB : B ≤ w.heap.size) :
  Calls Tryz.prog 55 #[.slice (some ⟨b, off, none⟩) n cap, .string s] w (RetO w B (insS ss s)) := by
 have HV := hid hv
 have hst := hv.strs (by omega)
 obtain ⟨p', c', e, hnc, hcm, hat, _⟩ := hst.at
 cases e
 unfold maxLen at hcm
 have HST := hid hst; clear hst hv
 have HAT := hid hat; clear hat
 have HINS := hid (insS_at ss s)
 go_enter Tryz.func55, Tryz.ntmps55
 go_wp2
 go_loop [5] (fun i' => ∃ k : Nat, k ≤ ss.length ∧ i' = .int .i64 k ∧ (∀ j (h : j < ss.length), j < k → bts ss[j] < bts s)) (fun i => ss.length - (intOf i).toNat)
 case atStart => exact ⟨0, by omega, rfl, fun j _ h => by omega⟩
 case round =>
  obtain ⟨k, hk, rfl, hbef⟩ := hrel
  have HBF := hid hbef; clear hbef
  by_cases hlt : k < ss.length
  ·have hlt' : (k : Int) < ss.length := by omega
   obtain ⟨b', off', e, hc⟩ := HST.out.get k hlt
   cases e
   have hlb := less_bts ss[k] s
   have heb := beq_bts ss[k] s
   cases hless : Op.bytesLess ss[k].toList s.toList with
   | true =>
    rw [hless] at hlb
    have HN : Hid (∀ j (h : j < ss.length), j < k + 1 → bts ss[j] < bts s) := hid (fun j h hj => by
     by_cases e : j = k
     ·subst e; exact of_decide_eq_true hlb.symm
     ·exact HBF.out j h (by omega))
    clear hlb heb
    generalize ss[k] = x at *
    go_wp2
    go_round
    case rel => exact ⟨k + 1, by omega, by go_num, HN.out⟩
    case measure => simp [intOf]; omega
   | false =>
    rw [hless] at hlb
    have hI := HINS.out k hk HBF.out (fun _ => of_decide_eq_false hlb.symm)
    cases heq : (ss[k].toList == s.toList) with
    | true =>
     rw [heq] at heb
     have HM : Hid (insS ss s = ss) := hid (by rw [hI, if_pos ⟨hlt, bts_inj (of_decide_eq_true heb.symm)⟩])
     clear hlb heb hI
     generalize ss[k] = x at *
     go_wp2
     go_ret
     exact ⟨_, _, _, rfl, by rw [HM.out]; exact HV.out, Keeps.refl _⟩
    | false =>
     rw [heq] at heb
     have HM : Hid (insS ss s = ss.take k ++ [s] ++ ss.drop k) := hid (by
      rw [hI, if_neg (fun ⟨_, e⟩ => of_decide_eq_false heb.symm (by rw [e]))])
     clear hlb heb hI
     generalize ss[k] = x at *
     have HU1 := hid (show Strs (w.alloc (.cells #[] 9)) (.slice (some ⟨b, off, none⟩) k cap) (ss.take k) from by
      have h1 := HAT.out
      refine (strs_of (by simp; omega) (by unfold maxLen; omega) (at_take h1 k) ⟨by simp; omega, by simp; omega⟩).keeps ((Keeps.refl w).alloc _))
     have HU3 := hid (fun w3 (k3 : Keeps w w3) => (show Strs w3 (.slice (some ⟨b, off + k, none⟩) (ss.length - k) (cap - k)) (ss.drop k) from by
      have h1 := (show At w (some ⟨b, off + k, none⟩) ((strCells ss).drop k) from HAT.out.drop k rfl)
      exact (strs_of (by simp) (by unfold maxLen; omega) (at_drop h1) ⟨by simp; omega, by simp; omega⟩).keeps k3))
     go_wp2_with (at_builtin; first
      | (refine appS rfl (.tmp 34) (.tmp 37) rfl w.heap.size _ [] rfl (OwnS.empty w) _ (ss.take k) rfl HU1.out (by simp) (by simp; omega) ?_; intro v2 w2 hv2 hg2 hr2; have k2 : Keeps w w2 := ((Keeps.refl w).alloc _).grown hg2 (fun q hq => hr2 q hq); have hs2 := k2.size)
      | (refine appS rfl (.tmp 39) (.tmp 41) rfl w.heap.size _ ([] ++ ss.take k) rfl (hv2.keeps ((Keeps.refl w2).alloc _)) _ [s] rfl (Strs.lit1 w2 s) (by simp; omega) (by simp; omega) ?_; intro v3 w3 hv3 hg3 hr3; have k3 : Keeps w w3 := (k2.alloc _).grown hg3 (fun q hq => hr3 q hq); have hs3 := k3.size)
      | (refine appS rfl (.tmp 43) (.tmp 46) rfl w.heap.size _ ([] ++ ss.take k ++ [s]) rfl hv3 _ (ss.drop k) rfl (HU3.out w3 k3) (by omega) (by simp; omega) ?_; intro v4 w4 hv4 hg4 hr4; have k4 : Keeps w w4 := k3.grown hg4 (fun q hq => hr4 q hq)))
     go_ret
     obtain ⟨g4, c4, rfl⟩ := own_some hv4 (by simp; omega)
     exact ⟨_, _, _, rfl, by rw [HM.out]; simpa using hv4.mono hB, k4⟩
  ·have hlt' : ¬ ((k : Int) < ss.length) := by omega
   have HM : Hid (insS ss s = ss.take k ++ [s] ++ ss.drop k) := hid (by
    rw [HINS.out k hk HBF.out (fun h => absurd h hlt), if_neg (fun ⟨h, _⟩ => hlt h)])
   have HU1 := hid (show Strs (w.alloc (.cells #[] 9)) (.slice (some ⟨b, off, none⟩) k cap) (ss.take k) from by
    have h1 := HAT.out
    refine (strs_of (by simp; omega) (by unfold maxLen; omega) (at_take h1 k) ⟨by simp; omega, by simp; omega⟩).keeps ((Keeps.refl w).alloc _))
   obtain ⟨q, hq, hrun⟩ := tailS b off ss.length cap k (k : Int) rfl hk hnc
   have HU3 := hid (fun w3 (k3 : Keeps w w3) => (show Strs w3 (.slice q (ss.length - k) (cap - k)) (ss.drop k) from by
    have h1 := hq w (strCells ss) HAT.out (by simp [strCells])
    exact (strs_of (by simp) (by unfold maxLen; omega) (at_drop h1) ⟨by simp; omega, by simp; omega⟩).keeps k3))
   clear hq
   go_wp2_with (at_builtin; first
    | (refine appS rfl (.tmp 34) (.tmp 37) rfl w.heap.size _ [] rfl (OwnS.empty w) _ (ss.take k) rfl HU1.out (by simp) (by simp; omega) ?_; intro v2 w2 hv2 hg2 hr2; have k2 : Keeps w w2 := ((Keeps.refl w).alloc _).grown hg2 (fun q hq => hr2 q hq); have hs2 := k2.size)
    | (refine appS rfl (.tmp 39) (.tmp 41) rfl w.heap.size _ ([] ++ ss.take k) rfl (hv2.keeps ((Keeps.refl w2).alloc _)) _ [s] rfl (Strs.lit1 w2 s) (by simp; omega) (by simp; omega) ?_; intro v3 w3 hv3 hg3 hr3; have k3 : Keeps w w3 := (k2.alloc _).grown hg3 (fun q hq => hr3 q hq); have hs3 := k3.size)
    | (refine appS rfl (.tmp 43) (.tmp 46) rfl w.heap.size _ ([] ++ ss.take k ++ [s]) rfl hv3 _ (ss.drop k) rfl (HU3.out w3 k3) (by omega) (by simp; omega) ?_; intro v4 w4 hv4 hg4 hr4; have k4 : Keeps w w4 := k3.grown hg4 (fun q hq => hr4 q hq)))
   go_ret
   obtain ⟨g4, c4, rfl⟩ := own_some hv4 (by simp; omega)
   exact ⟨_, _, _, rfl, by rw [HM.out]; simpa using hv4.mono hB, k4⟩
end Go.Proofs.YtkkcfifnkcnceaaGreat
namespace Go.Proofs.YtkkcfifnkcnceaaGreat
open Go.RowKit
theorem okAt_eq {ss : List ByteArray} {i : Nat} (h : i < ss.length) : okAt ss i = (isTx ss[i] && (decide (i = 0) || Op.bytesLess (ss[i - 1]'(by omega)).toList ss[i].toList)) := by
 have hg : ∀ i (hi : i < ss.length), ss.getD i ⟨#[]⟩ = ss[i] := fun i hi => by rw [List.getD_eq_getElem?_getD, List.getElem?_eq_getElem hi]; rfl
 unfold okAt
 rw [hg i h, hg (i - 1) (by omega), less_bts]
 rfl
theorem side_false {ss : List ByteArray} {i : Nat} (h : i < ss.length) (hf : okAt ss i = false) : sideB ss = false := by
 unfold sideB
 rw [Bool.eq_false_iff]
 intro h2
 have := List.all_eq_true.1 h2 i (List.mem_range.2 h)
 rw [hf] at this; cases this
theorem side_true {ss : List ByteArray} (h : ∀ i, i < ss.length → okAt ss i = true) : sideB ss = true := by
 unfold sideB
 rw [List.all_eq_true]
 intro i hi
 exact h i (List.mem_range.1 hi)
theorem cmp3 (y x : ByteArray) : (Op.bytesLess y.toList x.toList = true ∧ Op.bytesLess x.toList y.toList = false ∧ (x.toList == y.toList) = false) ∨
  (Op.bytesLess y.toList x.toList = false ∧ Op.bytesLess x.toList y.toList = false ∧ (x.toList == y.toList) = true) ∨ (Op.bytesLess y.toList x.toList = false ∧ Op.bytesLess x.toList y.toList = true ∧ (x.toList == y.toList) = false) := by
 rw [less_bts, less_bts, beq_bts]
 by_cases h1 : bts y < bts x
 ·left
  exact ⟨decide_eq_true h1, decide_eq_false (fun h => txt_irrefl _ (txt_trans h1 h)), decide_eq_false (fun e => by rw [e] at h1; exact txt_irrefl _ h1)⟩
 ·right
  by_cases h2 : bts x = bts y
  ·left
   exact ⟨decide_eq_false h1, decide_eq_false (by rw [h2]; exact txt_irrefl _), decide_eq_true h2⟩
  ·right
   exact ⟨decide_eq_false h1, decide_eq_true (txt_tri h1 (Ne.symm h2)), decide_eq_false h2⟩
def Mid (ss : List ByteArray) : Prop := ∀ s ∈ ss, s.size ≤ 10000000
set_option maxRecDepth 20000 in
set_option maxHeartbeats 2000000 in
theorem isSide_any (ss : List ByteArray) (v : Value) (w : World) (hv : Strs w v ss) (hs : Mid ss) :
  Calls Tryz.prog 62 #[v] w fun e w' => e = .returned (.bool (sideB ss)) ∧ Keeps w w' := by
 obtain ⟨p, cap, rfl, hle, hmx, hlen⟩ := hv.shape
 unfold maxLen at hmx
 have HV := hid hv; clear hv
 have HTX := hid (fun i (h : i < ss.length) wz => isTextA ss[i] wz (hs _ (List.getElem_mem h)))
 have HOK := hid (fun i (h : i < ss.length) => okAt_eq h)
 have HF := hid (fun i (h : i < ss.length) => side_false h)
 have HT := hid (side_true (ss := ss))
 clear hs
 generalize sideB ss = sb at *
 go_enter Tryz.func62, Tryz.ntmps62
 go_wp2
 go_loopw [2, 7] (fun r i' wr => ∃ i : Nat, i ≤ ss.length ∧ i' = .int .i64 i ∧ r = .bool false ∧ (∀ j, j < i → okAt ss j = true) ∧ Keeps w wr) (fun _ i' _ => ss.length - (intOf i').toNat)
 case atStart => exact ⟨0, by omega, rfl, rfl, fun j h => by omega, Keeps.refl _⟩
 case round =>
  obtain ⟨i, hi, rfl, rfl, hall, kw⟩ := hrel
  have HA := hid hall; clear hall
  by_cases hlt : i < ss.length
  ·have hlt' : (i : Int) < ss.length := by omega
   obtain ⟨b1, o1, rfl, h1⟩ := (HV.out.keeps kw).get i hlt
   have HXi := hid (HTX.out i hlt wr)
   have hok := HOK.out i hlt
   cases ht : isTx ss[i]
   ·rw [ht] at HXi hok
    have hsb := HF.out i hlt (by rw [hok]; rfl)
    have HSB := hid hsb; clear hsb hok ht
    generalize ss[i] = x at *
    go_wp2_with fail
    refine HXi.out.mono ?_; rintro e w2 ⟨rfl, k2⟩
    go_wp2_with fail
    go_ret
    exact ⟨ret_bool (by rw [HSB.out]), kw.trans k2⟩
   ·rw [ht, Bool.true_and] at hok
    rw [ht] at HXi
    clear ht
    rcases Nat.eq_zero_or_pos i with rfl | hpos
    ·have HN : Hid (∀ j, j < 0 + 1 → okAt ss j = true) := hid (fun j hj => by
      obtain rfl : j = 0 := by omega
      rw [hok]; simp)
     clear hok
     rw [Nat.add_zero] at h1
     generalize ss[0] = x at *
     go_wp2_with fail
     refine HXi.out.mono ?_; rintro e w2 ⟨rfl, k2⟩
     go_wp2_with fail
     go_roundw
     case rel => exact ⟨0 + 1, by omega, by go_num, rfl, HN.out, kw.trans k2⟩
     case measure => simp [intOf]; omega
    ·have hp' : (i : Int) > 0 := by omega
     rw [decide_eq_false (by omega), Bool.false_or] at hok
     have hi1 : i - 1 < ss.length := by omega
     have HC1 := hid (fun wz (kz : Keeps w wz) => (HV.out.keeps kz).get (i - 1) hi1)
     have hsub : (i : Int) - 1 = ((i - 1 : Nat) : Int) := by omega
     cases hb : Op.bytesLess ss[i - 1].toList ss[i].toList
     ·rw [hb] at hok
      have hsb := HF.out i hlt hok
      have HSB := hid hsb; clear hsb hok
      generalize ss[i] = x at *
      go_wp2_with fail
      refine HXi.out.mono ?_; rintro e w2 ⟨rfl, k2⟩
      obtain ⟨b2, o2, e2, h2⟩ := HC1.out w2 (kw.trans k2)
      cases e2
      generalize ss[i - 1] = y at *
      go_wp2_with fail
      go_ret
      exact ⟨ret_bool (by rw [HSB.out]), kw.trans k2⟩
     ·rw [hb] at hok
      have HN : Hid (∀ j, j < i + 1 → okAt ss j = true) := hid (fun j hj => by
       by_cases e : j = i
       ·subst e; exact hok
       ·exact HA.out j (by omega))
      clear hok
      generalize ss[i] = x at *
      go_wp2_with fail
      refine HXi.out.mono ?_; rintro e w2 ⟨rfl, k2⟩
      obtain ⟨b2, o2, e2, h2⟩ := HC1.out w2 (kw.trans k2)
      cases e2
      generalize ss[i - 1] = y at *
      go_wp2_with fail
      go_roundw
      case rel => exact ⟨i + 1, by omega, by go_num, rfl, HN.out, kw.trans k2⟩
      case measure => simp [intOf]; omega
  ·obtain rfl : i = ss.length := by omega
   have hlt' : ¬ ((ss.length : Int) < ss.length) := by omega
   have HSB := hid (HT.out HA.out)
   go_wp2_with fail
   go_ret
   exact ⟨ret_bool (by rw [HSB.out]), kw⟩
set_option maxRecDepth 20000 in
set_option maxHeartbeats 2000000 in
theorem l11Side_any (ss : List ByteArray) (v : Value) (w : World) (hv : Strs w v ss) (hs : Mid ss) :
  Calls Tryz.prog 56 #[v] w fun e w' => e = .returned (.bool (decide (ss.length ≤ 16) && sideB ss)) ∧ Keeps w w' := by
 obtain ⟨p, cap, rfl, hle, hmx, hlen⟩ := hv.shape
 unfold maxLen at hmx
 have HV := hid hv; clear hv
 have HTX := hid (fun i (h : i < ss.length) wz => l02GoodA ss[i] wz (hs _ (List.getElem_mem h)))
 have HOK := hid (fun i (h : i < ss.length) => okAt_eq h)
 have HF := hid (fun i (h : i < ss.length) => side_false h)
 have HT := hid (side_true (ss := ss))
 clear hs
 generalize sideB ss = sb at *
 by_cases h16 : ss.length ≤ 16
 ·rw [decide_eq_true h16, Bool.true_and]
  have h16' : ¬ ((ss.length : Int) > 16) := by omega
  go_enter Tryz.func56, Tryz.ntmps56
  go_wp2
  go_loopw [2, 3] (fun r i' wr => ∃ i : Nat, i ≤ ss.length ∧ i' = .int .i64 i ∧ r = .bool false ∧ (∀ j, j < i → okAt ss j = true) ∧ Keeps w wr) (fun _ i' _ => ss.length - (intOf i').toNat)
  case atStart => exact ⟨0, by omega, rfl, rfl, fun j h => by omega, Keeps.refl _⟩
  case round =>
   obtain ⟨i, hi, rfl, rfl, hall, kw⟩ := hrel
   have HA := hid hall; clear hall
   by_cases hlt : i < ss.length
   ·have hlt' : (i : Int) < ss.length := by omega
    obtain ⟨b1, o1, rfl, h1⟩ := (HV.out.keeps kw).get i hlt
    have HXi := hid (HTX.out i hlt wr)
    have hok := HOK.out i hlt
    cases ht : isTx ss[i]
    ·unfold GoodR at HXi
     rw [ht] at hok
     have hsb := HF.out i hlt (by rw [hok]; rfl)
     have HSB := hid hsb; clear hsb hok
     generalize ss[i] = x at *
     go_wp2_with fail
     refine HXi.out.mono ?_; rintro e w2 ⟨vg, rfl, k2, _⟩
     rw [ht]
     go_wp2_with fail
     go_quiet (fail)
     go_wp2_with fail
     go_ret
     exact ⟨ret_bool (by rw [HSB.out]), (kw.trans k2).drewN _⟩
    ·unfold GoodR at HXi
     rw [ht, Bool.true_and] at hok
     rcases Nat.eq_zero_or_pos i with rfl | hpos
     ·have HN : Hid (∀ j, j < 0 + 1 → okAt ss j = true) := hid (fun j hj => by
       obtain rfl : j = 0 := by omega
       rw [hok]; simp)
      clear hok
      rw [Nat.add_zero] at h1
      generalize ss[0] = x at *
      go_wp2_with fail
      refine HXi.out.mono ?_; rintro e w2 ⟨vg, rfl, k2, _⟩
      rw [ht]
      go_wp2_with fail
      go_quiet (fail)
      go_wp2_with fail
      go_roundw
      case rel => exact ⟨0 + 1, by omega, by go_num, rfl, HN.out, (kw.trans k2).drewN _⟩
      case measure => simp [intOf]; omega
     ·have hp' : (i : Int) > 0 := by omega
      rw [decide_eq_false (by omega), Bool.false_or] at hok
      have hi1 : i - 1 < ss.length := by omega
      have HC1 := hid (fun wz (kz : Keeps w wz) => (HV.out.keeps kz).get (i - 1) hi1)
      have HC0 := hid (fun wz (kz : Keeps w wz) => (HV.out.keeps kz).get i hlt)
      have hsub : (i : Int) - 1 = ((i - 1 : Nat) : Int) := by omega
      rcases cmp3 ss[i - 1] ss[i] with ⟨hb, hl, he⟩ | ⟨hb, hl, he⟩ | ⟨hb, hl, he⟩
      ·rw [hb] at hok
       have HN : Hid (∀ j, j < i + 1 → okAt ss j = true) := hid (fun j hj => by
        by_cases e : j = i
        ·subst e; exact hok
        ·exact HA.out j (by omega))
       clear hok
       go_wp2_with fail
       refine HXi.out.mono ?_; rintro e w2 ⟨vg, rfl, k2, _⟩
       rw [ht]
       obtain ⟨b2, o2, e2, h2⟩ := HC1.out w2 (kw.trans k2)
       cases e2
       obtain ⟨b3, o3, e3, h3⟩ := HC0.out w2 (kw.trans k2)
       cases e3
       generalize ss[i - 1] = y at *
       generalize ss[i] = x at *
       go_wp2_with fail
       go_quiet (fail)
       go_wp2_with fail
       go_roundw
       case rel => exact ⟨i + 1, by omega, by go_num, rfl, HN.out, (kw.trans k2).drewN _⟩
       case measure => simp [intOf]; omega
      ·rw [hb] at hok
       have hsb := HF.out i hlt hok
       have HSB := hid hsb; clear hsb hok
       go_wp2_with fail
       refine HXi.out.mono ?_; rintro e w2 ⟨vg, rfl, k2, _⟩
       rw [ht]
       obtain ⟨b2, o2, e2, h2⟩ := HC1.out w2 (kw.trans k2)
       cases e2
       obtain ⟨b3, o3, e3, h3⟩ := HC0.out w2 (kw.trans k2)
       cases e3
       generalize ss[i - 1] = y at *
       generalize ss[i] = x at *
       go_wp2_with fail
       go_quiet (fail)
       go_wp2_with fail
       go_ret
       exact ⟨ret_bool (by rw [HSB.out]), (kw.trans k2).drewN _⟩
      ·rw [hb] at hok
       have hsb := HF.out i hlt hok
       have HSB := hid hsb; clear hsb hok
       go_wp2_with fail
       refine HXi.out.mono ?_; rintro e w2 ⟨vg, rfl, k2, _⟩
       rw [ht]
       obtain ⟨b2, o2, e2, h2⟩ := HC1.out w2 (kw.trans k2)
       cases e2
       obtain ⟨b3, o3, e3, h3⟩ := HC0.out w2 (kw.trans k2)
       cases e3
       generalize ss[i - 1] = y at *
       generalize ss[i] = x at *
       go_wp2_with fail
       go_quiet (fail)
       go_wp2_with fail
       go_ret
       exact ⟨ret_bool (by rw [HSB.out]), (kw.trans k2).drewN _⟩
   ·obtain rfl : i = ss.length := by omega
    have hlt' : ¬ ((ss.length : Int) < ss.length) := by omega
    have HSB := hid (HT.out HA.out)
    go_wp2_with fail
    go_ret
    exact ⟨ret_bool (by rw [HSB.out]), kw⟩
 ·rw [decide_eq_false h16, Bool.false_and]
  have h16' : (ss.length : Int) > 16 := by omega
  go_enter Tryz.func56, Tryz.ntmps56
  go_wp2
  go_ret
  exact ⟨rfl, Keeps.refl _⟩
theorem BoxQ.made (w : World) (v u : Value) (T : TypeId) : (w.alloc (.cells #[v, u] T)).cell? ⟨w.heap.size, 0, none⟩ = some v ∧ (w.alloc (.cells #[v, u] T)).cell? ⟨w.heap.size, 1, none⟩ = some u := by
 constructor <;> simp
set_option maxRecDepth 20000 in
set_option maxHeartbeats 1000000 in
theorem isModalSequent_any (ss tt : List ByteArray) (v u : Value) (w : World) (hv : Strs w v ss) (hu : Strs w u tt) (hs : Mid ss) (ht : Mid tt) :
  Calls Tryz.prog 26 #[.agg #[v, u]] w fun e w' => e = .returned (.bool (isQ ss tt)) ∧ Keeps w w' := by
 have kA := (Keeps.refl w).alloc (.cells #[v, u] 26)
 obtain ⟨c0, c1⟩ := BoxQ.made w v u 26
 have HS := hid (fun wz (kz : Keeps w wz) => isSide_any ss v wz (hv.keeps kz) hs)
 have HT := hid (fun wz (kz : Keeps w wz) => isSide_any tt u wz (hu.keeps kz) ht)
 have HQ : Hid (isQ ss tt = (decide (ss.length ≤ 16) && decide (tt.length ≤ 16) && sideB ss && sideB tt)) := hid rfl
 obtain ⟨p, cap, rfl, hle, hmx, _⟩ := hv.shape
 obtain ⟨q, cap2, rfl, hle2, hmx2, _⟩ := hu.shape
 unfold maxLen at hmx hmx2
 clear hs ht
 generalize sideB ss = a at *
 generalize sideB tt = b at *
 by_cases h1 : ss.length ≤ 16
 ·have h1' : (ss.length : Int) ≤ 16 := by omega
  by_cases h2 : tt.length ≤ 16
  ·have h2' : (tt.length : Int) ≤ 16 := by omega
   rw [decide_eq_true h1, decide_eq_true h2] at HQ
   cases a
   ·go_enter Tryz.func26, Tryz.ntmps26
    go_wp2_with fail
    refine (HS.out _ kA).mono ?_; rintro e w2 ⟨rfl, k2⟩
    go_wp2_with fail
    go_ret
    exact ⟨ret_bool (by rw [HQ.out]; rfl), kA.trans k2⟩
   ·go_enter Tryz.func26, Tryz.ntmps26
    go_wp2_with fail
    refine (HS.out _ kA).mono ?_; rintro e w2 ⟨rfl, k2⟩
    replace c0 := k2.cell c0
    replace c1 := k2.cell c1
    go_wp2_with fail
    refine (HT.out _ (kA.trans k2)).mono ?_; rintro e w3 ⟨rfl, k3⟩
    go_wp2_with fail
    go_ret
    exact ⟨ret_bool (by rw [HQ.out]; cases b <;> rfl), (kA.trans k2).trans k3⟩
  ·have h2' : ¬ ((tt.length : Int) ≤ 16) := by omega
   rw [decide_eq_true h1, decide_eq_false h2] at HQ
   go_enter Tryz.func26, Tryz.ntmps26
   go_wp2_with fail
   go_ret
   exact ⟨ret_bool (by rw [HQ.out]; rfl), kA⟩
 ·have h1' : ¬ ((ss.length : Int) ≤ 16) := by omega
  rw [decide_eq_false h1] at HQ
  go_enter Tryz.func26, Tryz.ntmps26
  go_wp2_with fail
  go_ret
  exact ⟨ret_bool (by rw [HQ.out]; rfl), kA⟩
set_option maxRecDepth 20000 in
set_option maxHeartbeats 1000000 in
theorem l11Is_any (ss tt : List ByteArray) (v u : Value) (w : World) (hv : Strs w v ss) (hu : Strs w u tt) (hs : Mid ss) (ht : Mid tt) :
  Calls Tryz.prog 23 #[.agg #[v, u]] w fun e w' => e = .returned (.bool (isQ ss tt)) ∧ Keeps w w' := by
 have kA := (Keeps.refl w).alloc (.cells #[v, u] 26)
 obtain ⟨c0, c1⟩ := BoxQ.made w v u 26
 have HS := hid (fun wz (kz : Keeps w wz) => l11Side_any ss v wz (hv.keeps kz) hs)
 have HT := hid (fun wz (kz : Keeps w wz) => l11Side_any tt u wz (hu.keeps kz) ht)
 have HQ : Hid (isQ ss tt = (decide (ss.length ≤ 16) && decide (tt.length ≤ 16) && sideB ss && sideB tt)) := hid rfl
 obtain ⟨p, cap, rfl, hle, hmx, _⟩ := hv.shape
 obtain ⟨q, cap2, rfl, hle2, hmx2, _⟩ := hu.shape
 clear hs ht
 generalize sideB ss = a at *
 generalize sideB tt = b at *
 generalize decide (ss.length ≤ 16) = a1 at *
 generalize decide (tt.length ≤ 16) = b1 at *
 have HE : Hid (isQ ss tt = ((a1 && a) && (b1 && b))) := hid (by rw [HQ.out]; cases a1 <;> cases b1 <;> cases a <;> cases b <;> rfl)
 clear HQ
 generalize (a1 && a) = a at *
 generalize (b1 && b) = b at *
 cases a
 ·go_enter Tryz.func23, Tryz.ntmps23
  go_wp2_with fail
  refine (HS.out _ kA).mono ?_; rintro e w2 ⟨rfl, k2⟩
  go_wp2_with fail
  go_ret
  exact ⟨ret_bool (by rw [HE.out]; rfl), kA.trans k2⟩
 ·go_enter Tryz.func23, Tryz.ntmps23
  go_wp2_with fail
  refine (HS.out _ kA).mono ?_; rintro e w2 ⟨rfl, k2⟩
  replace c0 := k2.cell c0
  replace c1 := k2.cell c1
  go_wp2_with fail
  refine (HT.out _ (kA.trans k2)).mono ?_; rintro e w3 ⟨rfl, k3⟩
  go_wp2_with fail
  go_ret
  exact ⟨ret_bool (by rw [HE.out]; cases b <;> rfl), (kA.trans k2).trans k3⟩
end Go.Proofs.YtkkcfifnkcnceaaGreat
namespace Go.Proofs.YtkkcfifnkcnceaaGreat
open Go.RowKit
set_option maxRecDepth 20000 in
theorem formulas_any (ss tt : List ByteArray) (v u : Value) (w : World) (hv : Strs w v ss) (hu : Strs w u tt) (hl : ss.length + tt.length ≤ 1000000) :
  Calls Tryz.prog 48 #[.agg #[v, u]] w (RetSt w (ss ++ tt)) := by
 have kA := (Keeps.refl w).alloc (.cells #[v, u] 26)
 obtain ⟨c0, c1⟩ := BoxQ.made w v u 26
 have hC := concatS_any [ss, tt] _ _ (StrL.lit2 (hv.keeps kA) (hu.keeps kA)) (by simp [fl]; omega)
 rw [show fl [ss, tt] [ss, tt].length = ss ++ tt from by simp [fl]] at hC
 rw [show (w.alloc (.cells #[v, u] 26)).heap.size = w.heap.size + 1 by simp] at hC
 have HC := hid hC; clear hC
 have kL := kA.alloc (.cells #[v, u] 24)
 obtain ⟨p, c, rfl, _⟩ := hv.shape
 obtain ⟨q, c2, rfl, _⟩ := hu.shape
 clear hv hu
 go_enter Tryz.func48, Tryz.ntmps48
 go_wp2_with fail
 refine HC.out.mono ?_; rintro e w2 ⟨v2, rfl, hv2, k2⟩
 go_wp2_with fail
 go_ret
 exact ⟨_, rfl, hv2.mono kL.size, kL.trans k2⟩
theorem encs_tot {G : List Fm} (h : Fine G) : tot (G.map Fm.enc) ≤ 40 * G.length := by
 induction G with
 | nil => simp [tot]
 | cons a l ih =>
  have h1 := ih (fun x hx => h x (List.mem_cons_of_mem _ hx))
  have h2 := (h a (List.mem_cons_self ..)).2
  have : tot ((a :: l).map Fm.enc) = a.enc.length + tot (l.map Fm.enc) := rfl
  rw [this, List.length_cons]
  omega
set_option maxRecDepth 20000 in
set_option maxHeartbeats 1000000 in
theorem formulasOf_any (ss : List ByteArray) (hs : ∀ s ∈ ss, ∃ t, IsTx s t) (v : Value) (w : World) (hv : Strs w v ss) :
  Calls Tryz.prog 46 #[v] w (RetL w ((fmL ss).map Fm.enc)) := by
 obtain ⟨p, cap, rfl, hle, hmx, hlen⟩ := hv.shape
 unfold maxLen at hmx
 have HV := hid hv; clear hv
 have HP := hid (fun i (h : i < ss.length) wz => parsedT (txF ss[i]) ss[i] wz (txF_tx (hs _ (List.getElem_mem h))))
 have HTK : Hid (∀ i (h : i < ss.length), ((fmL ss).map Fm.enc).take (i + 1) = ((fmL ss).map Fm.enc).take i ++ [(txF ss[i]).enc]) := hid (fun i h => by
  rw [List.take_succ_eq_append_getElem (by simp [fmL, h])]
  simp [fmL])
 have HLN : Hid (∀ i, (((fmL ss).map Fm.enc).take i).length ≤ ss.length) := hid (fun i => by rw [List.length_take, List.length_map, fmL_len]; exact Nat.min_le_right _ _)
 have HFN : Hid (((fmL ss).map Fm.enc).take ss.length = (fmL ss).map Fm.enc) := hid (List.take_of_length_le (by simp [fmL]))
 clear hs
 go_enter Tryz.func46, Tryz.ntmps46
 go_wp2
 go_loopw [3, 8] (fun o i' wr => ∃ k : Nat, k ≤ ss.length ∧ i' = .int .i64 k ∧ OwnL wr w.heap.size o (((fmL ss).map Fm.enc).take k) ∧ Keeps w wr) (fun _ i _ => ss.length - (intOf i).toNat)
 case atStart => exact ⟨0, by omega, rfl, OwnL.nil _ _, Keeps.refl w⟩
 case round =>
  obtain ⟨k, hk, rfl, hown, kw⟩ := hrel
  have hsz := kw.size
  by_cases hlt : k < ss.length
  ·have hlt' : (k : Int) < ss.length := by omega
   obtain ⟨b1, o1, rfl, h1⟩ := (HV.out.keeps kw).get k hlt
   have HPk := hid (HP.out k hlt wr)
   have HT := hid (HTK.out k hlt)
   have hll := HLN.out k
   generalize (txF ss[k]).enc = y at *
   generalize hL : ((fmL ss).map Fm.enc).take k = L at *
   have HL := hid hL; clear hL
   generalize ss[k] = x at *
   go_wp2_with fail
   refine HPk.out.mono ?_; rintro e w2 ⟨v2, rfl, hv2, k2⟩
   obtain ⟨p2, n2, c2, rfl⟩ : ∃ p n c, v2 = .slice p n c := by obtain ⟨p, c, e, _⟩ := At.of_own hv2; exact ⟨p, _, c, e⟩
   have k3 := k2.alloc (.cells #[.slice p2 n2 c2] 95)
   have hv3 := hv2.keeps ((Keeps.refl w2).alloc (.cells #[.slice p2 n2 c2] 95))
   have hat := At.lit1 w2 (.slice p2 n2 c2) 95
   go_wp2_with (at_builtin; refine appL rfl _ _ rfl w.heap.size _ L rfl wr hown k3 _ _ hv3 hsz _ _ rfl hat (by omega) ?_; intro v4 w4 hv4 hg4 hr4; have k4 := (kw.trans k3).grown hg4 hr4)
   go_roundw
   case rel => exact ⟨k + 1, by omega, by go_num, by rw [HT.out]; exact hv4, k4⟩
   case measure => simp [intOf]; omega
  ·obtain rfl : k = ss.length := by omega
   have hlt' : ¬ ((ss.length : Int) < ss.length) := by omega
   rw [HFN.out] at hown
   go_wp2
   go_ret
   exact ⟨_, rfl, hown, kw⟩
def txtsTo (G : List Fm) (k i : Nat) : List ByteArray := ((subG (G.take k) ++ (subs (G.getD k .fls)).take i).map Fm.body).map mkS
theorem txtsTo_zero (G : List Fm) : txtsTo G 0 0 = [] := by simp [txtsTo, subG]
theorem txtsTo_next {G : List Fm} {k : Nat} (h : k < G.length) : txtsTo G k (G[k].enc.length) = txtsTo G (k + 1) 0 := by
 have hg : G.getD k .fls = G[k] := by rw [List.getD_eq_getElem?_getD, List.getElem?_eq_getElem h]; rfl
 unfold txtsTo
 rw [hg, ← subs_len, List.take_length, List.take_succ_eq_append_getElem h]
 simp only [subG, List.flatMap_append, List.flatMap_cons, List.flatMap_nil, List.append_nil, List.take_zero]
theorem txtsTo_more {G : List Fm} {k i : Nat} (h : k < G.length) (hi : i < (subs G[k]).length) : txtsTo G k (i + 1) = txtsTo G k i ++ [mkS ((subs G[k])[i]).body] := by
 have hg : G.getD k .fls = G[k] := by rw [List.getD_eq_getElem?_getD, List.getElem?_eq_getElem h]; rfl
 unfold txtsTo
 rw [hg, List.take_succ_eq_append_getElem hi]
 simp only [List.map_append, List.map_cons, List.map_nil, List.append_assoc]
theorem txtsTo_end (G : List Fm) : txtsTo G G.length 0 = ((subG G).map Fm.body).map mkS := by simp [txtsTo]
theorem subG_len {G : List Fm} (h : Fine G) : (subG G).length ≤ 40 * G.length := by
 induction G with
 | nil => simp [subG]
 | cons a l ih =>
  have h1 := ih (fun x hx => h x (List.mem_cons_of_mem _ hx))
  have h2 := (h a (List.mem_cons_self ..)).2
  have : subG (a :: l) = subs a ++ subG l := by simp [subG]
  rw [this, List.length_append, subs_len, List.length_cons]
  omega
theorem txtsTo_len {G : List Fm} (h : Fine G) {k i : Nat} (_hk : k ≤ G.length) : (txtsTo G k i).length ≤ 40 * G.length + 40 := by
 unfold txtsTo
 rw [List.length_map, List.length_map, List.length_append]
 have h1 := subG_len (G := G.take k) (fun x hx => h x (List.mem_of_mem_take hx))
 have h2 : ((subs (G.getD k .fls)).take i).length ≤ 40 := by
  rw [List.length_take]
  refine Nat.le_trans (Nat.min_le_right _ _) ?_
  rw [subs_len]
  rcases Nat.lt_or_ge k G.length with hl | hl
  ·rw [List.getD_eq_getElem?_getD, List.getElem?_eq_getElem hl]
   exact (h _ (List.getElem_mem hl)).2
  ·rw [List.getD_eq_getElem?_getD, List.getElem?_eq_none hl]
   simp [Fm.enc]
 rw [List.length_take] at h1
 have := Nat.min_le_left k G.length
 have : min k G.length ≤ G.length := Nat.min_le_right _ _
 omega
set_option maxRecDepth 100000 in
set_option maxHeartbeats 4000000 in
theorem subformulas_any (G : List Fm) (hG : Fine G) (hn : G.length ≤ 1000) (v : Value) (w : World) (hv : NdsL w v (G.map Fm.enc)) :
  Calls Tryz.prog 45 #[v] w (RetSt w (subT G)) := by
 obtain ⟨p, cap, hvs, hle, hmx, hlen, _⟩ := id hv
 rw [List.length_map] at hvs hle
 subst hvs
 unfold maxLen at hmx
 have HV := hid hv; clear hv
 have HGET : Hid (∀ k (h : k < G.length), ∃ b off u, p = some ⟨b, off, none⟩ ∧ w.cell? ⟨b, off + k, none⟩ = some u ∧ Nds w u G[k].enc) := hid (fun k h => by
  obtain ⟨b, off, u, h1, h2, h3⟩ := HV.out.get k (by simpa using h)
  exact ⟨b, off, u, h1, h2, by simpa using h3⟩)
 have HPT : Hid (∀ k (h : k < G.length) i (hi : i < (subs G[k]).length) u wz, Nds wz u G[k].enc → Calls Tryz.prog 93 #[u, .int .i64 (i : Int)] wz (RetS wz ((subs G[k])[i]).enc)) := hid (fun k h i hi u wz hu => by
  obtain ⟨l, r, h1, h2⟩ := subs_at G[k] i hi
  exact part_any _ l _ r u i wz hu h1 (by omega))
 have HTX : Hid (∀ k (h : k < G.length) i (hi : i < (subs G[k]).length) u wz, Nds wz u ((subs G[k])[i]).enc → Calls Tryz.prog 92 #[u] wz fun e w' => ∃ s, e = .returned (.string s) ∧ bts s = ((subs G[k])[i]).body ∧ Keeps wz w') := hid (fun k h i hi u wz hu => by
  have hf := hG _ (List.getElem_mem h)
  have hm := List.getElem_mem hi
  exact text_any _ (subs_wf hf.1 _ hm) (by have := subs_le _ hm; omega) u wz hu)
 have HSL : Hid (∀ k (h : k < G.length), (subs G[k]).length = G[k].enc.length) := hid (fun k h => subs_len _)
 have H40 : Hid (∀ k (h : k < G.length), G[k].enc.length ≤ 40) := hid (fun k h => (hG _ (List.getElem_mem h)).2)
 have HZ := hid (txtsTo_zero G)
 have HNX := hid (fun k (h : k < G.length) => txtsTo_next h)
 have HMR := hid (fun k (h : k < G.length) i (hi : i < (subs G[k]).length) => txtsTo_more h hi)
 have HLN := hid (fun k i (hk : k ≤ G.length) => txtsTo_len hG (k := k) (i := i) hk)
 have HEN := hid (txtsTo_end G)
 have hbs0 : ((subG G).map Fm.body).length ≤ 1000000 := by rw [List.length_map]; have := subG_len hG; omega
 have HST : Hid (subT G = (sortB ((subG G).map Fm.body)).map mkS) := hid rfl
 clear hG
 go_enter Tryz.func45, Tryz.ntmps45
 go_wp2
 go_loopw [3, 9] (fun o k' wr => ∃ k : Nat, k ≤ G.length ∧ k' = .int .i64 k ∧ OwnS wr w.heap.size o (txtsTo G k 0) ∧ Keeps w wr) (fun _ k' _ => G.length - (intOf k').toNat)
 case atStart => exact ⟨0, by omega, rfl, by rw [HZ.out]; exact OwnS.nil _ _, Keeps.refl _⟩
 case round =>
  obtain ⟨k, hk, rfl, hown, kw⟩ := hrel
  by_cases hlt : k < G.length
  ·have hlt' : (k : Int) < G.length := by omega
   obtain ⟨b1, o1, u, rfl, h1w, hu⟩ := HGET.out k hlt
   have h1 := kw.cell h1w
   obtain ⟨q1, n1, c1, rfl⟩ := hu.shape
   have hn1 : n1 = G[k].enc.length := by obtain ⟨_, _, e, _⟩ := hu; cases e; rfl
   have h40 := H40.out k hlt
   have HU := hid hu; clear hu h1w
   have HN1 := hid hn1; clear hn1
   have hn40 : n1 ≤ 40 := by rw [HN1.out]; exact h40
   have HO := hid hown; clear hown
   go_wp2
   go_loopw [3, 15] (fun o i' wr' => ∃ i : Nat, i ≤ n1 ∧ i' = .int .i64 i ∧ OwnS wr' w.heap.size o (txtsTo G k i) ∧ Keeps w wr') (fun _ i' _ => n1 - (intOf i').toNat)
   case atStart => exact ⟨0, by omega, rfl, HO.out, kw⟩
   case round =>
    obtain ⟨i, hi, rfl, howni, kk⟩ := hrel
    clear h1
    by_cases hlti : i < n1
    ·have hlti' : (i : Int) < n1 := by omega
     have his : i < (subs G[k]).length := by rw [HSL.out k hlt, ← HN1.out]; exact hlti
     have HP := hid (HPT.out k hlt i his _ _ (HU.out.keeps kk))
     have HX := hid (fun u' wz hz => HTX.out k hlt i his u' wz hz)
     have HM := hid (HMR.out k hlt i his)
     have hll := HLN.out k i hk
     have hsz := kk.size
     generalize hT : txtsTo G k i = T at *
     have HT := hid hT; clear hT
     generalize (subs G[k])[i] = y at *
     go_wp2_with fail
     refine HP.out.mono ?_; rintro e w' ⟨v2, rfl, hv2, rfl⟩
     have HXv := hid (HX.out _ _ hv2)
     go_wp2_with fail
     refine HXv.out.mono ?_; rintro e w3 ⟨s, rfl, hs, k3⟩
     have hs' : mkS y.body = s := by rw [← hs]; exact mkS_bts s
     have HS' := hid hs'; clear hs' hs
     have ho3 := howni.keeps k3
     have hs3 := k3.size
     clear howni
     go_wp2_with (at_builtin; refine appS rfl _ _ rfl w.heap.size _ T rfl (ho3.keeps ((Keeps.refl w3).alloc _)) _ [s] rfl (Strs.lit1 w3 _) (by simp; omega) (by simp; omega) ?_; intro v4 w4 hv4 hg4 hr4; have k4 := ((kk.trans k3).alloc (.cells #[.string s] 9)).grown hg4 (fun q hq => hr4 q hq))
     go_roundw
     case rel => exact ⟨i + 1, by omega, by go_num, by rw [HM.out, HS'.out]; exact hv4, k4⟩
     case measure => simp [intOf]; omega
    ·obtain rfl : i = n1 := by omega
     have hlti' : ¬ ((i : Int) < i) := by omega
     have hx := HNX.out k hlt
     rw [← HN1.out] at hx
     rw [hx] at howni
     clear hx
     go_wp2_with fail
     go_roundw
     case rel => exact ⟨k + 1, by omega, by go_num, howni, kk⟩
     case measure => simp [intOf]; omega
  ·obtain rfl : k = G.length := by omega
   have hlt' : ¬ ((G.length : Int) < G.length) := by omega
   rw [HEN.out] at hown
   have HSO := hid (sortS_any _ _ w wr hown kw (by omega))
   clear hown
   go_wp2_with fail
   refine HSO.out.mono ?_; rintro e w2 ⟨rfl, hc2⟩
   have HC2 : Hid (CompR w ((subG G).map Fm.body) _ w2) := hid hc2
   clear hc2
   unfold CompR at HC2
   go_wp2_with fail
   refine HC2.out.mono ?_; rintro e w3 ⟨v3, rfl, hv3, k3⟩
   go_wp2_with fail
   go_ret
   exact ⟨_, rfl, by rw [HST.out]; exact hv3, k3⟩
end Go.Proofs.YtkkcfifnkcnceaaGreat
