/- ElementaryParts: both sides. -/
import Derived.Test.YtgnehffglhbggaaGreatGMY
import Derived.Test.YtgnehffglhbggaaGreatGNV
import Derived.Test.YtgnehffglhbggaaGreatGNH1
import Derived.Test.YtgnehffglhbggaaGreatGNT
namespace Go.Proofs.YtgnehffglhbggaaGreat
open Go.RowKit
noncomputable def epR (ss tt : List ByteArray) : List ByteArray := if isQ ss tt = true then elT (fmL (ss ++ tt)) else []
noncomputable def epC (ss tt : List ByteArray) : Int := if isQ ss tt = true then 0 else 1
theorem elT_len {G : List Fm} (h : Fine G) : (elT G).length ≤ 40 * G.length := by
  unfold elT
  exact Nat.le_trans (List.length_filter_le _ _) (subT_len h)
theorem epG {ss tt : List ByteArray} (h : isQ ss tt = true) : Fine (fmL (ss ++ tt)) ∧ (fmL (ss ++ tt)).length ≤ 32 := by
  obtain ⟨h1, h2, h3, h4⟩ := isQ_iff h
  exact ⟨by rw [fmL_append]; exact (fmL_fine h3).append (fmL_fine h4), by rw [fmL_len, List.length_append]; omega⟩
theorem epR_len (ss tt : List ByteArray) : (epR ss tt).length ≤ 1280 := by
  unfold epR
  split
  · rename_i h
    have h1 := elT_len (epG h).1
    have h2 := (epG h).2
    omega
  · simp
/-- a fresh list of strings and a code -/
def RetSC (w : World) (r : List ByteArray) (c : Int) (e : Ending) (w' : World) : Prop := ∃ v, e = .returned (.tuple #[v, .int .i64 c]) ∧ OwnS w' w.heap.size v r ∧ Keeps w w'
--
set_option maxRecDepth 100000 in
set_option maxHeartbeats 4000000 in
theorem implElementaryParts (ss tt : List ByteArray) (v u : Value) (w : World) (hv : Strs w v ss) (hu : Strs w u tt) (hs : Mid ss) (ht : Mid tt) :
    Calls Tryz.prog 32 #[.agg #[v, u]] w (RetSC w (epR ss tt) (epC ss tt)) := by
  have kA := (Keeps.refl w).alloc (.cells #[v, u] 29)
  obtain ⟨c0, c1⟩ := BoxQ.made w v u 29
  have HI := hid (isModalSequent_any ss tt v u _ (hv.keeps kA) (hu.keeps kA) hs ht)
  have HR : Hid (epR ss tt = if isQ ss tt = true then elT (fmL (ss ++ tt)) else []) := hid rfl
  have HC : Hid (epC ss tt = if isQ ss tt = true then 0 else 1) := hid rfl
  by_cases hq : isQ ss tt = true
  · rw [if_pos hq] at HR HC
    rw [hq] at HI
    rw [HR.out, HC.out]
    obtain ⟨h16, h16', hS, hT⟩ := isQ_iff hq
    have hep := epG hq
    have hel := elT_len hep.1
    have hfx : ∀ x ∈ (elF (fmL (ss ++ tt))).map Fm.enc, x.length ≤ 2147483648 := fun x hx => by
      obtain ⟨t, ht, rfl⟩ := List.mem_map.1 hx
      have := (elF_fine hep.1 t ht).2
      omega
    have HE := hid (fun wz (kz : Keeps w wz) => elementaryParts_any ss tt v u wz (hv.keeps kz) (hu.keeps kz) hS hT h16 h16')
    have hfl := elF_len (fmL (ss ++ tt))
    obtain ⟨p, c, rfl, _⟩ := hv.shape
    obtain ⟨q, c2, rfl, _⟩ := hu.shape
    have hgl := hep.2
    have HFX := hid hfx
    clear hv hu hs ht hS hT hq hep HR HC hfx
    generalize hE : elT (fmL (ss ++ tt)) = E at *
    have HEE := hid hE; clear hE
    generalize hF : (elF (fmL (ss ++ tt))).map Fm.enc = F at *
    have hFl : F.length = E.length := by rw [← hF, List.length_map, hfl]
    have HFF := hid hF; clear hF hfl
    have HFL := hid hFl; clear hFl
    have hEl : E.length ≤ 10000 := by omega
    go_enter Tryz.func32, Tryz.ntmps32
    go_wp2_with fail
    refine HI.out.mono ?_; rintro e w2 ⟨rfl, k2⟩
    replace c0 := k2.cell c0
    replace c1 := k2.cell c1
    go_wp2_with fail
    refine (HE.out _ (kA.trans k2)).mono ?_; rintro e w3 ⟨v3, rfl, hv3, k3⟩
    have kk := (kA.trans k2).trans k3
    have hEL := hv3.elL (by omega) HFX.out
    obtain ⟨p3, c3, rfl, hle3, hmx3, _⟩ := id hEL
    unfold maxLen at hmx3
    have HEL := hid hEL; clear hv3 hEL
    have HTK : Hid (∀ i (h : i < E.length), E.take (i + 1) = E.take i ++ [E[i]]) := hid (fun i h => List.take_succ_eq_append_getElem h)
    have HTE : Hid (E.take E.length = E) := hid (List.take_length)
    have HTL : Hid (∀ i, (E.take i).length ≤ E.length) := hid (fun i => by rw [List.length_take]; exact Nat.min_le_right _ _)
    go_wp2
    go_loopw [4, 13] (fun o i' wr => ∃ i : Nat, i ≤ E.length ∧ i' = .int .i64 i ∧ OwnS wr w3.heap.size o (E.take i) ∧ Keeps w3 wr) (fun _ i' _ => E.length - (intOf i').toNat)
    case atStart => exact ⟨0, by omega, rfl, OwnS.nil _ _, Keeps.refl _⟩
    case round =>
      obtain ⟨i, hi, rfl, hown, kw⟩ := hrel
      by_cases hlt : i < E.length
      · have hlt' : (i : Int) < E.length := by omega
        obtain ⟨_, _, e0, _, _, _, _, hget⟩ := HEL.out.keeps kw
        obtain ⟨b1, o1, u1, e1, h1, h2, hnd⟩ := hget i hlt (by rw [HFL.out]; exact hlt)
        cases e0
        cases e1
        obtain ⟨q1, n1, c1', rfl⟩ := hnd.shape
        clear hget hnd
        have hsz := kw.size
        have HT := hid (HTK.out i hlt)
        have hll := HTL.out i
        generalize hL : E.take i = L at *
        have HL := hid hL; clear hL
        generalize E[i] = x at *
        have hlit : Strs ((wr.alloc (.cells #[.string x, .slice q1 n1 c1'] 98)).alloc (.cells #[.string x] 9)) (.slice (some ⟨wr.heap.size + 1, 0, none⟩) 1 1) [x] := by
          have := Strs.lit1 (wr.alloc (.cells #[.string x, .slice q1 n1 c1'] 98)) x
          simpa using this
        have kx := (kw.alloc (.cells #[.string x, .slice q1 n1 c1'] 98)).alloc (.cells #[.string x] 9)
        have ho := hown.keeps (((Keeps.refl wr).alloc (.cells #[.string x, .slice q1 n1 c1'] 98)).alloc (.cells #[.string x] 9))
        have HLIT := hid hlit; clear hlit
        go_wp2_with (at_builtin; refine appS rfl _ _ rfl w3.heap.size _ L rfl ho _ [x] rfl HLIT.out (by simp; omega) (by simp; omega) ?_; intro v4 w4 hv4 hg4 hr4; have k4 := kx.grown hg4 (fun q hq => hr4 q hq))
        go_roundw
        case rel => exact ⟨i + 1, by omega, by go_num, by rw [HT.out]; exact hv4, k4⟩
        case measure => simp [intOf]; omega
      · obtain rfl : i = E.length := by omega
        have hlt' : ¬ ((E.length : Int) < E.length) := by omega
        rw [HTE.out] at hown
        go_wp2
        go_ret2
        exact ⟨_, rfl, hown.mono kk.size, kk.trans kw⟩
  · rw [if_neg hq] at HR HC
    rw [Bool.not_eq_true] at hq
    rw [hq] at HI
    rw [HR.out, HC.out]
    obtain ⟨p, c, rfl, _⟩ := hv.shape
    obtain ⟨q, c2, rfl, _⟩ := hu.shape
    clear hv hu hs ht hq HR HC
    go_enter Tryz.func32, Tryz.ntmps32
    go_wp2_with fail
    refine HI.out.mono ?_; rintro e w2 ⟨rfl, k2⟩
    go_wp2_with fail
    go_ret2
    exact ⟨_, rfl, OwnS.nil _ _, kA.trans k2⟩
--
set_option maxRecDepth 100000 in
set_option maxHeartbeats 4000000 in
theorem l12Elementary_any (ss tt : List ByteArray) (v u : Value) (w : World) (hv : Strs w v ss) (hu : Strs w u tt) (hs : Side ss) (ht : Side tt) (h16 : ss.length ≤ 16) (h16' : tt.length ≤ 16) :
    Calls Tryz.prog 66 #[.agg #[v, u]] w (RetSt w (elT (fmL (ss ++ tt)))) := by
  have hG : Fine (fmL (ss ++ tt)) := by rw [fmL_append]; exact (fmL_fine hs).append (fmL_fine ht)
  have hGl : (fmL (ss ++ tt)).length ≤ 32 := by rw [fmL_len, List.length_append]; omega
  have kA := ((Keeps.refl w).alloc (.cells #[v, u] 29)).alloc (.cells #[] 9)
  obtain ⟨c0, c1⟩ := BoxQ.made w v u 29
  have hsz : (w.alloc (.cells #[v, u] 29)).heap.size = w.heap.size + 1 := by simp
  have hE0 := OwnS.empty (w.alloc (.cells #[v, u] 29))
  rw [hsz] at hE0
  have HE0 := hid hE0
  have HPA := hid (l11Parts_any ss tt v u _ (hv.keeps kA) (hu.keeps kA) hs ht h16 h16')
  have hTL := subT_len hG
  have HTX : Hid (∀ i (h : i < (subT (fmL (ss ++ tt))).length), IsTx (subT (fmL (ss ++ tt)))[i] (txF (subT (fmL (ss ++ tt)))[i])) := hid (fun i h => by
    obtain ⟨t, _, h2⟩ := subT_tx hG (List.getElem_mem h)
    exact txF_tx ⟨t, h2⟩)
  obtain ⟨p, c, rfl, _⟩ := hv.shape
  obtain ⟨q, c2, rfl, _⟩ := hu.shape
  clear hv hu hs ht hG hE0
  generalize fmL (ss ++ tt) = G at *
  have HZ := hid (elTo_zero G)
  have HEN := hid (elTo_end G)
  have HLN := hid (elTo_len G)
  have HY := hid (fun i (h : i < (subT G).length) => elTo_yes h)
  have HNO := hid (fun i (h : i < (subT G).length) => elTo_no h)
  replace c0 := ((Keeps.refl _).alloc (.cells #[] 9)).cell c0
  replace c1 := ((Keeps.refl _).alloc (.cells #[] 9)).cell c1
  go_enter Tryz.func66, Tryz.ntmps66
  go_wp2_with fail
  refine HPA.out.mono ?_; rintro e w2 ⟨b2, n2, c3, rfl, hv2, k2⟩
  have kk := kA.trans k2
  have HV2 := hid (hv2.strs (by omega))
  obtain ⟨hn, hn2, hn3⟩ : n2 = (subT G).length ∧ c3 ≤ maxLen ∧ n2 ≤ c3 := by obtain ⟨p', c', e, h1, h2, _⟩ := At.of_own hv2; cases e; exact ⟨rfl, h2, h1⟩
  subst hn
  unfold maxLen at hn2
  have HE2 := hid (HE0.out.keeps k2)
  clear hv2 HE0
  go_wp2
  go_loopw [3, 5] (fun o i' wr => ∃ i : Nat, i ≤ (subT G).length ∧ i' = .int .i64 i ∧ ((o = .slice (some ⟨w.heap.size + 1, 0, none⟩) 0 0 ∧ elTo G i = []) ∨ OwnS wr w2.heap.size o (elTo G i)) ∧ Keeps w2 wr) (fun _ i' _ => (subT G).length - (intOf i').toNat)
  case atStart => exact ⟨0, by omega, rfl, .inl ⟨by simp, HZ.out⟩, Keeps.refl _⟩
  case round =>
    obtain ⟨i, hi, rfl, hown, kw⟩ := hrel
    by_cases hlt : i < (subT G).length
    · have hlt' : (i : Int) < (subT G).length := by omega
      obtain ⟨b1, o1, e1, h1⟩ := (HV2.out.keeps kw).get i hlt
      have hb : b2 = ⟨b1, o1, none⟩ := Option.some.inj e1
      subst hb
      have htx := HTX.out i hlt
      have HP := hid (l02GoodA (subT G)[i] wr (by have := htx.small; omega))
      unfold GoodR at HP
      have h40 := htx.2.2
      have hix := isTx_iff.2 ⟨_, htx⟩
      have HTX1 := hid htx
      have hy := HY.out i hlt
      have hno := HNO.out i hlt
      have HYS := hid hy; clear hy
      have HNS := hid hno; clear hno
      have hll := HLN.out i
      have hsz2 := kw.size
      clear htx
      generalize (subT G)[i] = x at *
      generalize txF x = t at *
      go_wp2_with fail
      refine HP.out.mono ?_; rintro e w5 ⟨v5, rfl, k5, hg5⟩
      have hv5 := hg5 t HTX1.out
      rw [hix]
      have hnd := hv5.nds (by omega)
      obtain ⟨b5, o5, n5, c5, rfl, hn0, hn1, hn2', hn3', hc, _⟩ := hnd.root
      unfold maxLen at hn2'
      have hx5 := k5.cell h1
      have kw5 := kw.trans k5
      clear hnd hv5 hg5
      rcases el_kind t with ⟨he, hk⟩ | ⟨he, hk⟩
      · rcases hk with hk | hk | hk
        · rw [hk] at hc
          rcases hown with ⟨rfl, hL0⟩ | hoi
          · go_wp2_with (at_builtin; refine appSF rfl _ _ rfl _ rfl _ [x] rfl (Strs.lit1 w5 _) (by simp) (by simp) ?_; intro v7 w7 hv7 kq)
            go_roundw
            case rel => exact ⟨i + 1, by omega, by go_num, .inr (by rw [HYS.out he, hL0]; exact hv7.mono (by have := kw5.size; simp; omega)), (kw5.alloc _).trans kq⟩
            case measure => simp [intOf]; omega
          · have ho5 := hoi.keeps k5
            have hs5 := kw5.size
            clear hoi
            go_wp2_with (at_builtin; refine appS rfl _ _ rfl w2.heap.size _ (elTo G i) rfl (ho5.keeps ((Keeps.refl w5).alloc _)) _ [x] rfl (Strs.lit1 w5 _) (by simp; omega) (by simp; omega) ?_; intro v7 w7 hv7 hg7 hr7; have k7 := (kw5.alloc (.cells #[.string x] 9)).grown hg7 (fun q hq => hr7 q hq))
            go_roundw
            case rel => exact ⟨i + 1, by omega, by go_num, .inr (by rw [HYS.out he]; exact hv7), k7⟩
            case measure => simp [intOf]; omega
        · rw [hk] at hc
          rcases hown with ⟨rfl, hL0⟩ | hoi
          · go_wp2_with (at_builtin; refine appSF rfl _ _ rfl _ rfl _ [x] rfl (Strs.lit1 w5 _) (by simp) (by simp) ?_; intro v7 w7 hv7 kq)
            go_roundw
            case rel => exact ⟨i + 1, by omega, by go_num, .inr (by rw [HYS.out he, hL0]; exact hv7.mono (by have := kw5.size; simp; omega)), (kw5.alloc _).trans kq⟩
            case measure => simp [intOf]; omega
          · have ho5 := hoi.keeps k5
            have hs5 := kw5.size
            clear hoi
            go_wp2_with (at_builtin; refine appS rfl _ _ rfl w2.heap.size _ (elTo G i) rfl (ho5.keeps ((Keeps.refl w5).alloc _)) _ [x] rfl (Strs.lit1 w5 _) (by simp; omega) (by simp; omega) ?_; intro v7 w7 hv7 hg7 hr7; have k7 := (kw5.alloc (.cells #[.string x] 9)).grown hg7 (fun q hq => hr7 q hq))
            go_roundw
            case rel => exact ⟨i + 1, by omega, by go_num, .inr (by rw [HYS.out he]; exact hv7), k7⟩
            case measure => simp [intOf]; omega
        · rw [hk] at hc
          rcases hown with ⟨rfl, hL0⟩ | hoi
          · go_wp2_with (at_builtin; refine appSF rfl _ _ rfl _ rfl _ [x] rfl (Strs.lit1 w5 _) (by simp) (by simp) ?_; intro v7 w7 hv7 kq)
            go_roundw
            case rel => exact ⟨i + 1, by omega, by go_num, .inr (by rw [HYS.out he, hL0]; exact hv7.mono (by have := kw5.size; simp; omega)), (kw5.alloc _).trans kq⟩
            case measure => simp [intOf]; omega
          · have ho5 := hoi.keeps k5
            have hs5 := kw5.size
            clear hoi
            go_wp2_with (at_builtin; refine appS rfl _ _ rfl w2.heap.size _ (elTo G i) rfl (ho5.keeps ((Keeps.refl w5).alloc _)) _ [x] rfl (Strs.lit1 w5 _) (by simp; omega) (by simp; omega) ?_; intro v7 w7 hv7 hg7 hr7; have k7 := (kw5.alloc (.cells #[.string x] 9)).grown hg7 (fun q hq => hr7 q hq))
            go_roundw
            case rel => exact ⟨i + 1, by omega, by go_num, .inr (by rw [HYS.out he]; exact hv7), k7⟩
            case measure => simp [intOf]; omega
      · rcases hk with hk | hk | hk | hk
        · rw [hk] at hc
          go_wp2_with fail
          go_roundw
          case rel => exact ⟨i + 1, by omega, by go_num, by rw [HNS.out he]; exact hown.imp id (fun h => h.keeps k5), kw5⟩
          case measure => simp [intOf]; omega
        · rw [hk] at hc
          go_wp2_with fail
          go_roundw
          case rel => exact ⟨i + 1, by omega, by go_num, by rw [HNS.out he]; exact hown.imp id (fun h => h.keeps k5), kw5⟩
          case measure => simp [intOf]; omega
        · rw [hk] at hc
          go_wp2_with fail
          go_roundw
          case rel => exact ⟨i + 1, by omega, by go_num, by rw [HNS.out he]; exact hown.imp id (fun h => h.keeps k5), kw5⟩
          case measure => simp [intOf]; omega
        · rw [hk] at hc
          go_wp2_with fail
          go_roundw
          case rel => exact ⟨i + 1, by omega, by go_num, by rw [HNS.out he]; exact hown.imp id (fun h => h.keeps k5), kw5⟩
          case measure => simp [intOf]; omega
    · obtain rfl : i = (subT G).length := by omega
      have hlt' : ¬ (((subT G).length : Int) < (subT G).length) := by omega
      rw [HEN.out] at hown
      have hfin : ∀ o, ((o = .slice (some ⟨w.heap.size + 1, 0, none⟩) 0 0 ∧ elT G = []) ∨ OwnS wr w2.heap.size o (elT G)) → OwnS wr w.heap.size o (elT G) := by
        intro o ho
        rcases ho with ⟨rfl, h0⟩ | h
        · rw [h0]; exact (HE2.out.keeps kw).mono (by omega)
        · exact h.mono kk.size
      have hfo := hfin _ hown
      clear hown hfin
      go_wp2
      go_ret
      exact ⟨_, rfl, hfo, kk.trans kw⟩
--
set_option maxRecDepth 100000 in
theorem specElementaryParts (ss tt : List ByteArray) (v u : Value) (w : World) (hv : Strs w v ss) (hu : Strs w u tt) (hs : Mid ss) (ht : Mid tt) :
    Calls Tryz.prog 33 #[.agg #[v, u]] w (RetSC w (epR ss tt) (epC ss tt)) := by
  have kA := (Keeps.refl w).alloc (.cells #[v, u] 29)
  obtain ⟨c0, c1⟩ := BoxQ.made w v u 29
  have HI := hid (l11Is_any ss tt v u _ (hv.keeps kA) (hu.keeps kA) hs ht)
  have HR : Hid (epR ss tt = if isQ ss tt = true then elT (fmL (ss ++ tt)) else []) := hid rfl
  have HC : Hid (epC ss tt = if isQ ss tt = true then 0 else 1) := hid rfl
  by_cases hq : isQ ss tt = true
  · rw [if_pos hq] at HR HC
    rw [hq] at HI
    rw [HR.out, HC.out]
    obtain ⟨h16, h16', hS, hT⟩ := isQ_iff hq
    have HE := hid (fun wz (kz : Keeps w wz) => l12Elementary_any ss tt v u wz (hv.keeps kz) (hu.keeps kz) hS hT h16 h16')
    obtain ⟨p, c, rfl, _⟩ := hv.shape
    obtain ⟨q, c2, rfl, _⟩ := hu.shape
    clear hv hu hs ht hS hT hq HR HC
    generalize elT (fmL (ss ++ tt)) = E at *
    go_enter Tryz.func33, Tryz.ntmps33
    go_wp2_with fail
    refine HI.out.mono ?_; rintro e w2 ⟨rfl, k2⟩
    replace c0 := k2.cell c0
    replace c1 := k2.cell c1
    go_wp2_with fail
    refine (HE.out _ (kA.trans k2)).mono ?_; rintro e w3 ⟨v3, rfl, hv3, k3⟩
    go_wp2_with fail
    go_ret2
    exact ⟨_, rfl, hv3.mono (kA.trans k2).size, (kA.trans k2).trans k3⟩
  · rw [if_neg hq] at HR HC
    rw [Bool.not_eq_true] at hq
    rw [hq] at HI
    rw [HR.out, HC.out]
    obtain ⟨p, c, rfl, _⟩ := hv.shape
    obtain ⟨q, c2, rfl, _⟩ := hu.shape
    clear hv hu hs ht hq HR HC
    go_enter Tryz.func33, Tryz.ntmps33
    go_wp2_with fail
    refine HI.out.mono ?_; rintro e w2 ⟨rfl, k2⟩
    go_wp2_with fail
    go_ret2
    exact ⟨_, rfl, OwnS.nil _ _, kA.trans k2⟩
end Go.Proofs.YtgnehffglhbggaaGreat
/- The error for a logic and a sequent; theorems; program side. -/
namespace Go.Proofs.YtgnehffglhbggaaGreat
open Go.RowKit
noncomputable def seE (ss tt : List ByteArray) : List Fm := elF (fmL (ss ++ tt))
noncomputable def seN (ss tt : List ByteArray) : Nat := 2 ^ (seE ss tt).length
noncomputable def lgN (s : ByteArray) : Nat := @dite _ (isLg s = true) (Classical.propDecidable _) (fun h => Classical.choose (isLg_of h)) (fun _ => 0)
theorem lgN_spec {s : ByteArray} (h : isLg s = true) : lgN s < 8 ∧ s = lgS (lgN s) := by
  unfold lgN
  rw [dif_pos h]
  exact Classical.choose_spec (isLg_of h)
/-- the error -/
noncomputable def srC (s : ByteArray) (ss tt : List ByteArray) : Int := if isLg s = true then (if isQ ss tt = true then (if (elT (fmL (ss ++ tt))).length ≤ 8 then 0 else 3) else 1) else 2
/-- what no error says -/
structure SrOk (s : ByteArray) (ss tt : List ByteArray) : Prop where
  lg : lgN s < 8
  eq : s = lgS (lgN s)
  hs : Side ss
  ht : Side tt
  h1 : ss.length ≤ 16
  h2 : tt.length ≤ 16
  h8 : (seE ss tt).length ≤ 8
  hN : seN ss tt ≤ 256
theorem srC_ok {s : ByteArray} {ss tt : List ByteArray} (h : srC s ss tt = 0) : SrOk s ss tt := by
  unfold srC at h
  split at h
  · rename_i hl
    split at h
    · rename_i hq
      split at h
      · rename_i h8
        obtain ⟨a, b, c, d⟩ := isQ_iff hq
        have h8' : (seE ss tt).length ≤ 8 := by unfold seE; rw [elF_len]; exact h8
        exact ⟨(lgN_spec hl).1, (lgN_spec hl).2, c, d, a, b, h8', two8 h8'⟩
      · cases h
    · cases h
  · cases h
theorem liveL_get (L : Nat) (E : List Fm) (N t : Nat) (h : t < N) : (liveL L E N).getD t false = liveB L E N t := by
  unfold liveL
  rw [List.getD_eq_getElem?_getD, List.getElem?_map, List.getElem?_range h]
  rfl
theorem refL_get (E A B : List Fm) (N t : Nat) (h : t < N) : (refL E A B N).getD t false = refB E A B t := by
  unfold refL
  rw [List.getD_eq_getElem?_getD, List.getElem?_map, List.getElem?_range h]
  rfl
theorem liveL_len (L : Nat) (E : List Fm) (N : Nat) : (liveL L E N).length = N := by simp [liveL]
theorem refL_len (E A B : List Fm) (N : Nat) : (refL E A B N).length = N := by simp [refL]
--
theorem refuting_fst (r L : Nat) (E A B : List Fm) (N : Nat) (ss : List ByteArray) (hN : N ≤ 256) (w : World) (h : NwR w r L E N (refL E A B N) ss) :
    Calls Tryz.prog 81 #[.pointer (some ⟨r, 0, none⟩)] w fun e w' => e = .returned (.int .i64 (fstI L E N A B)) ∧ w = w' := by
  obtain ⟨v5, c5, b5⟩ := h.ty.c5
  obtain ⟨v4, c4, b4⟩ := h.c4
  refine (refuting_any r N hN (liveL L E N) (refL E A B N) (liveL_len L E N) (refL_len E A B N) v4 v5 w h.ty.c3 c4 c5 b4 b5).mono ?_
  rintro e w' ⟨rfl, rfl⟩
  refine ⟨ret_int ?_, rfl⟩
  exact idx_same _ _ N (fun t ht => by rw [liveL_get L E N t ht, refL_get E A B N t ht])
--
set_option maxRecDepth 100000 in
theorem isModalTheorem_any (s : ByteArray) (ss tt : List ByteArray) (v u : Value) (w : World) (hv : Strs w v ss) (hu : Strs w u tt) (hk : SrOk s ss tt) :
    Calls Tryz.prog 49 #[.string s, .agg #[v, u]] w fun e w' => e = .returned (.bool (thmB (lgN s) (seE ss tt) (seN ss tt) (fmL ss) (fmL tt))) ∧ Keeps w w' := by
  have kA := (Keeps.refl w).alloc (.cells #[v, u] 29)
  obtain ⟨c0, c1⟩ := BoxQ.made w v u 29
  have HNT := hid (newTypes_any (lgN s) hk.lg ss tt v u _ (hv.keeps kA) (hu.keeps kA) hk.hs hk.ht hk.h1 hk.h2 hk.h8)
  rw [← hk.eq] at HNT
  have HRF := hid (fun r wz h => refuting_fst r (lgN s) (seE ss tt) (fmL ss) (fmL tt) (seN ss tt) (elT (fmL (ss ++ tt))) hk.hN wz h)
  have HD : Hid (thmB (lgN s) (seE ss tt) (seN ss tt) (fmL ss) (fmL tt) = decide (fstI (lgN s) (seE ss tt) (seN ss tt) (fmL ss) (fmL tt) < 0)) := hid rfl
  rw [HD.out]
  obtain ⟨p, c, rfl, _⟩ := hv.shape
  obtain ⟨q, c2, rfl, _⟩ := hu.shape
  clear hv hu hk
  generalize fstI (lgN s) (seE ss tt) (seN ss tt) (fmL ss) (fmL tt) = j at *
  go_enter Tryz.func49, Tryz.ntmps49
  go_wp2_with fail
  refine HNT.out.mono ?_; rintro e w2 ⟨r, rfl, k2, hr⟩
  have HR2 := hid (HRF.out r w2 hr)
  clear hr
  go_wp2_with fail
  refine HR2.out.mono ?_; rintro e w3 ⟨rfl, rfl⟩
  go_wp2_with fail
  go_ret
  exact ⟨ret_bool rfl, kA.trans k2⟩
--
set_option maxHeartbeats 1000000 in
theorem indexFuncQ (b : Bool) (f : FuncId) (v u : Value) (g : Nat) (w : World) (hv : ∃ p n c, v = .slice p n c) (hu : ∃ p n c, u = .slice p n c) (c0 : w.cell? ⟨g, 0, none⟩ = some v) (c1 : w.cell? ⟨g, 1, none⟩ = some u) (hcf : Enters f)
    (hf : ∀ w1, Keeps w w1 → Calls Tryz.prog f #[.agg #[v, u]] w1 fun e w2 => e = .returned (.bool b) ∧ Keeps w1 w2) :
    Calls Tryz.prog 107 #[.slice (some ⟨g, 0, none⟩) 1 1, .func (.func f) #[] #[]] w fun e w' => e = .returned (.int .i64 (if b then 0 else -1)) ∧ Keeps w w' := by
  have HF := hid hf; clear hf
  have hcf' : ∀ args w, (callFunc f args).run Tryz.prog w = .ok (.enter f args) w := hcf
  clear hcf
  obtain ⟨p, n, c, rfl⟩ := hv
  obtain ⟨q, m, d, rfl⟩ := hu
  cases b
  · go_enter Tryz.func107, Tryz.ntmps107
    go_wp2
    go_loopw [4, 8] (fun r i' wr => ∃ k : Nat, k ≤ 1 ∧ Keeps w wr ∧ i' = .int .i64 k ∧ r = .int .i64 0) (fun _ i _ => 1 - (intOf i).toNat)
    case atStart => exact ⟨0, by omega, Keeps.refl w, rfl, rfl⟩
    case round =>
      obtain ⟨k, hk, kw, rfl, rfl⟩ := hrel
      by_cases hlt : k = 0
      · subst hlt
        have e0 := kw.cell c0
        have e1 := kw.cell c1
        have HF1 := hid (HF.out wr kw)
        go_wp2_with ((with_reducible refine HF1.out.mono ?_); rintro e w2 ⟨rfl, k2⟩)
        go_roundw
        case rel => exact ⟨1, by omega, kw.trans k2, by go_num, rfl⟩
        case measure => simp [intOf]
      · obtain rfl : k = 1 := by omega
        go_wp2
        go_ret
        exact ⟨rfl, kw⟩
  · go_enter Tryz.func107, Tryz.ntmps107
    go_wp2
    go_loopw [4, 8] (fun r i' wr => Keeps w wr ∧ i' = .int .i64 0 ∧ r = .int .i64 0) (fun _ i _ => 1 - (intOf i).toNat)
    case atStart => exact ⟨Keeps.refl w, rfl, rfl⟩
    case round =>
      obtain ⟨kw, rfl, rfl⟩ := hrel
      have e0 := kw.cell c0
      have e1 := kw.cell c1
      have HF1 := hid (HF.out wr kw)
      go_wp2_with ((with_reducible refine HF1.out.mono ?_); rintro e w2 ⟨rfl, k2⟩)
      go_ret
      exact ⟨rfl, kw.trans k2⟩
theorem containsFuncQ (b : Bool) (f : FuncId) (v u : Value) (g : Nat) (w : World) (hv : ∃ p n c, v = .slice p n c) (hu : ∃ p n c, u = .slice p n c) (c0 : w.cell? ⟨g, 0, none⟩ = some v) (c1 : w.cell? ⟨g, 1, none⟩ = some u) (hcf : Enters f)
    (hf : ∀ w1, Keeps w w1 → Calls Tryz.prog f #[.agg #[v, u]] w1 fun e w2 => e = .returned (.bool b) ∧ Keeps w1 w2) :
    Calls Tryz.prog 68 #[.slice (some ⟨g, 0, none⟩) 1 1, .func (.func f) #[] #[]] w fun e w' => e = .returned (.bool b) ∧ Keeps w w' := by
  have H := hid (indexFuncQ b f v u g w hv hu c0 c1 hcf hf)
  clear hv hu hf hcf c0 c1
  cases b
  · go_enter Tryz.func68, Tryz.ntmps68
    go_wp2_with (go_at_call 107; refine H.out.mono ?_; rintro e w2 ⟨rfl, k2⟩)
    go_ret
    exact ⟨rfl, k2⟩
  · go_enter Tryz.func68, Tryz.ntmps68
    go_wp2_with (go_at_call 107; refine H.out.mono ?_; rintro e w2 ⟨rfl, k2⟩)
    go_ret
    exact ⟨rfl, k2⟩
--
theorem searchable1_any (ss tt : List ByteArray) (v u : Value) (w : World) (hv : Strs w v ss) (hu : Strs w u tt) (hs : Mid ss) (ht : Mid tt) :
    Calls Tryz.prog 69 #[.agg #[v, u]] w fun e w' => e = .returned (.bool (!isQ ss tt)) ∧ Keeps w w' := by
  have kA := (Keeps.refl w).alloc (.cells #[v, u] 29)
  obtain ⟨c0, c1⟩ := BoxQ.made w v u 29
  have HI := hid (isModalSequent_any ss tt v u _ (hv.keeps kA) (hu.keeps kA) hs ht)
  obtain ⟨p, c, rfl, _⟩ := hv.shape
  obtain ⟨q, c2, rfl, _⟩ := hu.shape
  clear hv hu hs ht
  generalize isQ ss tt = b at *
  go_enter Tryz.func69, Tryz.ntmps69
  go_wp2_with fail
  refine HI.out.mono ?_; rintro e w2 ⟨rfl, k2⟩
  go_wp2_with fail
  go_ret
  exact ⟨rfl, kA.trans k2⟩
theorem searchable2_any (ss tt : List ByteArray) (v u : Value) (w : World) (hv : Strs w v ss) (hu : Strs w u tt) (hs : Side ss) (ht : Side tt) (h1 : ss.length ≤ 16) (h2 : tt.length ≤ 16) :
    Calls Tryz.prog 70 #[.agg #[v, u]] w fun e w' => e = .returned (.bool (!decide ((elT (fmL (ss ++ tt))).length ≤ 8))) ∧ Keeps w w' := by
  have kA := (Keeps.refl w).alloc (.cells #[v, u] 29)
  obtain ⟨c0, c1⟩ := BoxQ.made w v u 29
  have HE := hid (elementaryParts_any ss tt v u _ (hv.keeps kA) (hu.keeps kA) hs ht h1 h2)
  have hl : (elT (fmL (ss ++ tt))).length ≤ 2147483648 := by
    have := elT_len (by rw [fmL_append]; exact (fmL_fine hs).append (fmL_fine ht) : Fine (fmL (ss ++ tt)))
    rw [fmL_len, List.length_append] at this
    omega
  have HFN : Hid (∀ x ∈ (elF (fmL (ss ++ tt))).map Fm.enc, x.length ≤ 2147483648) := hid (fun x hx => by
    obtain ⟨y, hy, rfl⟩ := List.mem_map.1 hx
    have := (elF_fine (by rw [fmL_append]; exact (fmL_fine hs).append (fmL_fine ht) : Fine (fmL (ss ++ tt))) y hy).2
    omega)
  obtain ⟨p, c, rfl, _⟩ := hv.shape
  obtain ⟨q, c2, rfl, _⟩ := hu.shape
  clear hv hu hs ht
  generalize elT (fmL (ss ++ tt)) = sE at *
  generalize elF (fmL (ss ++ tt)) = E at *
  go_enter Tryz.func70, Tryz.ntmps70
  go_wp2_with fail
  refine HE.out.mono ?_; rintro e w2 ⟨pv, rfl, hpv, k2⟩
  obtain ⟨pp, pcap, rfl, hple, hpmx, -⟩ := (hpv.elL hl HFN.out)
  clear hpv
  go_wp2_with fail
  go_ret
  exact ⟨ret_bool (by rw [← decide_not]; congr 1; simp; omega), kA.trans k2⟩
theorem enters_searchable1 : Enters 69 := fun _ _ => by kernel_rfl
theorem enters_searchable2 : Enters 70 := fun _ _ => by kernel_rfl
set_option maxHeartbeats 1000000 in
theorem searchableCode_any (s : ByteArray) (ss tt : List ByteArray) (v u : Value) (g : Nat) (w : World) (hv : Strs w v ss) (hu : Strs w u tt) (hs : Mid ss) (ht : Mid tt) (c0 : w.cell? ⟨g, 0, none⟩ = some v) (c1 : w.cell? ⟨g, 1, none⟩ = some u) :
    Calls Tryz.prog 46 #[.string s, .slice (some ⟨g, 0, none⟩) 1 1] w fun e w' => e = .returned (.int .i64 (srC s ss tt)) ∧ Keeps w w' := by
  have HI := hid (isSearchLogic_any s w)
  obtain ⟨p, c, rfl, _⟩ := hv.shape
  obtain ⟨q, c2, rfl, _⟩ := hu.shape
  have HC1 := hid (fun wz (kz : Keeps w wz) => containsFuncQ (!isQ ss tt) _ _ _ g wz ⟨_, _, _, rfl⟩ ⟨_, _, _, rfl⟩ (kz.cell c0) (kz.cell c1) enters_searchable1 (fun w1 k1 => searchable1_any ss tt _ _ w1 (hv.keeps (kz.trans k1)) (hu.keeps (kz.trans k1)) hs ht))
  have HC2 := hid (fun (hq : isQ ss tt = true) wz (kz : Keeps w wz) => containsFuncQ (!decide ((elT (fmL (ss ++ tt))).length ≤ 8)) _ _ _ g wz ⟨_, _, _, rfl⟩ ⟨_, _, _, rfl⟩ (kz.cell c0) (kz.cell c1) enters_searchable2 (fun w1 k1 => searchable2_any ss tt _ _ w1 (hv.keeps (kz.trans k1)) (hu.keeps (kz.trans k1)) (isQ_iff hq).2.2.1 (isQ_iff hq).2.2.2 (isQ_iff hq).1 (isQ_iff hq).2.1))
  have HR : Hid (srC s ss tt = if isLg s = true then (if isQ ss tt = true then (if (elT (fmL (ss ++ tt))).length ≤ 8 then 0 else 3) else 1) else 2) := hid rfl
  clear hv hu hs ht c0 c1
  generalize srC s ss tt = r at *
  generalize isLg s = bl at *
  generalize isQ ss tt = bq at *
  generalize (elT (fmL (ss ++ tt))).length = n at *
  cases bl
  · rw [if_neg (by simp)] at HR
    rw [HR.out]
    clear HC1 HC2 HR
    go_enter Tryz.func46, Tryz.ntmps46
    go_wp2_with fail
    refine HI.out.mono ?_; rintro e w2 ⟨rfl, k2⟩
    go_wp2_with fail
    go_ret
    exact ⟨rfl, k2⟩
  · rw [if_pos rfl] at HR
    cases bq
    · rw [if_neg (by simp)] at HR
      rw [HR.out]
      clear HC2 HR
      go_enter Tryz.func46, Tryz.ntmps46
      go_wp2_with fail
      refine HI.out.mono ?_; rintro e w2 ⟨rfl, k2⟩
      go_wp2_with fail
      refine (HC1.out _ k2).mono ?_; rintro e w3 ⟨rfl, k3⟩
      go_wp2_with fail
      go_ret
      exact ⟨rfl, k2.trans k3⟩
    · rw [if_pos rfl] at HR
      by_cases h8 : n ≤ 8
      · rw [if_pos h8] at HR
        rw [decide_eq_true h8] at HC2
        rw [HR.out]
        clear HR
        go_enter Tryz.func46, Tryz.ntmps46
        go_wp2_with fail
        refine HI.out.mono ?_; rintro e w2 ⟨rfl, k2⟩
        go_wp2_with fail
        refine (HC1.out _ k2).mono ?_; rintro e w3 ⟨rfl, k3⟩
        go_wp2_with fail
        refine (HC2.out (by trivial) _ (k2.trans k3)).mono ?_; rintro e w4 ⟨rfl, k4⟩
        go_wp2_with fail
        go_ret
        exact ⟨rfl, (k2.trans k3).trans k4⟩
      · rw [if_neg h8] at HR
        rw [decide_eq_false h8] at HC2
        rw [HR.out]
        clear HR
        go_enter Tryz.func46, Tryz.ntmps46
        go_wp2_with fail
        refine HI.out.mono ?_; rintro e w2 ⟨rfl, k2⟩
        go_wp2_with fail
        refine (HC1.out _ k2).mono ?_; rintro e w3 ⟨rfl, k3⟩
        go_wp2_with fail
        refine (HC2.out (by trivial) _ (k2.trans k3)).mono ?_; rintro e w4 ⟨rfl, k4⟩
        go_wp2_with fail
        go_ret
        exact ⟨rfl, (k2.trans k3).trans k4⟩
end Go.Proofs.YtgnehffglhbggaaGreat
/- The reference's types: which are allowed. -/
namespace Go.Proofs.YtgnehffglhbggaaGreat
open Go.RowKit
def alQ (E : List Fm) (m i : Nat) : Bool := !isMo (E.getD i .fls) || (!demB E i m || meeB E i m)
theorem alw_alQ (L : Nat) (E : List Fm) (m : Nat) : alwB L E m = (!(decide (L = 2 ∨ L = 4 ∨ L = 6)) || (List.range E.length).all (alQ E m)) := by
  unfold alwB
  rw [show alQ E m = fun i => !isMo (E.getD i .fls) || (!demB E i m || meeB E i m) from rfl, mods_all]
theorem al_no {E : List Fm} {m i : Nat} (hi : i < E.length) (h : alQ E m i = false) : (List.range E.length).all (alQ E m) = false := by
  rw [Bool.eq_false_iff]
  intro ha
  rw [List.all_eq_true] at ha
  rw [ha i (List.mem_range.2 hi)] at h
  cases h
theorem al_yes {E : List Fm} {m : Nat} (h : ∀ j, j < E.length → alQ E m j = true) : (List.range E.length).all (alQ E m) = true := List.all_eq_true.2 fun j hj => h j (List.mem_range.1 hj)
--
set_option maxRecDepth 20000 in
set_option maxHeartbeats 8000000 in
theorem l12Type_any (r L N : Nat) (E : List Fm) (M : Nat → Nat) (ss : List ByteArray) (m : Nat) (hm : m < N) (w : World) (h : SpR w r L N E M ss) :
    Calls Tryz.prog 105 #[.pointer (some ⟨r, 0, none⟩), .int .i64 m] w fun e w' => e = .returned (.bool (alwB L E m)) ∧ Keeps w w' := by
  have h8 := h.h8
  have hN := h.hN
  have hL := h.hL
  have HH := hid h
  have c0 := h.c0
  have HAW := hid (alw_alQ L E m)
  have HNO := hid (fun i (hi : i < E.length) (e : alQ E m i = false) => al_no hi e)
  have HYE := hid (fun h => al_yes (E := E) (m := m) h)
  have hMm := h.hM m hm
  have HB1 := hid (fun i (hi : i ≤ 8) wz => l01BitB_any m i wz (by omega) hi)
  have HB2 := hid (fun i (hi : i ≤ 8) wz => l01BitB_any (M m) i wz hMm hi)
  have HQ : Hid (∀ i, alQ E m i = (!isMo (E.getD i .fls) || (!(m.testBit i == bxB E i) || (innB E i m == bxB E i)))) := hid (fun i => rfl)
  have HB := hid (fun i hi hz => h.hb m hm i hi hz)
  obtain ⟨v1, c1, hv1⟩ := h.c1
  have hs := h.hs
  obtain ⟨p1, q1, rfl, hl1, hx1, _⟩ := hv1.shape
  unfold maxLen at hx1
  rw [hs] at c1 hl1
  have HT := hid hm
  clear h hs hv1 hm hMm
  generalize alwB L E m = R at *
  generalize alQ E m = aq at *
  by_cases hr : L = 2 ∨ L = 4 ∨ L = 6
  · have HR := hid hr
    have HAR : Hid (R = (List.range E.length).all aq) := hid (by rw [HAW.out, decide_eq_true HR.out]; rfl)
    rcases hr with rfl | rfl | rfl
    all_goals
      simp only [lgS] at c0
      go_enter Tryz.func105, Tryz.ntmps105
      go_wp2_with fail
      go_loopw [4, 5] (fun o i' wr => ∃ i : Nat, i ≤ E.length ∧ i' = .int .i64 i ∧ o = .bool false ∧ (∀ j, j < i → aq j = true) ∧ w = wr) (fun _ i' _ => E.length - (intOf i').toNat)
      case atStart => exact ⟨0, by omega, rfl, rfl, fun j hj => by omega, rfl⟩
      case round =>
        obtain ⟨i, hi, rfl, rfl, hall, rfl⟩ := hrel
        have HAL := hid hall; clear hall
        by_cases hlt : i < E.length
        · have hlt' : (i : Int) < E.length := by omega
          have hi8 : i ≤ 8 := by omega
          obtain ⟨b, o, n, c, c2, hn, hnc, hc, hk, hcase⟩ := HH.out.kind i hlt
          obtain ⟨b4, o4, n4, q4, c4, hn4, hnc4, hc4, hm4⟩ := HH.out.mask m HT.out
          have hin : (i : Int) < n := by omega
          have hit : (m : Int) < n4 := by have := HT.out; omega
          unfold maxLen at hc hc4
          have HBi := hid (HB.out i hlt)
          have HX := hid (HB1.out i hi8)
          have HY := hid (HB2.out i hi8)
          have HQi := hid (HQ.out i)
          have HNi := hid (HNO.out i hlt)
          clear hn hn4 hi8
          generalize innB E i m = s3 at *
          generalize bxB E i = x at *
          generalize isMo (E.getD i .fls) = z at *
          generalize (E.getD i .fls).kind = kd at *
          generalize m.testBit i = p at *
          generalize hs0 : (M m).testBit i = s at *
          have HE : Hid (z = true → s = s3) := hid (fun hz => by rw [← HBi.out hz])
          clear hs0
          rcases hcase with ⟨rfl, rfl⟩ | ⟨rfl, rfl, rfl⟩ | ⟨rfl, rfl, rfl⟩
          · go_wp2_with fail
            go_roundw
            case rel => exact ⟨i + 1, by omega, by go_num, rfl, fun j hj => by rcases Nat.lt_succ_iff_lt_or_eq.1 hj with h3 | rfl; exact HAL.out j h3; rw [HQi.out]; rfl, by trivial⟩
            case measure => simp [intOf]; omega
          all_goals
            obtain rfl := HE.out rfl
            clear HE HBi
            cases p <;> cases s
          all_goals
            go_wp2_with fail
            refine (HX.out _).mono ?_; rintro e w2 ⟨rfl, rfl⟩
            go_wp2_with fail
            first
              | (go_roundw
                 case rel => exact ⟨i + 1, by omega, by go_num, rfl, fun j hj => by rcases Nat.lt_succ_iff_lt_or_eq.1 hj with h3 | rfl; exact HAL.out j h3; rw [HQi.out]; rfl, by trivial⟩
                 case measure => simp [intOf]; omega)
              | (refine (HY.out _).mono ?_; rintro e w3 ⟨rfl, rfl⟩
                 go_wp2_with fail
                 first
                   | (go_roundw
                      case rel => exact ⟨i + 1, by omega, by go_num, rfl, fun j hj => by rcases Nat.lt_succ_iff_lt_or_eq.1 hj with h3 | rfl; exact HAL.out j h3; rw [HQi.out]; rfl, by trivial⟩
                      case measure => simp [intOf]; omega)
                   | (go_ret
                      exact ⟨ret_bool (by rw [HAR.out, HNi.out (by rw [HQi.out]; rfl)]), Keeps.refl _⟩))
        · have hlt' : ¬ (i : Int) < E.length := by omega
          obtain rfl : i = E.length := by omega
          have HR2 := hid (HYE.out HAL.out)
          go_wp2_with fail
          go_ret
          exact ⟨ret_bool (by rw [HAR.out, HR2.out]), Keeps.refl _⟩
  · have HAR : Hid (R = true) := hid (by rw [HAW.out, decide_eq_false hr]; rfl)
    have h8' : L = 0 ∨ L = 1 ∨ L = 3 ∨ L = 5 ∨ L = 7 := by omega
    clear hr
    rcases h8' with rfl | rfl | rfl | rfl | rfl
    all_goals
      simp only [lgS] at c0
      go_enter Tryz.func105, Tryz.ntmps105
      go_wp2_with fail
      go_ret
      exact ⟨ret_bool (by rw [HAR.out]), Keeps.refl _⟩
end Go.Proofs.YtgnehffglhbggaaGreat
/- The reference's types: what one makes true. -/
namespace Go.Proofs.YtgnehffglhbggaaGreat
open Go.RowKit
theorem idx_at (E : List Fm) (t : Fm) (h : t ∈ E) : ∃ hj : E.idxOf t < E.length, E[E.idxOf t] = t := by
  have hj := (idx_el E t h 0).2
  exact ⟨hj, List.getElem_idxOf hj⟩
theorem idx_first (E : List Fm) (t : Fm) : ∀ i, i < E.idxOf t → ∀ h : i < E.length, E[i] ≠ t := by
  induction E with
  | nil => intro i _ h; simp at h
  | cons a E ih =>
    intro i hi h
    by_cases ha : a = t
    · subst ha; simp at hi
    · have he : List.idxOf t (a :: E) = List.idxOf t E + 1 := by rw [List.idxOf_cons, show (a == t) = false by simp [ha]]; rfl
      rw [he] at hi
      cases i with
      | zero => simpa using ha
      | succ i => simpa using ih i (by omega) (by simpa using h)
theorem tx_cmp {ss : List ByteArray} {E : List Fm} (hT : Txts ss E) (hw : ∀ t ∈ E, t.wf) {t : Fm} (ht : t.wf) {s : ByteArray} (hs : bts s = t.body) (i : Nat) (hi : i < ss.length) (hi' : i < E.length) :
    (ss[i].toList == s.toList) = decide (E[i] = t) := by
  have h1 : bts ss[i] = E[i].body := by
    have := congrArg (fun l => l[i]?) hT
    simpa [List.getElem?_eq_getElem hi, List.getElem?_eq_getElem hi'] using this
  rw [ByteArray.toList_eq, ByteArray.toList_eq, Bool.eq_iff_iff, beq_iff_eq, decide_eq_true_eq]
  show bts ss[i] = bts s ↔ _
  rw [h1, hs]
  exact ⟨fun e => body_inj (hw _ (List.getElem_mem hi')) ht e, fun e => by rw [e]⟩
--
set_option maxRecDepth 20000 in
set_option maxHeartbeats 4000000 in
theorem l12True_el (E : List Fm) (ss : List ByteArray) (hT : Txts ss E) (hw : ∀ t ∈ E, t.wf) (h8 : E.length ≤ 8) (m : Nat) (hm : m < 256) (t : Fm) (hwt : t.wf) (hl : t.enc.length ≤ 100000000) (hk : t.kind = 0 ∨ t.kind = 5 ∨ t.kind = 6) (ht : t ∈ E) (v : Value) (w : World) (r : Nat) (pv : Value)
    (hv : Nds w v t.enc) (hc1 : w.cell? ⟨r, 1, none⟩ = some pv) (hp : Strs w pv ss) :
    Calls Tryz.prog 104 #[.pointer (some ⟨r, 0, none⟩), .int .i64 m, v] w fun e w' => e = .returned (.bool (m.testBit (E.idxOf t))) ∧ Keeps w w' := by
  have HTX := hid (l02TextA t hwt hl v w hv)
  obtain ⟨b, off, n, cap, rfl, h0, h1, h2, h3, hc, -⟩ := hv.root
  obtain ⟨hj, hjt⟩ := idx_at E t ht
  have HF := hid (idx_first E t)
  have hlen : ss.length = E.length := hT.length
  have HC := hid (fun s (hs : bts s = t.body) i hi hi' => tx_cmp hT hw hwt hs i hi hi')
  have HB := hid (fun wz => l01BitB_any m (E.idxOf t) wz hm (by omega))
  have HJT := hid hjt
  have hp0 := hp
  obtain ⟨pp, pc, rfl, hpl, hpx, _⟩ := hp.shape
  unfold maxLen at h2 hpx
  have HL := hid hlen
  clear hv hT hw hjt ht hwt
  generalize E.idxOf t = j at *
  have hjs : j < ss.length := by rw [hlen]; exact hj
  have HJ := hid hj
  clear hlen
  rcases hk with hk | hk | hk
  all_goals
    rw [hk] at hc
    go_enter Tryz.func104, Tryz.ntmps104
    go_wp2_with fail
    refine HTX.out.mono ?_; rintro e w2 ⟨s, rfl, hs, k2⟩
    have c1 := k2.cell hc1
    have hp2 := hp0.keeps k2
    have HCS := hid (HC.out s hs)
    clear hs
    go_wp2_with fail
    go_loopw [6, 8] (fun o i' wr => ∃ i : Nat, i ≤ j ∧ i' = .int .i64 i ∧ o = .bool false ∧ w2 = wr) (fun _ i' _ => j + 1 - (intOf i').toNat)
    case atStart => exact ⟨0, by omega, rfl, rfl, rfl⟩
    case round =>
      obtain ⟨i, hi, rfl, rfl, rfl⟩ := hrel
      have his : i < ss.length := by omega
      have his' : (i : Int) < ss.length := by omega
      obtain ⟨b1, o1, rfl, e1⟩ := hp2.get i his
      have hcmp := HCS.out i his (by have := HJ.out; omega)
      rcases Nat.lt_or_ge i j with hij | hij
      · rw [decide_eq_false (HF.out i hij _)] at hcmp
        go_wp2_with fail
        go_roundw
        case rel => exact ⟨i + 1, by omega, by go_num, rfl, by trivial⟩
        case measure => simp [intOf]; omega
      · obtain rfl : i = j := by omega
        rw [decide_eq_true HJT.out] at hcmp
        go_wp2_with fail
        refine (HB.out _).mono ?_; rintro e w3 ⟨rfl, rfl⟩
        go_wp2_with fail
        go_ret
        exact ⟨rfl, k2⟩
end Go.Proofs.YtgnehffglhbggaaGreat
