/- ElementaryParts: both sides. -/
import Derived.Test.YtijdcpomalkkhaaGreatGMN
namespace Go.Proofs.YtijdcpomalkkhaaGreat
open Go.RowKit
noncomputable def epR (ss tt : List ByteArray) : List ByteArray := if isQ ss tt = true then elT (fmL (ss ++ tt)) else []
noncomputable def epC (ss tt : List ByteArray) : Int := if isQ ss tt = true then 0 else 1
theorem elT_len {G : List Fm} (h : Fine G) : (elT G).length ≤ 40 * G.length := by
  unfold elT
  exact Nat.le_trans (List.length_filter_le _ _) (subT_len h)
theorem epG {ss tt : List ByteArray} (h : isQ ss tt = true) : Fine (fmL (ss ++ tt)) ∧ (fmL (ss ++ tt)).length ≤ 32 := by
  obtain ⟨h1, h2, h3, h4⟩ := isQ_iff h
  exact ⟨by rw [fmL_append]; exact (fmL_fine h3).append (fmL_fine h4), by rw [fmL_len, List.length_append]; omega⟩
theorem epR_len (ss tt : List ByteArray) : (epR ss tt).length ≤ 1280 := by
  unfold epR
  split
  · rename_i h
    have h1 := elT_len (epG h).1
    have h2 := (epG h).2
    omega
  · simp
/-- a fresh list of strings and a code -/
def RetSC (w : World) (r : List ByteArray) (c : Int) (e : Ending) (w' : World) : Prop := ∃ v, e = .returned (.tuple #[v, .int .i64 c]) ∧ OwnS w' w.heap.size v r ∧ Keeps w w'
--
set_option maxRecDepth 100000 in
set_option maxHeartbeats 4000000 in
theorem implElementaryParts (ss tt : List ByteArray) (v u : Value) (w : World) (hv : Strs w v ss) (hu : Strs w u tt) (hs : Mid ss) (ht : Mid tt) :
    Calls Tryz.prog 12 #[.agg #[v, u]] w (RetSC w (epR ss tt) (epC ss tt)) := by
  have kA := (Keeps.refl w).alloc (.cells #[v, u] 28)
  obtain ⟨c0, c1⟩ := BoxQ.made w v u 28
  have HI := hid (isModalSequent_any ss tt v u _ (hv.keeps kA) (hu.keeps kA) hs ht)
  have HR : Hid (epR ss tt = if isQ ss tt = true then elT (fmL (ss ++ tt)) else []) := hid rfl
  have HC : Hid (epC ss tt = if isQ ss tt = true then 0 else 1) := hid rfl
  by_cases hq : isQ ss tt = true
  · rw [if_pos hq] at HR HC
    rw [hq] at HI
    rw [HR.out, HC.out]
    obtain ⟨h16, h16', hS, hT⟩ := isQ_iff hq
    have hep := epG hq
    have hel := elT_len hep.1
    have hfx : ∀ x ∈ (elF (fmL (ss ++ tt))).map Fm.enc, x.length ≤ 2147483648 := fun x hx => by
      obtain ⟨t, ht, rfl⟩ := List.mem_map.1 hx
      have := (elF_fine hep.1 t ht).2
      omega
    have HE := hid (fun wz (kz : Keeps w wz) => elementaryParts_any ss tt v u wz (hv.keeps kz) (hu.keeps kz) hS hT h16 h16')
    have hfl := elF_len (fmL (ss ++ tt))
    obtain ⟨p, c, rfl, _⟩ := hv.shape
    obtain ⟨q, c2, rfl, _⟩ := hu.shape
    have hgl := hep.2
    have HFX := hid hfx
    clear hv hu hs ht hS hT hq hep HR HC hfx
    generalize hE : elT (fmL (ss ++ tt)) = E at *
    have HEE := hid hE; clear hE
    generalize hF : (elF (fmL (ss ++ tt))).map Fm.enc = F at *
    have hFl : F.length = E.length := by rw [← hF, List.length_map, hfl]
    have HFF := hid hF; clear hF hfl
    have HFL := hid hFl; clear hFl
    have hEl : E.length ≤ 10000 := by omega
    go_enter Tryz.func12, Tryz.ntmps12
    go_wp2_with fail
    refine HI.out.mono ?_; rintro e w2 ⟨rfl, k2⟩
    replace c0 := k2.cell c0
    replace c1 := k2.cell c1
    go_wp2_with fail
    refine (HE.out _ (kA.trans k2)).mono ?_; rintro e w3 ⟨v3, rfl, hv3, k3⟩
    have kk := (kA.trans k2).trans k3
    have hEL := hv3.elL (by omega) HFX.out
    obtain ⟨p3, c3, rfl, hle3, hmx3, _⟩ := id hEL
    unfold maxLen at hmx3
    have HEL := hid hEL; clear hv3 hEL
    have HTK : Hid (∀ i (h : i < E.length), E.take (i + 1) = E.take i ++ [E[i]]) := hid (fun i h => List.take_succ_eq_append_getElem h)
    have HTE : Hid (E.take E.length = E) := hid (List.take_length)
    have HTL : Hid (∀ i, (E.take i).length ≤ E.length) := hid (fun i => by rw [List.length_take]; exact Nat.min_le_right _ _)
    go_wp2
    go_loopw [4, 13] (fun o i' wr => ∃ i : Nat, i ≤ E.length ∧ i' = .int .i64 i ∧ OwnS wr w3.heap.size o (E.take i) ∧ Keeps w3 wr) (fun _ i' _ => E.length - (intOf i').toNat)
    case atStart => exact ⟨0, by omega, rfl, OwnS.nil _ _, Keeps.refl _⟩
    case round =>
      obtain ⟨i, hi, rfl, hown, kw⟩ := hrel
      by_cases hlt : i < E.length
      · have hlt' : (i : Int) < E.length := by omega
        obtain ⟨_, _, e0, _, _, _, _, hget⟩ := HEL.out.keeps kw
        obtain ⟨b1, o1, u1, e1, h1, h2, hnd⟩ := hget i hlt (by rw [HFL.out]; exact hlt)
        cases e0
        cases e1
        obtain ⟨q1, n1, c1', rfl⟩ := hnd.shape
        clear hget hnd
        have hsz := kw.size
        have HT := hid (HTK.out i hlt)
        have hll := HTL.out i
        generalize hL : E.take i = L at *
        have HL := hid hL; clear hL
        generalize E[i] = x at *
        have hlit : Strs ((wr.alloc (.cells #[.string x, .slice q1 n1 c1'] 64)).alloc (.cells #[.string x] 9)) (.slice (some ⟨wr.heap.size + 1, 0, none⟩) 1 1) [x] := by
          have := Strs.lit1 (wr.alloc (.cells #[.string x, .slice q1 n1 c1'] 64)) x
          simpa using this
        have kx := (kw.alloc (.cells #[.string x, .slice q1 n1 c1'] 64)).alloc (.cells #[.string x] 9)
        have ho := hown.keeps (((Keeps.refl wr).alloc (.cells #[.string x, .slice q1 n1 c1'] 64)).alloc (.cells #[.string x] 9))
        have HLIT := hid hlit; clear hlit
        go_wp2_with (at_builtin; refine appS rfl _ _ rfl w3.heap.size _ L rfl ho _ [x] rfl HLIT.out (by simp; omega) (by simp; omega) ?_; intro v4 w4 hv4 hg4 hr4; have k4 := kx.grown hg4 (fun q hq => hr4 q hq))
        go_roundw
        case rel => exact ⟨i + 1, by omega, by go_num, by rw [HT.out]; exact hv4, k4⟩
        case measure => simp [intOf]; omega
      · obtain rfl : i = E.length := by omega
        have hlt' : ¬ ((E.length : Int) < E.length) := by omega
        rw [HTE.out] at hown
        go_wp2
        go_ret2
        exact ⟨_, rfl, hown.mono kk.size, kk.trans kw⟩
  · rw [if_neg hq] at HR HC
    rw [Bool.not_eq_true] at hq
    rw [hq] at HI
    rw [HR.out, HC.out]
    obtain ⟨p, c, rfl, _⟩ := hv.shape
    obtain ⟨q, c2, rfl, _⟩ := hu.shape
    clear hv hu hs ht hq HR HC
    go_enter Tryz.func12, Tryz.ntmps12
    go_wp2_with fail
    refine HI.out.mono ?_; rintro e w2 ⟨rfl, k2⟩
    go_wp2_with fail
    go_ret2
    exact ⟨_, rfl, OwnS.nil _ _, kA.trans k2⟩
--
set_option maxRecDepth 100000 in
set_option maxHeartbeats 4000000 in
theorem l12Elementary_any (ss tt : List ByteArray) (v u : Value) (w : World) (hv : Strs w v ss) (hu : Strs w u tt) (hs : Side ss) (ht : Side tt) (h16 : ss.length ≤ 16) (h16' : tt.length ≤ 16) :
    Calls Tryz.prog 39 #[.agg #[v, u]] w (RetSt w (elT (fmL (ss ++ tt)))) := by
  have hG : Fine (fmL (ss ++ tt)) := by rw [fmL_append]; exact (fmL_fine hs).append (fmL_fine ht)
  have hGl : (fmL (ss ++ tt)).length ≤ 32 := by rw [fmL_len, List.length_append]; omega
  have kA := ((Keeps.refl w).alloc (.cells #[v, u] 28)).alloc (.cells #[] 9)
  obtain ⟨c0, c1⟩ := BoxQ.made w v u 28
  have hsz : (w.alloc (.cells #[v, u] 28)).heap.size = w.heap.size + 1 := by simp
  have hE0 := OwnS.empty (w.alloc (.cells #[v, u] 28))
  rw [hsz] at hE0
  have HE0 := hid hE0
  have HPA := hid (l11Parts_any ss tt v u _ (hv.keeps kA) (hu.keeps kA) hs ht h16 h16')
  have hTL := subT_len hG
  have HTX : Hid (∀ i (h : i < (subT (fmL (ss ++ tt))).length), IsTx (subT (fmL (ss ++ tt)))[i] (txF (subT (fmL (ss ++ tt)))[i])) := hid (fun i h => by
    obtain ⟨t, _, h2⟩ := subT_tx hG (List.getElem_mem h)
    exact txF_tx ⟨t, h2⟩)
  obtain ⟨p, c, rfl, _⟩ := hv.shape
  obtain ⟨q, c2, rfl, _⟩ := hu.shape
  clear hv hu hs ht hG hE0
  generalize fmL (ss ++ tt) = G at *
  have HZ := hid (elTo_zero G)
  have HEN := hid (elTo_end G)
  have HLN := hid (elTo_len G)
  have HY := hid (fun i (h : i < (subT G).length) => elTo_yes h)
  have HNO := hid (fun i (h : i < (subT G).length) => elTo_no h)
  replace c0 := ((Keeps.refl _).alloc (.cells #[] 9)).cell c0
  replace c1 := ((Keeps.refl _).alloc (.cells #[] 9)).cell c1
  go_enter Tryz.func39, Tryz.ntmps39
  go_wp2_with fail
  refine HPA.out.mono ?_; rintro e w2 ⟨b2, n2, c3, rfl, hv2, k2⟩
  have kk := kA.trans k2
  have HV2 := hid (hv2.strs (by omega))
  obtain ⟨hn, hn2, hn3⟩ : n2 = (subT G).length ∧ c3 ≤ maxLen ∧ n2 ≤ c3 := by obtain ⟨p', c', e, h1, h2, _⟩ := At.of_own hv2; cases e; exact ⟨rfl, h2, h1⟩
  subst hn
  unfold maxLen at hn2
  have HE2 := hid (HE0.out.keeps k2)
  clear hv2 HE0
  go_wp2
  go_loopw [3, 5] (fun o i' wr => ∃ i : Nat, i ≤ (subT G).length ∧ i' = .int .i64 i ∧ ((o = .slice (some ⟨w.heap.size + 1, 0, none⟩) 0 0 ∧ elTo G i = []) ∨ OwnS wr w2.heap.size o (elTo G i)) ∧ Keeps w2 wr) (fun _ i' _ => (subT G).length - (intOf i').toNat)
  case atStart => exact ⟨0, by omega, rfl, .inl ⟨by simp, HZ.out⟩, Keeps.refl _⟩
  case round =>
    obtain ⟨i, hi, rfl, hown, kw⟩ := hrel
    by_cases hlt : i < (subT G).length
    · have hlt' : (i : Int) < (subT G).length := by omega
      obtain ⟨b1, o1, e1, h1⟩ := (HV2.out.keeps kw).get i hlt
      have hb : b2 = ⟨b1, o1, none⟩ := Option.some.inj e1
      subst hb
      have htx := HTX.out i hlt
      have HP := hid (l02GoodA (subT G)[i] wr (by have := htx.small; omega))
      unfold GoodR at HP
      have h40 := htx.2.2
      have hix := isTx_iff.2 ⟨_, htx⟩
      have HTX1 := hid htx
      have hy := HY.out i hlt
      have hno := HNO.out i hlt
      have HYS := hid hy; clear hy
      have HNS := hid hno; clear hno
      have hll := HLN.out i
      have hsz2 := kw.size
      clear htx
      generalize (subT G)[i] = x at *
      generalize txF x = t at *
      go_wp2_with fail
      refine HP.out.mono ?_; rintro e w5 ⟨v5, rfl, k5, hg5⟩
      have hv5 := hg5 t HTX1.out
      rw [hix]
      have hnd := hv5.nds (by omega)
      obtain ⟨b5, o5, n5, c5, rfl, hn0, hn1, hn2', hn3', hc, _⟩ := hnd.root
      unfold maxLen at hn2'
      have hx5 := k5.cell h1
      have kw5 := kw.trans k5
      clear hnd hv5 hg5
      rcases el_kind t with ⟨he, hk⟩ | ⟨he, hk⟩
      · rcases hk with hk | hk | hk
        · rw [hk] at hc
          rcases hown with ⟨rfl, hL0⟩ | hoi
          · go_wp2_with (at_builtin; refine appSF rfl _ _ rfl _ rfl _ [x] rfl (Strs.lit1 w5 _) (by simp) (by simp) ?_; intro v7 w7 hv7 kq)
            go_roundw
            case rel => exact ⟨i + 1, by omega, by go_num, .inr (by rw [HYS.out he, hL0]; exact hv7.mono (by have := kw5.size; simp; omega)), (kw5.alloc _).trans kq⟩
            case measure => simp [intOf]; omega
          · have ho5 := hoi.keeps k5
            have hs5 := kw5.size
            clear hoi
            go_wp2_with (at_builtin; refine appS rfl _ _ rfl w2.heap.size _ (elTo G i) rfl (ho5.keeps ((Keeps.refl w5).alloc _)) _ [x] rfl (Strs.lit1 w5 _) (by simp; omega) (by simp; omega) ?_; intro v7 w7 hv7 hg7 hr7; have k7 := (kw5.alloc (.cells #[.string x] 9)).grown hg7 (fun q hq => hr7 q hq))
            go_roundw
            case rel => exact ⟨i + 1, by omega, by go_num, .inr (by rw [HYS.out he]; exact hv7), k7⟩
            case measure => simp [intOf]; omega
        · rw [hk] at hc
          rcases hown with ⟨rfl, hL0⟩ | hoi
          · go_wp2_with (at_builtin; refine appSF rfl _ _ rfl _ rfl _ [x] rfl (Strs.lit1 w5 _) (by simp) (by simp) ?_; intro v7 w7 hv7 kq)
            go_roundw
            case rel => exact ⟨i + 1, by omega, by go_num, .inr (by rw [HYS.out he, hL0]; exact hv7.mono (by have := kw5.size; simp; omega)), (kw5.alloc _).trans kq⟩
            case measure => simp [intOf]; omega
          · have ho5 := hoi.keeps k5
            have hs5 := kw5.size
            clear hoi
            go_wp2_with (at_builtin; refine appS rfl _ _ rfl w2.heap.size _ (elTo G i) rfl (ho5.keeps ((Keeps.refl w5).alloc _)) _ [x] rfl (Strs.lit1 w5 _) (by simp; omega) (by simp; omega) ?_; intro v7 w7 hv7 hg7 hr7; have k7 := (kw5.alloc (.cells #[.string x] 9)).grown hg7 (fun q hq => hr7 q hq))
            go_roundw
            case rel => exact ⟨i + 1, by omega, by go_num, .inr (by rw [HYS.out he]; exact hv7), k7⟩
            case measure => simp [intOf]; omega
        · rw [hk] at hc
          rcases hown with ⟨rfl, hL0⟩ | hoi
          · go_wp2_with (at_builtin; refine appSF rfl _ _ rfl _ rfl _ [x] rfl (Strs.lit1 w5 _) (by simp) (by simp) ?_; intro v7 w7 hv7 kq)
            go_roundw
            case rel => exact ⟨i + 1, by omega, by go_num, .inr (by rw [HYS.out he, hL0]; exact hv7.mono (by have := kw5.size; simp; omega)), (kw5.alloc _).trans kq⟩
            case measure => simp [intOf]; omega
          · have ho5 := hoi.keeps k5
            have hs5 := kw5.size
            clear hoi
            go_wp2_with (at_builtin; refine appS rfl _ _ rfl w2.heap.size _ (elTo G i) rfl (ho5.keeps ((Keeps.refl w5).alloc _)) _ [x] rfl (Strs.lit1 w5 _) (by simp; omega) (by simp; omega) ?_; intro v7 w7 hv7 hg7 hr7; have k7 := (kw5.alloc (.cells #[.string x] 9)).grown hg7 (fun q hq => hr7 q hq))
            go_roundw
            case rel => exact ⟨i + 1, by omega, by go_num, .inr (by rw [HYS.out he]; exact hv7), k7⟩
            case measure => simp [intOf]; omega
      · rcases hk with hk | hk | hk | hk
        · rw [hk] at hc
          go_wp2_with fail
          go_roundw
          case rel => exact ⟨i + 1, by omega, by go_num, by rw [HNS.out he]; exact hown.imp id (fun h => h.keeps k5), kw5⟩
          case measure => simp [intOf]; omega
        · rw [hk] at hc
          go_wp2_with fail
          go_roundw
          case rel => exact ⟨i + 1, by omega, by go_num, by rw [HNS.out he]; exact hown.imp id (fun h => h.keeps k5), kw5⟩
          case measure => simp [intOf]; omega
        · rw [hk] at hc
          go_wp2_with fail
          go_roundw
          case rel => exact ⟨i + 1, by omega, by go_num, by rw [HNS.out he]; exact hown.imp id (fun h => h.keeps k5), kw5⟩
          case measure => simp [intOf]; omega
        · rw [hk] at hc
          go_wp2_with fail
          go_roundw
          case rel => exact ⟨i + 1, by omega, by go_num, by rw [HNS.out he]; exact hown.imp id (fun h => h.keeps k5), kw5⟩
          case measure => simp [intOf]; omega
    · obtain rfl : i = (subT G).length := by omega
      have hlt' : ¬ (((subT G).length : Int) < (subT G).length) := by omega
      rw [HEN.out] at hown
      have hfin : ∀ o, ((o = .slice (some ⟨w.heap.size + 1, 0, none⟩) 0 0 ∧ elT G = []) ∨ OwnS wr w2.heap.size o (elT G)) → OwnS wr w.heap.size o (elT G) := by
        intro o ho
        rcases ho with ⟨rfl, h0⟩ | h
        · rw [h0]; exact (HE2.out.keeps kw).mono (by omega)
        · exact h.mono kk.size
      have hfo := hfin _ hown
      clear hown hfin
      go_wp2
      go_ret
      exact ⟨_, rfl, hfo, kk.trans kw⟩
--
set_option maxRecDepth 100000 in
theorem specElementaryParts (ss tt : List ByteArray) (v u : Value) (w : World) (hv : Strs w v ss) (hu : Strs w u tt) (hs : Mid ss) (ht : Mid tt) :
    Calls Tryz.prog 10 #[.agg #[v, u]] w (RetSC w (epR ss tt) (epC ss tt)) := by
  have kA := (Keeps.refl w).alloc (.cells #[v, u] 28)
  obtain ⟨c0, c1⟩ := BoxQ.made w v u 28
  have HI := hid (l11Is_any ss tt v u _ (hv.keeps kA) (hu.keeps kA) hs ht)
  have HR : Hid (epR ss tt = if isQ ss tt = true then elT (fmL (ss ++ tt)) else []) := hid rfl
  have HC : Hid (epC ss tt = if isQ ss tt = true then 0 else 1) := hid rfl
  by_cases hq : isQ ss tt = true
  · rw [if_pos hq] at HR HC
    rw [hq] at HI
    rw [HR.out, HC.out]
    obtain ⟨h16, h16', hS, hT⟩ := isQ_iff hq
    have HE := hid (fun wz (kz : Keeps w wz) => l12Elementary_any ss tt v u wz (hv.keeps kz) (hu.keeps kz) hS hT h16 h16')
    obtain ⟨p, c, rfl, _⟩ := hv.shape
    obtain ⟨q, c2, rfl, _⟩ := hu.shape
    clear hv hu hs ht hS hT hq HR HC
    generalize elT (fmL (ss ++ tt)) = E at *
    go_enter Tryz.func10, Tryz.ntmps10
    go_wp2_with fail
    refine HI.out.mono ?_; rintro e w2 ⟨rfl, k2⟩
    replace c0 := k2.cell c0
    replace c1 := k2.cell c1
    go_wp2_with fail
    refine (HE.out _ (kA.trans k2)).mono ?_; rintro e w3 ⟨v3, rfl, hv3, k3⟩
    go_wp2_with fail
    go_ret2
    exact ⟨_, rfl, hv3.mono (kA.trans k2).size, (kA.trans k2).trans k3⟩
  · rw [if_neg hq] at HR HC
    rw [Bool.not_eq_true] at hq
    rw [hq] at HI
    rw [HR.out, HC.out]
    obtain ⟨p, c, rfl, _⟩ := hv.shape
    obtain ⟨q, c2, rfl, _⟩ := hu.shape
    clear hv hu hs ht hq HR HC
    go_enter Tryz.func10, Tryz.ntmps10
    go_wp2_with fail
    refine HI.out.mono ?_; rintro e w2 ⟨rfl, k2⟩
    go_wp2_with fail
    go_ret2
    exact ⟨_, rfl, OwnS.nil _ _, kA.trans k2⟩
end Go.Proofs.YtijdcpomalkkhaaGreat
