/- The reference: texts in order, each once (l02Insert, l31Texts); l23Ok, l31Theorem. -/
import Derived.Test.YtpbbfoliabgkpaaGreatGY6
import Derived.Test.YtpbbfoliabgkpaaGreatGU3
import Derived.Test.YtpbbfoliabgkpaaGreatGU2
import Derived.Test.YtpbbfoliabgkpaaGreatGM2
namespace Go.Proofs.YtpbbfoliabgkpaaGreat
open Go.RowKit
theorem OLeft.keeps {w w' : World} {B : Nat} {v : Value} {G : List Fm} (h : OLeft w B v G) (k : Keeps w w') : OLeft w' B v G := by
  obtain ⟨ss, h1, h2, h3⟩ := h
  exact ⟨ss, h1.keeps k, h2, h3⟩
theorem sizeOfS (w : World) : (sizeOf 9).run Tryz.prog w = .ok 1 w := by
  obtain ⟨i0, hi, hz0, hz1, hz2⟩ := info_parts infoS
  simp [sizeOf, typeInfo, hi, hz1]
theorem tailS (b off m cap l : Nat) (i : Int) (hi : i = l) (hl : l ≤ m) (hc : m ≤ cap) :
    ∃ q, (∀ (w : World) (vs : List Value), At w (some ⟨b, off, none⟩) vs → vs.length = m → At w q (vs.drop l)) ∧
      ∀ wx, (Instr.slice 30 (.slice (some ⟨b, off, none⟩) m cap) (some (.int .i64 i)) none none).run Tryz.prog wx = .ok (.slice q (m - l) (cap - l)) wx := by
  subst hi
  have hT : Tryz.prog.underlying 30 = some (.slice (Tryz.prog.elem 30)) := by kernel_rfl
  have hE : Tryz.prog.elem 30 = 9 := by kernel_rfl
  refine ⟨if cap = l then some ⟨b, off, none⟩ else some ⟨b, off + l, none⟩, fun w vs h hvl => ?_, fun wx => ?_⟩
  · split
    · rename_i e
      have : vs.drop l = [] := List.drop_eq_nil_of_le (by omega)
      rw [this]
      exact At.nil _ _
    · exact h.drop l rfl
  · rw [run_slice_l (P := Tryz.prog) wx 30 (some ⟨b, off, none⟩) m cap hT .i64 (l : Int) (by omega) (by omega), hE, sizeOfS]
    simp only [Result.andThen_ok, sliced, Int.toNat_natCast, Nat.mul_one, Option.map_some]
    have hadd : (⟨b, off, none⟩ : Addr).add l = ⟨b, off + l, none⟩ := by unfold Addr.add; split <;> simp_all
    rw [hadd]
theorem At.takeN {w : World} {p : Option Addr} {vs : List Value} (h : At w p vs) (k : Nat) : At w p (vs.take k) := fun j hj => by
  simp at hj
  obtain ⟨b, off, hp, hc⟩ := h j (by omega)
  exact ⟨b, off, hp, by simpa using hc⟩
theorem insert_mem {R : List Fm} {t : Fm} (k : Nat) : ∀ a, a ∈ R.take k ++ [t] ++ R.drop k ↔ a ∈ R ∨ a = t := by
  intro a
  have h : a ∈ R ↔ a ∈ R.take k ∨ a ∈ R.drop k := by
    conv => lhs; rw [← List.take_append_drop k R]
    exact List.mem_append
  rw [h]
  simp only [List.mem_append, List.mem_singleton]
  constructor
  · rintro ((h | h) | h)
    · exact .inl (.inl h)
    · exact .inr h
    · exact .inl (.inr h)
  · rintro ((h | h) | h)
    · exact .inl (.inl h)
    · exact .inr h
    · exact .inl (.inr h)
theorem insert_wts (R : List Fm) (t : Fm) (k : Nat) : wts (R.take k ++ [t] ++ R.drop k) = wts R + wt t := by
  have h : wts R = wts (R.take k) + wts (R.drop k) := by
    conv => lhs; rw [← List.take_append_drop k R]
    exact wts_append _ _
  rw [wts_append, wts_append, h]
  simp only [wts]
  omega
theorem strs_of {w : World} {p : Option Addr} {k cap : Nat} {a : List ByteArray} (h1 : k = a.length) (h2 : cap ≤ maxLen) (h : At w p (strCells a)) (h3 : a.length ≤ 2147483648 ∧ a.length ≤ cap) : Strs w (.slice p k cap) a := by
  subst h1
  exact Strs.ofAt h3.2 h2 h h3.1
theorem at_take {w : World} {p : Option Addr} {a : List ByteArray} (h : At w p (strCells a)) (k : Nat) : At w p (strCells (a.take k)) := by
  have := At.takeN h k
  rwa [show (strCells a).take k = strCells (a.take k) by simp [strCells, List.map_take]] at this
theorem at_drop {w : World} {p : Option Addr} {a : List ByteArray} {k : Nat} (h : At w p ((strCells a).drop k)) : At w p (strCells (a.drop k)) := by
  rwa [show (strCells a).drop k = strCells (a.drop k) by simp [strCells, List.map_drop]] at h
theorem own_some {w : World} {B : Nat} {v : Value} {a : List ByteArray} (h : OwnS w B v a) (hp : 0 < a.length) : ∃ g cap, v = .slice (some ⟨g, 0, none⟩) a.length cap := by
  rcases h.2 with ⟨_, e⟩ | ⟨g, c, _, e, _⟩
  · omega
  · exact ⟨g, c, e⟩
/-- a text is put in its place -/
def InsOk (w : World) (B : Nat) (R : List Fm) (t : Fm) (e : Ending) (w' : World) : Prop := ∃ b' o' n' c' R', e = .returned (.slice (some ⟨b', o', none⟩) n' c') ∧ OLeft w' B (.slice (some ⟨b', o', none⟩) n' c') R' ∧ (∀ a, a ∈ R' ↔ a ∈ R ∨ a = t) ∧ wts R' ≤ wts R + wt t ∧ R'.length ≤ R.length + 1 ∧ Keeps w w'
set_option maxRecDepth 20000 in
set_option maxHeartbeats 2000000 in
theorem l02Insert_any (R : List Fm) (t : Fm) (b off n cap : Nat) (s : ByteArray) (B : Nat) (w : World) (hv : OLeft w B (.slice (some ⟨b, off, none⟩) n cap) R) (hs : bts s = t.body) (hR : ∀ a ∈ R, a.wf) (ht : t.wf) (hn : R.length ≤ 1000) (hB : B ≤ w.heap.size) :
    Calls Tryz.prog 186 #[.slice (some ⟨b, off, none⟩) n cap, .string s] w (InsOk w B R t) := by
  have HV := hid hv
  obtain ⟨ss, hss, htx, _⟩ := hv
  have hst := hss.strs (by rw [htx.length]; omega)
  obtain ⟨p', c', e, hnc, hcm, hat, _⟩ := hst.at
  cases e
  unfold maxLen at hcm
  have hln := htx.length
  have hm1 : ss.length ≤ 1000 := by omega
  have HST := hid hst; clear hst hss
  have HAT := hid hat; clear hat
  have HTX := hid htx; clear htx
  have HLN := hid hln; clear hln
  have HS := hid hs; clear hs
  go_enter Tryz.func186, Tryz.ntmps186
  go_wp2
  go_loop [5] (fun i' => ∃ k : Nat, k ≤ ss.length ∧ i' = .int .i64 k) (fun i => ss.length - (intOf i).toNat)
  case atStart => exact ⟨0, by omega, rfl⟩
  case round =>
    obtain ⟨k, hk, rfl⟩ := hrel
    by_cases hlt : k < ss.length
    · have hlt' : (k : Int) < ss.length := by omega
      obtain ⟨b', off', e, hc⟩ := HST.out.get k hlt
      cases e
      have hkR : k < R.length := by have := HLN.out; omega
      have hx := hid (HTX.out.get k hlt hkR)
      have hxm := hid (List.getElem_mem hkR)
      generalize R[k] = tk at *
      generalize ss[k] = x at *
      cases hless : Op.bytesLess x.toList s.toList with
      | true =>
        go_wp2
        go_round
        case rel => exact ⟨k + 1, by omega, by go_num⟩
        case measure => simp [intOf]; omega
      | false =>
        cases heq : (x.toList == s.toList) with
        | true =>
          have htt : tk = t := by
            have h1 : bts x = bts s := by rw [beq_bts] at heq; exact of_decide_eq_true heq
            exact body_inj (hR _ hxm.out) ht (hx.out.symm.trans (h1.trans HS.out))
          have HM := hid (show ∀ a, a ∈ R ↔ a ∈ R ∨ a = t from fun a => ⟨.inl, fun h => h.elim id (fun e => by rw [e, ← htt]; exact hxm.out)⟩)
          clear htt
          go_wp2
          go_ret
          exact ⟨b, off, _, cap, R, rfl, HV.out, HM.out, by omega, by omega, Keeps.refl _⟩
        | false =>
          have HU1 := hid (show Strs (w.alloc (.cells #[] 9)) (.slice (some ⟨b, off, none⟩) k cap) (ss.take k) from by
            have h1 := HAT.out
            refine (strs_of (by simp; omega) (by unfold maxLen; omega) (at_take h1 k) ⟨by simp; omega, by simp; omega⟩).keeps ((Keeps.refl w).alloc _))
          have HU3 := hid (fun w3 (k3 : Keeps w w3) => (show Strs w3 (.slice (some ⟨b, off + k, none⟩) (ss.length - k) (cap - k)) (ss.drop k) from by
            have h1 := (show At w (some ⟨b, off + k, none⟩) ((strCells ss).drop k) from HAT.out.drop k rfl)
            exact (strs_of (by simp) (by unfold maxLen; omega) (at_drop h1) ⟨by simp; omega, by simp; omega⟩).keeps k3))
          have HTI := hid (show Txts ([] ++ ss.take k ++ [s] ++ ss.drop k) (R.take k ++ [t] ++ R.drop k) from by
            have h1 : ss.map bts = R.map Fm.body := HTX.out
            simp only [Txts, List.nil_append, List.map_append, List.map_take, List.map_drop, h1, List.map_cons, List.map_nil, HS.out])
          go_wp2_with (at_builtin; first
            | (refine appS rfl (.tmp 34) (.tmp 37) rfl w.heap.size _ [] rfl (OwnS.empty w) _ (ss.take k) rfl HU1.out (by simp) (by simp; omega) ?_; intro v2 w2 hv2 hg2 hr2; have k2 : Keeps w w2 := ((Keeps.refl w).alloc _).grown hg2 (fun q hq => hr2 q hq); have hs2 := k2.size)
            | (refine appS rfl (.tmp 39) (.tmp 41) rfl w.heap.size _ ([] ++ ss.take k) rfl (hv2.keeps ((Keeps.refl w2).alloc _)) _ [s] rfl (Strs.lit1 w2 s) (by simp; omega) (by simp; omega) ?_; intro v3 w3 hv3 hg3 hr3; have k3 : Keeps w w3 := (k2.alloc _).grown hg3 (fun q hq => hr3 q hq); have hs3 := k3.size)
            | (refine appS rfl (.tmp 43) (.tmp 46) rfl w.heap.size _ ([] ++ ss.take k ++ [s]) rfl hv3 _ (ss.drop k) rfl (HU3.out w3 k3) (by omega) (by simp; omega) ?_; intro v4 w4 hv4 hg4 hr4; have k4 : Keeps w w4 := k3.grown hg4 (fun q hq => hr4 q hq)))
          go_ret
          obtain ⟨g4, c4, rfl⟩ := own_some hv4 (by simp; omega)
          exact ⟨g4, 0, _, c4, _, rfl, ⟨_, hv4.mono hB, HTI.out, by have := HLN.out; simp; omega⟩, insert_mem k, by rw [insert_wts]; exact Nat.le_refl _, by have := HLN.out; simp; omega, k4⟩
    · have hlt' : ¬ ((k : Int) < ss.length) := by omega
      have HU1 := hid (show Strs (w.alloc (.cells #[] 9)) (.slice (some ⟨b, off, none⟩) k cap) (ss.take k) from by
        have h1 := HAT.out
        refine (strs_of (by simp; omega) (by unfold maxLen; omega) (at_take h1 k) ⟨by simp; omega, by simp; omega⟩).keeps ((Keeps.refl w).alloc _))
      obtain ⟨q, hq, hrun⟩ := tailS b off ss.length cap k (k : Int) rfl hk hnc
      have HU3 := hid (fun w3 (k3 : Keeps w w3) => (show Strs w3 (.slice q (ss.length - k) (cap - k)) (ss.drop k) from by
        have h1 := hq w (strCells ss) HAT.out (by simp [strCells])
        exact (strs_of (by simp) (by unfold maxLen; omega) (at_drop h1) ⟨by simp; omega, by simp; omega⟩).keeps k3))
      have HTI := hid (show Txts ([] ++ ss.take k ++ [s] ++ ss.drop k) (R.take k ++ [t] ++ R.drop k) from by
        have h1 : ss.map bts = R.map Fm.body := HTX.out
        simp only [Txts, List.nil_append, List.map_append, List.map_take, List.map_drop, h1, List.map_cons, List.map_nil, HS.out])
      clear hq
      go_wp2_with (at_builtin; first
        | (refine appS rfl (.tmp 34) (.tmp 37) rfl w.heap.size _ [] rfl (OwnS.empty w) _ (ss.take k) rfl HU1.out (by simp) (by simp; omega) ?_; intro v2 w2 hv2 hg2 hr2; have k2 : Keeps w w2 := ((Keeps.refl w).alloc _).grown hg2 (fun q hq => hr2 q hq); have hs2 := k2.size)
        | (refine appS rfl (.tmp 39) (.tmp 41) rfl w.heap.size _ ([] ++ ss.take k) rfl (hv2.keeps ((Keeps.refl w2).alloc _)) _ [s] rfl (Strs.lit1 w2 s) (by simp; omega) (by simp; omega) ?_; intro v3 w3 hv3 hg3 hr3; have k3 : Keeps w w3 := (k2.alloc _).grown hg3 (fun q hq => hr3 q hq); have hs3 := k3.size)
        | (refine appS rfl (.tmp 43) (.tmp 46) rfl w.heap.size _ ([] ++ ss.take k ++ [s]) rfl hv3 _ (ss.drop k) rfl (HU3.out w3 k3) (by omega) (by simp; omega) ?_; intro v4 w4 hv4 hg4 hr4; have k4 : Keeps w w4 := k3.grown hg4 (fun q hq => hr4 q hq)))
      go_ret
      obtain ⟨g4, c4, rfl⟩ := own_some hv4 (by simp; omega)
      exact ⟨g4, 0, _, c4, _, rfl, ⟨_, hv4.mono hB, HTI.out, by have := HLN.out; simp; omega⟩, insert_mem k, by rw [insert_wts]; exact Nat.le_refl _, by have := HLN.out; simp; omega, k4⟩
set_option maxRecDepth 20000 in
set_option maxHeartbeats 1000000 in
theorem l31Texts_any (G : List Fm) (hG : OkL G) (hlen : ∀ a ∈ G, a.enc.length ≤ 40) (hn : G.length ≤ 900) (v : Value) (w : World) (hv : FsL w v G) :
    Calls Tryz.prog 93 #[v] w fun e w' => ∃ v', e = .returned v' ∧ (∃ R, Left w' v' R ∧ (∀ a, a ∈ R ↔ a ∈ G) ∧ wts R ≤ wts G ∧ R.length ≤ G.length) ∧ Keeps w w' := by
  obtain ⟨p, n, cap, rfl⟩ := NdsL.shapeL hv
  obtain ⟨hm, hmc, hmx⟩ := FsL.len hv
  unfold maxLen at hmx
  have hn1 : n ≤ 900 := by omega
  have HM := hid hm; clear hm
  have HV := hid hv; clear hv
  have k0 := (Keeps.refl w).alloc (.cells #[] 9)
  have hE := hid (show OLeft (w.alloc (.cells #[] 9)) w.heap.size (.slice (some ⟨w.heap.size, 0, none⟩) 0 0) [] from ⟨[], OwnS.empty w, rfl, by simp⟩)
  go_enter Tryz.func93, Tryz.ntmps93
  go_wp2
  go_loopw [3, 4] (fun r i' wr => ∃ k : Nat, k ≤ n ∧ i' = .int .i64 k ∧ (∃ b o n' c' R, r = .slice (some ⟨b, o, none⟩) n' c' ∧ OLeft wr w.heap.size (.slice (some ⟨b, o, none⟩) n' c') R ∧ (∀ a, a ∈ R ↔ a ∈ G.take k) ∧ wts R ≤ wts (G.take k) ∧ R.length ≤ k) ∧ Keeps w wr) (fun _ i _ => n - (intOf i).toNat)
  case atStart => exact ⟨0, by omega, rfl, ⟨_, _, _, _, [], rfl, hE.out, by simp, by simp [wts], by simp⟩, k0⟩
  case round =>
    obtain ⟨k, hk, rfl, ⟨b, o, n', c', R, rfl, hR, hmem, hwt, hlr⟩, kw⟩ := hrel
    by_cases hlt : k < n
    · have hlt' : (k : Int) < n := by omega
      have hkG : k < G.length := by have := HM.out; omega
      obtain ⟨b1, off, u1, rfl, hc, hu1⟩ := (HV.out.keeps kw).get k hkG
      have hok := hid (hG _ (List.getElem_mem hkG))
      have HT := hid (l02Text_any G[k] hok.out.1 hok.out.2 (by have := hlen _ (List.getElem_mem hkG); omega) u1 wr hu1)
      have htk := hid (show G.take (k + 1) = G.take k ++ [G[k]] from List.take_succ_eq_append_getElem hkG)
      obtain ⟨pu, nu, cu, rfl⟩ := hu1.shape
      have HI := hid (fun s (hs : bts s = G[k].body) w2 (k2 : Keeps wr w2) => l02Insert_any R G[k] b o n' c' s w.heap.size w2 (hR.keeps k2) hs (fun a ha => (hG a (List.mem_of_mem_take ((hmem a).1 ha))).1) hok.out.1 (by omega) (Nat.le_trans kw.size k2.size))
      clear hu1 hR
      go_wp2_with fail
      refine HT.out.mono ?_; rintro e w2 ⟨s, rfl, hs, k2⟩
      have HI2 := hid (HI.out s hs w2 k2)
      go_wp2_with fail
      refine HI2.out.mono ?_; rintro e w3 ⟨b', o', n2, c2, R', rfl, hR', hm', hw', hl', k3⟩
      go_wp2_with fail
      go_roundw
      case rel =>
        refine ⟨k + 1, by omega, by go_num, ⟨_, _, _, _, R', rfl, hR', ?_, ?_, by omega⟩, (kw.trans k2).trans k3⟩
        · intro a
          rw [hm' a, hmem a, htk.out, List.mem_append, List.mem_singleton]
        · rw [htk.out, wts_append]
          simp only [wts]
          omega
      case measure => simp [intOf]; omega
    · obtain rfl : k = n := by omega
      have hGk : G.take k = G := by have := HM.out; rw [this]; exact List.take_length
      rw [hGk] at hmem hwt
      have HA := hid (And.intro hR.left (And.intro hmem (And.intro hwt (show R.length ≤ G.length by have := HM.out; omega))))
      clear hR hmem hwt hGk
      have hlt' : ¬ ((k : Int) < k) := by omega
      go_wp2
      go_ret
      exact ⟨_, rfl, ⟨R, HA.out⟩, kw⟩
set_option maxRecDepth 20000 in
theorem l23Ok_any (G : List Fm) (c : Fm) (hG : OkL G) (hc : OkF c) (hlen : ∀ a ∈ G, a.enc.length ≤ 40) (hlc : c.enc.length ≤ 40) (hn : G.length ≤ 900) (hw : wts G + wt c ≤ 1000000000) (s : ByteArray) (v : Value) (w : World) (hv : Left w v G) (hs : bts s = c.body) :
    Calls Tryz.prog 92 #[v, .string s] w fun e w' => e = .returned (.bool (sqB G c)) ∧ Keeps w w' := by
  obtain ⟨p, n, cap, rfl⟩ := hv.shape
  have HF := hid (l22Formula_any c hc s w hs hlc)
  have HG := hid (fun w2 (k : Keeps w w2) => l22Formulas_any G hG hlen (by omega) _ w2 (hv.keeps k))
  have HS := hid (fun v u w2 (h1 : FsL w2 v G) (h2 : Nds w2 u c.enc) => l23Search_any G c hw (fun a ha => (hG a ha).2) hc.2 v u w2 h1 h2)
  clear hv hs
  go_enter Tryz.func92, Tryz.ntmps92
  go_wp2_with fail
  refine HF.out.mono ?_; rintro e w1 ⟨v1, rfl, hv1, k1⟩
  have hn1 := hid (hv1.nds (by omega))
  go_wp2_with fail
  refine (HG.out w1 k1).mono ?_; rintro e w2 ⟨v2, rfl, hv2, k2⟩
  go_wp2_with fail
  refine (HS.out _ _ w2 hv2 (hn1.out.keeps k2)).mono ?_; rintro e w3 ⟨rfl, k3⟩
  go_wp2_with fail
  go_ret
  exact ⟨rfl, (k1.trans k2).trans k3⟩
set_option maxRecDepth 20000 in
theorem l31Theorem_any (c : Fm) (hc : OkF c) (hlc : c.enc.length ≤ 20) (v : Value) (w : World) (hv : Nds w v c.enc) :
    Calls Tryz.prog 116 #[v] w fun e w' => e = .returned (.bool (sqB [] c)) ∧ Keeps w w' := by
  have kl := (Keeps.refl w).alloc (.cells #[] 9)
  have HT := hid (l02Text_any c hc.1 hc.2 (by omega) v _ (hv.keeps kl))
  have hE := hid (show Left (w.alloc (.cells #[] 9)) (.slice (some ⟨w.heap.size, 0, none⟩) 0 0) [] from ⟨[], (OwnS.empty w).strs (by simp), rfl⟩)
  have hw : wts [] + wt c ≤ 1000000000 := by
    have h1 := wt_le_pow c
    have h2 := pow_small (n := c.enc.length) (by omega)
    simp only [wts]; omega
  have HK := hid (fun s (hs : bts s = c.body) v w2 (h : Left w2 v []) => l23Ok_any [] c okL_nil hc (by simp) (by omega) (by simp) hw s v w2 h hs)
  clear hv hw
  go_enter Tryz.func116, Tryz.ntmps116
  go_wp2_with fail
  refine HT.out.mono ?_; rintro e w1 ⟨s, rfl, hs, k1⟩
  go_wp2_with fail
  refine (HK.out s hs _ w1 (hE.out.keeps k1)).mono ?_; rintro e w2 ⟨rfl, k2⟩
  go_wp2_with fail
  go_ret
  exact ⟨rfl, (kl.trans k1).trans k2⟩
end Go.Proofs.YtpbbfoliabgkpaaGreat
/- Walks: the laws' comparisons and marks of lists of node lists and of rules. -/
namespace Go.Proofs.YtpbbfoliabgkpaaGreat
open Go.RowKit
end Go.Proofs.YtpbbfoliabgkpaaGreat
/- Walks: the laws' comparisons and marks of rules. -/
namespace Go.Proofs.YtpbbfoliabgkpaaGreat
open Go.RowKit
theorem agg_shape {w : World} {v : Value} {xs : List (List Nd)} (h : NdsL w v xs) : ∃ p n c, v = .slice p n c := by
  obtain ⟨p, c, e, _⟩ := h
  exact ⟨p, _, c, e⟩
end Go.Proofs.YtpbbfoliabgkpaaGreat
/- What returns a rule and an error; the laws of such functions. -/
namespace Go.Proofs.YtpbbfoliabgkpaaGreat
open Go.RowKit
theorem At.touch {w w' : World} {S : Nat → Prop} {p : Option Addr} {vs : List Value} (h : At w p vs) (k : Touch w w' S) (hS : ∀ b off, p = some ⟨b, off, none⟩ → ¬ S b) : At w' p vs := fun j hj => by
  obtain ⟨b, off, hp, hc⟩ := h j hj
  exact ⟨b, off, hp, by rw [(k.cell (World.block_lt_of_cell? _ _ hc) (hS b off hp)).1]; exact hc⟩
def RetRE (w : World) (xs : List (List Nd)) (c : List Nd) (code : Int) (e : Ending) (w' : World) : Prop :=
  ∃ v u, e = .returned (.tuple #[.agg #[v, u], .int .i64 code]) ∧ OwnR w' w.heap.size v u xs c ∧ Keeps w w'
end Go.Proofs.YtpbbfoliabgkpaaGreat
