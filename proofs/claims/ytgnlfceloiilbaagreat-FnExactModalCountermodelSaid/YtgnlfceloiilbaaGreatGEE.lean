/- The reference's generated countermodel: which types are its worlds. -/
import Derived.Test.YtgnlfceloiilbaaGreatGNL
import Derived.Test.YtgnlfceloiilbaaGreatGXG0
import Derived.Deep.RegionHeld3
import Derived.Deep.CutBlock
import Derived.Deep.DeepCutAuto
namespace Go.Proofs.YtgnlfceloiilbaaGreat
open Go.RowKit
theorem cmI_ext (L : Nat) (E : List Fm) (N f : Nat) (W : List Nat) (i : Nat) : ∃ l, cmI L E N f W i = W ++ l := by
  unfold cmI
  split
  · exact ⟨[], by simp⟩
  · exact ⟨_, rfl⟩
theorem cmP_ext (L : Nat) (E : List Fm) (N f : Nat) (W : List Nat) : ∀ k, ∃ l, cmP L E N f W k = W ++ l
  | 0 => ⟨[], by simp [cmP_zero]⟩
  | k + 1 => by
    obtain ⟨l, h⟩ := cmP_ext L E N f W k
    cases hm : isMo (E.getD k .fls)
    · rw [cmP_no hm]; exact ⟨l, h⟩
    · rw [cmP_yes hm, h]
      obtain ⟨l2, h2⟩ := cmI_ext L E N f (W ++ l) k
      exact ⟨l ++ l2, by rw [h2, List.append_assoc]⟩
theorem cmP_getD {L : Nat} {E : List Fm} {N f : Nat} {W : List Nat} {x : Nat} (hx : x < W.length) (k : Nat) : (cmP L E N f W k).getD x 0 = W.getD x 0 := by
  obtain ⟨l, h⟩ := cmP_ext L E N f W k
  rw [h, List.getD_eq_getElem?_getD, List.getElem?_append_left hx, ← List.getD_eq_getElem?_getD]
theorem cmP_same {L : Nat} {E : List Fm} {N f : Nat} {W : List Nat} {k : Nat} (h : (isMo (E.getD k .fls) && !demB E k f) = false) : cmP L E N f W (k + 1) = cmP L E N f W k := by
  cases hm : isMo (E.getD k .fls)
  · exact cmP_no hm
  · rw [cmP_yes hm]
    rw [hm, Bool.true_and] at h
    unfold cmI
    rw [if_pos (by simp at h; simp [h])]
theorem cmP_step {L : Nat} {E : List Fm} {N f : Nat} {W : List Nat} {k : Nat} (h : (isMo (E.getD k .fls) && !demB E k f) = true) : cmP L E N f W (k + 1) = if (cmP L E N f W k).any (witB L E k f) then cmP L E N f W k else cmP L E N f W k ++ [lstL L E N (witB L E k f)] := by
  rw [Bool.and_eq_true, Bool.not_eq_true'] at h
  rw [cmP_yes h.1]
  unfold cmI
  rw [h.2, Bool.false_or]
/-- the rounds so far: world x comes next -/
def CmH (L : Nat) (E : List Fm) (N : Nat) (R : List Nat) (x : Nat) (W : List Nat) : Prop := x ≤ W.length ∧ W.length ≤ 17 ∧ cmG L E N (9 - x) x W = R ∧ LivW L E N W
theorem CmH.start {L : Nat} {E : List Fm} {N m : Nat} (hm : m < N) (hl : liveB L E N m = true) : CmH L E N (cmR L E N m) 0 [m] :=
  ⟨by simp, by simp, rfl, fun t ht => by rw [List.mem_singleton.1 ht]; exact ⟨hm, hl⟩⟩
theorem CmH.from {L : Nat} {E : List Fm} {N x : Nat} {R W : List Nat} (h : CmH L E N R x W) (hx : x < W.length) : W.getD x 0 < N ∧ liveB L E N (W.getD x 0) = true :=
  h.2.2.2 _ (by rw [List.getD_eq_getElem?_getD, List.getElem?_eq_getElem hx]; exact List.getElem_mem hx)
theorem CmH.next {L : Nat} {E : List Fm} {N x : Nat} {R W : List Nat} (h : CmH L E N R x W) (h8 : E.length ≤ 8) (hx : x < W.length) (hW : W.length ≤ 8) : CmH L E N R (x + 1) (cmW L E N (W.getD x 0) W) := by
  have hf := h.from hx
  obtain ⟨h1, h2, h3, h4⟩ := h
  have hb := cmW_both hf.1 hf.2 h4
  exact ⟨Nat.le_trans hx (cmW_ge _ _ _ _ _), by omega, by rw [← cmG_next hx hW]; exact h3, hb.1⟩
theorem CmH.done {L : Nat} {E : List Fm} {N x : Nat} {R W : List Nat} (h : CmH L E N R x W) (hx : ¬ (x < W.length ∧ W.length ≤ 8)) : R = W := by
  obtain ⟨h1, h2, h3, h4⟩ := h
  rw [← h3, cmG_end hx]
theorem see_lstL {L : Nat} {E : List Fm} {N f : Nat} (hL : L = 1) (hf : f < N) (hl : liveB L E N f = true) : fstOf (seeB L E f) (livL L E N) = (lstL L E N (seeB L E f) : Int) := by
  subst hL
  exact (see_lst hf hl).1
/-- seeking the first living type that passes -/
def ShR (w wq : World) (sl : Value) (V V2 ll : List Nat) (q : Nat → Bool) (fd o : Value) (j : Nat) : Prop :=
  (fd = .bool false ∧ o = sl ∧ fstOf q (ll.drop j) = fstOf q ll ∧ V2 = V ++ [(fstOf q ll).toNat] ∧ 0 ≤ fstOf q ll ∧ OwnI wq w.heap.size sl (natI V) ∧ Keeps w wq) ∨ (fd = .bool true ∧ OwnI wq w.heap.size o (natI V2) ∧ Keeps w wq)
theorem SpF.spr {w1 w : World} {r L N : Nat} {E : List Fm} {sE : List ByteArray} {c0 c1 c2 c3 c4 c5 c6 c7 : Value} (hF : SpF w1 r L E sE N c0 c1 c2 c3 c4 c5) (t : Touch w1 w (fun i => i = r)) (hb : BoxG w r 170 [c0, c1, c2, c3, c4, c5, c6, c7])
    (hs : sE.length = E.length) (h8 : E.length ≤ 8) (hL : L < 8) (hN : N ≤ 256) (hel : ∀ t ∈ E, isEl t = true) : SpR w r L N E (mskM E) sE := by
  refine ⟨?_, ⟨c1, hb.cell 1 (by simp), hF.p1 w t⟩, ⟨c2, hb.cell 2 (by simp), hF.p2 w t⟩, ⟨c4, hb.cell 4 (by simp), hF.p4 w t⟩, hs, h8, hL, hN, hel, fun m _ => mskM_lt h8 m, fun m _ i hi hm => mskM_bit hi hm⟩
  rw [hb.cell 0 (by simp)]
  simp only [List.getElem_cons_zero]
  rw [hF.e0]
--
set_option maxRecDepth 20000 in
set_option maxHeartbeats 16000000 in
theorem l12Worlds_any (r L N : Nat) (E : List Fm) (M : Nat → Nat) (ss : List ByteArray) (m : Nat) (hm : m < N) (hl : liveB L E N m = true) (v5 : Value) (w : World) (h : SpR w r L N E M ss) (c5 : w.cell? ⟨r, 5, none⟩ = some v5) (h5 : Ints w v5 (natI (livL L E N))) :
    Calls Tryz.prog 53 #[.pointer (some ⟨r, 0, none⟩), .int .i64 m] w fun e w' => ∃ v, e = .returned v ∧ OwnI w' w.heap.size v (natI (cmR L E N m)) ∧ Keeps w w' := by
  have h8 := h.h8
  have hN := h.hN
  have hD := isD L h.hL
  have c0 := h.c0
  have HST := hid (CmH.start (L := L) (E := E) hm hl)
  have HAS := hid (fun f i (hf : f < N) (hi : i < E.length) wz (kz : Keeps w wz) => l12Asks_any r L N E M ss f i (by omega) hi wz (h.keeps kz))
  have HSH := hid (fun f t i (hf : f < N) (ht : t < N) (hi : i < E.length) (hmo : isMo (E.getD i .fls) = true) wz (kz : Keeps w wz) => l12Shows_any r L N E M ss f t i hf ht hi hmo wz (h.keeps kz))
  have HSE := hid (fun f t (hf : f < N) (ht : t < N) wz (kz : Keeps w wz) => seeR r L N E M ss w h f t wz hf ht kz)
  have HLL := hid (fun k (hk : k < (livL L E N).length) => livL_lt _ (List.getElem_mem hk))
  have hll := livL_len L E N
  obtain ⟨v1, c1, hv1⟩ := h.c1
  have hs := h.hs
  obtain ⟨p1, q1, rfl, hl1, hx1, _⟩ := hv1.shape
  unfold maxLen at hx1
  rw [hs] at c1 hl1
  have HIN := hid (fun wz (kz : Keeps w wz) => h5.keeps kz)
  obtain ⟨p5, q5, rfl, hl5, hx5, -, -⟩ := h5
  unfold maxLen at hx5
  rw [natI_len] at c5 hl5 HIN
  clear h hs hv1
  generalize hll0 : livL L E N = ll at *
  have HL0 := hid hll0
  clear hll0
  have hO := ownI_lit1 w (m : Int)
  have kA := (Keeps.refl w).alloc (.cells #[.int .i64 m] 2)
  have HO := hid hO
  clear hO
  generalize cmR L E N m = R at *
  generalize hsl : lgS L = sl at *
  clear hsl hm hl
  go_enter Tryz.func53, Tryz.ntmps53
  go_wp2_with fail
  go_loopw [5, 6] (fun o i' wr => ∃ (x : Nat) (W : List Nat), i' = .int .i64 x ∧ CmH L E N R x W ∧ OwnI wr w.heap.size o (natI W) ∧ Keeps w wr) (fun _ i' _ => 9 - (intOf i').toNat)
  case atStart => exact ⟨0, [m], rfl, HST.out, HO.out, kA⟩
  case round =>
    obtain ⟨x, W, rfl, hI, hown, kw⟩ := hrel
    have hx8 : x ≤ W.length := hI.1
    have hW17 : W.length ≤ 17 := hI.2.1
    obtain ⟨p6, q6, rfl, hq6, hx6, -⟩ := At.of_own hown
    unfold maxLen at hx6
    have HI := hid hI
    have HOW := hid hown
    clear hI hown HO HST
    by_cases hlt : x < W.length ∧ W.length ≤ 8
    · obtain ⟨hlt, hW8⟩ := hlt
      have hlt' : (x : Int) < (natI W).length := by rw [natI_len]; omega
      have hle' : ((natI W).length : Int) ≤ 8 := by rw [natI_len]; omega
      obtain ⟨hf, hlf⟩ := HI.out.from hlt
      have HNX := hid (HI.out.next h8 hlt hW8)
      have HCN := hid (fun k (hk : k ≤ E.length) => cmP_both hf hlf HI.out.2.2.2 k hk)
      have HGD := hid (fun k => cmP_getD (L := L) (E := E) (N := N) (f := W.getD x 0) hlt k)
      have HGE := hid (fun k => cmP_ge L E N (W.getD x 0) W k)
      generalize hff : W.getD x 0 = f at *
      clear hff
      have HF := hid hf
      have HLF := hid hlf
      clear hf hlf
      go_wp2_with fail
      go_loopw [5, 7] (fun o k' wr => ∃ k : Nat, k ≤ E.length ∧ k' = .int .i64 k ∧ OwnI wr w.heap.size o (natI (cmP L E N f W k)) ∧ Keeps w wr) (fun _ k' _ => E.length - (intOf k').toNat)
      case atStart => exact ⟨0, by omega, rfl, HOW.out, kw⟩
      case round =>
        clear HOW kw hq6 hx6
        obtain ⟨k, hk, rfl, hown, kq⟩ := hrel
        obtain ⟨hlv, hln⟩ := HCN.out k hk
        have hge := HGE.out k
        have hgd := HGD.out k
        obtain ⟨p7, q7, rfl, hq7, hx7, hat7⟩ := At.of_own hown
        unfold maxLen at hx7
        have hlenV : (cmP L E N f W k).length ≤ 16 := by omega
        obtain ⟨b7, o7, rfl, hc7⟩ := hat7.int x (by rw [natI_len]; omega)
        rw [natI_get, hgd] at hc7
        have hxV : (x : Int) < (natI (cmP L E N f W k)).length := by rw [natI_len]; omega
        have HOV := hid hown
        have d1 := kq.cell c1
        have HLV := hid hlv
        have HATV : Hid (∀ wz, Keeps wr wz → ∀ j (h : j < (cmP L E N f W k).length), wz.cell? ⟨b7, o7 + j, none⟩ = some (.int .i64 ((cmP L E N f W k).getD j 0 : Nat))) := hid (fun wz kz j hj => by
          obtain ⟨b, o, e, h⟩ := (hat7.keeps kz).int j (by rw [natI_len]; exact hj)
          cases e
          rw [natI_get] at h
          exact h)
        have HMV : Hid (∀ j, j < (cmP L E N f W k).length → (cmP L E N f W k).getD j 0 < N) := hid (fun j hj => (hlv _ (by rw [List.getD_eq_getElem?_getD, List.getElem?_eq_getElem hj]; exact List.getElem_mem hj)).1)
        have HFX := hid hgd
        clear hown hlv hge hgd hat7
        by_cases hkl : k < E.length
        · have hkl' : (k : Int) < E.length := by omega
          have HA := hid (HAS.out f k HF.out hkl wr kq)
          have HSM := hid (fun h => cmP_same (L := L) (N := N) (f := f) (W := W) (k := k) (E := E) h)
          have HSP := hid (fun h => cmP_step (L := L) (N := N) (f := f) (W := W) (k := k) (E := E) h)
          have HWI : Hid ((isMo (E.getD k .fls) && !demB E k f) = true → fstOf (witB L E k f) ll = (lstL L E N (witB L E k f) : Int)) := hid (fun h => by
            rw [Bool.and_eq_true, Bool.not_eq_true'] at h
            rw [← HL0.out]
            exact (wit_lst HF.out HLF.out (mods_mem.2 ⟨hkl, h.1⟩) h.2).1)
          generalize hV : cmP L E N f W k = V at *
          clear hV
          generalize ha : (isMo (E.getD k .fls) && !demB E k f) = a at *
          have HAA := hid ha
          clear ha
          go_wp2_with fail
          refine HA.out.mono ?_; rintro e w2 ⟨rfl, rfl⟩
          cases a
          · go_wp2_with fail
            go_roundw
            case rel => exact ⟨k + 1, by omega, by go_num, by rw [HSM.out (by trivial)]; exact HOV.out, kq⟩
            case measure => simp [intOf]; omega
          · have HMO : Hid (isMo (E.getD k .fls) = true) := hid (by have := HAA.out; rw [Bool.and_eq_true] at this; exact this.1)
            have HW2 := hid (HSP.out (by trivial))
            have HFS := hid (HWI.out (by trivial))
            clear HSM HSP HWI HAA
            have HSX := hid (fun t (ht : t < N) wz (kz : Keeps w wz) => HSH.out f t k HF.out ht hkl HMO.out wz kz)
            generalize hV2 : cmP L E N f W (k + 1) = V2 at *
            have HV2 := hid hV2
            clear hV2
            generalize lstL L E N (witB L E k f) = ls at *
            generalize witB L E k f = q at *
            generalize hnl : (natI V).length = nv at *
            have HNL : Hid (nv = V.length) := hid (by rw [← hnl, natI_len])
            clear hnl
            generalize wr = wo at *
            have HS0 : Hid (∀ wz, Keeps wo wz → ShR w wz (.slice (some ⟨b7, o7, none⟩) nv q7) V V2 ll q (.bool (V.any q)) (.slice (some ⟨b7, o7, none⟩) nv q7) 0) := hid (fun wz kz => by
              have e2 := HW2.out
              cases hb : V.any q
              · rw [hb, if_neg (by simp)] at e2
                exact .inl ⟨rfl, rfl, by simp, by rw [e2, HFS.out]; rfl, by rw [HFS.out]; omega, HOV.out.keeps kz, kq.trans kz⟩
              · rw [hb, if_pos rfl] at e2
                exact .inr ⟨rfl, by rw [e2]; exact HOV.out.keeps kz, kq.trans kz⟩)
            go_upto_block 4 with fail
            go_cut [8, 9] from 44 to 64 (fun fd k' wx => fd = .bool (V.any q) ∧ Keeps wo wx)
            case first =>
              clear HS0 HW2 HFS
              go_wp2_with fail
              go_loopw [8, 9] (fun fd j' wq => ∃ j : Nat, j ≤ V.length ∧ j' = .int .i64 j ∧ fd = .bool ((V.take j).any q) ∧ Keeps wo wq) (fun _ j' _ => V.length - (intOf j').toNat)
              case atStart => exact ⟨0, by omega, rfl, by simp, Keeps.refl _⟩
              case round =>
                obtain ⟨j, hj, rfl, rfl, kj⟩ := hrel
                have HWT : Hid ((V.take j).any q = true → V.any q = true) := hid (fun hk => by
                  rw [List.any_eq_true] at *
                  obtain ⟨y, hy, hp⟩ := hk
                  exact ⟨y, List.mem_of_mem_take hy, hp⟩)
                have HWE : Hid (j = V.length → (V.take j).any q = V.any q) := hid (fun e => by rw [e, List.take_length])
                generalize hfd : (V.take j).any q = fd at *
                have HFD := hid hfd
                clear hfd
                cases fd
                · by_cases hjl : j < V.length
                  · have hjl' : (j : Int) < nv := by have := HNL.out; omega
                    have hxn : (x : Int) < nv := hxV
                    have e1 := (Keeps.refl wr).drew.cell (kj.cell hc7)
                    have e2 := (Keeps.refl wr).drew.cell (HATV.out wr kj j hjl)
                    have HT : Hid ((V.take (j + 1)).any q = ((V.take j).any q || q (V.getD j 0))) := hid (by
                      rw [any_take q V j hjl, List.getD_eq_getElem?_getD, List.getElem?_eq_getElem hjl]; rfl)
                    have HK := hid (HSX.out (V.getD j 0) (HMV.out j hjl) _ ((kq.trans kj).drew))
                    generalize V.getD j 0 = t at *
                    generalize q t = qt at *
                    go_wp2_with fail
                    go_region_held3 (fun w' => w'.cell? ⟨b7, o7 + x, none⟩ = some (.int .i64 f) ∧ w'.cell? ⟨b7, o7 + j, none⟩ = some (.int .i64 t)) (first | exact ⟨e1, e2⟩ | exact ⟨z1, z2⟩) (first | (go_at_call 136; refine HK.out.mono ?_; rintro e w3 ⟨rfl, k3⟩; have z1 := k3.cell e1; have z2 := k3.cell e2))
                    go_wp2_with fail
                    go_roundw
                    case rel => exact ⟨j + 1, by omega, by go_num, by rw [HT.out, HFD.out]; rfl, kj.trans ((Keeps.refl wr).drew.trans k3)⟩
                    case measure => simp [intOf]; omega
                  · have hjl' : ¬ (j : Int) < nv := by have := HNL.out; omega
                    have hje : j = V.length := by omega
                    have HE := hid (HWE.out hje)
                    clear hje
                    go_wp2_with fail
                    go_meet
                    exact ⟨by rw [← HE.out], kj⟩
                · by_cases hjl : j < V.length
                  · have hjl' : (j : Int) < nv := by have := HNL.out; omega
                    go_wp2_with fail
                    go_meet
                    exact ⟨by rw [HWT.out (by trivial)], kj⟩
                  · have hjl' : ¬ (j : Int) < nv := by have := HNL.out; omega
                    go_wp2_with fail
                    go_meet
                    exact ⟨by rw [HWT.out (by trivial)], kj⟩
            case rest =>
              obtain ⟨rfl, k4⟩ := hcut
              have HS1 := hid (HS0.out _ k4)
              have y5 := (kq.trans k4).cell c5
              clear HS0 HW2 HFS k4
              generalize V.any q = vq at *
              go_wp2_with fail
              go_loopw [5, 8, 10] (fun o fd j' wq => ∃ j : Nat, j ≤ ll.length ∧ j' = .int .i64 j ∧ ShR w wq (.slice (some ⟨b7, o7, none⟩) nv q7) V V2 ll q fd o j) (fun _ _ j' _ => ll.length - (intOf j').toNat)
              case atStart => exact ⟨0, by omega, rfl, HS1.out⟩
              case round =>
                clear HS1 y5
                obtain ⟨j, hj, rfl, hsh⟩ := hrel
                rcases hsh with ⟨rfl, rfl, hfs, hv2, hnn, hown, kj⟩ | ⟨rfl, hown, kj⟩
                · by_cases hjl : j < ll.length
                  · have hjl' : (j : Int) < ll.length := by omega
                    have hxn : (x : Int) < nv := hxV
                    have y50 := kj.cell c5
                    have y5 := (Keeps.refl wr).drew.cell y50
                    obtain ⟨_, _, e0, _, _, hat, _⟩ := HIN.out wr kj
                    simp only [Value.slice.injEq] at e0
                    obtain ⟨rfl, -, rfl⟩ := e0
                    obtain ⟨b3, o3, rfl, e3⟩ := hat.int j (by rw [natI_len]; exact hjl)
                    rw [natI_get] at e3
                    replace e3 := (Keeps.refl wr).drew.cell e3
                    obtain ⟨_, _, e0, _, _, hat6⟩ := At.of_own hown
                    simp only [Value.slice.injEq] at e0
                    obtain ⟨rfl, -, rfl⟩ := e0
                    obtain ⟨_, _, e0, e1⟩ := hat6.int x (by have := HNL.out; rw [natI_len]; omega)
                    cases e0
                    rw [natI_get, HFX.out] at e1
                    replace e1 := (Keeps.refl wr).drew.cell e1
                    have htN := HLL.out j hjl
                    have hfd := fst_drop q ll j hjl
                    rw [show ll[j] = ll.getD j 0 from by rw [List.getD_eq_getElem?_getD, List.getElem?_eq_getElem hjl]; rfl] at htN hfd
                    have HK := hid (HSX.out (ll.getD j 0) htN _ (kj.drew))
                    have HFS := hid hfs
                    have HFDR := hid hfd
                    have HV3 := hid hv2
                    have HOWN := hid (hown.keeps (Keeps.refl wr).drew)
                    have hbase := kj.size
                    clear hfs hfd hv2 hown hat hat6 htN
                    generalize ll.getD j 0 = t at *
                    generalize q t = qt at *
                    have hs0 : wr.drew.heap.size = wr.heap.size := rfl
                    go_wp2_with fail
                    go_region_held3 (fun w' => w'.cell? ⟨b7, o7 + x, none⟩ = some (.int .i64 f) ∧ w'.cell? ⟨r, 5, none⟩ = some (.slice (some ⟨b3, o3, none⟩) ll.length q5) ∧ w'.cell? ⟨b3, o3 + j, none⟩ = some (.int .i64 t)) (first | exact ⟨e1, y5, e3⟩ | exact ⟨z1, z2, z3⟩) (first | (go_at_call 136; refine HK.out.mono ?_; rintro e w3 ⟨rfl, k3⟩; have z1 := k3.cell e1; have z2 := k3.cell y5; have z3 := k3.cell e3))
                    have kk := kj.drew.trans k3
                    have hs3 := kk.size
                    cases qt
                    · go_wp2_with fail
                      go_roundw
                      case rel => exact ⟨j + 1, by omega, by go_num, .inl ⟨rfl, rfl, by rw [← HFS.out, HFDR.out, if_neg (by simp)], HV3.out, hnn, HOWN.out.keeps k3, kk⟩⟩
                      case measure => simp [intOf]; omega
                    · have HV4 : Hid (V2 = V ++ [t]) := hid (by rw [HV3.out, ← HFS.out, HFDR.out, if_pos rfl]; rfl)
                      have hln : (natI V).length ≤ 1000000 := by have := HNL.out; rw [natI_len]; omega
                      go_wp2_with (at_builtin; refine appI rfl _ _ rfl w.heap.size _ (natI V) rfl ((HOWN.out.keeps k3).keeps ((Keeps.refl w3).alloc _)) _ [(t : Int)] rfl (Ints.lit1 w3 t) (by simp; omega) (by simp; omega) ?_; intro v8 w8 hv8 hg8 hr8; rw [← natI_snoc] at hv8; have k8 := (kk.alloc (.cells #[.int .i64 t] 2)).grown hg8 (fun q hq => hr8 q hq))
                      go_roundw
                      case rel => exact ⟨j + 1, by omega, by go_num, .inr ⟨rfl, by rw [HV4.out]; exact hv8, k8⟩⟩
                      case measure => simp [intOf]; omega
                  · exfalso
                    obtain rfl : j = ll.length := by omega
                    rw [fst_end] at hfs
                    omega
                · have y5 := kj.cell c5
                  have HOWN := hid hown
                  clear hown
                  by_cases hjl : j < ll.length
                  · have hjl' : (j : Int) < ll.length := by omega
                    go_wp2_with fail
                    go_roundw
                    case rel => exact ⟨k + 1, by omega, by go_num, by rw [HV2.out]; exact HOWN.out, kj⟩
                    case measure => simp [intOf]; omega
                  · have hjl' : ¬ (j : Int) < ll.length := by omega
                    go_wp2_with fail
                    go_roundw
                    case rel => exact ⟨k + 1, by omega, by go_num, by rw [HV2.out]; exact HOWN.out, kj⟩
                    case measure => simp [intOf]; omega
        · obtain rfl : k = E.length := by omega
          have hkl' : ¬ ((E.length : Int) < E.length) := by omega
          have d0 := kq.cell c0
          have HCW : Hid (cmW L E N f W = cmD L E N f (cmP L E N f W E.length)) := hid rfl
          have HCD : Hid (∀ V, cmD L E N f V = if decide (L ≠ 1) || V.any (seeB L E f) then V else V ++ [lstL L E N (seeB L E f)]) := hid (fun V => rfl)
          generalize hV : cmP L E N f W E.length = V at *
          clear hV
          by_cases hL1 : L = 1
          · rw [decide_eq_true hL1] at hD
            have HFS : Hid (fstOf (seeB L E f) ll = (lstL L E N (seeB L E f) : Int)) := hid (by
              rw [← HL0.out]
              have a := HLF.out
              have b := HF.out
              exact see_lstL hL1 b a)
            have HW2 : Hid (cmD L E N f V = if V.any (seeB L E f) then V else V ++ [lstL L E N (seeB L E f)]) := hid (by rw [HCD.out, decide_eq_false (not_not_intro hL1), Bool.false_or])
            have HSX := hid (fun t (ht : t < N) wz (kz : Keeps w wz) => HSE.out f t HF.out ht wz kz)
            clear hL1 HCD
            generalize hV2 : cmD L E N f V = V2 at *
            have HV2 := hid hV2
            clear hV2
            generalize lstL L E N (seeB L E f) = ls at *
            generalize seeB L E f = q at *
            generalize hnl : (natI V).length = nv at *
            have HNL : Hid (nv = V.length) := hid (by rw [← hnl, natI_len])
            clear hnl
            generalize wr = wo at *
            have HS0 : Hid (∀ wz, Keeps wo wz → ShR w wz (.slice (some ⟨b7, o7, none⟩) nv q7) V V2 ll q (.bool (V.any q)) (.slice (some ⟨b7, o7, none⟩) nv q7) 0) := hid (fun wz kz => by
              have e2 := HW2.out
              cases hb : V.any q
              · rw [hb, if_neg (by simp)] at e2
                exact .inl ⟨rfl, rfl, by simp, by rw [e2, HFS.out]; rfl, by rw [HFS.out]; omega, HOV.out.keeps kz, kq.trans kz⟩
              · rw [hb, if_pos rfl] at e2
                exact .inr ⟨rfl, by rw [e2]; exact HOV.out.keeps kz, kq.trans kz⟩)
            go_upto_block 8 with fail
            go_cut [11, 12] from 107 to 126 (fun fd k' wx => fd = .bool (V.any q) ∧ Keeps wo wx)
            case first =>
              clear HS0 HW2 HFS
              go_wp2_with fail
              go_loopw [11, 12] (fun fd j' wq => ∃ j : Nat, j ≤ V.length ∧ j' = .int .i64 j ∧ fd = .bool ((V.take j).any q) ∧ Keeps wo wq) (fun _ j' _ => V.length - (intOf j').toNat)
              case atStart => exact ⟨0, by omega, rfl, by simp, Keeps.refl _⟩
              case round =>
                obtain ⟨j, hj, rfl, rfl, kj⟩ := hrel
                have HWT : Hid ((V.take j).any q = true → V.any q = true) := hid (fun hk => by
                  rw [List.any_eq_true] at *
                  obtain ⟨y, hy, hp⟩ := hk
                  exact ⟨y, List.mem_of_mem_take hy, hp⟩)
                have HWE : Hid (j = V.length → (V.take j).any q = V.any q) := hid (fun e => by rw [e, List.take_length])
                generalize hfd : (V.take j).any q = fd at *
                have HFD := hid hfd
                clear hfd
                cases fd
                · by_cases hjl : j < V.length
                  · have hjl' : (j : Int) < nv := by have := HNL.out; omega
                    have hxn : (x : Int) < nv := hxV
                    have e1 := (Keeps.refl wr).drew.cell (kj.cell hc7)
                    have e2 := (Keeps.refl wr).drew.cell (HATV.out wr kj j hjl)
                    have HT : Hid ((V.take (j + 1)).any q = ((V.take j).any q || q (V.getD j 0))) := hid (by
                      rw [any_take q V j hjl, List.getD_eq_getElem?_getD, List.getElem?_eq_getElem hjl]; rfl)
                    have HK := hid (HSX.out (V.getD j 0) (HMV.out j hjl) _ ((kq.trans kj).drew))
                    generalize V.getD j 0 = t at *
                    generalize q t = qt at *
                    go_wp2_with fail
                    go_region_held3 (fun w' => w'.cell? ⟨b7, o7 + x, none⟩ = some (.int .i64 f) ∧ w'.cell? ⟨b7, o7 + j, none⟩ = some (.int .i64 t)) (first | exact ⟨e1, e2⟩ | exact ⟨z1, z2⟩) (first | (go_at_call 137; refine HK.out.mono ?_; rintro e w3 ⟨rfl, k3⟩; have z1 := k3.cell e1; have z2 := k3.cell e2))
                    go_wp2_with fail
                    go_roundw
                    case rel => exact ⟨j + 1, by omega, by go_num, by rw [HT.out, HFD.out]; rfl, kj.trans ((Keeps.refl wr).drew.trans k3)⟩
                    case measure => simp [intOf]; omega
                  · have hjl' : ¬ (j : Int) < nv := by have := HNL.out; omega
                    have hje : j = V.length := by omega
                    have HE := hid (HWE.out hje)
                    clear hje
                    go_wp2_with fail
                    go_meet
                    exact ⟨by rw [← HE.out], kj⟩
                · by_cases hjl : j < V.length
                  · have hjl' : (j : Int) < nv := by have := HNL.out; omega
                    go_wp2_with fail
                    go_meet
                    exact ⟨by rw [HWT.out (by trivial)], kj⟩
                  · have hjl' : ¬ (j : Int) < nv := by have := HNL.out; omega
                    go_wp2_with fail
                    go_meet
                    exact ⟨by rw [HWT.out (by trivial)], kj⟩
            case rest =>
              obtain ⟨rfl, k4⟩ := hcut
              have HS1 := hid (HS0.out _ k4)
              have y5 := (kq.trans k4).cell c5
              clear HS0 HW2 HFS k4
              generalize V.any q = vq at *
              go_wp2_with fail
              go_loopw [5, 11, 13] (fun o fd j' wq => ∃ j : Nat, j ≤ ll.length ∧ j' = .int .i64 j ∧ ShR w wq (.slice (some ⟨b7, o7, none⟩) nv q7) V V2 ll q fd o j) (fun _ _ j' _ => ll.length - (intOf j').toNat)
              case atStart => exact ⟨0, by omega, rfl, HS1.out⟩
              case round =>
                clear HS1 y5
                obtain ⟨j, hj, rfl, hsh⟩ := hrel
                rcases hsh with ⟨rfl, rfl, hfs, hv2, hnn, hown, kj⟩ | ⟨rfl, hown, kj⟩
                · by_cases hjl : j < ll.length
                  · have hjl' : (j : Int) < ll.length := by omega
                    have hxn : (x : Int) < nv := hxV
                    have y50 := kj.cell c5
                    have y5 := (Keeps.refl wr).drew.cell y50
                    obtain ⟨_, _, e0, _, _, hat, _⟩ := HIN.out wr kj
                    simp only [Value.slice.injEq] at e0
                    obtain ⟨rfl, -, rfl⟩ := e0
                    obtain ⟨b3, o3, rfl, e3⟩ := hat.int j (by rw [natI_len]; exact hjl)
                    rw [natI_get] at e3
                    replace e3 := (Keeps.refl wr).drew.cell e3
                    obtain ⟨_, _, e0, _, _, hat6⟩ := At.of_own hown
                    simp only [Value.slice.injEq] at e0
                    obtain ⟨rfl, -, rfl⟩ := e0
                    obtain ⟨_, _, e0, e1⟩ := hat6.int x (by have := HNL.out; rw [natI_len]; omega)
                    cases e0
                    rw [natI_get, HFX.out] at e1
                    replace e1 := (Keeps.refl wr).drew.cell e1
                    have htN := HLL.out j hjl
                    have hfd := fst_drop q ll j hjl
                    rw [show ll[j] = ll.getD j 0 from by rw [List.getD_eq_getElem?_getD, List.getElem?_eq_getElem hjl]; rfl] at htN hfd
                    have HK := hid (HSX.out (ll.getD j 0) htN _ (kj.drew))
                    have HFS := hid hfs
                    have HFDR := hid hfd
                    have HV3 := hid hv2
                    have HOWN := hid (hown.keeps (Keeps.refl wr).drew)
                    have hbase := kj.size
                    clear hfs hfd hv2 hown hat hat6 htN
                    generalize ll.getD j 0 = t at *
                    generalize q t = qt at *
                    have hs0 : wr.drew.heap.size = wr.heap.size := rfl
                    go_wp2_with fail
                    go_region_held3 (fun w' => w'.cell? ⟨b7, o7 + x, none⟩ = some (.int .i64 f) ∧ w'.cell? ⟨r, 5, none⟩ = some (.slice (some ⟨b3, o3, none⟩) ll.length q5) ∧ w'.cell? ⟨b3, o3 + j, none⟩ = some (.int .i64 t)) (first | exact ⟨e1, y5, e3⟩ | exact ⟨z1, z2, z3⟩) (first | (go_at_call 137; refine HK.out.mono ?_; rintro e w3 ⟨rfl, k3⟩; have z1 := k3.cell e1; have z2 := k3.cell y5; have z3 := k3.cell e3))
                    have kk := kj.drew.trans k3
                    have hs3 := kk.size
                    cases qt
                    · go_wp2_with fail
                      go_roundw
                      case rel => exact ⟨j + 1, by omega, by go_num, .inl ⟨rfl, rfl, by rw [← HFS.out, HFDR.out, if_neg (by simp)], HV3.out, hnn, HOWN.out.keeps k3, kk⟩⟩
                      case measure => simp [intOf]; omega
                    · have HV4 : Hid (V2 = V ++ [t]) := hid (by rw [HV3.out, ← HFS.out, HFDR.out, if_pos rfl]; rfl)
                      have hln : (natI V).length ≤ 1000000 := by have := HNL.out; rw [natI_len]; omega
                      go_wp2_with (at_builtin; refine appI rfl _ _ rfl w.heap.size _ (natI V) rfl ((HOWN.out.keeps k3).keeps ((Keeps.refl w3).alloc _)) _ [(t : Int)] rfl (Ints.lit1 w3 t) (by simp; omega) (by simp; omega) ?_; intro v8 w8 hv8 hg8 hr8; rw [← natI_snoc] at hv8; have k8 := (kk.alloc (.cells #[.int .i64 t] 2)).grown hg8 (fun q hq => hr8 q hq))
                      go_roundw
                      case rel => exact ⟨j + 1, by omega, by go_num, .inr ⟨rfl, by rw [HV4.out]; exact hv8, k8⟩⟩
                      case measure => simp [intOf]; omega
                  · exfalso
                    obtain rfl : j = ll.length := by omega
                    rw [fst_end] at hfs
                    omega
                · have y5 := kj.cell c5
                  have HOWN := hid hown
                  clear hown
                  by_cases hjl : j < ll.length
                  · have hjl' : (j : Int) < ll.length := by omega
                    go_wp2_with fail
                    go_roundw
                    case rel => exact ⟨x + 1, V2, by go_num, by rw [← HCW.out]; exact HNX.out, HOWN.out, kj⟩
                    case measure => simp [intOf]; omega
                  · have hjl' : ¬ (j : Int) < ll.length := by omega
                    go_wp2_with fail
                    go_roundw
                    case rel => exact ⟨x + 1, V2, by go_num, by rw [← HCW.out]; exact HNX.out, HOWN.out, kj⟩
                    case measure => simp [intOf]; omega
          · rw [decide_eq_false hL1] at hD
            have HW : Hid (cmW L E N f W = V) := hid (by rw [HCW.out, HCD.out, decide_eq_true hL1, Bool.true_or, if_pos rfl])
            clear HCD HCW hL1
            go_wp2_with fail
            go_roundw
            case rel => exact ⟨x + 1, V, by go_num, by rw [← HW.out]; exact HNX.out, HOV.out, kq⟩
            case measure => simp [intOf]; omega
    · have HR := hid (HI.out.done hlt)
      have hlt' : ¬ ((x : Int) < (natI W).length) ∨ ((x : Int) < (natI W).length ∧ ¬ ((natI W).length : Int) ≤ 8) := by
        rw [natI_len]
        omega
      rcases hlt' with hlt' | ⟨hlt', hle'⟩
      · go_wp2_with fail
        go_ret
        exact ⟨_, rfl, by rw [HR.out]; exact HOW.out, kw⟩
      · go_wp2_with fail
        go_ret
        exact ⟨_, rfl, by rw [HR.out]; exact HOW.out, kw⟩
end Go.Proofs.YtgnlfceloiilbaaGreat
