/- The program's generated countermodel: which types are its worlds. -/
import Derived.Test.YtgnlfceloiilbaaGreatGMV
import Derived.Test.YtgnlfceloiilbaaGreatGNX
import Derived.Test.YtgnlfceloiilbaaGreatGXB
import Derived.Test.YtgnlfceloiilbaaGreatGNH1
namespace Go.Proofs.YtgnlfceloiilbaaGreat
open Go.RowKit
theorem ownI_lit1 (w : World) (x : Int) : OwnI (w.alloc (.cells #[.int .i64 x] 2)) w.heap.size (.slice (some ⟨w.heap.size, 0, none⟩) 1 1) [x] := by
  have h := World.ownsRow_lit (base := w.heap.size) (e := 2) (size := 1) w #[.int .i64 x] 1 (Nat.le_refl _) (by simp [maxLen]) (by simp)
  exact h
theorem natI_any (p : Nat → Bool) (q : Int → Bool) (W : List Nat) (h : ∀ t ∈ W, q (t : Int) = p t) : (natI W).any q = W.any p := by
  unfold natI
  rw [List.any_map]
  exact any_same fun t ht => h t ht
theorem natI_mem {x : Int} {W : List Nat} (h : x ∈ natI W) : ∃ t ∈ W, x = (t : Int) := by
  unfold natI at h
  obtain ⟨t, ht, e⟩ := List.mem_map.1 h
  exact ⟨t, ht, e.symm⟩
theorem natI_len (W : List Nat) : (natI W).length = W.length := by simp [natI]
theorem natI_get (W : List Nat) (x : Nat) (h : x < (natI W).length) : (natI W)[x] = ((W.getD x 0 : Nat) : Int) := by
  have h' : x < W.length := by rw [natI_len] at h; exact h
  rw [List.getD_eq_getElem?_getD, List.getElem?_eq_getElem h']
  simp [natI]
theorem cmI_ge (L : Nat) (E : List Fm) (N f : Nat) (W : List Nat) (i : Nat) : W.length ≤ (cmI L E N f W i).length := by
  unfold cmI
  split <;> simp
theorem cmD_ge (L : Nat) (E : List Fm) (N f : Nat) (W : List Nat) : W.length ≤ (cmD L E N f W).length := by
  unfold cmD
  split <;> simp
theorem cmP_ge (L : Nat) (E : List Fm) (N f : Nat) (W : List Nat) : ∀ k, W.length ≤ (cmP L E N f W k).length
  | 0 => Nat.le_refl _
  | k + 1 => by
    have ih := cmP_ge L E N f W k
    cases hm : isMo (E.getD k .fls)
    · rw [cmP_no hm]; exact ih
    · rw [cmP_yes hm]; exact Nat.le_trans ih (cmI_ge _ _ _ _ _ _)
theorem cmW_ge (L : Nat) (E : List Fm) (N f : Nat) (W : List Nat) : W.length ≤ (cmW L E N f W).length := Nat.le_trans (cmP_ge _ _ _ _ _ _) (cmD_ge _ _ _ _ _)
/-- the rounds so far: world x comes next -/
def CmI (L : Nat) (E : List Fm) (N : Nat) (R : List Nat) (x : Nat) (W : List Nat) : Prop := x ≤ W.length ∧ W.length ≤ 8 ∧ cmG L E N (9 - x) x W = R ∧ LivW L E N W
theorem CmI.start {L : Nat} {E : List Fm} {N m : Nat} (hm : m < N) (hl : liveB L E N m = true) : CmI L E N (cmR L E N m) 0 [m] :=
  ⟨by simp, by simp, rfl, fun t ht => by rw [List.mem_singleton.1 ht]; exact ⟨hm, hl⟩⟩
theorem CmI.next {L : Nat} {E : List Fm} {N x : Nat} {R W : List Nat} (h : CmI L E N R x W) (hx : x < W.length) (h8 : (cmW L E N (W.getD x 0) W).length ≤ 8) : CmI L E N R (x + 1) (cmW L E N (W.getD x 0) W) := by
  obtain ⟨h1, h2, h3, h4⟩ := h
  have hf := h4 (W.getD x 0) (by rw [List.getD_eq_getElem?_getD, List.getElem?_eq_getElem hx]; exact List.getElem_mem hx)
  exact ⟨Nat.le_trans hx (cmW_ge _ _ _ _ _), h8, by rw [← cmG_next hx h2]; exact h3, (cmW_both hf.1 hf.2 h4).1⟩
theorem CmI.full {L : Nat} {E : List Fm} {N x : Nat} {R W : List Nat} (h : CmI L E N R x W) (hx : x < W.length) (h8 : ¬ (cmW L E N (W.getD x 0) W).length ≤ 8) : R = cmW L E N (W.getD x 0) W := by
  obtain ⟨h1, h2, h3, h4⟩ := h
  rw [← h3, cmG_next hx h2, cmG_end (fun h => h8 h.2)]
theorem CmI.done {L : Nat} {E : List Fm} {N x : Nat} {R W : List Nat} (h : CmI L E N R x W) (hx : ¬ x < W.length) : R = W := by
  obtain ⟨h1, h2, h3, h4⟩ := h
  rw [← h3, cmG_end (fun h => hx h.1)]
theorem CmI.from {L : Nat} {E : List Fm} {N x : Nat} {R W : List Nat} (h : CmI L E N R x W) (hx : x < W.length) : W.getD x 0 < N ∧ liveB L E N (W.getD x 0) = true :=
  h.2.2.2 _ (by rw [List.getD_eq_getElem?_getD, List.getElem?_eq_getElem hx]; exact List.getElem_mem hx)
--
theorem leastWitness_live (r L N : Nat) (E : List Fm) (i f : Nat) (hi : i ∈ mods E) (q : Option Addr) (c : Nat) (hf : f < N) (hl : liveB L E N f = true) (hd : demB E i f = false) (w : World) (h : TyA w r L N (nees E N) (liveL L E N)) (hq : Bools w (.slice q (nee E N i).inn.length c) (nee E N i).inn) :
    Calls Tryz.prog 157 #[.pointer (some ⟨r, 0, none⟩), .agg #[.int .i64 (nee E N i).ix, .int .i64 (nee E N i).kd, .slice q (nee E N i).inn.length c], .int .i64 f] w
      fun e w' => e = .returned (.int .i64 (lstL L E N (witB L E i f) : Nat)) ∧ Keeps w w' := by
  refine (leastWitness_any r L N (nees E N) (liveL L E N) (nee E N i) (List.mem_map_of_mem hi) q c f hf w h hq).mono ?_
  rintro e w' ⟨rfl, k⟩
  refine ⟨ret_int ?_, k⟩
  rw [idx_same _ (fun t => liveB L E N t && witB L E i f t) N (fun t ht => by rw [liveL_get L E N t ht, nees_wit L E N i f t hf ht]), lst_idx, (wit_lst hf hl hi hd).1]
theorem leastSeen_live (r N : Nat) (E : List Fm) (f : Nat) (hf : f < N) (hl : liveB 1 E N f = true) (w : World) (h : TyA w r 1 N (nees E N) (liveL 1 E N)) :
    Calls Tryz.prog 160 #[.pointer (some ⟨r, 0, none⟩), .int .i64 f] w fun e w' => e = .returned (.int .i64 (lstL 1 E N (seeB 1 E f) : Nat)) ∧ Keeps w w' := by
  refine (leastSeen_any r 1 N (nees E N) (liveL 1 E N) f hf w h).mono ?_
  rintro e w' ⟨rfl, k⟩
  refine ⟨ret_int ?_, k⟩
  rw [idx_same _ (fun t => liveB 1 E N t && seeB 1 E f t) N (fun t ht => by rw [liveL_get 1 E N t ht, nees_see 1 E N f t hf ht]), lst_idx, (see_lst hf hl).1]
theorem leastSeen_liveL (r L N : Nat) (E : List Fm) (f : Nat) (h1 : L = 1) (hf : f < N) (hl : liveB L E N f = true) (w : World) (h : TyA w r L N (nees E N) (liveL L E N)) :
    Calls Tryz.prog 160 #[.pointer (some ⟨r, 0, none⟩), .int .i64 f] w fun e w' => e = .returned (.int .i64 (lstL L E N (seeB L E f) : Nat)) ∧ Keeps w w' := by
  subst h1
  exact leastSeen_live r N E f hf hl w h
--
set_option maxHeartbeats 1000000 in
theorem countermodel1_any (r L N : Nat) (E : List Fm) (i : Nat) (hi : i ∈ mods E) (q : Option Addr) (c : Nat) (f t : Nat) (hf : f < N) (ht : t < N) (gy gn gf : Nat) (w : World) (h : TyA w r L N (nees E N) (liveL L E N))
    (hq : Bools w (.slice q (nee E N i).inn.length c) (nee E N i).inn) (cy : w.cell? ⟨gy, 0, none⟩ = some (.pointer (some ⟨r, 0, none⟩))) (n0 : w.cell? ⟨gn, 0, none⟩ = some (.int .i64 (nee E N i).ix)) (n1 : w.cell? ⟨gn, 1, none⟩ = some (.int .i64 (nee E N i).kd))
    (n2 : w.cell? ⟨gn, 2, none⟩ = some (.slice q (nee E N i).inn.length c)) (cf : w.cell? ⟨gf, 0, none⟩ = some (.int .i64 f)) :
    Calls Tryz.prog 155 #[.int .i64 t, .pointer (some ⟨gy, 0, none⟩), .pointer (some ⟨gn, 0, none⟩), .pointer (some ⟨gf, 0, none⟩)] w fun e w' => e = .returned (.bool (witB L E i f t)) ∧ Keeps w w' := by
  have HI := hid (isWitness_any r L N (nees E N) (nee E N i) (List.mem_map_of_mem hi) q c f t hf ht w h.ty hq)
  rw [nees_wit L E N i f t hf ht] at HI
  clear h hq hi hf ht
  generalize (nee E N i).inn.length = l at *
  generalize (nee E N i).kd = kd at *
  generalize (nee E N i).ix = ix at *
  generalize witB L E i f t = b at *
  go_enter Tryz.func155, Tryz.ntmps155
  go_wp2_with fail
  refine HI.out.mono ?_; rintro e w2 ⟨rfl, k2⟩
  go_wp2_with fail
  go_ret
  exact ⟨rfl, k2⟩
set_option maxHeartbeats 1000000 in
theorem countermodel2_any (r L N : Nat) (E : List Fm) (f t : Nat) (hf : f < N) (ht : t < N) (gy gf : Nat) (w : World) (h : TyA w r L N (nees E N) (liveL L E N))
    (cy : w.cell? ⟨gy, 0, none⟩ = some (.pointer (some ⟨r, 0, none⟩))) (cf : w.cell? ⟨gf, 0, none⟩ = some (.int .i64 f)) :
    Calls Tryz.prog 158 #[.int .i64 t, .pointer (some ⟨gy, 0, none⟩), .pointer (some ⟨gf, 0, none⟩)] w fun e w' => e = .returned (.bool (seeB L E f t)) ∧ Keeps w w' := by
  have HI := hid (sees_any r L N (nees E N) f t hf ht w h.ty)
  rw [nees_see L E N f t hf ht] at HI
  clear h hf ht
  generalize seeB L E f t = b at *
  go_enter Tryz.func158, Tryz.ntmps158
  go_wp2_with fail
  refine HI.out.mono ?_; rintro e w2 ⟨rfl, k2⟩
  go_wp2_with fail
  go_ret
  exact ⟨rfl, k2⟩
theorem enters_countermodel1 : Enters 155 := fun _ _ => by kernel_rfl
theorem enters_countermodel2 : Enters 158 := fun _ _ => by kernel_rfl
/-- the worlds, if there are not too many -/
def RetCW (w : World) (W : List Nat) (e : Ending) (w' : World) : Prop := ∃ v, e = .returned (.tuple #[v, .bool (decide (W.length ≤ 8))]) ∧ OwnI w' w.heap.size v (if W.length ≤ 8 then natI W else []) ∧ Keeps w w'
/-- worlds so far, beside a box with the type whose witnesses are sought -/
structure CmJ (wA wr : World) (gf f : Nat) (o : Value) (V : List Nat) : Prop where
  own : OwnI wr wA.heap.size o (natI V)
  ne : ∀ q, o.ownBlock = some q → q ≠ gf
  kp : Keeps wA wr
  cf : wr.cell? ⟨gf, 0, none⟩ = some (.int .i64 f)
theorem CmJ.keeps {wA wr w' : World} {gf f : Nat} {o : Value} {V : List Nat} (h : CmJ wA wr gf f o V) (k : Keeps wr w') : CmJ wA w' gf f o V := ⟨h.own.keeps k, h.ne, h.kp.trans k, k.cell h.cf⟩
theorem CmJ.app {wA w7 w8 : World} {gf f ls : Nat} {v v' : Value} {V : List Nat} (h : CmJ wA w7 gf f v V) (h1 : OwnI w8 wA.heap.size v' (natI V ++ [(ls : Int)])) (g : w7.grownBy w8 v.ownBlock) (hn : ∀ k, v'.ownBlock = some k → v.ownBlock = some k ∨ w7.heap.size ≤ k) : CmJ wA w8 gf f v' (V ++ [ls]) := by
  have hlt : gf < w7.heap.size := World.block_lt_of_cell? _ _ h.cf
  refine ⟨by rw [natI_snoc]; exact h1, fun q hq => ?_, h.kp.grown g (fun k e => (h.own.len k e).1), ?_⟩
  · rcases hn q hq with e | e
    · exact h.ne q e
    · omega
  · rw [((Touch.grown g).cell hlt (fun e => h.ne gf e.symm rfl)).1]
    exact h.cf
set_option maxRecDepth 20000 in
set_option maxHeartbeats 8000000 in
theorem countermodel_any (r L N : Nat) (E : List Fm) (h8 : E.length ≤ 8) (m : Nat) (hm : m < N) (hl : liveB L E N m = true) (w : World) (h : TyA w r L N (nees E N) (liveL L E N)) :
    Calls Tryz.prog 59 #[.pointer (some ⟨r, 0, none⟩), .int .i64 m] w (RetCW w (cmR L E N m)) := by
  have kA := (Keeps.refl w).alloc (.cells #[.pointer (some ⟨r, 0, none⟩)] 94)
  have cy := box1 w (.pointer (some ⟨r, 0, none⟩)) 94
  have hO := ownI_lit1 (w.alloc (.cells #[.pointer (some ⟨r, 0, none⟩)] 94)) (m : Int)
  have k1 := (Keeps.refl (w.alloc (.cells #[.pointer (some ⟨r, 0, none⟩)] 94))).alloc (.cells #[.int .i64 m] 2)
  have hszA := size1 w (.cells #[.pointer (some ⟨r, 0, none⟩)] 94)
  have hA := h.keeps kA
  have HST := hid (CmI.start (L := L) (E := E) hm hl)
  generalize cmR L E N m = R at *
  have HO := hid hO
  have HA := hid hA
  have hD := isD L h.ty.hL
  have hN := h.ty.hN
  clear h hO hm hl
  have hml : (mods E).length ≤ 8 := Nat.le_trans (by unfold mods; exact Nat.le_trans (List.length_filter_le _ _) (by simp)) h8
  have HML := hid hml
  clear hml
  go_enter Tryz.func59, Tryz.ntmps59
  go_wp2_with fail
  generalize w.alloc (.cells #[.pointer (some ⟨r, 0, none⟩)] 94) = wA at *
  have HSZ := hid hszA
  clear hszA
  obtain ⟨vn, d2, hne⟩ := hA.ty.c2
  have d0 := hA.ty.c0
  obtain ⟨pn, cn, rfl, hnle, hnmx, hn8, hnat⟩ := hne
  unfold maxLen at hnmx
  have hnl : (nees E N).length = (mods E).length := by simp [nees]
  have HNA : Hid (∀ k (hk : k < (mods E).length), ∃ b off q c, pn = some ⟨b, off, none⟩ ∧ wA.cell? ⟨b, off + k * 3, none⟩ = some (.int .i64 (nee E N (mods E)[k]).ix) ∧ wA.cell? ⟨b, off + k * 3 + 1, none⟩ = some (.int .i64 (nee E N (mods E)[k]).kd) ∧
      wA.cell? ⟨b, off + k * 3 + 2, none⟩ = some (.slice q (nee E N (mods E)[k]).inn.length c) ∧ Bools wA (.slice q (nee E N (mods E)[k]).inn.length c) (nee E N (mods E)[k]).inn) := hid (fun k hk => by
    obtain ⟨b, off, u, e, h1, h2, h3, h4⟩ := hnat k (by rw [hnl]; exact hk)
    have hg : (nees E N)[k]'(by rw [hnl]; exact hk) = nee E N (mods E)[k] := by simp [nees]
    rw [hg] at h1 h2 h4
    obtain ⟨q, c, rfl, _⟩ := h4.shape
    exact ⟨b, off, q, c, e, h1, h2, h3, h4⟩)
  rw [hnl] at d2 hnle
  have hml := HML.out
  clear hnl hn8 hnat hA
  go_loopw [6, 7] (fun o i' wr => ∃ (x : Nat) (W : List Nat), i' = .int .i64 x ∧ CmI L E N R x W ∧ OwnI wr wA.heap.size o (natI W) ∧ Keeps wA wr) (fun _ i' _ => 9 - (intOf i').toNat)
  case atStart => exact ⟨0, [m], rfl, HST.out, by rw [← HSZ.out]; exact HO.out, k1⟩
  case round =>
    obtain ⟨x, W, rfl, hI, hown, kw⟩ := hrel
    have hx8 : x ≤ W.length := hI.1
    have hW8 : W.length ≤ 8 := hI.2.1
    have hnlW : (natI W).length ≤ 8 := by rw [natI_len]; exact hW8
    obtain ⟨p6, q6, rfl, hq6, hx6, hat6⟩ := At.of_own hown
    unfold maxLen at hx6
    have HI := hid hI
    have HOW := hid hown
    clear hI hown
    by_cases hlt : x < W.length
    · have hlt' : (x : Int) < (natI W).length := by rw [natI_len]; omega
      obtain ⟨b6, o6, rfl, hc6⟩ := hat6.int x (by rw [natI_len]; omega)
      rw [natI_get] at hc6
      obtain ⟨hf, hlf⟩ := HI.out.from hlt
      have HNX := hid (fun h => HI.out.next hlt h)
      have HFU := hid (fun h => HI.out.full hlt h)
      have HLW := hid HI.out.2.2.2
      generalize hff : W.getD x 0 = f at *
      clear hff hat6
      have kf := (Keeps.refl wr).alloc (.cells #[.int .i64 f] 2)
      have zf : (wr.alloc (.cells #[.int .i64 f] 2)).cell? ⟨wr.heap.size, 0, none⟩ = some (.int .i64 f) := by simp
      have k01 := kw.trans kf
      have ey := k01.cell cy
      have e2 := k01.cell d2
      have HJ1 : Hid (CmJ wA (wr.alloc (.cells #[.int .i64 f] 2)) wr.heap.size f _ W) := hid ⟨HOW.out.keeps kf, fun q hq => by have := (HOW.out.len q hq).2; omega, k01, zf⟩
      go_wp2_with fail
      clear ey e2 kf hc6 zf k01
      generalize wr.heap.size = gf at *
      have HCN := hid (fun k (hk : k ≤ (mods E).length) => cmN_both hf hlf HLW.out k hk)
      have HF := hid hf
      have HLF := hid hlf
      clear hf hlf
      go_loopw [6, 28] (fun o k' wr => ∃ k : Nat, k ≤ (mods E).length ∧ k' = .int .i64 k ∧ CmJ wA wr gf f o (cmN L E N f W k)) (fun _ k' _ => (mods E).length - (intOf k').toNat)
      case atStart => exact ⟨0, by omega, rfl, HJ1.out⟩
      case round =>
        obtain ⟨k, hk, rfl, hJ⟩ := hrel
        obtain ⟨hlv, hln⟩ := HCN.out k hk
        obtain ⟨p7, q7, rfl, hq7, hx7, -⟩ := At.of_own hJ.own
        unfold maxLen at hx7
        have hlen7 : (natI (cmN L E N f W k)).length ≤ 16 := by rw [natI_len]; omega
        have k0q := hJ.kp
        have yf := hJ.cf
        have yy := k0q.cell cy
        have HJ := hid hJ
        clear hJ HJ1
        by_cases hkl : k < (mods E).length
        · have hkl' : (k : Int) < (mods E).length := by omega
          obtain ⟨bn, on, qn, ccn, rfl, hn0, hn1, hn2, hnb⟩ := HNA.out k hkl
          have hmem : (mods E)[k] ∈ mods E := List.getElem_mem hkl
          have HCX := hid (cmN_next (L := L) (N := N) (f := f) (W := W) hkl)
          have HCI : Hid (∀ V, cmI L E N f V (mods E)[k] = if demB E (mods E)[k] f || V.any (witB L E (mods E)[k] f) then V else V ++ [lstL L E N (witB L E (mods E)[k] f)]) := hid (fun V => rfl)
          have hix := (HA.out.ty.hi (nee E N (mods E)[k]) (List.mem_map_of_mem hmem))
          generalize hii : (mods E)[k] = i at *
          clear hii
          have hn0' := k0q.cell hn0
          have hn1' := k0q.cell hn1
          have hn2' := k0q.cell hn2
          have HDE := hid (fun wz => demands_any (nee E N i) hix f (by have := HF.out; omega) qn (nee E N i).inn.length ccn wz)
          rw [nee_dem] at HDE
          have kB := (Keeps.refl wr).alloc (.cells #[.int .i64 (nee E N i).ix, .int .i64 (nee E N i).kd, .slice qn (nee E N i).inn.length ccn] 186)
          obtain ⟨z0, z1, z2⟩ := box3 wr (.int .i64 (nee E N i).ix) (.int .i64 (nee E N i).kd) (.slice qn (nee E N i).inn.length ccn) 186
          replace yf := kB.cell yf
          replace yy := kB.cell yy
          have HCO := hid (fun wz (kz : Keeps (wr.alloc (.cells #[.int .i64 (nee E N i).ix, .int .i64 (nee E N i).kd, .slice qn (nee E N i).inn.length ccn] 186)) wz) =>
            containsFuncI (fun z => witB L E i f z.toNat) 155 #[.pointer (some ⟨w.heap.size, 0, none⟩), .pointer (some ⟨wr.heap.size, 0, none⟩), .pointer (some ⟨gf, 0, none⟩)] (natI (cmN L E N f W k)) (.slice p7 (natI (cmN L E N f W k)).length q7) wz
              ((HJ.out.own.keeps (kB.trans kz)).ints (by omega)) enters_countermodel1 (fun z w3 hz k3 => by
                obtain ⟨t, ht, rfl⟩ := natI_mem hz
                have kk := k0q.trans (kB.trans (kz.trans k3))
                exact countermodel1_any r L N E i hmem qn ccn f t HF.out (hlv t ht).1 _ _ _ w3 (HA.out.keeps kk) (hnb.keeps kk) (kk.cell cy) ((kz.trans k3).cell z0) ((kz.trans k3).cell z1) ((kz.trans k3).cell z2) ((kz.trans k3).cell yf)))
          rw [natI_any (witB L E i f) (fun z => witB L E i f z.toNat) _ (fun t _ => rfl)] at HCO
          have HLWI := hid (fun (hd : demB E i f = false) wz (kz : Keeps wA wz) => leastWitness_live r L N E i f hmem qn ccn HF.out HLF.out hd wz (HA.out.keeps kz) (hnb.keeps kz))
          have HCXV := hid (HCI.out (cmN L E N f W k))
          have HJB := hid (HJ.out.keeps kB)
          clear hn0 hn1 hn2 hix hmem hlv HCI HNA HJ
          generalize hV : cmN L E N f W k = V at *
          clear hV
          generalize hcn : cmN L E N f W (k + 1) = V2 at *
          have HV2 := hid hcn
          clear hcn
          generalize lstL L E N (witB L E i f) = ls at *
          generalize hkd : (nee E N i).kd = kd at *
          generalize hixx : (nee E N i).ix = ix at *
          generalize hinl : (nee E N i).inn.length = il at *
          clear hkd hixx hinl hnb
          generalize demB E i f = b at *
          generalize V.any (witB L E i f) = b2 at *
          cases b
          · go_wp2_with fail
            refine (HDE.out _).mono ?_; rintro e w5 ⟨rfl, k5⟩
            have x0 := k5.cell z0
            have x1 := k5.cell z1
            have x2 := k5.cell z2
            have xf := k5.cell yf
            have xy := k5.cell yy
            go_wp2_with fail
            refine (HCO.out _ k5).mono ?_; rintro e w6 ⟨rfl, k6⟩
            cases b2
            · replace x0 := k6.cell x0
              replace x1 := k6.cell x1
              replace x2 := k6.cell x2
              replace xf := k6.cell xf
              replace xy := k6.cell xy
              go_wp2_with fail
              refine (HLWI.out (by trivial) _ (k0q.trans (kB.trans (k5.trans k6)))).mono ?_; rintro e w7 ⟨rfl, k7⟩
              have hJ7 := (HJB.out.keeps ((k5.trans k6).trans k7)).keeps ((Keeps.refl w7).alloc (.cells #[.int .i64 ls] 2))
              have hs7 := hJ7.kp.size
              go_wp2_with (at_builtin; refine appIL rfl _ _ rfl wA.heap.size _ (natI V) rfl hJ7.own _ (ls : Int) rfl (Ints.lit1 w7 ls) hs7 (by omega) ?_; intro v8 w8 hv8 hg8 hr8 hb8; have hJ8 := hJ7.app hv8 hg8 hb8)
              go_roundw
              case rel => exact ⟨k + 1, by omega, by go_num, by rw [HV2.out, HCX.out, HCXV.out, if_neg (by simp)]; exact hJ8⟩
              case measure => simp [intOf]; omega
            · go_wp2_with fail
              go_roundw
              case rel => exact ⟨k + 1, by omega, by go_num, by rw [HV2.out, HCX.out, HCXV.out, if_pos (by simp)]; exact (HJB.out.keeps k5).keeps k6⟩
              case measure => simp [intOf]; omega
          · go_wp2_with fail
            refine (HDE.out _).mono ?_; rintro e w5 ⟨rfl, k5⟩
            go_wp2_with fail
            go_roundw
            case rel => exact ⟨k + 1, by omega, by go_num, by rw [HV2.out, HCX.out, HCXV.out, if_pos (by simp)]; exact HJB.out.keeps k5⟩
            case measure => simp [intOf]; omega
        · obtain rfl : k = (mods E).length := by omega
          have hkl' : ¬ (((mods E).length : Int) < (mods E).length) := by omega
          have HCD : Hid (cmW L E N f W = if decide (L ≠ 1) || (cmN L E N f W (mods E).length).any (seeB L E f) then cmN L E N f W (mods E).length else cmN L E N f W (mods E).length ++ [lstL L E N (seeB L E f)]) := hid (by rw [cmN_all]; rfl)
          have y0 := k0q.cell d0
          have HCO := hid (fun wz (kz : Keeps wr wz) =>
            containsFuncI (fun z => seeB L E f z.toNat) 158 #[.pointer (some ⟨w.heap.size, 0, none⟩), .pointer (some ⟨gf, 0, none⟩)] (natI (cmN L E N f W (mods E).length)) (.slice p7 (natI (cmN L E N f W (mods E).length)).length q7) wz
              ((HJ.out.own.keeps kz).ints (by omega)) enters_countermodel2 (fun z w3 hz k3 => by
                obtain ⟨t, ht, rfl⟩ := natI_mem hz
                have kk := k0q.trans (kz.trans k3)
                exact countermodel2_any r L N E f t HF.out (hlv t ht).1 _ _ w3 (HA.out.keeps kk) (kk.cell cy) ((kz.trans k3).cell yf)))
          rw [natI_any (seeB L E f) (fun z => seeB L E f z.toNat) _ (fun t _ => rfl)] at HCO
          have HLS := hid (fun (h1 : L = 1) wz (kz : Keeps wA wz) => leastSeen_liveL r L N E f h1 HF.out HLF.out wz (HA.out.keeps kz))
          clear hlv HNA HCN
          generalize hV : cmN L E N f W (mods E).length = V at *
          clear hV
          generalize hs : lgS L = s at *
          clear hs
          by_cases hL1 : L = 1
          · rw [decide_eq_true hL1] at hD
            have HLS1 := hid (HLS.out hL1)
            rw [decide_eq_false (not_not_intro hL1), Bool.false_or] at HCD
            clear HLS hL1
            generalize lstL L E N (seeB L E f) = ls at *
            generalize V.any (seeB L E f) = b2 at *
            go_wp2_with fail
            refine (HCO.out _ (Keeps.refl _)).mono ?_; rintro e w5 ⟨rfl, k5⟩
            have k05 := k0q.trans k5
            have hJ5 := HJ.out.keeps k5
            have HJ5 := hid hJ5
            cases b2
            · have HW : Hid (cmW L E N f W = V ++ [ls]) := hid (by rw [HCD.out, if_neg (by simp)])
              have xf := k5.cell yf
              have xy := k5.cell yy
              clear hJ5
              go_wp2_with fail
              refine (HLS1.out _ k05).mono ?_; rintro e w6 ⟨rfl, k6⟩
              have hJ6 := (HJ5.out.keeps k6).keeps ((Keeps.refl w6).alloc (.cells #[.int .i64 ls] 2))
              have hs6 := hJ6.kp.size
              go_upto_region 14 with (at_builtin; refine appIL rfl _ _ rfl wA.heap.size _ (natI V) rfl hJ6.own _ (ls : Int) rfl (Ints.lit1 w6 ls) hs6 (by omega) ?_; intro v8 w8 hv8 hg8 hr8 hb8; have hJ8 := hJ6.app hv8 hg8 hb8; obtain ⟨p8, q8, rfl, -, -, -⟩ := At.of_own hJ8.own)
              have HJ8 := hid hJ8
              clear hJ8 hv8 hg8 hb8 hr8 hJ6
              generalize V ++ [ls] = W2 at *
              rw [HW.out] at HNX HFU
              by_cases hl8 : W2.length ≤ 8
              · have hl8' : ¬ ((8 : Int) < (natI W2).length) := by rw [natI_len]; omega
                go_wp2_with fail
                go_roundw
                case rel => exact ⟨x + 1, W2, by go_num, HNX.out hl8, HJ8.out.own, HJ8.out.kp⟩
                case measure => simp [intOf]; omega
              · have hl8' : (8 : Int) < (natI W2).length := by rw [natI_len]; omega
                go_wp2_with fail
                go_ret2
                exact ⟨_, by rw [HFU.out hl8, decide_eq_false hl8]; first | done | rfl, by rw [HFU.out hl8, if_neg hl8]; exact OwnI.nil _ _, kA.trans (HJ8.out.kp)⟩
            · have HW : Hid (cmW L E N f W = V) := hid (by rw [HCD.out, if_pos rfl])
              clear hJ5
              rw [HW.out] at HNX HFU
              by_cases hl8 : V.length ≤ 8
              · have hl8' : ¬ ((8 : Int) < (natI V).length) := by rw [natI_len]; omega
                go_wp2_with fail
                go_roundw
                case rel => exact ⟨x + 1, V, by go_num, HNX.out hl8, HJ5.out.own, HJ5.out.kp⟩
                case measure => simp [intOf]; omega
              · have hl8' : (8 : Int) < (natI V).length := by rw [natI_len]; omega
                go_wp2_with fail
                go_ret2
                exact ⟨_, by rw [HFU.out hl8, decide_eq_false hl8]; first | done | rfl, by rw [HFU.out hl8, if_neg hl8]; exact OwnI.nil _ _, kA.trans (HJ5.out.kp)⟩
          · rw [decide_eq_false hL1] at hD
            rw [decide_eq_true hL1, Bool.true_or, if_pos rfl] at HCD
            have HW : Hid (cmW L E N f W = V) := HCD
            clear HLS HCO HCD hL1
            rw [HW.out] at HNX HFU
            by_cases hl8 : V.length ≤ 8
            · have hl8' : ¬ ((8 : Int) < (natI V).length) := by rw [natI_len]; omega
              go_wp2_with fail
              go_roundw
              case rel => exact ⟨x + 1, V, by go_num, HNX.out hl8, HJ.out.own, HJ.out.kp⟩
              case measure => simp [intOf]; omega
            · have hl8' : (8 : Int) < (natI V).length := by rw [natI_len]; omega
              go_wp2_with fail
              go_ret2
              exact ⟨_, by rw [HFU.out hl8, decide_eq_false hl8]; first | done | rfl, by rw [HFU.out hl8, if_neg hl8]; exact OwnI.nil _ _, kA.trans (HJ.out.kp)⟩
    · have hlt' : ¬ (x : Int) < (natI W).length := by rw [natI_len]; omega
      have HR := hid (HI.out.done hlt)
      clear HNA
      go_wp2_with fail
      go_ret2
      exact ⟨_, by rw [HR.out, decide_eq_true hW8]; first | done | rfl, by rw [HR.out, if_pos hW8]; exact HOW.out.mono kA.size, kA.trans kw⟩
end Go.Proofs.YtgnlfceloiilbaaGreat
/- The reference's types: which are allowed. -/
namespace Go.Proofs.YtgnlfceloiilbaaGreat
open Go.RowKit
def alQ (E : List Fm) (m i : Nat) : Bool := !isMo (E.getD i .fls) || (!demB E i m || meeB E i m)
theorem alw_alQ (L : Nat) (E : List Fm) (m : Nat) : alwB L E m = (!(decide (L = 2 ∨ L = 4 ∨ L = 6)) || (List.range E.length).all (alQ E m)) := by
  unfold alwB
  rw [show alQ E m = fun i => !isMo (E.getD i .fls) || (!demB E i m || meeB E i m) from rfl, mods_all]
theorem al_no {E : List Fm} {m i : Nat} (hi : i < E.length) (h : alQ E m i = false) : (List.range E.length).all (alQ E m) = false := by
  rw [Bool.eq_false_iff]
  intro ha
  rw [List.all_eq_true] at ha
  rw [ha i (List.mem_range.2 hi)] at h
  cases h
theorem al_yes {E : List Fm} {m : Nat} (h : ∀ j, j < E.length → alQ E m j = true) : (List.range E.length).all (alQ E m) = true := List.all_eq_true.2 fun j hj => h j (List.mem_range.1 hj)
--
set_option maxRecDepth 20000 in
set_option maxHeartbeats 8000000 in
theorem l12Type_any (r L N : Nat) (E : List Fm) (M : Nat → Nat) (ss : List ByteArray) (m : Nat) (hm : m < N) (w : World) (h : SpR w r L N E M ss) :
    Calls Tryz.prog 226 #[.pointer (some ⟨r, 0, none⟩), .int .i64 m] w fun e w' => e = .returned (.bool (alwB L E m)) ∧ Keeps w w' := by
  have h8 := h.h8
  have hN := h.hN
  have hL := h.hL
  have HH := hid h
  have c0 := h.c0
  have HAW := hid (alw_alQ L E m)
  have HNO := hid (fun i (hi : i < E.length) (e : alQ E m i = false) => al_no hi e)
  have HYE := hid (fun h => al_yes (E := E) (m := m) h)
  have hMm := h.hM m hm
  have HB1 := hid (fun i (hi : i ≤ 8) wz => l01BitB_any m i wz (by omega) hi)
  have HB2 := hid (fun i (hi : i ≤ 8) wz => l01BitB_any (M m) i wz hMm hi)
  have HQ : Hid (∀ i, alQ E m i = (!isMo (E.getD i .fls) || (!(m.testBit i == bxB E i) || (innB E i m == bxB E i)))) := hid (fun i => rfl)
  have HB := hid (fun i hi hz => h.hb m hm i hi hz)
  obtain ⟨v1, c1, hv1⟩ := h.c1
  have hs := h.hs
  obtain ⟨p1, q1, rfl, hl1, hx1, _⟩ := hv1.shape
  unfold maxLen at hx1
  rw [hs] at c1 hl1
  have HT := hid hm
  clear h hs hv1 hm hMm
  generalize alwB L E m = R at *
  generalize alQ E m = aq at *
  by_cases hr : L = 2 ∨ L = 4 ∨ L = 6
  · have HR := hid hr
    have HAR : Hid (R = (List.range E.length).all aq) := hid (by rw [HAW.out, decide_eq_true HR.out]; rfl)
    rcases hr with rfl | rfl | rfl
    all_goals
      simp only [lgS] at c0
      go_enter Tryz.func226, Tryz.ntmps226
      go_wp2_with fail
      go_loopw [4, 5] (fun o i' wr => ∃ i : Nat, i ≤ E.length ∧ i' = .int .i64 i ∧ o = .bool false ∧ (∀ j, j < i → aq j = true) ∧ w = wr) (fun _ i' _ => E.length - (intOf i').toNat)
      case atStart => exact ⟨0, by omega, rfl, rfl, fun j hj => by omega, rfl⟩
      case round =>
        obtain ⟨i, hi, rfl, rfl, hall, rfl⟩ := hrel
        have HAL := hid hall; clear hall
        by_cases hlt : i < E.length
        · have hlt' : (i : Int) < E.length := by omega
          have hi8 : i ≤ 8 := by omega
          obtain ⟨b, o, n, c, c2, hn, hnc, hc, hk, hcase⟩ := HH.out.kind i hlt
          obtain ⟨b4, o4, n4, q4, c4, hn4, hnc4, hc4, hm4⟩ := HH.out.mask m HT.out
          have hin : (i : Int) < n := by omega
          have hit : (m : Int) < n4 := by have := HT.out; omega
          unfold maxLen at hc hc4
          have HBi := hid (HB.out i hlt)
          have HX := hid (HB1.out i hi8)
          have HY := hid (HB2.out i hi8)
          have HQi := hid (HQ.out i)
          have HNi := hid (HNO.out i hlt)
          clear hn hn4 hi8
          generalize innB E i m = s3 at *
          generalize bxB E i = x at *
          generalize isMo (E.getD i .fls) = z at *
          generalize (E.getD i .fls).kind = kd at *
          generalize m.testBit i = p at *
          generalize hs0 : (M m).testBit i = s at *
          have HE : Hid (z = true → s = s3) := hid (fun hz => by rw [← HBi.out hz])
          clear hs0
          rcases hcase with ⟨rfl, rfl⟩ | ⟨rfl, rfl, rfl⟩ | ⟨rfl, rfl, rfl⟩
          · go_wp2_with fail
            go_roundw
            case rel => exact ⟨i + 1, by omega, by go_num, rfl, fun j hj => by rcases Nat.lt_succ_iff_lt_or_eq.1 hj with h3 | rfl; exact HAL.out j h3; rw [HQi.out]; rfl, by trivial⟩
            case measure => simp [intOf]; omega
          all_goals
            obtain rfl := HE.out rfl
            clear HE HBi
            cases p <;> cases s
          all_goals
            go_wp2_with fail
            refine (HX.out _).mono ?_; rintro e w2 ⟨rfl, rfl⟩
            go_wp2_with fail
            first
              | (go_roundw
                 case rel => exact ⟨i + 1, by omega, by go_num, rfl, fun j hj => by rcases Nat.lt_succ_iff_lt_or_eq.1 hj with h3 | rfl; exact HAL.out j h3; rw [HQi.out]; rfl, by trivial⟩
                 case measure => simp [intOf]; omega)
              | (refine (HY.out _).mono ?_; rintro e w3 ⟨rfl, rfl⟩
                 go_wp2_with fail
                 first
                   | (go_roundw
                      case rel => exact ⟨i + 1, by omega, by go_num, rfl, fun j hj => by rcases Nat.lt_succ_iff_lt_or_eq.1 hj with h3 | rfl; exact HAL.out j h3; rw [HQi.out]; rfl, by trivial⟩
                      case measure => simp [intOf]; omega)
                   | (go_ret
                      exact ⟨ret_bool (by rw [HAR.out, HNi.out (by rw [HQi.out]; rfl)]), Keeps.refl _⟩))
        · have hlt' : ¬ (i : Int) < E.length := by omega
          obtain rfl : i = E.length := by omega
          have HR2 := hid (HYE.out HAL.out)
          go_wp2_with fail
          go_ret
          exact ⟨ret_bool (by rw [HAR.out, HR2.out]), Keeps.refl _⟩
  · have HAR : Hid (R = true) := hid (by rw [HAW.out, decide_eq_false hr]; rfl)
    have h8' : L = 0 ∨ L = 1 ∨ L = 3 ∨ L = 5 ∨ L = 7 := by omega
    clear hr
    rcases h8' with rfl | rfl | rfl | rfl | rfl
    all_goals
      simp only [lgS] at c0
      go_enter Tryz.func226, Tryz.ntmps226
      go_wp2_with fail
      go_ret
      exact ⟨ret_bool (by rw [HAR.out]), Keeps.refl _⟩
end Go.Proofs.YtgnlfceloiilbaaGreat
/- The reference's types: what one makes true. -/
namespace Go.Proofs.YtgnlfceloiilbaaGreat
open Go.RowKit
theorem idx_at (E : List Fm) (t : Fm) (h : t ∈ E) : ∃ hj : E.idxOf t < E.length, E[E.idxOf t] = t := by
  have hj := (idx_el E t h 0).2
  exact ⟨hj, List.getElem_idxOf hj⟩
theorem idx_first (E : List Fm) (t : Fm) : ∀ i, i < E.idxOf t → ∀ h : i < E.length, E[i] ≠ t := by
  induction E with
  | nil => intro i _ h; simp at h
  | cons a E ih =>
    intro i hi h
    by_cases ha : a = t
    · subst ha; simp at hi
    · have he : List.idxOf t (a :: E) = List.idxOf t E + 1 := by rw [List.idxOf_cons, show (a == t) = false by simp [ha]]; rfl
      rw [he] at hi
      cases i with
      | zero => simpa using ha
      | succ i => simpa using ih i (by omega) (by simpa using h)
theorem tx_cmp {ss : List ByteArray} {E : List Fm} (hT : Txts ss E) (hw : ∀ t ∈ E, t.wf) {t : Fm} (ht : t.wf) {s : ByteArray} (hs : bts s = t.body) (i : Nat) (hi : i < ss.length) (hi' : i < E.length) :
    (ss[i].toList == s.toList) = decide (E[i] = t) := by
  have h1 : bts ss[i] = E[i].body := by
    have := congrArg (fun l => l[i]?) hT
    simpa [List.getElem?_eq_getElem hi, List.getElem?_eq_getElem hi'] using this
  rw [ByteArray.toList_eq, ByteArray.toList_eq, Bool.eq_iff_iff, beq_iff_eq, decide_eq_true_eq]
  show bts ss[i] = bts s ↔ _
  rw [h1, hs]
  exact ⟨fun e => body_inj (hw _ (List.getElem_mem hi')) ht e, fun e => by rw [e]⟩
--
set_option maxRecDepth 20000 in
set_option maxHeartbeats 4000000 in
theorem l12True_el (E : List Fm) (ss : List ByteArray) (hT : Txts ss E) (hw : ∀ t ∈ E, t.wf) (h8 : E.length ≤ 8) (m : Nat) (hm : m < 256) (t : Fm) (hwt : t.wf) (hl : t.enc.length ≤ 100000000) (hk : t.kind = 0 ∨ t.kind = 5 ∨ t.kind = 6) (ht : t ∈ E) (v : Value) (w : World) (r : Nat) (pv : Value)
    (hv : Nds w v t.enc) (hc1 : w.cell? ⟨r, 1, none⟩ = some pv) (hp : Strs w pv ss) :
    Calls Tryz.prog 225 #[.pointer (some ⟨r, 0, none⟩), .int .i64 m, v] w fun e w' => e = .returned (.bool (m.testBit (E.idxOf t))) ∧ Keeps w w' := by
  have HTX := hid (l02TextA t hwt hl v w hv)
  obtain ⟨b, off, n, cap, rfl, h0, h1, h2, h3, hc, -⟩ := hv.root
  obtain ⟨hj, hjt⟩ := idx_at E t ht
  have HF := hid (idx_first E t)
  have hlen : ss.length = E.length := hT.length
  have HC := hid (fun s (hs : bts s = t.body) i hi hi' => tx_cmp hT hw hwt hs i hi hi')
  have HB := hid (fun wz => l01BitB_any m (E.idxOf t) wz hm (by omega))
  have HJT := hid hjt
  have hp0 := hp
  obtain ⟨pp, pc, rfl, hpl, hpx, _⟩ := hp.shape
  unfold maxLen at h2 hpx
  have HL := hid hlen
  clear hv hT hw hjt ht hwt
  generalize E.idxOf t = j at *
  have hjs : j < ss.length := by rw [hlen]; exact hj
  have HJ := hid hj
  clear hlen
  rcases hk with hk | hk | hk
  all_goals
    rw [hk] at hc
    go_enter Tryz.func225, Tryz.ntmps225
    go_wp2_with fail
    refine HTX.out.mono ?_; rintro e w2 ⟨s, rfl, hs, k2⟩
    have c1 := k2.cell hc1
    have hp2 := hp0.keeps k2
    have HCS := hid (HC.out s hs)
    clear hs
    go_wp2_with fail
    go_loopw [6, 8] (fun o i' wr => ∃ i : Nat, i ≤ j ∧ i' = .int .i64 i ∧ o = .bool false ∧ w2 = wr) (fun _ i' _ => j + 1 - (intOf i').toNat)
    case atStart => exact ⟨0, by omega, rfl, rfl, rfl⟩
    case round =>
      obtain ⟨i, hi, rfl, rfl, rfl⟩ := hrel
      have his : i < ss.length := by omega
      have his' : (i : Int) < ss.length := by omega
      obtain ⟨b1, o1, rfl, e1⟩ := hp2.get i his
      have hcmp := HCS.out i his (by have := HJ.out; omega)
      rcases Nat.lt_or_ge i j with hij | hij
      · rw [decide_eq_false (HF.out i hij _)] at hcmp
        go_wp2_with fail
        go_roundw
        case rel => exact ⟨i + 1, by omega, by go_num, rfl, by trivial⟩
        case measure => simp [intOf]; omega
      · obtain rfl : i = j := by omega
        rw [decide_eq_true HJT.out] at hcmp
        go_wp2_with fail
        refine (HB.out _).mono ?_; rintro e w3 ⟨rfl, rfl⟩
        go_wp2_with fail
        go_ret
        exact ⟨rfl, k2⟩
end Go.Proofs.YtgnlfceloiilbaaGreat
/- The reference's types: what one makes true, any formula. -/
namespace Go.Proofs.YtgnlfceloiilbaaGreat
open Go.RowKit
--
set_option maxRecDepth 20000 in
set_option maxHeartbeats 4000000 in
theorem l12True_any (E : List Fm) (ss : List ByteArray) (hT : Txts ss E) (hw : ∀ t ∈ E, t.wf) (h8 : E.length ≤ 8) (m : Nat) (hm : m < 256) (r : Nat) (pv : Value) (t : Fm) :
    ∀ (v : Value) (w : World), t.wf → t.enc.length ≤ 100000000 → (∀ x ∈ subs t, isEl x = true → x ∈ E) → Nds w v t.enc → w.cell? ⟨r, 1, none⟩ = some pv → Strs w pv ss →
    Calls Tryz.prog 225 #[.pointer (some ⟨r, 0, none⟩), .int .i64 m, v] w fun e w' => e = .returned (.bool (valB E m t)) ∧ Keeps w w' := by
  induction t with
  | var i => intro v w hwt hl hs hv hc hp; exact l12True_el E ss hT hw h8 m hm (.var i) hwt hl (.inl rfl) (hs _ (subs_self _) rfl) v w r pv hv hc hp
  | box a _ => intro v w hwt hl hs hv hc hp; exact l12True_el E ss hT hw h8 m hm (.box a) hwt hl (.inr (.inl rfl)) (hs _ (subs_self _) rfl) v w r pv hv hc hp
  | dia a _ => intro v w hwt hl hs hv hc hp; exact l12True_el E ss hT hw h8 m hm (.dia a) hwt hl (.inr (.inr rfl)) (hs _ (subs_self _) rfl) v w r pv hv hc hp
  | fls =>
    intro v w hwt hl hs hv hc1 hp
    obtain ⟨b, off, n, cap, rfl, h0, h1, h2, h3, hc, -⟩ := hv.root
    rw [show Fm.fls.kind = 1 from rfl] at hc
    unfold maxLen at h2
    clear hs hp hv hc1
    go_enter Tryz.func225, Tryz.ntmps225
    go_wp2_with fail
    go_ret
    exact ⟨rfl, Keeps.refl _⟩
  | and x y ihx ihy =>
    intro v w hwt hl hs hv hc1 hp
    have hlx : x.enc.length ≤ 100000000 ∧ y.enc.length ≤ 100000000 := by simp [Fm.enc] at hl; omega
    have HX := hid (fun vz wz (kz : Keeps w wz) (hz : Nds wz vz x.enc) => ihx vz wz hwt.1 hlx.1 (fun a ha => hs a (by simp [subs, ha])) hz (kz.cell hc1) (hp.keeps kz))
    have HY := hid (fun vz wz (kz : Keeps w wz) (hz : Nds wz vz y.enc) => ihy vz wz hwt.2 hlx.2 (fun a ha => hs a (by simp [subs, ha])) hz (kz.cell hc1) (hp.keeps kz))
    have hv0 := hv
    obtain ⟨b, off, n, cap, rfl, h0, h1, h2, h3, hc, -⟩ := hv.root
    rw [show (Fm.and x y).kind = 2 from rfl] at hc
    unfold maxLen at h2
    clear hs hp hv hc1 ihx ihy hl hlx hwt
    go_enter Tryz.func225, Tryz.ntmps225
    go_wp2_with fail
    refine (l02Left_any _ _ x y.enc _ _ hv0 rfl).mono ?_; rintro e w' ⟨v1, rfl, hv1, rfl⟩
    go_wp2_with fail
    refine (HX.out v1 _ (Keeps.refl _) hv1).mono ?_; rintro e w2 ⟨rfl, k2⟩
    cases hbx : valB E m x
    · go_wp2_with fail
      go_ret
      exact ⟨ret_bool (by simp [valB, hbx]), k2⟩
    · go_wp2_with fail
      refine (l02Right_any _ _ x y _ _ (hv0.keeps k2) rfl).mono ?_; rintro e w' ⟨v3, rfl, hv3, rfl⟩
      go_wp2_with fail
      refine (HY.out v3 _ k2 hv3).mono ?_; rintro e w4 ⟨rfl, k4⟩
      go_wp2_with fail
      go_ret
      exact ⟨ret_bool (by simp [valB, hbx]), k2.trans k4⟩
  | or x y ihx ihy =>
    intro v w hwt hl hs hv hc1 hp
    have hlx : x.enc.length ≤ 100000000 ∧ y.enc.length ≤ 100000000 := by simp [Fm.enc] at hl; omega
    have HX := hid (fun vz wz (kz : Keeps w wz) (hz : Nds wz vz x.enc) => ihx vz wz hwt.1 hlx.1 (fun a ha => hs a (by simp [subs, ha])) hz (kz.cell hc1) (hp.keeps kz))
    have HY := hid (fun vz wz (kz : Keeps w wz) (hz : Nds wz vz y.enc) => ihy vz wz hwt.2 hlx.2 (fun a ha => hs a (by simp [subs, ha])) hz (kz.cell hc1) (hp.keeps kz))
    have hv0 := hv
    obtain ⟨b, off, n, cap, rfl, h0, h1, h2, h3, hc, -⟩ := hv.root
    rw [show (Fm.or x y).kind = 3 from rfl] at hc
    unfold maxLen at h2
    clear hs hp hv hc1 ihx ihy hl hlx hwt
    go_enter Tryz.func225, Tryz.ntmps225
    go_wp2_with fail
    refine (l02Left_any _ _ x y.enc _ _ hv0 rfl).mono ?_; rintro e w' ⟨v1, rfl, hv1, rfl⟩
    go_wp2_with fail
    refine (HX.out v1 _ (Keeps.refl _) hv1).mono ?_; rintro e w2 ⟨rfl, k2⟩
    cases hbx : valB E m x
    · go_wp2_with fail
      refine (l02Right_any _ _ x y _ _ (hv0.keeps k2) rfl).mono ?_; rintro e w' ⟨v3, rfl, hv3, rfl⟩
      go_wp2_with fail
      refine (HY.out v3 _ k2 hv3).mono ?_; rintro e w4 ⟨rfl, k4⟩
      go_wp2_with fail
      go_ret
      exact ⟨ret_bool (by simp [valB, hbx]), k2.trans k4⟩
    · go_wp2_with fail
      go_ret
      exact ⟨ret_bool (by simp [valB, hbx]), k2⟩
  | imp x y ihx ihy =>
    intro v w hwt hl hs hv hc1 hp
    have hlx : x.enc.length ≤ 100000000 ∧ y.enc.length ≤ 100000000 := by simp [Fm.enc] at hl; omega
    have HX := hid (fun vz wz (kz : Keeps w wz) (hz : Nds wz vz x.enc) => ihx vz wz hwt.1 hlx.1 (fun a ha => hs a (by simp [subs, ha])) hz (kz.cell hc1) (hp.keeps kz))
    have HY := hid (fun vz wz (kz : Keeps w wz) (hz : Nds wz vz y.enc) => ihy vz wz hwt.2 hlx.2 (fun a ha => hs a (by simp [subs, ha])) hz (kz.cell hc1) (hp.keeps kz))
    have hv0 := hv
    obtain ⟨b, off, n, cap, rfl, h0, h1, h2, h3, hc, -⟩ := hv.root
    rw [show (Fm.imp x y).kind = 4 from rfl] at hc
    unfold maxLen at h2
    clear hs hp hv hc1 ihx ihy hl hlx hwt
    go_enter Tryz.func225, Tryz.ntmps225
    go_wp2_with fail
    refine (l02Left_any _ _ x y.enc _ _ hv0 rfl).mono ?_; rintro e w' ⟨v1, rfl, hv1, rfl⟩
    go_wp2_with fail
    refine (HX.out v1 _ (Keeps.refl _) hv1).mono ?_; rintro e w2 ⟨rfl, k2⟩
    cases hbx : valB E m x
    · go_wp2_with fail
      go_ret
      exact ⟨ret_bool (by simp [valB, hbx]), k2⟩
    · go_wp2_with fail
      refine (l02Right_any _ _ x y _ _ (hv0.keeps k2) rfl).mono ?_; rintro e w' ⟨v3, rfl, hv3, rfl⟩
      go_wp2_with fail
      refine (HY.out v3 _ k2 hv3).mono ?_; rintro e w4 ⟨rfl, k4⟩
      go_wp2_with fail
      go_ret
      exact ⟨ret_bool (by simp [valB, hbx]), k2.trans k4⟩
end Go.Proofs.YtgnlfceloiilbaaGreat
