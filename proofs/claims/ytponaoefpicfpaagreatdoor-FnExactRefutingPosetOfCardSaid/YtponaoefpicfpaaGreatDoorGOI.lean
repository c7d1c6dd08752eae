/- The program: the least relation, by all orders of the numbers. -/
import Derived.Test.YtponaoefpicfpaaGreatDoorGOL
import Derived.Test.YtponaoefpicfpaaGreatDoorGAL
import Derived.Shelf.GgSortFunc.SW
namespace Go.Proofs.YtponaoefpicfpaaGreatDoor
open Go.RowKit
--
/-- the boxes lie apart -/
structure PNe (g go gn gf gg ga gb : Nat) : Prop where
  h1 : go ≠ gn
  h2 : go ≠ gf
  h3 : go ≠ gg
  h4 : go ≠ ga
  h5 : go ≠ gb
  h6 : go ≠ g
  h7 : gb ≠ gn
  h8 : gb ≠ gf
  h9 : gb ≠ gg
  h10 : gb ≠ ga
  h11 : gb ≠ g
  h12 : g ≠ gn
  h13 : g ≠ gf
  h14 : g ≠ gg
  h15 : g ≠ ga
def PBox (g go gn gf gg ga gb k : Nat) : Prop := k = g ∨ k = go ∨ k = gn ∨ k = gf ∨ k = gg ∨ k = ga ∨ k = gb
/-- what the closures share: the order so far, the best relation so far -/
structure PSt (w0 w : World) (g go gn gf gg ga gb n : Nat) (va : Value) (o best : List Nat) (vb : Value) : Prop where
  kp : Keeps w0 w
  co : w.cell? ⟨go, 0, none⟩ = some (.slice (some ⟨g, 0, none⟩) o.length n)
  fo : w.frozen? ⟨go, 0, none⟩ = false
  cn : w.cell? ⟨gn, 0, none⟩ = some (.int .i64 n)
  cf : w.cell? ⟨gf, 0, none⟩ = some (.func (.func 180) #[] #[.pointer (some ⟨ga, 0, none⟩), .pointer (some ⟨gb, 0, none⟩)])
  cg : w.cell? ⟨gg, 0, none⟩ = some (.func (.func 253) #[] #[.pointer (some ⟨go, 0, none⟩), .pointer (some ⟨gn, 0, none⟩), .pointer (some ⟨gf, 0, none⟩), .pointer (some ⟨gg, 0, none⟩)])
  ca : w.cell? ⟨ga, 0, none⟩ = some va
  cb : w.cell? ⟨gb, 0, none⟩ = some vb
  fb : w.frozen? ⟨gb, 0, none⟩ = false
  row : OwnI w w0.heap.size (.slice (some ⟨g, 0, none⟩) o.length n) (zs o)
  bst : OwnI w w0.heap.size vb (zs best)
  off : ∀ k, vb.ownBlock = some k → ¬ PBox g go gn gf gg ga gb k
theorem PSt.keeps {w0 w w' : World} {g go gn gf gg ga gb n : Nat} {va : Value} {o best : List Nat} {vb : Value} (h : PSt w0 w g go gn gf gg ga gb n va o best vb) (k : Keeps w w') : PSt w0 w' g go gn gf gg ga gb n va o best vb where
  kp := h.kp.trans k
  co := k.cell h.co
  fo := by rw [(k.both).2 go 0 (World.block_lt_of_cell? _ _ h.co)]; exact h.fo
  cn := k.cell h.cn
  cf := k.cell h.cf
  cg := k.cell h.cg
  ca := k.cell h.ca
  cb := k.cell h.cb
  fb := by rw [(k.both).2 gb 0 (World.block_lt_of_cell? _ _ h.cb)]; exact h.fb
  row := h.row.keeps k
  bst := h.bst.keeps k
  off := h.off
theorem PSt.size {w0 w : World} {g go gn gf gg ga gb n : Nat} {va : Value} {o best : List Nat} {vb : Value} (h : PSt w0 w g go gn gf gg ga gb n va o best vb) : g < w.heap.size ∧ go < w.heap.size ∧ gn < w.heap.size ∧ gf < w.heap.size ∧ gg < w.heap.size ∧ ga < w.heap.size ∧ gb < w.heap.size :=
  ⟨(h.row.len _ rfl).2, World.block_lt_of_cell? _ _ h.co, World.block_lt_of_cell? _ _ h.cn, World.block_lt_of_cell? _ _ h.cf, World.block_lt_of_cell? _ _ h.cg, World.block_lt_of_cell? _ _ h.ca, World.block_lt_of_cell? _ _ h.cb⟩
theorem PSt.fresh {w0 w : World} {g go gn gf gg ga gb n : Nat} {va : Value} {o best : List Nat} {vb : Value} (h : PSt w0 w g go gn gf gg ga gb n va o best vb) {k : Nat} (hk : w.heap.size ≤ k) : ¬ PBox g go gn gf gg ga gb k := by
  have := h.size
  unfold PBox
  omega
theorem cell_grown {w w' : World} {b g : Nat} {v : Value} (hc : w.cell? ⟨b, 0, none⟩ = some v) (k : w.grownBy w' (some g)) (hb : b ≠ g) : w'.cell? ⟨b, 0, none⟩ = some v ∧ w'.frozen? ⟨b, 0, none⟩ = w.frozen? ⟨b, 0, none⟩ := by
  have h := (Touch.grown k).cell (World.block_lt_of_cell? _ _ hc) (fun e => hb (by simpa using e))
  exact ⟨by rw [h.1]; exact hc, h.2 0⟩
theorem own_grown {w w' : World} {B g : Nat} {v : Value} {x : List Int} (h : OwnI w B v x) (k : w.grownBy w' (some g)) (hb : ∀ i, v.ownBlock = some i → i ≠ g) : OwnI w' B v x :=
  h.touch (Touch.grown k) (fun i hi e => hb i hi (by simpa using e))
/-- the order's row is written, then the box of the order -/
theorem PSt.order {w0 w w1 : World} {g go gn gf gg ga gb n : Nat} {va : Value} {o o' best : List Nat} {vb : Value} (h : PSt w0 w g go gn gf gg ga gb n va o best vb) (N : PNe g go gn gf gg ga gb) (hg0 : w0.heap.size ≤ g) (hgo : w0.heap.size ≤ go)
    (k : w.grownBy w1 (some g)) (hrow : OwnI w1 w0.heap.size (.slice (some ⟨g, 0, none⟩) o'.length n) (zs o')) :
    PSt w0 (w1.setCell ⟨go, 0, none⟩ (.slice (some ⟨g, 0, none⟩) o'.length n)) g go gn gf gg ga gb n va o' best vb := by
  have k2 := grown_set (w := w1) go 0 (.slice (some ⟨g, 0, none⟩) o'.length n)
  have c1 := cell_grown h.co k N.h6
  have cn1 := cell_grown h.cn k (Ne.symm N.h12)
  have cf1 := cell_grown h.cf k (Ne.symm N.h13)
  have cg1 := cell_grown h.cg k (Ne.symm N.h14)
  have ca1 := cell_grown h.ca k (Ne.symm N.h15)
  have cb1 := cell_grown h.cb k N.h11
  have b1 := own_grown h.bst k (fun i hi e => h.off i hi (.inl e))
  refine ⟨(h.kp.grown k (fun j e => by cases e; exact hg0)).setCell hgo _, ?_, ?_, (cell_grown cn1.1 k2 (Ne.symm N.h1)).1, (cell_grown cf1.1 k2 (Ne.symm N.h2)).1, (cell_grown cg1.1 k2 (Ne.symm N.h3)).1, (cell_grown ca1.1 k2 (Ne.symm N.h4)).1, (cell_grown cb1.1 k2 (Ne.symm N.h5)).1, ?_, ?_, ?_, h.off⟩
  · exact World.cell?_setCell_same _ _ _ c1.1
  · rw [World.frozen?_setCell]; rw [c1.2]; exact h.fo
  · rw [World.frozen?_setCell]; rw [cb1.2]; exact h.fb
  · exact own_grown hrow k2 (fun i hi e => N.h6 (by have : g = i := by simpa [Value.ownBlock] using hi
                                                    omega))
  · exact own_grown b1 k2 (fun i hi e => h.off i hi (.inr (.inl e)))
/-- a better relation is put into its box -/
theorem PSt.better {w0 w : World} {g go gn gf gg ga gb n : Nat} {va : Value} {o best b' : List Nat} {vb v' : Value} (h : PSt w0 w g go gn gf gg ga gb n va o best vb) (N : PNe g go gn gf gg ga gb) (hgb : w0.heap.size ≤ gb)
    (hb : OwnI w w0.heap.size v' (zs b')) (hoff : ∀ k, v'.ownBlock = some k → ¬ PBox g go gn gf gg ga gb k) : PSt w0 (w.setCell ⟨gb, 0, none⟩ v') g go gn gf gg ga gb n va o b' v' := by
  have k2 := grown_set (w := w) gb 0 v'
  refine ⟨h.kp.setCell hgb _, (cell_grown h.co k2 N.h5).1, ?_, (cell_grown h.cn k2 (Ne.symm N.h7)).1, (cell_grown h.cf k2 (Ne.symm N.h8)).1, (cell_grown h.cg k2 (Ne.symm N.h9)).1, (cell_grown h.ca k2 (Ne.symm N.h10)).1, World.cell?_setCell_same _ _ _ h.cb, ?_, ?_, ?_, hoff⟩
  · rw [World.frozen?_setCell]; exact h.fo
  · rw [World.frozen?_setCell]; exact h.fb
  · exact own_grown h.row k2 (fun i hi e => N.h11 (by have : g = i := by simpa [Value.ownBlock] using hi
                                                      omega))
  · exact own_grown hb k2 (fun i hi e => hoff i hi (by unfold PBox; omega))
def PRet (w0 : World) (g go gn gf gg ga gb n : Nat) (va : Value) (o best : List Nat) (e : Ending) (w' : World) : Prop := e = .returned (.tuple #[]) ∧ ∃ vb, PSt w0 w' g go gn gf gg ga gb n va o best vb
set_option maxRecDepth 20000 in
set_option maxHeartbeats 1000000 in
theorem least_1_any (w0 w : World) (g go gn gf gg ga gb n : Nat) (va : Value) (a o best : List Nat) (vb : Value) (h : PSt w0 w g go gn gf gg ga gb n va o best vb) (N : PNe g go gn gf gg ga gb) (hgb : w0.heap.size ≤ gb)
    (hva : Ints w0 va (zs a)) (hn : n ≤ 4) (hal : a.length = n) (hab : Bnd n a) (ho : o ∈ permP n) (hbl : best.length = n) :
    Calls Tryz.prog 180 #[.slice (some ⟨g, 0, none⟩) o.length n, .pointer (some ⟨ga, 0, none⟩), .pointer (some ⟨gb, 0, none⟩)] w (PRet w0 g go gn gf gg ga gb n va o (betP a best o)) := by
  obtain ⟨hol, hox⟩ := perm_len hn ho
  have hre := ren_eq hn hab ho
  have HR := hid (reordered_any a o va _ w (hva.keeps h.kp) (h.row.ints (by rw [zs_length]; omega)) (by omega) (by omega) (by rw [hol]; exact hox) (by rw [hol]; exact hab))
  rw [hre] at HR
  have hrl := renP_len a o
  have HCM := hid (fun (v : Value) (w2 : World) (k : Keeps w w2) (hv : OwnI w2 w.heap.size v (zs (renP a o))) => compareI_any (renP a o) best v vb w2 (hv.ints (by rw [zs_length]; omega)) ((h.bst.keeps k).ints (by rw [zs_length]; omega)))
  have HB : Hid (betP a best o = if lessL (renP a o) best then renP a o else best) := hid rfl
  have HLT := hid (cmpL_neg (renP a o) best)
  have hca := h.ca
  have hcb := h.cb
  have H := hid h
  obtain ⟨pa, na, qa, rfl⟩ : ∃ p n c, va = .slice p n c := by
    obtain ⟨p, c, e, _⟩ := hva; exact ⟨p, _, c, e⟩
  clear hre hrl hab hva
  obtain ⟨pb, qb, rfl, _⟩ := h.bst.ints (by rw [zs_length]; omega)
  clear h
  generalize hR : renP a o = R at *
  clear hR hol hox hbl hal ho
  go_enter Tryz.func180, Tryz.ntmps180
  go_wp2_with fail
  refine HR.out.mono ?_; rintro e w2 ⟨v2, rfl, hv2, k2⟩
  replace hcb := k2.cell hcb
  have HC2 := hid (HCM.out v2 w2 k2 hv2)
  have HST := hid (H.out.keeps k2)
  have HNEW := hid (fun k (e : v2.ownBlock = some k) => H.out.fresh (hv2.len k e).1)
  have HV2 := hid (hv2.mono (H.out.kp.size))
  obtain ⟨p2, c2, rfl, -, -, -⟩ := At.of_own hv2
  clear hca hv2
  cases hl : lessL R best
  · have hlt : ¬ (cmpL R best < 0) := by
      have := HLT.out
      rw [hl] at this
      simpa using this
    have HBB : Hid (betP a best o = best) := hid (by rw [HB.out, hl]; rfl)
    clear hl
    generalize cmpL R best = c at *
    go_wp2_with fail
    refine HC2.out.mono ?_; rintro e w3 ⟨rfl, rfl⟩
    go_wp2_with fail
    go_end0
    exact ⟨rfl, _, by rw [HBB.out]; exact HST.out⟩
  · have hlt : cmpL R best < 0 := by
      have := HLT.out
      rw [hl] at this
      simpa using this
    have HBB : Hid (betP a best o = R) := hid (by rw [HB.out, hl]; rfl)
    clear hl
    have hfb := HST.out.fb
    generalize cmpL R best = c at *
    go_wp2_with fail
    refine HC2.out.mono ?_; rintro e w3 ⟨rfl, rfl⟩
    go_wp2_with fail
    go_end0
    exact ⟨rfl, _, by rw [HBB.out]; exact HST.out.better N hgb HV2.out HNEW.out⟩
--
theorem enters_perm1 : Enters 253 := fun _ _ => by kernel_rfl
theorem enters_least1 : Enters 180 := fun _ _ => by kernel_rfl
theorem OwnI.cutI {w : World} {B g cap : Nat} {a : List Int} (h : OwnI w B (.slice (some ⟨g, 0, none⟩) a.length cap) a) (k : Nat) (hk : k ≤ a.length) : OwnI w B (.slice (some ⟨g, 0, none⟩) k cap) (a.take k) := by
  rcases h with ⟨hl, ⟨e, _⟩ | ⟨g', cap', cur, e, hb, hg, hn, hm, hs, ht⟩⟩
  · cases e
  · cases e
    refine ⟨by simp [intCells], .inr ⟨g, cap, cur, ?_, hb, hg, ?_, hm, hs, ?_⟩⟩
    · rw [List.length_take, Nat.min_eq_left hk]
    · rw [List.length_take, Nat.min_eq_left hk]; exact Nat.le_trans hk hn
    · rw [List.length_take, Nat.min_eq_left hk, show intCells (a.take k) = (intCells a).take k by simp [intCells, List.map_take], ← ht, List.take_take, Nat.mul_one, Nat.mul_one, Nat.min_eq_left hk]
set_option maxRecDepth 20000 in
set_option maxHeartbeats 4000000 in
theorem grow_any (w0 : World) (g go gn gf gg ga gb n : Nat) (va : Value) (a : List Nat) (N : PNe g go gn gf gg ga gb) (hg0 : w0.heap.size ≤ g) (hgo : w0.heap.size ≤ go) (hgb : w0.heap.size ≤ gb)
    (hva : Ints w0 va (zs a)) (hn : n ≤ 4) (hal : a.length = n) (hab : Bnd n a) :
    ∀ f o best w vb, PSt w0 w g go gn gf gg ga gb n va o best vb → o.length + f = n → (∀ x ∈ o, x < n) → (∀ x ∈ growP n f o, x ∈ permP n) → best.length = n → Bnd n best →
      Calls Tryz.prog 253 #[.int .i64 (usedB o : Nat), .pointer (some ⟨go, 0, none⟩), .pointer (some ⟨gn, 0, none⟩), .pointer (some ⟨gf, 0, none⟩), .pointer (some ⟨gg, 0, none⟩)] w (PRet w0 g go gn gf gg ga gb n va o ((growP n f o).foldl (betP a) best)) := by
  intro f
  have hcf1 : ∀ args w, (callFunc 253 args).run Tryz.prog w = .ok (.enter 253 args) w := enters_perm1
  have hcf2 : ∀ args w, (callFunc 180 args).run Tryz.prog w = .ok (.enter 180 args) w := enters_least1
  have HVA := hid hva; clear hva
  have HAL := hid hal; clear hal
  have HAB := hid hab; clear hab
  induction f with
  | zero =>
    intro o best w vb h hof hox hsub hbl hbb
    have hol : o.length = n := by omega
    have hperm : o ∈ permP n := hsub o (by simp [growP])
    have HS := hid (fun w2 (k : Keeps w w2) => sizeI_any (zs o) _ w2 ((h.row.keeps k).ints (by rw [zs_length]; omega)))
    rw [zs_length] at HS
    have HL := hid (fun w2 (k : Keeps w w2) => least_1_any w0 w2 g go gn gf gg ga gb n va a o best vb (h.keeps k) N hgb HVA.out hn HAL.out HAB.out hperm hbl)
    have HG : Hid ((growP n 0 o).foldl (betP a) best = betP a best o) := hid rfl
    have heq : ((o.length : Int) == (n : Int)) = true := by rw [hol]; simp
    obtain ⟨_, c1, _, c2, c3, _, _, _, _, _, _, _⟩ := h
    have kd := fun q => (Keeps.refl w).drewN q
    rw [HG.out]
    clear hof hox hsub hbl hbb hol hperm HG
    generalize betP a best o = R at *
    generalize o.length = m at *
    go_enter Tryz.func253, Tryz.ntmps253
    go_wp2_with fail
    go_quiet (first | (go_at_call 72; refine quietS (HS.out _ (kd _))))
    go_wp2_with fail
    refine (HL.out _ (kd _)).mono ?_; rintro e w2 ⟨rfl, vb2, h2⟩
    go_wp2_with fail
    go_end0
    exact ⟨rfl, vb2, h2⟩
  | succ f ih =>
    intro o best w vb h hof hox hsub hbl hbb
    have IH := hid ih; clear ih
    have hlt0 : o.length < n := by omega
    have HS := hid (fun w2 (k : Keeps w w2) => sizeI_any (zs o) _ w2 ((h.row.keeps k).ints (by rw [zs_length]; omega)))
    rw [zs_length] at HS
    have heq : ((o.length : Int) == (n : Int)) = false := by simp; omega
    have HG : Hid ((growP n (f + 1) o) = growK n f o n) := hid (growK_all n f o).symm
    have HOF := hid hof; clear hof
    have HOX := hid hox; clear hox
    have HSUB := hid hsub; clear hsub
    have HBL := hid hbl; clear hbl
    have HBB := hid hbb; clear hbb
    have hu8 : usedB o < 256 := Nat.lt_of_lt_of_le (usedB_lt HOX.out) (two8 (by omega))
    have HH := hid (fun i w2 (hi : i ≤ 8) => hasB_any (usedB o) i w2 hu8 hi)
    have HUB := hid (usedB_bit o)
    have HST := hid h
    obtain ⟨_, c1, _, c2, c3, _, _, _, _, _, _, _⟩ := h
    have kd := fun q => (Keeps.refl w).drewN q
    have HFB : Hid (∀ k, k ≤ n → ((growK n f o k).foldl (betP a) best).length = n ∧ Bnd n ((growK n f o k).foldl (betP a) best)) := hid fun k hk =>
      fold_bet _ best (fun x hx => (perm_len hn (HSUB.out x (by rw [HG.out]; exact growK_sub hk hx))).1) HBL.out HBB.out
    rw [HG.out]
    have HO2 := hid hlt0; clear hlt0
    generalize hm : o.length = m at *
    have HM := hid hm; clear hm
    go_enter Tryz.func253, Tryz.ntmps253
    go_wp2_with fail
    go_quiet (first | (go_at_call 72; refine quietS (HS.out _ (kd _))))
    go_wp2_with fail
    clear c1 c2 c3
    go_loopw [15] (fun i' wr => ∃ i : Nat, i ≤ n ∧ i' = .int .i64 i ∧ ∃ vb', PSt w0 wr g go gn gf gg ga gb n va o ((growK n f o i).foldl (betP a) best) vb') (fun i' _ => n - (intOf i').toNat)
    case atStart => exact ⟨0, by omega, rfl, vb, by simpa [growK] using HST.out.keeps (kd _)⟩
    case round =>
      obtain ⟨i, hi, rfl, vb', h⟩ := hrel
      by_cases hlt : i < n
      · have hlt' : (i : Int) < n := by omega
        have HGK : Hid (growK n f o (i + 1) = growK n f o i ++ (if o.contains i then [] else growP n f (o ++ [i]))) := hid rfl
        have hhas := HH.out i wr (by omega)
        cases hc : o.contains i
        · rw [HUB.out, hc] at hhas
          have HHAS := hid hhas; clear hhas
          have HGK2 : Hid (growK n f o (i + 1) = growK n f o i ++ growP n f (o ++ [i])) := hid (by rw [HGK.out, hc]; rfl)
          have HSUB2 : Hid (∀ x ∈ growP n f (o ++ [i]), x ∈ permP n) := hid fun x hx => HSUB.out x (growK_step hlt hc hx)
          clear hc HGK
          have hb2 := HFB.out i hi
          have HB2 := hid hb2; clear hb2
          generalize hbest : (growK n f o i).foldl (betP a) best = bst at *
          have HBEST := hid hbest; clear hbest
          have hrow := h.row
          rw [HM.out] at hrow
          have HR := hid h
          obtain ⟨_, d1, d1f, d2, d3, d4, _, _, _, _, _, _⟩ := h
          rw [HM.out] at d1
          have hor := orN (usedB o) (2 ^ i) (by omega) (by have : 2 ^ i < 2 ^ 4 := Nat.pow_lt_pow_right (by omega) (by omega); omega)
          have e1 := (pow63 i (by omega)).1
          have e2 : ((2 ^ i : Nat) : Int) = 2 ^ i := by push_cast; rfl
          rw [e2, ← usedB_snoc] at hor
          obtain ⟨i0, hi0, hz0, hz1, hz2⟩ := info_parts infoI
          have hal1 := (Keeps.refl wr).alloc (.cells #[.int .i64 (i : Int)] 2)
          have hrw : (wr.alloc (.cells #[.int .i64 (i : Int)] 2)).ownsRow w0.heap.size 2 1 (.slice (some ⟨g, 0, none⟩) m n) m (intCells (zs o)) := by
            have := own_keeps hrow hal1
            rwa [zs_length, HM.out] at this
          have hlen : (o ++ [i]).length = m + 1 := by rw [List.length_append, HM.out]; rfl
          have hzs : intCells (zs o) ++ [.int .i64 (i : Int)] = intCells (zs (o ++ [i])) := by rw [zs_snoc]; simp [intCells]
          have htk : (zs (o ++ [i])).take m = zs o := by rw [zs_snoc]; exact List.take_left' (by rw [zs_length, HM.out])
          have HPS := hid (fun w1 (hg1 : (wr.alloc (.cells #[.int .i64 (i : Int)] 2)).grownBy w1 (some g)) (hr1 : w1.ownsRow w0.heap.size 2 1 (.slice (some ⟨g, 0, none⟩) (m + 1) n) (m + 1) (intCells (zs o) ++ [.int .i64 (i : Int)])) =>
            (HR.out.keeps hal1).order (o' := o ++ [i]) N hg0 hgo hg1 (by rw [hlen]; unfold OwnI; rw [zs_length, hlen, ← hzs]; exact hr1))
          have HD1 := hid (fun w1 (hg1 : (wr.alloc (.cells #[.int .i64 (i : Int)] 2)).grownBy w1 (some g)) => cell_grown (hal1.cell d1) hg1 N.h6)
          have hfz : (wr.alloc (.cells #[.int .i64 (i : Int)] 2)).frozen? ⟨go, 0, none⟩ = false := by rw [hal1.both.2 go 0 (World.block_lt_of_cell? _ _ d1)]; exact d1f
          have HFZ := hid hfz; clear hfz
          rw [hlen] at HPS
          have hiu : ∀ x ∈ o ++ [i], x < n := fun x hx => by
            rcases List.mem_append.1 hx with hx | hx
            · exact HOX.out x hx
            · simp at hx; omega
          have HIH := hid (fun wz vz (hz : PSt w0 wz g go gn gf gg ga gb n va (o ++ [i]) bst vz) => IH.out (o ++ [i]) bst wz vz hz (by have := HOF.out; rw [hlen]; omega) hiu HSUB2.out HB2.out.1 HB2.out.2)
          have HHL := hid hlen; clear hlen hiu
          have HTK := hid htk; clear htk
          have hm1 : m + 1 ≤ n := HO2.out
          clear hzs
          generalize usedB o = ub at *
          generalize usedB (o ++ [i]) = ub2 at *
          go_wp2_with (first | (go_at_call 210; refine HHAS.out.mono ?_; rintro e w' ⟨rfl, rfl⟩) | (at_builtin; refine wpList_append_fits _ rfl _ _ _ rfl w0.heap.size _ i0 1 Tryz.underlying25 hi0 hz1 g _ n (intCells (zs o)) rfl hrw ⟨_, 0, none⟩ 1 1 [.int .i64 (i : Int)] rfl (by simp) (by intro j u hj; cases j with | zero => (simp at hj; subst hj; simp [Addr.add]) | succ j => simp at hj) (by simp [Value.oneCell']) hm1 ?_))
          intro w1 hown1 hg1
          have PS1 := HPS.out w1 hg1 hown1
          obtain ⟨x1, x2⟩ := HD1.out w1 hg1
          rw [HFZ.out] at x2
          have kd := (Keeps.refl (w1.setCell ⟨go, 0, none⟩ (.slice (some ⟨g, 0, none⟩) (m + 1) n))).drew
          have z3 := PS1.cg
          have HCALL := hid (HIH.out _ _ (PS1.keeps kd))
          clear PS1 hown1 hrw hal1 hg1 d1 d1f d2 d3 d4 hrow kd
          go_wp2_with fail
          generalize w1.setCell ⟨go, 0, none⟩ (.slice (some ⟨g, 0, none⟩) (m + 1) n) = w1b at *
          go_still_tail 5, (by kernel_rfl)
          change wpList _ _ _ _ _ w1b.drew
          generalize w1b.drew = w2 at *
          go_wp2_with fail
          refine HCALL.out.mono ?_; rintro e w3 ⟨rfl, vb3, h3⟩
          have y1 := h3.co
          have y1f := h3.fo
          have hrow3 := h3.row
          rw [HHL.out] at y1 hrow3
          have hcut := hrow3
          have hcut2 : OwnI w3 w0.heap.size (.slice (some ⟨g, 0, none⟩) o.length n) (zs o) := by
            have h4 : OwnI w3 w0.heap.size (.slice (some ⟨g, 0, none⟩) (zs (o ++ [i])).length n) (zs (o ++ [i])) := by rw [zs_length, HHL.out]; exact hrow3
            have := h4.cutI m (by rw [zs_length, HHL.out]; omega)
            rw [HTK.out] at this
            rw [HM.out]; exact this
          have PS2 := h3.order (o' := o) N hg0 hgo (grown_refl w3 (some g)) hcut2
          rw [HM.out] at PS2
          have HP2 := hid PS2
          clear PS2 hcut hcut2 hrow3 h3 x1 x2
          have hsub1 : ((m + 1 : Nat) : Int) - 1 = m := by omega
          go_wp2_with fail
          go_roundw
          case rel => exact ⟨i + 1, by omega, by go_num, vb3, by rw [HGK2.out, List.foldl_append, HBEST.out]; exact HP2.out⟩
          case measure => simp [intOf]; omega
        · rw [HUB.out, hc] at hhas
          have HHAS := hid hhas; clear hhas
          have HGK2 : Hid (growK n f o (i + 1) = growK n f o i) := hid (by rw [HGK.out, hc]; simp)
          clear hc HGK
          go_wp2_with fail
          refine HHAS.out.mono ?_; rintro e w' ⟨rfl, rfl⟩
          go_wp2_with fail
          go_roundw
          case rel => exact ⟨i + 1, by omega, by go_num, vb', by rw [HGK2.out]; exact h⟩
          case measure => simp [intOf]; omega
      · have e : n = i := by omega
        subst e
        have hlt' : ¬ (n : Int) < n := by omega
        go_wp2_with fail
        go_end0
        exact ⟨rfl, vb', h⟩
end Go.Proofs.YtponaoefpicfpaaGreatDoor
/- The program: all orders, and the least relation. -/
namespace Go.Proofs.YtponaoefpicfpaaGreatDoor
open Go.RowKit
--
theorem run_makeI0 (w : World) (n : Nat) (hn : n ≤ 2147483648) : ∃ w', (Instr.makeSlice 25 (.int .i64 0) (.int .i64 (n : Int))).run Tryz.prog w = .ok (.slice (some ⟨w.heap.size, 0, none⟩) 0 n) w' ∧
      OwnI w' w.heap.size (.slice (some ⟨w.heap.size, 0, none⟩) 0 n) [] ∧ Keeps w w' := by
  obtain ⟨i0, hi, hz0, hz1, hz2⟩ := info_parts infoI
  obtain ⟨w', hr, ho, hg⟩ := run_make_own (P := Tryz.prog) w w.heap.size 25 2 i0 _ 1 Tryz.underlying25 hi hz0 hz1 .i64 .i64 n (by rw [hz2]; omega) (by unfold maxLen; omega) (Nat.le_refl _)
  exact ⟨w', hr, ho, (Keeps.refl w).grown hg (by simp)⟩
set_option maxRecDepth 20000 in
set_option maxHeartbeats 4000000 in
theorem permutations_any (w0 w : World) (ga gb n : Nat) (va vb : Value) (a best : List Nat) (kp : Keeps w0 w) (ca : w.cell? ⟨ga, 0, none⟩ = some va) (cb : w.cell? ⟨gb, 0, none⟩ = some vb) (fb : w.frozen? ⟨gb, 0, none⟩ = false)
    (hb : OwnI w w0.heap.size vb (zs best)) (hoff : ∀ k, vb.ownBlock = some k → k ≠ ga ∧ k ≠ gb) (hab' : gb ≠ ga) (hgb : w0.heap.size ≤ gb)
    (hva : Ints w0 va (zs a)) (hn : n ≤ 4) (hal : a.length = n) (hab : Bnd n a) (hbl : best.length = n) (hbb : Bnd n best) :
    Calls Tryz.prog 179 #[.int .i64 n, .func (.func 180) #[] #[.pointer (some ⟨ga, 0, none⟩), .pointer (some ⟨gb, 0, none⟩)]] w fun e w' => e = .returned (.tuple #[]) ∧
      ∃ vb', w'.cell? ⟨gb, 0, none⟩ = some vb' ∧ OwnI w' w0.heap.size vb' (zs ((permP n).foldl (betP a) best)) ∧ Keeps w0 w' := by
  have hcf1 : ∀ args w, (callFunc 253 args).run Tryz.prog w = .ok (.enter 253 args) w := enters_perm1
  have sa := World.block_lt_of_cell? _ _ ca
  have sb := World.block_lt_of_cell? _ _ cb
  have s0 := kp.size
  have k1 := ((Keeps.refl w).alloc (.cells #[.int .i64 (n : Int)] 2)).alloc (.cells #[.func (.func 180) #[] #[.pointer (some ⟨ga, 0, none⟩), .pointer (some ⟨gb, 0, none⟩)]] 159)
  obtain ⟨wm, hmk, hown, km⟩ := run_makeI0 ((w.alloc (.cells #[.int .i64 (n : Int)] 2)).alloc (.cells #[.func (.func 180) #[] #[.pointer (some ⟨ga, 0, none⟩), .pointer (some ⟨gb, 0, none⟩)]] 159)) n (by omega)
  have hsz : ((w.alloc (.cells #[.int .i64 (n : Int)] 2)).alloc (.cells #[.func (.func 180) #[] #[.pointer (some ⟨ga, 0, none⟩), .pointer (some ⟨gb, 0, none⟩)]] 159)).heap.size = w.heap.size + 2 := by simp
  have cn : ((w.alloc (.cells #[.int .i64 (n : Int)] 2)).alloc (.cells #[.func (.func 180) #[] #[.pointer (some ⟨ga, 0, none⟩), .pointer (some ⟨gb, 0, none⟩)]] 159)).cell? ⟨w.heap.size, 0, none⟩ = some (.int .i64 n) := by simp
  have cf : ((w.alloc (.cells #[.int .i64 (n : Int)] 2)).alloc (.cells #[.func (.func 180) #[] #[.pointer (some ⟨ga, 0, none⟩), .pointer (some ⟨gb, 0, none⟩)]] 159)).cell? ⟨w.heap.size + 1, 0, none⟩ = some (.func (.func 180) #[] #[.pointer (some ⟨ga, 0, none⟩), .pointer (some ⟨gb, 0, none⟩)]) := by simp
  rw [hsz] at hmk hown
  have hst : ∀ (a : Addr) (f : Fn) (b c : Array Value) (m : Mode) (w' : World), (store a (.func f b c) m).run Tryz.prog w' = stored Tryz.prog w' a (.func f b c) m := fun a f b c m w' => run_store _ w' a _ m rfl
  have hszm := km.size
  rw [hsz] at hszm
  have KM := hid (k1.trans km)
  have CN := hid (km.cell cn)
  have CF := hid (km.cell cf)
  have HOWN := hid hown
  clear cn cf hown km k1
  have hcg : ∀ W : World, ((W.alloc (.cells #[.slice (some ⟨w.heap.size + 2, 0, none⟩) 0 n] 25)).alloc (.cells #[.nilFunc] 200)).cell? ⟨W.heap.size + 1, 0, none⟩ = some .nilFunc := fun W => by simp
  go_enter Tryz.func179, Tryz.ntmps179
  go_wp2_with fail
  have kA := ((Keeps.refl wm).alloc (.cells #[.slice (some ⟨w.heap.size + 2, 0, none⟩) 0 n] 25)).alloc (.cells #[.func (.func 253) #[] #[.pointer (some ⟨wm.heap.size, 0, none⟩), .pointer (some ⟨w.heap.size, 0, none⟩), .pointer (some ⟨w.heap.size + 1, 0, none⟩), .pointer (some ⟨wm.heap.size + 1, 0, none⟩)]] 200)
  have kB := KM.out.trans kA
  have hN : PNe (w.heap.size + 2) wm.heap.size w.heap.size (w.heap.size + 1) (wm.heap.size + 1) ga gb := by
    have hg : w.heap.size + 2 < wm.heap.size := (HOWN.out.len _ rfl).2
    constructor <;> omega
  have hP : PSt w0 ((wm.alloc (.cells #[.slice (some ⟨w.heap.size + 2, 0, none⟩) 0 n] 25)).alloc (.cells #[.func (.func 253) #[] #[.pointer (some ⟨wm.heap.size, 0, none⟩), .pointer (some ⟨w.heap.size, 0, none⟩), .pointer (some ⟨w.heap.size + 1, 0, none⟩), .pointer (some ⟨wm.heap.size + 1, 0, none⟩)]] 200))
      (w.heap.size + 2) wm.heap.size w.heap.size (w.heap.size + 1) (wm.heap.size + 1) ga gb n va [] best vb := by
    refine ⟨kp.trans kB, by simp, by simp, kA.cell CN.out, kA.cell CF.out, by simp, kB.cell ca, kB.cell cb, by rw [kB.both.2 gb 0 sb]; exact fb, ?_, hb.keeps kB, ?_⟩
    · exact (HOWN.out.keeps kA).mono (by omega)
    · intro k hk
      have h1 := hoff k hk
      have h2 := (hb.len k hk).2
      have hg : w.heap.size + 2 < wm.heap.size := (HOWN.out.len _ rfl).2
      unfold PBox
      omega
  have hg := grow_any w0 (w.heap.size + 2) wm.heap.size w.heap.size (w.heap.size + 1) (wm.heap.size + 1) ga gb n va a hN (by omega) (by omega) hgb hva hn hal hab n [] best _ vb hP (by simp) (by simp) (fun x hx => hx) hbl hbb
  refine Calls.mono hg ?_
  rintro e w5 ⟨rfl, vb5, h5⟩
  go_wp2_with fail
  go_end0
  exact ⟨rfl, vb5, h5.cb, h5.bst, h5.kp⟩
set_option maxRecDepth 20000 in
theorem leastRelation_any (a : List Nat) (va : Value) (w : World) (hva : Ints w va (zs a)) (hn : a.length ≤ 4) (hab : Bnd a.length a) :
    Calls Tryz.prog 91 #[va] w (RetI w (zs (leastP a))) := by
  have kA := (Keeps.refl w).alloc (.cells #[va] 25)
  have cA : (w.alloc (.cells #[va] 25)).cell? ⟨w.heap.size, 0, none⟩ = some va := by simp
  have HC := hid (cloneI_any (zs a) va _ (hva.keeps kA))
  have HS := hid (fun w2 (k : Keeps w w2) => sizeI_any (zs a) va w2 (hva.keeps k))
  rw [zs_length] at HS
  have HL := hid (leastP_fold a)
  have HVA := hid hva
  obtain ⟨p, cap, rfl, _⟩ := hva
  have HP := hid (fun w2 gb vb => permutations_any w w2 w.heap.size gb a.length (.slice p (zs a).length cap) vb a a)
  generalize hn2 : a.length = n at *
  have HN := hid hn2; clear hn2
  go_enter Tryz.func91, Tryz.ntmps91
  go_wp2_with fail
  refine HC.out.mono ?_; rintro e w2 ⟨v2, rfl, hv2, k2⟩
  have cA2 := k2.cell cA
  have kB := (kA.trans k2).alloc (.cells #[v2] 25)
  have hs2 := (kA.trans k2).size
  have hoff : ∀ k, v2.ownBlock = some k → k ≠ w.heap.size ∧ k ≠ w2.heap.size := fun k hk => by
    have := hv2.len k hk
    simp at this
    omega
  have hsz := k2.size
  have hne : w2.heap.size ≠ w.heap.size := by simp at hsz; omega
  have HP2 := hid (HP.out (w2.alloc (.cells #[v2] 25)) w2.heap.size v2 kB ((Keeps.refl w2).alloc _ |>.cell cA2) (by simp) (by simp) ((hv2.mono (by simp)).keeps ((Keeps.refl w2).alloc _)) hoff hne (by omega) HVA.out hn trivial hab trivial hab)
  have cA3 := ((Keeps.refl w2).alloc (.cells #[v2] 25)).cell cA2
  have HL2 : Hid (leastP a = (permP n).foldl (betP a) a) := hid (by rw [HL.out])
  obtain ⟨p2, c2, rfl, -, -, -⟩ := At.of_own hv2
  clear hne hoff hab hn hsz hs2 HP hv2 HC
  go_wp2_with fail
  refine (HS.out _ kB).mono ?_; rintro e w3 ⟨rfl, rfl⟩
  go_wp2_with fail
  refine HP2.out.mono ?_; rintro e w4 ⟨rfl, vb, cb4, hb4, k4⟩
  obtain ⟨p4, c4, rfl, -, -, -⟩ := At.of_own hb4
  go_wp2_with fail
  go_ret
  exact ⟨_, rfl, by rw [HL2.out]; exact hb4, k4⟩
end Go.Proofs.YtponaoefpicfpaaGreatDoor
/- Plain mathematics: of a sorted row of lists, runs of equal ones cut to one. -/
namespace Go.Proofs.YtponaoefpicfpaaGreatDoor
open Go.Sort
section
variable {α : Type} [Inhabited α]
def keepsK (κ : α → List Nat) (d : Array α) (j : Nat) : Bool := decide (j = 0 ∨ κ d[j]! ≠ κ d[j - 1]!)
def cutK (κ : α → List Nat) (d : Array α) (m : Nat) : List α := ((List.range m).filter (keepsK κ d)).map (d[·]!)
theorem keepsK_one (κ : α → List Nat) (d : Array α) : ∀ j, j < 1 → keepsK κ d j = true := by
  intro j hj
  have : j = 0 := by omega
  subst this
  simp [keepsK]
theorem keepsK_pos {κ : α → List Nat} {d : Array α} {m : Nat} (h : κ d[m]! ≠ κ d[m - 1]!) : keepsK κ d m = true := by simp [keepsK, h]
theorem keepsK_neg {κ : α → List Nat} {d : Array α} {m : Nat} (hm : 0 < m) (h : κ d[m]! = κ d[m - 1]!) : keepsK κ d m = false := by
  have : m ≠ 0 := by omega
  simp [keepsK, h, this]
theorem cutK_succ (κ : α → List Nat) (d : Array α) (m : Nat) : cutK κ d (m + 1) = cutK κ d m ++ (if keepsK κ d m then [d[m]!] else []) := by
  unfold cutK
  rw [List.range_succ, List.filter_append, List.map_append]
  congr 1
  by_cases h : keepsK κ d m <;> simp [h]
theorem cutK_all (κ : α → List Nat) (d : Array α) (m : Nat) (h : ∀ j, j < m → keepsK κ d j = true) : cutK κ d m = (List.range m).map (d[·]!) := by
  unfold cutK
  rw [List.filter_eq_self.2 (fun j hj => h j (List.mem_range.1 hj))]
theorem cutK_len (κ : α → List Nat) (d : Array α) (m : Nat) : (cutK κ d m).length ≤ m := by
  unfold cutK
  rw [List.length_map]
  exact Nat.le_trans (List.length_filter_le _ _) (by simp)
/-- m places have been looked at; what is kept of them, k elements, lies at the head; from place k on all is as it was -/
structure KInv (κ : α → List Nat) (d : Array α) (m k : Nat) (dk : Array α) : Prop where
  size : dk.size = d.size
  len : (cutK κ d m).length = k
  lt : k < m
  low : ∀ j, j < k → (cutK κ d m)[j]? = some dk[j]!
  high : ∀ j, k ≤ j → dk[j]! = d[j]!
theorem KInv.start {κ : α → List Nat} {d : Array α} {k0 : Nat} (hall : ∀ j, j < k0 → keepsK κ d j = true) (hdup : keepsK κ d k0 = false) : KInv κ d (k0 + 1) k0 d where
  size := rfl
  len := by rw [cutK_succ, hdup, cutK_all κ d k0 hall]; simp
  lt := Nat.lt_succ_self _
  low := fun j hj => by rw [cutK_succ, hdup, cutK_all κ d k0 hall]; simp [hj]
  high := fun _ _ => rfl
theorem KInv.keep {κ : α → List Nat} {d dk : Array α} {m k : Nat} (h : KInv κ d m k dk) (hm : m < d.size) (hk : keepsK κ d m = true) : KInv κ d (m + 1) (k + 1) (dk.setIfInBounds k d[m]!) where
  size := by simp [h.size]
  len := by rw [cutK_succ, hk]; simp [h.len]
  lt := by have := h.lt; omega
  low := fun j hj => by
    rw [cutK_succ, hk, if_pos rfl]
    by_cases e : j = k
    · subst e
      rw [List.getElem?_append_right (by rw [h.len]; exact Nat.le_refl _), h.len, Nat.sub_self, getElem!_set_same dk j _ (by have := h.lt; have := h.size; omega)]
      rfl
    · rw [List.getElem?_append_left (by rw [h.len]; omega), h.low j (by omega), getElem!_set_other dk k j _ e]
  high := fun j hj => by rw [getElem!_set_other dk k j _ (by omega), h.high j (by omega)]
theorem KInv.skip {κ : α → List Nat} {d dk : Array α} {m k : Nat} (h : KInv κ d m k dk) (hk : keepsK κ d m = false) : KInv κ d (m + 1) k dk where
  size := h.size
  len := by rw [cutK_succ, hk]; simpa using h.len
  lt := by have := h.lt; omega
  low := fun j hj => by rw [cutK_succ, hk]; simpa using h.low j hj
  high := h.high
/-- the keys that are kept are strictly ascending -/
theorem cutK_asc {κ : α → List Nat} {d : Array α} (hs : ∀ i j, i < j → j < d.size → lessL (κ d[j]!) (κ d[i]!) = false) : AscL ((cutK κ d d.size).map κ) := by
  unfold AscL cutK
  rw [List.map_map, List.pairwise_map]
  refine List.Pairwise.imp_of_mem ?_ (List.Pairwise.filter _ List.pairwise_lt_range)
  intro i j hi hj hlt
  have hj2 := List.mem_filter.1 hj
  have hjn := List.mem_range.1 hj2.1
  have hk : κ d[j]! ≠ κ d[j - 1]! := by
    have := hj2.2
    simp only [keepsK, decide_eq_true_eq] at this
    rcases this with h | h
    · omega
    · exact h
  have h1 := hs (j - 1) j (by omega) hjn
  have h2 : lessL (κ d[j - 1]!) (κ d[j]!) = true := by
    rcases lessL_tri (κ d[j - 1]!) (κ d[j]!) with h | h | h
    · exact h
    · exact absurd h.symm hk
    · rw [h1] at h; cases h
  show lessL (κ d[i]!) (κ d[j]!) = true
  by_cases e : i = j - 1
  · rw [e]; exact h2
  · have h3 := hs i (j - 1) (by omega) (by omega)
    rcases lessL_tri (κ d[i]!) (κ d[j - 1]!) with h | h | h
    · exact lessL_trans h h2
    · rw [h]; exact h2
    · rw [h3] at h; cases h
theorem cutK_mem {κ : α → List Nat} {d : Array α} {u : List Nat} : u ∈ (cutK κ d d.size).map κ ↔ ∃ j, j < d.size ∧ u = κ d[j]! := by
  constructor
  · intro h
    obtain ⟨x, hx, rfl⟩ := List.mem_map.1 h
    obtain ⟨j, hj, rfl⟩ := List.mem_map.1 hx
    exact ⟨j, List.mem_range.1 (List.mem_filter.1 hj).1, rfl⟩
  · rintro ⟨j, hj, rfl⟩
    have key : ∀ j, j < d.size → ∃ i, i < d.size ∧ keepsK κ d i = true ∧ κ d[i]! = κ d[j]! := by
      intro j
      induction j with
      | zero => intro h; exact ⟨0, h, by simp [keepsK], rfl⟩
      | succ j ih =>
        intro h
        by_cases e : κ d[j + 1]! = κ d[j]!
        · obtain ⟨i, h1, h2, h3⟩ := ih (by omega)
          exact ⟨i, h1, h2, by rw [h3, e]⟩
        · exact ⟨j + 1, h, keepsK_pos (by simpa using e), rfl⟩
    obtain ⟨i, h1, h2, h3⟩ := key j hj
    refine List.mem_map.2 ⟨d[i]!, List.mem_map.2 ⟨i, List.mem_filter.2 ⟨List.mem_range.2 h1, h2⟩, rfl⟩, h3⟩
theorem toList_getD (d : Array α) (i : Nat) (h : i < d.size) : d[i]! = d.toList[i]'(by simpa using h) := by
  rw [getElem!_pos d i h]; simp
/-- a sorted permutation, cut, has the keys of the first row, sorted and each once -/
theorem cut_sorted {κ : α → List Nat} {d d' : Array α} {L : List (List Nat)} (hL : d.toList.map κ = L) (hp : PermIn 0 d.size d d') (hs : SortedIn (fun x y => lessL (κ x) (κ y)) 0 d.size d') :
    (cutK κ d' d'.size).map κ = sortU L := by
  have hsz := hp.1
  refine sortU_of (cutK_asc fun i j h1 h2 => hs i j (Nat.zero_le _) h1 (by omega)) fun u => ?_
  rw [cutK_mem]
  have hperm : d'.toList.Perm d.toList := by
    have := hp.2.2
    rw [Array.extract_eq_self_of_le (Nat.le_refl _)] at this
    rw [show d'.extract 0 d.size = d' from Array.extract_eq_self_of_le (by omega)] at this
    exact this
  constructor
  · rintro ⟨j, hj, rfl⟩
    rw [← hL]
    refine List.mem_map.2 ⟨d'[j]!, hperm.mem_iff.1 ?_, rfl⟩
    rw [toList_getD d' j hj]; exact List.getElem_mem _
  · intro hu
    rw [← hL] at hu
    obtain ⟨x, hx, rfl⟩ := List.mem_map.1 hu
    obtain ⟨j, hj, rfl⟩ := List.getElem_of_mem (hperm.mem_iff.2 hx)
    exact ⟨j, by simpa using hj, by rw [toList_getD d' j (by simpa using hj)]⟩
end
end Go.Proofs.YtponaoefpicfpaaGreatDoor
