import Derived.Test.YtfmmajgkjkmghaaGreatDoorHJI
import Derived.Test.YtfmmajgkjkmghaaGreatDoorHCI
import Derived.Test.YtfmmajgkjkmghaaGreatDoorHQU
import Derived.Test.YtfmmajgkjkmghaaGreatDoorHW4
import Derived.Test.YtfmmajgkjkmghaaGreatDoorHAL
import Derived.Shelf.GgSortFunc.SW
import Derived.Sort.OwnSorted
import Derived.Ground.SlsfProg
import Derived.Shelf.SlSortCmp.WholeK
import Derived.Shelf.Small.Bits
import Derived.Shelf.Strconv.Itoa0
import Derived.Shelf.Bits.Mul64
import Derived.Ground.SlgnProg
import Derived.Shelf.SlicesE.Clone
import Derived.Test.YtfmmajgkjkmghaaGreatDoorProg
/- The program: the least relation, by all orders of the numbers. -/
namespace Go.Proofs.YtfmmajgkjkmghaaGreatDoor
open Go.RowKit
structure PNe (g go gn gf gg ga gb : Nat) : Prop where
 h1 : go ≠ gn
 h2 : go ≠ gf
 h3 : go ≠ gg
 h4 : go ≠ ga
 h5 : go ≠ gb
 h6 : go ≠ g
 h7 : gb ≠ gn
 h8 : gb ≠ gf
 h9 : gb ≠ gg
 h10 : gb ≠ ga
 h11 : gb ≠ g
 h12 : g ≠ gn
 h13 : g ≠ gf
 h14 : g ≠ gg
 h15 : g ≠ ga
def PBox (g go gn gf gg ga gb k : Nat) : Prop := k = g ∨ k = go ∨ k = gn ∨ k = gf ∨ k = gg ∨ k = ga ∨ k = gb
structure PSt (w0 w : World) (g go gn gf gg ga gb n : Nat) (va : Value) (o best : List Nat) (vb : Value) : Prop where
 kp : Keeps w0 w
 co : w.cell? ⟨go, 0, none⟩ = some (.slice (some ⟨g, 0, none⟩) o.length n)
 fo : w.frozen? ⟨go, 0, none⟩ = false
 cn : w.cell? ⟨gn, 0, none⟩ = some (.int .i64 n)
 cf : w.cell? ⟨gf, 0, none⟩ = some (.func (.func 78) #[] #[.pointer (some ⟨ga, 0, none⟩), .pointer (some ⟨gb, 0, none⟩)])
 cg : w.cell? ⟨gg, 0, none⟩ = some (.func (.func 138) #[] #[.pointer (some ⟨go, 0, none⟩), .pointer (some ⟨gn, 0, none⟩), .pointer (some ⟨gf, 0, none⟩), .pointer (some ⟨gg, 0, none⟩)])
 ca : w.cell? ⟨ga, 0, none⟩ = some va
 cb : w.cell? ⟨gb, 0, none⟩ = some vb
 fb : w.frozen? ⟨gb, 0, none⟩ = false
 row : OwnI w w0.heap.size (.slice (some ⟨g, 0, none⟩) o.length n) (zs o)
 bst : OwnI w w0.heap.size vb (zs best)
 off : ∀ k, vb.ownBlock = some k → ¬ PBox g go gn gf gg ga gb k
theorem PSt.keeps {w0 w w' : World} {g go gn gf gg ga gb n : Nat} {va : Value} {o best : List Nat} {vb : Value} (h : PSt w0 w g go gn gf gg ga gb n va o best vb) (k : Keeps w w') : PSt w0 w' g go gn gf gg ga gb n va o best vb where
 kp := h.kp.trans k
 co := k.cell h.co
 fo := by rw [(k.both).2 go 0 (World.block_lt_of_cell? _ _ h.co)]; exact h.fo
 cn := k.cell h.cn
 cf := k.cell h.cf
 cg := k.cell h.cg
 ca := k.cell h.ca
 cb := k.cell h.cb
 fb := by rw [(k.both).2 gb 0 (World.block_lt_of_cell? _ _ h.cb)]; exact h.fb
 row := h.row.keeps k
 bst := h.bst.keeps k
 off := h.off
theorem PSt.size {w0 w : World} {g go gn gf gg ga gb n : Nat} {va : Value} {o best : List Nat} {vb : Value} (h : PSt w0 w g go gn gf gg ga gb n va o best vb) : g < w.heap.size ∧ go < w.heap.size ∧ gn < w.heap.size ∧ gf < w.heap.size ∧ gg < w.heap.size ∧ ga < w.heap.size ∧ gb < w.heap.size :=
 ⟨(h.row.len _ rfl).2, World.block_lt_of_cell? _ _ h.co, World.block_lt_of_cell? _ _ h.cn, World.block_lt_of_cell? _ _ h.cf, World.block_lt_of_cell? _ _ h.cg, World.block_lt_of_cell? _ _ h.ca, World.block_lt_of_cell? _ _ h.cb⟩
theorem PSt.fresh {w0 w : World} {g go gn gf gg ga gb n : Nat} {va : Value} {o best : List Nat} {vb : Value} (h : PSt w0 w g go gn gf gg ga gb n va o best vb) {k : Nat} (hk : w.heap.size ≤ k) : ¬ PBox g go gn gf gg ga gb k := by
 have := h.size
 unfold PBox
 omega
theorem cell_grown {w w' : World} {b g : Nat} {v : Value} (hc : w.cell? ⟨b, 0, none⟩ = some v) (k : w.grownBy w' (some g)) (hb : b ≠ g) : w'.cell? ⟨b, 0, none⟩ = some v ∧ w'.frozen? ⟨b, 0, none⟩ = w.frozen? ⟨b, 0, none⟩ := by
 have h := (Touch.grown k).cell (World.block_lt_of_cell? _ _ hc) (fun e => hb (by simpa using e))
 exact ⟨by rw [h.1]; exact hc, h.2 0⟩
theorem own_grown {w w' : World} {B g : Nat} {v : Value} {x : List Int} (h : OwnI w B v x) (k : w.grownBy w' (some g)) (hb : ∀ i, v.ownBlock = some i → i ≠ g) : OwnI w' B v x :=
 h.touch (Touch.grown k) (fun i hi e => hb i hi (by simpa using e))
theorem PSt.order {w0 w w1 : World} {g go gn gf gg ga gb n : Nat} {va : Value} {o o' best : List Nat} {vb : Value} (h : PSt w0 w g go gn gf gg ga gb n va o best vb) (N : PNe g go gn gf gg ga gb) (hg0 : w0.heap.size ≤ g) (hgo : w0.heap.size ≤ go)
  (k : w.grownBy w1 (some g)) (hrow : OwnI w1 w0.heap.size (.slice (some ⟨g, 0, none⟩) o'.length n) (zs o')) :
  PSt w0 (w1.setCell ⟨go, 0, none⟩ (.slice (some ⟨g, 0, none⟩) o'.length n)) g go gn gf gg ga gb n va o' best vb := by
 have k2 := grown_set (w := w1) go 0 (.slice (some ⟨g, 0, none⟩) o'.length n)
 have c1 := cell_grown h.co k N.h6
 have cn1 := cell_grown h.cn k (Ne.symm N.h12)
 have cf1 := cell_grown h.cf k (Ne.symm N.h13)
 have cg1 := cell_grown h.cg k (Ne.symm N.h14)
 have ca1 := cell_grown h.ca k (Ne.symm N.h15)
 have cb1 := cell_grown h.cb k N.h11
 have b1 := own_grown h.bst k (fun i hi e => h.off i hi (.inl e))
 refine ⟨(h.kp.grown k (fun j e => by cases e; exact hg0)).setCell hgo _, ?_, ?_, (cell_grown cn1.1 k2 (Ne.symm N.h1)).1, (cell_grown cf1.1 k2 (Ne.symm N.h2)).1, (cell_grown cg1.1 k2 (Ne.symm N.h3)).1, (cell_grown ca1.1 k2 (Ne.symm N.h4)).1, (cell_grown cb1.1 k2 (Ne.symm N.h5)).1, ?_, ?_, ?_, h.off⟩
 ·exact World.cell?_setCell_same _ _ _ c1.1
 ·rw [World.frozen?_setCell]; rw [c1.2]; exact h.fo
 ·rw [World.frozen?_setCell]; rw [cb1.2]; exact h.fb
 ·exact own_grown hrow k2 (fun i hi e => N.h6 (by have : g = i := by simpa [Value.ownBlock] using hi
                                                  omega))
 ·exact own_grown b1 k2 (fun i hi e => h.off i hi (.inr (.inl e)))
theorem PSt.better {w0 w : World} {g go gn gf gg ga gb n : Nat} {va : Value} {o best b' : List Nat} {vb v' : Value} (h : PSt w0 w g go gn gf gg ga gb n va o best vb) (N : PNe g go gn gf gg ga gb) (hgb : w0.heap.size ≤ gb)
  (hb : OwnI w w0.heap.size v' (zs b')) (hoff : ∀ k, v'.ownBlock = some k → ¬ PBox g go gn gf gg ga gb k) : PSt w0 (w.setCell ⟨gb, 0, none⟩ v') g go gn gf gg ga gb n va o b' v' := by
 have k2 := grown_set (w := w) gb 0 v'
 refine ⟨h.kp.setCell hgb _, (cell_grown h.co k2 N.h5).1, ?_, (cell_grown h.cn k2 (Ne.symm N.h7)).1, (cell_grown h.cf k2 (Ne.symm N.h8)).1, (cell_grown h.cg k2 (Ne.symm N.h9)).1, (cell_grown h.ca k2 (Ne.symm N.h10)).1, World.cell?_setCell_same _ _ _ h.cb, ?_, ?_, ?_, hoff⟩
 ·rw [World.frozen?_setCell]; exact h.fo
 ·rw [World.frozen?_setCell]; exact h.fb
 ·exact own_grown h.row k2 (fun i hi e => N.h11 (by have : g = i := by simpa [Value.ownBlock] using hi
                                                    omega))
 ·exact own_grown hb k2 (fun i hi e => hoff i hi (by unfold PBox; omega))
def PRet (w0 : World) (g go gn gf gg ga gb n : Nat) (va : Value) (o best : List Nat) (e : Ending) (w' : World) : Prop := e = .returned (.tuple #[]) ∧ ∃ vb, PSt w0 w' g go gn gf gg ga gb n va o best vb
set_option maxRecDepth 20000 in
set_option maxHeartbeats 1000000 in
theorem least_1_any (w0 w : World) (g go gn gf gg ga gb n : Nat) (va : Value) (a o best : List Nat) (vb : Value) (h : PSt w0 w g go gn gf gg ga gb n va o best vb) (N : PNe g go gn gf gg ga gb) (hgb : w0.heap.size ≤ gb)
  (hva : Ints w0 va (zs a)) (hn : n ≤ 5) (hal : a.length = n) (hab : Bnd n a) (ho : o ∈ permP n) (hbl : best.length = n) :
  Calls Tryz.prog 78 #[.slice (some ⟨g, 0, none⟩) o.length n, .pointer (some ⟨ga, 0, none⟩), .pointer (some ⟨gb, 0, none⟩)] w (PRet w0 g go gn gf gg ga gb n va o (betP a best o)) := by
 obtain ⟨hol, hox⟩ := perm_len hn ho
 have hre := ren_eq hn hab ho
 have HR := hid (reordered_any a o va _ w (hva.keeps h.kp) (h.row.ints (by rw [zs_length]; omega)) (by omega) (by omega) (by rw [hol]; exact hox) (by rw [hol]; exact hab))
 rw [hre] at HR
 have hrl := renP_len a o
 have HCM := hid (fun (v : Value) (w2 : World) (k : Keeps w w2) (hv : OwnI w2 w.heap.size v (zs (renP a o))) => compareI_any (renP a o) best v vb w2 (hv.ints (by rw [zs_length]; omega)) ((h.bst.keeps k).ints (by rw [zs_length]; omega)))
 have HB : Hid (betP a best o = if lessL (renP a o) best then renP a o else best) := hid rfl
 have HLT := hid (cmpL_neg (renP a o) best)
 have hca := h.ca
 have hcb := h.cb
 have H := hid h
 obtain ⟨pa, na, qa, rfl⟩ : ∃ p n c, va = .slice p n c := by
  obtain ⟨p, c, e, _⟩ := hva; exact ⟨p, _, c, e⟩
 clear hre hrl hab hva
 obtain ⟨pb, qb, rfl, _⟩ := h.bst.ints (by rw [zs_length]; omega)
 clear h
 generalize hR : renP a o = R at *
 clear hR hol hox hbl hal ho
 go_enter Tryz.func78, Tryz.ntmps78
 go_wp2_with fail
 refine HR.out.mono ?_; rintro e w2 ⟨v2, rfl, hv2, k2⟩
 replace hcb := k2.cell hcb
 have HC2 := hid (HCM.out v2 w2 k2 hv2)
 have HST := hid (H.out.keeps k2)
 have HNEW := hid (fun k (e : v2.ownBlock = some k) => H.out.fresh (hv2.len k e).1)
 have HV2 := hid (hv2.mono (H.out.kp.size))
 obtain ⟨p2, c2, rfl, -, -, -⟩ := At.of_own hv2
 clear hca hv2
 cases hl : lessL R best
 ·have hlt : ¬ (cmpL R best < 0) := by
   have := HLT.out
   rw [hl] at this
   simpa using this
  have HBB : Hid (betP a best o = best) := hid (by rw [HB.out, hl]; rfl)
  clear hl
  generalize cmpL R best = c at *
  go_wp2_with fail
  refine HC2.out.mono ?_; rintro e w3 ⟨rfl, rfl⟩
  go_wp2_with fail
  go_end0
  exact ⟨rfl, _, by rw [HBB.out]; exact HST.out⟩
 ·have hlt : cmpL R best < 0 := by
   have := HLT.out
   rw [hl] at this
   simpa using this
  have HBB : Hid (betP a best o = R) := hid (by rw [HB.out, hl]; rfl)
  clear hl
  have hfb := HST.out.fb
  generalize cmpL R best = c at *
  go_wp2_with fail
  refine HC2.out.mono ?_; rintro e w3 ⟨rfl, rfl⟩
  go_wp2_with fail
  go_end0
  exact ⟨rfl, _, by rw [HBB.out]; exact HST.out.better N hgb HV2.out HNEW.out⟩
theorem enters_perm1 : Enters 138 := fun _ _ => by kernel_rfl
theorem enters_least1 : Enters 78 := fun _ _ => by kernel_rfl
set_option maxRecDepth 20000 in
set_option maxHeartbeats 4000000 in
theorem grow_any (w0 : World) (g go gn gf gg ga gb n : Nat) (va : Value) (a : List Nat) (N : PNe g go gn gf gg ga gb) (hg0 : w0.heap.size ≤ g) (hgo : w0.heap.size ≤ go) (hgb : w0.heap.size ≤ gb)
  (hva : Ints w0 va (zs a)) (hn : n ≤ 5) (hal : a.length = n) (hab : Bnd n a) :
  ∀ f o best w vb, PSt w0 w g go gn gf gg ga gb n va o best vb → o.length + f = n → (∀ x ∈ o, x < n) → (∀ x ∈ growP n f o, x ∈ permP n) → best.length = n → Bnd n best →
   Calls Tryz.prog 138 #[.int .i64 (usedB o : Nat), .pointer (some ⟨go, 0, none⟩), .pointer (some ⟨gn, 0, none⟩), .pointer (some ⟨gf, 0, none⟩), .pointer (some ⟨gg, 0, none⟩)] w (PRet w0 g go gn gf gg ga gb n va o ((growP n f o).foldl (betP a) best)) := by
 intro f
 have hcf1 : ∀ args w, (callFunc 138 args).run Tryz.prog w = .ok (.enter 138 args) w := enters_perm1
 have hcf2 : ∀ args w, (callFunc 78 args).run Tryz.prog w = .ok (.enter 78 args) w := enters_least1
 have HVA := hid hva; clear hva
 have HAL := hid hal; clear hal
 have HAB := hid hab; clear hab
 induction f with
 | zero =>
  intro o best w vb h hof hox hsub hbl hbb
  have hol : o.length = n := by omega
  have hperm : o ∈ permP n := hsub o (by simp [growP])
  have HS := hid (fun w2 (k : Keeps w w2) => sizeI_any (zs o) _ w2 ((h.row.keeps k).ints (by rw [zs_length]; omega)))
  rw [zs_length] at HS
  have HL := hid (fun w2 (k : Keeps w w2) => least_1_any w0 w2 g go gn gf gg ga gb n va a o best vb (h.keeps k) N hgb HVA.out hn HAL.out HAB.out hperm hbl)
  have HG : Hid ((growP n 0 o).foldl (betP a) best = betP a best o) := hid rfl
  have heq : ((o.length : Int) == (n : Int)) = true := by rw [hol]; simp
  obtain ⟨_, c1, _, c2, c3, _, _, _, _, _, _, _⟩ := h
  have kd := fun q => (Keeps.refl w).drewN q
  rw [HG.out]
  clear hof hox hsub hbl hbb hol hperm HG
  generalize betP a best o = R at *
  generalize o.length = m at *
  go_enter Tryz.func138, Tryz.ntmps138
  go_wp2_with fail
  go_quiet (first | (go_at_call 43; refine quietS (HS.out _ (kd _))))
  go_wp2_with fail
  refine (HL.out _ (kd _)).mono ?_; rintro e w2 ⟨rfl, vb2, h2⟩
  go_wp2_with fail
  go_end0
  exact ⟨rfl, vb2, h2⟩
 | succ f ih =>
  intro o best w vb h hof hox hsub hbl hbb
  have IH := hid ih; clear ih
  have hlt0 : o.length < n := by omega
  have HS := hid (fun w2 (k : Keeps w w2) => sizeI_any (zs o) _ w2 ((h.row.keeps k).ints (by rw [zs_length]; omega)))
  rw [zs_length] at HS
  have heq : ((o.length : Int) == (n : Int)) = false := by simp; omega
  have HG : Hid ((growP n (f + 1) o) = growK n f o n) := hid (growK_all n f o).symm
  have HOF := hid hof; clear hof
  have HOX := hid hox; clear hox
  have HSUB := hid hsub; clear hsub
  have HBL := hid hbl; clear hbl
  have HBB := hid hbb; clear hbb
  have hu8 : usedB o < 256 := Nat.lt_of_lt_of_le (usedB_lt HOX.out) (two8 (by omega))
  have HH := hid (fun i w2 (hi : i ≤ 8) => hasB_any (usedB o) i w2 hu8 hi)
  have HUB := hid (usedB_bit o)
  have HST := hid h
  obtain ⟨_, c1, _, c2, c3, _, _, _, _, _, _, _⟩ := h
  have kd := fun q => (Keeps.refl w).drewN q
  have HFB : Hid (∀ k, k ≤ n → ((growK n f o k).foldl (betP a) best).length = n ∧ Bnd n ((growK n f o k).foldl (betP a) best)) := hid fun k hk =>
   fold_bet _ best (fun x hx => (perm_len hn (HSUB.out x (by rw [HG.out]; exact growK_sub hk hx))).1) HBL.out HBB.out
  rw [HG.out]
  have HO2 := hid hlt0; clear hlt0
  generalize hm : o.length = m at *
  have HM := hid hm; clear hm
  go_enter Tryz.func138, Tryz.ntmps138
  go_wp2_with fail
  go_quiet (first | (go_at_call 43; refine quietS (HS.out _ (kd _))))
  go_wp2_with fail
  clear c1 c2 c3
  go_loopw [15] (fun i' wr => ∃ i : Nat, i ≤ n ∧ i' = .int .i64 i ∧ ∃ vb', PSt w0 wr g go gn gf gg ga gb n va o ((growK n f o i).foldl (betP a) best) vb') (fun i' _ => n - (intOf i').toNat)
  case atStart => exact ⟨0, by omega, rfl, vb, by simpa [growK] using HST.out.keeps (kd _)⟩
  case round =>
   obtain ⟨i, hi, rfl, vb', h⟩ := hrel
   by_cases hlt : i < n
   ·have hlt' : (i : Int) < n := by omega
    have HGK : Hid (growK n f o (i + 1) = growK n f o i ++ (if o.contains i then [] else growP n f (o ++ [i]))) := hid rfl
    have hhas := HH.out i wr (by omega)
    cases hc : o.contains i
    ·rw [HUB.out, hc] at hhas
     have HHAS := hid hhas; clear hhas
     have HGK2 : Hid (growK n f o (i + 1) = growK n f o i ++ growP n f (o ++ [i])) := hid (by rw [HGK.out, hc]; rfl)
     have HSUB2 : Hid (∀ x ∈ growP n f (o ++ [i]), x ∈ permP n) := hid fun x hx => HSUB.out x (growK_step hlt hc hx)
     clear hc HGK
     have hb2 := HFB.out i hi
     have HB2 := hid hb2; clear hb2
     generalize hbest : (growK n f o i).foldl (betP a) best = bst at *
     have HBEST := hid hbest; clear hbest
     have hrow := h.row
     rw [HM.out] at hrow
     have HR := hid h
     obtain ⟨_, d1, d1f, d2, d3, d4, _, _, _, _, _, _⟩ := h
     rw [HM.out] at d1
     have hor := orN (usedB o) (2 ^ i) (by omega) (by have : 2 ^ i < 2 ^ 5 := Nat.pow_lt_pow_right (by omega) (by omega); omega)
     have e1 := (pow63 i (by omega)).1
     have e2 : ((2 ^ i : Nat) : Int) = 2 ^ i := by push_cast; rfl
     rw [e2, ← usedB_snoc] at hor
     obtain ⟨i0, hi0, hz0, hz1, hz2⟩ := info_parts infoI
     have hal1 := (Keeps.refl wr).alloc (.cells #[.int .i64 (i : Int)] 2)
     have hrw : (wr.alloc (.cells #[.int .i64 (i : Int)] 2)).ownsRow w0.heap.size 2 1 (.slice (some ⟨g, 0, none⟩) m n) m (intCells (zs o)) := by
      have := own_keeps hrow hal1
      rwa [zs_length, HM.out] at this
     have hlen : (o ++ [i]).length = m + 1 := by rw [List.length_append, HM.out]; rfl
     have hzs : intCells (zs o) ++ [.int .i64 (i : Int)] = intCells (zs (o ++ [i])) := by rw [zs_snoc]; simp [intCells]
     have htk : (zs (o ++ [i])).take m = zs o := by rw [zs_snoc]; exact List.take_left' (by rw [zs_length, HM.out])
     have HPS := hid (fun w1 (hg1 : (wr.alloc (.cells #[.int .i64 (i : Int)] 2)).grownBy w1 (some g)) (hr1 : w1.ownsRow w0.heap.size 2 1 (.slice (some ⟨g, 0, none⟩) (m + 1) n) (m + 1) (intCells (zs o) ++ [.int .i64 (i : Int)])) =>
      (HR.out.keeps hal1).order (o' := o ++ [i]) N hg0 hgo hg1 (by rw [hlen]; unfold OwnI; rw [zs_length, hlen, ← hzs]; exact hr1))
     have HD1 := hid (fun w1 (hg1 : (wr.alloc (.cells #[.int .i64 (i : Int)] 2)).grownBy w1 (some g)) => cell_grown (hal1.cell d1) hg1 N.h6)
     have hfz : (wr.alloc (.cells #[.int .i64 (i : Int)] 2)).frozen? ⟨go, 0, none⟩ = false := by rw [hal1.both.2 go 0 (World.block_lt_of_cell? _ _ d1)]; exact d1f
     have HFZ := hid hfz; clear hfz
     rw [hlen] at HPS
     have hiu : ∀ x ∈ o ++ [i], x < n := fun x hx => by
      rcases List.mem_append.1 hx with hx | hx
      ·exact HOX.out x hx
      ·simp at hx; omega
     have HIH := hid (fun wz vz (hz : PSt w0 wz g go gn gf gg ga gb n va (o ++ [i]) bst vz) => IH.out (o ++ [i]) bst wz vz hz (by have := HOF.out; rw [hlen]; omega) hiu HSUB2.out HB2.out.1 HB2.out.2)
     have HHL := hid hlen; clear hlen hiu
     have HTK := hid htk; clear htk
     have hm1 : m + 1 ≤ n := HO2.out
     clear hzs
     generalize usedB o = ub at *
     generalize usedB (o ++ [i]) = ub2 at *
     go_wp2_with (first | (go_at_call 106; refine HHAS.out.mono ?_; rintro e w' ⟨rfl, rfl⟩) | (at_builtin; refine wpList_append_fits _ rfl _ _ _ rfl w0.heap.size _ i0 1 Tryz.underlying24 hi0 hz1 g _ n (intCells (zs o)) rfl hrw ⟨_, 0, none⟩ 1 1 [.int .i64 (i : Int)] rfl (by simp) (by intro j u hj; cases j with | zero => (simp at hj; subst hj; simp [Addr.add]) | succ j => simp at hj) (by simp [Value.oneCell']) hm1 ?_))
     intro w1 hown1 hg1
     have PS1 := HPS.out w1 hg1 hown1
     obtain ⟨x1, x2⟩ := HD1.out w1 hg1
     rw [HFZ.out] at x2
     have kd := (Keeps.refl (w1.setCell ⟨go, 0, none⟩ (.slice (some ⟨g, 0, none⟩) (m + 1) n))).drew
     have z3 := PS1.cg
     have HCALL := hid (HIH.out _ _ (PS1.keeps kd))
     clear PS1 hown1 hrw hal1 hg1 d1 d1f d2 d3 d4 hrow kd
     go_wp2_with fail
     generalize w1.setCell ⟨go, 0, none⟩ (.slice (some ⟨g, 0, none⟩) (m + 1) n) = w1b at *
     go_still_tail 5, (by kernel_rfl)
     change wpList _ _ _ _ _ w1b.drew
     generalize w1b.drew = w2 at *
     go_wp2_with fail
     refine HCALL.out.mono ?_; rintro e w3 ⟨rfl, vb3, h3⟩
     have y1 := h3.co
     have y1f := h3.fo
     have hrow3 := h3.row
     rw [HHL.out] at y1 hrow3
     have hcut := hrow3
     have hcut2 : OwnI w3 w0.heap.size (.slice (some ⟨g, 0, none⟩) o.length n) (zs o) := by
      have h4 : OwnI w3 w0.heap.size (.slice (some ⟨g, 0, none⟩) (zs (o ++ [i])).length n) (zs (o ++ [i])) := by rw [zs_length, HHL.out]; exact hrow3
      have := h4.cutI m (by rw [zs_length, HHL.out]; omega)
      rw [HTK.out] at this
      rw [HM.out]; exact this
     have PS2 := h3.order (o' := o) N hg0 hgo (grown_refl w3 (some g)) hcut2
     rw [HM.out] at PS2
     have HP2 := hid PS2
     clear PS2 hcut hcut2 hrow3 h3 x1 x2
     have hsub1 : ((m + 1 : Nat) : Int) - 1 = m := by omega
     go_wp2_with fail
     go_roundw
     case rel => exact ⟨i + 1, by omega, by go_num, vb3, by rw [HGK2.out, List.foldl_append, HBEST.out]; exact HP2.out⟩
     case measure => simp [intOf]; omega
    ·rw [HUB.out, hc] at hhas
     have HHAS := hid hhas; clear hhas
     have HGK2 : Hid (growK n f o (i + 1) = growK n f o i) := hid (by rw [HGK.out, hc]; simp)
     clear hc HGK
     go_wp2_with fail
     refine HHAS.out.mono ?_; rintro e w' ⟨rfl, rfl⟩
     go_wp2_with fail
     go_roundw
     case rel => exact ⟨i + 1, by omega, by go_num, vb', by rw [HGK2.out]; exact h⟩
     case measure => simp [intOf]; omega
   ·have e : n = i := by omega
    subst e
    have hlt' : ¬ (n : Int) < n := by omega
    go_wp2_with fail
    go_end0
    exact ⟨rfl, vb', h⟩
end Go.Proofs.YtfmmajgkjkmghaaGreatDoor
namespace Go.Proofs.YtfmmajgkjkmghaaGreatDoor
open Go.RowKit
structure FSt (w0 w : World) (bp s n : Nat) (pv : Value) (st : List Nat) (vS : Value) : Prop where
 kp : Keeps w0 w
 c0 : w.cell? ⟨bp, 0, none⟩ = some (.int .i64 n)
 c1 : w.cell? ⟨bp, 1, none⟩ = some pv
 cs : w.cell? ⟨s, 0, none⟩ = some vS
 fs : w.frozen? ⟨s, 0, none⟩ = false
 own : OwnI w (s + 1) vS (zs st)
theorem FSt.keeps {w0 w w' : World} {bp s n : Nat} {pv : Value} {st : List Nat} {vS : Value} (h : FSt w0 w bp s n pv st vS) (k : Keeps w w') : FSt w0 w' bp s n pv st vS :=
 ⟨h.kp.trans k, k.cell h.c0, k.cell h.c1, k.cell h.cs, by rw [(k.both).2 s 0 (World.block_lt_of_cell? _ _ h.cs)]; exact h.fs, h.own.keeps k⟩
theorem cell_row {w w' : World} {b o : Nat} {v : Value} {row : Option Nat} (hc : w.cell? ⟨b, o, none⟩ = some v) (k : w.grownBy w' row) (hb : ∀ r, row = some r → b ≠ r) : w'.cell? ⟨b, o, none⟩ = some v ∧ w'.frozen? ⟨b, o, none⟩ = w.frozen? ⟨b, o, none⟩ := by
 have h := (Touch.grown k).cell (b := b) (World.block_lt_of_cell? _ _ hc) (fun e => by exact absurd rfl (hb b (by simpa using e.symm)))
 exact ⟨by rw [h.1]; exact hc, h.2 o⟩
theorem FSt.push {w0 w w1 : World} {bp s n : Nat} {pv : Value} {st st2 : List Nat} {vS v1 : Value} (h : FSt w0 w bp s n pv st vS) (h0 : w0.heap.size ≤ bp) (hs : bp < s) {row : Option Nat} (hg : w.grownBy w1 row) (hr : ∀ k, row = some k → s + 1 ≤ k)
  (hv : OwnI w1 (s + 1) v1 (zs st2)) : FSt w0 (w1.setCell ⟨s, 0, none⟩ v1) bp s n pv st2 v1 := by
 have k2 := grown_set (w := w1) s 0 v1
 have a0 := cell_row h.c0 hg (fun r e => by have := hr r e; omega)
 have a1 := cell_row h.c1 hg (fun r e => by have := hr r e; omega)
 have aS := cell_row h.cs hg (fun r e => by have := hr r e; omega)
 refine ⟨(h.kp.grown hg (fun k e => by have := hr k e; omega)).setCell (by simp; omega) _, ?_, ?_, World.cell?_setCell_same _ _ _ aS.1, ?_, ?_⟩
 ·exact (cell_row a0.1 k2 (fun r e => by cases e; omega)).1
 ·exact (cell_row a1.1 k2 (fun r e => by cases e; omega)).1
 ·rw [World.frozen?_setCell, aS.2]; exact h.fs
 ·exact hv.setBelow (by omega) _
theorem zs_take (a : List Nat) (k : Nat) : (zs a).take k = zs (a.take k) := by simp [zs, List.map_take]
theorem enters_forced1 : Enters 169 := fun _ _ => by kernel_rfl
set_option maxRecDepth 20000 in
set_option maxHeartbeats 1000000 in
theorem forced_1_any (w0 w : World) (bp s n : Nat) (pv : Value) (st : List Nat) (x : Nat) (vS : Value) (h : FSt w0 w bp s n pv (st ++ [x]) vS) (h0 : w0.heap.size ≤ bp) (hs : bp < s) (hl : st.length ≤ 1000000) :
  Calls Tryz.prog 169 #[.pointer (some ⟨s, 0, none⟩)] w fun e w' => e = .returned (.int .i64 x) ∧ ∃ v', FSt w0 w' bp s n pv st v' := by
 have hsl := zs_length (st ++ [x])
 have hlen : (st ++ [x]).length = st.length + 1 := by simp
 obtain ⟨g, cap, rfl, hb, hg, hlc, hmx⟩ := h.own.shape (by rw [hsl, hlen]; omega)
 have hown := h.own
 rw [hsl, hlen] at hown hlc
 obtain hcell := hown.zcell (l := st ++ [x]) st.length (by rw [hlen]; omega)
 have hx : (st ++ [x]).getD st.length 0 = x := by simp [List.getD_eq_getElem?_getD]
 rw [hx] at hcell
 have hcut : OwnI w (s + 1) (.slice (some ⟨g, 0, none⟩) st.length cap) (zs st) := by
  have h1 : OwnI w (s + 1) (.slice (some ⟨g, 0, none⟩) (zs (st ++ [x])).length cap) (zs (st ++ [x])) := by rw [hsl, hlen]; exact hown
  have h2 := h1.cutI st.length (by rw [hsl, hlen]; omega)
  rw [zs_take, List.take_left' rfl] at h2
  exact h2
 have hres := h.push (st2 := st) h0 hs (grown_refl w none) (fun k e => by cases e) hcut
 have HRES := hid hres
 have hcs := h.cs
 have hfs := h.fs
 rw [hsl, hlen] at hcs
 have hm1 : ((st.length + 1 : Nat) : Int) - 1 = st.length := by omega
 clear h hown hcut hres hsl hlen hx
 generalize st.length = m at *
 unfold maxLen at hmx
 go_enter Tryz.func169, Tryz.ntmps169
 go_wp2_with fail
 go_ret
 exact ⟨rfl, _, HRES.out⟩
end Go.Proofs.YtfmmajgkjkmghaaGreatDoor
namespace Go.Proofs.YtfmmajgkjkmghaaGreatDoor
open Go.Sort
section
variable {α : Type} [Inhabited α]
def keepsK (κ : α → List Nat) (d : Array α) (j : Nat) : Bool := decide (j = 0 ∨ κ d[j]! ≠ κ d[j - 1]!)
def cutK (κ : α → List Nat) (d : Array α) (m : Nat) : List α := ((List.range m).filter (keepsK κ d)).map (d[·]!)
theorem keepsK_one (κ : α → List Nat) (d : Array α) : ∀ j, j < 1 → keepsK κ d j = true := by
 intro j hj
 have : j = 0 := by omega
 subst this
 simp [keepsK]
theorem keepsK_pos {κ : α → List Nat} {d : Array α} {m : Nat} (h : κ d[m]! ≠ κ d[m - 1]!) : keepsK κ d m = true := by simp [keepsK, h]
theorem keepsK_neg {κ : α → List Nat} {d : Array α} {m : Nat} (hm : 0 < m) (h : κ d[m]! = κ d[m - 1]!) : keepsK κ d m = false := by
 have : m ≠ 0 := by omega
 simp [keepsK, h, this]
theorem cutK_succ (κ : α → List Nat) (d : Array α) (m : Nat) : cutK κ d (m + 1) = cutK κ d m ++ (if keepsK κ d m then [d[m]!] else []) := by
 unfold cutK
 rw [List.range_succ, List.filter_append, List.map_append]
 congr 1
 by_cases h : keepsK κ d m <;> simp [h]
theorem cutK_all (κ : α → List Nat) (d : Array α) (m : Nat) (h : ∀ j, j < m → keepsK κ d j = true) : cutK κ d m = (List.range m).map (d[·]!) := by
 unfold cutK
 rw [List.filter_eq_self.2 (fun j hj => h j (List.mem_range.1 hj))]
theorem cutK_len (κ : α → List Nat) (d : Array α) (m : Nat) : (cutK κ d m).length ≤ m := by
 unfold cutK
 rw [List.length_map]
 exact Nat.le_trans (List.length_filter_le _ _) (by simp)
structure KInv (κ : α → List Nat) (d : Array α) (m k : Nat) (dk : Array α) : Prop where
 size : dk.size = d.size
 len : (cutK κ d m).length = k
 lt : k < m
 low : ∀ j, j < k → (cutK κ d m)[j]? = some dk[j]!
 high : ∀ j, k ≤ j → dk[j]! = d[j]!
theorem KInv.start {κ : α → List Nat} {d : Array α} {k0 : Nat} (hall : ∀ j, j < k0 → keepsK κ d j = true) (hdup : keepsK κ d k0 = false) : KInv κ d (k0 + 1) k0 d where
 size := rfl
 len := by rw [cutK_succ, hdup, cutK_all κ d k0 hall]; simp
 lt := Nat.lt_succ_self _
 low := fun j hj => by rw [cutK_succ, hdup, cutK_all κ d k0 hall]; simp [hj]
 high := fun _ _ => rfl
theorem KInv.keep {κ : α → List Nat} {d dk : Array α} {m k : Nat} (h : KInv κ d m k dk) (hm : m < d.size) (hk : keepsK κ d m = true) : KInv κ d (m + 1) (k + 1) (dk.setIfInBounds k d[m]!) where
 size := by simp [h.size]
 len := by rw [cutK_succ, hk]; simp [h.len]
 lt := by have := h.lt; omega
 low := fun j hj => by
  rw [cutK_succ, hk, if_pos rfl]
  by_cases e : j = k
  ·subst e
   rw [List.getElem?_append_right (by rw [h.len]; exact Nat.le_refl _), h.len, Nat.sub_self, getElem!_set_same dk j _ (by have := h.lt; have := h.size; omega)]
   rfl
  ·rw [List.getElem?_append_left (by rw [h.len]; omega), h.low j (by omega), getElem!_set_other dk k j _ e]
 high := fun j hj => by rw [getElem!_set_other dk k j _ (by omega), h.high j (by omega)]
theorem KInv.skip {κ : α → List Nat} {d dk : Array α} {m k : Nat} (h : KInv κ d m k dk) (hk : keepsK κ d m = false) : KInv κ d (m + 1) k dk where
 size := h.size
 len := by rw [cutK_succ, hk]; simpa using h.len
 lt := by have := h.lt; omega
 low := fun j hj => by rw [cutK_succ, hk]; simpa using h.low j hj
 high := h.high
theorem cutK_mem {κ : α → List Nat} {d : Array α} {u : List Nat} : u ∈ (cutK κ d d.size).map κ ↔ ∃ j, j < d.size ∧ u = κ d[j]! := by
 constructor
 ·intro h
  obtain ⟨x, hx, rfl⟩ := List.mem_map.1 h
  obtain ⟨j, hj, rfl⟩ := List.mem_map.1 hx
  exact ⟨j, List.mem_range.1 (List.mem_filter.1 hj).1, rfl⟩
 ·rintro ⟨j, hj, rfl⟩
  have key : ∀ j, j < d.size → ∃ i, i < d.size ∧ keepsK κ d i = true ∧ κ d[i]! = κ d[j]! := by
   intro j
   induction j with
   | zero => intro h; exact ⟨0, h, by simp [keepsK], rfl⟩
   | succ j ih =>
    intro h
    by_cases e : κ d[j + 1]! = κ d[j]!
    ·obtain ⟨i, h1, h2, h3⟩ := ih (by omega)
     exact ⟨i, h1, h2, by rw [h3, e]⟩
    ·exact ⟨j + 1, h, keepsK_pos (by simpa using e), rfl⟩
  obtain ⟨i, h1, h2, h3⟩ := key j hj
  refine List.mem_map.2 ⟨d[i]!, List.mem_map.2 ⟨i, List.mem_filter.2 ⟨List.mem_range.2 h1, h2⟩, rfl⟩, h3⟩
theorem toList_getD (d : Array α) (i : Nat) (h : i < d.size) : d[i]! = d.toList[i]'(by simpa using h) := by
 rw [getElem!_pos d i h]; simp
end
end Go.Proofs.YtfmmajgkjkmghaaGreatDoor
namespace Go.Proofs.YtfmmajgkjkmghaaGreatDoor
open Go.RowKit Go.Sort
structure RowV (w : World) (B : Nat) where
 v : Value
 l : List Nat
 ok : OwnI w B v (zs l)
 hl : l.length ≤ 100
instance (w : World) (B : Nat) : Inhabited (RowV w B) := ⟨⟨.slice none 0 0, [], OwnI.nil w B, by simp⟩⟩
theorem rows_vals {w : World} {B : Nat} : ∀ (xs : List (List Nat)) (vs : List Value), RowsI w B vs xs → (∀ x ∈ xs, x.length ≤ 100) → ∃ ds : List (RowV w B), ds.map RowV.v = vs ∧ ds.map RowV.l = xs
 | [], vs, h, _ => by
  have : vs = [] := List.eq_nil_of_length_eq_zero h.1
  subst this
  exact ⟨[], rfl, rfl⟩
 | x :: xs, [], h, _ => by have := h.1; simp at this
 | x :: xs, v :: vs, h, hl => by
  have h0 := h.2 0 (by simp) (by simp)
  obtain ⟨ds, e1, e2⟩ := rows_vals xs vs ⟨by simpa using h.1, fun i h1 h2 => h.2 (i + 1) (by simpa using h1) (by simpa using h2)⟩ (fun y hy => hl y (by simp [hy]))
  exact ⟨⟨v, x, h0, hl x (by simp)⟩ :: ds, by simp [e1], by simp [e2]⟩
theorem keeps_grow (w : World) (os : Array Obj) : Keeps w (grow w os) := ⟨rfl, rfl, rfl, by simp, fun k hk => by rw [heap_grow_old _ _ hk]⟩
end Go.Proofs.YtfmmajgkjkmghaaGreatDoor
namespace Go.Proofs
open Go.Shelf
def Tryz.lays125_ren : Go.Shelf.Ren := ⟨fun | 125 => 82 | 128 => 147 | 129 => 148 | n => n, fun | 46 => 101 | 3 => 3 | 51 => 139 | 53 => 68 | 4 => 4 | 5 => 5 | 9 => 9 | n => n, fun | n => n⟩
theorem Tryz.lays125 : Go.Proofs.Lays.n125 Tryz.prog Tryz.lays125_ren := {
 mixed := by kernel_rfl
 f125 := Tryz.func82.trans (congrArg some (by kernel_rfl))
 f128 := Tryz.func147.trans (congrArg some (by kernel_rfl))
 f129 := Tryz.func148.trans (congrArg some (by kernel_rfl))
 t3 := Tryz.underlying3
 a3 := Tryz.isAgg3
 z3 := Tryz.sizeOf3
 v3 := Tryz.zeroValue3
 t4 := Tryz.underlying4
 a4 := Tryz.isAgg4
 z4 := Tryz.sizeOf4
 v4 := Tryz.zeroValue4
 t5 := Tryz.underlying5
 a5 := Tryz.isAgg5
 z5 := Tryz.sizeOf5
 v5 := Tryz.zeroValue5
 t9 := Tryz.underlying9
 a9 := Tryz.isAgg9
 z9 := Tryz.sizeOf9
 v9 := Tryz.zeroValue9
 t46 := Tryz.underlying101
 a46 := Tryz.isAgg101
 z46 := Tryz.sizeOf101
 v46 := Tryz.zeroValue101
 t51 := Tryz.underlying139
 a51 := Tryz.isAgg139
 z51 := Tryz.sizeOf139
 v51 := Tryz.zeroValue139
 t53 := Tryz.underlying68
 a53 := Tryz.isAgg68
 z53 := Tryz.sizeOf68
 v53 := Tryz.zeroValue68 }
theorem Tryz.bits_Len (x : Int) (w : World) (h0 : 0 ≤ x) (h1 : x ≤ 18446744073709551615) :
  Calls Tryz.prog 82 #[.int .u64 x] w fun e w' => e = .returned (.int .i64 (Lib.bitLen x.toNat)) ∧ w' = w := Any.bits_Len Tryz.lays125 x w h0 h1
def Tryz.sortFr_ren : Go.Shelf.Ren := ⟨fun | 6 => 31 | 15 => 82 | 14 => 81 | 28 => 147 | 29 => 148 | 20 => 139 | 21 => 140 | 22 => 141 | 23 => 142 | 24 => 143 | 25 => 144 | 26 => 145 | 27 => 146 | 46 => 172 | 47 => 173 | 48 => 174 | 49 => 175 | 50 => 176 | 57 => 187 | n => n, fun | 22 => 51 | 24 => 57 | 25 => 65 | 3 => 3 | 39 => 101 | 0 => 0 | 53 => 139 | 55 => 68 | 4 => 4 | 46 => 132 | 45 => 131 | 50 => 136 | 5 => 5 | 9 => 9 | 66 => 151 | 70 => 155 | 76 => 162 | 77 => 163 | n => n, fun | n => n⟩
theorem Tryz.sortFr : Go.Proofs.SlLaysF0.n6 Tryz.prog Tryz.sortFr_ren := {
 mixed := by kernel_rfl
 f6 := ⟨Tryz.f31.name, by decide, Tryz.func31.trans (congrArg some (by kernel_rfl))⟩
 f14 := ⟨Tryz.f81.name, by decide, Tryz.func81.trans (congrArg some (by kernel_rfl))⟩
 f15 := Tryz.func82.trans (congrArg some (by kernel_rfl))
 f20 := ⟨Tryz.f139.name, by decide, Tryz.func139.trans (congrArg some (by kernel_rfl))⟩
 f21 := ⟨Tryz.f140.name, by decide, Tryz.func140.trans (congrArg some (by kernel_rfl))⟩
 f22 := ⟨Tryz.f141.name, by decide, Tryz.func141.trans (congrArg some (by kernel_rfl))⟩
 f23 := ⟨Tryz.f142.name, by decide, Tryz.func142.trans (congrArg some (by kernel_rfl))⟩
 f24 := ⟨Tryz.f143.name, by decide, Tryz.func143.trans (congrArg some (by kernel_rfl))⟩
 f25 := ⟨Tryz.f144.name, by decide, Tryz.func144.trans (congrArg some (by kernel_rfl))⟩
 f26 := ⟨Tryz.f145.name, by decide, Tryz.func145.trans (congrArg some (by kernel_rfl))⟩
 f27 := ⟨Tryz.f146.name, by decide, Tryz.func146.trans (congrArg some (by kernel_rfl))⟩
 f28 := Tryz.func147.trans (congrArg some (by kernel_rfl))
 f29 := Tryz.func148.trans (congrArg some (by kernel_rfl))
 f46 := ⟨Tryz.f172.name, by decide, Tryz.func172.trans (congrArg some (by kernel_rfl))⟩
 f47 := Tryz.func173.trans (congrArg some (by kernel_rfl))
 f48 := Tryz.func174.trans (congrArg some (by kernel_rfl))
 f49 := ⟨Tryz.f175.name, by decide, Tryz.func175.trans (congrArg some (by kernel_rfl))⟩
 f50 := ⟨Tryz.f176.name, by decide, Tryz.func176.trans (congrArg some (by kernel_rfl))⟩
 f57 := ⟨Tryz.f187.name, by decide, Tryz.func187.trans (congrArg some (by kernel_rfl))⟩
 t0 := Tryz.underlying0
 a0 := Tryz.isAgg0
 z0 := Tryz.sizeOf0
 v0 := Tryz.zeroValue0
 t3 := Tryz.underlying3
 a3 := Tryz.isAgg3
 z3 := Tryz.sizeOf3
 v3 := Tryz.zeroValue3
 t4 := Tryz.underlying4
 a4 := Tryz.isAgg4
 z4 := Tryz.sizeOf4
 v4 := Tryz.zeroValue4
 t5 := Tryz.underlying5
 a5 := Tryz.isAgg5
 z5 := Tryz.sizeOf5
 v5 := Tryz.zeroValue5
 t9 := Tryz.underlying9
 a9 := Tryz.isAgg9
 z9 := Tryz.sizeOf9
 v9 := Tryz.zeroValue9
 t22 := Tryz.underlying51
 a22 := Tryz.isAgg51
 z22 := Tryz.sizeOf51
 v22 := Tryz.zeroValue51
 t25 := Tryz.underlying65
 a25 := Tryz.isAgg65
 z25 := Tryz.sizeOf65
 v25 := Tryz.zeroValue65
 t39 := Tryz.underlying101
 a39 := Tryz.isAgg101
 z39 := Tryz.sizeOf101
 v39 := Tryz.zeroValue101
 t45 := Tryz.underlying131
 a45 := Tryz.isAgg131
 z45 := Tryz.sizeOf131
 v45 := Tryz.zeroValue131
 t46 := Tryz.underlying132
 a46 := Tryz.isAgg132
 z46 := Tryz.sizeOf132
 v46 := Tryz.zeroValue132
 t50 := Tryz.underlying136
 a50 := Tryz.isAgg136
 z50 := Tryz.sizeOf136
 v50 := Tryz.zeroValue136
 t53 := Tryz.underlying139
 a53 := Tryz.isAgg139
 z53 := Tryz.sizeOf139
 v53 := Tryz.zeroValue139
 t55 := Tryz.underlying68
 a55 := Tryz.isAgg68
 z55 := Tryz.sizeOf68
 v55 := Tryz.zeroValue68
 t66 := Tryz.underlying151
 a66 := Tryz.isAgg151
 z66 := Tryz.sizeOf151
 v66 := Tryz.zeroValue151
 t70 := Tryz.underlying155
 a70 := Tryz.isAgg155
 z70 := Tryz.sizeOf155
 v70 := Tryz.zeroValue155
 t76 := Tryz.underlying162
 a76 := Tryz.isAgg162
 z76 := Tryz.sizeOf162
 v76 := Tryz.zeroValue162
 t77 := Tryz.underlying163
 a77 := Tryz.isAgg163
 z77 := Tryz.sizeOf163
 v77 := Tryz.zeroValue163 }
end Go.Proofs
