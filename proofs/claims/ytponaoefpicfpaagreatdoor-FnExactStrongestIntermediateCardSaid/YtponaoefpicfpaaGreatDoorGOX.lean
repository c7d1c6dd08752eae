/- StrongestIntermediate: the program's side. -/
import Derived.Test.YtponaoefpicfpaaGreatDoorGLN
import Derived.Test.YtponaoefpicfpaaGreatDoorGOE
import Derived.Test.YtponaoefpicfpaaGreatDoorGRK
import Derived.Deep.RegionHeld3
namespace Go.Proofs.YtponaoefpicfpaaGreatDoor
open Go.RowKit
def ixN (x : ByteArray) : Nat := (findS names9 x).toNat
def aboQ (x y : ByteArray) : Bool := belB (ixN x) (ixN y) && !belB (ixN y) (ixN x)
def strL (b : List Nat) : List ByteArray := (logL b).filter fun x => !((logL b).any (aboQ x))
theorem ixN_at {k : Nat} (hk : k < 9) : ixN (nameK k) = k := by unfold ixN; rw [find9_at hk]; simp
theorem logL_mem {b : List Nat} {x : ByteArray} (h : x ∈ logL b) : ∃ k, k < 9 ∧ x = nameK k := by
  unfold logL at h
  obtain ⟨k, hk, rfl⟩ := List.mem_map.1 h
  exact ⟨k, List.mem_range.1 (List.mem_filter.1 hk).1, rfl⟩
--
theorem enters_str1 : Enters 49 := fun _ _ => by kernel_rfl
set_option maxRecDepth 20000 in
theorem strongest_1_any (k1 k2 : Nat) (h1 : k1 < 9) (h2 : k2 < 9) (g1 g2 B : Nat) (v : Value) (w : World) (c1 : w.cell? ⟨g1, 0, none⟩ = some (.string (nameK k1))) (c2 : w.cell? ⟨g2, 0, none⟩ = some v) (hv : OwnPs w B v smallR) :
    Calls Tryz.prog 49 #[.string (nameK k2), .pointer (some ⟨g1, 0, none⟩), .pointer (some ⟨g2, 0, none⟩)] w fun e w' => e = .returned (.bool (belB k1 k2 && !belB k2 k1)) ∧ Keeps w w' := by
  have H1 := hid (isBelowInTable_any k1 k2 h1 h2 B v w hv)
  have H2 := hid (fun wz (kz : Keeps w wz) => isBelowInTable_any k2 k1 h2 h1 B v wz (hv.keeps kz))
  obtain ⟨p, cap, rfl, _, _⟩ := hv.shape
  clear hv
  generalize belB k1 k2 = r1 at *
  generalize belB k2 k1 = r2 at *
  generalize nameK k1 = s1 at *
  generalize nameK k2 = s2 at *
  generalize smallR.length = n at *
  cases r1
  · go_enter Tryz.func49, Tryz.ntmps49
    go_wp2_with fail
    refine H1.out.mono ?_; rintro e w2 ⟨rfl, k2⟩
    go_wp2_with fail
    go_ret
    exact ⟨by first | rfl | simp, k2⟩
  · go_enter Tryz.func49, Tryz.ntmps49
    go_wp2_with fail
    refine H1.out.mono ?_; rintro e w2 ⟨rfl, k2⟩
    have d1 := k2.cell c1
    have d2 := k2.cell c2
    clear c1 c2
    go_wp2_with fail
    refine (H2.out _ k2).mono ?_; rintro e w3 ⟨rfl, k3⟩
    go_wp2_with fail
    go_ret
    exact ⟨by first | rfl | simp, k2.trans k3⟩
theorem row_neT {w : World} {B : Nat} {T : TypeId} {s n : Nat} {v : Value} {xs : List Value} (h : w.ownsRow B T s v n xs) {k : Nat} {cs : Array Value} {t : TypeId} {fr : Nat × Nat} (hb : w.heap[k]? = some (.cells cs t fr)) (ht : t ≠ T) : v.ownBlock ≠ some k := by
  intro e
  rcases h.2 with ⟨rfl, _⟩ | ⟨g, cap, cur, rfl, _, hg, _⟩
  · cases e
  · have e2 : g = k := by injection e
    subst e2
    rw [hb] at hg
    injection hg with hg
    injection hg with _ h2 _
    exact ht h2
--
theorem OwnPs.offT {w w' : World} {B : Nat} {v : Value} {xs : List (List Nat)} (h : OwnPs w B v xs) {g : Nat} {cs : Array Value} (hb : w.heap[g]? = some (.cells cs 57 (0, 0))) (hg : w.grownBy w' (some g)) : OwnPs w' B v xs := by
  obtain ⟨us, ho, hr⟩ := h
  refine ⟨us, own_touch ho (Touch.grown hg) (fun i hi e => ?_), hr.touch (Touch.grown hg) (fun i hbk e => ?_)⟩
  · have : i = g := by simpa using e
    subst this
    exact row_neT ho hb (by decide) hi
  · obtain ⟨j, hj, e2⟩ := hbk
    have : i = g := by simpa using e
    subst this
    exact row_neT (hr.2 j hj (by have := hr.1; omega)) hb (by decide) e2
theorem OwnS.offT {w w' : World} {B : Nat} {v : Value} {xs : List ByteArray} (h : OwnS w B v xs) {g : Nat} {cs : Array Value} (hb : w.heap[g]? = some (.cells cs 57 (0, 0))) (hg : w.grownBy w' (some g)) : OwnS w' B v xs :=
  own_touch h (Touch.grown hg) (fun i hi e => by
    have : i = g := by simpa using e
    subst this
    exact row_neT h hb (by decide) hi)
theorem heap_set1 {w : World} {g : Nat} {x u : Value} {T : TypeId} (h : w.heap[g]? = some (.cells #[x] T (0, 0))) : (w.setCell ⟨g, 0, none⟩ u).heap[g]? = some (.cells #[u] T (0, 0)) := by
  rw [Go.Sort.setCell_eq]
  simp [Go.Sort.mapBlock, Array.getElem?_modify, h, Go.Sort.onCells]
--
/-- what is so while the small posets and the poset's logics are made -/
structure SgI (wA : World) (ptr pv : Value) (b : List Nat) (l : Nat → Bool) (f : Nat → Value) (w : World) : Prop where
  f1 : f 1 = ptr
  kp : Keeps wA w
  h0 : l 0 = true → OwnPs w wA.heap.size (f 12) smallR
  h1 : l 1 = true → f 13 = pv
  h2 : l 2 = true → OwnS w wA.heap.size (f 14) (logL b)
  h3 : l 3 = true → ∃ g, f 4 = .pointer (some ⟨g, 0, none⟩) ∧ wA.heap.size ≤ g ∧ w.heap[g]? = some (.cells #[if l 4 then f 12 else .slice none 0 0] 57 (0, 0))
  h4 : l 4 = true → l 0 = true ∧ l 3 = true
  h5 : l 5 = true → l 2 = true ∧ f 5 = f 14
theorem SgI.congr {wA : World} {ptr pv : Value} {b : List Nat} {l l' : Nat → Bool} {f : Nat → Value} {w : World} (hl : ∀ j, j < 6 → l j = l' j) (h : SgI wA ptr pv b l f w) : SgI wA ptr pv b l' f w := by
  obtain ⟨a, k, c0, c1, c2, c3, c4, c5⟩ := h
  rw [hl 0 (by omega)] at c0
  rw [hl 1 (by omega)] at c1
  rw [hl 2 (by omega)] at c2
  rw [hl 3 (by omega), hl 4 (by omega)] at c3
  rw [hl 4 (by omega), hl 0 (by omega), hl 3 (by omega)] at c4
  rw [hl 5 (by omega), hl 2 (by omega)] at c5
  exact ⟨a, k, c0, c1, c2, c3, c4, c5⟩
theorem SgI.keeps {wA : World} {ptr pv : Value} {b : List Nat} {l : Nat → Bool} {f : Nat → Value} {w w' : World} (h : SgI wA ptr pv b l f w) (k : Keeps w w') : SgI wA ptr pv b l f w' := by
  refine ⟨h.f1, h.kp.trans k, fun e => (h.h0 e).keeps k, h.h1, fun e => (h.h2 e).keeps k, fun e => ?_, h.h4, h.h5⟩
  obtain ⟨g, e1, e2, e3⟩ := h.h3 e
  exact ⟨g, e1, e2, by rw [k.block (Array.getElem?_eq_some_iff.1 e3).1]; exact e3⟩
theorem run_loadP (g : Nat) (x : Int) (p : Option Addr) (m c : Nat) (w : World) (h0 : w.cell? ⟨g, 0, none⟩ = some (.int .i64 x)) (h1 : w.cell? ⟨g, 1, none⟩ = some (.slice p m c)) : (Instr.loadAt 32 (.pointer (some ⟨g, 0, none⟩))).run Tryz.prog w = .ok (.agg #[.int .i64 x, .slice p m c]) w := by
  simp [Instr.loadAt, go_sem, h0, h1]
theorem run_storePs (g : Nat) (x : Value) (p : Option Addr) (m c : Nat) (w : World) (h : w.heap[g]? = some (.cells #[x] 57 (0, 0))) : (Instr.storeAt 57 (.pointer (some ⟨g, 0, none⟩)) (.slice p m c)).run Tryz.prog w = .ok () (w.setCell ⟨g, 0, none⟩ (.slice p m c)) := by
  have h0 : w.cell? ⟨g, 0, none⟩ = some x := by simp [World.cell?, h]
  have h1 : w.frozen? ⟨g, 0, none⟩ = false := by simp [World.frozen?, h]
  simp [Instr.storeAt, go_sem, h0, h1]
set_option maxRecDepth 20000 in
set_option maxHeartbeats 4000000 in
theorem implStrongest (n : Int) (a : List Int) (v : Value) (w : World) (hv : Ints w v a) (hL : LaidS 1 names9 w) :
    Calls Tryz.prog 13 #[.agg #[.int .i64 n, v]] w fun e w' => ∃ r, e = .returned (.tuple #[r, .int .i64 (if isPos n a then 0 else 1)]) ∧ OwnS w' w.heap.size r (if isPos n a then strL (a.map Int.toNat) else []) ∧ Keeps w w' := by
  have kA := (Keeps.refl w).alloc (.cells #[.int .i64 n, v] 32)
  obtain ⟨c0, c1⟩ := BoxF.made w n v 32
  have HI := hid (isPoset_any n a v _ (hv.keeps kA))
  cases hc : isPos n a
  · rw [hc] at HI
    simp only [Bool.false_eq_true, if_false]
    clear hc
    obtain ⟨p, cap, rfl, _⟩ := hv
    go_enter Tryz.func13, Tryz.ntmps13
    go_wp2_with fail
    refine HI.out.mono ?_; rintro e w2 ⟨rfl, k2⟩
    go_wp2_with fail
    go_ret2
    exact ⟨_, rfl, OwnS.nil _ _, kA.trans k2⟩
  · rw [hc] at HI
    simp only [if_true]
    obtain ⟨b, rfl, rfl, hp⟩ := pos_of hc
    rw [zs_toNat]
    have HLG := hid (fun wz (kz : Keeps w wz) => logics_any b hp v wz (hv.keeps kz) (hL.keeps kz))
    have HSM := hid (fun wz => smallPosets_any wz)
    have HSH : Hid (∃ p m c, v = .slice p m c) := hid (by obtain ⟨p, c, e, _⟩ := hv; exact ⟨p, _, c, e⟩)
    clear hc hL hv
    obtain ⟨pv, mv, cv, rfl⟩ := HSH.out
    clear HSH
    have hbl : (b.length : Int) = (b.length : Nat) := rfl
    go_enter Tryz.func13, Tryz.ntmps13
    go_wp2_with fail
    refine HI.out.mono ?_; rintro e w2 ⟨rfl, k2⟩
    have z0 := k2.cell c0
    have z1 := k2.cell c1
    have HK2 := hid (kA.trans k2)
    clear c0 c1 HI k2 hbl
    go_upto_region 3 with fail
    go_cut [4, 5] from 12 to 14 (fun p4 p5 wx => ∃ g v4 wy, wy = wx ∧ p4 = .pointer (some ⟨g, 0, none⟩) ∧ w2.heap.size ≤ g ∧ wx.cell? ⟨g, 0, none⟩ = some v4 ∧ OwnPs wx w2.heap.size v4 smallR ∧ OwnS wx w2.heap.size p5 (logL b) ∧ Keeps w2 wx)
    case first =>
      refine wp_region_inv (L := 6) (nt := 31) (ds := [12, 13, 14, 4, 5]) (by kernel_rfl) (by kernel_rfl) (SgI w2 (.pointer (some ⟨w.heap.size, 0, none⟩)) (.agg #[.int .i64 b.length, .slice pv mv cv]) b) (fun l l' f w hl h => SgI.congr hl h) ?_ (by kernel_rfl) rfl ?_ ?_
      · refine ⟨?_, ?_, ?_, ?_, ?_, ?_, True.intro⟩
        · intro lst a w3 K hsz hdf hl hdep hI hK
          refine wp_callF _ _ _ rfl (fun _ _ => by kernel_rfl) #[] (by simp) ((HSM.out w3).mono ?_)
          rintro e w4 ⟨v4, rfl, h4, k4⟩
          refine ⟨_, rfl, hK _ _ ?_⟩
          have hJ := hI.keeps k4
          have hn4 : lst 4 = false := by
            cases h : lst 4
            · rfl
            · have := (hI.h4 h).1; rw [hl] at this; cases this
          refine ⟨by simpa using hJ.f1, hJ.kp, fun _ => by simpa using h4.mono hI.kp.size, fun e => by simpa using hJ.h1 (by simpa using e), fun e => by simpa using hJ.h2 (by simpa using e), fun e => ?_, fun e => by simp [hn4] at e, fun e => by simpa using hJ.h5 (by simpa using e)⟩
          obtain ⟨g, e1, e2, e3⟩ := hJ.h3 (by simpa using e)
          simp only [hn4] at e3
          exact ⟨g, by simpa using e1, e2, by simpa [hn4] using e3⟩
        · intro lst a w3 K hsz hdf hl hdep hI hK
          have f1 : a.eval (.tmp 1) = _ := hI.f1
          unfold Oper.wp execOp
          simp only [f1, Sem.run_bind, run_loadP w.heap.size b.length pv mv cv w3 (hI.kp.cell z0) (hI.kp.cell z1), Result.andThen_ok, Sem.run_pure]
          refine hK _ _ ?_
          refine ⟨by simpa using hI.f1, hI.kp, fun e => by simpa using hI.h0 (by simpa using e), fun _ => by simp, fun e => by simpa using hI.h2 (by simpa using e), fun e => by simpa using hI.h3 (by simpa using e), fun e => by simpa using hI.h4 (by simpa using e), fun e => by simpa using hI.h5 (by simpa using e)⟩
        · intro lst a w3 K hsz hdf hl hdep hI hK
          have h13 : a.eval (.tmp 13) = _ := hI.h1 (hdep 1 (by kernel_rfl))
          refine wp_callF _ _ _ rfl (fun _ _ => by kernel_rfl) #[.agg #[.int .i64 b.length, .slice pv mv cv]] (by simp [h13]) ((HLG.out w3 (HK2.out.trans hI.kp)).mono ?_)
          rintro e w4 ⟨v4, rfl, h4, k4⟩
          refine ⟨_, rfl, hK _ _ ?_⟩
          have hJ := hI.keeps k4
          refine ⟨by simpa using hJ.f1, hJ.kp, fun e => by simpa using hJ.h0 (by simpa using e), fun e => by simpa using hJ.h1 (by simpa using e), fun _ => by simpa using h4.mono hI.kp.size, fun e => by simpa using hJ.h3 (by simpa using e), fun e => by simpa using hJ.h4 (by simpa using e), fun e => ?_⟩
          have := (hJ.h5 (by simpa using e)).1
          rw [hl] at this; cases this
        · intro lst a w3 K hsz hdf hl hdep hI hK
          have hn4 : lst 4 = false := by
            cases h : lst 4
            · rfl
            · have := (hI.h4 h).2; rw [hl] at this; cases this
          unfold Oper.wp
          have hrun : ∀ (b' : Act) wz, (execOp b'.eval { dst := some 4, op := .alloc 57, type := 0, pos := "", after := #[], guard := none }).run Tryz.prog wz = .ok (.value (.pointer (some ⟨wz.heap.size, 0, none⟩))) (wz.alloc (.cells #[.slice none 0 0] 57)) := fun b' wz => by simp [execOp, go_sem]
          have h2 := hrun a w3
          unfold execOp at h2 ⊢
          simp only at h2 ⊢
          rw [h2]
          refine hK _ _ ?_
          have hJ := hI.keeps ((Keeps.refl w3).alloc (.cells #[.slice none 0 0] 57))
          exact ⟨by simpa using hJ.f1, hJ.kp, fun e => by simpa using hJ.h0 (by simpa using e), fun e => by simpa using hJ.h1 (by simpa using e), fun e => by simpa using hJ.h2 (by simpa using e), fun _ => ⟨w3.heap.size, by simp, hI.kp.size, by
            have := heap_alloc_new w3 (.cells #[.slice none 0 0] 57)
            simp only [hn4, show (4 == 0 + 1 + 1 + 1) = false from rfl, Bool.or_self, Bool.false_eq_true, if_false]
            exact this⟩, fun e => by simp [hn4] at e, fun e => by simpa using hJ.h5 (by simpa using e)⟩
        · intro lst a w3 K hsz hdf hl hdep hI hK
          have hl0 := hdep 0 (by kernel_rfl)
          have hl3 := hdep 3 (by kernel_rfl)
          have h12 := hI.h0 hl0
          obtain ⟨g, e4, hle, hb⟩ := hI.h3 hl3
          rw [hl] at hb
          simp only [Bool.false_eq_true, if_false] at hb
          obtain ⟨p12, q12, e12, _, _⟩ := h12.shape
          have f4 : a.eval (.tmp 4) = _ := e4
          have f12 : a.eval (.tmp 12) = _ := e12
          unfold Oper.wp execOp
          simp only [f4, f12, Sem.run_bind, run_storePs g _ p12 _ q12 w3 hb, Result.andThen_ok, Sem.run_pure]
          refine hK _ _ ?_
          have hg := grown_set (w := w3) g 0 (.slice p12 smallR.length q12)
          refine ⟨by simpa using hI.f1, hI.kp.setCell hle _, fun e => by simpa using h12.offT hb hg, fun e => by simpa using hI.h1 (by simpa using e), fun e => by simpa using (hI.h2 (by simpa using e)).offT hb hg, fun _ => ⟨g, by simpa using e4, hle, ?_⟩, fun _ => ⟨by simpa using hl0, by simpa using hl3⟩, fun e => by simpa using hI.h5 (by simpa using e)⟩
          simp only [beq_self_eq_true, Bool.or_true, if_true]
          rw [heap_set1 hb, show (if (none : Option Nat) = some 12 then (_ : Value) else a.eval (.tmp 12)) = a.eval (.tmp 12) from by simp, f12]
        · intro lst a w3 K hsz hdf hl hdep hI hK
          have hl2 := hdep 2 (by kernel_rfl)
          unfold Oper.wp execOp
          simp only [Sem.run_pure]
          refine hK _ _ ?_
          exact ⟨by simpa using hI.f1, hI.kp, fun e => by simpa using hI.h0 (by simpa using e), fun e => by simpa using hI.h1 (by simpa using e), fun e => by simpa using hI.h2 (by simpa using e), fun e => by simpa using hI.h3 (by simpa using e), fun e => by simpa using hI.h4 (by simpa using e), fun _ => ⟨by simpa using hl2, by simp⟩⟩
      · exact ⟨rfl, (Keeps.refl w2).drew, by simp, by simp, by simp, by simp, by simp, by simp⟩
      · intro f wx hI
        obtain ⟨g, h4, hle, hb⟩ := hI.h3 (by decide)
        have h12 := hI.h0 (by decide)
        have h14 := hI.h2 (by decide)
        have h5 := (hI.h5 (by decide)).2
        rw [if_pos (by decide)] at hb
        obtain ⟨p12, q12, e12, _, _⟩ := h12.shape
        obtain ⟨p14, q14, e14, -, -, -⟩ := At.of_own h14
        rw [e12] at h12 hb
        rw [e14] at h14 h5
        have HH := hid (⟨g, _, _, rfl, rfl, hle, by simp [World.cell?, hb], h12, h14, hI.kp⟩ : ∃ g' v4 wy, wy = wx ∧ Value.pointer (some ⟨g, 0, none⟩) = .pointer (some ⟨g', 0, none⟩) ∧ w2.heap.size ≤ g' ∧ wx.cell? ⟨g', 0, none⟩ = some v4 ∧ OwnPs wx w2.heap.size v4 smallR ∧ OwnS wx w2.heap.size (.slice p14 (logL b).length q14) (logL b) ∧ Keeps w2 wx)
        clear h12 h14 hb hle hI
        simp only [putAll, Act.put, List.setIfInBounds_toArray, List.set_cons_zero, List.set_cons_succ, h4, h5, e12, e14]
        go_wp2_with fail
        go_meet
        exact HH.out
    case rest =>
      obtain ⟨g, v4, wx, rfl, rfl, hgle, hcg, hps, hsl, kx⟩ := hcut
      have hl9 := logL_len b
      have HMEM := hid (fun x (h : x ∈ logL b) => logL_mem h)
      have HST : Hid (strL b = (logL b).filter fun x => !((logL b).any (aboQ x))) := hid rfl
      generalize logL b = L at *
      have hstr := hsl.strs (by omega)
      obtain ⟨p14, q14, e14, hle14, hmx14, -⟩ := At.of_own hsl
      subst e14
      unfold maxLen at hmx14
      have HPS := hid hps; clear hps
      have HSL := hid hstr; clear hstr hsl
      have HCG := hid hcg; clear hcg
      have HKX := hid (HK2.out.trans kx); clear kx
      have HCF := hid (fun (x : ByteArray) (hx : x ∈ L) (g8 : Nat) (wz : World) (kz : Keeps wx wz) (c8 : wz.cell? ⟨g8, 0, none⟩ = some (.string x)) =>
        containsFuncS (aboQ x) 49 #[.pointer (some ⟨g8, 0, none⟩), .pointer (some ⟨g, 0, none⟩)] L _ wz (HSL.out.keeps kz) enters_str1 (fun y w1 hy k1 => by
          obtain ⟨k1', hk1, rfl⟩ := HMEM.out x hx
          obtain ⟨k2', hk2, rfl⟩ := HMEM.out y hy
          have := strongest_1_any k1' k2' hk1 hk2 g8 g _ v4 w1 (k1.cell c8) ((kz.trans k1).cell HCG.out) (HPS.out.keeps (kz.trans k1))
          unfold aboQ
          rw [ixN_at hk1, ixN_at hk2]
          exact this))
      clear z0 z1
      go_wp2_with fail
      go_loopw [6, 17] (fun s6 s17 wr => ∃ i : Nat, i ≤ L.length ∧ s17 = .int .i64 i ∧ OwnS wr wx.heap.size s6 ((L.take i).filter fun x => !(L.any (aboQ x))) ∧ Keeps wx wr) (fun _ s17 _ => L.length - (intOf s17).toNat)
      case atStart => exact ⟨0, by omega, rfl, by simpa using OwnS.nil wx wx.heap.size, Keeps.refl wx⟩
      case round =>
        obtain ⟨i, hi, rfl, hown, kr⟩ := hrel
        by_cases hlt : i < L.length
        · have hlt' : (i : Int) < L.length := by omega
          have hTK : (L.take (i + 1)).filter (fun x => !(L.any (aboQ x))) = (L.take i).filter (fun x => !(L.any (aboQ x))) ++ (if L.any (aboQ L[i]) then [] else [L[i]]) := by
            rw [List.take_succ_eq_append_getElem hlt, List.filter_append]
            congr 1
            cases hq : L.any (aboQ L[i]) <;> simp [hq]
          have HTK := hid hTK; clear hTK
          have hfl : ((L.take i).filter (fun x => !(L.any (aboQ x)))).length ≤ i := Nat.le_trans (List.length_filter_le _ _) (by rw [List.length_take]; omega)
          obtain ⟨b1, o1, rfl, hcx⟩ := (HSL.out.keeps kr).get i hlt
          have hmx := List.getElem_mem hlt
          have kb := (Keeps.refl wr).alloc (.cells #[.string L[i]] 9)
          have c8 : (wr.alloc (.cells #[.string L[i]] 9)).cell? ⟨wr.heap.size, 0, none⟩ = some (.string L[i]) := by simp
          have HC := hid (HCF.out L[i] hmx wr.heap.size _ (kr.trans kb) c8)
          have HKR := hid kr; clear kr
          have HOWN := hid hown; clear hown
          generalize hT : (L.take i).filter (fun x => !(L.any (aboQ x))) = T at *
          clear hT
          generalize hr : L.any (aboQ L[i]) = r at *
          clear hr hmx
          generalize L[i] = x at *
          obtain ⟨p6, q6, e6, -, -, -⟩ := At.of_own HOWN.out
          subst e6
          cases r
          · have HT2 : Hid ((L.take (i + 1)).filter (fun x => !(L.any (aboQ x))) = T ++ [x]) := hid (by rw [HTK.out]; simp)
            clear HTK
            go_wp2_with fail
            refine HC.out.mono ?_; rintro e w4 ⟨rfl, k4⟩
            have d8 := k4.cell c8
            have k5 := (kb.trans k4).alloc (.cells #[.string x] 9)
            have hs5 := (HKR.out.trans k5).size
            clear c8
            go_wp2_with (at_builtin; refine appS rfl _ _ rfl wx.heap.size _ T rfl (HOWN.out.keeps k5) _ [x] rfl (Strs.lit1 w4 x) hs5 (by simp; omega) ?_; intro v6 w6 hv6 hg6 hr6)
            go_roundw
            case rel => exact ⟨i + 1, by omega, by go_num, by rw [HT2.out]; exact hv6, (HKR.out.trans k5).grown hg6 hr6⟩
            case measure => simp [intOf]; omega
          · have HT2 : Hid ((L.take (i + 1)).filter (fun x => !(L.any (aboQ x))) = T) := hid (by rw [HTK.out]; simp)
            clear HTK
            go_wp2_with fail
            refine HC.out.mono ?_; rintro e w4 ⟨rfl, k4⟩
            go_wp2_with fail
            go_roundw
            case rel => exact ⟨i + 1, by omega, by go_num, by rw [HT2.out]; exact HOWN.out.keeps (kb.trans k4), HKR.out.trans (kb.trans k4)⟩
            case measure => simp [intOf]; omega
        · have e : i = L.length := by omega
          have hlt' : ¬ (i : Int) < L.length := by omega
          rw [e, List.take_length, ← HST.out] at hown
          go_wp2_with fail
          go_ret2
          exact ⟨_, rfl, hown.mono HKX.out.size, HKX.out.trans kr⟩
end Go.Proofs.YtponaoefpicfpaaGreatDoor
/- StrongestIntermediate: the reference's side. -/
namespace Go.Proofs.YtponaoefpicfpaaGreatDoor
open Go.RowKit
theorem allC_len : ∀ n, n ≤ 5 → (allC n).length ≤ 24 * n
  | 0, _ => by simp [allC]
  | n + 1, h => by
    have h1 := allC_len n (by omega)
    have h2 := allR_24 (n := n) (by omega)
    rw [allC_succ, List.length_append]; omega
theorem allC_mem {p : List Nat} (h : p ∈ allC 5) : Pos p := by
  rw [allC_five] at h
  rcases List.mem_cons.1 h with rfl | h
  · exact nil_Pos
  · exact small_Pos h
--
theorem OwnPs.offS {w w' : World} {B B' : Nat} {v u : Value} {xs : List (List Nat)} {n : Nat} {hs : List Value} (h : OwnPs w B v xs) (ho : w.ownsRow B' 9 1 u n hs) (hg : w.grownBy w' u.ownBlock) : OwnPs w' B v xs := by
  obtain ⟨us, hv, hr⟩ := h
  exact ⟨us, own_touch hv (Touch.grown hg) (fun i hi e => type_ne ho hv (by decide) e.symm hi), hr.touch (Touch.grown hg) (fun i hb e => hr.off ho (by decide) e.symm hb)⟩
--
set_option maxRecDepth 20000 in
set_option maxHeartbeats 8000000 in
theorem specStrongest (n : Int) (a : List Int) (v : Value) (w : World) (hv : Ints w v a) :
    Calls Tryz.prog 11 #[.agg #[.int .i64 n, v]] w fun e w' => ∃ r, e = .returned (.tuple #[r, .int .i64 (if isPos n a then 0 else 1)]) ∧ OwnS w' w.heap.size r (if isPos n a then strL (a.map Int.toNat) else []) ∧ Keeps w w' := by
  have kA := (Keeps.refl w).alloc (.cells #[.int .i64 n, v] 32)
  obtain ⟨c0, c1⟩ := BoxF.made w n v 32
  have HI := hid (l16Is_any n a v _ (hv.keeps kA))
  cases hc : isPos n a
  · rw [hc] at HI
    simp only [Bool.false_eq_true, if_false]
    clear hc
    obtain ⟨p, cap, rfl, _⟩ := hv
    go_enter Tryz.func11, Tryz.ntmps11
    go_wp2_with fail
    refine HI.out.mono ?_; rintro e w2 ⟨rfl, k2⟩
    go_wp2_with fail
    go_ret2
    exact ⟨_, rfl, OwnS.nil _ _, kA.trans k2⟩
  · rw [hc] at HI
    simp only [if_true]
    obtain ⟨b, rfl, rfl, hp⟩ := pos_of hc
    rw [zs_toNat]
    have HLG := hid (fun wz (kz : Keeps w wz) => l30Logics_any b hp v wz (hv.keeps kz))
    have HAL := hid (fun n (hn : n ≤ 4) wz => l16All_any n hn wz)
    have HCL := hid allC_len
    have HCS : Hid (∀ n, allC (n + 1) = allC n ++ allR n) := hid fun _ => rfl
    have hl9 := logL_len b
    have HMEM := hid (fun x (h : x ∈ logL b) => logL_mem h)
    have HST : Hid (strL b = (logL b).filter fun x => !((logL b).any (aboQ x))) := hid rfl
    have HSH : Hid (∃ p m c, v = .slice p m c) := hid (by obtain ⟨p, c, e, _⟩ := hv; exact ⟨p, _, c, e⟩)
    clear hc hv
    obtain ⟨pv, mv, cv, rfl⟩ := HSH.out
    clear HSH
    generalize logL b = L at *
    generalize strL b = SL at *
    go_enter Tryz.func11, Tryz.ntmps11
    go_wp2_with fail
    refine HI.out.mono ?_; rintro e w2 ⟨rfl, k2⟩
    have z0 := k2.cell c0
    have z1 := k2.cell c1
    go_wp2_with fail
    refine (HLG.out _ (kA.trans k2)).mono ?_; rintro e w3 ⟨v3, rfl, hv3, k3⟩
    have HL3 := hid (hv3.strs (by omega))
    obtain ⟨p3, q3, e3, hle3, hmx3, -⟩ := At.of_own hv3
    subst e3
    unfold maxLen at hmx3
    have HK3 := hid ((kA.trans k2).trans k3)
    clear hv3 c0 c1 z0 z1 k2 k3 HI HLG
    have ke := ((Keeps.refl w3).alloc (.cells #[] 32)).alloc (.cells #[] 9)
    have HE1 := hid ((OwnPs.empty w3).keeps ((Keeps.refl _).alloc (.cells #[] 9)))
    have HE2 : Hid (OwnS ((w3.alloc (.cells #[] 32)).alloc (.cells #[] 9)) w3.heap.size (.slice (some ⟨w3.heap.size + 1, 0, none⟩) 0 0) []) := hid (by
      have := (OwnS.empty (w3.alloc (.cells #[] 32))).mono (B' := w3.heap.size) (by simp)
      simpa using this)
    go_wp2_with fail
    go_loopw [5, 7] (fun s5 s7 wr => ∃ m : Nat, m ≤ 5 ∧ s7 = .int .i64 m ∧ OwnPs wr w3.heap.size s5 (allC m) ∧ OwnS wr w3.heap.size (.slice (some ⟨w3.heap.size + 1, 0, none⟩) 0 0) [] ∧ Keeps w3 wr) (fun _ s7 _ => 5 - (intOf s7).toNat)
    case atStart => exact ⟨0, by omega, rfl, HE1.out, HE2.out, ke⟩
    case round =>
      obtain ⟨m, hm, rfl, hps, hos, kw⟩ := hrel
      by_cases hlt : m < 5
      · have hlt' : (m : Int) ≤ 4 := by omega
        have HA := hid (HAL.out m (by omega) wr)
        have hcl := HCL.out m hm
        have hal := allR_24 (n := m) (by omega)
        have HCM := hid (HCS.out m)
        obtain ⟨p5, q5, rfl, _, _⟩ := hps.shape
        obtain ⟨us5, ho5, _⟩ := id hps
        have HPS := hid hps; clear hps
        have HOS := hid hos; clear hos
        generalize allR m = S at *
        generalize hT : allC m = T at *
        clear hT
        have KW := hid kw; clear kw
        go_wp2_with fail
        refine HA.out.mono ?_; rintro e w4 ⟨v4, rfl, hv4, k4⟩
        obtain ⟨p4, q4, us, rfl, hr4, hat4⟩ := hv4.parts
        have hr5 := hr4.mono KW.out.size
        have hs4 := (KW.out.trans k4).size
        have ho6 := own_keeps ho5 k4
        go_wp2_with (at_builtin; refine appPs rfl _ _ rfl w3.heap.size _ T rfl wr HPS.out k4 us S hr5 hs4 _ _ rfl hat4 (by omega) ?_; intro v6 w6 hv6 hg6 hr6)
        go_roundw
        case rel => exact ⟨m + 1, by omega, by go_num, by rw [HCM.out]; exact hv6, own_touch (HOS.out.keeps k4) (Touch.grown hg6) (fun i hi e => type_ne ho6 (HOS.out.keeps k4) (by decide) e.symm hi), (KW.out.trans k4).grown hg6 hr6⟩
        case measure => simp [intOf]; omega
      · have e : m = 5 := by omega
        subst e
        have hlt' : ¬ (((5 : Nat) : Int)) ≤ 4 := by omega
        have hcl := HCL.out 5 (by omega)
        have HPO := hid (fun p (h : p ∈ allC 5) => allC_mem h)
        have HBA := hid (fun k1 k2 (h1 : k1 < 9) (h2 : k2 < 9) => bel_all h1 h2)
        generalize allC 5 = C at *
        generalize hwo : wr = wo at *
        clear hwo
        obtain ⟨p5, q5, rfl, _, hmx5⟩ := hps.shape
        unfold maxLen at hmx5
        have HPS := hid hps; clear hps
        have HOS := hid hos; clear hos
        have KW := hid kw; clear kw
        have HLW := hid (HL3.out.keeps KW.out)
        go_wp2_with fail
        go_loopw [6, 8] (fun s6 s8 wx => ∃ i : Nat, i ≤ L.length ∧ s8 = .int .i64 i ∧ OwnS wx w3.heap.size s6 ((L.take i).filter fun x => !(L.any (aboQ x))) ∧ OwnPs wx w3.heap.size (.slice p5 C.length q5) C ∧ Keeps w3 wx) (fun _ s8 _ => L.length - (intOf s8).toNat)
        case atStart => exact ⟨0, by omega, rfl, by simpa using HOS.out, HPS.out, KW.out⟩
        case round =>
          obtain ⟨i, hi, rfl, hown, hps, kx⟩ := hrel
          clear HOS HPS
          by_cases hil : i < L.length
          · have hil' : (i : Int) < L.length := by omega
            obtain ⟨k1, hk1, hx1⟩ := HMEM.out L[i] (List.getElem_mem hil)
            have hTK : (L.take (i + 1)).filter (fun x => !(L.any (aboQ x))) = (L.take i).filter (fun x => !(L.any (aboQ x))) ++ (if L.any (aboQ L[i]) then [] else [L[i]]) := by
              rw [List.take_succ_eq_append_getElem hil, List.filter_append]
              congr 1
              cases hq : L.any (aboQ L[i]) <;> simp [hq]
            have HTK := hid hTK; clear hTK
            have hfl : ((L.take i).filter (fun x => !(L.any (aboQ x)))).length ≤ i := Nat.le_trans (List.length_filter_le _ _) (by rw [List.length_take]; omega)
            obtain ⟨b3, o3, e3, hcx⟩ := (HL3.out.keeps kx).get i hil
            subst e3
            have HAB := hid (fun (j : Nat) (hj : j < L.length) => show ∃ k2, k2 < 9 ∧ L[j] = nameK k2 ∧ aboQ L[i] L[j] = (belB k1 k2 && !belB k2 k1) by
              obtain ⟨k2, hk2, hx2⟩ := HMEM.out L[j] (List.getElem_mem hj)
              refine ⟨k2, hk2, hx2, ?_⟩
              unfold aboQ
              rw [hx1, hx2, ixN_at hk1, ixN_at hk2])
            have HO1 := hid (fun p (hp : Pos p) v wz (hv : Ints wz v (zs p)) => l30Of_any p hp k1 hk1 v wz hv)
            rw [← hx1] at HO1
            have HANY : Hid (∀ j (h : j < L.length), (L.take (j + 1)).any (aboQ L[i]) = ((L.take j).any (aboQ L[i]) || aboQ L[i] L[j])) := hid fun j h => by
              rw [List.take_succ_eq_append_getElem h, List.any_append]; simp
            have HAE : Hid ((L.take L.length).any (aboQ L[i]) = L.any (aboQ L[i])) := hid (by rw [List.take_length])
            have HAT : Hid (∀ j, (L.take j).any (aboQ L[i]) = true → L.any (aboQ L[i]) = true) := hid fun j h => by
              rw [List.any_eq_true] at h ⊢
              obtain ⟨y, hy, h2⟩ := h
              exact ⟨y, List.mem_of_mem_take hy, h2⟩
            have HOWN := hid hown; clear hown
            have HPS := hid hps; clear hps
            have HKX := hid kx; clear kx
            clear hx1
            generalize hT : (L.take i).filter (fun x => !(L.any (aboQ x))) = T at *
            clear hT
            obtain ⟨p6, q6, e6, -, -, -⟩ := At.of_own HOWN.out
            subst e6
            generalize hwi : wr = wi at *
            clear hwi
            go_wp2_with fail
            go_loopw [9, 10] (fun s9 s10 wx => ∃ k : Nat, ∃ bb : Bool, k ≤ L.length ∧ s9 = .bool bb ∧ s10 = .int .i64 k ∧ Hid (bb = !((L.take k).any (aboQ L[i]))) ∧ Keeps wi wx) (fun _ s10 _ => L.length - (intOf s10).toNat)
            case atStart => exact ⟨0, true, by omega, rfl, rfl, hid (by simp), Keeps.refl wi⟩
            case round =>
              obtain ⟨k, bb, hk, rfl, rfl, HBB, ky⟩ := hrel
              cases bb
              · have HF : Hid (L.any (aboQ L[i]) = true) := hid (HAT.out k (by have := HBB.out; simpa using this.symm))
                have HT2 : Hid ((L.take (i + 1)).filter (fun x => !(L.any (aboQ x))) = T) := hid (by rw [HTK.out, if_pos HF.out, List.append_nil])
                clear HTK hcx
                go_wp2_with fail
                go_roundw
                case rel => exact ⟨i + 1, by omega, by go_num, by rw [HT2.out]; exact HOWN.out.keeps ky, HPS.out.keeps ky, HKX.out.trans ky⟩
                case measure => simp [intOf]; omega
              · by_cases hkl : k < L.length
                · have hkl' : (k : Int) < L.length := by omega
                  obtain ⟨k2, hk2, hx2, hab⟩ := HAB.out k hkl
                  obtain ⟨b4, o4, e4, hcy⟩ := (HL3.out.keeps (HKX.out.trans ky)).get k hkl
                  cases e4
                  have HO2 := hid (fun p (hp : Pos p) v wz (hv : Ints wz v (zs p)) => l30Of_any p hp k2 hk2 v wz hv)
                  rw [← hx2] at HO2
                  have HAK := hid (HANY.out k hkl)
                  have HB1 := hid (HBA.out k1 k2 hk1 hk2)
                  have HB2 := hid (HBA.out k2 k1 hk2 hk1)
                  have HABK := hid hab
                  have hcx2 := ky.cell hcx
                  clear hab hx2 hcx
                  have HPY := hid (HPS.out.keeps ky)
                  have HKY := hid ky; clear ky
                  generalize hsi : L[i] = s1 at *
                  generalize hsk : L[k] = s2 at *
                  clear hsi hsk
                  generalize hwk : wr = wk at *
                  clear hwk
                  go_wp2_with fail
                  go_loopw [11, 12, 13] (fun s11 s12 s13 wx => ∃ j : Nat, ∃ bl ab : Bool, j ≤ C.length ∧ s11 = .bool bl ∧ s12 = .bool ab ∧ s13 = .int .i64 j ∧ Hid (bl = (C.take j).all (belQ k1 k2)) ∧ Hid (ab = (C.take j).all (belQ k2 k1)) ∧ Keeps wk wx) (fun _ _ s13 _ => C.length - (intOf s13).toNat)
                  case atStart => exact ⟨0, true, true, by omega, rfl, rfl, rfl, hid (by simp), hid (by simp), Keeps.refl wk⟩
                  case round =>
                    obtain ⟨j, bl, ab, hj, rfl, rfl, rfl, HBL, HABL, kz⟩ := hrel
                    by_cases hjl : j < C.length
                    · have hjl' : (j : Int) < C.length := by omega
                      obtain ⟨b5, o5, u, e5, g0, g1, hou⟩ := (HPY.out.keeps kz).get j hjl
                      subst e5
                      have hpx := HPO.out C[j] (List.getElem_mem hjl)
                      have hin := hou.ints (by rw [zs_length]; have := hpx.1; omega)
                      have H1 := hid (fun wz (kz : Keeps wr wz) => HO1.out C[j] hpx u wz (hin.keeps kz))
                      have H2 := hid (fun wz (kz : Keeps wr wz) => HO2.out C[j] hpx u wz (hin.keeps kz))
                      have HT1 : Hid ((C.take (j + 1)).all (belQ k1 k2) = ((C.take j).all (belQ k1 k2) && !(ofK C[j] k2 && !ofK C[j] k1))) := hid (by rw [List.take_succ_eq_append_getElem hjl, List.all_append]; simp [belQ])
                      have HT2 : Hid ((C.take (j + 1)).all (belQ k2 k1) = ((C.take j).all (belQ k2 k1) && !(ofK C[j] k1 && !ofK C[j] k2))) := hid (by rw [List.take_succ_eq_append_getElem hjl, List.all_append]; simp [belQ])
                      obtain ⟨pu, qu, e, _⟩ := hin
                      rw [zs_length] at e
                      subst e
                      have h1 := kz.cell hcx2
                      have h2 := kz.cell hcy
                      have kd := (Keeps.refl wr).drew
                      have d0 := kd.cell g0
                      have d1 := kd.cell g1
                      have d2 := kd.cell h1
                      have d3 := kd.cell h2
                      have HKZ := hid kz
                      clear hpx hou kz g0 g1 h1 h2
                      generalize ofK C[j] k1 = r1 at *
                      generalize ofK C[j] k2 = r2 at *
                      generalize C[j].length = lx at *
                      go_upto_region 19 with fail
                      go_region_held3 (fun w' => w'.cell? ⟨b5, o5 + j * 2, none⟩ = some (.int .i64 (lx : Nat)) ∧ w'.cell? ⟨b5, o5 + j * 2 + 1, none⟩ = some (.slice pu lx qu) ∧ w'.cell? ⟨b3, o3 + i, none⟩ = some (.string s1) ∧ w'.cell? ⟨b3, o3 + k, none⟩ = some (.string s2)) (first | exact ⟨d0, d1, d2, d3⟩ | exact ⟨y0, y1, y2, y3⟩ | exact ⟨x0, x1, x2, x3⟩) (first | (go_at_call 44; (with_reducible refine (H1.out _ kd).mono ?_); rintro e w5 ⟨rfl, k5⟩; have y0 := k5.cell d0; have y1 := k5.cell d1; have y2 := k5.cell d2; have y3 := k5.cell d3) | (go_at_call 44; (with_reducible refine (H2.out _ (kd.trans k5)).mono ?_); rintro e w6 ⟨rfl, k6⟩; have x0 := k6.cell y0; have x1 := k6.cell y1; have x2 := k6.cell y2; have x3 := k6.cell y3))
                      have kf := HKZ.out.trans ((kd.trans k5).trans k6)
                      have KF := hid kf
                      clear kf d0 d1 d2 d3 y0 y1 y2 y3 kd k5 k6 x0 x1 x2 x3 hcx2 hcy H1 H2
                      cases bl <;> cases ab <;> cases r1 <;> cases r2
                      all_goals
                        go_wp2_with fail
                        go_roundw
                        case rel => exact ⟨j + 1, _, _, by omega, rfl, rfl, by go_num, hid (by rw [HT1.out, ← HBL.out]; rfl), hid (by rw [HT2.out, ← HABL.out]; rfl), KF.out⟩
                        case measure => simp [intOf]; omega
                    · have e : j = C.length := by omega
                      subst e
                      have hjl' : ¬ (C.length : Int) < C.length := by omega
                      rw [List.take_length, HB1.out] at HBL
                      rw [List.take_length, HB2.out] at HABL
                      rw [← HBL.out, ← HABL.out] at HABK
                      clear HBL HABL HB1 HB2
                      cases bl <;> cases ab
                      all_goals
                        go_wp2_with fail
                        go_roundw
                        case rel => exact ⟨k + 1, _, by omega, rfl, by go_num, hid (by rw [HAK.out, HABK.out]; have hq := HBB.out; revert hq; cases (L.take k).any (aboQ s1) <;> simp), HKY.out.trans kz⟩
                        case measure => simp [intOf]; omega
                · have e : k = L.length := by omega
                  subst e
                  have hkl' : ¬ (L.length : Int) < L.length := by omega
                  rw [HAE.out] at HBB
                  have HF : Hid (L.any (aboQ L[i]) = false) := hid (by have := HBB.out; simpa using this.symm)
                  have HT2 : Hid ((L.take (i + 1)).filter (fun x => !(L.any (aboQ x))) = T ++ [L[i]]) := hid (by rw [HTK.out, if_neg (by rw [HF.out]; simp)])
                  have hcx2 := ky.cell hcx
                  clear HTK hcx
                  generalize L[i] = x at *
                  have k5 := (Keeps.refl wr).alloc (.cells #[.string x] 9)
                  have hs5 := ((HKX.out.trans ky).trans k5).size
                  have ho6 := own_keeps HOWN.out (ky.trans k5)
                  have hp6 := HPS.out.keeps (ky.trans k5)
                  have KK := hid (HKX.out.trans (ky.trans k5))
                  go_wp2_with (at_builtin; refine appS rfl _ _ rfl w3.heap.size _ T rfl (HOWN.out.keeps (ky.trans k5)) _ [x] rfl (Strs.lit1 wr x) hs5 (by simp; omega) ?_; intro v6 w6 hv6 hg6 hr6)
                  go_roundw
                  case rel => exact ⟨i + 1, by omega, by go_num, by rw [HT2.out]; exact hv6, hp6.offS ho6 hg6, KK.out.grown hg6 hr6⟩
                  case measure => simp [intOf]; omega
          · have e : i = L.length := by omega
            have hil' : ¬ (i : Int) < L.length := by omega
            rw [e, List.take_length, ← HST.out] at hown
            go_wp2_with fail
            go_ret2
            exact ⟨_, rfl, hown.mono HK3.out.size, HK3.out.trans kx⟩
end Go.Proofs.YtponaoefpicfpaaGreatDoor
